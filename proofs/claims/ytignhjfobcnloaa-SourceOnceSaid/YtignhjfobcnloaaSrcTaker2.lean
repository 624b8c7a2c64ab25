/- The taker's method add. -/
import Derived.Test.YtignhjfobcnloaaSrcTaker
import Derived.Test.YtignhjfobcnloaaHandsKit
namespace Go.Proofs.Ytignhjfobcnloaa
open Go.RowKit
theorem words_cons {l : List WordD} {y : WordD} : (l ++ [y]).flatMap wordCells = l.flatMap wordCells ++ wordCells y := by simp
theorem coms_cons {l : List ComF} {y : ComF} : (l ++ [y]).flatMap comfCells = l.flatMap comfCells ++ comfCells y := by simp
/-- the depth stored -/
theorem tak_depth {B : Nat} {W : World} {T M : Nat} {fm vf vw vc : Value} {x : RdS} (h : TakAt B W T M fm x vf vw vc) (d : Int) : TakAt B (W.setCell ⟨T, 5, none⟩ (.int .i64 d)) T M fm { x with depth := d } vf vw vc ∧ KpT B T W (W.setCell ⟨T, 5, none⟩ (.int .i64 d)) :=
  ⟨⟨h.row.set 5 _, h.fo.kept (grown_set _ _ _ _) (.inr fun e => own_far h.fo h.row (by decide) e), h.wo.kept (grown_set _ _ _ _) (.inr fun e => own_far h.wo h.row (by decide) e), h.co.kept (grown_set _ _ _ _) (.inr fun e => own_far h.co h.row (by decide) e),
    h.set.kept (grown_set _ _ _ _) (by simp; exact setM_row h.set h.row), h.lo, h.lm⟩, KpT.store h.row h.lo (by simp [Value.ownBlock])⟩
/-- a word appended -/
theorem tak_word {B : Nat} {W W1 w1 : World} {T M : Nat} {fm vf vw vc : Value} {x : RdS} {y : WordD} {g cap : Nat} (h : TakAt B W T M fm x vf vw vc) (hb : Below W.heap.size W W1) (hgrow : W1.grownBy w1 vw.ownBlock)
    (hown : w1.ownsRow B 95 3 (.slice (some ⟨g, 0, none⟩) (x.words.length + 1) cap) (x.words.length + 1) (x.words.flatMap wordCells ++ wordCells y)) (hat : vw.ownBlock = some g ∨ g = W1.heap.size) :
    TakAt B (w1.setCell ⟨T, 3, none⟩ (.slice (some ⟨g, 0, none⟩) (x.words.length + 1) cap)) T M fm { x with words := x.words ++ [y] } vf (.slice (some ⟨g, 0, none⟩) (x.words.length + 1) cap) vc ∧ KpT B T W (w1.setCell ⟨T, 3, none⟩ (.slice (some ⟨g, 0, none⟩) (x.words.length + 1) cap)) := by
  have P := tak_put (i := 3) (u := .slice (some ⟨g, 0, none⟩) (x.words.length + 1) cap) h hb h.wo (by decide) (by simp) hgrow (fun k hk => by
    obtain rfl : g = k := by simpa [Value.ownBlock] using hk
    exact hat) (by simp)
  exact ⟨⟨P.row, P.others _ _ _ _ _ h.fo (by decide) (by decide), by rw [words_cons, List.length_append]; exact P.own _ _ _ hown, P.others _ _ _ _ _ h.co (by decide) (by decide), P.set, h.lo, h.lm⟩, P.kp⟩
theorem tak_com {B : Nat} {W W1 w1 : World} {T M : Nat} {fm vf vw vc : Value} {x : RdS} {y : ComF} {g cap : Nat} (h : TakAt B W T M fm x vf vw vc) (hb : Below W.heap.size W W1) (hgrow : W1.grownBy w1 vc.ownBlock)
    (hown : w1.ownsRow B 91 4 (.slice (some ⟨g, 0, none⟩) (x.coms.length + 1) cap) (x.coms.length + 1) (x.coms.flatMap comfCells ++ comfCells y)) (hat : vc.ownBlock = some g ∨ g = W1.heap.size) :
    TakAt B (w1.setCell ⟨T, 4, none⟩ (.slice (some ⟨g, 0, none⟩) (x.coms.length + 1) cap)) T M fm { x with coms := x.coms ++ [y] } vf vw (.slice (some ⟨g, 0, none⟩) (x.coms.length + 1) cap) ∧ KpT B T W (w1.setCell ⟨T, 4, none⟩ (.slice (some ⟨g, 0, none⟩) (x.coms.length + 1) cap)) := by
  have P := tak_put (i := 4) (u := .slice (some ⟨g, 0, none⟩) (x.coms.length + 1) cap) h hb h.co (by decide) (by simp) hgrow (fun k hk => by
    obtain rfl : g = k := by simpa [Value.ownBlock] using hk
    exact hat) (by simp)
  exact ⟨⟨P.row, P.others _ _ _ _ _ h.fo (by decide) (by decide), P.others _ _ _ _ _ h.wo (by decide) (by decide), by rw [coms_cons, List.length_append]; exact P.own _ _ _ hown, P.set, h.lo, h.lm⟩, P.kp⟩
/-- a file's name appended (the set of names is written apart) -/
theorem tak_file {B : Nat} {W W1 w1 : World} {T M : Nat} {fm vf vw vc : Value} {x : RdS} {y : List UInt8} {g cap : Nat} (h : TakAt B W T M fm x vf vw vc) (hb : Below W.heap.size W W1) (hgrow : W1.grownBy w1 vf.ownBlock)
    (hown : w1.ownsRow B 9 1 (.slice (some ⟨g, 0, none⟩) (x.files.length + 1) cap) (x.files.length + 1) (x.files.map strV ++ [strV y])) (hat : vf.ownBlock = some g ∨ g = W1.heap.size) (hset : SetM W1 M (x.files ++ [y])) :
    TakAt B (w1.setCell ⟨T, 2, none⟩ (.slice (some ⟨g, 0, none⟩) (x.files.length + 1) cap)) T M fm { x with files := x.files ++ [y] } (.slice (some ⟨g, 0, none⟩) (x.files.length + 1) cap) vw vc ∧ KpT B T W (w1.setCell ⟨T, 2, none⟩ (.slice (some ⟨g, 0, none⟩) (x.files.length + 1) cap)) := by
  have P := tak_put (i := 2) (u := .slice (some ⟨g, 0, none⟩) (x.files.length + 1) cap) h hb h.fo (by decide) (by simp) hgrow (fun k hk => by
    obtain rfl : g = k := by simpa [Value.ownBlock] using hk
    exact hat) (by simp)
  have hfar := setM_far hset (own_below h.fo hb)
  have hr := (h.below hb).row.grown hgrow (fun e => own_far (own_below h.fo hb) (h.below hb).row (by decide) e.symm)
  exact ⟨⟨P.row, by rw [List.map_append, List.length_append]; exact P.own _ _ _ hown, P.others _ _ _ _ _ h.wo (by decide) (by decide), P.others _ _ _ _ _ h.co (by decide) (by decide), (hset.kept hgrow hfar).kept (grown_set _ _ _ _) (by simp; exact setM_row (hset.kept hgrow hfar) hr), h.lo, h.lm⟩, P.kp⟩
set_option maxRecDepth 100000 in
set_option maxHeartbeats 4000000 in
theorem add_any (w : World) (B T M : Nat) (fm vf vw vc : Value) (x : RdS) (file : Nat) (t : TokD) (h : TakAt B w T M fm x vf vw vc) (hN : x.words.length < 8000) (hd : -8000 ≤ x.depth ∧ x.depth ≤ 8000) :
    Calls Try.prog 94 #[.pointer (some ⟨T, 0, none⟩), .int .i64 file, .agg #[.string ⟨t.1.toArray⟩, .int .i64 t.2]] w fun e w' => e = .returned (.tuple #[]) ∧ ∃ vw', TakAt B w' T M fm (addW x file t) vf vw' vc ∧ KpT B T w w' := by
  obtain ⟨t, a⟩ := t
  have H0 := Lib.hid h
  obtain ⟨wA, wc, rfl, hwc⟩ := own_form h.wo
  obtain ⟨d1, d2⟩ := hd
  obtain ⟨i0, hi, hj0, hj1, hj2⟩ := info_parts infoWord
  have hlt := h.row.lt
  have hlo := h.lo
  have c3 := h.row.cell (i := 3) (v := .slice wA x.words.length wc) rfl
  have c5 := h.row.cell (i := 5) (v := .int .i64 x.depth) rfl
  have f5 := h.row.free 5
  have f3 := h.row.free 3
  clear h
  have body : ∀ (c : Int) (_ : c = depthW t) (w9 : World) (_ : TakAt B w9 T M fm { x with depth := x.depth + c } vf (.slice wA x.words.length wc) vc) (_ : KpT B T w w9) (g cap : Nat) (wz : World)
      (_ : (w9.alloc (.cells (wordCells (t, (file : Int), (a : Int))).toArray 95)).grownBy wz (Value.slice wA x.words.length wc).ownBlock)
      (_ : wz.ownsRow B 95 3 (.slice (some ⟨g, 0, none⟩) (x.words.length + 1) cap) (x.words.length + 1) (x.words.flatMap wordCells ++ wordCells (t, (file : Int), (a : Int)))) (_ : (Value.slice wA x.words.length wc).ownBlock = some g ∨ g = (w9.alloc (.cells (wordCells (t, (file : Int), (a : Int))).toArray 95)).heap.size),
      ∃ vw', TakAt B (wz.setCell ⟨T, 3, none⟩ (.slice (some ⟨g, 0, none⟩) (x.words.length + 1) cap)) T M fm (addW x file (t, a)) vf vw' vc ∧ KpT B T w (wz.setCell ⟨T, 3, none⟩ (.slice (some ⟨g, 0, none⟩) (x.words.length + 1) cap)) := fun c hc w9 h9 hk g cap wz hgrow hown hat => by
    obtain ⟨q1, q2⟩ := tak_word (y := (t, (file : Int), (a : Int))) h9 (new_ (Below.refl _ _) _) hgrow hown hat
    subst hc
    exact ⟨_, q1, hk.trans q2⟩
  have BODY := Lib.hid body
  clear body
  by_cases h1 : t = [36, 123]
  · skip
    have HD : Hid (1 = depthW t) := Lib.hid (by unfold depthW; rw [if_pos h1])
    have e1 : (t == [36, 123]) = true := by simpa using h1
    clear h1
    have HN := Lib.hid (new_ (Below.refl w.heap.size w) (.cells #[.string ⟨t.toArray⟩, .int .i64 (a : Int)] 86))
    obtain ⟨W2, hW2⟩ : ∃ W2, W2 = (w.setCell ⟨T, 5, none⟩ (.int .i64 (x.depth + 1))).alloc (.cells #[.string ⟨t.toArray⟩, .int .i64 (a : Int)] 86) := ⟨_, rfl⟩
    have HT2 := Lib.hid (show TakAt B W2 T M fm { x with depth := x.depth + 1 } vf (.slice wA x.words.length wc) vc by rw [hW2]; exact (tak_depth H0.out _).1.below (new_ (Below.refl _ _) _))
    have HK2 := Lib.hid (show KpT B T w W2 by rw [hW2]; exact (tak_depth H0.out _).2.trans (KpT.of_below (new_ (Below.refl _ _) _) (by simp [World.setCell]; omega)))
    have hr2 : Row W2 w.heap.size 86 #[.string ⟨t.toArray⟩, .int .i64 (a : Int)] := by rw [hW2]; exact Row.new' _ _ _ (by simp [World.setCell])
    have b0 := hr2.cell (i := 0) (v := .string ⟨t.toArray⟩) rfl
    have b1 := hr2.cell (i := 1) (v := .int .i64 (a : Int)) rfl
    have k3 := HT2.out.row.cell (i := 3) (v := .slice wA x.words.length wc) rfl
    have k4 := HT2.out.row.free 3
    have hz2 : W2.heap.size = w.heap.size + 1 := by rw [hW2]; simp [World.setCell]
    have HW2 := Lib.hid hW2
    have hb2 : w.heap.size < W2.heap.size := by omega
    have hTW2 : T < W2.heap.size := by omega
    clear hr2 hW2
    go_enter Try.func94, Try.ntmps94
    go_wp2
    rw [← HW2.out]
    go_region_law (refine step_append_lies _ rfl (.tmp 31) (.tmp 39) 51 rfl B 95 i0 (.agg #[.string ⟨#[]⟩, .int .i64 0, .int .i64 0]) 3 32 Try.underlying51 hi hj0 hj1 hj2 rfl (by decide) (.slice wA x.words.length wc) x.words.length (x.words.flatMap wordCells) (by simp [Act.eval]) ((own_below HT2.out.wo (Below.refl _ _).drew).alloc _) ⟨W2.heap.size, 0, none⟩ 1 1 (wordCells (t, (file : Int), (a : Int))) (by simp [Act.eval]) rfl (cells_of' _ _ _ _ rfl (by simp)) (by simp [wordCells, Value.oneCell']) (by decide) (by unfold maxLen; omega) (by omega) (by simp; omega) _ rfl ?_; intro g cap wz hown' hgrow hat hlz; have hrz := Row.grown (by first | exact (HT2.out.row.drew).alloc _ | exact (HT2.out.row.alloc _).drew) hgrow (fun e => own_far HT2.out.wo HT2.out.row (by decide) e.symm); have z3 := hrz.cell (i := 3) (v := .slice wA x.words.length wc) rfl; have z4 := hrz.free 3; clear hrz)
    all_goals
      go_wp2
      go_end0
      exact ⟨rfl, BODY.out 1 HD.out W2.drew (HT2.out.below (Below.refl _ _).drew) (HK2.out.trans (KpT.of_below (Below.refl _ _).drew (by have := HT2.out.lo; omega))) g cap wz hgrow hown' hat⟩
  · have e1 : (t == [36, 123]) = false := by simpa using h1
    by_cases h2 : t = [36, 125]
    · skip
      have HD : Hid (-1 = depthW t) := Lib.hid (by unfold depthW; rw [if_neg h1, if_pos h2])
      have e2 : (t == [36, 125]) = true := by simpa using h2
      clear h1 h2
      have HN := Lib.hid (new_ (Below.refl w.heap.size w) (.cells #[.string ⟨t.toArray⟩, .int .i64 (a : Int)] 86))
      obtain ⟨W2, hW2⟩ : ∃ W2, W2 = (w.setCell ⟨T, 5, none⟩ (.int .i64 (x.depth - 1))).alloc (.cells #[.string ⟨t.toArray⟩, .int .i64 (a : Int)] 86) := ⟨_, rfl⟩
      have HT2 := Lib.hid (show TakAt B W2 T M fm { x with depth := x.depth + -1 } vf (.slice wA x.words.length wc) vc by rw [hW2]; exact (tak_depth H0.out _).1.below (new_ (Below.refl _ _) _))
      have HK2 := Lib.hid (show KpT B T w W2 by rw [hW2]; exact (tak_depth H0.out _).2.trans (KpT.of_below (new_ (Below.refl _ _) _) (by simp [World.setCell]; omega)))
      have hr2 : Row W2 w.heap.size 86 #[.string ⟨t.toArray⟩, .int .i64 (a : Int)] := by rw [hW2]; exact Row.new' _ _ _ (by simp [World.setCell])
      have b0 := hr2.cell (i := 0) (v := .string ⟨t.toArray⟩) rfl
      have b1 := hr2.cell (i := 1) (v := .int .i64 (a : Int)) rfl
      have k3 := HT2.out.row.cell (i := 3) (v := .slice wA x.words.length wc) rfl
      have k4 := HT2.out.row.free 3
      have hz2 : W2.heap.size = w.heap.size + 1 := by rw [hW2]; simp [World.setCell]
      have HW2 := Lib.hid hW2
      have hb2 : w.heap.size < W2.heap.size := by omega
      have hTW2 : T < W2.heap.size := by omega
      clear hr2 hW2
      go_enter Try.func94, Try.ntmps94
      go_wp2
      rw [← HW2.out]
      go_region_law (refine step_append_lies _ rfl (.tmp 31) (.tmp 39) 51 rfl B 95 i0 (.agg #[.string ⟨#[]⟩, .int .i64 0, .int .i64 0]) 3 32 Try.underlying51 hi hj0 hj1 hj2 rfl (by decide) (.slice wA x.words.length wc) x.words.length (x.words.flatMap wordCells) (by simp [Act.eval]) ((own_below HT2.out.wo (Below.refl _ _).drew).alloc _) ⟨W2.heap.size, 0, none⟩ 1 1 (wordCells (t, (file : Int), (a : Int))) (by simp [Act.eval]) rfl (cells_of' _ _ _ _ rfl (by simp)) (by simp [wordCells, Value.oneCell']) (by decide) (by unfold maxLen; omega) (by omega) (by simp; omega) _ rfl ?_; intro g cap wz hown' hgrow hat hlz; have hrz := Row.grown (by first | exact (HT2.out.row.drew).alloc _ | exact (HT2.out.row.alloc _).drew) hgrow (fun e => own_far HT2.out.wo HT2.out.row (by decide) e.symm); have z3 := hrz.cell (i := 3) (v := .slice wA x.words.length wc) rfl; have z4 := hrz.free 3; clear hrz)
      all_goals
        go_wp2
        go_end0
        exact ⟨rfl, BODY.out (-1) HD.out W2.drew (HT2.out.below (Below.refl _ _).drew) (HK2.out.trans (KpT.of_below (Below.refl _ _).drew (by have := HT2.out.lo; omega))) g cap wz hgrow hown' hat⟩
    · have e2 : (t == [36, 125]) = false := by simpa using h2
      have HD : Hid ((0 : Int) = depthW t) := Lib.hid (by unfold depthW; rw [if_neg h1, if_neg h2])
      clear h1 h2
      have HN := Lib.hid (new_ (Below.refl w.heap.size w) (.cells #[.string ⟨t.toArray⟩, .int .i64 (a : Int)] 86))
      go_enter Try.func94, Try.ntmps94
      go_wp2
      go_region_law (refine step_append_lies _ rfl (.tmp 31) (.tmp 39) 51 rfl B 95 i0 (.agg #[.string ⟨#[]⟩, .int .i64 0, .int .i64 0]) 3 32 Try.underlying51 hi hj0 hj1 hj2 rfl (by decide) (.slice wA x.words.length wc) x.words.length (x.words.flatMap wordCells) (by simp [Act.eval]) ((own_below H0.out.wo HN.out.drew).alloc _) ⟨w.heap.size + 1, 0, none⟩ 1 1 (wordCells (t, (file : Int), (a : Int))) (by simp [Act.eval]) rfl (cells_of' _ _ _ _ rfl (by simp)) (by simp [wordCells, Value.oneCell']) (by decide) (by unfold maxLen; omega) (by omega) (by simp; omega) _ rfl ?_; intro g cap wz hown' hgrow hat hlz; have hrz := Row.grown (by first | exact ((H0.out.row.alloc _).drew).alloc _ | exact ((H0.out.row.alloc _).alloc _).drew) hgrow (fun e => own_far H0.out.wo H0.out.row (by decide) e.symm); have z3 := hrz.cell (i := 3) (v := .slice wA x.words.length wc) rfl; have z4 := hrz.free 3; clear hrz)
      all_goals
        go_wp2
        go_end0
        exact ⟨rfl, BODY.out 0 HD.out ((w.alloc (.cells #[.string ⟨t.toArray⟩, .int .i64 (a : Int)] 86)).drew) (by simpa using H0.out.below HN.out.drew) (KpT.of_below HN.out.drew (Nat.le_trans hlo (Nat.le_of_lt hlt))) g cap wz hgrow hown' hat⟩
end Go.Proofs.Ytignhjfobcnloaa
