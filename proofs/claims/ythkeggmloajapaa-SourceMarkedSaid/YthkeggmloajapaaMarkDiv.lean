/- The divider of marks: its memory, and its methods flush and mark. -/
import Derived.Test.YthkeggmloajapaaMarkPlain3
import Derived.Test.YthkeggmloajapaaStripA
import Derived.Test.YthkeggmloajapaaKitA
import Derived.Test.YthkeggmloajapaaBldA
import Derived.Deep.RegionLaw
import Derived.Deep.AppendLies
namespace Go.Proofs.Ythkeggmloajapaa
open Go.RowKit
def markC (l : List MarkD) : List Value := l.flatMap fun m => [.int .i64 m.1, .string ⟨m.2.toArray⟩]
theorem markC_len (l : List MarkD) : (markC l).length = l.length * 2 := by
  induction l with
  | nil => rfl
  | cons m l ih => simp [markC] at ih ⊢; omega
theorem markC_snoc (l : List MarkD) (m : MarkD) : markC (l ++ [m]) = markC l ++ [.int .i64 m.1, .string ⟨m.2.toArray⟩] := by simp [markC]
theorem infoMark : (Try.prog.info? 24).map (fun i => (i.zero, i.size, i.bytes)) = some (some (.agg #[.int .i64 0, .string ⟨#[]⟩]), 2, 24) := by kernel_rfl
theorem infoByte : (Try.prog.info? 5).map (fun i => (i.zero, i.size, i.bytes)) = some (some (.int .u8 0), 1, 1) := by kernel_rfl
/-- what Marks has read: the plain text that waits is the last mark -/
def flatM (pl : List UInt8) (ms : List MarkD) : List MarkD := if pl = [] then ms else ms ++ [(1, pl)]
/-- the divider in block g -/
structure DivR (w : World) (g : Nat) (text : List UInt8) (i : Int) (pl : List UInt8) (ms : List MarkD) (pv mv : Value) : Prop where
  row : Row w g 48 #[.string ⟨text.toArray⟩, .int .i64 i, pv, mv]
  po : w.ownsRow g 5 1 pv pl.length (Lib.byteCells pl)
  mo : w.ownsRow g 24 2 mv ms.length (markC ms)
section
variable {w w1 w2 : World} {g : Nat} {text pl : List UInt8} {i : Int} {ms : List MarkD} {pv mv : Value}
theorem set_grown (W : World) (T i : Nat) (u : Value) : W.grownBy (W.setCell ⟨T, i, none⟩ u) (some T) :=
  ⟨rfl, rfl, rfl, by simp [World.setCell], fun k _ he => Below.heap_setCell _ _ _ _ (by dsimp only; exact fun e => he (by rw [e]))⟩
theorem below_set {B : Nat} (W : World) {T i : Nat} {u : Value} (h : B ≤ T) : Below B W (W.setCell ⟨T, i, none⟩ u) :=
  ⟨rfl, rfl, rfl, by simp [World.setCell], fun k hk => Below.heap_setCell _ _ _ _ (by dsimp only; omega)⟩
theorem DivR.below (h : DivR w g text i pl ms pv mv) (hb : Below w.heap.size w w1) : DivR w1 g text i pl ms pv mv := ⟨h.row.below hb h.row.lt, own_below h.po hb, own_below h.mo hb⟩
theorem DivR.pfar (h : DivR w g text i pl ms pv mv) : pv.ownBlock ≠ some g := own_far h.po h.row (by decide)
theorem DivR.mfar (h : DivR w g text i pl ms pv mv) : mv.ownBlock ≠ some g := own_far h.mo h.row (by decide)
theorem DivR.apart (h : DivR w g text i pl ms pv mv) : mv.ownBlock = none ∨ mv.ownBlock ≠ pv.ownBlock := by
  rcases h.po.2 with ⟨rfl, _⟩ | ⟨k, cap, cur, rfl, _, hh, _⟩
  · cases e : mv.ownBlock with
    | none => exact .inl rfl
    | some k => exact .inr (by simp [Value.ownBlock])
  · exact .inr (by simpa [Value.ownBlock] using own_far h.mo hh (by decide))
theorem DivR.apart' (h : DivR w g text i pl ms pv mv) : pv.ownBlock = none ∨ pv.ownBlock ≠ mv.ownBlock := by
  rcases h.apart with e | e
  · cases e2 : pv.ownBlock with
    | none => exact .inl rfl
    | some k => exact .inr (by rw [e]; simp)
  · exact .inr e.symm
/-- the place is stored -/
theorem DivR.at_ (h : DivR w g text i pl ms pv mv) (j : Int) : DivR (w.setCell ⟨g, 1, none⟩ (.int .i64 j)) g text j pl ms pv mv ∧ Below g w (w.setCell ⟨g, 1, none⟩ (.int .i64 j)) :=
  ⟨⟨h.row.set 1 _, h.po.kept (set_grown _ _ _ _) (.inr h.pfar), h.mo.kept (set_grown _ _ _ _) (.inr h.mfar)⟩, below_set _ (Nat.le_refl _)⟩
/-- the plain text is left -/
theorem DivR.none_ (h : DivR w g text i pl ms pv mv) : DivR (w.setCell ⟨g, 2, none⟩ (.slice none 0 0)) g text i [] ms (.slice none 0 0) mv ∧ Below g w (w.setCell ⟨g, 2, none⟩ (.slice none 0 0)) :=
  ⟨⟨h.row.set 2 _, World.ownsRow_nil _ _ _ _, h.mo.kept (set_grown _ _ _ _) (.inr h.mfar)⟩, below_set _ (Nat.le_refl _)⟩
/-- a byte is appended -/
theorem DivR.byte (h : DivR w g text i pl ms pv mv) (hb : Below w.heap.size w w1) (hg : w1.grownBy w2 pv.ownBlock) {c : UInt8} {b cap : Nat}
    (ho : w2.ownsRow g 5 1 (.slice (some ⟨b, 0, none⟩) (pl.length + 1) cap) (pl.length + 1) (Lib.byteCells pl ++ [.int .u8 c.toNat])) :
    DivR (w2.setCell ⟨g, 2, none⟩ (.slice (some ⟨b, 0, none⟩) (pl.length + 1) cap)) g text i (pl ++ [c]) ms (.slice (some ⟨b, 0, none⟩) (pl.length + 1) cap) mv ∧ Below g w (w2.setCell ⟨g, 2, none⟩ (.slice (some ⟨b, 0, none⟩) (pl.length + 1) cap)) := by
  have h1 := h.below hb
  have hr := h1.row.grown hg (fun e => h1.pfar e.symm)
  have hpf := own_far ho hr (by decide)
  have hm := h1.mo.kept hg h1.apart
  have hlt := h.row.lt
  refine ⟨⟨hr.set 2 _, ?_, hm.kept (set_grown _ _ _ _) (.inr h.mfar)⟩, ?_⟩
  · have := ho.kept (set_grown w2 g 2 (.slice (some ⟨b, 0, none⟩) (pl.length + 1) cap)) (.inr hpf)
    rw [List.length_append]
    simpa [Lib.byteCells] using this
  · exact ((hb.mono (Nat.le_of_lt hlt)).grown hg (by have := hb.size; omega) fun k e => (h1.po.lt k e).1).trans (below_set _ (Nat.le_refl _))
/-- a mark is appended -/
theorem DivR.mark (h : DivR w g text i pl ms pv mv) (hb : Below w.heap.size w w1) (hg : w1.grownBy w2 mv.ownBlock) {m : MarkD} {b cap : Nat}
    (ho : w2.ownsRow g 24 2 (.slice (some ⟨b, 0, none⟩) (ms.length + 1) cap) (ms.length + 1) (markC ms ++ [.int .i64 m.1, .string ⟨m.2.toArray⟩])) :
    DivR (w2.setCell ⟨g, 3, none⟩ (.slice (some ⟨b, 0, none⟩) (ms.length + 1) cap)) g text i pl (ms ++ [m]) pv (.slice (some ⟨b, 0, none⟩) (ms.length + 1) cap) ∧ Below g w (w2.setCell ⟨g, 3, none⟩ (.slice (some ⟨b, 0, none⟩) (ms.length + 1) cap)) := by
  have h1 := h.below hb
  have hr := h1.row.grown hg (fun e => h1.mfar e.symm)
  have hmf := own_far ho hr (by decide)
  have hp := h1.po.kept hg h1.apart'
  have hlt := h.row.lt
  refine ⟨⟨hr.set 3 _, hp.kept (set_grown _ _ _ _) (.inr h.pfar), ?_⟩, ?_⟩
  · have := ho.kept (set_grown w2 g 3 (.slice (some ⟨b, 0, none⟩) (ms.length + 1) cap)) (.inr hmf)
    rw [List.length_append, markC_snoc]
    exact this
  · exact ((hb.mono (Nat.le_of_lt hlt)).grown hg (by have := hb.size; omega) fun k e => (h1.mo.lt k e).1).trans (below_set _ (Nat.le_refl _))
theorem own_some {base n size : Nat} {e : TypeId} {v : Value} {xs : List Value} (h : w.ownsRow base e size v n xs) (hn : 0 < n) : ∃ b cap, v = .slice (some ⟨b, 0, none⟩) n cap := by
  rcases h.2 with ⟨_, h0⟩ | ⟨b, cap, cur, rfl, _⟩
  · omega
  · exact ⟨b, cap, rfl⟩
theorem cellM {w W : World} {a : Addr} {v : Value} (h : w.cell? a = some v) (hb : Below w.heap.size w W) : W.cell? a = some v := by
  refine (hb.cell ?_).trans h
  unfold World.cell? at h
  rcases Nat.lt_or_ge a.block w.heap.size with h1 | h1
  · exact h1
  · rw [Array.getElem?_eq_none h1] at h; simp at h
/-- bytes of one's own, as a string -/
theorem own_str {base : Nat} {v : Value} {l : List UInt8} (h : w.ownsRow base 5 1 v l.length (Lib.byteCells l)) (hn : l ≠ []) : (convert 46 9 v).run Try.prog w = .ok (.string ⟨l.toArray⟩) w := by
  rcases h.2 with ⟨rfl, h0⟩ | ⟨k, cap, cur, rfl, _, _⟩
  · exact absurd (List.eq_nil_of_length_eq_zero h0) hn
  · exact run_str_of_bytes w _ _ 5 _ _ _ l Try.underlying46 Try.underlying5 Try.underlying9 rfl fun j b hb => h.cells rfl j (u8 b) (by simp [Lib.byteCells, hb, u8])
end
set_option maxRecDepth 100000 in
set_option maxHeartbeats 4000000 in
theorem flush_any (w : World) (g : Nat) (text pl : List UInt8) (i : Int) (ms : List MarkD) (pv mv : Value) (h : DivR w g text i pl ms pv mv) (hn : pl.length ≤ 40000) (hm : ms.length ≤ 40000) :
    Calls Try.prog 14 #[.pointer (some ⟨g, 0, none⟩)] w fun e w' => e = .returned (.tuple #[]) ∧ ∃ pv' mv', DivR w' g text i [] (flatM pl ms) pv' mv' ∧ Below g w w' := by
  have H := Lib.hid h
  obtain ⟨pA, pc, rfl, hpc⟩ := own_form h.po
  obtain ⟨mA, mc, rfl, hmc⟩ := own_form h.mo
  have c2 := h.row.cell (i := 2) (v := .slice pA pl.length pc) rfl
  have c3 := h.row.cell (i := 3) (v := .slice mA ms.length mc) rfl
  have f2 := h.row.free 2
  have f3 := h.row.free 3
  have hlt := h.row.lt
  clear h
  by_cases h0 : pl = []
  · subst h0
    have e1 : decide ((0 : Int) < 0) = false := rfl
    go_enter Try.func14, Try.ntmps14
    go_wp2_with fail
    go_end0
    exact ⟨rfl, _, _, H.out, Below.refl _ _⟩
  · have hp := List.length_pos_iff.2 h0
    have e1 : decide ((0 : Int) < (pl.length : Int)) = true := decide_eq_true (by omega)
    have hcv := own_str (H.out.below (Below.refl _ _).drew).po h0
    have HF : Hid (flatM pl ms = ms ++ [(1, pl)]) := Lib.hid (by unfold flatM; rw [if_neg h0])
    obtain ⟨i0, hi, hj0, hj1, hj2⟩ := info_parts infoMark
    clear h0
    go_enter Try.func14, Try.ntmps14
    go_wp2_with fail
    go_region_law (refine step_append_lies _ rfl (.tmp 12) (.tmp 19) 22 rfl g 24 i0 (.agg #[.int .i64 0, .string ⟨#[]⟩]) 2 24 Try.underlying22 hi hj0 hj1 hj2 rfl (by decide) (.slice mA ms.length mc) ms.length (markC ms) (by simp [Act.eval]) ((own_below H.out.mo (Below.refl _ _).drew).alloc _) ⟨w.heap.size, 0, none⟩ 1 1 [.int .i64 1, .string ⟨pl.toArray⟩] (by simp [Act.eval]) rfl (cells_of' _ _ _ _ rfl (by simp)) (by simp [Value.oneCell']) (by decide) (by unfold maxLen; omega) (by omega) (by simp; omega) _ rfl ?_; intro b cap wz hown' hgrow hat hlz; have hrz := Row.grown (by first | exact (H.out.row.drew).alloc _ | exact (H.out.row.alloc _).drew) hgrow (fun e => own_far H.out.mo H.out.row (by decide) e.symm); have z3 := hrz.cell (i := 3) (v := .slice mA ms.length mc) rfl; have z2 := hrz.cell (i := 2) (v := .slice pA pl.length pc) rfl; have z4 := hrz.free 3; have z5 := hrz.free 2; clear hrz)
    all_goals
      go_wp2
      go_end0
      obtain ⟨q1, q2⟩ := H.out.mark (m := (1, pl)) (by first | exact (new_ (Below.refl _ _) _).drew | exact new_ (Below.refl _ _).drew _) hgrow hown'
      obtain ⟨q3, q4⟩ := q1.none_
      exact ⟨rfl, _, _, by rw [HF.out]; exact q3, q2.trans q4⟩
set_option maxRecDepth 100000 in
set_option maxHeartbeats 4000000 in
theorem mark_any (w : World) (g : Nat) (text pl : List UInt8) (i : Int) (ms : List MarkD) (pv mv : Value) (k j : Int) (t : List UInt8) (h : DivR w g text i pl ms pv mv) (hn : pl.length ≤ 40000) (hm : ms.length ≤ 40000) :
    Calls Try.prog 11 #[.pointer (some ⟨g, 0, none⟩), .int .i64 k, .string ⟨t.toArray⟩, .int .i64 j] w fun e w' => e = .returned (.tuple #[]) ∧ ∃ pv' mv', DivR w' g text j [] (flatM pl ms ++ [(k, t)]) pv' mv' ∧ Below g w w' := by
  obtain ⟨i0, hi, hj0, hj1, hj2⟩ := info_parts infoMark
  go_enter Try.func11, Try.ntmps11
  go_wp2_with fail
  refine (flush_any w g text pl i ms pv mv h hn hm).mono ?_
  rintro e w1 ⟨rfl, pv1, mv1, h1, hb1⟩
  have hfl : (flatM pl ms).length ≤ 40001 := by
    unfold flatM
    split
    · omega
    · simp; omega
  obtain ⟨M, hM⟩ : ∃ M, flatM pl ms = M := ⟨_, rfl⟩
  rw [hM] at h1 hfl
  have HM := Lib.hid hM
  have H := Lib.hid h1
  have HB := Lib.hid hb1
  obtain ⟨mA, mc, rfl, hmc⟩ := own_form h1.mo
  have c3 := h1.row.cell (i := 3) (v := .slice mA M.length mc) rfl
  have f1 := h1.row.free 1
  have f3 := h1.row.free 3
  have hlt := h1.row.lt
  clear h h1 hb1 hM
  go_wp2_with (at_builtin; refine wpList_append_own_at _ rfl (.tmp 14) (.tmp 18) 22 rfl g 24 i0 (.agg #[.int .i64 0, .string ⟨#[]⟩]) 2 24 Try.underlying22 hi hj0 hj1 hj2 rfl (by decide) (.slice mA M.length mc) M.length (markC M) rfl (H.out.mo.alloc _) ⟨w1.heap.size, 0, none⟩ 1 1 [.int .i64 k, .string ⟨t.toArray⟩] rfl rfl (cells_of' _ _ _ _ rfl (by simp)) (by simp [Value.oneCell']) (by unfold maxLen; omega) (by omega) (by simp; omega) ?_; intro v' w2 hown' hgrow _ hat; obtain ⟨b, cap, rfl⟩ := own_some hown' (by omega); have HO := Lib.hid hown'; have HG := Lib.hid hgrow; have hr2 := (H.out.row.alloc _).grown hgrow (fun e => H.out.mfar e.symm); have f32 := hr2.free 3; have f12 := hr2.free 1; have c12 := hr2.cell (i := 1) (v := .int .i64 i) rfl; have c32 := hr2.cell (i := 3) (v := .slice mA M.length mc) rfl; clear hr2)
  go_end0
  obtain ⟨q1, q2⟩ := H.out.mark (m := (k, t)) (new_ (Below.refl _ _) _) HG.out HO.out
  obtain ⟨q3, q4⟩ := q1.at_ j
  exact ⟨rfl, _, _, by rw [HM.out]; exact q3, HB.out.trans (q2.trans q4)⟩
end Go.Proofs.Ythkeggmloajapaa
