/- Numbers of the program: the list, the place and the code of numbersS. -/
import Derived.Test.YtmiblmmjgoeahaaNumRef
import Derived.Test.YtmiblmmjgoeahaaRangeLaw
import Derived.Test.YtmiblmmjgoeahaaNumIter
namespace Go.Proofs.Ytmiblmmjgoeahaa
open Go.RowKit Go.Shelf
attribute [local go_sem] Oper.semAt_some
theorem numbers_maker (s : ByteArray) (w : World) :
    Calls Try.prog 85 #[.string s] w fun e w' => e = .returned (.func (.func 132) #[] #[.pointer (some ⟨w.heap.size, 0, none⟩)]) ∧ w.alloc (.cells #[.string s] 9) = w' := by
  go_enter Try.func85, Try.ntmps85
  go_wp2
  go_ret
  exact ⟨rfl, rfl⟩
/-- the frame of Numbers in a round -/
def numTmps (s : List UInt8) (B g : Nat) (x : It) (c : Value) : Array Value :=
  #[.string ⟨s.toArray⟩, undef, .pointer (some ⟨B, 0, none⟩), .pointer (some ⟨B + 1, 0, none⟩), .pointer (some ⟨B + 1 + 1, 0, none⟩), .pointer (some ⟨B + 1 + 1 + 1, 0, none⟩), .pointer (some ⟨g, 0, none⟩),
    .string ⟨s.toArray⟩, .int .i64 s.length, .bool false, .string ⟨s.toArray⟩, c, .agg #[.int .i64 x.1, .int .i64 x.2.1, .bool x.2.2], undef, undef, undef, undef, undef, undef, undef, undef, undef, undef]
/-- between two rounds: the items so far are numbers, and they are in the box of the list -/
def NumI (w : World) (pre : List It) (W : World) : Prop :=
  (∀ x ∈ pre, x.2.2 = false) ∧ (∃ v, Row W (w.heap.size + 1 + 1 + 1) 26 #[v] ∧ W.ownsRow (w.heap.size + 1 + 1 + 1 + 1) 3 1 v pre.length (pre.map fun x => .int .i64 x.1)) ∧
  Row W w.heap.size 26 #[.slice none 0 0] ∧ Row W (w.heap.size + 1) 3 #[.int .i64 0] ∧ Row W (w.heap.size + 1 + 1) 23 #[.int .i64 0] ∧ Below w.heap.size w W ∧ w.heap.size + 5 ≤ W.heap.size
def NumX (w : World) (s : List UInt8) (c : Code) (W : World) : Prop :=
  c = .ret ∧ (∃ k : Nat, (nrun 0 false 0 s).2 = some k ∧ Row W (w.heap.size + 1) 3 #[.int .i64 k]) ∧ Row W w.heap.size 26 #[.slice none 0 0] ∧ Row W (w.heap.size + 1 + 1) 23 #[.int .i64 21] ∧ Below w.heap.size w W
def NumA (w : World) (s : List UInt8) (c : Value) (pre : List It) (x : It) (a : Act) (W : World) : Prop :=
  ∃ g, a = { tmps := numTmps s w.heap.size g x c, defers := [] } ∧ w.heap.size + 5 ≤ g ∧ Row W g 159 #[.int .i64 x.1, .int .i64 x.2.1, .bool x.2.2] ∧ NumI w pre W
theorem NumI.stable {w : World} {B : Nat} (hB : w.heap.size + 5 ≤ B) : Stable (okCall fun _ => False) B (NumI w) := by
  rintro pre A A' ⟨h1, ⟨v, hv, ho⟩, h2, h3, h4, h5, h6⟩ ht
  exact ⟨h1, ⟨v, hv.turn ht (.inl (by omega)), own_turn ho ht fun _ => not_okCall_none⟩, h2.turn ht (.inl (by omega)), h3.turn ht (.inl (by omega)), h4.turn ht (.inl (by omega)), below_turn h5 ht (Nat.le_refl _) (by omega), by have := ht.size; omega⟩
theorem NumX.stable {w : World} {s : List UInt8} {B : Nat} (hB : w.heap.size + 5 ≤ B) (c : Code) : Stable (okCall fun _ => False) B (fun (_ : List It) W => NumX w s c W) := by
  rintro pre A A' ⟨h1, ⟨k, hk, hr⟩, h2, h3, h4⟩ ht
  exact ⟨h1, ⟨k, hk, hr.turn ht (.inl (by omega))⟩, h2.turn ht (.inl (by omega)), h3.turn ht (.inl (by omega)), below_turn h4 ht (Nat.le_refl _) (by omega)⟩
theorem NumA.stable {w : World} {s : List UInt8} {c : Value} {B : Nat} (hB : w.heap.size + 5 ≤ B) (pre : List It) (x : It) (a : Act) : Stable (okCall fun _ => False) B (fun (_ : Unit) W => NumA w s c pre x a W) := by
  rintro _ A A' ⟨g, h1, hg, h2, h3⟩ ht
  exact ⟨g, h1, hg, h2.turn ht (.inr not_okCall_none), NumI.stable hB _ _ _ h3 ht⟩
theorem num_stop {w W : World} {s : List UInt8} {a b c : Value} {k B : Nat} (h0 : Row W w.heap.size 26 #[a]) (h1 : Row W (w.heap.size + 1) 3 #[b]) (h2 : Row W (w.heap.size + 1 + 1) 23 #[c]) (hB : Below w.heap.size w W) (hk : (nrun 0 false 0 s).2 = some k) :
    KeepsFrom B W (((W.setCell ⟨w.heap.size, 0, none⟩ (.slice none 0 0)).setCell ⟨w.heap.size + 1, 0, none⟩ (.int .i64 k)).setCell ⟨w.heap.size + 1 + 1, 0, none⟩ (.int .i64 21)).drew ∧
    NumX w s .ret (((W.setCell ⟨w.heap.size, 0, none⟩ (.slice none 0 0)).setCell ⟨w.heap.size + 1, 0, none⟩ (.int .i64 k)).setCell ⟨w.heap.size + 1 + 1, 0, none⟩ (.int .i64 21)).drew := by
  refine ⟨KeepsOthers.from ((((KeepsOthers.setCell _ _ _).trans (KeepsOthers.setCell _ _ _)).trans (KeepsOthers.setCell _ _ _)).trans (KeepsOthers.drew _)) _, rfl, ⟨k, hk, ?_⟩, ?_, ?_, ?_⟩
  · exact Row.drew (Row.other (Row.same1 _ (Row.other h1 (by dsimp only; omega) _)) (by dsimp only; omega) _)
  · exact Row.drew (Row.other (Row.other (Row.same1 _ h0) (by dsimp only; omega) _) (by dsimp only; omega) _)
  · exact Row.drew (Row.same1 _ (Row.other (Row.other h2 (by dsimp only; omega) _) (by dsimp only; omega) _))
  · exact (((hB.setCell (p := ⟨w.heap.size, 0, none⟩) (by dsimp only; omega) _).setCell (p := ⟨w.heap.size + 1, 0, none⟩) (by dsimp only; omega) _).setCell (p := ⟨w.heap.size + 1 + 1, 0, none⟩) (by dsimp only; omega) _).drew
set_option maxRecDepth 100000 in
set_option maxHeartbeats 4000000 in
theorem numbers_any (s : List UInt8) (w : World) :
    Calls Try.prog 20 #[.string ⟨s.toArray⟩] w fun e w' => ∃ v, e = .returned (.tuple #[v, .int .i64 (numbersS s).2.1, .int .i64 (numbersS s).2.2]) ∧ Ints w' v (numbersS s).1 ∧ Below w.heap.size w w' := by
  refine (callsIn_wide (n := 9)).1 ?_
  refine callsIn_of_wp_marks Try.func20 rfl trivial ?_ rfl
  simp only [Try.ntmps20, List.size_toArray, List.length_cons, List.length_nil, Nat.reduceAdd, Nat.reduceSub, Array.replicate_succ, Array.replicate_zero, List.push_toArray, List.append_toArray, List.nil_append, List.cons_append]
  by_cases hbig : 40000 < s.length
  · gi_wp2
    have c0 : ((((w.alloc (.cells #[.slice none 0 0] 26)).alloc (.cells #[.int .i64 0] 3)).alloc (.cells #[.int .i64 4] 23))).cell? ⟨w.heap.size, 0, none⟩ = some (.slice none 0 0) := (((Row.new' _ _ _ (by simp)).alloc _).alloc _).cell (i := 0) rfl
    have c1 : ((((w.alloc (.cells #[.slice none 0 0] 26)).alloc (.cells #[.int .i64 0] 3)).alloc (.cells #[.int .i64 4] 23))).cell? ⟨w.heap.size + 1, 0, none⟩ = some (.int .i64 0) := ((Row.new' _ _ _ (by simp)).alloc _).cell (i := 0) rfl
    have c2 : ((((w.alloc (.cells #[.slice none 0 0] 26)).alloc (.cells #[.int .i64 0] 3)).alloc (.cells #[.int .i64 4] 23))).cell? ⟨w.heap.size + 1 + 1, 0, none⟩ = some (.int .i64 4) := (Row.new' _ _ _ (by simp)).cell (i := 0) rfl
    refine ⟨.tuple #[.slice none 0 0, .int .i64 0, .int .i64 4], by simp [results, Try.f20, go_sem, c0, c1, c2], .slice none 0 0, ?_, ?_, (((Below.refl _ _).alloc (by simp) _).alloc (by simp) _).alloc (by simp; omega) _⟩
    · rw [numbersS_big hbig]
      rfl
    · rw [numbersS_big hbig]
      exact Rds.nil_
  · have hb' : ¬ (40000 : Int) < (s.length : Int) := by omega
    gi_wp2_with (refine ⟨trivial, ?_⟩; gi_at_call 85; refine (callsIn_wide.2 (numbers_maker _ _)).mono ?_; rintro e w' ⟨rfl, rfl⟩)
    obtain ⟨W4, hW4⟩ : ∃ W4 : World, W4 = (((((w.alloc (.cells #[.slice none 0 0] 26)).alloc (.cells #[.int .i64 0] 3)).alloc (.cells #[.int .i64 0] 23)).alloc (.cells #[.slice none 0 0] 26)).alloc (.cells #[.string ⟨s.toArray⟩] 9)) := ⟨_, rfl⟩
    rw [← hW4]
    have r0 : Row W4 w.heap.size 26 #[.slice none 0 0] := by rw [hW4]; exact ((((Row.new' _ _ _ (by simp)).alloc _).alloc _).alloc _).alloc _
    have r1 : Row W4 (w.heap.size + 1) 3 #[.int .i64 0] := by rw [hW4]; exact (((Row.new' _ _ _ (by simp)).alloc _).alloc _).alloc _
    have r2 : Row W4 (w.heap.size + 1 + 1) 23 #[.int .i64 0] := by rw [hW4]; exact ((Row.new' _ _ _ (by simp)).alloc _).alloc _
    have r3 : Row W4 (w.heap.size + 1 + 1 + 1) 26 #[.slice none 0 0] := by rw [hW4]; exact (Row.new' _ _ _ (by simp)).alloc _
    have r4 : Row W4 (w.heap.size + 1 + 1 + 1 + 1) 9 #[.string ⟨s.toArray⟩] := by rw [hW4]; exact Row.new' _ _ _ (by simp)
    have hB4 : Below w.heap.size w W4 := by rw [hW4]; exact ((((((Below.refl _ _).alloc (by simp) _).alloc (by simp) _).alloc (by simp; omega) _).alloc (by simp; omega) _).alloc (by simp; omega) _)
    have hz4 : W4.heap.size = w.heap.size + 5 := by rw [hW4]; simp
    clear hW4
    have hI0 : NumI w [] W4 := ⟨by simp, ⟨_, r3, World.ownsRow_nil _ _ _ _⟩, r0, r1, r2, hB4, by omega⟩
    have hseq : SeqT 8 Try.prog 132 #[.pointer (some ⟨w.heap.size + 1 + 1 + 1 + 1, 0, none⟩)] encIt (KeepsT KNum) (fun _ => False) (nitems 0 false 0 s) W4 := num_iter 8 (by omega) s (by omega) W4 _ r4
    clear r0 r1 r2 r3 r4
    refine range_law (by omega) (gf := 132) (lb := #[.pointer (some ⟨w.heap.size + 1 + 1 + 1 + 1, 0, none⟩)]) rfl (enters_of Try.func132 (by kernel_rfl) rfl) hseq KeepsT.trans
      (fun W l o o' _ hl ho _ => KeepsT.putObj o' hl ho) (Below.refl _ _) (fun _ => rfl) (NumI w) (fun c _ W => NumX w s c W) (NumI.stable (by omega)) (fun c => NumX.stable (by omega) c) hI0
      (NumA w s (.func (.func 132) #[] #[.pointer (some ⟨w.heap.size + 1 + 1 + 1 + 1, 0, none⟩)])) (NumA.stable (by omega)) ?assign ?body ?done ?stop
    case assign =>
      intro l pre x W K hI hpre hK
      simp only [encIt]
      gi_wp2
      exact hK _ _ ((KeepsOthers.alloc _ _).from _) (KeepsT.alloc _ _) ⟨W.heap.size, rfl, hI.2.2.2.2.2.2, Row.new _ _ _, NumI.stable (B := w.heap.size + 5) (by omega) _ _ _ hI (Turn.grow ((Below.refl _ _).alloc (by simp) _))⟩
    case body =>
      rintro l pre x a' W ⟨g, rfl, hg, hrx, hok, ⟨v, hbx, hown⟩, h0, h1, h2, hB, hz⟩ hpre
      obtain ⟨x1, x2, x3⟩ := x
      have c0 := hrx.cell (i := 0) (v := .int .i64 x1) rfl
      have c1 := hrx.cell (i := 1) (v := .int .i64 x2) rfl
      have c2 := hrx.cell (i := 2) (v := .bool x3) rfl
      simp only [numTmps]
      cases x3 with
      | true =>
        have d0 := h0.cell (i := 0) rfl
        have d1 := h1.cell (i := 0) rfl
        have d2 := h2.cell (i := 0) rfl
        have f0 := h0.free 0
        have f1 := h1.free 0
        have f2 := h2.free 0
        have hmo : Try.prog.follows .mixedOrders = true := by kernel_rfl
        gi_wp2
        gi_region_with_o (fail)
        all_goals gi_wp2
        all_goals exact num_stop h0 h1 h2 hB (nitems_bad s 0 false 0 pre (x1, x2, true) hpre rfl)
      | false =>
        have b0 := hbx.cell (i := 0) (v := v) rfl
        have fb := hbx.free 0
        have hlen : pre.length < 40001 := items_len s pre _ hpre (by omega)
        obtain ⟨A, cp, rfl, hcp⟩ := own_form hown
        obtain ⟨i0, hi, hz0, hz1, hz2⟩ := info_parts infoInt
        gi_wp2_with (gi_at_builtin; refine wpListIn_append_own _ rfl _ _ 26 rfl (w.heap.size + 1 + 1 + 1 + 1) 3 i0 (.int .i64 0) 1 8 Try.underlying26 hi hz0 hz1 hz2 rfl (by decide) _ _ _ rfl (hown.alloc _) ⟨W.heap.size, 0, none⟩ 1 1 [.int .i64 x1] rfl rfl (cell_one_new _ _ _) (by simp [Value.oneCell']) (by unfold maxLen; omega) (by omega) (by simp; omega) ?_; intro v' w1 hown' hgrow _; obtain ⟨g', cap', rfl⟩ := ownsRow_succ hown'; have BA := box_append hbx (by omega) hown hgrow hown'; have cb1 := ((hbx.alloc (.cells #[.int .i64 x1] 3)).grown hgrow (fun e => by have := own_block hown _ e.symm; omega)).cell (i := 0) (v := .slice A pre.length cp) rfl; have fb1 := ((hbx.alloc (.cells #[.int .i64 x1] 3)).grown hgrow (fun e => by have := own_block hown _ e.symm; omega)).free 0; clear b0 fb)
        refine ⟨BA.others.from _, BA.keepsT _ (by unfold KNum; decide) (by unfold KNum; decide), ?_, ⟨_, BA.box, ?_⟩, BA.rows _ _ _ h0 (by omega) (.inl (by omega)), BA.rows _ _ _ h1 (by omega) (.inl (by omega)), BA.rows _ _ _ h2 (by omega) (.inl (by omega)), BA.below _ _ hB (by omega) (by omega) (by omega), by have := BA.size; omega⟩
        · intro y hy
          rcases List.mem_append.1 hy with hy | hy
          · exact hok y hy
          · simp at hy; rw [hy]
        · exact own_snoc (f := fun x : It => Value.int .i64 x.1) BA.own rfl rfl
    case done =>
      rintro D W hD ⟨hok, ⟨v, hbx, hown⟩, h0, h1, h2, hB, hz⟩ hK
      obtain ⟨A, cp, rfl, hcp⟩ := own_form hown
      have b0 := hbx.cell (i := 0) (v := .slice A (nitems 0 false 0 s).length cp) rfl
      have d0 := h0.cell (i := 0) (v := .slice none 0 0) rfl
      have d1 := h1.cell (i := 0) (v := .int .i64 0) rfl
      have d2 := h2.cell (i := 0) (v := .int .i64 0) rfl
      have f0 := h0.free 0
      have f1 := h1.free 0
      have f2 := h2.free 0
      have HN := Lib.hid (nitems_ok s 0 false 0 hok)
      clear hok
      gi_wp2
      obtain ⟨W5, hW5⟩ : ∃ W5, W5 = ((W.setCell ⟨w.heap.size, 0, none⟩ (.slice A (nitems 0 false 0 s).length cp)).setCell ⟨w.heap.size + 1, 0, none⟩ (.int .i64 0)).setCell ⟨w.heap.size + 1 + 1, 0, none⟩ (.int .i64 0) := ⟨_, rfl⟩
      rw [← hW5]
      have g0 : Row W5 w.heap.size 26 #[.slice A (nitems 0 false 0 s).length cp] := by rw [hW5]; exact Row.other (Row.other (Row.same1 _ h0) (by dsimp only; omega) _) (by dsimp only; omega) _
      have g1 : Row W5 (w.heap.size + 1) 3 #[.int .i64 0] := by rw [hW5]; exact Row.other (Row.same1 _ (Row.other h1 (by dsimp only; omega) _)) (by dsimp only; omega) _
      have g2 : Row W5 (w.heap.size + 1 + 1) 23 #[.int .i64 0] := by rw [hW5]; exact Row.same1 _ (Row.other (Row.other h2 (by dsimp only; omega) _) (by dsimp only; omega) _)
      have gB : Below w.heap.size w W5 := by rw [hW5]; exact ((hB.setCell (p := ⟨w.heap.size, 0, none⟩) (by dsimp only; omega) _).setCell (p := ⟨w.heap.size + 1, 0, none⟩) (by dsimp only; omega) _).setCell (p := ⟨w.heap.size + 1 + 1, 0, none⟩) (by dsimp only; omega) _
      have gK : W5.heap[D]? = some (.deferred (some [])) := by rw [hW5]; exact (((KeepsOthers.setCell _ _ _).trans (KeepsOthers.setCell _ _ _)).trans (KeepsOthers.setCell _ _ _)).same D _ hK rfl
      have go : W5.ownsRow (w.heap.size + 1 + 1 + 1 + 1) 3 1 (.slice A (nitems 0 false 0 s).length cp) (nitems 0 false 0 s).length ((nitems 0 false 0 s).map fun x => .int .i64 x.1) := by
        rw [hW5]
        exact ownsRow_setCell_below (ownsRow_setCell_below (ownsRow_setCell_below hown (by dsimp only; omega) _) (by dsimp only; omega) _) (by dsimp only; omega) _
      clear hW5 b0 d0 d1 d2 f0 f1 f2 h0 h1 h2 hB hown hbx
      refine ⟨by simp, .inl ⟨_, _, rfl, run_takeDeferred gK, ?_⟩⟩
      have T0 := Turn.putObj (ok := okCall fun _ => False) (B := w.heap.size + 5) (.deferred none) gK (by omega) (.inl rfl)
      have c0 := (g0.turn T0 (.inl (by omega))).cell (i := 0) (v := .slice A (nitems 0 false 0 s).length cp) rfl
      have c1 := (g1.turn T0 (.inl (by omega))).cell (i := 0) (v := .int .i64 0) rfl
      have c2 := (g2.turn T0 (.inl (by omega))).cell (i := 0) (v := .int .i64 0) rfl
      refine ⟨.tuple #[.slice A (nitems 0 false 0 s).length cp, .int .i64 0, .int .i64 0], by simp [results, Try.f20, go_sem, c0, c1, c2], .slice A (nitems 0 false 0 s).length cp, ?_, ?_, below_turn gB T0 (Nat.le_refl _) (by omega)⟩
      · rw [numbersS_ok hbig (by rw [HN.out])]
        rfl
      · rw [numbersS_ok hbig (by rw [HN.out]), HN.out]
        have := Rds.of_own (own_turn go T0 fun _ => not_okCall_none)
        show Rds _ 1 _ ((nitems 0 false 0 s).map (·.1)).length _
        rw [List.length_map, List.map_map]
        exact this
    case stop =>
      rintro D c pre W hD ⟨rfl, ⟨k, hk, g1⟩, g0, g2, gB⟩ gK
      gi_wp2
      refine ⟨by simp, .inl ⟨_, _, rfl, run_takeDeferred gK, ?_⟩⟩
      have T0 := Turn.putObj (ok := okCall fun _ => False) (B := w.heap.size + 5) (.deferred none) gK (by omega) (.inl rfl)
      have c0 := (g0.turn T0 (.inl (by omega))).cell (i := 0) (v := .slice none 0 0) rfl
      have c1 := (g1.turn T0 (.inl (by omega))).cell (i := 0) (v := .int .i64 k) rfl
      have c2 := (g2.turn T0 (.inl (by omega))).cell (i := 0) (v := .int .i64 21) rfl
      refine ⟨.tuple #[.slice none 0 0, .int .i64 k, .int .i64 21], by simp [results, Try.f20, go_sem, c0, c1, c2], .slice none 0 0, ?_, ?_, below_turn gB T0 (Nat.le_refl _) (by omega)⟩
      · rw [numbersS_bad hbig hk]
      · rw [numbersS_bad hbig hk]
        exact Rds.nil_
end Go.Proofs.Ytmiblmmjgoeahaa
