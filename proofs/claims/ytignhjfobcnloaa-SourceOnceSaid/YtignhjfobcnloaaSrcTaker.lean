/- The taker of files in memory: what its methods change. -/
import Derived.Test.YtignhjfobcnloaaSrcVals
import Derived.Test.YtignhjfobcnloaaMapSet
import Derived.Test.YtignhjfobcnloaaAppNew
import Derived.Test.YtignhjfobcnloaaStripMain
import Derived.Deep.RegionLaw
import Derived.Deep.AppendLies
import Derived.Test.YtignhjfobcnloaaRangeA
import Derived.WalkLawsBesides
namespace Go.Proofs.Ytignhjfobcnloaa
open Go.RowKit
/-- the blocks of the taker T whose cells are cs -/
def mineC (T : Nat) (cs : Array Value) (k : Nat) : Prop := k = T ∨ ∃ v ∈ cs.toList, v.ownBlock = some k ∨ v = .map (some k)
/-- what lay ahead stays, but for the taker's blocks -/
structure KpT (B0 T : Nat) (W W' : World) : Prop where
  os : W'.os = W.os
  tape : W'.tape = W.tape
  output : W'.output = W.output
  size : W.heap.size ≤ W'.heap.size
  low : ∀ k, k < B0 → W'.heap[k]? = W.heap[k]?
  row : ∀ cs, Row W T 136 cs → ∃ cs', Row W' T 136 cs' ∧ (∀ k, mineC T cs' k → mineC T cs k ∨ W.heap.size ≤ k) ∧
    ∀ k o, ¬ mineC T cs k → W.heap[k]? = some o → W'.heap[k]? = some o
section
variable {B0 T : Nat} {W W' W'' : World}
theorem KpT.refl (W : World) : KpT B0 T W W := ⟨rfl, rfl, rfl, Nat.le_refl _, fun _ _ => rfl, fun cs h => ⟨cs, h, fun _ h => .inl h, fun _ _ _ h => h⟩⟩
theorem KpT.trans (h : KpT B0 T W W') (k : KpT B0 T W' W'') : KpT B0 T W W'' := by
  refine ⟨k.os.trans h.os, k.tape.trans h.tape, k.output.trans h.output, Nat.le_trans h.size k.size, fun i hi => (k.low i hi).trans (h.low i hi), fun cs hr => ?_⟩
  obtain ⟨c1, r1, o1, f1⟩ := h.row cs hr
  obtain ⟨c2, r2, o2, f2⟩ := k.row c1 r1
  refine ⟨c2, r2, fun g hg => ?_, fun i o hi ho => ?_⟩
  · rcases o2 g hg with e | e
    · exact o1 g e
    · exact .inr (Nat.le_trans h.size e)
  · have hlt := (Array.getElem?_eq_some_iff.1 ho).1
    refine f2 i o (fun e => ?_) (f1 i o hi ho)
    rcases o1 i e with e | e
    · exact hi e
    · omega
theorem KpT.below_of (h : KpT B0 T W W') : Below B0 W W' := ⟨h.os, h.tape, h.output, h.size, h.low⟩
theorem KpT.of_below (hb : Below W.heap.size W W') (h0 : B0 ≤ W.heap.size) : KpT B0 T W W' :=
  ⟨hb.os, hb.tape, hb.output, hb.size, fun k hk => hb.block k (by omega), fun cs hr => ⟨cs, hr.below hb hr.lt, fun _ h => .inl h, fun k o _ ho => (hb.block k (Array.getElem?_eq_some_iff.1 ho).1).trans ho⟩⟩
/-- a store into one of the taker's own blocks -/
theorem KpT.grown {cs : Array Value} {g : Nat} (hg : W.grownBy W' (some g)) (hr : Row W T 136 cs) (hm : mineC T cs g) (hT : g ≠ T) (h0 : B0 ≤ g) (hz : B0 ≤ W.heap.size) : KpT B0 T W W' := by
  refine ⟨hg.os, hg.tape, hg.output, hg.size, fun k hk => hg.block k (by omega) (fun e => by cases e; omega), fun cs' hr' => ?_⟩
  obtain rfl : cs' = cs := by have := hr'.symm.trans hr; simpa using this
  exact ⟨cs', hr'.grown hg (fun e => hT (by cases e; rfl)), fun _ h => .inl h, fun k o hk ho => (hg.block k (Array.getElem?_eq_some_iff.1 ho).1 (fun e => by cases e; exact hk hm)).trans ho⟩
/-- a store into a cell of the taker -/
theorem KpT.store {cs : Array Value} {i : Nat} {u : Value} (hr : Row W T 136 cs) (h0 : B0 ≤ T) (hu : ∀ k, u.ownBlock = some k ∨ u = .map (some k) → mineC T cs k ∨ W.heap.size ≤ k) : KpT B0 T W (W.setCell ⟨T, i, none⟩ u) := by
  refine ⟨rfl, rfl, rfl, by simp [World.setCell], fun k hk => Below.heap_setCell _ _ _ _ (by dsimp only; omega), fun cs' hr' => ?_⟩
  obtain rfl : cs' = cs := by have := hr'.symm.trans hr; simpa using this
  refine ⟨_, hr'.set i u, fun k hk => ?_, fun k o hk ho => (Below.heap_setCell _ _ _ _ (by dsimp only; exact fun e => hk (.inl e))).trans ho⟩
  rcases hk with rfl | ⟨v, hv, h⟩
  · exact .inl (.inl rfl)
  · rw [Array.toList_setIfInBounds] at hv
    rcases List.mem_or_eq_of_mem_set hv with hv | rfl
    · exact .inl (.inr ⟨v, hv, h⟩)
    · exact hu k h
end
/-- the taker T reads as the unit x; vf, vw, vc: its slices -/
structure TakAt (B : Nat) (w : World) (T M : Nat) (fm : Value) (x : RdS) (vf vw vc : Value) : Prop where
  row : Row w T 136 #[fm, .map (some M), vf, vw, vc, .int .i64 x.depth]
  fo : w.ownsRow B 9 1 vf x.files.length (x.files.map strV)
  wo : w.ownsRow B 95 3 vw x.words.length (x.words.flatMap wordCells)
  co : w.ownsRow B 91 4 vc x.coms.length (x.coms.flatMap comfCells)
  set : SetM w M x.files
  lo : B ≤ T
  lm : B ≤ M
theorem TakAt.below {B : Nat} {w w' : World} {T M : Nat} {fm : Value} {x : RdS} {vf vw vc : Value} (h : TakAt B w T M fm x vf vw vc) (hb : Below w.heap.size w w') : TakAt B w' T M fm x vf vw vc :=
  ⟨h.row.below hb h.row.lt, own_below h.fo hb, own_below h.wo hb, own_below h.co hb, h.set.below hb, h.lo, h.lm⟩
/-- the errors that leave through a panic -/
def foundV (e : ErrD) : Value := .agg #[.string ⟨e.1.toArray⟩, .int .i64 e.2.1, .int .i64 e.2.2]
def foundP (e : ErrD) : List PanicEntry := [{ v := .iface 138 (foundV e), recovered := false }]
theorem setM_far {w : World} {b : Nat} {l : List (List UInt8)} {base : Nat} {e : TypeId} {size n : Nat} {v : Value} {xs : List Value} (hs : SetM w b l) (h : w.ownsRow base e size v n xs) : some b ≠ v.ownBlock := by
  intro eb
  rcases h.2 with ⟨rfl, _⟩ | ⟨g, cap, cur, rfl, _, hh, _⟩
  · cases eb
  · obtain rfl : b = g := by simpa [Value.ownBlock] using eb
    obtain ⟨m, _, es, clock, ho, _⟩ := hs
    rw [hh] at ho
    cases ho
theorem setM_row {w : World} {b g : Nat} {l : List (List UInt8)} {t : TypeId} {cs : Array Value} (hs : SetM w b l) (h : Row w g t cs) : b ≠ g := by
  rintro rfl
  obtain ⟨m, _, es, clock, ho, _⟩ := hs
  unfold Row at h
  rw [ho] at h
  cases h
theorem grown_set (W : World) (T i : Nat) (u : Value) : W.grownBy (W.setCell ⟨T, i, none⟩ u) (some T) :=
  ⟨rfl, rfl, rfl, by simp [World.setCell], fun k _ hne => Below.heap_setCell _ _ _ _ (by dsimp only; exact fun e => hne (by rw [e]))⟩
/-- a slice of the taker, appended to, stored back -/
structure TakPut (B : Nat) (W w2 : World) (T : Nat) (cs : Array Value) (e : TypeId) (M : Nat) (fs : List (List UInt8)) (w1 : World) (u : Value) : Prop where
  row : Row w2 T 136 cs
  kp : KpT B T W w2
  others : ∀ (e' : TypeId) (s n : Nat) (v : Value) (xs : List Value), W.ownsRow B e' s v n xs → e' ≠ e → e' ≠ 136 → w2.ownsRow B e' s v n xs
  own : ∀ (s n : Nat) (xs : List Value), w1.ownsRow B e s u n xs → w2.ownsRow B e s u n xs
  set : SetM w2 M fs
theorem tak_put {B : Nat} {W W1 w1 : World} {T M : Nat} {fm vf vw vc v u : Value} {x : RdS} {e : TypeId} {size n i : Nat} {xs : List Value} (h : TakAt B W T M fm x vf vw vc) (hb : Below W.heap.size W W1) (ho : W.ownsRow B e size v n xs) (het : e ≠ 136)
    (hv : v ∈ [vf, vw, vc]) (hgrow : W1.grownBy w1 v.ownBlock) (hu : ∀ k, u.ownBlock = some k → v.ownBlock = some k ∨ k = W1.heap.size) (hum : ∀ k, u ≠ .map k) :
    TakPut B W (w1.setCell ⟨T, i, none⟩ u) T (#[fm, .map (some M), vf, vw, vc, .int .i64 x.depth].setIfInBounds i u) e M x.files w1 u := by
  have h1 := h.below hb
  have ho1 := own_below ho hb
  have hT1 : some T ≠ v.ownBlock := fun e => own_far ho1 h1.row het e.symm
  have hr1 := h1.row.grown hgrow hT1
  have hz : B ≤ W1.heap.size := Nat.le_trans h1.lo (Nat.le_of_lt h1.row.lt)
  have hmem : v ∈ (#[fm, .map (some M), vf, vw, vc, .int .i64 x.depth] : Array Value).toList := by
    simp at hv ⊢
    rcases hv with rfl | rfl | rfl <;> simp
  have hG : KpT B T W1 w1 := by
    cases hq : v.ownBlock with
    | none => rw [hq] at hgrow; exact ⟨hgrow.os, hgrow.tape, hgrow.output, hgrow.size, fun k hk => hgrow.block k (by omega) (by simp), fun cs hr => ⟨cs, hr.grown hgrow (by simp), fun _ h => .inl h, fun k o _ ho => (hgrow.block k (Array.getElem?_eq_some_iff.1 ho).1 (by simp)).trans ho⟩⟩
    | some q =>
      rw [hq] at hgrow
      exact KpT.grown hgrow h1.row (.inr ⟨v, hmem, .inl hq⟩) (fun e => hT1 (by rw [hq, e])) ((ho1.lt q hq).1) hz
  have hS : KpT B T w1 (w1.setCell ⟨T, i, none⟩ u) ∨ True := .inr trivial
  refine ⟨hr1.set i u, ?_, fun e' s n' v' xs' h' hne hnt => ?_, fun s n' xs' h' => ?_, ?_⟩
  · -- the store says where the new slice lies: in the old one's block, or in a new one
    have hK1 : KpT B T W W1 := KpT.of_below hb (Nat.le_trans h.lo (Nat.le_of_lt h.row.lt))
    refine hK1.trans ⟨hgrow.os, hgrow.tape, hgrow.output, by have := hgrow.size; simp [World.setCell]; exact this, fun k hk => (Below.heap_setCell _ _ _ _ (by dsimp only; have := h.lo; omega)).trans (hG.low k hk), fun cs hr => ?_⟩
    obtain ⟨c1, r1, o1, f1⟩ := hG.row cs hr
    obtain rfl : c1 = #[fm, .map (some M), vf, vw, vc, .int .i64 x.depth] := by have := r1.symm.trans hr1; simpa using this
    obtain rfl : cs = #[fm, .map (some M), vf, vw, vc, .int .i64 x.depth] := by have := hr.symm.trans h1.row; simpa using this
    refine ⟨_, hr1.set i u, fun k hk => ?_, fun k o hk ho => (Below.heap_setCell _ _ _ _ (by dsimp only; exact fun e => hk (.inl e))).trans (f1 k o hk ho)⟩
    rcases hk with rfl | ⟨y, hy, hyk⟩
    · exact .inl (.inl rfl)
    · rw [Array.toList_setIfInBounds] at hy
      rcases List.mem_or_eq_of_mem_set hy with hy | rfl
      · exact .inl (.inr ⟨y, hy, hyk⟩)
      · rcases hyk with hyk | hyk
        · rcases hu k hyk with e | e
          · exact .inl (.inr ⟨v, hmem, .inl e⟩)
          · exact .inr (by omega)
        · exact absurd hyk (hum _)
  · have hk := (own_below h' hb).kept hgrow (own_two (own_below h' hb) ho1 hne)
    exact hk.kept (grown_set _ _ _ _) (.inr fun e => own_far hk hr1 hnt e)
  · exact h'.kept (grown_set _ _ _ _) (.inr fun e => own_far h' hr1 het e)
  · exact ((h.set.below hb).kept hgrow (setM_far (h.set.below hb) ho1)).kept (grown_set _ _ _ _) (by simp; exact setM_row ((h.set.below hb).kept hgrow (setM_far (h.set.below hb) ho1)) hr1)
set_option maxRecDepth 100000 in
theorem fail_any (w : World) (nb : Nat) (name : List UInt8) (p z : Int) (hn : w.cell? ⟨nb, 0, none⟩ = some (.string ⟨name.toArray⟩)) :
    Calls Try.prog 90 #[.int .i64 p, .int .i64 z, .pointer (some ⟨nb, 0, none⟩)] w fun e w' => e = .panicked (foundP (name, p, z)) ∧ w = w' := by
  go_enter Try.func90, Try.ntmps90
  go_wp2
  exact ⟨rfl, rfl, rfl⟩
set_option maxRecDepth 100000 in
theorem between_any (w : World) (B T M : Nat) (fm vf vw vc : Value) (x : RdS) (h : TakAt B w T M fm x vf vw vc) (hN : x.words.length ≤ 8000) (hd : -8000 ≤ x.depth ∧ x.depth ≤ 8000) :
    Calls Try.prog 93 #[.pointer (some ⟨T, 0, none⟩)] w fun e w' => e = .returned (.bool (betweenS x)) ∧ w = w' := by
  obtain ⟨wA, wc, rfl, hwc⟩ := own_form h.wo
  have c3 := h.row.cell (i := 3) (v := .slice wA x.words.length wc) rfl
  have c5 := h.row.cell (i := 5) (v := .int .i64 x.depth) rfl
  have HO := Lib.hid (Rds.of_own h.wo)
  obtain ⟨d1, d2⟩ := hd
  clear h
  cases hl : x.words.getLast? with
  | none =>
    have hnil : x.words = [] := by simpa using hl
    have HR : Hid (betweenS x = true) := Lib.hid (by unfold betweenS; rw [hl])
    have hz : x.words.length = 0 := by rw [hnil]; rfl
    rw [hz] at c3
    clear hl hnil hz HO
    go_enter Try.func93, Try.ntmps93
    go_wp2
    go_ret
    exact ⟨ret_bool HR.out.symm, rfl⟩
  | some y =>
    obtain ⟨t, fi, at0⟩ := y
    have hne : x.words ≠ [] := fun e => by rw [e] at hl; cases hl
    have hp : 0 < x.words.length := List.length_pos_iff.2 hne
    have hx : x.words[x.words.length - 1]? = some (t, fi, at0) := by rw [← List.getLast?_eq_getElem?]; exact hl
    obtain ⟨A', c', hvv, _, _, hxx⟩ := WordsAt.open_ (w := w) (l := x.words) HO.out
    obtain ⟨rfl, rfl⟩ := (by simpa using hvv : wA = A' ∧ wc = c')
    obtain ⟨b, o, rfl, g1, g2, g3⟩ := hxx _ _ hx
    obtain ⟨n, hn⟩ : ∃ n, n = x.words.length - 1 := ⟨_, rfl⟩
    have hn1 : x.words.length = n + 1 := by omega
    rw [← hn] at g1 g2 g3
    rw [hn1] at c3
    have hn8 : n ≤ 8000 := by omega
    obtain ⟨b1, e1⟩ : ∃ b1, decide (x.depth ≤ 0) = b1 := ⟨_, rfl⟩
    obtain ⟨b2, e2⟩ : ∃ b2, (t == [36, 46]) = b2 := ⟨_, rfl⟩
    obtain ⟨b3, e3⟩ : ∃ b3, (t == [36, 125]) = b3 := ⟨_, rfl⟩
    have HR : Hid (betweenS x = (b1 && (b2 || b3))) := Lib.hid (by unfold betweenS; rw [hl]; simp only [endW, e1, e2, e3])
    clear hl hne hp hx hvv hxx hn hn1 HO
    cases b1 <;> cases b2 <;> cases b3
    all_goals
      go_enter Try.func93, Try.ntmps93
      go_wp2
      go_ret
      exact ⟨ret_bool HR.out.symm, rfl⟩
end Go.Proofs.Ytignhjfobcnloaa
