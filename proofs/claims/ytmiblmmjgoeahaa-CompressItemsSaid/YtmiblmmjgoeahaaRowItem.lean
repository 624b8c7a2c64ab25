/- CompressItems: the statement. -/
import Derived.Test.YtmiblmmjgoeahaaLawItem
import Derived.Test.YtmiblmmjgoeahaaOpen
namespace Go.Proofs.Ytmiblmmjgoeahaa
open Go.ChangeShapes Go.WideShapes Go.ChangeAt Go.RowKit Go.Joins
theorem array8 {α : Type} {cs : Array α} (h : cs.size = 8) : ∃ c0 c1 c2 c3 c4 c5 c6 c7, cs = #[c0, c1, c2, c3, c4, c5, c6, c7] := by
  obtain ⟨l⟩ := cs
  match l, h with
  | [c0, c1, c2, c3, c4, c5, c6, c7], _ => exact ⟨c0, c1, c2, c3, c4, c5, c6, c7, rfl⟩
set_option maxRecDepth 100000 in
theorem open_frame_hyps {H : Type} {enc : TypeId × Value → H} {w : World} {base : Nat} {spare : Nat → Bool} {held : Bool} {r : Reach} {b0 : Nat} {v : Value} {d : DataW H} {p : List MemPlace} (hv : Value.okWide Try.prog w r b0 35 v) (h : DataW.Trod enc Try.prog w base spare held 35 v d p) :
    ∃ c0 c1 hv c3 c4 c5 c6 c7 hyps, v = .agg #[c0, c1, hv, c3, c4, c5, c6, c7] ∧ HypL w hv hyps ∧ ∀ s ∈ hyps, s.length ≤ maxLen := by
  obtain ⟨cs, n, rfl, hsz, hf⟩ := open_struct Try.underlying35 hv h
  obtain ⟨c0, c1, c2, c3, c4, c5, c6, c7, rfl⟩ := array8 (hsz.trans (by kernel_rfl))
  obtain ⟨y, hy⟩ := hf 2 _ rfl
  obtain ⟨v, l, hcs, hl, hs⟩ := hyps_of_trod hy
  change List.take (Try.prog.cellsOf 31) (List.drop 2 [c0, c1, c2, c3, c4, c5, c6, c7]) = _ at hcs
  rw [show Try.prog.cellsOf 31 = 1 by kernel_rfl] at hcs
  simp at hcs
  subst hcs
  exact ⟨c0, c1, c2, c3, c4, c5, c6, c7, l, rfl, hl, hs⟩
set_option maxRecDepth 100000 in
theorem open_code {H : Type} {enc : TypeId × Value → H} {w : World} {base : Nat} {spare : Nat → Bool} {held : Bool} {r : Reach} {b0 : Nat} {v : Value} {d : DataW H} {p : List MemPlace} (hv : Value.okWide Try.prog w r b0 37 v) (h : DataW.Trod enc Try.prog w base spare held 37 v d p) :
    ∃ lv nv labels nums, v = .agg #[lv, nv] ∧ Strs w lv labels ∧ Ints w nv nums ∧ ∀ s ∈ labels, s.length ≤ maxLen := by
  obtain ⟨cs, n, rfl, hsz, hf⟩ := open_struct Try.underlying37 hv h
  obtain ⟨c0, c1, rfl⟩ := array2 (hsz.trans (by kernel_rfl))
  obtain ⟨y0, h0⟩ := hf 0 _ rfl
  obtain ⟨y1, h1⟩ := hf 1 _ rfl
  obtain ⟨v0, l, hcs, hl, hs⟩ := strs_of_trod Try.underlying33 Try.underlying9 (by kernel_rfl) h0
  obtain ⟨v1, ns, hcs', hn, _⟩ := ints_of_trod Try.underlying26 Try.underlying3 (by kernel_rfl) h1
  change List.take (Try.prog.cellsOf 33) (List.drop 0 [c0, c1]) = _ at hcs
  change List.take (Try.prog.cellsOf 26) (List.drop 1 [c0, c1]) = _ at hcs'
  rw [show Try.prog.cellsOf 33 = 1 by kernel_rfl] at hcs
  rw [show Try.prog.cellsOf 26 = 1 by kernel_rfl] at hcs'
  simp at hcs hcs'
  subst hcs hcs'
  exact ⟨c0, c1, l, ns, rfl, hl, hn, hs⟩

namespace compressItems
theorem isLaw : IsLaw Rows.compressItemsSpec 2 := ⟨rfl, fun H ds hd => by
  match ds, hd with
  | [d1, d2], _ => exact ⟨rfl, rfl, rfl⟩⟩
set_option maxRecDepth 100000 in
theorem walk : LawWalk 4 Try.f4.params.toList fun _ _ => True := by
  intro H enc W base args ds before hval hA hlt hsz _
  rw [Try.params4] at hA hval
  obtain ⟨v0, vs0, d0, ds0, p0, q0, hargs, rfl, rfl, h0, r0⟩ := trodAll_cons hA
  obtain ⟨v1, vs1, d1, ds1, p1, q1, rfl, rfl, rfl, h1, r1⟩ := trodAll_cons r0
  obtain ⟨rfl, rfl, rfl⟩ := trodAll_nil r1
  obtain rfl : args = #[v0, v1] := by cases args; simp_all
  obtain ⟨c0, c1, hv, c3, c4, c5, c6, c7, hyps, rfl, hh, _⟩ := open_frame_hyps (hval 0 35 v0 rfl rfl) h0
  obtain ⟨lv, nv, labels, nums, rfl, hl, hn, hs⟩ := open_code (hval 1 37 v1 rfl rfl) h1
  exact law_items W c0 c1 hv c3 c4 c5 c6 c7 lv nv hyps labels nums hl hh hn hs
set_option maxRecDepth 100000 in
theorem lifted (os : Os) (started : os.Started) (H : Type) (enc : TypeId × Value → H) :
    ReturnsInHanded {} Try.checked os 4 .any (Rows.compressItemsSpec.pre6 enc Try.prog Try.f4 [] false) (Rows.compressItemsSpec.post enc Try.prog Try.f4 false true false false) :=
  law_returns started (by kernel_rfl) Try.func4 isLaw rfl rfl (by rw [Try.params4]; intro t ht; simp at ht; rcases ht with rfl | rfl <;> exact ⟨by kernel_rfl, of_decide_eq_true (by kernel_rfl)⟩)
    (ChangeSpec.witness6 (enc := enc) (C := Try.checked) false ⟨#[], #[.agg #[.string ByteArray.empty, .bool false, .slice none 0 0, .slice none 0 0, .slice none 0 0, .slice none 0 0, .slice none 0 0, .slice none 0 0], .agg #[.slice none 0 0, .slice none 0 0]], []⟩ 8 (by kernel_rfl) (by kernel_rfl) (by kernel_rfl) (by kernel_rfl)) walk
/-- the statement -/
theorem proved : Rows.CompressItemsSaid :=
  OpenClaim.holds_of_wide 4 Try.f4 rfl rfl rfl rfl rfl rfl rfl ⟨rfl, rfl, rfl, rfl, rfl⟩ rfl rfl rfl rfl rfl (by kernel_rfl) Try.func4 (by kernel_rfl)
    (of_decide_eq_true (by kernel_rfl)) (by unfold Func.isWrapper; first | (rw [if_pos (by decide +kernel)]; kernel_rfl) | (rw [if_neg (by decide +kernel)]; exact ⟨rfl, rfl⟩))
    (fun os started H enc _ => lifted os started H enc)
#print axioms proved
end compressItems
end Go.Proofs.Ytmiblmmjgoeahaa
