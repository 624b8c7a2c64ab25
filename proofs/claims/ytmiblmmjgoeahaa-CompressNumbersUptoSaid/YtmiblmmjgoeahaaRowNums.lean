/- CompressNumbers: the second statement (arguments of together at most 1048576 values and letters). -/
import Derived.Test.YtmiblmmjgoeahaaLawNums
import Derived.Test.YtmiblmmjgoeahaaOpenUpto
namespace Go.Proofs.Ytmiblmmjgoeahaa
open Go.ChangeShapes Go.WideShapes Go.ChangeAt Go.RowKit Go.Joins Go.Deep
theorem u32s_of_trod {H : Type} {enc : TypeId × Value → H} {P : Program} {w : World} {base : Nat} {spare : Nat → Bool} {held : Bool} {t e : TypeId} {fuel : Nat} {cs : List Value} {x : DataW H × List MemPlace} (ht : P.underlying t = some (.slice e)) (he : P.underlying e = some (.int .u32)) (hc : P.cellsOf e = 1) (h : DataW.trod enc P w base spare held fuel t cs = some x) :
    ∃ v l, cs = [v] ∧ U32s w v l ∧ ∀ z ∈ l, 0 ≤ z ∧ z ≤ 4294967295 := by
  obtain ⟨A, len, c, n, rfl, hl, hm, hx⟩ := rows_of_trod ht (by omega) h
  obtain ⟨S, hS⟩ := choose_lt (α := Int) (p := fun k s => ∃ b o, A = some ⟨b, o, none⟩ ∧ w.cell? ⟨b, o + k, none⟩ = some (.int .u32 s) ∧ (Lit.int .u32 s).wf = true) (n := len) (fun k hk => by
    obtain ⟨b, o, cs', y, hA, hlen, hcell, hy⟩ := hx k hk
    obtain ⟨s, h1, h2, h3⟩ := DataW.trod_int he hy
    refine ⟨s, b, o, hA, ?_, h3⟩
    have := hcell 0 _ (by rw [h1]; rfl)
    rw [hc] at this
    simpa using this)
  refine ⟨_, (List.range len).map S, rfl, ⟨A, c, by simp, by simpa using hl, by simp; omega, by simp, fun h0 => ?_⟩, ?_⟩
  · simp at h0
    obtain ⟨b, o, hA, _⟩ := hS 0 h0
    refine ⟨b, o, hA, fun j u hu => ?_⟩
    simp [List.getElem?_map] at hu
    obtain ⟨i, hi, rfl⟩ := hu
    obtain ⟨hi2, rfl⟩ := List.getElem?_eq_some_iff.1 hi
    simp at hi2
    obtain ⟨b', o', hA', hcell, _⟩ := hS j hi2
    obtain ⟨rfl, rfl⟩ := (by simpa [hA] using hA' : b = b' ∧ o = o')
    simpa using hcell
  · intro s hs
    obtain ⟨k, hk, rfl⟩ := List.mem_map.1 hs
    have := (hS k (List.mem_range.1 hk)).choose_spec.choose_spec.2.2
    simpa [Lit.wf, IntKind.min, IntKind.max, IntKind.signed, IntKind.bits] using this
namespace compressNumbers
theorem isLaw : IsLaw Rows.compressNumbersSpec 3 := ⟨rfl, fun H ds hd => by
  match ds, hd with
  | [d1, d2, d3], _ => exact ⟨rfl, rfl, rfl⟩⟩
set_option maxRecDepth 100000 in
theorem walk : LawWalk 8 Try.f8.params.toList fun _ ds => Rows.uptoBulkAll ds ≤ 1048576 := by
  intro H enc W base args ds before hval hA hlt hsz hbulk
  rw [Try.params8] at hA hval
  obtain ⟨v0, vs0, d0, ds0, p0, q0, hargs, rfl, rfl, h0, r0⟩ := trodAll_cons hA
  obtain ⟨v1, vs1, d1, ds1, p1, q1, rfl, rfl, rfl, h1, r1⟩ := trodAll_cons r0
  obtain ⟨v2, vs2, d2, ds2, p2, q2, rfl, rfl, rfl, h2, r2⟩ := trodAll_cons r1
  obtain ⟨rfl, rfl, rfl⟩ := trodAll_nil r2
  obtain rfl : args = #[v0, v1, v2] := by cases args; simp_all
  obtain ⟨fuel, hf0⟩ := h0
  obtain ⟨pv, l, hpv, hp, hwf⟩ := u32s_of_trod Try.underlying98 Try.underlying99 (by kernel_rfl) hf0
  obtain ⟨A0, n0, c0, rfl⟩ := okWide_slice Try.underlying98 (hval 0 98 v0 rfl rfl)
  obtain rfl : pv = .slice A0 n0 c0 := by simpa [Value.cells] using hpv.symm
  obtain ⟨lv, nv, labels, nums, rfl, hl, hn, hsl, hbl⟩ := open_code_b (hval 1 37 v1 rfl rfl) h1
  obtain ⟨a2, rfl, rfl, rfl, w2⟩ := open_int Try.underlying3 (hval 2 3 v2 rfl rfl) h2
  simp only [Rows.uptoBulkAll] at hbulk
  exact law_nums W _ lv nv l labels nums a2 hp hl hn hwf (by omega) (by omega)
set_option maxRecDepth 100000 in
theorem lifted (os : Os) (started : os.Started) (H : Type) (enc : TypeId × Value → H) (I : Stop.Interp) :
    ReturnsInHanded {} Try.checked os 8 .any ((Rows.OpenSpec.upto Rows.compressNumbersSpec).pre6 enc Try.prog Try.f8 Rows.compressNumbersUptoRow.domain false) (((Rows.OpenSpec.upto Rows.compressNumbersSpec).at I).post enc Try.prog Try.f8 false true false false) :=
  law_returns_upto started I (by kernel_rfl) Try.func8 isLaw rfl rfl (by rw [Try.params8]; intro t ht; simp at ht; rcases ht with rfl | rfl | rfl <;> exact ⟨by kernel_rfl, of_decide_eq_true (by kernel_rfl)⟩)
    (OpenSpec.witness (enc := enc) (C := Try.checked) (s := Rows.OpenSpec.upto Rows.compressNumbersSpec) (k := Rows.uptoSmall) rfl false ⟨#[], #[.slice none 0 0, .agg #[.slice none 0 0, .slice none 0 0], .int .i64 0], []⟩ 8 (by kernel_rfl) (by kernel_rfl) (by kernel_rfl)
      (x := ([.nil, .agg [.nil, .nil], .lit (.int .i64 0)], [], [])) (by kernel_rfl) rfl (by kernel_rfl)) walk
/-- the statement -/
theorem proved : Rows.CompressNumbersUptoSaid :=
  OpenClaim.holds_of_cond 8 Try.f8 rfl rfl rfl rfl rfl rfl rfl ⟨rfl, rfl, rfl, rfl, rfl⟩ rfl rfl rfl rfl rfl (by kernel_rfl) Try.func8 (by kernel_rfl)
    (of_decide_eq_true (by kernel_rfl)) (by unfold Func.isWrapper; first | (rw [if_pos (by decide +kernel)]; kernel_rfl) | (rw [if_neg (by decide +kernel)]; exact ⟨rfl, rfl⟩))
    (fun os started H enc _ I => lifted os started H enc I)
#print axioms proved
end compressNumbers
end Go.Proofs.Ytmiblmmjgoeahaa
