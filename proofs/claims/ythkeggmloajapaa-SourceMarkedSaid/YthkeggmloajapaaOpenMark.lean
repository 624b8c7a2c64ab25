/- An argument that is a slice of marks, opened, with what its weights say. -/
import Derived.Test.YthkeggmloajapaaOpens
import Derived.Test.YthkeggmloajapaaMarkDiv
import Derived.SizedLaws
namespace Go.Proofs.Ythkeggmloajapaa
open Go.ChangeShapes Go.WideShapes Go.Deep Go.Joins
section
variable {H : Type} {enc : TypeId × Value → H} {P : Program} {w : World} {base : Nat} {spare : Nat → Bool} {held : Bool}
theorem mem_weightsAll {e : TypeId} {d : DataW H} {n : Nat} : ∀ {es : List (DataW H)}, d ∈ es → n ∈ DataW.weights P e d → n ∈ DataW.weightsAll P e es
  | [], h, _ => by cases h
  | q :: es, h, hn => by
    unfold DataW.weightsAll
    rcases List.mem_cons.1 h with rfl | h
    · exact List.mem_append_left _ hn
    · exact List.mem_append_right _ (mem_weightsAll h hn)
/-- a slice, element by element: its cells, their reading, and the weights of the whole -/
theorem rows_of_trod_w {B : Nat} {t e : TypeId} {fuel : Nat} {cs : List Value} {x : DataW H × List MemPlace} (ht : P.underlying t = some (.slice e)) (hp : 0 < P.cellsOf e) (h : DataW.trod enc P w base spare held fuel t cs = some x)
    (hB : ∀ n ∈ DataW.weights P t x.1, n ≤ B) :
    ∃ (A : Option Addr) (len c n : Nat) (D : Nat → DataW H), cs = [.slice A len c] ∧ len ≤ c ∧ c ≤ maxLen ∧ len * P.bytesOf e ≤ B ∧ (∀ k, k < len → ∀ n ∈ DataW.weights P e (D k), n ≤ B) ∧
      ∀ k, k < len → ∃ b o cs' pl, A = some ⟨b, o, none⟩ ∧ cs'.length = P.cellsOf e ∧ (∀ j u, cs'[j]? = some u → w.cell? ⟨b, o + k * P.cellsOf e + j, none⟩ = some u) ∧ DataW.trod enc P w base spare held n e cs' = some (D k, pl) := by
  rcases open_slice ht h with ⟨rfl, rfl⟩ | ⟨a, len, cap, m, n, D, Pl, rfl, hb, hl, hm, hmm, rfl, hx⟩
  · exact ⟨none, 0, 0, 0, fun _ => .nil, rfl, Nat.le_refl _, Nat.zero_le _, by simp, fun k hk => absurd hk (by omega), fun k hk => absurd hk (by omega)⟩
  unfold DataW.weights at hB
  rw [ht] at hB
  simp only at hB
  refine ⟨some a, len, cap, n, D, rfl, hl, hm, ?_, fun k hk n hn => ?_, fun k hk => ?_⟩
  · have h1 := hB _ (List.mem_cons_self ..)
    rw [Nat.add_mul, List.length_map, List.length_range] at h1
    omega
  · exact hB n (List.mem_cons_of_mem _ (List.mem_append_left _ (mem_weightsAll (List.mem_map_of_mem (List.mem_range.2 hk)) hn)))
  have hkm : k < m := by rw [hmm]; split <;> omega
  obtain ⟨cs', h1, h2⟩ := hx k hkm
  obtain ⟨_, hlen, hc⟩ := World.cells?_some h1
  obtain ⟨b, o, s⟩ := a
  have hsp : s = none := by
    obtain ⟨cs0, g1, _⟩ := hx 0 (by omega)
    obtain ⟨_, hlen0, hc0⟩ := World.cells?_some g1
    have h0 := hc0 0 hp
    rw [List.getElem?_eq_getElem (by omega)] at h0
    have := World.cell?_spot h0
    simpa [Addr.add] using this
  subst hsp
  refine ⟨b, o, cs', _, rfl, hlen, fun j u hu => ?_, h2⟩
  have hj : j < P.cellsOf e := by rw [← hlen]; exact (List.getElem?_eq_some_iff.1 hu).1
  have := hc j hj
  rw [hu, addr_add, addr_add] at this
  exact this
end
section
variable {H : Type} {enc : TypeId × Value → H} {w : World} {base : Nat} {spare : Nat → Bool} {held : Bool}
set_option maxRecDepth 100000 in
theorem marks_of_trod {fuel : Nat} {cs : List Value} {x : DataW H × List MemPlace} (h : DataW.trod enc Try.prog w base spare held fuel 22 cs = some x) (hB : ∀ n ∈ DataW.weights Try.prog 22 x.1, n ≤ 140737488351232) :
    ∃ v l, cs = [v] ∧ Rds w 2 v l.length (markC l) ∧ (∀ m ∈ l, m.2.length ≤ 140737488351232) ∧ l.length * 24 ≤ 140737488351232 := by
  have hc : Try.prog.cellsOf 24 = 2 := by kernel_rfl
  have hc0 : Try.prog.cellsOf 3 = 1 := by kernel_rfl
  have hc1 : Try.prog.cellsOf 9 = 1 := by kernel_rfl
  have hby : Try.prog.bytesOf 24 = 24 := by kernel_rfl
  obtain ⟨A, len, c, n, D, rfl, hl, hm, hb24, hw, hx⟩ := rows_of_trod_w Try.underlying22 (by rw [hc]; decide) h hB
  rw [hc] at hx
  rw [hby] at hb24
  obtain ⟨S, hS⟩ := choose_lt (α := MarkD) (p := fun k s => (∃ b o, A = some ⟨b, o, none⟩ ∧ w.cell? ⟨b, o + k * 2, none⟩ = some (.int .i64 s.1) ∧ w.cell? ⟨b, o + k * 2 + 1, none⟩ = some (.string ⟨s.2.toArray⟩)) ∧ s.2.length ≤ 140737488351232) (n := len) (fun k hk => by
    obtain ⟨b, o, cs', pl, hA, hlen, hcell, hy⟩ := hx k hk
    obtain ⟨xs, m, _, hxe, _, hlen', hf⟩ := DataW.trod_struct Try.underlying24 hy
    match cs', hlen with
    | [v0, v1], _ =>
      have hl' : xs.length = 2 := hlen'
      match xs, hl' with
      | [y0, y1], _ =>
        have f0 := hf 0 _ rfl
        have f1 := hf 1 _ rfl
        obtain ⟨z, g0, g0', _⟩ := DataW.trod_int Try.underlying3 (show DataW.trod enc Try.prog w base spare held m 3 _ = some y0 from f0)
        obtain ⟨s, g1, g1', g1l⟩ := DataW.trod_string Try.underlying9 (show DataW.trod enc Try.prog w base spare held m 9 _ = some y1 from f1)
        change List.take (Try.prog.cellsOf 3) (List.drop 0 [v0, v1]) = _ at g0
        change List.take (Try.prog.cellsOf 9) (List.drop 1 [v0, v1]) = _ at g1
        rw [hc0] at g0
        rw [hc1] at g1
        simp at g0 g1
        subst g0 g1
        refine ⟨(z, s.data.toList), ⟨b, o, hA, by simpa using hcell 0 _ rfl, by simpa using hcell 1 _ rfl⟩, ?_⟩
        refine hw k hk _ ?_
        have e1 : D k = .agg [y0.1, y1.1] := by injection hxe
        have e2 : y1.1 = .lit (.string s.data.toList) := by rw [g1']
        rw [e1, e2]
        unfold DataW.weights
        rw [Try.underlying24]
        simp [DataW.weightsEach, DataW.weights])
  refine ⟨_, (List.range len).map S, rfl, ⟨A, c, by simp, by simpa using hl, by simp; omega, by rw [markC_len], fun h0 => ?_⟩, fun s hs => ?_, by simpa using hb24⟩
  · simp at h0
    obtain ⟨⟨b, o, hA, _⟩, _⟩ := hS 0 h0
    refine ⟨b, o, hA, fun j u hu => ?_⟩
    have hj : j < len * 2 := by
      have := (List.getElem?_eq_some_iff.1 hu).1
      rw [markC_len] at this
      simpa using this
    have hk : j / 2 < len := by omega
    obtain ⟨⟨b', o', hA', q0, q1⟩, _⟩ := hS (j / 2) hk
    obtain ⟨rfl, rfl⟩ := (by simpa [hA] using hA' : b = b' ∧ o = o')
    have hgs : ((List.range len).map S)[j / 2]? = some (S (j / 2)) := by simp [hk]
    have hfl := fun i hi => flatN 2 (fun m : MarkD => [Value.int .i64 m.1, .string ⟨m.2.toArray⟩]) (fun _ => rfl) ((List.range len).map S) (j / 2) i _ hgs hi
    rcases (by omega : j = j / 2 * 2 + 0 ∨ j = j / 2 * 2 + 1) with e | e
    · have h1 := hfl 0 (by omega)
      unfold markC at hu
      rw [← e] at h1
      rw [h1] at hu
      cases hu
      rw [show o + j = o + j / 2 * 2 by omega]
      exact q0
    · have h1 := hfl 1 (by omega)
      unfold markC at hu
      rw [← e] at h1
      rw [h1] at hu
      cases hu
      rw [show o + j = o + j / 2 * 2 + 1 by omega]
      exact q1
  · obtain ⟨k, hk, rfl⟩ := List.mem_map.1 hs
    exact (hS k (List.mem_range.1 hk)).2
end
end Go.Proofs.Ythkeggmloajapaa
