/- Arguments opened: statements, with what their bulk says. -/
import Derived.Test.YtpmbfcogkoiogaaDoorOpenA
import Derived.Test.YtpmbfcogkoiogaaDoorLayLA
import Derived.Test.YtpmbfcogkoiogaaDoorLayParA
import Derived.Test.YtpmbfcogkoiogaaDoorLayAll1
namespace Go.Proofs.YtpmbfcogkoiogaaDoor
open Go.ChangeShapes Go.WideShapes Go.Deep Go.Joins
section
variable {H : Type} {enc : TypeId × Value → H} {w : World} {base : Nat} {spare : Nat → Bool} {held : Bool}
set_option maxRecDepth 100000 in
/-- a statement's four cells -/
theorem stm_of_trod {fuel : Nat} {cs : List Value} {x : DataW H × List MemPlace} (h : DataW.trod enc Tryd.prog w base spare held fuel 34 cs = some x) :
    ∃ p : StmP, cs = stmCells p ∧ Strs w p.2.1 p.1.text ∧ Strs w p.2.2 p.1.proof ∧ p.1.label.length ≤ maxLen ∧ (∀ s ∈ p.1.text, s.length ≤ maxLen) ∧ (∀ s ∈ p.1.proof, s.length ≤ maxLen) ∧
      (p.1.text.length + p.1.proof.length) + (p.1.label.length + (p.1.text ++ p.1.proof).flatten.length) + 1 ≤ Rows.uptoBulk x.1 := by
  have hc : Tryd.prog.cellsOf 34 = 4 := by kernel_rfl
  have hc0 : Tryd.prog.cellsOf 3 = 1 := by kernel_rfl
  have hc1 : Tryd.prog.cellsOf 9 = 1 := by kernel_rfl
  have hc2 : Tryd.prog.cellsOf 22 = 1 := by kernel_rfl
  obtain ⟨xs, m, _, hx, hlen, hlen', hf⟩ := DataW.trod_struct Tryd.underlying34 h
  rw [hc] at hlen
  match cs, hlen with
  | [v0, v1, v2, v3], _ =>
    have hl' : xs.length = 4 := hlen'
    match xs, hl' with
    | [y0, y1, y2, y3], _ =>
      have f0 := hf 0 _ rfl
      have f1 := hf 1 _ rfl
      have f2 := hf 2 _ rfl
      have f3 := hf 3 _ rfl
      obtain ⟨z, g0, g0', _⟩ := DataW.trod_int Tryd.underlying3 (show DataW.trod enc Tryd.prog w base spare held m 3 _ = some y0 from f0)
      obtain ⟨s, g1, g1', g1l⟩ := DataW.trod_string Tryd.underlying9 (show DataW.trod enc Tryd.prog w base spare held m 9 _ = some y1 from f1)
      obtain ⟨tv, tx, g2, hT, hTs, hTb⟩ := strs_of_trod_b Tryd.underlying22 Tryd.underlying9 hc1 (show DataW.trod enc Tryd.prog w base spare held m 22 _ = some y2 from f2)
      obtain ⟨pv, px, g3, hP, hPs, hPb⟩ := strs_of_trod_b Tryd.underlying22 Tryd.underlying9 hc1 (show DataW.trod enc Tryd.prog w base spare held m 22 _ = some y3 from f3)
      change List.take (Tryd.prog.cellsOf 3) (List.drop 0 [v0, v1, v2, v3]) = _ at g0
      change List.take (Tryd.prog.cellsOf 9) (List.drop 1 [v0, v1, v2, v3]) = _ at g1
      change List.take (Tryd.prog.cellsOf 22) (List.drop 2 [v0, v1, v2, v3]) = _ at g2
      change List.take (Tryd.prog.cellsOf 22) (List.drop 3 [v0, v1, v2, v3]) = _ at g3
      rw [hc0] at g0
      rw [hc1] at g1
      rw [hc2] at g2 g3
      simp at g0 g1 g2 g3
      subst g0 g1 g2 g3
      refine ⟨(⟨z, s.data.toList, tx, px⟩, v2, v3), rfl, hT, hP, by simpa using g1l, hTs, hPs, ?_⟩
      rw [hx]
      simp only [List.map_cons, List.map_nil, Rows.uptoBulk, Rows.uptoBulkAll, g1']
      simp only [List.flatten_append, List.length_append]
      have e1 : Rows.uptoBulk y1.1 = s.data.toList.length + 1 := by
        rw [show y1.1 = .lit (.string s.data.toList) by rw [g1']]
        simp [Rows.uptoBulk]
      omega
theorem bulk_map2 {α : Type} {f : α → Nat} {S : Nat → α} {D : Nat → DataW H} : ∀ (l : List Nat), (∀ k ∈ l, f (S k) + 1 ≤ Rows.uptoBulk (D k)) → ((l.map S).map f).sum + l.length ≤ Rows.uptoBulkAll (l.map D) := by
  intro l
  induction l with
  | nil => intro _; simp
  | cons a l ih =>
    intro h
    have h1 := h a (List.mem_cons_self ..)
    have h2 := ih fun k hk => h k (List.mem_cons_of_mem _ hk)
    simp only [List.map_cons, List.sum_cons, List.length_cons, Rows.uptoBulkAll] at h2 ⊢
    omega
theorem sum_two {α : Type} {f g : α → Nat} : ∀ l : List α, (l.map fun x => f x + g x).sum = (l.map f).sum + (l.map g).sum := by
  intro l
  induction l with
  | nil => rfl
  | cons a l ih => simp only [List.map_cons, List.sum_cons, ih]; omega
theorem sum_mem {α : Type} {f : α → Nat} : ∀ {l : List α} {x : α}, x ∈ l → f x ≤ (l.map f).sum := by
  intro l
  induction l with
  | nil => intro x h; cases h
  | cons a l ih =>
    intro x h
    simp only [List.map_cons, List.sum_cons]
    rcases List.mem_cons.1 h with rfl | h
    · omega
    · have := ih h; omega
instance : Inhabited StmP := ⟨(⟨0, [], [], []⟩, .slice none 0 0, .slice none 0 0)⟩
/-- what a statement of an argument is not too long for -/
def StmSz (x : StmD) : Prop := x.label.length ≤ maxLen ∧ (∀ s ∈ x.text, s.length ≤ maxLen) ∧ ∀ s ∈ x.proof, s.length ≤ maxLen
set_option maxRecDepth 100000 in
theorem stms_of_trod {fuel : Nat} {cs : List Value} {x : DataW H × List MemPlace} (h : DataW.trod enc Tryd.prog w base spare held fuel 23 cs = some x) :
    ∃ v l, cs = [v] ∧ Stms w v l ∧ (∀ y ∈ l, StmSz y) ∧ nS l + zS l + l.length + 1 ≤ Rows.uptoBulk x.1 := by
  have hc : Tryd.prog.cellsOf 34 = 4 := by kernel_rfl
  obtain ⟨A, len, c, n, D, rfl, hl, hm, hbk, hx⟩ := rows_of_trod_b Tryd.underlying23 (by rw [hc]; decide) h
  rw [hc] at hx
  obtain ⟨S, hS⟩ := choose_lt (α := StmP) (p := fun k p => (∃ b o, A = some ⟨b, o, none⟩ ∧ ∀ i u, (stmCells p)[i]? = some u → w.cell? ⟨b, o + k * 4 + i, none⟩ = some u) ∧ Strs w p.2.1 p.1.text ∧ Strs w p.2.2 p.1.proof ∧ StmSz p.1 ∧ ((p.1.text.length + p.1.proof.length) + (p.1.label.length + (p.1.text ++ p.1.proof).flatten.length)) + 1 ≤ Rows.uptoBulk (D k)) (n := len) (fun k hk => by
    obtain ⟨b, o, cs', pl, hA, hlen, hcell, hy⟩ := hx k hk
    obtain ⟨p, rfl, h1, h2, h3, h4, h5, h6⟩ := stm_of_trod hy
    exact ⟨p, ⟨b, o, hA, hcell⟩, h1, h2, ⟨h3, h4, h5⟩, h6⟩)
  refine ⟨_, ((List.range len).map S).map (·.1), rfl, ⟨(List.range len).map S, rfl, ⟨A, c, by simp, by simpa using hl, by simp; omega, by rw [stmCells_len], fun h0 => ?_⟩, fun p hp => ?_⟩, ?_, ?_⟩
  · simp at h0
    obtain ⟨⟨b, o, hA, _⟩, _⟩ := hS 0 h0
    refine ⟨b, o, hA, fun j u hu => ?_⟩
    have hj : j < len * 4 := by have := (List.getElem?_eq_some_iff.1 hu).1; rw [stmCells_len] at this; simpa using this
    have hk : j / 4 < len := by omega
    obtain ⟨⟨b', o', hA', hcell⟩, _⟩ := hS (j / 4) hk
    obtain ⟨rfl, rfl⟩ := (by simpa [hA] using hA' : b = b' ∧ o = o')
    have hr := flatR 4 stmCells (fun _ => rfl) ((List.range len).map S) (j / 4) (j % 4) (S (j / 4)) (by simp [hk]) (by omega)
    rw [show j / 4 * 4 + j % 4 = j by omega, hu] at hr
    have := hcell (j % 4) u hr.symm
    rwa [show o + j / 4 * 4 + j % 4 = o + j by omega] at this
  · obtain ⟨k, hk, rfl⟩ := List.mem_map.1 hp
    have := (hS k (List.mem_range.1 hk)).2
    exact ⟨this.1, this.2.1⟩
  · intro y hy
    obtain ⟨p, hp, rfl⟩ := List.mem_map.1 hy
    obtain ⟨k, hk, rfl⟩ := List.mem_map.1 hp
    exact (hS k (List.mem_range.1 hk)).2.2.2.1
  · have h1 := bulk_map2 (f := fun p : StmP => (p.1.text.length + p.1.proof.length) + (p.1.label.length + (p.1.text ++ p.1.proof).flatten.length)) (S := S) (D := D) (List.range len) fun k hk => (hS k (List.mem_range.1 hk)).2.2.2.2
    rw [sum_two] at h1
    unfold nS zS
    simp only [List.map_map, Function.comp_def, List.length_map, List.length_range] at h1 ⊢
    omega
end
end Go.Proofs.YtpmbfcogkoiogaaDoor
