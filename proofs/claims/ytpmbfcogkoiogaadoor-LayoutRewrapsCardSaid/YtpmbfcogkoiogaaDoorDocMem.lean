/- A document in memory: its parts. -/
import Derived.Test.YtpmbfcogkoiogaaDoorAppA
import Derived.Test.YtpmbfcogkoiogaaDoorDocPA
namespace Go.Proofs.YtpmbfcogkoiogaaDoor
open Go.RowKit
/-- a statement, the slices of its symbols, its proof and its gaps; the gaps -/
abbrev PartP := StmD × Value × Value × Value × List (List UInt8)
abbrev PartD := StmD × List (List UInt8)
def partD (p : PartP) : PartD := (p.1, p.2.2.2.2)
def partCells (p : PartP) : List Value := [.int .i64 p.1.kind, .string ⟨p.1.label.toArray⟩, p.2.1, p.2.2.1, p.2.2.2.1]
/-- the three slices of a part -/
structure PartAt (w : World) (x : PartP) : Prop where
  t : Strs w x.2.1 x.1.text
  p : Strs w x.2.2.1 x.1.proof
  g : Strs w x.2.2.2.1 x.2.2.2.2
/-- the slice value v reads as the parts d -/
def Parts (w : World) (v : Value) (d : List PartD) : Prop :=
  ∃ ps : List PartP, d = ps.map partD ∧ Rds w 5 v ps.length (ps.flatMap partCells) ∧ ∀ p ∈ ps, PartAt w p
section
variable {w w' : World} {base n size : Nat} {v V : Value} {d : List PartD} {ps : List PartP} {xs : List Value} {E t : TypeId}
theorem PartAt.below {p : PartP} (h : PartAt w p) (hb : Below w.heap.size w w') : PartAt w' p := ⟨h.t.below hb, h.p.below hb, h.g.below hb⟩
theorem PartAt.form {p : PartP} (h : PartAt w p) : (∃ A c, p.2.1 = .slice A p.1.text.length c) ∧ (∃ A c, p.2.2.1 = .slice A p.1.proof.length c) ∧ ∃ A c, p.2.2.2.1 = .slice A p.2.2.2.2.length c :=
  ⟨let ⟨A, c, h, _⟩ := h.t.open_; ⟨A, c, h⟩, let ⟨A, c, h, _⟩ := h.p.open_; ⟨A, c, h⟩, let ⟨A, c, h, _⟩ := h.g.open_; ⟨A, c, h⟩⟩
theorem partCells_len (ps : List PartP) : (ps.flatMap partCells).length = ps.length * 5 := by
  induction ps with
  | nil => rfl
  | cons p r ih => rw [List.flatMap_cons, List.length_append, ih]; simp [partCells]; omega
theorem Parts.nil (w : World) : Parts w (.slice none 0 0) [] := ⟨[], rfl, Rds.nil_, fun _ h => nomatch h⟩
theorem Parts.below (h : Parts w v d) (hb : Below w.heap.size w w') : Parts w' v d := by
  obtain ⟨ps, e, hr, hx⟩ := h
  exact ⟨ps, e, hr.below hb, fun p hp => (hx p hp).below hb⟩
theorem Parts.form (h : Parts w v d) : ∃ A c, v = .slice A d.length c := by
  obtain ⟨ps, rfl, ⟨A, c, hv, _⟩, _⟩ := h
  exact ⟨A, c, by simpa using hv⟩
theorem Parts.len (h : Parts w v d) : d.length ≤ maxLen := by
  obtain ⟨ps, rfl, ⟨A, c, _, _, hm, _⟩, _⟩ := h
  simpa using hm
/-- an element of a list of parts -/
theorem Parts.open_ (h : Parts w v d) : ∃ A c, v = .slice A d.length c ∧ d.length ≤ c ∧ d.length ≤ maxLen ∧
    ∀ k x, d[k]? = some x → ∃ b o tv pv gv, A = some ⟨b, o, none⟩ ∧ w.cell? ⟨b, o + k * 5, none⟩ = some (.int .i64 x.1.kind) ∧ w.cell? ⟨b, o + k * 5 + 1, none⟩ = some (.string ⟨x.1.label.toArray⟩) ∧ w.cell? ⟨b, o + k * 5 + 2, none⟩ = some tv ∧ w.cell? ⟨b, o + k * 5 + 3, none⟩ = some pv ∧ w.cell? ⟨b, o + k * 5 + 4, none⟩ = some gv ∧ Strs w tv x.1.text ∧ Strs w pv x.1.proof ∧ Strs w gv x.2 := by
  obtain ⟨ps, rfl, ⟨A, c, hv, hc, hm, hl, hr⟩, hx⟩ := h
  refine ⟨A, c, by simpa using hv, by simpa using hc, by simpa using hm, fun k x hk => ?_⟩
  rw [List.getElem?_map] at hk
  obtain ⟨p, hp, rfl⟩ := Option.map_eq_some_iff.1 hk
  have hlt : k < ps.length := (List.getElem?_eq_some_iff.1 hp).1
  obtain ⟨b, o, ha, hz⟩ := hr (by omega)
  have hf := fun i hi => flatR 5 partCells (fun _ => rfl) ps k i p hp hi
  have hh := hx p (List.mem_of_getElem? hp)
  exact ⟨b, o, p.2.1, p.2.2.1, p.2.2.2.1, ha, hz (k * 5) _ (hf 0 (by omega)), hz (k * 5 + 1) _ (hf 1 (by omega)), hz (k * 5 + 2) _ (hf 2 (by omega)), hz (k * 5 + 3) _ (hf 3 (by omega)), hz (k * 5 + 4) _ (hf 4 (by omega)), hh.t, hh.p, hh.g⟩
end
/-- the same, with the types of the blocks: what a document of a call's own is -/
def PartsT (w : World) (TP : TypeId) (v : Value) (d : List PartD) : Prop :=
  ∃ ps : List PartP, d = ps.map partD ∧ Rds w 5 v ps.length (ps.flatMap partCells) ∧ TyB w TP v ∧ ∀ p ∈ ps, PartAt w p ∧ TyB w 9 p.2.2.2.1 ∧ (∀ s ∈ p.1.text, s ≠ []) ∧ ∀ s ∈ p.1.proof, s ≠ []
theorem PartsT.parts {w : World} {TP : TypeId} {v : Value} {d : List PartD} (h : PartsT w TP v d) : Parts w v d := by
  obtain ⟨ps, e, hr, _, hx⟩ := h
  exact ⟨ps, e, hr, fun p hp => (hx p hp).1⟩
theorem PartsT.nil (w : World) (TP : TypeId) : PartsT w TP (.slice none 0 0) [] := ⟨[], rfl, Rds.nil_, TyB.nil, fun _ h => nomatch h⟩
/-- what the reading of a text returns -/
def DocPost (w : World) (r : List PartD × List UInt8 × Nat × Int) (e : Ending) (w' : World) : Prop :=
  ∃ v, e = .returned (.tuple #[.agg #[v, .string ⟨r.2.1.toArray⟩], .int .i64 (r.2.2.1 : Nat), .int .i64 r.2.2.2]) ∧ Parts w' v r.1 ∧ Below w.heap.size w w'
def DocPostT (TP : TypeId) (w : World) (r : List PartD × List UInt8 × Nat × Int) (e : Ending) (w' : World) : Prop :=
  ∃ v, e = .returned (.tuple #[.agg #[v, .string ⟨r.2.1.toArray⟩], .int .i64 (r.2.2.1 : Nat), .int .i64 r.2.2.2]) ∧ PartsT w' TP v r.1 ∧ Below w.heap.size w w'
theorem DocPostT.post {TP : TypeId} {w w' : World} {r : List PartD × List UInt8 × Nat × Int} {e : Ending} (h : DocPostT TP w r e w') : DocPost w r e w' := by
  obtain ⟨v, he, hp, hb⟩ := h
  exact ⟨v, he, hp.parts, hb⟩
end Go.Proofs.YtpmbfcogkoiogaaDoor
