/- Lists of statements in memory. -/
import Derived.Test.YtpmbfcogkoiogaaDoorLayApp
import Derived.Test.YtpmbfcogkoiogaaDoorBldA
namespace Go.Proofs.YtpmbfcogkoiogaaDoor
open Go.RowKit
theorem flatR {α : Type} (n : Nat) (f : α → List Value) (hf : ∀ x, (f x).length = n) : ∀ (l : List α) (k i : Nat) (x : α), l[k]? = some x → i < n → (l.flatMap f)[k * n + i]? = (f x)[i]? := by
  intro l
  induction l with
  | nil => intro k i x h; simp at h
  | cons a l ih =>
    intro k i x h hi
    rw [List.flatMap_cons]
    cases k with
    | zero =>
      obtain rfl : a = x := by simpa using h
      rw [List.getElem?_append_left (by rw [hf]; omega)]
      congr 1; omega
    | succ k =>
      rw [List.getElem?_append_right (by rw [hf, Nat.succ_mul]; omega), hf]
      rw [← ih k i x (by simpa using h) hi]
      congr 1; rw [Nat.succ_mul]; omega
/-- a statement, and the slices that hold its symbols and its proof -/
abbrev StmP := StmD × Value × Value
def stmCells (p : StmP) : List Value := [.int .i64 p.1.kind, .string ⟨p.1.label.toArray⟩, p.2.1, p.2.2]
/-- the slice value v reads as the statements l -/
def Stms (w : World) (v : Value) (l : List StmD) : Prop :=
  ∃ ps : List StmP, l = ps.map (·.1) ∧ Rds w 4 v ps.length (ps.flatMap stmCells) ∧ ∀ p ∈ ps, Strs w p.2.1 p.1.text ∧ Strs w p.2.2 p.1.proof
/-- the same of a row of the call's own -/
def StmsO (w : World) (base : Nat) (v : Value) (l : List StmD) : Prop :=
  ∃ ps : List StmP, l = ps.map (·.1) ∧ w.ownsRow base 34 4 v ps.length (ps.flatMap stmCells) ∧ ∀ p ∈ ps, XAt w p.2.1 p.2.2 p.1
section
variable {w w' : World} {base n size : Nat} {v V : Value} {l : List StmD} {xs : List Value} {E t : TypeId}
theorem TyB.grown_at (h : TyB w E v) (ho : w.ownsRow base t size V n xs) (ht : t ≠ E) (hg : w.grownBy w' V.ownBlock) : ∀ k, v.ownBlock = some k → w'.heap[k]? = w.heap[k]? := by
  intro k e
  obtain ⟨c, fr, hk⟩ := h k e
  refine hg.block k (Array.getElem?_eq_some_iff.1 hk).1 fun e2 => ?_
  rcases ho.2 with ⟨rfl, _⟩ | ⟨g, cap, cur, rfl, _, hh, _⟩
  · cases e2
  · obtain rfl : k = g := by simpa [Value.ownBlock] using e2
    rw [hk] at hh
    exact ht (by simp at hh; exact hh.2.1.symm)
theorem TyB.grown (h : TyB w E v) (ho : w.ownsRow base t size V n xs) (ht : t ≠ E) (hg : w.grownBy w' V.ownBlock) : TyB w' E v := fun k e => by
  obtain ⟨c, fr, hk⟩ := h k e
  exact ⟨c, fr, (h.grown_at ho ht hg k e).trans hk⟩
theorem Rds.grown_ty {m sz : Nat} {ys : List Value} (hr : Rds w sz v m ys) (h : TyB w E v) (ho : w.ownsRow base t size V n xs) (ht : t ≠ E) (hg : w.grownBy w' V.ownBlock) : Rds w' sz v m ys :=
  hr.same fun k _ e o => by
    unfold World.cell?
    rw [h.grown_at ho ht hg k e]
theorem XAt.grown {tv pv : Value} {x : StmD} (h : XAt w tv pv x) (ho : w.ownsRow base 34 size V n xs) (hg : w.grownBy w' V.ownBlock) : XAt w' tv pv x :=
  ⟨Rds.grown_ty h.tx h.tt ho (by decide) hg, Rds.grown_ty h.px h.tp ho (by decide) hg, h.tt.grown ho (by decide) hg, h.tp.grown ho (by decide) hg⟩
theorem stmCells_len (ps : List StmP) : (ps.flatMap stmCells).length = ps.length * 4 := by
  induction ps with
  | nil => rfl
  | cons p r ih => rw [List.flatMap_cons, List.length_append, ih]; simp [stmCells]; omega
theorem stmCells_one (ps : List StmP) (h : ∀ p ∈ ps, (∃ A n c, p.2.1 = .slice A n c) ∧ ∃ A n c, p.2.2 = .slice A n c) : ∀ u ∈ ps.flatMap stmCells, u.oneCell' = true := by
  intro u hu
  obtain ⟨p, hp, hu⟩ := List.mem_flatMap.1 hu
  obtain ⟨⟨A, n, c, h1⟩, B, m, d, h2⟩ := h p hp
  simp [stmCells, h1, h2] at hu
  rcases hu with rfl | rfl | rfl | rfl <;> rfl
theorem Stms.nil (w : World) : Stms w (.slice none 0 0) [] := ⟨[], rfl, Rds.nil_, fun _ h => nomatch h⟩
theorem Stms.below (h : Stms w v l) (hb : Below w.heap.size w w') : Stms w' v l := by
  obtain ⟨ps, e, hr, hx⟩ := h
  exact ⟨ps, e, hr.below hb, fun p hp => ⟨(hx p hp).1.below hb, (hx p hp).2.below hb⟩⟩
theorem StmsO.below (h : StmsO w base v l) (hb : Below w.heap.size w w') : StmsO w' base v l := by
  obtain ⟨ps, e, hr, hx⟩ := h
  exact ⟨ps, e, own_below hr hb, fun p hp => (hx p hp).below hb⟩
theorem StmsO.stms (h : StmsO w base v l) : Stms w v l := by
  obtain ⟨ps, e, hr, hx⟩ := h
  exact ⟨ps, e, Rds.of_own hr, fun p hp => ⟨(hx p hp).tx, (hx p hp).px⟩⟩
theorem StmsO.nil (w : World) (base : Nat) : StmsO w base (.slice none 0 0) [] := ⟨[], rfl, ⟨rfl, .inl ⟨rfl, rfl⟩⟩, fun _ h => nomatch h⟩
theorem StmsO.len (h : StmsO w base v l) : ∃ A c, v = .slice A l.length c ∧ l.length ≤ c := by
  obtain ⟨ps, rfl, hr, _⟩ := h
  obtain ⟨A, c, h1, h2⟩ := own_form hr
  exact ⟨A, c, by simpa using h1, by simpa using h2⟩
/-- an element of a list of statements -/
theorem Stms.open_ (h : Stms w v l) : ∃ A c, v = .slice A l.length c ∧ l.length ≤ c ∧ l.length ≤ maxLen ∧
    ∀ k x, l[k]? = some x → ∃ b o tv pv, A = some ⟨b, o, none⟩ ∧ w.cell? ⟨b, o + k * 4, none⟩ = some (.int .i64 x.kind) ∧ w.cell? ⟨b, o + k * 4 + 1, none⟩ = some (.string ⟨x.label.toArray⟩) ∧ w.cell? ⟨b, o + k * 4 + 2, none⟩ = some tv ∧ w.cell? ⟨b, o + k * 4 + 3, none⟩ = some pv ∧ Strs w tv x.text ∧ Strs w pv x.proof := by
  obtain ⟨ps, rfl, ⟨A, c, hv, hc, hm, hl, hr⟩, hx⟩ := h
  refine ⟨A, c, by simpa using hv, by simpa using hc, by simpa using hm, fun k x hk => ?_⟩
  rw [List.getElem?_map] at hk
  obtain ⟨p, hp, rfl⟩ := Option.map_eq_some_iff.1 hk
  have hlt : k < ps.length := (List.getElem?_eq_some_iff.1 hp).1
  obtain ⟨b, o, ha, hz⟩ := hr (by omega)
  have hf := fun i hi => flatR 4 stmCells (fun _ => rfl) ps k i p hp hi
  have hh := hx p (List.mem_of_getElem? hp)
  exact ⟨b, o, p.2.1, p.2.2, ha, hz (k * 4) _ (hf 0 (by omega)), hz (k * 4 + 1) _ (hf 1 (by omega)), hz (k * 4 + 2) _ (hf 2 (by omega)), hz (k * 4 + 3) _ (hf 3 (by omega)), hh.1, hh.2⟩
/-- one more behind -/
theorem StmsO.snoc {ps : List StmP} {tv pv : Value} {x : StmD} (hp : ∀ p ∈ ps, XAt w p.2.1 p.2.2 p.1) (ho : w.ownsRow base 34 4 V ps.length (ps.flatMap stmCells)) (hx : XAt w tv pv x)
    (ho' : w'.ownsRow base 34 4 v (ps.length + 1) (ps.flatMap stmCells ++ [.int .i64 x.kind, .string ⟨x.label.toArray⟩, tv, pv])) (hg : w.grownBy w' V.ownBlock) : StmsO w' base v (ps.map (·.1) ++ [x]) := by
  refine ⟨ps ++ [(x, tv, pv)], by simp, ?_, fun p h => ?_⟩
  · simpa [stmCells] using ho'
  · rcases List.mem_append.1 h with h | h
    · exact (hp p h).grown ho hg
    · simp at h
      subst h
      exact hx.grown ho hg
end
theorem infoStm : (Tryd.prog.info? 34).map (fun i => (i.zero, i.size, i.bytes)) = some (some (.agg #[.int .i64 0, .string ⟨#[]⟩, .slice none 0 0, .slice none 0 0]), 4, 72) := by kernel_rfl
end Go.Proofs.YtpmbfcogkoiogaaDoor
