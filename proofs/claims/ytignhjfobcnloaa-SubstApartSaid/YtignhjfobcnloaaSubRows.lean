/- Rows of elements of two cells each: their cells, stores into them, clear. -/
import Derived.Test.YtignhjfobcnloaaBase2
import Derived.Shelf.GgSortFunc.InsertionK
import Derived.Shelf.SlSortFuncK.RowK2
import Derived.Lib.SlicesCompact
import Derived.Lib.SlKept
import Derived.Lib.SliceRun
namespace Go.Proofs.Ytignhjfobcnloaa
open Go.RowKit Go.Sort
section
variable {α : Type} [Inhabited α] {enc : α → List Value}
theorem flatK_at (d : Array α) {i c : Nat} (hi : i < d.size) (hc : c < 2) : (flatK enc 2 d)[i * 2 + c]? = some ((enc d[i]!)[c]!) := by
  have lt : i * 2 + c < d.size * 2 := by omega
  have h := get_flatK enc 2 d (i * 2 + c) lt
  rw [show (i * 2 + c) / 2 = i by omega, show (i * 2 + c) % 2 = c by omega] at h
  rw [← h, getElem!_pos _ _ (by simpa using lt)]
  exact Array.getElem?_eq_getElem (by simpa using lt)
theorem flatK_set (d : Array α) (i : Nat) (hi : i < d.size) (x : α) : ((flatK enc 2 d).setIfInBounds (i * 2) (enc x)[0]!).setIfInBounds (i * 2 + 1) (enc x)[1]! = flatK enc 2 (d.setIfInBounds i x) := by
  refine ext_get! (by simp) fun t ht => ?_
  have ht' : t < d.size * 2 := by simpa using ht
  rw [get_flatK _ _ (d.setIfInBounds i x) t (by simpa using ht')]
  by_cases h1 : t = i * 2 + 1
  · subst h1
    rw [getElem!_set_same _ _ _ (by simp; omega), show (i * 2 + 1) / 2 = i by omega, show (i * 2 + 1) % 2 = 1 by omega, getElem!_set_same d i x hi]
  · rw [getElem!_set_other _ _ _ _ h1]
    by_cases h0 : t = i * 2
    · subst h0
      rw [getElem!_set_same _ _ _ (by simp; omega), show (i * 2) / 2 = i by omega, show (i * 2) % 2 = 0 by omega, getElem!_set_same d i x hi]
    · rw [getElem!_set_other _ _ _ _ h0, get_flatK _ _ d t ht', getElem!_set_other d i (t / 2) x (by omega)]
theorem Row.at0 {w : World} {g : Nat} {T : TypeId} {d : Array α} (h : Row w g T (flatK enc 2 d)) {i : Nat} (hi : i < d.size) : w.cell? ⟨g, i * 2, none⟩ = some ((enc d[i]!)[0]!) := h.cell (flatK_at d hi (c := 0) (by decide))
theorem Row.at1 {w : World} {g : Nat} {T : TypeId} {d : Array α} (h : Row w g T (flatK enc 2 d)) {i : Nat} (hi : i < d.size) : w.cell? ⟨g, i * 2 + 1, none⟩ = some ((enc d[i]!)[1]!) := h.cell (flatK_at d hi (c := 1) (by decide))
theorem Row.setElem {w : World} {g : Nat} {T : TypeId} {d : Array α} (h : Row w g T (flatK enc 2 d)) {i : Nat} (hi : i < d.size) (x : α) : Row ((w.setCell ⟨g, i * 2, none⟩ (enc x)[0]!).setCell ⟨g, i * 2 + 1, none⟩ (enc x)[1]!) g T (flatK enc 2 (d.setIfInBounds i x)) := by
  rw [← flatK_set d i hi x]
  exact (h.set _ _).set _ _
/-- a row behind the sort -/
theorem Row.sorted {w : World} {g : Nat} {T : TypeId} {cur : Array Value} (h : Row w g T cur) (d : Array α) (hz : cur.size = d.size * 2) (m : Nat) (os : Array Obj) : Row (sortWorldK enc 2 w g 0 m d os) g T (flatK enc 2 d) := by
  have e : putCells id 0 (flatK enc 2 d) cur = flatK enc 2 d := by
    refine ext_get! (by simp [putCells, hz]) fun t ht => ?_
    have ht' : t < cur.size := by simpa [putCells] using ht
    rw [getElem!_pos _ t ht]
    simp only [putCells, Array.getElem_mapIdx]
    rw [if_pos ⟨Nat.zero_le _, by rw [size_flatK]; omega⟩, Nat.sub_zero]
    rfl
  show ((w.heap.modify g (onCells (putCells id 0 (flatK enc 2 d)))) ++ os)[g]? = _
  have hg := h.lt
  rw [Array.getElem?_append_left (by simpa using hg), Array.getElem?_modify, if_pos rfl, show w.heap[g]? = _ from h]
  simp only [Option.map_some, onCells, e]
end
theorem Row.setCells {g : Nat} {T : TypeId} : ∀ (vs : List Value) (w : World) (cs : Array Value) (o : Nat), Row w g T cs → Row (w.setCells g o vs) g T (setMany cs o vs) := by
  intro vs
  induction vs with
  | nil => intro w cs o h; exact h
  | cons v r ih =>
    intro w cs o h
    rw [World.setCells, setMany]
    exact ih _ _ _ (h.set o v)
theorem below_setCells {g B : Nat} {a : World} (hg : B ≤ g) : ∀ (vs : List Value) (w : World) (o : Nat), Below B a w → Below B a (w.setCells g o vs) := by
  intro vs
  induction vs with
  | nil => intro w o h; exact h
  | cons v r ih =>
    intro w o h
    rw [World.setCells]
    exact ih _ _ (h.setCell (p := ⟨g, o, none⟩) hg v)
theorem run_clear2 {P : Program} (w : World) (t e ty : TypeId) (z0 z1 : Value) (ht : P.underlying t = some (.slice e)) (hv : ∀ w, (zeroValue e).run P w = .ok (.agg #[z0, z1]) w) (h0 : z0.oneCell' = true) (h1 : z1.oneCell' = true) (b o n c : Nat) (hn : 0 < n)
    (hc : ∀ j, j < n * 2 → (w.cell? ⟨b, o + j, none⟩).isSome = true) (hf : ∀ j, j < n * 2 → w.frozen? ⟨b, o + j, none⟩ = false) :
    ∃ vs : List Value, vs.length = n * 2 ∧ (Builtin.clear_ #[t] ty #[.slice (some ⟨b, o, none⟩) n c]).run P w = .ok (.tuple #[]) (w.setCells b o vs) := by
  have hl : (Builtin.zeroCells (Value.cells (.agg #[z0, z1])) n).toList.length = n * 2 := by simp [Builtin.zeroCells, Value.cells]
  refine ⟨_, hl, ?_⟩
  have h2 : ∀ v ∈ (Builtin.zeroCells (Value.cells (.agg #[z0, z1])) n).toList, v.oneCell' = true := by
    intro v hv
    simp only [Builtin.zeroCells, Value.cells, Array.toList_map, List.mem_map] at hv
    obtain ⟨i, _, rfl⟩ := hv
    rcases (show i % 2 = 0 ∨ i % 2 = 1 by omega) with e | e
    · show (#[z0, z1][i % 2]!).oneCell' = true
      rw [e]; exact h0
    · show (#[z0, z1][i % 2]!).oneCell' = true
      rw [e]; exact h1
  have hst := run_storeCells_cells (P := P) b o (Builtin.zeroCells (Value.cells (.agg #[z0, z1])) n).toList 0 w (by rw [hl]; simpa using hc) (by rw [hl]; simpa using hf) h2
  simp only [Nat.add_zero] at hst
  obtain ⟨m, rfl⟩ : ∃ m, n = m + 1 := ⟨n - 1, by omega⟩
  simp [Builtin.clear_, run_underlying ht, hv, hst]
section
open Go.Lib
variable {α : Type} [Inhabited α] [DecidableEq α]
theorem compact_cons (x y : α) (r : List α) : compact (x :: y :: r) = if x = y then compact (y :: r) else x :: compact (y :: r) := by
  have hr2 : List.range (r.length + 2) = 0 :: 1 :: (List.range r.length).map (· + 2) := by
    rw [List.range_succ_eq_map, List.range_succ_eq_map, List.map_cons, List.map_map]
    rfl
  have hr1 : List.range (r.length + 1) = 0 :: (List.range r.length).map (· + 1) := by
    rw [List.range_succ_eq_map]
  have hA : ∀ j, ((x :: y :: r).toArray)[j + 1]! = ((y :: r).toArray)[j]! := fun j => by simp [Array.getElem!_eq_getD, Array.getD_eq_getD_getElem?]
  have hk : ∀ j, keeps (x :: y :: r).toArray (j + 2) = keeps (y :: r).toArray (j + 1) := fun j => by
    unfold keeps
    rw [hA (j + 1), show j + 2 - 1 = j + 1 by omega, hA j, show j + 1 - 1 = j by omega]
    simp
  have h0 : keeps (x :: y :: r).toArray 0 = true := by simp [keeps]
  have h0' : keeps (y :: r).toArray 0 = true := by simp [keeps]
  have h1 : keeps (x :: y :: r).toArray 1 = decide (y ≠ x) := by simp [keeps]
  have tail : (((List.range r.length).map (· + 2)).filter (keeps (x :: y :: r).toArray)).map ((x :: y :: r).toArray[·]!) = (((List.range r.length).map (· + 1)).filter (keeps (y :: r).toArray)).map ((y :: r).toArray[·]!) := by
    rw [List.filter_map, List.filter_map, List.map_map, List.map_map]
    have e1 : (keeps (x :: y :: r).toArray ∘ fun j => j + 2) = (keeps (y :: r).toArray ∘ fun j => j + 1) := funext fun j => hk j
    rw [e1]
    congr 1
    funext j
    exact hA (j + 1)
  unfold compact compactUpTo
  rw [show (x :: y :: r).length = r.length + 2 from rfl, show (y :: r).length = r.length + 1 from rfl, hr2, hr1, List.filter_cons, if_pos h0, List.filter_cons, h1, List.filter_cons (x := 0), if_pos h0']
  by_cases hxy : x = y
  · subst hxy
    simp only [ne_eq, not_true_eq_false, decide_false, Bool.false_eq_true, if_false, if_true, List.map_cons]
    rw [tail]
    rfl
  · have hyx : y ≠ x := fun e => hxy e.symm
    simp only [hyx, ne_eq, not_false_eq_true, decide_true, if_true, if_neg hxy, List.map_cons]
    rw [tail]
    rfl
end
end Go.Proofs.Ytignhjfobcnloaa
