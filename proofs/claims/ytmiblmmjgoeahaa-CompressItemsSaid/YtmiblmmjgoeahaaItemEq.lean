/- slices.EqualFunc of two lists of items that read as the same list. -/
import Derived.Test.YtmiblmmjgoeahaaItemRef
import Derived.Laws.StructEq
namespace Go.Proofs.Ytmiblmmjgoeahaa
open Go.RowKit
theorem flat4 {α : Type} (f : α → List Value) (hf : ∀ x, (f x).length = 4) : ∀ (l : List α) (k i : Nat) (x : α), l[k]? = some x → i < 4 → (l.flatMap f)[k * 4 + i]? = (f x)[i]? := by
  intro l
  induction l with
  | nil => intro k i x h; simp at h
  | cons a l ih =>
    intro k i x h hi
    rw [List.flatMap_cons]
    cases k with
    | zero =>
      obtain rfl : a = x := by simpa using h
      rw [List.getElem?_append_left (by rw [hf]; omega)]
      congr 1; omega
    | succ k =>
      rw [List.getElem?_append_right (by rw [hf]; omega), hf]
      rw [← ih k i x (by simpa using h) hi]
      congr 1; omega
theorem ItemsAt.open_ {w : World} {v : Value} {l : List ItemD} (h : ItemsAt w v l) : ∃ A c, v = .slice A l.length c ∧ l.length ≤ c ∧ l.length ≤ maxLen ∧
    (∀ k x, l[k]? = some x → ∃ b o, A = some ⟨b, o, none⟩ ∧ w.cell? ⟨b, o + k * 4, none⟩ = some (.string ⟨x.1.toArray⟩) ∧ w.cell? ⟨b, o + k * 4 + 1, none⟩ = some (.int .i64 x.2.1) ∧ w.cell? ⟨b, o + k * 4 + 2, none⟩ = some (.bool x.2.2.1) ∧ w.cell? ⟨b, o + k * 4 + 3, none⟩ = some (.bool x.2.2.2)) := by
  obtain ⟨A, c, hv, hc, hm, hl, hr⟩ := h
  refine ⟨A, c, hv, hc, hm, fun k x hx => ?_⟩
  have hk : k < l.length := (List.getElem?_eq_some_iff.1 hx).1
  obtain ⟨b, o, ha, hz⟩ := hr (by omega)
  have hf := fun i hi => flat4 itemCells (fun _ => rfl) l k i x hx hi
  refine ⟨b, o, ha, ?_, ?_, ?_, ?_⟩
  · exact hz (k * 4) _ (hf 0 (by omega))
  · exact hz (k * 4 + 1) _ (hf 1 (by omega))
  · exact hz (k * 4 + 2) _ (hf 2 (by omega))
  · exact hz (k * 4 + 3) _ (hf 3 (by omega))
theorem ItemsAt.below {w w' : World} {v : Value} {l : List ItemD} (h : ItemsAt w v l) (hb : Below w.heap.size w w') : ItemsAt w' v l := Rds.below h hb
theorem notHeld : Try.prog.stoodInHeld 48 = false := by kernel_rfl
theorem item_eq (w : World) (s : List UInt8) (n : Int) (a b : Bool) :
    Calls Try.prog 26 #[.agg #[.string ⟨s.toArray⟩, .int .i64 n, .bool a, .bool b], .agg #[.string ⟨s.toArray⟩, .int .i64 n, .bool a, .bool b]] w fun e w' => e = .returned (.bool true) ∧ Below w.heap.size w w' := by
  have hh := notHeld
  go_enter Try.func26, Try.ntmps26
  go_wp2
  go_ret
  exact ⟨rfl, new_ (new_ (Below.refl _ _) _) _⟩
set_option maxRecDepth 20000 in
theorem equalFunc_items (w : World) (v1 v2 : Value) (l : List ItemD) (h1 : ItemsAt w v1 l) (h2 : ItemsAt w v2 l) :
    Calls Try.prog 25 #[v1, v2, .func (.func 26) #[] #[]] w fun e w' => e = .returned (.bool true) ∧ Below w.heap.size w w' := by
  have h10 := h1
  have h20 := h2
  obtain ⟨A1, c1, rfl, hc1, hm1, hx1⟩ := h1.open_
  obtain ⟨A2, c2, rfl, hc2, hm2, hx2⟩ := h2.open_
  unfold maxLen at hm1 hm2
  clear hx1 hx2 h1 h2
  go_enter Try.func25, Try.ntmps25
  go_wp2
  go_loopw [17] (fun i wr => ∃ k : Nat, k ≤ l.length ∧ i = .int .i64 k ∧ Below w.heap.size w wr) (fun i _ => l.length - (intOf i).toNat)
  case atStart => exact ⟨0, Nat.zero_le _, rfl, Below.refl _ _⟩
  case round =>
    obtain ⟨k, hk, rfl, hb⟩ := hrel
    have hB := hb.size
    by_cases hlt : k < l.length
    · obtain ⟨y, hy⟩ : ∃ y, l[k]? = some y := ⟨_, List.getElem?_eq_getElem hlt⟩
      obtain ⟨A1', q1, hv1, _, _, hx1⟩ := (h10.below hb).open_
      obtain ⟨rfl, _, rfl⟩ := (by simpa using hv1 : A1 = A1' ∧ True ∧ c1 = q1)
      obtain ⟨A2', q2, hv2, _, _, hx2⟩ := (h20.below hb).open_
      obtain ⟨rfl, _, rfl⟩ := (by simpa using hv2 : A2 = A2' ∧ True ∧ c2 = q2)
      obtain ⟨b1, o1, rfl, s1, s2, s3, s4⟩ := hx1 k y hy
      obtain ⟨b2, o2, rfl, r1, r2, r3, r4⟩ := hx2 k y hy
      have l1 := block_lt_of_cell s1
      have l2 := block_lt_of_cell r1
      clear hx1 hx2 hy hv1 hv2
      go_wp2_with (go_at_call 26; refine (item_eq _ y.1 y.2.1 y.2.2.1 y.2.2.2).mono ?_; rintro e w' ⟨rfl, hb'⟩)
      go_roundw
      case rel => exact ⟨k + 1, by omega, by go_num, then_ (new_ (new_ hb _) _) hb'⟩
      case measure => simp [intOf]; omega
    · go_wp2
      go_ret
      exact ⟨rfl, hb⟩
