/- A region that draws, in a round of a range over a function: by an invariant over what has been carried out. -/
import Derived.Test.YtpmbfcogkoiogaaDoorRangeA
import Derived.OrdersIn
namespace Go.Proofs.YtpmbfcogkoiogaaDoor
section
variable {F : Fence} {n : Nat} {P : Program} {md : Region.Mode} {ops : Array Oper} {Q : Exit → Act → World → Prop} {listed : Array Bool}
theorem mem_ready {i : Nat} (h : i ∈ Region.ready md ops listed) : i < ops.size ∧ listed.getD i true = false ∧ ∀ o, ops[i]? = some o → (o.after.all fun e => !Region.binds md e || listed.getD e.on false) = true := by
  unfold Region.ready at h
  obtain ⟨h1, h2⟩ := List.mem_filter.1 h
  rw [Bool.and_eq_true] at h2
  refine ⟨List.mem_range.1 h1, by simpa using h2.1, fun o ho => ?_⟩
  have := h2.2
  rw [ho] at this
  simpa using this
/-- each operation waits for earlier ones alone -/
def acyc (md : Region.Mode) (ops : Array Oper) : Bool := (List.range ops.size).all fun i => ((ops[i]?).map fun o => o.after.all fun e => !Region.binds md e || decide (e.on < i)).getD true
theorem all_listed (hac : acyc md ops = true) (hr : Region.ready md ops listed = []) (hs : listed.size = ops.size) : ∀ i, i < ops.size → listed.getD i true = true := by
  intro i
  induction i using Nat.strongRecOn with
  | _ i ih =>
    intro hi
    cases hl : listed.getD i true with
    | true => rfl
    | false =>
      exfalso
      have hm : i ∈ Region.ready md ops listed := by
        unfold Region.ready
        refine List.mem_filter.2 ⟨List.mem_range.2 hi, ?_⟩
        rw [hl, Array.getElem?_eq_getElem hi]
        simp only [Bool.not_false, Bool.true_and, Option.map_some, Option.getD_some]
        have ha := List.all_eq_true.1 hac i (List.mem_range.2 hi)
        rw [Array.getElem?_eq_getElem hi] at ha
        simp only [Option.map_some, Option.getD_some] at ha
        rw [Array.all_eq_true_iff_forall_mem] at ha ⊢
        intro e he
        have h1 := ha e he
        rw [Bool.or_eq_true] at h1 ⊢
        rcases h1 with h1 | h1
        · exact .inl h1
        · have h2 := of_decide_eq_true h1
          have h3 := ih e.on h2 (by omega)
          refine .inr ?_
          rw [Array.getD_eq_getD_getElem?, Array.getElem?_eq_getElem (by omega)] at h3 ⊢
          simpa using h3
      rw [hr] at hm
      cases hm
theorem wpAnyIn_inv {Inv : Array Bool → Act → World → Prop} (hac : acyc md ops = true) (hsz : ∀ listed a w, Inv listed a w → listed.size = ops.size)
    (step : ∀ (i : Nat) (listed : Array Bool) (a : Act) (w : World), i < ops.size → Inv listed a w → listed.getD i true = false → (∀ o, ops[i]? = some o → (o.after.all fun e => !Region.binds md e || listed.getD e.on false) = true) →
      wpOpIn F n P ops Q i (fun a' w' => Inv (listed.setIfInBounds i true) a' w') a w)
    (done : ∀ listed a w, Inv listed a w → (∀ i, i < ops.size → listed.getD i true = true) → Q .normal a w) :
    ∀ (fuel : Nat) (listed : Array Bool) (a : Act) (w : World), Inv listed a w → listed.toList.count false ≤ fuel → wpAnyIn F n P md ops Q fuel listed a w := by
  intro fuel
  induction fuel with
  | zero =>
    intro listed a w h hc
    have hr : Region.ready md ops listed = [] := by
      refine List.eq_nil_iff_forall_not_mem.2 fun i hi => ?_
      obtain ⟨h1, h2, _⟩ := mem_ready hi
      have hlt : i < listed.size := by rw [hsz _ _ _ h]; exact h1
      rw [Array.getD_eq_getD_getElem?, Array.getElem?_eq_getElem hlt] at h2
      have h3 : false ∈ listed.toList := by
        have h4 : listed[i] = false := by simpa using h2
        rw [← h4]
        exact Array.getElem_mem_toList hlt
      have := List.count_pos_iff.2 h3
      omega
    exact ⟨hr, done _ _ _ h (all_listed hac hr (hsz _ _ _ h))⟩
  | succ fuel ih =>
    intro listed a w h hc
    refine ⟨fun hr => done _ _ _ h (all_listed hac hr (hsz _ _ _ h)), fun i hi => ?_⟩
    obtain ⟨h1, h2, h3⟩ := mem_ready hi
    refine wpOpIn_mono (fun a' w' h' => ih _ _ _ h' ?_) (step i listed a w h1 h h2 h3)
    have hlt : i < listed.size := by rw [hsz _ _ _ h]; exact h1
    rw [Array.getD_eq_getD_getElem?, Array.getElem?_eq_getElem hlt] at h2
    have h4 : listed[i] = false := by simpa using h2
    rw [Array.toList_setIfInBounds, List.count_set (by simpa using hlt)]
    have h5 : listed.toList[i]'(by simpa using hlt) = false := by simpa using h4
    rw [h5]
    have h6 : 0 < listed.toList.count false := List.count_pos_iff.2 (by rw [← h4]; exact Array.getElem_mem_toList hlt)
    rw [if_pos (by decide), if_neg (by decide)]
    omega
end
end Go.Proofs.YtpmbfcogkoiogaaDoor
