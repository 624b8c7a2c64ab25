/- The numbers of a compressed proof: both functions ask whether they are right. -/
import Derived.Test.YtpmbfcogkoiogaaDoorBase2
import Derived.Test.YtpmbfcogkoiogaaDoorNamesPlain
namespace Go.Proofs.YtpmbfcogkoiogaaDoor
open Go.RowKit
/-- a slice of ints, opened -/
theorem Ints.open_ {w : World} {v : Value} {l : List Int} (h : Ints w v l) : ∃ A c, v = .slice A l.length c ∧ l.length ≤ c ∧ l.length ≤ maxLen ∧
    (∀ (k : Nat) (n : Int), l[k]? = some n → ∃ b o, A = some ⟨b, o, none⟩ ∧ (∀ (j : Nat) (m : Int), l[j]? = some m → w.cell? ⟨b, o + j, none⟩ = some (.int .i64 m))) := by
  obtain ⟨A, c, hv, hc, hm, hl, hr⟩ := h
  refine ⟨A, c, hv, hc, hm, fun k n hk => ?_⟩
  have hk0 : k < l.length := (List.getElem?_eq_some_iff.1 hk).1
  obtain ⟨b, o, ha, hx⟩ := hr (by omega)
  exact ⟨b, o, ha, fun j m hj => hx j _ (by rw [List.getElem?_map, hj]; rfl)⟩
/-- the first k numbers are right -/
def RightTo (l : List Int) (k : Nat) : Prop := ∀ j n, j < k → l[j]? = some n → okNum (if j = 0 then none else l[j - 1]?) n
theorem rightTo_all {l : List Int} {k : Nat} (hk : l.length ≤ k) (h : RightTo l k) : rightS none l := by
  rw [rightS_iff]
  intro j n hj
  exact h j n (by have := (List.getElem?_eq_some_iff.1 hj).1; omega) hj
theorem rightTo_bad {l : List Int} {k : Nat} {n : Int} (hn : l[k]? = some n) (h : ¬ okNum (if k = 0 then none else l[k - 1]?) n) : ¬ rightS none l := by
  rw [rightS_iff]
  exact fun hr => h (hr k n hn)
theorem rightTo_step {l : List Int} {k : Nat} {n : Int} (hn : l[k]? = some n) (h : RightTo l k) (hk : okNum (if k = 0 then none else l[k - 1]?) n) : RightTo l (k + 1) := by
  intro j m hj hm
  by_cases e : j = k
  · subst e
    rw [hn] at hm
    cases hm
    exact hk
  · exact h j m (by omega) hm
end Go.Proofs.YtpmbfcogkoiogaaDoor
