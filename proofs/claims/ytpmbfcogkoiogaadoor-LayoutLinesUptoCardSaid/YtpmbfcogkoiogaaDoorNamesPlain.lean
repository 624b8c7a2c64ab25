/- Labels of a compressed proof, and its numbers: when they are right. -/
import Derived.Test.YtpmbfcogkoiogaaDoorPlainA
namespace Go.Proofs.YtpmbfcogkoiogaaDoor
/-- the labels are labels, and no two are equal -/
def namesS (l : List (List UInt8)) : Prop := (∀ s ∈ l, onlyS s [2]) ∧ l.Nodup
instance (l : List (List UInt8)) : Decidable (namesS l) := by unfold namesS; infer_instance
theorem namesS_all {l : List (List UInt8)} {k : Nat} (hk : l.length ≤ k) (h : namesS (l.take k)) : namesS l := by rwa [List.take_of_length_le hk] at h
theorem namesS_snoc {l : List (List UInt8)} {k : Nat} {s : List UInt8} (hs : l[k]? = some s) (h : namesS (l.take k)) (h1 : onlyS s [2]) (h2 : s ∉ l.take k) : namesS (l.take (k + 1)) := by
  refine ⟨all_snoc hs h.1 h1, ?_⟩
  rw [take_snoc hs]
  exact List.nodup_append.2 ⟨h.2, by simp, fun a ha b hb => by simp at hb; subst hb; exact fun e => h2 (e ▸ ha)⟩
theorem namesS_bad1 {l : List (List UInt8)} {k : Nat} {s : List UInt8} (hs : l[k]? = some s) (h1 : ¬ onlyS s [2]) : ¬ namesS l := fun h => h1 (h.1 s (List.mem_of_getElem? hs))
theorem namesS_bad2 {l : List (List UInt8)} {k : Nat} {s : List UInt8} (hs : l[k]? = some s) (h2 : s ∈ l.take k) : ¬ namesS l := fun h => by
  have hn := h.2
  rw [← List.take_append_drop k l] at hn
  have h3 := (List.nodup_append.1 hn).2.2 s h2 s
  refine h3 ?_ rfl
  have : (l.drop k)[0]? = some s := by rw [List.getElem?_drop]; simpa using hs
  exact List.mem_of_getElem? this
/-- a number behind the numbers p may stand -/
def okNum (p : Option Int) (n : Int) : Prop := -1 ≤ n ∧ n ≤ 1000000 ∧ (n = 0 → ∃ m, p = some m ∧ 1 ≤ m)
def rightS : Option Int → List Int → Prop
  | _, [] => True
  | p, n :: t => okNum p n ∧ rightS (some n) t
instance (p : Option Int) (n : Int) : Decidable (okNum p n) := by
  unfold okNum
  cases p with
  | none => exact decidable_of_iff (-1 ≤ n ∧ n ≤ 1000000 ∧ n ≠ 0) (by simp)
  | some m => exact decidable_of_iff (-1 ≤ n ∧ n ≤ 1000000 ∧ (n = 0 → 1 ≤ m)) (by simp)
instance decRightS : ∀ (l : List Int) (p : Option Int), Decidable (rightS p l)
  | [], _ => .isTrue trivial
  | n :: t, p => by
    have := decRightS t (some n)
    unfold rightS
    infer_instance
theorem rightS_iff : ∀ (l : List Int) (p : Option Int), rightS p l ↔ ∀ k n, l[k]? = some n → okNum (if k = 0 then p else l[k - 1]?) n := by
  intro l
  induction l with
  | nil => intro p; simp [rightS]
  | cons a l ih =>
    intro p
    unfold rightS
    rw [ih]
    constructor
    · rintro ⟨h1, h2⟩ k n hk
      cases k with
      | zero => simp at hk; subst hk; simpa using h1
      | succ k =>
        have := h2 k n (by simpa using hk)
        cases k with
        | zero => simpa using this
        | succ k => simpa using this
    · intro h
      refine ⟨by simpa using h 0 a rfl, fun k n hk => ?_⟩
      have := h (k + 1) n (by simpa using hk)
      cases k with
      | zero => simpa using this
      | succ k => simpa using this
end Go.Proofs.YtpmbfcogkoiogaaDoor
