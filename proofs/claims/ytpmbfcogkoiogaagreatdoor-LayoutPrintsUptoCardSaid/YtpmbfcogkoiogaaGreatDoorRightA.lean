/- Layout: isWhite, isBlank, beginsWhite, endsWhite of the program. Layout: right of the program. -/
import Derived.Test.YtpmbfcogkoiogaaGreatDoorBlankA
import Derived.Test.YtpmbfcogkoiogaaGreatDoorLayFnA
import Derived.Test.YtpmbfcogkoiogaaGreatDoorScanWA
import Derived.Test.YtpmbfcogkoiogaaGreatDoorStrA
import Derived.Test.YtpmbfcogkoiogaaGreatDoorFields
import Derived.Test.YtpmbfcogkoiogaaGreatDoorDocMem
section
namespace Go.Proofs.YtpmbfcogkoiogaaGreatDoor
open Go.RowKit
theorem wh_hasR (r : Nat) : hasR [32, 9, 13, 10, 12] r = wh r := by
  have h : ∀ n : Nat, n < 128 → hasR [32, 9, 13, 10, 12] n = wh n := by decide +kernel
  rcases Nat.lt_or_ge r 128 with h1 | h1
  · exact h r h1
  · unfold hasR wh
    rw [decide_eq_false (by omega)]
    symm
    simp
    omega
theorem wrap_byte {c : Nat} (h : c < 256) : wrap32 (c : Int) = (c : Int) := by unfold wrap32; omega
theorem blank_bad {s : List UInt8} {i : Nat} {hlt : i < s.length} (h : byteB s[i] = false) : blankP s = false := by
  have : s.all byteB = false := by
    rw [List.all_eq_false]
    exact ⟨s[i], List.getElem_mem hlt, by simp [h]⟩
  unfold blankP
  rw [this]
  rfl
theorem blank_next {s : List UInt8} {i : Nat} {hlt : i < s.length} (h : ∀ (j : Nat) b, j < i → s[j]? = some b → byteB b = true) (hi : byteB s[i] = true) : ∀ (j : Nat) b, j < i + 1 → s[j]? = some b → byteB b = true := fun j b hj hb => by
  by_cases e : j = i
  · subst e
    rw [List.getElem?_eq_getElem hlt] at hb
    cases hb
    exact hi
  · exact h j b (by omega) hb
end Go.Proofs.YtpmbfcogkoiogaaGreatDoor
end
section
namespace Go.Proofs.YtpmbfcogkoiogaaGreatDoor
open Go.RowKit
/-- the gaps of a part -/
def rightG (first : Bool) : List (List UInt8) → Bool
  | [] => true
  | g :: r => gapOk first g && r.all (gapOk false)
def rightP (first : Bool) : List PartD → Bool
  | [] => true
  | x :: r => rightG first x.2 && rightP false r
def docRight (d : List PartD) (tl : List UInt8) : Bool := rightP true d && (tl.isEmpty || blankP tl && (d.isEmpty || headW? tl))
theorem rightG_drop (first : Bool) (gs : List (List UInt8)) {k : Nat} {g : List UInt8} (hg : gs[k]? = some g) : rightG (first && decide (k = 0)) (gs.drop k) = (gapOk (first && decide (k = 0)) g && rightG (first && decide (k + 1 = 0)) (gs.drop (k + 1))) := by
  have hlt := (List.getElem?_eq_some_iff.1 hg).1
  have hd : gs.drop k = g :: gs.drop (k + 1) := by
    rw [List.drop_eq_getElem_cons hlt]
    congr 1
    exact (List.getElem?_eq_some_iff.1 hg).2
  rw [hd, rightG]
  congr 1
  have : (first && decide (k + 1 = 0)) = false := by simp
  rw [this]
  cases gs.drop (k + 1) with
  | nil => rfl
  | cons a r => rw [rightG, List.all_cons]
theorem rightP_drop (d : List PartD) {i : Nat} {x : PartD} (hx : d[i]? = some x) : rightP (decide (i = 0)) (d.drop i) = (rightG (decide (i = 0)) x.2 && rightP (decide (i + 1 = 0)) (d.drop (i + 1))) := by
  have hlt := (List.getElem?_eq_some_iff.1 hx).1
  have hd : d.drop i = x :: d.drop (i + 1) := by
    rw [List.drop_eq_getElem_cons hlt]
    congr 1
    exact (List.getElem?_eq_some_iff.1 hx).2
  rw [hd, rightP]
  have : decide (i + 1 = 0) = false := by simp
  rw [this]
/-- gaps of sizes that are walked -/
def GapSz (d : List PartD) : Prop := ∀ x ∈ d, ∀ g ∈ x.2, g.length ≤ 40000
end Go.Proofs.YtpmbfcogkoiogaaGreatDoor
end
