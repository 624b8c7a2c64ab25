/- Layout: the sizes of what Print prints. -/
import Derived.Test.YtpmbfcogkoiogaaDoorPrnA
namespace Go.Proofs.YtpmbfcogkoiogaaDoor
open Go.RowKit
/-- the sizes that Print is walked at -/
structure PrSz (l : List StmD) : Prop where
  few : l.length ≤ 10000
  ok : ∀ x ∈ l, x.text.length ≤ 10000 ∧ x.proof.length ≤ 10000
  sum : sumL (l.flatMap wordsS) ≤ 1000000
  num : (l.flatMap wordsS).length ≤ 8000
theorem indS_len (D : Int) : (indS D).length ≤ 20 := by
  unfold indS
  rw [List.length_replicate]
  omega
theorem blockS_len (D W : Int) (ws : List (List UInt8)) : (blockS (indS D) W ws).length ≤ sumL ws + ws.length * 1006 := by
  cases ws with
  | nil => simp [blockS]
  | cons u r =>
    have := (bfold_len (ind := indS D) (W := W) (by have := indS_len D; omega) u r).1
    rw [blockS, List.length_append]
    simp only [List.length_cons, List.length_nil] at this ⊢
    omega
theorem sumL_app (a b : List (List UInt8)) : sumL (a ++ b) = sumL a + sumL b := by simp [sumL]
theorem prnS_len (W : Int) : ∀ (l : List StmD) (D : Int), (prnS W D l).length ≤ sumL (l.flatMap wordsS) + (l.flatMap wordsS).length * 1006
  | [], _ => by simp [prnS]
  | x :: r, D => by
    have h1 := blockS_len (atD D x.kind) W (wordsS x)
    have h2 := prnS_len W r (nextD D x.kind)
    rw [prnS, List.flatMap_cons, sumL_app, List.length_append, List.length_append]
    omega
/-- the scopes behind some statements -/
def depS (D : Int) (l : List StmD) : Int := l.foldl (fun d x => nextD d x.kind) D
theorem prnS_app (W : Int) : ∀ (a b : List StmD) (D : Int), prnS W D (a ++ b) = prnS W D a ++ prnS W (depS D a) b
  | [], b, D => rfl
  | x :: a, b, D => by
    rw [List.cons_append, prnS, prnS, prnS_app W a b, List.append_assoc]
    rfl
theorem dep_le : ∀ (l : List StmD) (D : Int), D - l.length ≤ depS D l ∧ depS D l ≤ D + l.length
  | [], D => by simp [depS]
  | x :: l, D => by
    have h := dep_le l (nextD D x.kind)
    have h2 : D - 1 ≤ nextD D x.kind ∧ nextD D x.kind ≤ D + 1 := by
      unfold nextD
      split
      · omega
      · split <;> omega
    have e : depS D (x :: l) = depS (nextD D x.kind) l := rfl
    rw [e, List.length_cons]
    omega
theorem dep_snoc {l : List StmD} {i : Nat} {x : StmD} (h : l[i]? = some x) (D : Int) : depS D (l.take (i + 1)) = nextD (depS D (l.take i)) x.kind := by
  unfold depS
  rw [take_snoc h, List.foldl_append]
  rfl
theorem prnS_snoc {l : List StmD} {i : Nat} {x : StmD} (h : l[i]? = some x) (W D : Int) : prnS W D (l.take (i + 1)) = prnS W D (l.take i) ++ blockS (indS (atD (depS D (l.take i)) x.kind)) W (wordsS x) := by
  rw [take_snoc h, prnS_app]
  simp [prnS]
theorem sumL_sub {a b : List StmD} (h : a.Sublist b) : sumL (a.flatMap wordsS) ≤ sumL (b.flatMap wordsS) ∧ (a.flatMap wordsS).length ≤ (b.flatMap wordsS).length := by
  induction h with
  | slnil => simp
  | cons x _ ih => rw [List.flatMap_cons, sumL_app, List.length_append]; omega
  | cons_cons x _ ih => rw [List.flatMap_cons, List.flatMap_cons, sumL_app, sumL_app, List.length_append, List.length_append]; omega
def PrintPost (w : World) (r : List UInt8 × Int) (e : Ending) (w' : World) : Prop := e = .returned (.tuple #[.string ⟨r.1.toArray⟩, .int .i64 r.2]) ∧ Below w.heap.size w w'
end Go.Proofs.YtpmbfcogkoiogaaDoor
