/- Append onto a row of the call's own inside a region that draws, the source read as a list: nil, empty or not. Words behind a list of words of the call's own, beside the box of a statement. -/
import Derived.Test.YtpmbfcogkoiogaaDoorBldA
import Derived.Deep.AppendLies
import Derived.Test.YtpmbfcogkoiogaaDoorLayLA
section
namespace Go.Proofs.YtpmbfcogkoiogaaDoor
open Go.RowKit
theorem run_append_rds {P : Program} {w : World} (ty : TypeId) (t : TypeId) (base : Nat) (e : TypeId) (i : TypeInfo) (z : Value) (size bytes : Nat) (ht : P.underlying t = some (.slice e)) (hi : P.info? e = some i) (hz : i.zero = some z)
    (hsize : i.size = size) (hby : i.bytes = bytes) (hzs : z.cells.size = size) (hsz : 0 < size)
    (v : Value) (n : Nat) (xs : List Value) (hown : w.ownsRow base e size v n xs) (y : Value) (m : Nat) (news : List Value) (hr : Rds w size y m news) (h1 : ∀ u ∈ news, u.oneCell' = true)
    (h63 : n + m ≤ maxLen) (hbytes : (n + m) * bytes ≤ 140737488355328) (hbase : base ≤ w.heap.size) :
    ∃ v' w', (Builtin.append_ #[t, t] ty #[v, y]).run P w = .ok v' w' ∧ w'.ownsRow base e size v' (n + m) (xs ++ news) ∧ w.grownBy w' v.ownBlock := by
  obtain ⟨A, c, rfl, hc, hm, hl, hcell⟩ := hr
  cases A with
  | none =>
    have h0 : m = 0 := by
      rcases Nat.eq_zero_or_pos m with h0 | h0
      · exact h0
      · obtain ⟨b, o', ha, _⟩ := hcell h0; cases ha
    subst h0
    obtain rfl : news = [] := List.eq_nil_of_length_eq_zero (by simpa using hl)
    exact ⟨v, w, run_append_nil_any (P := P) (w := w) base t ty e i size ht hi v n xs hown c, by simpa using hown, World.grownBy.refl w _⟩
  | some ad =>
    obtain ⟨v', w', hrun, r1, r2, _⟩ := run_append_own (P := P) w base t ty e i z size bytes ht hi hz hsize hby hzs hsz v n xs hown ad m c news hl (by
      intro j u hu
      rcases Nat.eq_zero_or_pos m with h0 | h0
      · subst h0
        obtain rfl : news = [] := List.eq_nil_of_length_eq_zero (by simpa using hl)
        simp at hu
      · obtain ⟨b, o', ha, hz'⟩ := hcell h0
        obtain rfl : ad = ⟨b, o', none⟩ := by simpa using ha
        rw [addr_add]
        exact hz' j u hu) h1 h63 hbytes hbase
    exact ⟨v', w', hrun, r1, r2⟩
theorem step_append_rds {P : Program} {w : World} {ops : Array Oper} {o : Oper} {a : Act} {K : Act → World → Prop} {Q : Exit → Act → World → Prop} {E : Prop} (hgd : o.guard = none) (s x : Operand) (t : TypeId)
    (ho : o.op = .call { callee := .builtin .append, args := #[s, x], argTypes := #[t, t] })
    (base : Nat) (e : TypeId) (i : TypeInfo) (z : Value) (size bytes : Nat) (ht : P.underlying t = some (.slice e)) (hi : P.info? e = some i) (hz : i.zero = some z)
    (hsize : i.size = size) (hby : i.bytes = bytes) (hzs : z.cells.size = size) (hsz : 0 < size)
    (v : Value) (n : Nat) (xs : List Value) (hs : a.eval s = v) (hown : w.ownsRow base e size v n xs)
    (y : Value) (m : Nat) (news : List Value) (hx : a.eval x = y) (hr : Rds w size y m news) (h1 : ∀ u ∈ news, u.oneCell' = true)
    (h63 : n + m ≤ maxLen) (hbytes : (n + m) * bytes ≤ 140737488355328) (hbase : base ≤ w.heap.size)
    (h : ∀ v' w', w'.ownsRow base e size v' (n + m) (xs ++ news) → w.grownBy w' v.ownBlock → K (a.put o.dst v') w') :
    if Region.wanted o (yielded ops a.tmps) = true then Oper.wp P o a w K Q else E := by
  have hw : Region.wanted o (yielded ops a.tmps) = true := by simp [Region.wanted, hgd]
  rw [if_pos hw]
  obtain ⟨v', w', hrun, r1, r2⟩ := run_append_rds (P := P) (w := w) o.type t base e i z size bytes ht hi hz hsize hby hzs hsz v n xs hown y m news hr h1 h63 hbytes hbase
  unfold Oper.wp
  simp [execOp, ho, resolve, invoke, builtin, hs, hx, hrun, Result.andThen]
  exact h v' w' r1 r2
end Go.Proofs.YtpmbfcogkoiogaaDoor
end
section
namespace Go.Proofs.YtpmbfcogkoiogaaDoor
open Go.RowKit
/-- behind an append to a list of words: the list L, in V; what lay in the boxes g, g' lies -/
structure OutAt (w : World) (W : World) (V : Value) (L : List (List UInt8)) : Prop where
  own : W.ownsRow w.heap.size 9 1 V L.length (strC L)
  below : Below w.heap.size w W
theorem strC_len (l : List (List UInt8)) : (strC l).length = l.length := by simp [strC]
theorem strC_one (l : List (List UInt8)) : ∀ u ∈ strC l, u.oneCell' = true := str_ones
section
variable {w W w5 : World} {g : Nat} {t : TypeId} {V V5 : Value} {L M : List (List UInt8)} {cs : Array Value} {u : List UInt8} {o : Obj}
theorem OutAt.form (h : OutAt w W V L) : ∃ A c, V = .slice A L.length c := by
  obtain ⟨A, c, e, _⟩ := own_form h.own
  exact ⟨A, c, e⟩
theorem OutAt.drew (h : OutAt w W V L) : OutAt w W.drew V L := ⟨h.own, h.below.drew⟩
theorem OutAt.next {W' : World} (h : OutAt w W V L) (hb : Below W.heap.size W W') : OutAt w W' V L := ⟨own_below h.own hb, then_ h.below hb⟩
theorem OutAt.strs (h : OutAt w W V L) : Strs W V L := Rds.of_own h.own
/-- one word more, out of a new block -/
theorem OutAt.one (h : OutAt w W V L) (ho5 : w5.ownsRow w.heap.size 9 1 V5 (L.length + 1) (strC L ++ [.string ⟨u.toArray⟩])) (hg5 : (W.alloc o).grownBy w5 V.ownBlock) : OutAt w w5 V5 (L ++ [u]) := by
  have h4 := ca_own_alloc h.own o
  refine ⟨by simpa [strC] using ho5, Below.grown (new_ h.below o) hg5 (new_ h.below o).size fun k hk => (h4.lt _ hk).1⟩
/-- some words more -/
theorem OutAt.more (h : OutAt w W V L) (ho5 : w5.ownsRow w.heap.size 9 1 V5 (L.length + M.length) (strC L ++ strC M)) (hg5 : W.grownBy w5 V.ownBlock) : OutAt w w5 V5 (L ++ M) := by
  refine ⟨by simpa [strC] using ho5, Below.grown h.below hg5 h.below.size fun k hk => (h.own.lt _ hk).1⟩
/-- a box beside the list, behind the append -/
theorem OutAt.row1 (h : OutAt w W V L) (hr : Row W g t cs) (ht : t ≠ 9) (hg5 : (W.alloc o).grownBy w5 V.ownBlock) : Row w5 g t cs :=
  (hr.alloc o).grown hg5 fun e => own_ne (ca_own_alloc h.own o) (hr.alloc o) ht e.symm
theorem OutAt.row (h : OutAt w W V L) (hr : Row W g t cs) (ht : t ≠ 9) (hg5 : W.grownBy w5 V.ownBlock) : Row w5 g t cs :=
  hr.grown hg5 fun e => own_ne h.own hr ht e.symm
/-- what lay in the caller's memory reads as it did -/
theorem OutAt.rds (h : OutAt w W V L) {v : Value} (hv : Strs w v M) : Strs W v M := Strs.below hv h.below
end
section
variable {kz : Int} {l : List UInt8} {tx px : List (List UInt8)}
theorem words_one (hl : labS kz = false) (hm : mostS kz = 0) (ht : tx = []) (h7 : kz ≠ 7) : wordsS ⟨kz, l, tx, px⟩ = [kwOf kz] := by simp [wordsS, hl, hm, ht, h7]
theorem words_plain (hl : labS kz = false) (hm : mostS kz ≠ 0) (h7 : kz ≠ 7) : wordsS ⟨kz, l, tx, px⟩ = [kwOf kz] ++ tx ++ [[36, 46]] := by simp [wordsS, hl, hm, h7]
theorem words_lab (hl : labS kz = true) (hm : mostS kz ≠ 0) (h7 : kz ≠ 7) : wordsS ⟨kz, l, tx, px⟩ = [l] ++ [kwOf kz] ++ tx ++ [[36, 46]] := by simp [wordsS, hl, hm, h7]
theorem words_prf (hl : labS kz = true) (hm : mostS kz ≠ 0) (h7 : kz = 7) : wordsS ⟨kz, l, tx, px⟩ = [l] ++ [kwOf kz] ++ tx ++ [[36, 61]] ++ px ++ [[36, 46]] := by
  subst h7
  simp [wordsS, show labS 7 = true from rfl, show mostS 7 = 200 from rfl]
end
end Go.Proofs.YtpmbfcogkoiogaaDoor
end
