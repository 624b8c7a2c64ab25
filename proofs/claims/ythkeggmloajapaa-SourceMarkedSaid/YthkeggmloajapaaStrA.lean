/- Has, Index, Contains on lists of strings. More on slices of strings: cut out of one another; strings.Join, slices.Clone, slices.Equal by what they read. -/
import Derived.Test.YthkeggmloajapaaBaseA
import Derived.Test.YthkeggmloajapaaPlainA
import Derived.RegionTactic
import Derived.Test.YthkeggmloajapaaShelf
import Derived.Lib.Join
section
namespace Go.Proofs.Ythkeggmloajapaa
open Go.RowKit
theorem Rds.take {w : World} {A : Option Addr} {n c k : Nat} {xs : List Value} (h : Rds w 1 (.slice A n c) n xs) (hk : k ≤ n) : Rds w 1 (.slice A k c) k (xs.take k) := by
  obtain ⟨A', c', hv, hc, hm, hl, hr⟩ := h
  obtain ⟨rfl, _, rfl⟩ := (by simpa using hv : A = A' ∧ True ∧ c = c')
  refine ⟨A, c, rfl, by omega, by omega, by simp; omega, fun hk0 => ?_⟩
  obtain ⟨b, o, ha, hx⟩ := hr (by omega)
  exact ⟨b, o, ha, fun j u hu => hx j u (by rw [List.getElem?_take] at hu; split at hu <;> simp_all)⟩
theorem Strs.take {w : World} {A : Option Addr} {c k : Nat} {l : List (List UInt8)} (h : Strs w (.slice A l.length c) l) (hk : k ≤ l.length) : Strs w (.slice A k c) (l.take k) := by
  have := Rds.take h hk
  unfold Strs
  rw [List.length_take, Nat.min_eq_left hk, List.map_take]
  exact this
theorem Strs.below {w w' : World} {v : Value} {l : List (List UInt8)} (h : Strs w v l) (hb : Below w.heap.size w w') : Strs w' v l := Rds.below h hb
theorem Strs.alloc {w : World} {v : Value} {l : List (List UInt8)} (h : Strs w v l) (o : Obj) : Strs (w.alloc o) v l := Rds.alloc h o
theorem Strs.drewN {w : World} {v : Value} {l : List (List UInt8)} (h : Strs w v l) (n : Nat) : Strs (w.drewN n) v l := h
/-- a slice of strings, opened -/
theorem Strs.open_ {w : World} {v : Value} {l : List (List UInt8)} (h : Strs w v l) : ∃ A c, v = .slice A l.length c ∧ l.length ≤ c ∧ l.length ≤ maxLen ∧
    (∀ k s, l[k]? = some s → ∃ b o, A = some ⟨b, o, none⟩ ∧ w.cell? ⟨b, o + k, none⟩ = some (.string ⟨s.toArray⟩)) := by
  obtain ⟨A, c, hv, hc, hm, hl, hr⟩ := h
  refine ⟨A, c, hv, hc, hm, fun k s hs => ?_⟩
  have hk : k < l.length := (List.getElem?_eq_some_iff.1 hs).1
  obtain ⟨b, o, ha, hx⟩ := hr (by omega)
  exact ⟨b, o, ha, hx k _ (by rw [List.getElem?_map, hs]; rfl)⟩
end Go.Proofs.Ythkeggmloajapaa
end
section
namespace Go.Proofs.Ythkeggmloajapaa
open Go.RowKit
theorem Strs.cut {w : World} {b o c i j : Nat} {l : List (List UInt8)} (h : Strs w (.slice (some ⟨b, o, none⟩) l.length c) l) (hi : i ≤ j) (hj : j ≤ l.length) :
    Strs w (.slice (some ⟨b, o + i, none⟩) (j - i) (c - i)) ((l.take j).drop i) := by
  obtain ⟨A, c', hv, hc, hm, hl, hr⟩ := h
  obtain ⟨rfl, rfl⟩ := (by simpa using hv : some ⟨b, o, none⟩ = A ∧ c = c')
  have hlen : ((l.take j).drop i).length = j - i := by simp; omega
  unfold Strs
  rw [hlen]
  refine ⟨_, _, rfl, by omega, by omega, by simp; omega, fun h0 => ⟨b, o + i, rfl, fun k u hu => ?_⟩⟩
  obtain ⟨b', o', ha, hx⟩ := hr (by omega)
  obtain ⟨rfl, rfl⟩ := (by simpa using ha : b = b' ∧ o = o')
  rw [List.getElem?_map, List.getElem?_drop] at hu
  have hk : i + k < j := by
    have := (Option.map_eq_some_iff.1 hu)
    obtain ⟨s, hs, _⟩ := this
    have := (List.getElem?_eq_some_iff.1 hs).1
    simp at this; omega
  rw [List.getElem?_take_of_lt hk] at hu
  have := hx (i + k) u (by rw [List.getElem?_map]; exact hu)
  rw [show o + i + k = o + (i + k) by omega]
  exact this
theorem Strs.cut_if {w : World} {b o c i j : Nat} {l : List (List UInt8)} (h : Strs w (.slice (some ⟨b, o, none⟩) l.length c) l) (hi : i ≤ j) (hj : j ≤ l.length) :
    Strs w (.slice (if c = i then some ⟨b, o, none⟩ else some ⟨b, o + i, none⟩) (j - i) (c - i)) ((l.take j).drop i) := by
  by_cases hc : c = i
  · have hlc := h.open_
    obtain ⟨A, c', hv, hcc, hm, _⟩ := hlc
    obtain ⟨rfl, rfl⟩ := (by simpa using hv : some ⟨b, o, none⟩ = A ∧ c = c')
    have hji : j = i := by omega
    have e : (l.take j).drop i = [] := by rw [hji]; simp
    rw [if_pos hc, e, hji, Nat.sub_self]
    exact ⟨_, _, rfl, Nat.zero_le _, Nat.zero_le _, by simp, fun h0 => absurd h0 (by simp)⟩
  · rw [if_neg hc]
    exact Strs.cut h hi hj
/-- a store into a row that holds other values than the slice reads leaves the reading -/
theorem Rds.set {w : World} {size n g i : Nat} {t : TypeId} {cs : Array Value} {v : Value} {xs : List Value} (h : Rds w size v n xs) (hr : Row w g t cs) (hd : ∀ u ∈ xs, u ∉ cs.toList) (u : Value) : Rds (w.setCell ⟨g, i, none⟩ u) size v n xs := by
  obtain ⟨A, c, hv, hc, hm, hl, hx⟩ := h
  refine ⟨A, c, hv, hc, hm, hl, fun hn => ?_⟩
  obtain ⟨b, o, ha, hz⟩ := hx hn
  refine ⟨b, o, ha, fun j y hy => ?_⟩
  have hy' := hz j y hy
  rw [World.cell?_setCell_other _ _ _ _ (fun e => ?_)]
  · exact hy'
  · injection e with e1 e2
    subst e1 e2
    rw [cell_of_row w g _ cs t (0, 0) hr] at hy'
    exact hd y (List.mem_of_getElem? hy) (by
      obtain ⟨hlt, he⟩ := Array.getElem?_eq_some_iff.1 hy'
      rw [← he]
      exact Array.getElem_mem_toList hlt)
theorem Strs.set2 {w : World} {g i : Nat} {t : TypeId} {a b : Option Addr} {n1 c1 n2 c2 : Nat} {v : Value} {l : List (List UInt8)} (h : Strs w v l) (hr : Row w g t #[.slice a n1 c1, .slice b n2 c2]) (u : Value) : Strs (w.setCell ⟨g, i, none⟩ u) v l :=
  Rds.set h hr (by simp) u
theorem Ints.set2 {w : World} {g i : Nat} {t : TypeId} {a b : Option Addr} {n1 c1 n2 c2 : Nat} {v : Value} {l : List Int} (h : Ints w v l) (hr : Row w g t #[.slice a n1 c1, .slice b n2 c2]) (u : Value) : Ints (w.setCell ⟨g, i, none⟩ u) v l :=
  Rds.set h hr (by simp) u
theorem Strs.form {w : World} {v : Value} {l : List (List UInt8)} (h : Strs w v l) : ∃ a c, v = .slice a l.length c := by
  obtain ⟨A, c, hv, _⟩ := h; exact ⟨A, c, hv⟩
theorem Ints.form {w : World} {v : Value} {l : List Int} (h : Ints w v l) : ∃ a c, v = .slice a l.length c := by
  obtain ⟨A, c, hv, _⟩ := h; exact ⟨A, c, hv⟩
theorem join_nil_sep : ∀ (l : List (List UInt8)), Lib.join l [] = l.flatten := by
  intro l
  cases l with
  | nil => rfl
  | cons a r =>
    rw [Lib.join_cons, List.flatten_cons, Lib.joinTail]
    congr 1
    simp
end Go.Proofs.Ythkeggmloajapaa
end
