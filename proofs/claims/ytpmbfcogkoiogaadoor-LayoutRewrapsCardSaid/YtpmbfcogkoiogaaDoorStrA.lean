/- Has, Index, Contains on lists of strings. More on slices of strings: cut out of one another; strings.Join, slices.Clone, slices.Equal by what they read. -/
import Derived.Test.YtpmbfcogkoiogaaDoorBaseA
import Derived.Test.YtpmbfcogkoiogaaDoorPlainA
import Derived.RegionTactic
import Derived.Test.YtpmbfcogkoiogaaDoorShelf
import Derived.Lib.Join
section
namespace Go.Proofs.YtpmbfcogkoiogaaDoor
open Go.RowKit
theorem Rds.take {w : World} {A : Option Addr} {n c k : Nat} {xs : List Value} (h : Rds w 1 (.slice A n c) n xs) (hk : k ≤ n) : Rds w 1 (.slice A k c) k (xs.take k) := by
  obtain ⟨A', c', hv, hc, hm, hl, hr⟩ := h
  obtain ⟨rfl, _, rfl⟩ := (by simpa using hv : A = A' ∧ True ∧ c = c')
  refine ⟨A, c, rfl, by omega, by omega, by simp; omega, fun hk0 => ?_⟩
  obtain ⟨b, o, ha, hx⟩ := hr (by omega)
  exact ⟨b, o, ha, fun j u hu => hx j u (by rw [List.getElem?_take] at hu; split at hu <;> simp_all)⟩
theorem Strs.take {w : World} {A : Option Addr} {c k : Nat} {l : List (List UInt8)} (h : Strs w (.slice A l.length c) l) (hk : k ≤ l.length) : Strs w (.slice A k c) (l.take k) := by
  have := Rds.take h hk
  unfold Strs
  rw [List.length_take, Nat.min_eq_left hk, List.map_take]
  exact this
theorem Strs.below {w w' : World} {v : Value} {l : List (List UInt8)} (h : Strs w v l) (hb : Below w.heap.size w w') : Strs w' v l := Rds.below h hb
theorem Strs.alloc {w : World} {v : Value} {l : List (List UInt8)} (h : Strs w v l) (o : Obj) : Strs (w.alloc o) v l := Rds.alloc h o
theorem Strs.drewN {w : World} {v : Value} {l : List (List UInt8)} (h : Strs w v l) (n : Nat) : Strs (w.drewN n) v l := h
/-- a slice of strings, opened -/
theorem Strs.open_ {w : World} {v : Value} {l : List (List UInt8)} (h : Strs w v l) : ∃ A c, v = .slice A l.length c ∧ l.length ≤ c ∧ l.length ≤ maxLen ∧
    (∀ k s, l[k]? = some s → ∃ b o, A = some ⟨b, o, none⟩ ∧ w.cell? ⟨b, o + k, none⟩ = some (.string ⟨s.toArray⟩)) := by
  obtain ⟨A, c, hv, hc, hm, hl, hr⟩ := h
  refine ⟨A, c, hv, hc, hm, fun k s hs => ?_⟩
  have hk : k < l.length := (List.getElem?_eq_some_iff.1 hs).1
  obtain ⟨b, o, ha, hx⟩ := hr (by omega)
  exact ⟨b, o, ha, hx k _ (by rw [List.getElem?_map, hs]; rfl)⟩
end Go.Proofs.YtpmbfcogkoiogaaDoor
end
section
namespace Go.Proofs.YtpmbfcogkoiogaaDoor
open Go.RowKit
theorem Strs.cut {w : World} {b o c i j : Nat} {l : List (List UInt8)} (h : Strs w (.slice (some ⟨b, o, none⟩) l.length c) l) (hi : i ≤ j) (hj : j ≤ l.length) :
    Strs w (.slice (some ⟨b, o + i, none⟩) (j - i) (c - i)) ((l.take j).drop i) := by
  obtain ⟨A, c', hv, hc, hm, hl, hr⟩ := h
  obtain ⟨rfl, rfl⟩ := (by simpa using hv : some ⟨b, o, none⟩ = A ∧ c = c')
  have hlen : ((l.take j).drop i).length = j - i := by simp; omega
  unfold Strs
  rw [hlen]
  refine ⟨_, _, rfl, by omega, by omega, by simp; omega, fun h0 => ⟨b, o + i, rfl, fun k u hu => ?_⟩⟩
  obtain ⟨b', o', ha, hx⟩ := hr (by omega)
  obtain ⟨rfl, rfl⟩ := (by simpa using ha : b = b' ∧ o = o')
  rw [List.getElem?_map, List.getElem?_drop] at hu
  have hk : i + k < j := by
    have := (Option.map_eq_some_iff.1 hu)
    obtain ⟨s, hs, _⟩ := this
    have := (List.getElem?_eq_some_iff.1 hs).1
    simp at this; omega
  rw [List.getElem?_take_of_lt hk] at hu
  have := hx (i + k) u (by rw [List.getElem?_map]; exact hu)
  rw [show o + i + k = o + (i + k) by omega]
  exact this
theorem Strs.cut_if {w : World} {b o c i j : Nat} {l : List (List UInt8)} (h : Strs w (.slice (some ⟨b, o, none⟩) l.length c) l) (hi : i ≤ j) (hj : j ≤ l.length) :
    Strs w (.slice (if c = i then some ⟨b, o, none⟩ else some ⟨b, o + i, none⟩) (j - i) (c - i)) ((l.take j).drop i) := by
  by_cases hc : c = i
  · have hlc := h.open_
    obtain ⟨A, c', hv, hcc, hm, _⟩ := hlc
    obtain ⟨rfl, rfl⟩ := (by simpa using hv : some ⟨b, o, none⟩ = A ∧ c = c')
    have hji : j = i := by omega
    have e : (l.take j).drop i = [] := by rw [hji]; simp
    rw [if_pos hc, e, hji, Nat.sub_self]
    exact ⟨_, _, rfl, Nat.zero_le _, Nat.zero_le _, by simp, fun h0 => absurd h0 (by simp)⟩
  · rw [if_neg hc]
    exact Strs.cut h hi hj
/-- a store into a row that holds other values than the slice reads leaves the reading -/
theorem Rds.set {w : World} {size n g i : Nat} {t : TypeId} {cs : Array Value} {v : Value} {xs : List Value} (h : Rds w size v n xs) (hr : Row w g t cs) (hd : ∀ u ∈ xs, u ∉ cs.toList) (u : Value) : Rds (w.setCell ⟨g, i, none⟩ u) size v n xs := by
  obtain ⟨A, c, hv, hc, hm, hl, hx⟩ := h
  refine ⟨A, c, hv, hc, hm, hl, fun hn => ?_⟩
  obtain ⟨b, o, ha, hz⟩ := hx hn
  refine ⟨b, o, ha, fun j y hy => ?_⟩
  have hy' := hz j y hy
  rw [World.cell?_setCell_other _ _ _ _ (fun e => ?_)]
  · exact hy'
  · injection e with e1 e2
    subst e1 e2
    rw [cell_of_row w g _ cs t (0, 0) hr] at hy'
    exact hd y (List.mem_of_getElem? hy) (by
      obtain ⟨hlt, he⟩ := Array.getElem?_eq_some_iff.1 hy'
      rw [← he]
      exact Array.getElem_mem_toList hlt)
theorem Strs.set2 {w : World} {g i : Nat} {t : TypeId} {a b : Option Addr} {n1 c1 n2 c2 : Nat} {v : Value} {l : List (List UInt8)} (h : Strs w v l) (hr : Row w g t #[.slice a n1 c1, .slice b n2 c2]) (u : Value) : Strs (w.setCell ⟨g, i, none⟩ u) v l :=
  Rds.set h hr (by simp) u
theorem Ints.set2 {w : World} {g i : Nat} {t : TypeId} {a b : Option Addr} {n1 c1 n2 c2 : Nat} {v : Value} {l : List Int} (h : Ints w v l) (hr : Row w g t #[.slice a n1 c1, .slice b n2 c2]) (u : Value) : Ints (w.setCell ⟨g, i, none⟩ u) v l :=
  Rds.set h hr (by simp) u
theorem Strs.form {w : World} {v : Value} {l : List (List UInt8)} (h : Strs w v l) : ∃ a c, v = .slice a l.length c := by
  obtain ⟨A, c, hv, _⟩ := h; exact ⟨A, c, hv⟩
theorem Ints.form {w : World} {v : Value} {l : List Int} (h : Ints w v l) : ∃ a c, v = .slice a l.length c := by
  obtain ⟨A, c, hv, _⟩ := h; exact ⟨A, c, hv⟩
theorem join_nil_sep : ∀ (l : List (List UInt8)), Lib.join l [] = l.flatten := by
  intro l
  cases l with
  | nil => rfl
  | cons a r =>
    rw [Lib.join_cons, List.flatten_cons, Lib.joinTail]
    congr 1
    simp
theorem join_any (w : World) (v : Value) (l : List (List UInt8)) (h : Strs w v l) (hs : l.flatten.length ≤ 140737488355328) (hN : l.length ≤ 140737488355328) :
    Calls Tryd.prog 29 #[v, .string ⟨#[]⟩] w fun e w' => e = .returned (.string ⟨l.flatten.toArray⟩) ∧ Below w.heap.size w w' := by
  obtain ⟨A, c, rfl, hc, hm, hx⟩ := h.open_
  by_cases h0 : l = []
  · subst h0
    exact (Tryd.strings_Join_none A c ⟨#[]⟩ w).mono fun e w' ⟨he, hw⟩ => ⟨he, hw ▸ Below.refl _ _⟩
  · have hp : 0 < l.length := List.length_pos_iff.2 h0
    obtain ⟨b, o, rfl, hcell⟩ := hx 0 l[0] (List.getElem?_eq_getElem hp)
    have e1 : (l.map fun s => (⟨s.toArray⟩ : ByteArray)).map (·.data.toList) = l := by simp [Function.comp_def]
    have := Tryd.strings_Join b o c (l.map fun s => ⟨s.toArray⟩) ⟨#[]⟩ w (fun j x hj => by
      rw [List.getElem?_map] at hj
      obtain ⟨s, hs', rfl⟩ := Option.map_eq_some_iff.1 hj
      obtain ⟨b', o', ha, hz⟩ := hx j s hs'
      obtain ⟨rfl, rfl⟩ := (by simpa using ha : b = b' ∧ o = o')
      exact hz) (block_lt_of_cell hcell) (by simpa using hN) (by simpa using hc) (by rw [e1]; simpa [join_nil_sep] using hs)
    rw [e1, List.length_map] at this
    simpa [join_nil_sep] using this
theorem clone_own (w : World) (v : Value) (l : List (List UInt8)) (h : Strs w v l) (hN : l.length * 16 ≤ 140737488355328) :
    Calls Tryd.prog 36 #[v] w fun e w' => ∃ v', e = .returned v' ∧ w'.ownsRow w.heap.size 9 1 v' l.length (l.map fun s => Value.string ⟨s.toArray⟩) ∧ Below w.heap.size w w' := by
  obtain ⟨A, c, rfl, hc, hm, hx⟩ := h.open_
  cases A with
  | none =>
    have h0 : l = [] := by
      cases l with
      | nil => rfl
      | cons a r => obtain ⟨b, o, ha, _⟩ := hx 0 a rfl; cases ha
    subst h0
    exact (Tryd.slices_Clone_string_nil 0 c w).mono fun e w' ⟨he, hw⟩ => ⟨_, he, World.ownsRow_nil _ _ _ _, hw ▸ Below.refl _ _⟩
  | some a =>
    by_cases h0 : l = []
    · subst h0
      exact (Tryd.slices_Clone_string_zero a c w).mono fun e w' ⟨v', he, ho, _, hb⟩ => ⟨v', he, ho, hb⟩
    · have hp : 0 < l.length := List.length_pos_iff.2 h0
      obtain ⟨b, o, ha, hcell⟩ := hx 0 l[0] (List.getElem?_eq_getElem hp)
      obtain rfl : a = ⟨b, o, none⟩ := by simpa using ha
      have := Tryd.slices_Clone_string b o l.length c (l.map fun s => ⟨s.toArray⟩) w (by simp) hN (fun j hj => by
        simp at hj
        obtain ⟨b', o', ha, hz⟩ := hx j l[j] (List.getElem?_eq_getElem hj)
        obtain ⟨rfl, rfl⟩ := (by simpa using ha : b = b' ∧ o = o')
        rw [hz]
        simp [List.getD, hj])
      refine this.mono fun e w' ⟨v', he, ho, _, hb⟩ => ⟨v', he, ?_, hb⟩
      simp only [List.map_take, List.map_map, Function.comp_def] at ho
      rw [← List.map_take, List.take_length] at ho
      exact ho
theorem clone_any (w : World) (v : Value) (l : List (List UInt8)) (h : Strs w v l) (hN : l.length * 16 ≤ 140737488355328) :
    Calls Tryd.prog 36 #[v] w fun e w' => ∃ v', e = .returned v' ∧ Strs w' v' l ∧ Below w.heap.size w w' :=
  (clone_own w v l h hN).mono fun _ _ ⟨v', h1, h2, h3⟩ => ⟨v', h1, Rds.of_own h2, h3⟩
theorem equal_str_same (w : World) (v1 v2 : Value) (l : List (List UInt8)) (h1 : Strs w v1 l) (h2 : Strs w v2 l) :
    Calls Tryd.prog 18 #[v1, v2] w fun e w' => e = .returned (.bool true) ∧ Below w.heap.size w w' := by
  obtain ⟨A1, c1, rfl, hc1, hm1, hx1⟩ := h1.open_
  obtain ⟨A2, c2, rfl, hc2, hm2, hx2⟩ := h2.open_
  unfold maxLen at hm1
  by_cases h0 : l = []
  · subst h0
    exact (Tryd.slices_Equal_string_empty A1 A2 c1 0 c2 w (by omega)).mono fun e w' ⟨he, hw⟩ => ⟨by simpa using he, hw ▸ Below.refl _ _⟩
  · have hp : 0 < l.length := List.length_pos_iff.2 h0
    obtain ⟨b1, o1, rfl, g1⟩ := hx1 0 l[0] (List.getElem?_eq_getElem hp)
    obtain ⟨b2, o2, rfl, g2⟩ := hx2 0 l[0] (List.getElem?_eq_getElem hp)
    have := Tryd.slices_Equal_string b1 o1 l.length c1 b2 o2 l.length c2 (l.map fun s => ⟨s.toArray⟩) (l.map fun s => ⟨s.toArray⟩) w (by simp) (by simp) (by omega) (by omega) (fun j hj => by
        simp at hj
        obtain ⟨b', o', ha, hz⟩ := hx1 j l[j] (List.getElem?_eq_getElem hj)
        obtain ⟨rfl, rfl⟩ := (by simpa using ha : b1 = b' ∧ o1 = o')
        rw [hz]; simp [List.getD, hj]) (fun j hj => by
        simp at hj
        obtain ⟨b', o', ha, hz⟩ := hx2 j l[j] (List.getElem?_eq_getElem hj)
        obtain ⟨rfl, rfl⟩ := (by simpa using ha : b2 = b' ∧ o2 = o')
        rw [hz]; simp [List.getD, hj])
    exact this.mono fun e w' ⟨he, q, hq⟩ => ⟨by simpa using he, hq ▸ below_drewN (Below.refl _ _) q⟩
end Go.Proofs.YtpmbfcogkoiogaaDoor
end
