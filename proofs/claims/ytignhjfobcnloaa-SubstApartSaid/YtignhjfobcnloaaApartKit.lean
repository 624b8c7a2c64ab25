/- What the law over Apart and Compose asks: the contracts without the reference. -/
import Derived.Test.YtignhjfobcnloaaSubBroken
import Derived.Test.YtignhjfobcnloaaSubCompose
import Derived.Test.YtignhjfobcnloaaLawSwaps
namespace Go.Proofs.Ytignhjfobcnloaa
open Go.RowKit Go.Shelf
theorem flat_len {α β : Type} {f : α → List β} {c : Nat} : ∀ (a : List α), (∀ x ∈ a, (f x).length ≤ c) → (a.flatMap f).length ≤ a.length * c := by
  intro a
  induction a with
  | nil => intro _; simp
  | cons x a ih =>
    intro h
    rw [List.flatMap_cons, List.length_append, List.length_cons, Nat.add_mul]
    have h1 := h x (List.mem_cons_self ..)
    have h2 := ih (fun y hy => h y (List.mem_cons_of_mem _ hy))
    omega
theorem req_len {l : List BindD} {m : Nat} (h : ∀ x ∈ l, x.2.length ≤ m) (hm : 1 ≤ m) (pairs : List PairD) (vs : Form) : (reqS l pairs vs).length ≤ pairs.length * (m * m) := by
  refine flat_len pairs fun p _ => ?_
  have h1 : (varsS (imageS l p.1) vs).length ≤ m := Nat.le_trans (varsS_len _ _) (image_len h hm p.1)
  have h2 : (varsS (imageS l p.2) vs).length ≤ m := Nat.le_trans (varsS_len _ _) (image_len h hm p.2)
  refine Nat.le_trans (flat_len (c := m) _ fun x _ => ?_) (Nat.mul_le_mul_right m h1)
  unfold reqX
  rw [List.length_map]
  exact h2
set_option maxRecDepth 20000 in
theorem equal_pairs (w : World) (v1 v2 : Value) (l : List PairD) (h1 : PairsAt w v1 l) (h2 : PairsAt w v2 l) :
    Calls Try.prog 24 #[v1, v2] w fun e w' => e = .returned (.bool true) ∧ Below w.heap.size w w' := by
  obtain ⟨A1, c1, rfl, hc1, hm1, hx1⟩ := h1.open_
  obtain ⟨A2, c2, rfl, hc2, hm2, hx2⟩ := h2.open_
  unfold maxLen at hm1 hm2
  have hst := stoodPair
  clear h1 h2
  go_enter Try.func24, Try.ntmps24
  go_wp2
  go_loopw [13] (fun i wr => ∃ k n : Nat, k ≤ l.length ∧ i = .int .i64 k ∧ wr = w.drewN n) (fun i _ => l.length - (intOf i).toNat)
  case atStart => exact ⟨0, 0, Nat.zero_le _, rfl, rfl⟩
  case round =>
    obtain ⟨k, n, hk, rfl, rfl⟩ := hrel
    by_cases hlt : k < l.length
    · obtain ⟨⟨y1, y2⟩, hy⟩ : ∃ y, l[k]? = some y := ⟨_, List.getElem?_eq_getElem hlt⟩
      obtain ⟨b1, o1, rfl, g1, g2⟩ := hx1 k _ hy
      obtain ⟨b2, o2, rfl, q1, q2⟩ := hx2 k _ hy
      have t1 : (y1 == y1) = true := by simp
      have t2 : (y2 == y2) = true := by simp
      have k0 : (0 : Int) ≤ (k : Int) := Int.natCast_nonneg _
      have k1 : (k : Int) < (l.length : Int) := by omega
      clear hx1 hx2 hy
      go_wp2
      go_quiet (fail)
      go_wp2
      go_roundw
      case rel => exact ⟨k + 1, _, by omega, by go_num, rfl⟩
      case measure => simp [intOf]; omega
    · go_wp2
      go_ret
      exact ⟨rfl, below_drewN (Below.refl _ _) n⟩
theorem apart_any (w : World) (lv pv vv : Value) (l : List BindD) (pairs : List PairD) (vs : Form) (Q : List PairD) (ps : Bool) (hQ : apartS l pairs vs = Q) (hps : posS (reqS l pairs vs) = ps) (hl : BindAt w lv l) (hp : PairsAt w pv pairs) (hv : Strs w vv vs) (z : SubSz l pairs vs) (hN : (reqS l pairs vs).length ≤ 100000000) :
    Calls Try.prog 19 #[lv, pv, vv] w fun e w' => ∃ v, e = .returned (.tuple #[v, .bool ps]) ∧ PairsAt w' v Q ∧ Below w.heap.size w w' := by
  have := apart_of w lv pv vv l pairs vs hl hp hv z hN (compact_any _ (by rw [List.length_mergeSort, List.length_map]; have := outS_small hN; omega))
  rw [hps] at this
  rw [← hQ]
  exact this
theorem broken_any (w : World) (lv pv vv wv : Value) (l : List BindD) (pairs wide : List PairD) (vs : Form) (p1 p2 : List UInt8) (bz : Bool) (hq : (brokenS wide (reqS l pairs vs)).getD ([], []) = (p1, p2)) (hz : (brokenS wide (reqS l pairs vs)).isSome = bz) (hl : BindAt w lv l) (hp : PairsAt w pv pairs) (hv : Strs w vv vs) (hw : PairsAt w wv wide) (z : SubSz l pairs vs) (hW : wide.length ≤ 1000000) :
    Calls Try.prog 22 #[lv, pv, vv, wv] w fun e w' => e = .returned (.tuple #[.agg #[.string ⟨p1.toArray⟩, .string ⟨p2.toArray⟩], .bool bz]) ∧ Below w.heap.size w w' := by
  have := broken_of w lv pv vv wv l pairs wide vs hl hp hv hw z hW
  rw [hq, hz] at this
  exact this
theorem compose_as (w : World) (av bv : Value) (a b : List BindD) (L : List BindD) (z : Int) (h : composeS a b = (L, z)) (ha : BindAt w av a) (hb : BindAt w bv b) (hsa : ∀ x ∈ a, x.1.length ≤ maxLen ∧ ∀ s ∈ x.2, s.length ≤ maxLen) (hsb : ∀ x ∈ b, x.1.length ≤ maxLen ∧ ∀ s ∈ x.2, s.length ≤ maxLen) :
    Calls Try.prog 23 #[av, bv] w fun e w' => ∃ v, e = .returned (.tuple #[v, .int .i64 z]) ∧ BindAt w' v L ∧ Below w.heap.size w w' := by
  have := compose_any w av bv a b ha hb hsa hsb
  rwa [h] at this
theorem comp_sz {a b : List BindD} (ha : ∀ x ∈ a, x.1.length ≤ maxLen ∧ ∀ s ∈ x.2, s.length ≤ maxLen) (hb : ∀ x ∈ b, x.1.length ≤ maxLen ∧ ∀ s ∈ x.2, s.length ≤ maxLen) : ∀ x ∈ compS a b, x.1.length ≤ maxLen ∧ ∀ s ∈ x.2, s.length ≤ maxLen := by
  intro x hx
  rcases List.mem_append.1 (show x ∈ a.map _ ++ restS a b from hx) with hx | hx
  · obtain ⟨y, hy, rfl⟩ := List.mem_map.1 hx
    exact ⟨(ha y hy).1, apply_sz (fun z hz => (hb z hz).2) (ha y hy).2⟩
  · exact hb x (List.mem_filter.1 hx).1
theorem own_alloc {w : World} {b n s : Nat} {e : TypeId} {v : Value} {xs : List Value} (h : w.ownsRow b e s v n xs) (o : Obj) : (w.alloc o).ownsRow b e s v n xs := own_below h (new_ (Below.refl _ _) o)
end Go.Proofs.Ytignhjfobcnloaa
