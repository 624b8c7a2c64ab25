/- What a substitution requires to be disjoint: plain law; the iterator of the program. -/
import Derived.Test.YtignhjfobcnloaaSubSort
import Derived.Test.YtignhjfobcnloaaSubOwn
import Derived.Test.YtignhjfobcnloaaRangeLawG
namespace Go.Proofs.Ytignhjfobcnloaa
open Go.RowKit Go.Shelf
def reqX (ys : Form) (x : List UInt8) : List PairD := ys.map fun y => orderedS (x, y)
def reqP (l : List BindD) (vs : List (List UInt8)) (p : PairD) : List PairD := (varsS (imageS l p.1) vs).flatMap (reqX (varsS (imageS l p.2) vs))
def reqS (l : List BindD) (pairs : List PairD) (vs : List (List UInt8)) : List PairD := pairs.flatMap (reqP l vs)
theorem flat_prefix {α β : Type} {f : α → List β} {a : List α} {k : Nat} {p : α} {q : List β} (hy : a[k]? = some p) (hq : q <+: f p) : (a.take k).flatMap f ++ q <+: a.flatMap f := by
  obtain ⟨r, hr⟩ := hq
  obtain ⟨hk, rfl⟩ := List.getElem?_eq_some_iff.1 hy
  refine ⟨r ++ (a.drop (k + 1)).flatMap f, ?_⟩
  conv => rhs; rw [← List.take_append_drop k a, List.drop_eq_getElem_cons hk, List.flatMap_append, List.flatMap_cons, ← hr]
  simp [List.append_assoc]
theorem map_prefix {α β : Type} {g : α → β} {a : List α} {k : Nat} {y : α} (hy : a[k]? = some y) : (a.take k).map g ++ [g y] <+: a.map g := by
  obtain ⟨hk, rfl⟩ := List.getElem?_eq_some_iff.1 hy
  have e : a.map g = (a.take k).map g ++ g a[k] :: (a.drop (k + 1)).map g := by
    conv => lhs; rw [← List.take_append_drop k a, List.drop_eq_getElem_cons hk, List.map_append, List.map_cons]
  exact ⟨(a.drop (k + 1)).map g, by rw [e, List.append_assoc]; rfl⟩
theorem req_prefix {l : List BindD} {vs : List (List UInt8)} {pairs : List PairD} {k j i : Nat} {p : PairD} {xs ys : Form} {x y : List UInt8} (hp : pairs[k]? = some p) (hxs : varsS (imageS l p.1) vs = xs) (hys : varsS (imageS l p.2) vs = ys) (hx : xs[j]? = some x) (hy : ys[i]? = some y) :
    (reqS l (pairs.take k) vs ++ (xs.take j).flatMap (reqX ys) ++ (reqX (ys.take i) x)) ++ [orderedS (x, y)] <+: reqS l pairs vs := by
  subst hxs hys
  have h1 : reqX ((varsS (imageS l p.2) vs).take i) x ++ [orderedS (x, y)] <+: reqX (varsS (imageS l p.2) vs) x := map_prefix (g := fun y => orderedS (x, y)) hy
  have h2 := flat_prefix (f := reqX (varsS (imageS l p.2) vs)) hx h1
  have h3 := flat_prefix (f := reqP l vs) hp h2
  simpa [reqS, List.append_assoc] using h3
theorem flat_take {α β : Type} {f : α → List β} {a : List α} {k : Nat} {p : α} (hy : a[k]? = some p) : (a.take (k + 1)).flatMap f = (a.take k).flatMap f ++ f p := by
  rw [List.take_add_one, hy, List.flatMap_append]; simp
theorem req_take {l : List BindD} {vs : List (List UInt8)} {pairs : List PairD} {k : Nat} {p : PairD} {xs ys : Form} (hp : pairs[k]? = some p) (hxs : varsS (imageS l p.1) vs = xs) (hys : varsS (imageS l p.2) vs = ys) : reqS l (pairs.take (k + 1)) vs = reqS l (pairs.take k) vs ++ xs.flatMap (reqX ys) := by
  subst hxs hys
  exact flat_take hp
theorem reqX_take {ys : Form} {i : Nat} {x y : List UInt8} (hy : ys[i]? = some y) : reqX (ys.take (i + 1)) x = reqX (ys.take i) x ++ [orderedS (x, y)] := by
  unfold reqX; rw [List.take_add_one, hy]; simp
/-- what the iterator asks of what a round keeps: old blocks, and its own -/
structure Hands (B0 : Nat) (Kp : World → World → Prop) (G : World → Prop) (Sf : World → Nat → Prop) : Prop where
  old : ∀ W W', Kp W W' → Below B0 W W'
  new : ∀ W W' g, G W → Below W.heap.size W W' → W.heap.size ≤ g → g < W'.heap.size → Sf W' g
  kept : ∀ W W' g, Kp W W' → Sf W g → Sf W' g ∧ ∀ o, (∀ r, o ≠ .loop r) → (∀ d, o ≠ .deferred d) → W.heap[g]? = some o → W'.heap[g]? = some o
  grow : ∀ W W' g, Sf W g → Below W.heap.size W W' → Sf W' g
section
variable {B0 : Nat} {Kp : World → World → Prop} {G : World → Prop} {Sf : World → Nat → Prop} {W W' : World}
theorem Hands.row (H : Hands B0 Kp G Sf) (hk : Kp W W') {g : Nat} (hs : Sf W g) {t : TypeId} {cs : Array Value} (hr : Row W g t cs) : Row W' g t cs := (H.kept W W' g hk hs).2 _ (by simp) (by simp) hr
theorem Hands.bmap (H : Hands B0 Kp G Sf) (hk : Kp W W') {b n : Nat} (hs : Sf W b) {f : List UInt8 → Option Value} (hb : BMap W b n f) : BMap W' b n f := by
  obtain ⟨D, ⟨es, clock, hh, hr⟩, hf⟩ := hb
  exact ⟨D, ⟨es, clock, (H.kept W W' b hk hs).2 _ (by simp) (by simp) hh, hr⟩, hf⟩
theorem Hands.setm (H : Hands B0 Kp G Sf) (hk : Kp W W') {b : Nat} (hs : Sf W b) {l : List (List UInt8)} (hb : SetM W b l) : SetM W' b l := by
  obtain ⟨n, hn, ⟨es, clock, hh, hr⟩⟩ := hb
  exact ⟨n, hn, ⟨es, clock, (H.kept W W' b hk hs).2 _ (by simp) (by simp) hh, hr⟩⟩
theorem Hands.own (H : Hands B0 Kp G Sf) (hk : Kp W W') {base : Nat} {e : TypeId} {size n : Nat} {v : Value} {xs : List Value} (hs : ∀ g, v.ownBlock = some g → Sf W g) (ho : W.ownsRow base e size v n xs) : W'.ownsRow base e size v n xs := by
  refine ⟨ho.1, ?_⟩
  rcases ho.2 with h | ⟨g, cap, cur, rfl, hg, hh, r⟩
  · exact .inl h
  · exact .inr ⟨g, cap, cur, rfl, hg, (H.kept W W' g hk (hs g rfl)).2 _ (by simp) (by simp) hh, r⟩
end
end Go.Proofs.Ytignhjfobcnloaa
