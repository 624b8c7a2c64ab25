/- Sorted lists of pairs, each once; what pairs require, as sets: plain law. -/
import Derived.Test.YtignhjfobcnloaaSubHands
namespace Go.Proofs.Ytignhjfobcnloaa
def ltP (p q : PairD) : Prop := p.1 < q.1 ∨ (p.1 = q.1 ∧ p.2 < q.2)
instance (p q : PairD) : Decidable (ltP p q) := by unfold ltP; infer_instance
theorem ltP_ltOf (p q : PairD) : ltOf cmpP p q = decide (ltP p q) := pltof p q
theorem compactS_mem : ∀ (l : List PairD) (x : PairD), x ∈ compactS l ↔ x ∈ l
  | [], _ => Iff.rfl
  | [_], _ => Iff.rfl
  | a :: b :: r, x => by
    rw [compactS]
    by_cases h : a = b
    · rw [if_pos h, compactS_mem (b :: r) x, h]; simp
    · rw [if_neg h, List.mem_cons, compactS_mem (b :: r) x, List.mem_cons (a := x) (b := a)]
theorem compactS_sorted : ∀ (l : List PairD), l.Pairwise (fun x y => ¬ ltP y x) → (compactS l).Pairwise ltP
  | [], _ => List.Pairwise.nil
  | [_], _ => by simp [compactS]
  | a :: b :: r, h => by
    rw [List.pairwise_cons] at h
    have ih := compactS_sorted (b :: r) h.2
    rw [compactS]
    by_cases e : a = b
    · rw [if_pos e]; exact ih
    · rw [if_neg e, List.pairwise_cons]
      refine ⟨fun x hx => ?_, ih⟩
      rw [compactS_mem] at hx
      have hab : ltP a b := Classical.byContradiction fun hn => e (plt_tri hn (h.1 b (List.mem_cons_self ..)))
      rcases List.mem_cons.1 hx with rfl | hx
      · exact hab
      · have h2 := (List.pairwise_cons.1 h.2).1 x hx
        by_cases e2 : b = x
        · rw [← e2]; exact hab
        · exact plt_trans hab (Classical.byContradiction fun hn => e2 (plt_tri hn h2))
theorem sorted_ext : ∀ {l k : List PairD}, l.Pairwise ltP → k.Pairwise ltP → (∀ x, x ∈ l ↔ x ∈ k) → l = k := by
  intro l
  induction l with
  | nil =>
    intro k _ _ h
    exact (List.eq_nil_iff_forall_not_mem.2 fun x hx => by have := (h x).2 hx; simp at this).symm
  | cons a l ih =>
    intro k hl hk h
    cases k with
    | nil => have := (h a).1 (List.mem_cons_self ..); simp at this
    | cons c k =>
      rw [List.pairwise_cons] at hl hk
      have e : a = c := by
        have h1 := (h a).1 (List.mem_cons_self ..)
        have h2 := (h c).2 (List.mem_cons_self ..)
        rcases List.mem_cons.1 h1 with e | h1
        · exact e
        · rcases List.mem_cons.1 h2 with e | h2
          · exact e.symm
          · exact absurd (plt_trans (hk.1 a h1) (hl.1 c h2)) (plt_irrefl c)
      subst e
      rw [ih hl.2 hk.2 fun x => ⟨fun hx => by
        rcases List.mem_cons.1 ((h x).1 (List.mem_cons_of_mem _ hx)) with e | h1
        · subst e; exact absurd (hl.1 x hx) (plt_irrefl x)
        · exact h1, fun hx => by
        rcases List.mem_cons.1 ((h x).2 (List.mem_cons_of_mem _ hx)) with e | h1
        · subst e; exact absurd (hk.1 x hx) (plt_irrefl x)
        · exact h1⟩]
theorem sortedS_mem (l : List PairD) (x : PairD) : x ∈ sortedS l ↔ ∃ y ∈ l, orderedS y = x := by
  unfold sortedS
  rw [compactS_mem, List.mem_mergeSort, List.mem_map]
theorem sortedS_sorted (l : List PairD) : (sortedS l).Pairwise ltP := by
  unfold sortedS
  refine compactS_sorted _ ?_
  have h := List.pairwise_mergeSort (le := fun x y => !(ltOf cmpP) y x) (fun a b c h1 h2 => by
    simp only [Bool.not_eq_true'] at *
    exact swoP.ntrans _ _ _ h2 h1) (fun a b => by
    cases e : ltOf cmpP b a with
    | false => simp
    | true =>
      cases e2 : ltOf cmpP a b with
      | false => simp
      | true => have := swoP.trans _ _ _ e e2; rw [swoP.irrefl] at this; cases this) (l.map orderedS)
  refine h.imp fun {a b} hab => ?_
  rw [ltP_ltOf] at hab
  simpa using hab
theorem sortedS_congr {l k : List PairD} (h : ∀ x, x ∈ l ↔ x ∈ k) : sortedS l = sortedS k :=
  sorted_ext (sortedS_sorted l) (sortedS_sorted k) fun x => by rw [sortedS_mem, sortedS_mem]; exact ⟨fun ⟨y, h1, h2⟩ => ⟨y, (h y).1 h1, h2⟩, fun ⟨y, h1, h2⟩ => ⟨y, (h y).2 h1, h2⟩⟩
theorem outP_mem (out : List PairD) (p x : PairD) : x ∈ outP out p ↔ x ∈ out ∨ (x = p ∧ p.1 ≠ p.2) := by
  unfold outP
  by_cases h1 : p.1 = p.2
  · rw [if_pos h1]; simp [h1]
  · rw [if_neg h1]
    by_cases h2 : p ∈ out
    · rw [if_pos h2]
      exact ⟨.inl, fun h => h.elim id fun h => h.1 ▸ h2⟩
    · rw [if_neg h2]; simp [h1]
theorem outS_mem (l : List PairD) (x : PairD) : x ∈ outS l ↔ x ∈ l ∧ x.1 ≠ x.2 := by
  have key : ∀ (l out : List PairD), x ∈ l.foldl outP out ↔ x ∈ out ∨ (x ∈ l ∧ x.1 ≠ x.2) := by
    intro l
    induction l with
    | nil => intro out; simp
    | cons a l ih =>
      intro out
      rw [List.foldl_cons, ih, outP_mem, List.mem_cons]
      constructor
      · rintro ((h | ⟨h1, h2⟩) | ⟨h1, h2⟩)
        · exact .inl h
        · exact .inr ⟨.inl h1, by rw [h1]; exact h2⟩
        · exact .inr ⟨.inr h1, h2⟩
      · rintro (h | ⟨h1 | h1, h2⟩)
        · exact .inl (.inl h)
        · exact .inl (.inr ⟨h1, by rw [← h1]; exact h2⟩)
        · exact .inr ⟨h1, h2⟩
  have := key l []
  simpa [outS] using this
/-- the pairs that the reference keeps -/
def keptS (l : List PairD) : List PairD := l.filter fun p => p.1 ≠ p.2
theorem keptS_snoc (l : List PairD) (p : PairD) : keptS (l ++ [p]) = keptS l ++ (if p.1 = p.2 then [] else [p]) := by
  unfold keptS
  rw [List.filter_append]
  by_cases h : p.1 = p.2 <;> simp [h]
theorem keptS_len (l : List PairD) : (keptS l).length ≤ l.length := List.length_filter_le _ _
theorem sorted_kept (l : List PairD) : sortedS (outS l) = sortedS (keptS l) :=
  sortedS_congr fun x => by rw [outS_mem]; unfold keptS; rw [List.mem_filter]; simp
theorem posS_kept (l : List PairD) : posS l = decide ((keptS l).length = l.length) := by
  rw [Bool.eq_iff_iff]
  unfold posS keptS
  rw [decide_eq_true_eq, List.length_filter_eq_length_iff, List.all_eq_true]
/-- a pair laid into a sorted list -/
def insS : List PairD → PairD → List PairD
  | [], p => [p]
  | a :: r, p => if ltP a p then a :: insS r p else if a = p then a :: r else p :: a :: r
theorem insS_mem (p x : PairD) : ∀ (out : List PairD), x ∈ insS out p ↔ x = p ∨ x ∈ out := by
  intro out
  induction out with
  | nil => simp [insS]
  | cons a r ih =>
    rw [insS]
    by_cases h : ltP a p
    · rw [if_pos h, List.mem_cons, ih, List.mem_cons]
      exact ⟨fun h => h.elim (fun h => .inr (.inl h)) (fun h => h.elim .inl fun h => .inr (.inr h)), fun h => h.elim (fun h => .inr (.inl h)) (fun h => h.elim .inl fun h => .inr (.inr h))⟩
    · rw [if_neg h]
      by_cases e : a = p
      · rw [if_pos e, e]; simp
      · rw [if_neg e, List.mem_cons]
theorem insS_sorted (p : PairD) : ∀ (out : List PairD), out.Pairwise ltP → (insS out p).Pairwise ltP := by
  intro out
  induction out with
  | nil => intro _; simp [insS]
  | cons a r ih =>
    intro h
    rw [insS]
    have h0 := h
    rw [List.pairwise_cons] at h
    by_cases hl : ltP a p
    · rw [if_pos hl, List.pairwise_cons]
      refine ⟨fun x hx => ?_, ih h.2⟩
      rcases (insS_mem p x r).1 hx with rfl | hx
      · exact hl
      · exact h.1 x hx
    · rw [if_neg hl]
      by_cases e : a = p
      · rw [if_pos e]; exact h0
      · rw [if_neg e, List.pairwise_cons]
        have hpa : ltP p a := Classical.byContradiction fun hn => e (plt_tri hl hn)
        refine ⟨fun x hx => ?_, h0⟩
        rcases List.mem_cons.1 hx with rfl | hx
        · exact hpa
        · exact plt_trans hpa (h.1 x hx)
theorem insS_at (p : PairD) : ∀ (out : List PairD) (i : Nat), i ≤ out.length → (∀ x ∈ out.take i, ltP x p) → (∀ y, out[i]? = some y → ¬ ltP y p) → insS out p = if out[i]? = some p then out else out.take i ++ p :: out.drop i := by
  intro out
  induction out with
  | nil => intro i hi _ _; obtain rfl : i = 0 := (by simpa using hi); simp [insS]
  | cons a r ih =>
    intro i hi h1 h2
    rw [insS]
    cases i with
    | zero =>
      have := h2 a (by simp)
      rw [if_neg this]
      by_cases e : a = p
      · rw [if_pos e, if_pos (by simp [e])]
      · rw [if_neg e, if_neg (by simp [e])]; rfl
    | succ i =>
      rw [if_pos (h1 a (by simp)), ih i (by simpa using hi) (fun x hx => h1 x (by simp [hx])) (fun y hy => h2 y (by simpa using hy))]
      rw [List.getElem?_cons_succ]
      by_cases e : r[i]? = some p
      · rw [if_pos e, if_pos e]
      · rw [if_neg e, if_neg e]; rfl
def refSort (l : List PairD) : List PairD := l.foldl (fun out x => insS out (orderedS x)) []
theorem refSort_snoc (l : List PairD) (p : PairD) : refSort (l ++ [p]) = insS (refSort l) (orderedS p) := by unfold refSort; rw [List.foldl_append]; rfl
theorem refSort_eq (l : List PairD) : refSort l = sortedS l := by
  have key : ∀ (l out : List PairD), out.Pairwise ltP → (l.foldl (fun out x => insS out (orderedS x)) out).Pairwise ltP ∧ ∀ x, x ∈ l.foldl (fun out x => insS out (orderedS x)) out ↔ x ∈ out ∨ ∃ y ∈ l, orderedS y = x := by
    intro l
    induction l with
    | nil => intro out h; exact ⟨h, by simp⟩
    | cons a l ih =>
      intro out h
      obtain ⟨h1, h2⟩ := ih (insS out (orderedS a)) (insS_sorted _ _ h)
      refine ⟨h1, fun x => ?_⟩
      rw [List.foldl_cons, h2, insS_mem]
      constructor
      · rintro ((rfl | h) | ⟨y, hy, e⟩)
        · exact .inr ⟨a, by simp, rfl⟩
        · exact .inl h
        · exact .inr ⟨y, by simp [hy], e⟩
      · rintro (h | ⟨y, hy, e⟩)
        · exact .inl (.inr h)
        · rcases List.mem_cons.1 hy with rfl | hy
          · exact .inl (.inl e.symm)
          · exact .inr ⟨y, hy, e⟩
  obtain ⟨h1, h2⟩ := key l [] List.Pairwise.nil
  refine sorted_ext h1 (sortedS_sorted l) fun x => ?_
  have := h2 x
  rw [show refSort l = l.foldl (fun out x => insS out (orderedS x)) [] from rfl, this, sortedS_mem]
  simp
theorem insS_len (p : PairD) : ∀ (out : List PairD), (insS out p).length ≤ out.length + 1 := by
  intro out
  induction out with
  | nil => simp [insS]
  | cons a r ih =>
    rw [insS]
    split
    · simp only [List.length_cons]; omega
    · split
      · omega
      · simp
theorem refSort_len (l : List PairD) : (refSort l).length ≤ l.length := by
  have key : ∀ (l out : List PairD), (l.foldl (fun out x => insS out (orderedS x)) out).length ≤ out.length + l.length := by
    intro l
    induction l with
    | nil => intro out; simp
    | cons a l ih => intro out; rw [List.foldl_cons, List.length_cons]; have := ih (insS out (orderedS a)); have := insS_len (orderedS a) out; omega
  have := key l []
  simpa [refSort] using this
theorem sortedS_len (l : List PairD) : (sortedS l).length ≤ l.length := by rw [← refSort_eq]; exact refSort_len l
/-- the first pair that is not permitted -/
def badB (wide : List PairD) (p : PairD) : Bool := decide (p.1 = p.2) || !decide (p ∈ sortedS wide)
def brokenS (wide l : List PairD) : Option PairD := l.find? (badB wide)
theorem ordered_twice (p : PairD) : orderedS (orderedS p) = orderedS p := by
  unfold orderedS
  by_cases h : p.2 < p.1
  · rw [if_pos h, if_neg (fun h2 => List.lt_irrefl _ (List.lt_trans h h2))]
  · rw [if_neg h, if_neg h]
theorem ordered_swap (x y : List UInt8) : orderedS (x, y) = orderedS (y, x) := by
  unfold orderedS
  by_cases h : y < x
  · rw [if_pos h, if_neg (fun h2 => List.lt_irrefl _ (List.lt_trans h h2))]
  · rw [if_neg h]
    by_cases h2 : x < y
    · rw [if_pos h2]
    · rw [if_neg h2, lt_tri h h2]
theorem reqS_mem (l : List BindD) (pairs : List PairD) (vs : List (List UInt8)) (q : PairD) : q ∈ reqS l pairs vs ↔ ∃ p ∈ pairs, ∃ x, x ∈ imageS l p.1 ∧ x ∈ vs ∧ ∃ y, y ∈ imageS l p.2 ∧ y ∈ vs ∧ orderedS (x, y) = q := by
  have hv : ∀ (t : Form) s, s ∈ varsS t vs ↔ s ∈ t ∧ s ∈ vs := fun t s => by have := varsRun_mem vs t [] s; simpa [varsS] using this
  unfold reqS reqP reqX
  constructor
  · intro h
    obtain ⟨p, hp, h⟩ := List.mem_flatMap.1 h
    obtain ⟨x, hx, h⟩ := List.mem_flatMap.1 h
    obtain ⟨y, hy, e⟩ := List.mem_map.1 h
    obtain ⟨x1, x2⟩ := (hv _ _).1 hx
    obtain ⟨y1, y2⟩ := (hv _ _).1 hy
    exact ⟨p, hp, x, x1, x2, y, y1, y2, e⟩
  · rintro ⟨p, hp, x, x1, x2, y, y1, y2, e⟩
    exact List.mem_flatMap.2 ⟨p, hp, List.mem_flatMap.2 ⟨x, (hv _ _).2 ⟨x1, x2⟩, List.mem_map.2 ⟨y, (hv _ _).2 ⟨y1, y2⟩, e⟩⟩⟩
theorem reqS_ordered {l : List BindD} {pairs : List PairD} {vs : List (List UInt8)} {q : PairD} (h : q ∈ reqS l pairs vs) : orderedS q = q := by
  obtain ⟨p, _, x, _, _, y, _, _, e⟩ := (reqS_mem l pairs vs q).1 h
  rw [← e, ordered_twice]
/-- what Apart returns -/
def apartS (l : List BindD) (pairs : List PairD) (vs : List (List UInt8)) : List PairD := sortedS (outS (reqS l pairs vs))
theorem apartS_mem (l : List BindD) (pairs : List PairD) (vs : List (List UInt8)) (q : PairD) : q ∈ apartS l pairs vs ↔ q ∈ reqS l pairs vs ∧ q.1 ≠ q.2 := by
  unfold apartS
  rw [sortedS_mem]
  constructor
  · rintro ⟨y, hy, e⟩
    have := (outS_mem _ _).1 hy
    rw [reqS_ordered this.1] at e
    rw [← e]; exact this
  · intro h
    exact ⟨q, (outS_mem _ _).2 h, reqS_ordered h.1⟩
theorem posS_true {l : List PairD} : posS l = true ↔ ∀ q ∈ l, q.1 ≠ q.2 := by unfold posS; simp
theorem posS_congr {l k : List PairD} (h : ∀ x, x ∈ l ↔ x ∈ k) : posS l = posS k := by
  rw [Bool.eq_iff_iff, posS_true, posS_true]
  exact ⟨fun h1 q hq => h1 q ((h q).2 hq), fun h1 q hq => h1 q ((h q).1 hq)⟩
/-- Broken finds nothing exactly if Apart is possible and all that it returns is permitted -/
theorem broken_iff (l : List BindD) (pairs wide : List PairD) (vs : List (List UInt8)) : (brokenS wide (reqS l pairs vs)).isSome = !(posS (reqS l pairs vs) && (apartS l pairs vs).all fun p => decide (p ∈ sortedS wide)) := by
  rw [Bool.eq_iff_iff]
  unfold brokenS
  rw [List.find?_isSome, Bool.not_eq_true', Bool.and_eq_false_iff]
  constructor
  · rintro ⟨x, hx, hb⟩
    unfold badB at hb
    by_cases e : x.1 = x.2
    · left
      cases h : posS (reqS l pairs vs) with
      | false => rfl
      | true => exact absurd e (posS_true.1 h x hx)
    · right
      rw [List.all_eq_false]
      refine ⟨x, (apartS_mem ..).2 ⟨hx, e⟩, ?_⟩
      simpa [e] using hb
  · rintro (h | h)
    · have : ¬ ∀ q ∈ reqS l pairs vs, q.1 ≠ q.2 := fun hn => by rw [posS_true.2 hn] at h; cases h
      obtain ⟨q, hq⟩ := Classical.not_forall.1 this
      obtain ⟨hq1, hq2⟩ := Classical.not_imp.1 hq
      exact ⟨q, hq1, by unfold badB; simp [Classical.not_not.1 hq2]⟩
    · rw [List.all_eq_false] at h
      obtain ⟨x, hx, hn⟩ := h
      exact ⟨x, ((apartS_mem ..).1 hx).1, by unfold badB; simp at hn; simp [hn]⟩
/-- what a composition requires is what the second requires of what the first returns -/
theorem req_comp {a b : List BindD} {pairs : List PairD} {vs : List (List UInt8)} (ha : ∀ x ∈ a, ∀ s ∈ x.2, s ∈ vs) (hp : ∀ p ∈ pairs, p.1 ∈ vs ∧ p.2 ∈ vs) (hok : posS (reqS a pairs vs) = true) (q : PairD) : q ∈ reqS (compS a b) pairs vs ↔ q ∈ reqS b (apartS a pairs vs) vs := by
  have hin : ∀ s, s ∈ vs → ∀ u ∈ imageS a s, u ∈ vs := fun s hs u hu => by
    rcases image_mem a s with e | ⟨x, hx, e⟩
    · rw [e] at hu; simp at hu; rw [hu]; exact hs
    · rw [e] at hu; exact ha x hx u hu
  have hcomp : ∀ s x, x ∈ imageS (compS a b) s ↔ ∃ u ∈ imageS a s, x ∈ imageS b u := fun s x => by
    rw [imageS_comp]; unfold applyS; exact List.mem_flatMap
  rw [reqS_mem, reqS_mem]
  constructor
  · rintro ⟨p, hpp, x, hx, hxv, y, hy, hyv, e⟩
    obtain ⟨u, hu, hxu⟩ := (hcomp _ _).1 hx
    obtain ⟨v, hv, hyv2⟩ := (hcomp _ _).1 hy
    have huv := hin _ (hp p hpp).1 u hu
    have hvv := hin _ (hp p hpp).2 v hv
    have hr : orderedS (u, v) ∈ reqS a pairs vs := (reqS_mem ..).2 ⟨p, hpp, u, hu, huv, v, hv, hvv, rfl⟩
    have hm : orderedS (u, v) ∈ apartS a pairs vs := (apartS_mem ..).2 ⟨hr, posS_true.1 hok _ hr⟩
    by_cases h : v < u
    · have e1 : orderedS (u, v) = (v, u) := by unfold orderedS; rw [if_pos h]
      rw [e1] at hm
      exact ⟨(v, u), hm, y, hyv2, hyv, x, hxu, hxv, by rw [← e]; exact ordered_swap y x⟩
    · have e1 : orderedS (u, v) = (u, v) := by unfold orderedS; rw [if_neg h]
      rw [e1] at hm
      exact ⟨(u, v), hm, x, hxu, hxv, y, hyv2, hyv, e⟩
  · rintro ⟨r, hr, x, hx, hxv, y, hy, hyv, e⟩
    obtain ⟨p, hpp, u, hu, huv, v, hv, hvv, e2⟩ := (reqS_mem ..).1 ((apartS_mem ..).1 hr).1
    unfold orderedS at e2
    by_cases h : v < u
    · rw [if_pos h] at e2
      rw [← e2] at hx hy
      exact ⟨p, hpp, y, (hcomp _ _).2 ⟨u, hu, hy⟩, hyv, x, (hcomp _ _).2 ⟨v, hv, hx⟩, hxv, by rw [← e]; exact ordered_swap y x⟩
    · rw [if_neg h] at e2
      rw [← e2] at hx hy
      exact ⟨p, hpp, x, (hcomp _ _).2 ⟨u, hu, hx⟩, hxv, y, (hcomp _ _).2 ⟨v, hv, hy⟩, hyv, e⟩
/-- Apart under a composition is Apart under the second one of what Apart under the first one returns -/
theorem apart_comp {a b : List BindD} {pairs : List PairD} {vs : List (List UInt8)} (ha : ∀ x ∈ a, ∀ s ∈ x.2, s ∈ vs) (hp : ∀ p ∈ pairs, p.1 ∈ vs ∧ p.2 ∈ vs) (hok : posS (reqS a pairs vs) = true) :
    apartS (compS a b) pairs vs = apartS b (apartS a pairs vs) vs ∧ posS (reqS (compS a b) pairs vs) = posS (reqS b (apartS a pairs vs) vs) := by
  have h := req_comp (b := b) ha hp hok
  exact ⟨sortedS_congr fun x => by rw [outS_mem, outS_mem, h], posS_congr h⟩
end Go.Proofs.Ytignhjfobcnloaa
