/- Substitution in formulas, as plain functions. The binder of bindings, and what it says of a symbol. A slice of strings: the row of the type's table, its cells; bytes, one behind the other. -/
import Derived.Test.YtignhjfobcnloaaBindMap
import Derived.Test.YtignhjfobcnloaaStrA
import Derived.Test.YtignhjfobcnloaaBldA
section
namespace Go.Proofs.Ytignhjfobcnloaa
/-- a formula; a binding -/
abbrev Form := List (List UInt8)
abbrev BindD := List UInt8 × Form
/-- the formula that replaces a symbol; none: the symbol itself -/
def boundS (l : List BindD) (s : List UInt8) : Option Form := (l.find? (fun x => x.1 == s)).map (·.2)
def imageS (l : List BindD) (s : List UInt8) : Form := (boundS l s).getD [s]
def applyS (text : Form) (l : List BindD) : Form := text.flatMap (imageS l)
def limitedS (text : Form) (l : List BindD) (most : Int) : Form × Int :=
  if most < 0 then ([], 1) else if most < (applyS text l).length then ([], 15) else (applyS text l, 0)
def checkRun (seen : List (List UInt8)) : List BindD → Int
  | [] => 0
  | x :: r => if x.1 = [] then 80 else if x.1 ∈ seen then 6 else if 2000 < x.2.length then 15 else checkRun (seen ++ [x.1]) r
def checkS (l : List BindD) : Int := if 40 < l.length then 4 else checkRun [] l
/-- the bindings of b that a does not bind -/
def restS (a b : List BindD) : List BindD := b.filter (fun x => (boundS a x.1).isNone)
def compS (a b : List BindD) : List BindD := a.map (fun x => (x.1, applyS x.2 b)) ++ restS a b
def composeS (a b : List BindD) : List BindD × Int :=
  if checkS a ≠ 0 then ([], checkS a) else if checkS b ≠ 0 then ([], checkS b)
  else if 40 < (compS a b).length then ([], 4)
  else if ∃ x ∈ a, 2000 < (applyS x.2 b).length then ([], 15) else (compS a b, 0)
theorem boundS_nil (s : List UInt8) : boundS [] s = none := rfl
theorem boundS_cons (x : BindD) (l : List BindD) (s : List UInt8) : boundS (x :: l) s = if x.1 = s then some x.2 else boundS l s := by
  unfold boundS
  rw [List.find?_cons]
  by_cases h : x.1 = s
  · simp [h]
  · have : (x.1 == s) = false := by simpa using h
    simp [this, h]
theorem boundS_append (a b : List BindD) (s : List UInt8) : boundS (a ++ b) s = (boundS a s).or (boundS b s) := by
  induction a with
  | nil => rfl
  | cons x a ih =>
    rw [List.cons_append, boundS_cons, boundS_cons]
    split
    · rfl
    · exact ih
theorem boundS_none {l : List BindD} {s : List UInt8} : boundS l s = none ↔ s ∉ l.map (·.1) := by
  induction l with
  | nil => simp [boundS]
  | cons x l ih =>
    rw [boundS_cons]
    by_cases h : x.1 = s
    · simp [h]
    · rw [if_neg h, ih]
      simp only [List.map_cons, List.mem_cons, not_or]
      exact ⟨fun hh => ⟨fun e => h e.symm, hh⟩, fun hh => hh.2⟩
theorem boundS_map (f : Form → Form) (a : List BindD) (s : List UInt8) : boundS (a.map fun x => (x.1, f x.2)) s = (boundS a s).map f := by
  induction a with
  | nil => rfl
  | cons x a ih =>
    rw [List.map_cons, boundS_cons, boundS_cons]
    split
    · rfl
    · exact ih
theorem boundS_rest (a b : List BindD) (s : List UInt8) (h : boundS a s = none) : boundS (restS a b) s = boundS b s := by
  unfold restS
  induction b with
  | nil => rfl
  | cons x b ih =>
    rw [List.filter_cons]
    by_cases hx : x.1 = s
    · rw [hx, h]; simp [boundS_cons, hx]
    · split
      · rw [boundS_cons, boundS_cons, if_neg hx, if_neg hx, ih]
      · rw [ih, boundS_cons, if_neg hx]
theorem imageS_some {l : List BindD} {s : List UInt8} {t : Form} (h : boundS l s = some t) : imageS l s = t := by unfold imageS; rw [h]; rfl
theorem imageS_none {l : List BindD} {s : List UInt8} (h : boundS l s = none) : imageS l s = [s] := by unfold imageS; rw [h]; rfl
theorem applyS_nil (l : List BindD) : applyS [] l = [] := rfl
theorem applyS_cons (s : List UInt8) (t : Form) (l : List BindD) : applyS (s :: t) l = imageS l s ++ applyS t l := by simp [applyS]
theorem applyS_append (a b : Form) (l : List BindD) : applyS (a ++ b) l = applyS a l ++ applyS b l := by simp [applyS]
theorem applyS_one (s : List UInt8) (l : List BindD) : applyS [s] l = imageS l s := by simp [applyS]
theorem applyS_take {text : Form} {k : Nat} {s : List UInt8} {l : List BindD} (h : text[k]? = some s) : applyS (text.take (k + 1)) l = applyS (text.take k) l ++ imageS l s := by
  rw [List.take_add_one, h, applyS_append]; simp [applyS]
theorem applyS_take_le (text : Form) (l : List BindD) (k : Nat) : (applyS (text.take k) l).length ≤ (applyS text l).length := by
  conv => rhs; rw [← List.take_append_drop k text]
  rw [applyS_append, List.length_append]; omega
theorem imageS_comp (a b : List BindD) (s : List UInt8) : imageS (compS a b) s = applyS (imageS a s) b := by
  unfold compS
  cases h : boundS a s with
  | some t =>
    rw [imageS_some h]
    refine imageS_some ?_
    rw [boundS_append, boundS_map (fun y => applyS y b), h]; rfl
  | none =>
    rw [imageS_none h, applyS_one]
    unfold imageS
    rw [boundS_append, boundS_map (fun y => applyS y b), h, boundS_rest a b s h]; rfl
/-- Apply by Compose equals both substitutions in turn -/
theorem applyS_comp (text : Form) (a b : List BindD) : applyS text (compS a b) = applyS (applyS text a) b := by
  induction text with
  | nil => rfl
  | cons s t ih => rw [applyS_cons, applyS_cons, applyS_append, ih, imageS_comp]
theorem boundS_isNone_comp (a b : List BindD) (s : List UInt8) : (boundS (compS a b) s).isNone = ((boundS a s).isNone && (boundS b s).isNone) := by
  unfold compS
  rw [boundS_append, boundS_map (fun y => applyS y b)]
  cases h : boundS a s with
  | some t => simp
  | none => rw [boundS_rest a b s h]; simp
theorem compS_assoc (a b c : List BindD) : compS (compS a b) c = compS a (compS b c) := by
  have e1 : compS (compS a b) c = (compS a b).map (fun x => (x.1, applyS x.2 c)) ++ restS (compS a b) c := rfl
  have e2 : compS a (compS b c) = a.map (fun x => (x.1, applyS x.2 (compS b c))) ++ restS a (compS b c) := rfl
  rw [e1, e2]
  have h1 : restS (compS a b) c = restS a (restS b c) := by
    unfold restS
    rw [List.filter_filter]
    congr 1
    funext x
    rw [boundS_isNone_comp]
  have h2 : restS a (compS b c) = restS a (b.map fun x => (x.1, applyS x.2 c)) ++ restS a (restS b c) := by
    show restS a (b.map _ ++ restS b c) = _
    unfold restS
    rw [List.filter_append]
  have h3 : restS a (b.map fun x => (x.1, applyS x.2 c)) = (restS a b).map (fun x => (x.1, applyS x.2 c)) := by
    unfold restS
    rw [List.filter_map]
    rfl
  rw [h1, h2, h3]
  show (a.map _ ++ restS a b).map _ ++ _ = _
  rw [List.map_append, List.map_map, List.append_assoc]
  congr 1
  apply List.map_congr_left
  intro x _
  simp [applyS_comp]
theorem checkRun_ok : ∀ (l : List BindD) (seen : List (List UInt8)), checkRun seen l = 0 ↔ (∀ x ∈ l, x.1 ≠ [] ∧ x.1 ∉ seen ∧ x.2.length ≤ 2000) ∧ (l.map (·.1)).Nodup := by
  intro l
  induction l with
  | nil => intro seen; simp [checkRun]
  | cons x l ih =>
    intro seen
    unfold checkRun
    by_cases h1 : x.1 = []
    · rw [if_pos h1]; simp [h1]
    · rw [if_neg h1]
      by_cases h2 : x.1 ∈ seen
      · rw [if_pos h2]; simp [h2]
      · rw [if_neg h2]
        by_cases h3 : 2000 < x.2.length
        · rw [if_pos h3]
          constructor
          · intro h; simp at h
          · intro h; have := (h.1 x (List.mem_cons_self ..)).2.2; omega
        · rw [if_neg h3, ih]
          simp only [List.map_cons, List.nodup_cons, List.mem_cons, List.mem_append]
          constructor
          · rintro ⟨g1, g2⟩
            refine ⟨?_, ?_, g2⟩
            · rintro y (rfl | hy)
              · exact ⟨h1, h2, by omega⟩
              · have := g1 y hy; exact ⟨this.1, fun hh => this.2.1 (.inl hh), this.2.2⟩
            · intro hm
              obtain ⟨y, hy, e⟩ := List.mem_map.1 hm
              exact (g1 y hy).2.1 (.inr (.inl e))
          · rintro ⟨g1, g2, g3⟩
            refine ⟨fun y hy => ?_, g3⟩
            have := g1 y (.inr hy)
            refine ⟨this.1, ?_, this.2.2⟩
            rintro (hh | hh | hh)
            · exact this.2.1 hh
            · exact g2 (List.mem_map.2 ⟨y, hy, hh⟩)
            · cases hh
theorem checkS_ok {l : List BindD} : checkS l = 0 ↔ l.length ≤ 40 ∧ (∀ x ∈ l, x.1 ≠ [] ∧ x.2.length ≤ 2000) ∧ (l.map (·.1)).Nodup := by
  unfold checkS
  by_cases h : 40 < l.length
  · rw [if_pos h]; simp; intro h2; omega
  · rw [if_neg h, checkRun_ok]
    simp
    omega
theorem composeS_ok {a b : List BindD} (h : (composeS a b).2 = 0) : checkS a = 0 ∧ checkS b = 0 ∧ (compS a b).length ≤ 40 ∧ (∀ x ∈ a, (applyS x.2 b).length ≤ 2000) ∧ composeS a b = (compS a b, 0) := by
  unfold composeS at h ⊢
  by_cases h1 : checkS a = 0
  · rw [if_neg (by simp [h1])] at h ⊢
    by_cases h2 : checkS b = 0
    · rw [if_neg (by simp [h2])] at h ⊢
      by_cases h3 : 40 < (compS a b).length
      · rw [if_pos h3] at h; simp at h
      · rw [if_neg h3] at h ⊢
        by_cases h4 : ∃ x ∈ a, 2000 < (applyS x.2 b).length
        · rw [if_pos h4] at h; simp at h
        · rw [if_neg h4] at h ⊢
          exact ⟨h1, h2, by omega, fun x hx => Nat.le_of_not_lt fun hh => h4 ⟨x, hx, hh⟩, rfl⟩
    · rw [if_pos h2] at h; exact absurd h h2
  · rw [if_pos h1] at h; exact absurd h h1
theorem composeS_mk {a b : List BindD} (h1 : checkS a = 0) (h2 : checkS b = 0) (h3 : (compS a b).length ≤ 40) (h4 : ∀ x ∈ a, (applyS x.2 b).length ≤ 2000) : composeS a b = (compS a b, 0) := by
  unfold composeS
  rw [if_neg (by simp [h1]), if_neg (by simp [h2]), if_neg (by omega), if_neg (by rintro ⟨x, hx, hh⟩; have := h4 x hx; omega)]
theorem compS_vars (a b : List BindD) : (compS a b).map (·.1) = a.map (·.1) ++ (restS a b).map (·.1) := by
  unfold compS
  rw [List.map_append, List.map_map]
  rfl
theorem compS_check {a b : List BindD} (h : (composeS a b).2 = 0) : checkS (compS a b) = 0 := by
  obtain ⟨h1, h2, h3, h4, _⟩ := composeS_ok h
  obtain ⟨a1, a2, a3⟩ := checkS_ok.1 h1
  obtain ⟨b1, b2, b3⟩ := checkS_ok.1 h2
  refine checkS_ok.2 ⟨h3, fun x hx => ?_, ?_⟩
  · rcases List.mem_append.1 (show x ∈ a.map _ ++ restS a b from hx) with hx | hx
    · obtain ⟨y, hy, rfl⟩ := List.mem_map.1 hx
      exact ⟨(a2 y hy).1, h4 y hy⟩
    · exact b2 x (List.mem_filter.1 hx).1
  · rw [compS_vars]
    refine List.nodup_append.2 ⟨a3, (List.filter_sublist.map _).nodup b3, ?_⟩
    intro x hx y hy e
    obtain ⟨z, hz, rfl⟩ := List.mem_map.1 hy
    have := (List.mem_filter.1 hz).2
    rw [Option.isNone_iff_eq_none, boundS_none] at this
    exact this (e ▸ hx)
/-- Compose is associative, where it has no error -/
theorem composeS_assoc {a b c : List BindD} (h1 : (composeS a b).2 = 0) (h2 : (composeS b c).2 = 0) (h3 : (composeS (compS a b) c).2 = 0) : composeS a (compS b c) = (compS (compS a b) c, 0) := by
  obtain ⟨a1, a2, a3, a4, _⟩ := composeS_ok h1
  obtain ⟨b1, b2, b3, b4, _⟩ := composeS_ok h2
  obtain ⟨c1, c2, c3, c4, _⟩ := composeS_ok h3
  rw [compS_assoc] at c3 ⊢
  refine composeS_mk a1 (compS_check h2) c3 fun x hx => ?_
  rw [applyS_comp]
  exact c4 (x.1, applyS x.2 b) (List.mem_append.2 (.inl (List.mem_map.2 ⟨x, hx, rfl⟩)))
/-- bindings of symbols that do not occur -/
theorem applyS_none {a : Form} {l : List BindD} (h : ∀ x ∈ l, x.1 ∉ a) : applyS a l = a := by
  induction a with
  | nil => rfl
  | cons s t ih =>
    rw [applyS_cons, ih (fun x hx hm => h x hx (List.mem_cons_of_mem _ hm)), imageS_none (boundS_none.2 fun hm => ?_)]
    · rfl
    · obtain ⟨x, hx, e⟩ := List.mem_map.1 hm
      exact h x hx (by rw [e]; exact List.mem_cons_self ..)
/-- an exchange of two symbols, done twice -/
theorem applyS_swap (text : Form) (x y : List UInt8) : applyS (applyS text [(x, [y]), (y, [x])]) [(x, [y]), (y, [x])] = text := by
  have hs : ∀ s, applyS (imageS [(x, [y]), (y, [x])] s) [(x, [y]), (y, [x])] = [s] := by
    intro s
    have hb : ∀ z, boundS [(x, [y]), (y, [x])] z = if x = z then some [y] else if y = z then some [x] else none := by
      intro z
      rw [boundS_cons, boundS_cons, boundS_nil]
    by_cases h1 : x = s
    · subst h1
      rw [imageS_some (t := [y]) (by rw [hb, if_pos rfl]), applyS_one]
      by_cases h2 : x = y
      · subst h2; exact imageS_some (by rw [hb, if_pos rfl])
      · exact imageS_some (by rw [hb, if_neg h2, if_pos rfl])
    · by_cases h2 : y = s
      · subst h2
        rw [imageS_some (t := [x]) (by rw [hb, if_neg h1, if_pos rfl]), applyS_one]
        exact imageS_some (by rw [hb, if_pos rfl])
      · rw [imageS_none (by rw [hb, if_neg h1, if_neg h2]), applyS_one]
        exact imageS_none (by rw [hb, if_neg h1, if_neg h2])
  induction text with
  | nil => rfl
  | cons s t ih => rw [applyS_cons, applyS_append, ih, hs]; rfl
/-- the words of vs that occur in a formula, in the order of their first occurrences -/
def varsRun (vs : List (List UInt8)) (out : Form) : Form → Form
  | [] => out
  | s :: t => if s ∈ vs ∧ s ∉ out then varsRun vs (out ++ [s]) t else varsRun vs out t
def varsS (text : Form) (vs : List (List UInt8)) : Form := varsRun vs [] text
theorem varsRun_append (vs : List (List UInt8)) : ∀ (a b out : Form), varsRun vs out (a ++ b) = varsRun vs (varsRun vs out a) b := by
  intro a
  induction a with
  | nil => intro b out; rfl
  | cons s t ih =>
    intro b out
    rw [List.cons_append, varsRun, varsRun]
    split <;> exact ih ..
theorem varsRun_mem (vs : List (List UInt8)) : ∀ (a out : Form) (s : List UInt8), s ∈ varsRun vs out a ↔ s ∈ out ∨ (s ∈ a ∧ s ∈ vs) := by
  intro a
  induction a with
  | nil => intro out s; simp [varsRun]
  | cons x t ih =>
    intro out s
    rw [varsRun]
    split
    · rename_i h
      rw [ih]
      simp only [List.mem_append, List.mem_cons, List.not_mem_nil, or_false]
      constructor
      · rintro ((h1 | rfl) | h1)
        · exact .inl h1
        · exact .inr ⟨.inl rfl, h.1⟩
        · exact .inr ⟨.inr h1.1, h1.2⟩
      · rintro (h1 | ⟨rfl | h1, h2⟩)
        · exact .inl (.inl h1)
        · exact .inl (.inr rfl)
        · exact .inr ⟨h1, h2⟩
    · rename_i h
      rw [ih]
      simp only [List.mem_cons]
      constructor
      · rintro (h1 | h1)
        · exact .inl h1
        · exact .inr ⟨.inr h1.1, h1.2⟩
      · rintro (h1 | ⟨rfl | h1, h2⟩)
        · exact .inl h1
        · by_cases h3 : s ∈ out
          · exact .inl h3
          · exact absurd ⟨h2, h3⟩ h
        · exact .inr ⟨h1, h2⟩
/-- what is known already adds nothing -/
theorem varsRun_known (vs : List (List UInt8)) : ∀ (a out : Form), (∀ s ∈ a, s ∈ vs → s ∈ out) → varsRun vs out a = out := by
  intro a
  induction a with
  | nil => intro out _; rfl
  | cons x t ih =>
    intro out h
    rw [varsRun, if_neg (fun hh => hh.2 (h x (List.mem_cons_self ..) hh.1))]
    exact ih out fun s hs => h s (List.mem_cons_of_mem _ hs)
/-- the variables of the variables of a -/
theorem varsRun_vars (vs : List (List UInt8)) (a out : Form) : varsRun vs out (varsS a vs) = varsRun vs out a := by
  have key : ∀ (a p out : Form), (∀ s ∈ p, s ∈ vs → s ∈ out) → varsRun vs out (varsRun vs p a) = varsRun vs (varsRun vs out p) a := by
    intro a
    induction a with
    | nil => intro p out _; rfl
    | cons x t ih =>
      intro p out hp
      have hk := varsRun_known vs p out hp
      rw [hk, varsRun, varsRun]
      by_cases hv : x ∈ vs
      · by_cases hxp : x ∈ p
        · have := hp x hxp hv
          rw [if_neg (fun hh => hh.2 hxp), if_neg (fun hh => hh.2 this), ih p out hp, hk]
        · rw [if_pos ⟨hv, hxp⟩]
          by_cases hxo : x ∈ out
          · rw [if_neg (fun hh => hh.2 hxo)]
            have hp' : ∀ s ∈ p ++ [x], s ∈ vs → s ∈ out := fun s hs hsv => by
              rcases List.mem_append.1 hs with h | h
              · exact hp s h hsv
              · simp at h; rw [h]; exact hxo
            rw [ih (p ++ [x]) out hp', varsRun_known vs (p ++ [x]) out hp']
          · rw [if_pos ⟨hv, hxo⟩]
            -- push x into out first
            have e : varsRun vs out (varsRun vs (p ++ [x]) t) = varsRun vs (out ++ [x]) (varsRun vs (p ++ [x]) t) := by
              obtain ⟨r, hr⟩ : ∃ r, varsRun vs (p ++ [x]) t = p ++ [x] ++ r := by
                have : ∀ (t q : Form), ∃ r, varsRun vs q t = q ++ r := by
                  intro t
                  induction t with
                  | nil => intro q; exact ⟨[], by simp [varsRun]⟩
                  | cons y t ih2 =>
                    intro q
                    rw [varsRun]
                    split
                    · obtain ⟨r, hr⟩ := ih2 (q ++ [y]); exact ⟨[y] ++ r, by rw [hr]; simp⟩
                    · exact ih2 q
                exact this t _
              rw [hr, varsRun_append, varsRun_append, varsRun_append, varsRun_append, hk, varsRun_known vs p (out ++ [x]) (fun s hs hsv => List.mem_append.2 (.inl (hp s hs hsv)))]
              congr 1
              rw [varsRun, if_pos ⟨hv, hxo⟩, varsRun, varsRun, if_neg (fun hh => hh.2 (by simp)), varsRun]
            have hp' : ∀ s ∈ p ++ [x], s ∈ vs → s ∈ out ++ [x] := fun s hs hsv => by
              rcases List.mem_append.1 hs with h | h
              · exact List.mem_append.2 (.inl (hp s h hsv))
              · exact List.mem_append.2 (.inr h)
            rw [e, ih (p ++ [x]) (out ++ [x]) hp', varsRun_known vs (p ++ [x]) (out ++ [x]) hp']
      · rw [if_neg (fun hh => hv hh.1), if_neg (fun hh => hv hh.1), ih p out hp, hk]
  have := key a [] out (by simp)
  simpa [varsS, varsRun] using this
/-- Vars of Apply are Vars of the images, one behind the other -/
theorem varsS_apply (text : Form) (l : List BindD) (vs : List (List UInt8)) : varsS (applyS text l) vs = varsS (text.flatMap fun s => varsS (applyS [s] l) vs) vs := by
  have : ∀ (text out : Form), varsRun vs out (applyS text l) = varsRun vs out (text.flatMap fun s => varsS (applyS [s] l) vs) := by
    intro text
    induction text with
    | nil => intro out; rfl
    | cons s t ih =>
      intro out
      rw [applyS_cons, List.flatMap_cons, varsRun_append, varsRun_append, varsRun_vars, applyS_one, ih]
  exact this text []
end Go.Proofs.Ytignhjfobcnloaa
end
section
namespace Go.Proofs.Ytignhjfobcnloaa
open Go.RowKit
/-- the slice value v reads as the bindings l -/
def BindAt (w : World) (v : Value) (l : List BindD) : Prop :=
  ∃ A c, v = .slice A l.length c ∧ l.length ≤ c ∧ l.length ≤ maxLen ∧ ∀ k x, l[k]? = some x → ∃ b o tv, A = some ⟨b, o, none⟩ ∧ w.cell? ⟨b, o + k * 2, none⟩ = some (.string ⟨x.1.toArray⟩) ∧ w.cell? ⟨b, o + k * 2 + 1, none⟩ = some tv ∧ Strs w tv x.2
theorem BindAt.below {w w' : World} {v : Value} {l : List BindD} (h : BindAt w v l) (hb : Below w.heap.size w w') : BindAt w' v l := by
  obtain ⟨A, c, hv, hc, hm, hx⟩ := h
  refine ⟨A, c, hv, hc, hm, fun k x hk => ?_⟩
  obtain ⟨b, o, tv, ha, h1, h2, h3⟩ := hx k x hk
  exact ⟨b, o, tv, ha, (hb.cell (p := ⟨b, o + k * 2, none⟩) (block_lt_of_cell h1)).trans h1, (hb.cell (p := ⟨b, o + k * 2 + 1, none⟩) (block_lt_of_cell h2)).trans h2, h3.below hb⟩
theorem BindAt.nil_ {w : World} : BindAt w (.slice none 0 0) [] := ⟨none, 0, rfl, Nat.le_refl _, Nat.zero_le _, fun k x h => by simp at h⟩
/-- what f says of each symbol, where the slices read in w, is what the bindings say -/
def saysAt (w : World) (f : List UInt8 → Option Value) (l : List BindD) : Prop := ∀ s, match boundS l s with | some t => ∃ v, f s = some v ∧ Strs w v t | none => f s = none
/-- block b is the binder of the bindings l -/
def BinderAt (w : World) (b : Nat) (l : List BindD) : Prop := ∃ n f, n ≤ l.length ∧ BMap w b n f ∧ saysAt w f l
theorem saysAt.below {w w' : World} {f : List UInt8 → Option Value} {l : List BindD} (h : saysAt w f l) (hb : Below w.heap.size w w') : saysAt w' f l := by
  intro s
  have := h s
  cases hs : boundS l s with
  | none => rw [hs] at this; exact this
  | some t => rw [hs] at this; obtain ⟨v, h1, h2⟩ := this; exact ⟨v, h1, h2.below hb⟩
theorem BinderAt.below {w w' : World} {b : Nat} {l : List BindD} (h : BinderAt w b l) (hb : Below w.heap.size w w') : BinderAt w' b l := by
  obtain ⟨n, f, hn, hm, hs⟩ := h
  exact ⟨n, f, hn, hm.below hb, hs.below hb⟩
theorem BinderAt.lt {w : World} {b : Nat} {l : List BindD} (h : BinderAt w b l) : b < w.heap.size := by obtain ⟨n, f, _, h, _⟩ := h; exact h.lt
theorem boundS_take {l : List BindD} {k : Nat} {x : BindD} (h : l[k]? = some x) (s : List UInt8) : boundS (l.take (k + 1)) s = (boundS (l.take k) s).or (if x.1 = s then some x.2 else none) := by
  rw [List.take_add_one, h, boundS_append]
  congr 1
  show boundS [x] s = _
  rw [boundS_cons, boundS_nil]
theorem says_keep {w : World} {f : List UInt8 → Option Value} {l : List BindD} {k : Nat} {x : BindD} (h : l[k]? = some x) (hs : saysAt w f (l.take k)) (hb : (boundS (l.take k) x.1).isSome = true) : saysAt w f (l.take (k + 1)) := by
  intro s
  rw [boundS_take h]
  have := hs s
  cases hc : boundS (l.take k) s with
  | some t => rw [hc] at this; exact this
  | none =>
    rw [hc] at this
    by_cases e : x.1 = s
    · subst e; rw [hc] at hb; cases hb
    · simp [e]; exact this
theorem says_put {w : World} {f : List UInt8 → Option Value} {l : List BindD} {k : Nat} {x : BindD} {v : Value} (h : l[k]? = some x) (hs : saysAt w f (l.take k)) (hb : boundS (l.take k) x.1 = none) (hv : Strs w v x.2) :
    saysAt w (fun t => if t = x.1 then some v else f t) (l.take (k + 1)) := by
  intro s
  rw [boundS_take h]
  have := hs s
  by_cases e : x.1 = s
  · subst e
    rw [hb]
    simp
    exact hv
  · have e' : ¬ s = x.1 := fun hh => e hh.symm
    cases hc : boundS (l.take k) s with
    | some t =>
      rw [hc] at this
      simp [e']
      exact this
    | none =>
      rw [hc] at this
      simp [e, e']
      exact this
theorem says_some {w : World} {f : List UInt8 → Option Value} {l : List BindD} (hs : saysAt w f l) (s : List UInt8) : (f s).isSome = (boundS l s).isSome := by
  have := hs s
  cases hc : boundS l s with
  | some t => rw [hc] at this; obtain ⟨v, h1, _⟩ := this; rw [h1]; rfl
  | none => rw [hc] at this; rw [this]; rfl
set_option maxRecDepth 20000 in
set_option maxHeartbeats 1000000 in
theorem bind_any (w : World) (v : Value) (l : List BindD) (h : BindAt w v l) (hsz : ∀ x ∈ l, x.1.length ≤ maxLen) (hl : l.length ≤ 1000000) :
    Calls Try.prog 49 #[v] w fun e w' => ∃ b, e = .returned (.map (some b)) ∧ BinderAt w' b l ∧ Below w.heap.size w w' := by
  have h0 := h
  obtain ⟨A, c, rfl, hc, hm, hx⟩ := h
  unfold maxLen at hm
  clear hx
  have hmm := @run_makeMap Try.prog
  go_enter Try.func49, Try.ntmps49
  go_wp2
  go_loopw [11] (fun i wr => ∃ (k n : Nat) (f : List UInt8 → Option Value), k ≤ l.length ∧ n ≤ k ∧ i = .int .i64 k ∧ BMap wr w.heap.size n f ∧ saysAt w f (l.take k) ∧ Below w.heap.size w wr) (fun i _ => l.length - (intOf i).toNat)
  case atStart => exact ⟨0, 0, _, Nat.zero_le _, Nat.le_refl _, rfl, BMap.new w, fun s => by simp [boundS], new_ (Below.refl _ _) _⟩
  case round =>
    obtain ⟨k, n, f, hk, hnk, rfl, hbm, hsay, hb⟩ := hrel
    have HS := Lib.hid hsay
    have HBM := Lib.hid hbm
    have hwz := hb.size
    have hbl := hbm.lt
    clear hsay hbm
    by_cases hlt : k < l.length
    · obtain ⟨y, hy⟩ : ∃ y, l[k]? = some y := ⟨_, List.getElem?_eq_getElem hlt⟩
      obtain ⟨A', c', hvv, _, _, hx⟩ := h0.below hb
      obtain ⟨rfl, _, rfl⟩ := (by simpa using hvv : A = A' ∧ True ∧ c = c')
      obtain ⟨b, o, tv, rfl, g1, g2, g3⟩ := hx k y hy
      obtain ⟨A'', c'', hvv2, _, _, hx2⟩ := h0
      obtain ⟨rfl, _, rfl⟩ := (by simpa using hvv2 : some ⟨b, o, none⟩ = A'' ∧ True ∧ c = c'')
      obtain ⟨b', o', tv', ha, g1', g2', g3'⟩ := hx2 k y hy
      obtain ⟨rfl, rfl⟩ := (by simpa using ha : b = b' ∧ o = o')
      have htv : tv = tv' := by
        have := (hb.cell (p := ⟨b, o + k * 2 + 1, none⟩) (block_lt_of_cell g2')).trans g2'
        rw [g2] at this; injection this
      subst htv
      obtain ⟨tA, tc, rfl⟩ := g3'.form
      have hys := hsz y (List.mem_of_getElem? hy)
      have HY := Lib.hid hy
      have HG3 := Lib.hid g3'
      clear hx hx2 hy hvv hvv2 ha g1' g2' g3 g3'
      have hlook := (HBM.out.below ((Below.refl wr.heap.size wr).alloc (Nat.le_refl _) (.cells #[.string ⟨y.1.toArray⟩, .slice tA y.2.length tc] 28))).look y.1 hys
      by_cases hbd : (boundS (l.take k) y.1).isSome = true
      · have e1 : (f y.1).isSome = true := by rw [says_some HS.out]; exact hbd
        rw [e1] at hlook
        have HB := Lib.hid hbd
        clear hbd e1
        go_wp2
        go_roundw
        case rel => exact ⟨k + 1, n, f, by omega, by omega, by go_num, HBM.out.below ((Below.refl _ _).alloc (Nat.le_refl _) _), says_keep HY.out HS.out HB.out, hb.alloc hwz _⟩
        case measure => simp [intOf]; omega
      · have e1 : (f y.1).isSome = false := by rw [says_some HS.out]; simpa using hbd
        have hbn : boundS (l.take k) y.1 = none := by simpa using hbd
        rw [e1] at hlook
        have HB := Lib.hid hbn
        obtain ⟨w2, hput, hbm2, hg2⟩ := (HBM.out.below ((Below.refl wr.heap.size wr).alloc (Nat.le_refl _) (.cells #[.string ⟨y.1.toArray⟩, .slice tA y.2.length tc] 28))).put y.1 (.slice tA y.2.length tc) hys (by unfold maxLen; omega)
        have HBM2 := Lib.hid hbm2
        clear hbd hbn e1 hbm2
        go_wp2
        go_roundw
        case rel => exact ⟨k + 1, n + 1, _, by omega, by omega, by go_num, HBM2.out, says_put HY.out HS.out HB.out HG3.out, (hb.alloc hwz _).grown hg2 (by simp; omega) (fun j ej => by cases ej; exact Nat.le_refl _)⟩
        case measure => simp [intOf]; omega
    · obtain rfl : k = l.length := by omega
      rw [List.take_length] at HS
      go_wp2
      go_ret
      exact ⟨_, rfl, ⟨n, f, hnk, HBM.out, HS.out.below hb⟩, hb⟩
theorem image_any (w : World) (b : Nat) (l : List BindD) (s : List UInt8) (h : BinderAt w b l) (hs : s.length ≤ maxLen) :
    Calls Try.prog 82 #[.map (some b), .string ⟨s.toArray⟩] w fun e w' => ∃ v, e = .returned v ∧ Strs w' v (imageS l s) ∧ Below w.heap.size w w' := by
  obtain ⟨n, f, hn, hm, hsay⟩ := h
  have hlook := hm.look s hs
  have hss := hsay s
  cases hc : boundS l s with
  | some t =>
    rw [hc] at hss
    obtain ⟨v, h1, h2⟩ := hss
    rw [h1] at hlook
    have HI : Hid (imageS l s = t) := Lib.hid (imageS_some hc)
    obtain ⟨tA, tc, rfl⟩ := h2.form
    simp only [Option.getD_some, Option.isSome_some] at hlook
    clear h1 hc hsay hm
    go_enter Try.func82, Try.ntmps82
    go_wp2
    go_ret
    exact ⟨_, rfl, by rw [HI.out]; exact h2, Below.refl _ _⟩
  | none =>
    rw [hc] at hss
    have h1 : f s = none := hss
    rw [h1] at hlook
    have HI : Hid (imageS l s = [s]) := Lib.hid (imageS_none hc)
    simp only [Option.getD_none, Option.isSome_none] at hlook
    clear h1 hc hsay hm hss
    go_enter Try.func82, Try.ntmps82
    go_wp2
    go_ret
    refine ⟨_, rfl, ?_, new_ (Below.refl _ _) _⟩
    rw [HI.out]
    exact Rds.lit w 9 #[.string ⟨s.toArray⟩] 1 rfl (by decide)
end Go.Proofs.Ytignhjfobcnloaa
end
section
namespace Go.Proofs.Ytignhjfobcnloaa
open Go.RowKit
theorem infoStr : (Try.prog.info? 9).map (fun i => (i.zero, i.size, i.bytes)) = some (some (.string ⟨#[]⟩), 1, 16) := by kernel_rfl
theorem strs_cells {w : World} {b o n c : Nat} {l : List (List UInt8)} (h : Strs w (.slice (some ⟨b, o, none⟩) n c) l) : ∀ j u, (l.map fun s => Value.string ⟨s.toArray⟩)[j]? = some u → w.cell? ((⟨b, o, none⟩ : Addr).add j) = some u := by
  obtain ⟨A, c', hv, _, _, _, hr⟩ := h
  obtain ⟨rfl, rfl, rfl⟩ := (by simpa using hv : some ⟨b, o, none⟩ = A ∧ n = l.length ∧ c = c')
  intro j u hu
  have hj : j < l.length := by have := (List.getElem?_eq_some_iff.1 hu).1; simpa using this
  obtain ⟨b', o', ha, hz⟩ := hr (by omega)
  obtain ⟨rfl, rfl⟩ := (by simpa using ha : b = b' ∧ o = o')
  rw [addr_add]
  exact hz j u hu
theorem bytes_append (a l : List UInt8) : (ByteArray.mk a.toArray ++ ByteArray.mk l.toArray) = ByteArray.mk (a ++ l).toArray := by
  apply ByteArray.ext
  rw [ByteArray.data_append]
  simp
end Go.Proofs.Ytignhjfobcnloaa
end
