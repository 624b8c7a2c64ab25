/- Substitution in formulas, as plain functions. -/
namespace Go.Proofs.Ytignhjfobcnloaa
/-- a formula; a binding -/
abbrev Form := List (List UInt8)
abbrev BindD := List UInt8 × Form
/-- the formula that replaces a symbol; none: the symbol itself -/
def boundS (l : List BindD) (s : List UInt8) : Option Form := (l.find? (fun x => x.1 == s)).map (·.2)
def imageS (l : List BindD) (s : List UInt8) : Form := (boundS l s).getD [s]
def applyS (text : Form) (l : List BindD) : Form := text.flatMap (imageS l)
def limitedS (text : Form) (l : List BindD) (most : Int) : Form × Int :=
  if most < 0 then ([], 1) else if most < (applyS text l).length then ([], 15) else (applyS text l, 0)
def checkRun (seen : List (List UInt8)) : List BindD → Int
  | [] => 0
  | x :: r => if x.1 = [] then 80 else if x.1 ∈ seen then 6 else if 2000 < x.2.length then 15 else checkRun (seen ++ [x.1]) r
def checkS (l : List BindD) : Int := if 40 < l.length then 4 else checkRun [] l
/-- the bindings of b that a does not bind -/
def restS (a b : List BindD) : List BindD := b.filter (fun x => (boundS a x.1).isNone)
def compS (a b : List BindD) : List BindD := a.map (fun x => (x.1, applyS x.2 b)) ++ restS a b
def composeS (a b : List BindD) : List BindD × Int :=
  if checkS a ≠ 0 then ([], checkS a) else if checkS b ≠ 0 then ([], checkS b)
  else if 40 < (compS a b).length then ([], 4)
  else if ∃ x ∈ a, 2000 < (applyS x.2 b).length then ([], 15) else (compS a b, 0)
theorem boundS_nil (s : List UInt8) : boundS [] s = none := rfl
theorem boundS_cons (x : BindD) (l : List BindD) (s : List UInt8) : boundS (x :: l) s = if x.1 = s then some x.2 else boundS l s := by
  unfold boundS
  rw [List.find?_cons]
  by_cases h : x.1 = s
  · simp [h]
  · have : (x.1 == s) = false := by simpa using h
    simp [this, h]
theorem boundS_append (a b : List BindD) (s : List UInt8) : boundS (a ++ b) s = (boundS a s).or (boundS b s) := by
  induction a with
  | nil => rfl
  | cons x a ih =>
    rw [List.cons_append, boundS_cons, boundS_cons]
    split
    · rfl
    · exact ih
theorem boundS_none {l : List BindD} {s : List UInt8} : boundS l s = none ↔ s ∉ l.map (·.1) := by
  induction l with
  | nil => simp [boundS]
  | cons x l ih =>
    rw [boundS_cons]
    by_cases h : x.1 = s
    · simp [h]
    · rw [if_neg h, ih]
      simp only [List.map_cons, List.mem_cons, not_or]
      exact ⟨fun hh => ⟨fun e => h e.symm, hh⟩, fun hh => hh.2⟩
theorem boundS_map (f : Form → Form) (a : List BindD) (s : List UInt8) : boundS (a.map fun x => (x.1, f x.2)) s = (boundS a s).map f := by
  induction a with
  | nil => rfl
  | cons x a ih =>
    rw [List.map_cons, boundS_cons, boundS_cons]
    split
    · rfl
    · exact ih
theorem boundS_rest (a b : List BindD) (s : List UInt8) (h : boundS a s = none) : boundS (restS a b) s = boundS b s := by
  unfold restS
  induction b with
  | nil => rfl
  | cons x b ih =>
    rw [List.filter_cons]
    by_cases hx : x.1 = s
    · rw [hx, h]; simp [boundS_cons, hx]
    · split
      · rw [boundS_cons, boundS_cons, if_neg hx, if_neg hx, ih]
      · rw [ih, boundS_cons, if_neg hx]
theorem imageS_some {l : List BindD} {s : List UInt8} {t : Form} (h : boundS l s = some t) : imageS l s = t := by unfold imageS; rw [h]; rfl
theorem imageS_none {l : List BindD} {s : List UInt8} (h : boundS l s = none) : imageS l s = [s] := by unfold imageS; rw [h]; rfl
theorem applyS_nil (l : List BindD) : applyS [] l = [] := rfl
theorem applyS_cons (s : List UInt8) (t : Form) (l : List BindD) : applyS (s :: t) l = imageS l s ++ applyS t l := by simp [applyS]
theorem applyS_append (a b : Form) (l : List BindD) : applyS (a ++ b) l = applyS a l ++ applyS b l := by simp [applyS]
theorem applyS_one (s : List UInt8) (l : List BindD) : applyS [s] l = imageS l s := by simp [applyS]
theorem applyS_take {text : Form} {k : Nat} {s : List UInt8} {l : List BindD} (h : text[k]? = some s) : applyS (text.take (k + 1)) l = applyS (text.take k) l ++ imageS l s := by
  rw [List.take_add_one, h, applyS_append]; simp [applyS]
theorem applyS_take_le (text : Form) (l : List BindD) (k : Nat) : (applyS (text.take k) l).length ≤ (applyS text l).length := by
  conv => rhs; rw [← List.take_append_drop k text]
  rw [applyS_append, List.length_append]; omega
theorem imageS_comp (a b : List BindD) (s : List UInt8) : imageS (compS a b) s = applyS (imageS a s) b := by
  unfold compS
  cases h : boundS a s with
  | some t =>
    rw [imageS_some h]
    refine imageS_some ?_
    rw [boundS_append, boundS_map (fun y => applyS y b), h]; rfl
  | none =>
    rw [imageS_none h, applyS_one]
    unfold imageS
    rw [boundS_append, boundS_map (fun y => applyS y b), h, boundS_rest a b s h]; rfl
/-- Apply by Compose equals both substitutions in turn -/
theorem applyS_comp (text : Form) (a b : List BindD) : applyS text (compS a b) = applyS (applyS text a) b := by
  induction text with
  | nil => rfl
  | cons s t ih => rw [applyS_cons, applyS_cons, applyS_append, ih, imageS_comp]
theorem boundS_isNone_comp (a b : List BindD) (s : List UInt8) : (boundS (compS a b) s).isNone = ((boundS a s).isNone && (boundS b s).isNone) := by
  unfold compS
  rw [boundS_append, boundS_map (fun y => applyS y b)]
  cases h : boundS a s with
  | some t => simp
  | none => rw [boundS_rest a b s h]; simp
theorem compS_assoc (a b c : List BindD) : compS (compS a b) c = compS a (compS b c) := by
  have e1 : compS (compS a b) c = (compS a b).map (fun x => (x.1, applyS x.2 c)) ++ restS (compS a b) c := rfl
  have e2 : compS a (compS b c) = a.map (fun x => (x.1, applyS x.2 (compS b c))) ++ restS a (compS b c) := rfl
  rw [e1, e2]
  have h1 : restS (compS a b) c = restS a (restS b c) := by
    unfold restS
    rw [List.filter_filter]
    congr 1
    funext x
    rw [boundS_isNone_comp]
  have h2 : restS a (compS b c) = restS a (b.map fun x => (x.1, applyS x.2 c)) ++ restS a (restS b c) := by
    show restS a (b.map _ ++ restS b c) = _
    unfold restS
    rw [List.filter_append]
  have h3 : restS a (b.map fun x => (x.1, applyS x.2 c)) = (restS a b).map (fun x => (x.1, applyS x.2 c)) := by
    unfold restS
    rw [List.filter_map]
    rfl
  rw [h1, h2, h3]
  show (a.map _ ++ restS a b).map _ ++ _ = _
  rw [List.map_append, List.map_map, List.append_assoc]
  congr 1
  apply List.map_congr_left
  intro x _
  simp [applyS_comp]
theorem checkRun_ok : ∀ (l : List BindD) (seen : List (List UInt8)), checkRun seen l = 0 ↔ (∀ x ∈ l, x.1 ≠ [] ∧ x.1 ∉ seen ∧ x.2.length ≤ 2000) ∧ (l.map (·.1)).Nodup := by
  intro l
  induction l with
  | nil => intro seen; simp [checkRun]
  | cons x l ih =>
    intro seen
    unfold checkRun
    by_cases h1 : x.1 = []
    · rw [if_pos h1]; simp [h1]
    · rw [if_neg h1]
      by_cases h2 : x.1 ∈ seen
      · rw [if_pos h2]; simp [h2]
      · rw [if_neg h2]
        by_cases h3 : 2000 < x.2.length
        · rw [if_pos h3]
          constructor
          · intro h; simp at h
          · intro h; have := (h.1 x (List.mem_cons_self ..)).2.2; omega
        · rw [if_neg h3, ih]
          simp only [List.map_cons, List.nodup_cons, List.mem_cons, List.mem_append]
          constructor
          · rintro ⟨g1, g2⟩
            refine ⟨?_, ?_, g2⟩
            · rintro y (rfl | hy)
              · exact ⟨h1, h2, by omega⟩
              · have := g1 y hy; exact ⟨this.1, fun hh => this.2.1 (.inl hh), this.2.2⟩
            · intro hm
              obtain ⟨y, hy, e⟩ := List.mem_map.1 hm
              exact (g1 y hy).2.1 (.inr (.inl e))
          · rintro ⟨g1, g2, g3⟩
            refine ⟨fun y hy => ?_, g3⟩
            have := g1 y (.inr hy)
            refine ⟨this.1, ?_, this.2.2⟩
            rintro (hh | hh | hh)
            · exact this.2.1 hh
            · exact g2 (List.mem_map.2 ⟨y, hy, hh⟩)
            · cases hh
theorem checkS_ok {l : List BindD} : checkS l = 0 ↔ l.length ≤ 40 ∧ (∀ x ∈ l, x.1 ≠ [] ∧ x.2.length ≤ 2000) ∧ (l.map (·.1)).Nodup := by
  unfold checkS
  by_cases h : 40 < l.length
  · rw [if_pos h]; simp; intro h2; omega
  · rw [if_neg h, checkRun_ok]
    simp
    omega
theorem composeS_ok {a b : List BindD} (h : (composeS a b).2 = 0) : checkS a = 0 ∧ checkS b = 0 ∧ (compS a b).length ≤ 40 ∧ (∀ x ∈ a, (applyS x.2 b).length ≤ 2000) ∧ composeS a b = (compS a b, 0) := by
  unfold composeS at h ⊢
  by_cases h1 : checkS a = 0
  · rw [if_neg (by simp [h1])] at h ⊢
    by_cases h2 : checkS b = 0
    · rw [if_neg (by simp [h2])] at h ⊢
      by_cases h3 : 40 < (compS a b).length
      · rw [if_pos h3] at h; simp at h
      · rw [if_neg h3] at h ⊢
        by_cases h4 : ∃ x ∈ a, 2000 < (applyS x.2 b).length
        · rw [if_pos h4] at h; simp at h
        · rw [if_neg h4] at h ⊢
          exact ⟨h1, h2, by omega, fun x hx => Nat.le_of_not_lt fun hh => h4 ⟨x, hx, hh⟩, rfl⟩
    · rw [if_pos h2] at h; exact absurd h h2
  · rw [if_pos h1] at h; exact absurd h h1
theorem composeS_mk {a b : List BindD} (h1 : checkS a = 0) (h2 : checkS b = 0) (h3 : (compS a b).length ≤ 40) (h4 : ∀ x ∈ a, (applyS x.2 b).length ≤ 2000) : composeS a b = (compS a b, 0) := by
  unfold composeS
  rw [if_neg (by simp [h1]), if_neg (by simp [h2]), if_neg (by omega), if_neg (by rintro ⟨x, hx, hh⟩; have := h4 x hx; omega)]
theorem compS_vars (a b : List BindD) : (compS a b).map (·.1) = a.map (·.1) ++ (restS a b).map (·.1) := by
  unfold compS
  rw [List.map_append, List.map_map]
  rfl
theorem compS_check {a b : List BindD} (h : (composeS a b).2 = 0) : checkS (compS a b) = 0 := by
  obtain ⟨h1, h2, h3, h4, _⟩ := composeS_ok h
  obtain ⟨a1, a2, a3⟩ := checkS_ok.1 h1
  obtain ⟨b1, b2, b3⟩ := checkS_ok.1 h2
  refine checkS_ok.2 ⟨h3, fun x hx => ?_, ?_⟩
  · rcases List.mem_append.1 (show x ∈ a.map _ ++ restS a b from hx) with hx | hx
    · obtain ⟨y, hy, rfl⟩ := List.mem_map.1 hx
      exact ⟨(a2 y hy).1, h4 y hy⟩
    · exact b2 x (List.mem_filter.1 hx).1
  · rw [compS_vars]
    refine List.nodup_append.2 ⟨a3, (List.filter_sublist.map _).nodup b3, ?_⟩
    intro x hx y hy e
    obtain ⟨z, hz, rfl⟩ := List.mem_map.1 hy
    have := (List.mem_filter.1 hz).2
    rw [Option.isNone_iff_eq_none, boundS_none] at this
    exact this (e ▸ hx)
/-- Compose is associative, where it has no error -/
theorem composeS_assoc {a b c : List BindD} (h1 : (composeS a b).2 = 0) (h2 : (composeS b c).2 = 0) (h3 : (composeS (compS a b) c).2 = 0) : composeS a (compS b c) = (compS (compS a b) c, 0) := by
  obtain ⟨a1, a2, a3, a4, _⟩ := composeS_ok h1
  obtain ⟨b1, b2, b3, b4, _⟩ := composeS_ok h2
  obtain ⟨c1, c2, c3, c4, _⟩ := composeS_ok h3
  rw [compS_assoc] at c3 ⊢
  refine composeS_mk a1 (compS_check h2) c3 fun x hx => ?_
  rw [applyS_comp]
  exact c4 (x.1, applyS x.2 b) (List.mem_append.2 (.inl (List.mem_map.2 ⟨x, hx, rfl⟩)))
/-- bindings of symbols that do not occur -/
theorem applyS_none {a : Form} {l : List BindD} (h : ∀ x ∈ l, x.1 ∉ a) : applyS a l = a := by
  induction a with
  | nil => rfl
  | cons s t ih =>
    rw [applyS_cons, ih (fun x hx hm => h x hx (List.mem_cons_of_mem _ hm)), imageS_none (boundS_none.2 fun hm => ?_)]
    · rfl
    · obtain ⟨x, hx, e⟩ := List.mem_map.1 hm
      exact h x hx (by rw [e]; exact List.mem_cons_self ..)
/-- an exchange of two symbols, done twice -/
theorem applyS_swap (text : Form) (x y : List UInt8) : applyS (applyS text [(x, [y]), (y, [x])]) [(x, [y]), (y, [x])] = text := by
  have hs : ∀ s, applyS (imageS [(x, [y]), (y, [x])] s) [(x, [y]), (y, [x])] = [s] := by
    intro s
    have hb : ∀ z, boundS [(x, [y]), (y, [x])] z = if x = z then some [y] else if y = z then some [x] else none := by
      intro z
      rw [boundS_cons, boundS_cons, boundS_nil]
    by_cases h1 : x = s
    · subst h1
      rw [imageS_some (t := [y]) (by rw [hb, if_pos rfl]), applyS_one]
      by_cases h2 : x = y
      · subst h2; exact imageS_some (by rw [hb, if_pos rfl])
      · exact imageS_some (by rw [hb, if_neg h2, if_pos rfl])
    · by_cases h2 : y = s
      · subst h2
        rw [imageS_some (t := [x]) (by rw [hb, if_neg h1, if_pos rfl]), applyS_one]
        exact imageS_some (by rw [hb, if_pos rfl])
      · rw [imageS_none (by rw [hb, if_neg h1, if_neg h2]), applyS_one]
        exact imageS_none (by rw [hb, if_neg h1, if_neg h2])
  induction text with
  | nil => rfl
  | cons s t ih => rw [applyS_cons, applyS_append, ih, hs]; rfl
/-- the words of vs that occur in a formula, in the order of their first occurrences -/
def varsRun (vs : List (List UInt8)) (out : Form) : Form → Form
  | [] => out
  | s :: t => if s ∈ vs ∧ s ∉ out then varsRun vs (out ++ [s]) t else varsRun vs out t
def varsS (text : Form) (vs : List (List UInt8)) : Form := varsRun vs [] text
theorem varsRun_append (vs : List (List UInt8)) : ∀ (a b out : Form), varsRun vs out (a ++ b) = varsRun vs (varsRun vs out a) b := by
  intro a
  induction a with
  | nil => intro b out; rfl
  | cons s t ih =>
    intro b out
    rw [List.cons_append, varsRun, varsRun]
    split <;> exact ih ..
theorem varsRun_mem (vs : List (List UInt8)) : ∀ (a out : Form) (s : List UInt8), s ∈ varsRun vs out a ↔ s ∈ out ∨ (s ∈ a ∧ s ∈ vs) := by
  intro a
  induction a with
  | nil => intro out s; simp [varsRun]
  | cons x t ih =>
    intro out s
    rw [varsRun]
    split
    · rename_i h
      rw [ih]
      simp only [List.mem_append, List.mem_cons, List.not_mem_nil, or_false]
      constructor
      · rintro ((h1 | rfl) | h1)
        · exact .inl h1
        · exact .inr ⟨.inl rfl, h.1⟩
        · exact .inr ⟨.inr h1.1, h1.2⟩
      · rintro (h1 | ⟨rfl | h1, h2⟩)
        · exact .inl (.inl h1)
        · exact .inl (.inr rfl)
        · exact .inr ⟨h1, h2⟩
    · rename_i h
      rw [ih]
      simp only [List.mem_cons]
      constructor
      · rintro (h1 | h1)
        · exact .inl h1
        · exact .inr ⟨.inr h1.1, h1.2⟩
      · rintro (h1 | ⟨rfl | h1, h2⟩)
        · exact .inl h1
        · by_cases h3 : s ∈ out
          · exact .inl h3
          · exact absurd ⟨h2, h3⟩ h
        · exact .inr ⟨h1, h2⟩
/-- what is known already adds nothing -/
theorem varsRun_known (vs : List (List UInt8)) : ∀ (a out : Form), (∀ s ∈ a, s ∈ vs → s ∈ out) → varsRun vs out a = out := by
  intro a
  induction a with
  | nil => intro out _; rfl
  | cons x t ih =>
    intro out h
    rw [varsRun, if_neg (fun hh => hh.2 (h x (List.mem_cons_self ..) hh.1))]
    exact ih out fun s hs => h s (List.mem_cons_of_mem _ hs)
/-- the variables of the variables of a -/
theorem varsRun_vars (vs : List (List UInt8)) (a out : Form) : varsRun vs out (varsS a vs) = varsRun vs out a := by
  have key : ∀ (a p out : Form), (∀ s ∈ p, s ∈ vs → s ∈ out) → varsRun vs out (varsRun vs p a) = varsRun vs (varsRun vs out p) a := by
    intro a
    induction a with
    | nil => intro p out _; rfl
    | cons x t ih =>
      intro p out hp
      have hk := varsRun_known vs p out hp
      rw [hk, varsRun, varsRun]
      by_cases hv : x ∈ vs
      · by_cases hxp : x ∈ p
        · have := hp x hxp hv
          rw [if_neg (fun hh => hh.2 hxp), if_neg (fun hh => hh.2 this), ih p out hp, hk]
        · rw [if_pos ⟨hv, hxp⟩]
          by_cases hxo : x ∈ out
          · rw [if_neg (fun hh => hh.2 hxo)]
            have hp' : ∀ s ∈ p ++ [x], s ∈ vs → s ∈ out := fun s hs hsv => by
              rcases List.mem_append.1 hs with h | h
              · exact hp s h hsv
              · simp at h; rw [h]; exact hxo
            rw [ih (p ++ [x]) out hp', varsRun_known vs (p ++ [x]) out hp']
          · rw [if_pos ⟨hv, hxo⟩]
            -- push x into out first
            have e : varsRun vs out (varsRun vs (p ++ [x]) t) = varsRun vs (out ++ [x]) (varsRun vs (p ++ [x]) t) := by
              obtain ⟨r, hr⟩ : ∃ r, varsRun vs (p ++ [x]) t = p ++ [x] ++ r := by
                have : ∀ (t q : Form), ∃ r, varsRun vs q t = q ++ r := by
                  intro t
                  induction t with
                  | nil => intro q; exact ⟨[], by simp [varsRun]⟩
                  | cons y t ih2 =>
                    intro q
                    rw [varsRun]
                    split
                    · obtain ⟨r, hr⟩ := ih2 (q ++ [y]); exact ⟨[y] ++ r, by rw [hr]; simp⟩
                    · exact ih2 q
                exact this t _
              rw [hr, varsRun_append, varsRun_append, varsRun_append, varsRun_append, hk, varsRun_known vs p (out ++ [x]) (fun s hs hsv => List.mem_append.2 (.inl (hp s hs hsv)))]
              congr 1
              rw [varsRun, if_pos ⟨hv, hxo⟩, varsRun, varsRun, if_neg (fun hh => hh.2 (by simp)), varsRun]
            have hp' : ∀ s ∈ p ++ [x], s ∈ vs → s ∈ out ++ [x] := fun s hs hsv => by
              rcases List.mem_append.1 hs with h | h
              · exact List.mem_append.2 (.inl (hp s h hsv))
              · exact List.mem_append.2 (.inr h)
            rw [e, ih (p ++ [x]) (out ++ [x]) hp', varsRun_known vs (p ++ [x]) (out ++ [x]) hp']
      · rw [if_neg (fun hh => hv hh.1), if_neg (fun hh => hv hh.1), ih p out hp, hk]
  have := key a [] out (by simp)
  simpa [varsS, varsRun] using this
/-- Vars of Apply are Vars of the images, one behind the other -/
theorem varsS_apply (text : Form) (l : List BindD) (vs : List (List UInt8)) : varsS (applyS text l) vs = varsS (text.flatMap fun s => varsS (applyS [s] l) vs) vs := by
  have : ∀ (text out : Form), varsRun vs out (applyS text l) = varsRun vs out (text.flatMap fun s => varsS (applyS [s] l) vs) := by
    intro text
    induction text with
    | nil => intro out; rfl
    | cons s t ih =>
      intro out
      rw [applyS_cons, List.flatMap_cons, varsRun_append, varsRun_append, varsRun_vars, applyS_one, ih]
  exact this text []
end Go.Proofs.Ytignhjfobcnloaa
