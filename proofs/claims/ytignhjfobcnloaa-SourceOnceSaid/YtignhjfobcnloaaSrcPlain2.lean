/- Files read as one unit: what stays within bounds; the same by index. -/
import Derived.Test.YtignhjfobcnloaaPlainA
namespace Go.Proofs.Ytignhjfobcnloaa
/-- the unit's bounds -/
structure OkR (x : RdS) : Prop where
  fl : x.files.length ≤ 40
  wl : x.words.length ≤ 8000
  dl : -(x.words.length : Int) ≤ x.depth ∧ x.depth ≤ x.words.length
/-- y is x with more -/
structure MoreR (x y : RdS) : Prop where
  ok : OkR x → OkR y
  cl : y.coms.length + 8000 * x.files.length ≤ x.coms.length + 8000 * y.files.length
  fs : x.files <+: y.files
theorem MoreR.refl (x : RdS) : MoreR x x := ⟨id, Nat.le_refl _, List.prefix_rfl⟩
theorem MoreR.trans {x y z : RdS} (h : MoreR x y) (k : MoreR y z) : MoreR x z := ⟨fun o => k.ok (h.ok o), by have := h.cl; have := k.cl; omega, h.fs.trans k.fs⟩
def ncom : List PieceD → Nat
  | [] => 0
  | .inr _ :: l => ncom l + 1
  | .inl _ :: l => ncom l
def nwrd : List PieceD → Nat
  | [] => 0
  | .inr _ :: l => nwrd l
  | .inl _ :: l => nwrd l + 1
theorem ncom_append : ∀ (a b : List PieceD), ncom (a ++ b) = ncom a + ncom b
  | [], b => by simp [ncom]
  | .inr _ :: a, b => by simp only [List.cons_append, ncom, ncom_append a b]; omega
  | .inl _ :: a, b => by simp only [List.cons_append, ncom, ncom_append a b]
theorem nwrd_append : ∀ (a b : List PieceD), nwrd (a ++ b) = nwrd a + nwrd b
  | [], b => by simp [nwrd]
  | .inr _ :: a, b => by simp only [List.cons_append, nwrd, nwrd_append a b]
  | .inl _ :: a, b => by simp only [List.cons_append, nwrd, nwrd_append a b]; omega
theorem ncom_coms : ∀ (cs : List ComD), ncom (cs.map Sum.inr) = cs.length
  | [] => rfl
  | c :: cs => by simp only [List.map_cons, ncom, ncom_coms cs, List.length_cons]
theorem nwrd_coms : ∀ (cs : List ComD), nwrd (cs.map Sum.inr) = 0
  | [] => rfl
  | c :: cs => by simp only [List.map_cons, nwrd, nwrd_coms cs]
theorem ncom_snoc_c (l : List PieceD) (c : ComD) : ncom (l ++ [.inr c]) = ncom l + 1 := by rw [ncom_append]; rfl
theorem ncom_snoc_w (l : List PieceD) (c : TokD) : ncom (l ++ [.inl c]) = ncom l := by rw [ncom_append]; rfl
theorem nwrd_snoc_c (l : List PieceD) (c : ComD) : nwrd (l ++ [.inr c]) = nwrd l := by rw [nwrd_append]; rfl
theorem nwrd_snoc_w (l : List PieceD) (c : TokD) : nwrd (l ++ [.inl c]) = nwrd l + 1 := by rw [nwrd_append]; rfl
theorem nwrd_le {a l : List PieceD} (h : a <+: l) : nwrd a ≤ nwrd l := by obtain ⟨r, rfl⟩ := h; rw [nwrd_append]; omega
theorem ncom_le {a l : List PieceD} (h : a <+: l) : ncom a ≤ ncom l := by obtain ⟨r, rfl⟩ := h; rw [ncom_append]; omega
theorem nwrd_merge : ∀ (ws : List TokD) (cs : List ComD), nwrd (mergeS ws cs) = ws.length
  | [], cs => by rw [mergeS, nwrd_coms]; rfl
  | w :: ws, cs => by rw [mergeS, nwrd_append, nwrd_coms, nwrd, nwrd_merge ws]; simp
theorem ncom_merge : ∀ (ws : List TokD) (cs : List ComD), ncom (mergeS ws cs) = cs.length
  | [], cs => by rw [mergeS, ncom_coms]
  | w :: ws, cs => by
    have h2 : (cs.takeWhile fun c => decide (c.2.1 < w.2)).length + (cs.dropWhile fun c => decide (c.2.1 < w.2)).length = cs.length := by rw [← List.length_append, List.takeWhile_append_dropWhile]
    rw [mergeS, ncom_append, ncom_coms, ncom, ncom_merge ws]
    omega
theorem strip_len (text : List UInt8) : (stripS text).1.length ≤ 8000 ∧ (stripS text).2.1.length ≤ 8000 := by
  have hw := (scanS_where text).2.2
  have key : ∀ (l : List TokD) (x y : StD), srun text x l = .inl y → y.1.length ≤ x.1.length + l.length ∧ y.2.1.length ≤ x.2.1.length + l.length := by
    intro l
    induction l with
    | nil => intro x y h; simp [srun] at h; subst h; simp
    | cons t l ih =>
      intro x y h
      unfold srun at h
      split at h
      · cases h
      · rename_i z hz
        have h2 := ih z y h
        have h3 : z.1.length ≤ x.1.length + 1 ∧ z.2.1.length ≤ x.2.1.length + 1 := by
          obtain ⟨w, c, o⟩ := x
          unfold sstep at hz
          split at hz
          · cases hz
          · split at hz
            · cases o <;> simp at hz; subst hz; simp
            · split at hz
              · cases o <;> simp at hz; subst hz; simp
              · cases o <;> (simp at hz; subst hz; simp)
        simp
        omega
  unfold stripS
  split
  · simp
  · split
    · simp
    · rename_i w c h
      have := key _ _ _ h
      simp at this
      exact ⟨by simpa using Nat.le_trans this.1 hw, by simpa using Nat.le_trans this.2 hw⟩
    · simp
section
variable {inc : RdS → TokD → TokD → RdS ⊕ ErrD} {name : List UInt8} {file : Nat} {ws : List TokD}
theorem depthW_le (s : List UInt8) : -1 ≤ depthW s ∧ depthW s ≤ 1 := by unfold depthW; split <;> (try split) <;> omega
theorem stepR_more (hinc : ∀ x a b y, inc x a b = .inl y → MoreR x y) {s t : RunD} {p : PieceD} (h : stepR inc name file ws s p = .inl t) :
    (OkR s.1 → OkR t.1) ∧ t.1.coms.length + 8000 * s.1.files.length ≤ s.1.coms.length + (ncom [p]) + 8000 * t.1.files.length ∧ s.1.files <+: t.1.files ∧ t.2.2 = s.2.2 + nwrd [p] := by
  obtain ⟨x, cmd, next⟩ := s
  cases p with
  | inr c =>
    simp [stepR] at h
    subst h
    exact ⟨fun o => ⟨o.fl, o.wl, o.dl⟩, by simp [addC, ncom], List.prefix_rfl, by simp [nwrd]⟩
  | inl w =>
    match cmd, h with
    | [], h =>
      simp only [stepR] at h
      cases hw : wrongW ws x w next with
      | some e => rw [hw] at h; cases h
      | none =>
        rw [hw] at h
        dsimp only at h
        split at h
        · cases h
          exact ⟨id, by simp [ncom], List.prefix_rfl, by simp [nwrd]⟩
        · cases h
          rename_i hne
          have h8 : ¬ 8000 ≤ x.words.length := by
            intro h8
            unfold wrongW at hw
            rw [if_neg hne, if_pos h8] at hw
            split at hw <;> cases hw
          refine ⟨fun o => ⟨o.fl, ?_, ?_⟩, by simp [addW, ncom], List.prefix_rfl, by simp [nwrd]⟩
          · simp [addW]; omega
          · have := depthW_le w.1
            have := o.dl
            dsimp only at this
            simp [addW]; omega
    | [a], h =>
      simp [stepR] at h
      subst h
      exact ⟨id, by simp [ncom], List.prefix_rfl, by simp [nwrd]⟩
    | a :: b :: r, h =>
      simp only [stepR] at h
      cases hi : inc x a b with
      | inr e => rw [hi] at h; cases h
      | inl y =>
        rw [hi] at h
        cases h
        have := hinc _ _ _ _ hi
        exact ⟨this.ok, by have := this.cl; simp [ncom]; omega, this.fs, by simp [nwrd]⟩
theorem runR_more (hinc : ∀ x a b y, inc x a b = .inl y → MoreR x y) : ∀ (l : List PieceD) {s t : RunD}, runR (stepR inc name file ws) s l = .inl t →
    (OkR s.1 → OkR t.1) ∧ t.1.coms.length + 8000 * s.1.files.length ≤ s.1.coms.length + ncom l + 8000 * t.1.files.length ∧ s.1.files <+: t.1.files ∧ t.2.2 = s.2.2 + nwrd l := by
  intro l
  induction l with
  | nil => intro s t h; simp [runR] at h; subst h; exact ⟨id, by simp [ncom], List.prefix_rfl, by simp [nwrd]⟩
  | cons p l ih =>
    intro s t h
    unfold runR at h
    split at h
    · cases h
    · rename_i u hu
      obtain ⟨a1, a2, a3, a4⟩ := stepR_more hinc hu
      obtain ⟨b1, b2, b3, b4⟩ := ih h
      have e1 : ncom (p :: l) = ncom [p] + ncom l := ncom_append [p] l
      have e2 : nwrd (p :: l) = nwrd [p] + nwrd l := nwrd_append [p] l
      exact ⟨fun o => b1 (a1 o), by omega, a3.trans b3, by omega⟩
end
theorem openF_more {x : RdS} (name : List UInt8) (h : x.files.length < 40) (o : OkR x) : OkR (openF x name) := ⟨by simp [openF]; omega, o.wl, o.dl⟩
/-- what a file adds -/
theorem takeS_more (fs : List UInt8 → Option (List UInt8)) : ∀ (f : Nat) (x y : RdS) (name : List UInt8), takeS fs f x name = .inl y → (x.files.length < 40 → OkR x → OkR y) ∧ y.coms.length + 8000 * x.files.length ≤ x.coms.length + 8000 * y.files.length ∧ x.files ++ [name] <+: y.files := by
  intro f
  induction f with
  | zero => intro x y name h; simp [takeS] at h
  | succ f ih =>
    intro x y name h
    unfold takeS at h
    split at h
    · cases h
    · split at h
      · rename_i s hs
        cases h
        have hinc : ∀ x a b y, incS fs name (takeS fs f) x a b = .inl y → MoreR x y := by
          intro x a b y h
          unfold incS at h
          split at h
          · cases h; exact MoreR.refl x
          · split at h
            · cases h
            · split at h
              · cases h
              · rename_i hlt
                split at h
                · cases h
                · rename_i z hz
                  split at h
                  · cases h
                    obtain ⟨q1, q2, q3⟩ := ih _ _ _ hz
                    exact ⟨q1 (by omega), q2, (List.prefix_append _ _).trans q3⟩
                  · cases h
        obtain ⟨b1, b2, b3, _⟩ := runR_more hinc _ hs
        rw [ncom_merge] at b2
        have hl := (strip_len ((fs name).getD [])).2
        refine ⟨fun hlt o => b1 (openF_more name hlt o), ?_, b3⟩
        simp [openF] at b2
        omega
      · cases h
theorem incS_more (fs : List UInt8 → Option (List UInt8)) (f : Nat) (name : List UInt8) : ∀ x a b y, incS fs name (takeS fs f) x a b = .inl y → MoreR x y := by
  intro x a b y h
  unfold incS at h
  split at h
  · cases h; exact MoreR.refl x
  · split at h
    · cases h
    · split at h
      · cases h
      · rename_i hlt
        split at h
        · cases h
        · rename_i z hz
          split at h
          · cases h
            obtain ⟨q1, q2, q3⟩ := takeS_more fs f _ _ _ hz
            exact ⟨q1 (by omega), q2, (List.prefix_append _ _).trans q3⟩
          · cases h
/-- between two pieces of a file -/
theorem run_mid {fs : List UInt8 → Option (List UInt8)} {f : Nat} {name : List UInt8} {x : RdS} {ws : List TokD} {cs : List ComD} {pre : List PieceD} {s : RunD} (hc : cs.length ≤ 8000) (ho : OkR x) (hl : x.files.length < 40) (hx : x.coms.length ≤ 8000 * x.files.length)
    (hp : pre <+: mergeS ws cs) (h : runR (stepR (incS fs name (takeS fs f)) name x.files.length ws) (openF x name, [], 0) pre = .inl s) : OkR s.1 ∧ s.1.coms.length + (cs.length - ncom pre) ≤ 8000 * s.1.files.length ∧ x.files ++ [name] <+: s.1.files ∧ s.2.2 = nwrd pre ∧ nwrd pre ≤ ws.length := by
  obtain ⟨b1, b2, b3, b4⟩ := runR_more (incS_more fs f name) _ h
  have h1 := ncom_le hp
  have h2 := nwrd_le hp
  rw [ncom_merge] at h1
  rw [nwrd_merge] at h2
  refine ⟨b1 (openF_more name hl ho), ?_, b3, by simpa using b4, h2⟩
  simp [openF] at b2
  omega
/-! the same by index -/
def addCs (x : RdS) (file : Nat) (l : List ComD) : RdS := { x with coms := x.coms ++ l.map fun c => (c.1, (file : Int), (c.2.1 : Int), (x.words.length : Int)) }
theorem addCs_nil (x : RdS) (file : Nat) : addCs x file [] = x := by unfold addCs; simp
theorem addCs_cons (x : RdS) (file : Nat) (c : ComD) (l : List ComD) : addCs x file (c :: l) = addCs (addC x file c) file l := by unfold addCs addC; simp
theorem addCs_snoc (x : RdS) (file : Nat) (l : List ComD) (c : ComD) : addCs x file (l ++ [c]) = addC (addCs x file l) file c := by unfold addCs addC; simp
theorem addCs_append (x : RdS) (file : Nat) (l k : List ComD) : addCs x file (l ++ k) = addCs (addCs x file l) file k := by unfold addCs; simp
def dueC (i : Nat) (l : List ComD) : List ComD := l.takeWhile fun c => decide (c.2.2 ≤ i)
def leftC (i : Nat) (l : List ComD) : List ComD := l.dropWhile fun c => decide (c.2.2 ≤ i)
theorem due_left (i : Nat) (l : List ComD) : dueC i l ++ leftC i l = l := List.takeWhile_append_dropWhile
theorem takeWhile_congr' {α : Type} {p q : α → Bool} {l : List α} (h : ∀ x ∈ l, p x = q x) : l.takeWhile p = l.takeWhile q ∧ l.dropWhile p = l.dropWhile q := by
  induction l with
  | nil => simp
  | cons a l ih =>
    obtain ⟨i1, i2⟩ := ih fun x hx => h x (List.mem_cons_of_mem _ hx)
    rw [List.takeWhile_cons, List.takeWhile_cons, List.dropWhile_cons, List.dropWhile_cons, h a (List.mem_cons_self ..), i1, i2]
    exact ⟨rfl, rfl⟩
theorem due_twice {i j : Nat} (h : i ≤ j) (l : List ComD) : dueC i l ++ dueC j (leftC i l) = dueC j l ∧ leftC j (leftC i l) = leftC j l := by
  unfold dueC leftC
  induction l with
  | nil => simp
  | cons a l ih =>
    obtain ⟨i1, i2⟩ := ih
    by_cases ha : a.2.2 ≤ i
    · have hb : a.2.2 ≤ j := by omega
      simp only [List.takeWhile_cons, List.dropWhile_cons, ha, hb, decide_true, if_true, List.cons_append]
      exact ⟨by rw [i1], i2⟩
    · simp [List.takeWhile_cons, List.dropWhile_cons, ha]
section
variable {inc : RdS → TokD → TokD → RdS ⊕ ErrD} {name : List UInt8} {file : Nat} {ws : List TokD}
theorem runR_coms : ∀ (l : List ComD) (x : RdS) (cmd : List TokD) (i : Nat) (r : List PieceD), runR (stepR inc name file ws) (x, cmd, i) (l.map .inr ++ r) = runR (stepR inc name file ws) (addCs x file l, cmd, i) r := by
  intro l
  induction l with
  | nil => intro x cmd i r; rw [addCs_nil]; rfl
  | cons c l ih =>
    intro x cmd i r
    rw [addCs_cons, ← ih]
    rfl
/-- behind i words, the comments R still to come -/
def runAt (inc : RdS → TokD → TokD → RdS ⊕ ErrD) (name : List UInt8) (file : Nat) (ws : List TokD) (x : RdS) (cmd : List TokD) (i : Nat) (R : List ComD) : RunD ⊕ ErrD :=
  runR (stepR inc name file ws) (x, cmd, i) (mergeS (ws.drop i) R)
theorem merge_at {i : Nat} {w : TokD} {R : List ComD} (hw : ws[i]? = some w) (hO : ∀ c ∈ R, c.2.1 < w.2 ↔ c.2.2 ≤ i) : mergeS (ws.drop i) R = (dueC i R).map .inr ++ .inl w :: mergeS (ws.drop (i + 1)) (leftC i R) := by
  obtain ⟨hi, e⟩ := List.getElem?_eq_some_iff.1 hw
  rw [List.drop_eq_getElem_cons hi, e, mergeS]
  obtain ⟨e1, e2⟩ := takeWhile_congr' (l := R) (p := fun c => decide (c.2.1 < w.2)) (q := fun c => decide (c.2.2 ≤ i)) fun c hc => by simp [hO c hc]
  rw [e1, e2]
  rfl
theorem runAt_step {x : RdS} {cmd : List TokD} {i : Nat} {w : TokD} {R : List ComD} (hw : ws[i]? = some w) (hO : ∀ c ∈ R, c.2.1 < w.2 ↔ c.2.2 ≤ i) :
    runAt inc name file ws x cmd i R = match stepR inc name file ws (addCs x file (dueC i R), cmd, i) (.inl w) with
      | .inr e => .inr e
      | .inl t => runR (stepR inc name file ws) t (mergeS (ws.drop (i + 1)) (leftC i R)) := by
  unfold runAt
  rw [merge_at hw hO, runR_coms, runR]
  cases stepR inc name file ws (addCs x file (dueC i R), cmd, i) (Sum.inl w) <;> rfl
theorem runAt_wrong {x : RdS} {i : Nat} {w : TokD} {R : List ComD} {e : Int × Int} (hw : ws[i]? = some w) (hO : ∀ c ∈ R, c.2.1 < w.2 ↔ c.2.2 ≤ i) (he : wrongW ws (addCs x file (dueC i R)) w i = some e) :
    runAt inc name file ws x [] i R = .inr (name, e.1, e.2) := by
  rw [runAt_step hw hO]
  simp [stepR, he]
theorem runAt_word {x : RdS} {i : Nat} {w : TokD} {R : List ComD} (hw : ws[i]? = some w) (hO : ∀ c ∈ R, c.2.1 < w.2 ↔ c.2.2 ≤ i) (he : wrongW ws (addCs x file (dueC i R)) w i = none) (hn : w.1 ≠ [36, 91]) :
    runAt inc name file ws x [] i R = runAt inc name file ws (addW (addCs x file (dueC i R)) file w) [] (i + 1) (leftC i R) := by
  rw [runAt_step hw hO]
  simp [stepR, he, hn, runAt]
theorem runAt_inc {x : RdS} {i : Nat} {w a b : TokD} {R : List ComD} (hw : ws[i]? = some w) (ha : ws[i + 1]? = some a) (hb : ws[i + 2]? = some b) (hO : ∀ c ∈ R, ∀ j z, ws[j]? = some z → (c.2.1 < z.2 ↔ c.2.2 ≤ j)) (he : wrongW ws (addCs x file (dueC i R)) w i = none) (hn : w.1 = [36, 91]) :
    runAt inc name file ws x [] i R = match inc (addCs (addCs x file (dueC i R)) file (dueC (i + 2) (leftC i R))) w a with
      | .inr e => .inr e
      | .inl y => runAt inc name file ws y [] (i + 3) (leftC (i + 2) (leftC i R)) := by
  have hO1 : ∀ c ∈ leftC i R, ∀ j z, ws[j]? = some z → (c.2.1 < z.2 ↔ c.2.2 ≤ j) := fun c hc => hO c ((List.dropWhile_sublist _).subset hc)
  have hO2 : ∀ c ∈ leftC (i + 1) (leftC i R), ∀ j z, ws[j]? = some z → (c.2.1 < z.2 ↔ c.2.2 ≤ j) := fun c hc => hO1 c ((List.dropWhile_sublist _).subset hc)
  rw [runAt_step hw fun c hc => hO c hc i w hw]
  simp only [stepR, he, hn, if_true]
  have e1 := runAt_step (inc := inc) (name := name) (file := file) (x := addCs x file (dueC i R)) (cmd := [w]) ha fun c hc => hO1 c hc (i + 1) a ha
  unfold runAt at e1
  rw [e1]
  simp only [stepR]
  have e2 := runAt_step (inc := inc) (name := name) (file := file) (x := addCs (addCs x file (dueC i R)) file (dueC (i + 1) (leftC i R))) (cmd := [w, a]) hb fun c hc => hO2 c hc (i + 2) b hb
  unfold runAt at e2
  rw [e2]
  obtain ⟨d1, d2⟩ := due_twice (show i + 1 ≤ i + 2 by omega) (leftC i R)
  simp only [stepR]
  rw [← addCs_append, d1, d2]
  cases inc (addCs (addCs x file (dueC i R)) file (dueC (i + 2) (leftC i R))) w a <;> rfl
theorem runAt_end {x : RdS} {R : List ComD} {cmd : List TokD} : runAt inc name file ws x cmd ws.length R = .inl (addCs x file R, cmd, ws.length) := by
  unfold runAt
  rw [List.drop_length, mergeS]
  have := runR_coms (inc := inc) (name := name) (file := file) (ws := ws) R x cmd ws.length []
  rw [List.append_nil] at this
  rw [this]
  rfl
end
theorem wrongW_incl {ws : List TokD} {x : RdS} {w : TokD} {i : Nat} (h : wrongW ws x w i = none) (hn : w.1 = [36, 91]) : betweenS x = true ∧ ∃ a b, ws[i + 1]? = some a ∧ ws[i + 2]? = some b ∧ (36 : UInt8) ∉ a.1 ∧ b.1 = [36, 93] := by
  unfold wrongW at h
  rw [if_neg (by rw [hn]; decide), if_pos hn] at h
  split at h
  · cases h
  · rename_i hb
    split at h
    · rename_i a b ha hb'
      split at h
      · cases h
      · rename_i hc
        rw [not_or] at hc
        exact ⟨by simpa using hb, a, b, ha, hb', hc.1, by simpa using hc.2⟩
    · cases h
end Go.Proofs.Ytignhjfobcnloaa
