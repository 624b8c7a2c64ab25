/- Files read as one unit, as plain functions. -/
import Derived.Test.YtignhjfobcnloaaStripPlain
namespace Go.Proofs.Ytignhjfobcnloaa
/-- a word: its bytes, its file, where it begins; a comment: its bytes, its file, where it begins, the number of words ahead -/
abbrev WordD := List UInt8 × Int × Int
abbrev ComF := List UInt8 × Int × Int × Int
/-- the file, the place and the code of an error -/
abbrev ErrD := List UInt8 × Int × Int
/-- the unit so far, and the scopes that are open -/
structure RdS where
  files : List (List UInt8)
  words : List WordD
  coms : List ComF
  depth : Int
def endW (x : List UInt8) : Bool := x == [36, 46] || x == [36, 125]
def betweenS (x : RdS) : Bool := match x.words.getLast? with
  | none => true
  | some w => decide (x.depth ≤ 0) && endW w.1
def depthW (s : List UInt8) : Int := if s = [36, 123] then 1 else if s = [36, 125] then -1 else 0
def addW (x : RdS) (file : Nat) (t : TokD) : RdS := { x with words := x.words ++ [(t.1, (file : Int), (t.2 : Int))], depth := x.depth + depthW t.1 }
def addC (x : RdS) (file : Nat) (c : ComD) : RdS := { x with coms := x.coms ++ [(c.1, (file : Int), (c.2.1 : Int), (x.words.length : Int))] }
/-- a word or a comment of a file -/
abbrev PieceD := TokD ⊕ ComD
/-- words and comments in the order of their offsets -/
def mergeS : List TokD → List ComD → List PieceD
  | [], cs => cs.map .inr
  | w :: ws, cs => (cs.takeWhile fun c => decide (c.2.1 < w.2)).map .inr ++ .inl w :: mergeS ws (cs.dropWhile fun c => decide (c.2.1 < w.2))
/-- behind some pieces: the unit, the words of an include command so far, the number of words seen -/
abbrev RunD := RdS × List TokD × Nat
/-- a word at the place of a statement's word: what is wrong with it -/
def wrongW (ws : List TokD) (x : RdS) (w : TokD) (next : Nat) : Option (Int × Int) :=
  if w.1 = [36, 93] then some (w.2, 41)
  else if w.1 = [36, 91] then
    if betweenS x = false then some (w.2, 43)
    else match ws[next + 1]?, ws[next + 2]? with
      | some a, some b => if (36 : UInt8) ∈ a.1 ∨ b.1 ≠ [36, 93] then some (w.2, 43) else none
      | _, _ => some (w.2, 40)
  else if 8000 ≤ x.words.length then some (w.2, 8) else none
def stepR (inc : RdS → TokD → TokD → RdS ⊕ ErrD) (name : List UInt8) (file : Nat) (ws : List TokD) (s : RunD) : PieceD → RunD ⊕ ErrD
  | .inr c => .inl (addC s.1 file c, s.2.1, s.2.2)
  | .inl w => match s.2.1 with
    | a :: b :: _ => match inc s.1 a b with
      | .inl y => .inl (y, [], s.2.2 + 1)
      | .inr e => .inr e
    | [a] => .inl (s.1, [a, w], s.2.2 + 1)
    | [] => match wrongW ws s.1 w s.2.2 with
      | some (p, z) => .inr (name, p, z)
      | none => if w.1 = [36, 91] then .inl (s.1, [w], s.2.2 + 1) else .inl (addW s.1 file w, [], s.2.2 + 1)
def runR (f : RunD → PieceD → RunD ⊕ ErrD) (s : RunD) : List PieceD → RunD ⊕ ErrD
  | [] => .inl s
  | p :: r => match f s p with
    | .inr e => .inr e
    | .inl t => runR f t r
/-- an include command -/
def incS (fs : List UInt8 → Option (List UInt8)) (name : List UInt8) (tk : RdS → List UInt8 → RdS ⊕ ErrD) (x : RdS) (a b : TokD) : RdS ⊕ ErrD :=
  if b.1 ∈ x.files then .inl x
  else match fs b.1 with
    | none => .inr (name, b.2, 44)
    | some text => if 40 ≤ x.files.length then .inr (name, a.2, 8)
      else match tk x b.1 with
        | .inr e => .inr e
        | .inl y => if betweenS y then .inl y else .inr (b.1, text.length, 43)
def openF (x : RdS) (name : List UInt8) : RdS := { x with files := x.files ++ [name] }
def takeS (fs : List UInt8 → Option (List UInt8)) : Nat → RdS → List UInt8 → RdS ⊕ ErrD
  | 0, _, name => .inr (name, 0, 0)
  | f + 1, x, name =>
    if (stripS ((fs name).getD [])).2.2.2 ≠ 0 then .inr (name, (stripS ((fs name).getD [])).2.2.1, (stripS ((fs name).getD [])).2.2.2)
    else match runR (stepR (incS fs name (takeS fs f)) name x.files.length (stripS ((fs name).getD [])).1) (openF x name, [], 0) (mergeS (stripS ((fs name).getD [])).1 (stripS ((fs name).getD [])).2.1) with
      | .inl s => .inl s.1
      | .inr e => .inr e
/-- what Read returns -/
def readS (fs : List UInt8 → Option (List UInt8)) (main : List UInt8) : RdS ⊕ ErrD :=
  match fs main with
  | none => .inr (main, 0, 44)
  | some _ => takeS fs 41 ⟨[], [], [], 0⟩ main
/-- Texts; Locate -/
def textsS (l : List WordD) : List (List UInt8) := l.map (·.1)
def locS (files : List (List UInt8)) (words : List WordD) (k : Int) : (List UInt8 × Int) × Int :=
  if k < 0 ∨ (words.length : Int) ≤ k then (([], 0), 3)
  else match words[k.toNat]? with
    | none => (([], 0), 3)
    | some w => if w.2.1 < 0 ∨ (files.length : Int) ≤ w.2.1 then (([], 0), 3)
      else match files[w.2.1.toNat]? with
        | none => (([], 0), 3)
        | some f => ((f, w.2.2), 0)
section
variable {f : RunD → PieceD → RunD ⊕ ErrD}
theorem runR_append : ∀ (a b : List PieceD) (s : RunD), runR f s (a ++ b) = match runR f s a with | .inl t => runR f t b | .inr e => .inr e := by
  intro a
  induction a with
  | nil => intro b s; rfl
  | cons p a ih =>
    intro b s
    simp only [List.cons_append, runR]
    cases f s p with
    | inr e => rfl
    | inl t => exact ih b t
theorem runR_snoc {a : List PieceD} {p : PieceD} {s t : RunD} (h : runR f s a = .inl t) : runR f s (a ++ [p]) = f t p := by
  rw [runR_append, h]
  show runR f t [p] = f t p
  unfold runR
  cases f t p <;> rfl
theorem runR_bad {a l : List PieceD} {p : PieceD} {s t : RunD} {e : ErrD} (hp : a ++ [p] <+: l) (h : runR f s a = .inl t) (he : f t p = .inr e) : runR f s l = .inr e := by
  obtain ⟨r, rfl⟩ := hp
  rw [runR_append, runR_snoc h, he]
end
/-- the comments lie among the words as their counts say -/
def OrdC (ws : List TokD) (cs : List ComD) : Prop := (∀ c ∈ cs, c.2.2 ≤ ws.length ∧ ∀ i x, ws[i]? = some x → (c.2.1 < x.2 ↔ c.2.2 ≤ i)) ∧ cs.Pairwise (fun a b => a.2.2 ≤ b.2.2)
structure SrunI (x : StD) (r : List TokD) : Prop where
  ord : OrdC x.1 x.2.1
  wr : ∀ w ∈ x.1, ∀ t ∈ r, w.2 < t.2
  cr : ∀ c ∈ x.2.1, ∀ t ∈ r, c.2.1 < t.2
  op : ∀ o, x.2.2 = some o → (∀ w ∈ x.1, w.2 < o) ∧ (∀ t ∈ r, o < t.2)
theorem srun_ord {text : List UInt8} : ∀ (l : List TokD) (x y : StD), l.Pairwise (fun a b => a.2 < b.2) → SrunI x l → srun text x l = .inl y → SrunI y [] := by
  intro l
  induction l with
  | nil => intro x y _ h hy; simp [srun] at hy; subst hy; exact h
  | cons t l ih =>
    intro x y hp h hy
    obtain ⟨hp1, hp2⟩ := List.pairwise_cons.1 hp
    obtain ⟨w, c, o⟩ := x
    unfold srun at hy
    have hwr := h.wr
    have hcr := h.cr
    have hop := h.op
    have hord := h.ord
    dsimp only at hwr hcr hop hord
    have keep : SrunI (w, c, o) l := ⟨hord, fun a ha b hb => hwr a ha b (List.mem_cons_of_mem _ hb), fun a ha b hb => hcr a ha b (List.mem_cons_of_mem _ hb), fun i hi => ⟨(hop i hi).1, fun b hb => (hop i hi).2 b (List.mem_cons_of_mem _ hb)⟩⟩
    split at hy
    · cases hy
    · rename_i z hz
      refine ih z y hp2 ?_ hy
      unfold sstep at hz
      split at hz
      · cases hz
      · split at hz
        · cases o with
          | some i => simp at hz
          | none =>
            simp at hz
            subst hz
            exact ⟨hord, keep.wr, keep.cr, fun i hi => by cases hi; exact ⟨fun a ha => hwr a ha t (List.mem_cons_self ..), hp1⟩⟩
        · split at hz
          · cases o with
            | none => simp at hz
            | some i =>
              simp at hz
              subst hz
              obtain ⟨h1, h2⟩ := hop i rfl
              refine ⟨⟨fun d hd => ?_, ?_⟩, keep.wr, fun d hd b hb => ?_, fun i hi => by cases hi⟩
              · rcases List.mem_append.1 hd with hd | hd
                · exact hord.1 d hd
                · simp at hd
                  subst hd
                  refine ⟨Nat.le_refl _, fun j a ha => ?_⟩
                  have hj := (List.getElem?_eq_some_iff.1 ha).1
                  have := h1 a (List.mem_of_getElem? ha)
                  dsimp only at hj ⊢
                  omega
              · rw [List.pairwise_append]
                refine ⟨hord.2, by simp, fun a ha b hb => ?_⟩
                simp at hb
                subst hb
                exact (hord.1 a ha).1
              · rcases List.mem_append.1 hd with hd | hd
                · exact keep.cr d hd b hb
                · simp at hd
                  subst hd
                  exact h2 b (List.mem_cons_of_mem _ hb)
          · cases o with
            | some i => simp at hz; subst hz; exact keep
            | none =>
              simp at hz
              subst hz
              refine ⟨⟨fun d hd => ⟨?_, fun j a ha => ?_⟩, hord.2⟩, fun a ha b hb => ?_, keep.cr, fun i hi => by cases hi⟩
              · have := (hord.1 d hd).1; simp; omega
              · by_cases hj : j < w.length
                · rw [List.getElem?_append_left hj] at ha
                  exact (hord.1 d hd).2 j a ha
                · rw [List.getElem?_append_right (by omega)] at ha
                  have he : a = t := by
                    cases hk : j - w.length with
                    | zero => rw [hk] at ha; simpa using ha.symm
                    | succ k => rw [hk] at ha; simp at ha
                  subst he
                  have h1 := hcr d hd a (List.mem_cons_self ..)
                  have h2 := (hord.1 d hd).1
                  omega
              · rcases List.mem_append.1 ha with ha | ha
                · exact keep.wr a ha b hb
                · simp at ha
                  subst ha
                  exact hp1 b hb
theorem pair_lt {l : List TokD} (h : l.Pairwise (fun a b => a.2 + a.1.length ≤ b.2)) (h0 : ∀ t ∈ l, 0 < t.1.length) : l.Pairwise (fun a b => a.2 < b.2) := by
  induction l with
  | nil => exact List.Pairwise.nil
  | cons a l ih =>
    obtain ⟨h1, h2⟩ := List.pairwise_cons.1 h
    refine List.pairwise_cons.2 ⟨fun b hb => ?_, ih h2 fun t ht => h0 t (List.mem_cons_of_mem _ ht)⟩
    have := h1 b hb
    have := h0 a (List.mem_cons_self ..)
    omega
theorem strip_ord (text : List UInt8) : OrdC (stripS text).1 (stripS text).2.1 := by
  have nilO : OrdC [] [] := ⟨by simp, List.Pairwise.nil⟩
  unfold stripS
  split
  · exact nilO
  · obtain ⟨h1, h2, _⟩ := scanS_where text
    have hr := srun_ord (text := text) (scanS text).1 ([], [], none)
    split
    · exact nilO
    · rename_i w c hy
      exact (hr _ (pair_lt h2 fun t ht => (h1 t ht).2) ⟨nilO, by simp, by simp, fun i hi => by cases hi⟩ hy).ord
    · exact nilO
end Go.Proofs.Ytignhjfobcnloaa
