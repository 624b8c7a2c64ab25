/- strings.FieldsFunc at white space, over ASCII: the tokens. Layout: white space and whole comments. -/
import Derived.Test.YtpmbfcogkoiogaaDoorPlainA
import Derived.Lib.FieldsP
import Derived.Laws.RangeString
import Derived.Test.YtpmbfcogkoiogaaDoorDocPA
section
namespace Go.Proofs.YtpmbfcogkoiogaaDoor
/-- white space, of a rune -/
def wh (r : Nat) : Bool := [32, 9, 13, 10, 12].contains r
theorem wh_sp (b : UInt8) : wh b.toNat = sp b := by
  unfold sp
  have h : ∀ n : Nat, n < 256 → wh n = (cls n == 1) := by decide +kernel
  exact h _ b.toNat_lt
theorem cut_list (s : List UInt8) (a b : Nat) : (ByteArray.mk s.toArray).extract a b = ⟨((s.take b).drop a).toArray⟩ := by
  apply ByteArray.ext
  rw [ByteArray.data_extract]
  simp [List.extract_eq_take_drop, List.drop_take]
theorem decode_list {s : List UInt8} {pos : Nat} {b : UInt8} (hb : s[pos]? = some b) (ha : b.toNat < 128) : Utf8.decode ⟨s.toArray⟩ pos = (b.toNat, 1) := by
  have hlt := (List.getElem?_eq_some_iff.1 hb).1
  have he := (List.getElem?_eq_some_iff.1 hb).2
  have h1 : pos < (ByteArray.mk s.toArray).size := by simpa [ByteArray.size] using hlt
  have h2 : (ByteArray.mk s.toArray)[pos]'h1 = b := by rw [← he]; rfl
  rw [decode_ascii _ pos h1 (by rw [h2]; exact ha), h2]
/-- the number of bytes up to the next white space -/
def runL (s : List UInt8) : Nat := (s.takeWhile fun c => !sp c).length
theorem run_take (s : List UInt8) : s.take (runL s) = s.takeWhile (fun c => !sp c) := by
  unfold runL
  exact (List.prefix_iff_eq_take.1 (List.takeWhile_prefix _)).symm
theorem run_drop (s : List UInt8) : s.drop (runL s) = s.dropWhile (fun c => !sp c) := by
  conv => lhs; arg 2; rw [← List.takeWhile_append_dropWhile (p := fun c => !sp c) (l := s)]
  exact List.drop_left' rfl
open Go.Lib in
theorem fields_run (s : List UInt8) (hasc : ∀ b ∈ s, b.toNat < 128) : ∀ (f pos : Nat) (acc : List (Nat × Nat)), s.length ≤ f + pos → pos ≤ s.length →
    ((closeSpans ⟨s.toArray⟩ (spansFromP wh ⟨s.toArray⟩ f pos none acc)).map fun x => (ByteArray.mk s.toArray).extract x.1 x.2) = (acc.map fun x => (ByteArray.mk s.toArray).extract x.1 x.2) ++ (toks pos (s.drop pos)).map (fun t => ⟨t.1.toArray⟩) ∧
    ∀ a, a ≤ pos → ((closeSpans ⟨s.toArray⟩ (spansFromP wh ⟨s.toArray⟩ f pos (some a) acc)).map fun x => (ByteArray.mk s.toArray).extract x.1 x.2) = (acc.map fun x => (ByteArray.mk s.toArray).extract x.1 x.2) ++
      ⟨((s.take (pos + runL (s.drop pos))).drop a).toArray⟩ :: (toks (pos + runL (s.drop pos)) (s.drop (pos + runL (s.drop pos)))).map (fun t => ⟨t.1.toArray⟩)
  | 0, pos, acc, hf, hp => by
    obtain rfl : pos = s.length := by omega
    have hd : s.drop s.length = [] := List.drop_length
    refine ⟨by rw [hd, toks_nil]; simp [spansFromP, closeSpans], fun a ha => ?_⟩
    rw [hd]
    have hr : runL [] = 0 := rfl
    rw [hr]
    simp only [Nat.add_zero]
    rw [hd, toks_nil, List.take_length]
    simp [spansFromP, closeSpans, cut_list, ByteArray.size]
  | f + 1, pos, acc, hf, hp => by
    by_cases hlt : pos < s.length
    · obtain ⟨b, hb⟩ : ∃ b, s[pos]? = some b := ⟨_, List.getElem?_eq_getElem hlt⟩
      have hdec := decode_list hb (hasc b (List.mem_of_getElem? hb))
      have hsz : pos < (ByteArray.mk s.toArray).size := by simpa [ByteArray.size] using hlt
      have hd : s.drop pos = b :: s.drop (pos + 1) := by
        rw [List.drop_eq_getElem_cons hlt]
        congr 1
        exact (List.getElem?_eq_some_iff.1 hb).2
      obtain ⟨i1, i2⟩ := fields_run s hasc f (pos + 1) acc (by omega) (by omega)
      by_cases hs : sp b = true
      · have hw : wh b.toNat = true := by rw [wh_sp]; exact hs
        refine ⟨?_, fun a ha => ?_⟩
        · rw [spansFromP, if_pos hsz, hdec, if_pos hw]
          dsimp only
          rw [i1, hd, toks_sp hs]
        · obtain ⟨j1, _⟩ := fields_run s hasc f (pos + 1) (acc ++ [(a, pos)]) (by omega) (by omega)
          have hr : runL (s.drop pos) = 0 := by rw [hd]; unfold runL; simp [hs]
          rw [spansFromP, if_pos hsz, hdec, if_pos hw]
          dsimp only
          rw [j1, hr]
          simp only [Nat.add_zero]
          rw [hd, toks_sp hs]
          simp [cut_list]
      · have hs' : sp b = false := by simpa using hs
        have hw : wh b.toNat = false := by rw [wh_sp]; exact hs'
        have hr : runL (s.drop pos) = 1 + runL (s.drop (pos + 1)) := by rw [hd]; unfold runL; rw [List.takeWhile_cons_of_pos (by simp [hs'])]; simp; omega
        refine ⟨?_, fun a ha => ?_⟩
        · rw [spansFromP, if_pos hsz, hdec, if_neg (by simp [hw])]
          dsimp only
          rw [i2 pos (by omega), hd, toks_cons hs', List.map_cons]
          have hlen : (List.takeWhile (fun c => !sp c) (s.drop (pos + 1))).length = runL (s.drop (pos + 1)) := rfl
          have h1 : (s.take (pos + 1 + runL (s.drop (pos + 1)))).drop pos = b :: (s.drop (pos + 1)).takeWhile (fun c => !sp c) := by
            rw [List.drop_take, show pos + 1 + runL (s.drop (pos + 1)) - pos = runL (s.drop (pos + 1)) + 1 by omega, hd, List.take_succ_cons, run_take]
          have h2 : s.drop (pos + 1 + runL (s.drop (pos + 1))) = (s.drop (pos + 1)).dropWhile (fun c => !sp c) := by
            rw [← List.drop_drop, run_drop]
          rw [h1, h2, hlen]
        · rw [spansFromP, if_pos hsz, hdec, if_neg (by simp [hw])]
          dsimp only
          rw [i2 a (by omega), hr, show pos + (1 + runL (s.drop (pos + 1))) = pos + 1 + runL (s.drop (pos + 1)) by omega]
    · obtain rfl : pos = s.length := by omega
      have hsz : ¬ s.length < (ByteArray.mk s.toArray).size := by simp [ByteArray.size]
      have hd : s.drop s.length = [] := List.drop_length
      refine ⟨by rw [hd, toks_nil, spansFromP, if_neg hsz]; simp [closeSpans], fun a ha => ?_⟩
      rw [hd]
      have hr : runL [] = 0 := rfl
      rw [hr]
      simp only [Nat.add_zero]
      rw [hd, toks_nil, List.take_length, spansFromP, if_neg hsz]
      simp [closeSpans, cut_list, ByteArray.size]
/-- the fields are the tokens' texts -/
theorem fields_toks (s : List UInt8) (hasc : ∀ b ∈ s, b.toNat < 128) : Lib.goFieldsP wh ⟨s.toArray⟩ = (toks 0 s).map fun t => ⟨t.1.toArray⟩ := by
  have h := (fields_run s hasc s.length 0 [] (by omega) (Nat.zero_le _)).1
  unfold Lib.goFieldsP Lib.spansOfP
  have hz : (ByteArray.mk s.toArray).size = s.length := by simp [ByteArray.size]
  rw [hz]
  simpa using h
end Go.Proofs.YtpmbfcogkoiogaaDoor
end
section
namespace Go.Proofs.YtpmbfcogkoiogaaDoor
/-- the words of a blank: inside of a comment at the end; none: no blank -/
def brun : Bool → List (List UInt8) → Option Bool
  | ins, [] => some ins
  | ins, w :: r =>
    if w = [36, 40] ∧ ins = false ∨ w = [36, 41] ∧ ins = true then brun (!ins) r
    else if ins = false ∨ hasC w = true then none
    else brun ins r
/-- a byte of a text -/
def byteB (b : UInt8) : Bool := cls b.toNat != 0
def blankP (s : List UInt8) : Bool := s.all byteB && (brun false ((toks 0 s).map (·.1)) == some false)
def headW? (s : List UInt8) : Bool := match s with | [] => false | b :: _ => sp b
def lastW? (s : List UInt8) : Bool := match s.getLast? with | none => false | some b => sp b
/-- a gap; the first of a document may be empty -/
def gapOk (first : Bool) (g : List UInt8) : Bool := if first && g.isEmpty then true else blankP g && lastW? g && (first || headW? g)
theorem byte_wh (n : Nat) (h : n < 256) : (wh n || !(decide (n < 33) || decide (126 < n))) = (cls n != 0) := by
  have : ∀ n : Nat, n < 256 → (wh n || !(decide (n < 33) || decide (126 < n))) = (cls n != 0) := by decide +kernel
  exact this n h
theorem hasB_len (a b : UInt8) : ∀ s : List UInt8, hasB a b s = true → s.length ≤ 2 → s = [a, b]
  | [], h, _ => by simp [hasB] at h
  | [x], h, _ => by simp [hasB] at h
  | [x, y], h, _ => by simp [hasB] at h; rw [h.1, h.2]
  | x :: y :: z :: r, _, h => by simp at h
theorem hasC_two {w : List UInt8} (h : hasC w = true) (hl : w.length ≤ 2) : w = [36, 40] ∨ w = [36, 41] := by
  unfold hasC at h
  rw [Bool.or_eq_true] at h
  exact h.imp (fun h => hasB_len _ _ _ h hl) (fun h => hasB_len _ _ _ h hl)
def stR (text : List UInt8) (c : List ComD) (o : Option Nat) (l : List TokD) : Option Bool :=
  match srun text ([], c, o) l with
  | .inr _ => none
  | .inl y => if y.1 = [] then some y.2.2.isSome else none
theorem stR_words {text : List UInt8} {x : StD} (h : x.1 ≠ []) (l : List TokD) : (match srun text x l with
  | .inr _ => none
  | .inl y => if y.1 = [] then some y.2.2.isSome else none) = (none : Option Bool) := by
  cases hr : srun text x l with
  | inr e => rfl
  | inl y =>
    obtain ⟨r, h1, _⟩ := srun_sub l x y hr
    dsimp only
    rw [if_neg]
    intro h0
    rw [h1] at h0
    exact h (List.append_eq_nil_iff.1 h0).1
theorem stR_brun (text : List UInt8) : ∀ (l : List TokD) (c : List ComD) (o : Option Nat), stR text c o l = brun o.isSome (l.map (·.1))
  | [], c, o => by simp [stR, srun, brun]
  | t :: l, c, o => by
    rw [List.map_cons, brun]
    unfold stR
    rw [srun]
    unfold sstep
    by_cases h1 : t.1 = [36, 40]
    · rw [if_neg (by rw [h1]; simp), if_pos h1]
      cases o with
      | none =>
        dsimp only
        rw [if_pos (.inl ⟨h1, rfl⟩)]
        exact stR_brun text l c (some t.2)
      | some a =>
        dsimp only
        rw [if_neg (by rw [h1]; simp), if_pos (.inr (by rw [h1]; decide))]
    · by_cases h2 : t.1 = [36, 41]
      · rw [if_neg (by rw [h2]; simp), if_neg h1, if_pos h2]
        cases o with
        | none =>
          dsimp only
          rw [if_neg (by rw [h2]; simp), if_pos (.inl rfl)]
        | some a =>
          dsimp only
          rw [if_pos (.inr ⟨h2, rfl⟩)]
          exact stR_brun text l _ none
      · rw [if_neg (c := t.1 = [36, 40] ∧ o.isSome = false ∨ t.1 = [36, 41] ∧ o.isSome = true) (by simp [h1, h2])]
        by_cases h3 : hasC t.1 = true
        · have h4 : 2 < t.1.length := by
            rcases Nat.lt_or_ge 2 t.1.length with h | h
            · exact h
            · rcases hasC_two h3 h with h | h
              · exact absurd h h1
              · exact absurd h h2
          rw [if_pos ⟨h4, h3⟩, if_pos (.inr h3)]
        · rw [if_neg (fun h => h3 h.2), if_neg h1, if_neg h2]
          cases o with
          | none =>
            dsimp only
            rw [if_pos (.inl rfl)]
            exact stR_words (by simp) l
          | some a =>
            dsimp only
            rw [if_neg (by simp [h3])]
            exact stR_brun text l c (some a)
theorem sstep_err {s : List UInt8} {x : StD} {t : TokD} {e : Nat × Int} (h : sstep s x t = .inr e) : e.2 ≠ 0 := by
  obtain ⟨w, c, o⟩ := x
  unfold sstep at h
  split at h
  · cases h; simp
  · split at h
    · cases o <;> simp at h; subst h; simp
    · split at h
      · cases o <;> simp at h; subst h; simp
      · cases o <;> simp at h
theorem srun_err {s : List UInt8} : ∀ {l : List TokD} {x : StD} {e : Nat × Int}, srun s x l = .inr e → e.2 ≠ 0
  | [], x, e, h => by simp [srun] at h
  | t :: l, x, e, h => by
    unfold srun at h
    split at h
    · rename_i e' he
      cases h
      exact sstep_err he
    · exact srun_err h
theorem blank_strip {s : List UInt8} (h : s.length ≤ 40000) (h8 : (toks 0 s).length ≤ 8000) : blankP s = decide ((stripS s).2.2.2 = 0 ∧ (stripS s).1 = []) := by
  by_cases hb : s.all byteB = true
  · have hn : ∀ (j : Nat) (y : UInt8), s[j]? = some y → cls y.toNat ≠ 0 := fun j y hy => by
      have := List.all_eq_true.1 hb y (List.mem_of_getElem? hy)
      simpa [byteB] using this
    have hs := scanS_ok (by omega) hn rfl h8
    have hz : (scanS s).2.2 = 0 := by rw [hs]
    have hr := stR_brun s (toks 0 s) [] none
    unfold blankP
    rw [hb, Bool.true_and]
    rw [show brun false ((toks 0 s).map (·.1)) = stR s [] none (toks 0 s) from hr.symm]
    unfold stR
    have hs1 : (scanS s).1 = toks 0 s := by rw [hs]
    cases hq : srun s ([], [], none) (toks 0 s) with
    | inr e =>
      rw [stripS_bad hz (by rw [hs1]; exact hq)]
      have he : e.2 ≠ 0 := srun_err hq
      simp [he]
    | inl y =>
      obtain ⟨w, c, o⟩ := y
      cases o with
      | some o =>
        rw [stripS_open hz (by rw [hs1]; exact hq)]
        by_cases hw : w = [] <;> simp [hw]
      | none =>
        rw [stripS_ok hz (by rw [hs1]; exact hq)]
        by_cases hw : w = [] <;> simp [hw]
  · have hb' : s.all byteB = false := by simpa using hb
    obtain ⟨y, hy, hc⟩ : ∃ y ∈ s, cls y.toNat = 0 := by
      rw [List.all_eq_false] at hb'
      obtain ⟨y, hy, h⟩ := hb'
      exact ⟨y, hy, by simpa [byteB] using h⟩
    have hz : (scanS s).2.2 ≠ 0 := by
      unfold scanS
      rw [if_neg (by omega)]
      cases hf : s.findIdx? (fun b => cls b.toNat == 0) with
      | some i => simp
      | none =>
        rw [List.findIdx?_eq_none_iff] at hf
        have := hf y hy
        simp [hc] at this
    unfold blankP
    rw [hb', stripS_scan hz, Bool.false_and]
    simp [hz]
end Go.Proofs.YtpmbfcogkoiogaaDoor
end
