/- Layout: the lines that Print makes, in plain terms. strings.Fields of a line of Print: its words, as many as tokens. A range over a function, over any relation that says what its iterator may do to memory (printed by gen_rangex.py). append to a row of the call's own, inside a fence: where the row lies behind it. The iterator over the lines of a text yields just the lines. -/
import Derived.Test.YtpmbfcogkoiogaaDoorRewA
import Derived.Lib.Fields
import Derived.Test.YtpmbfcogkoiogaaDoorRangeA
import Derived.Test.YtpmbfcogkoiogaaDoorBaseA
import Derived.OwnWalkIn
import Derived.Laws.OwnMore
import Derived.Laws.Append
import Derived.Test.YtpmbfcogkoiogaaDoorLayLA
import Derived.BigRegionIn
section
namespace Go.Proofs.YtpmbfcogkoiogaaDoor
/-- the lines of a block of words; cur: the line so far -/
def blinesS (ind : List UInt8) (W : Int) : List UInt8 → List (List UInt8) → List (List UInt8)
  | cur, [] => [cur]
  | cur, t :: r => if bfit W cur.length t then blinesS ind W (cur ++ 32 :: t) r else cur :: blinesS ind W (ind ++ [32, 32, 32, 32] ++ t) r
def lnS (W : Int) : Int → List StmD → List (List UInt8)
  | _, [] => []
  | D, x :: r => (match wordsS x with
    | [] => []
    | u :: us => blinesS (indS (atD D x.kind)) W (indS (atD D x.kind) ++ u) us) ++ lnS W (nextD D x.kind) r
/-- a line as it must be: within the width, or of one word -/
def LineOk (W : Int) (l : List UInt8) : Prop := ((l.length : Nat) : Int) ≤ W ∨ (tkS l).length = 1
/-- bytes of a line -/
def LineB (l : List UInt8) : Prop := ∀ b ∈ l, b = 32 ∨ (sp b = false ∧ byteB b = true)
theorem blines_text (ind : List UInt8) (W : Int) : ∀ (r : List (List UInt8)) (O cur : List UInt8), (r.foldl (bstep ind W) (O ++ cur, cur.length)).1 ++ [10] = O ++ (blinesS ind W cur r).flatMap (· ++ [10])
  | [], O, cur => by simp [blinesS]
  | t :: r, O, cur => by
    rw [List.foldl_cons, blinesS]
    by_cases h : bfit W cur.length t = true
    · have e : bstep ind W (O ++ cur, cur.length) t = (O ++ (cur ++ 32 :: t), (cur ++ 32 :: t).length) := by
        unfold bstep bgap blen
        rw [if_pos h, if_pos h]
        simp
        omega
      rw [if_pos h, e, blines_text ind W r]
    · have e : bstep ind W (O ++ cur, cur.length) t = ((O ++ cur ++ [10]) ++ (ind ++ [32, 32, 32, 32] ++ t), (ind ++ [32, 32, 32, 32] ++ t).length) := by
        unfold bstep bgap blen
        rw [if_neg h, if_neg h]
        simp
        omega
      rw [if_neg h, e, blines_text ind W r]
      simp
theorem block_lines (ind : List UInt8) (W : Int) (u : List UInt8) (r : List (List UInt8)) : blockS ind W (u :: r) = (blinesS ind W (ind ++ u) r).flatMap (· ++ [10]) := by
  have := blines_text ind W r [] (ind ++ u)
  rw [blockS, bfold]
  simpa using this
theorem prn_lines (W : Int) : ∀ (l : List StmD) (D : Int), prnS W D l = (lnS W D l).flatMap (· ++ [10])
  | [], _ => rfl
  | x :: r, D => by
    rw [prnS, lnS, List.flatMap_append, prn_lines W r]
    congr 1
    cases h : wordsS x with
    | nil => exact absurd h (words_ne x)
    | cons u us => exact block_lines _ W u us
theorem tk_one {ind u : List UInt8} (hi : whiteS ind) (hu : TokOk u) : (tkS (ind ++ u)).length = 1 := by
  have := tkS_tok (r := []) hu (.inl rfl)
  rw [List.append_nil] at this
  rw [tkS_app (white_or hi), tkS_white hi, this, tkS_nil]
  rfl
theorem blines_ok {ind : List UInt8} (hi : whiteS ind) (W : Int) : ∀ (r : List (List UInt8)) (cur : List UInt8), (∀ t ∈ r, TokOk t) → LineOk W cur → ∀ l ∈ blinesS ind W cur r, LineOk W l
  | [], cur, _, hc, l, hl => by
    rw [blinesS] at hl
    simp at hl
    subst hl
    exact hc
  | t :: r, cur, h, hc, l, hl => by
    rw [blinesS] at hl
    split at hl
    · rename_i hf
      refine blines_ok hi W r _ (fun u hu => h u (by simp [hu])) (.inl ?_) l hl
      unfold bfit at hf
      have := of_decide_eq_true hf
      simp
      omega
    · rcases List.mem_cons.1 hl with rfl | hl
      · exact hc
      · refine blines_ok hi W r _ (fun u hu => h u (by simp [hu])) (.inr ?_) l hl
        exact tk_one (white_app hi (white_rep 4)) (h t (by simp))
theorem lineB_app {a b : List UInt8} (ha : LineB a) (hb : LineB b) : LineB (a ++ b) := fun c hc => (List.mem_append.1 hc).elim (ha c) (hb c)
theorem lineB_rep (n : Nat) : LineB (List.replicate n 32) := fun b hb => .inl (List.eq_of_mem_replicate hb)
theorem blines_b {ind : List UInt8} (hi : LineB ind) (W : Int) : ∀ (r : List (List UInt8)) (cur : List UInt8), (∀ t ∈ r, LineB t) → LineB cur → ∀ l ∈ blinesS ind W cur r, LineB l
  | [], cur, _, hc, l, hl => by
    rw [blinesS] at hl
    simp at hl
    subst hl
    exact hc
  | t :: r, cur, h, hc, l, hl => by
    rw [blinesS] at hl
    split at hl
    · exact blines_b hi W r _ (fun u hu => h u (by simp [hu])) (lineB_app hc (lineB_app (a := [32]) (lineB_rep 1) (h t (by simp)))) l hl
    · rcases List.mem_cons.1 hl with rfl | hl
      · exact hc
      · exact blines_b hi W r _ (fun u hu => h u (by simp [hu])) (lineB_app (lineB_app hi (lineB_rep 4)) (h t (by simp))) l hl
theorem ln_ok (W : Int) : ∀ (l : List StmD) (D : Int), (∀ x ∈ l, formedS x = true) → ∀ s ∈ lnS W D l, LineOk W s ∧ LineB s
  | [], _, _, s, hs => by cases hs
  | x :: r, D, h, s, hs => by
    rw [lnS] at hs
    rcases List.mem_append.1 hs with hs | hs
    · have hx := h x (by simp)
      cases hw : wordsS x with
      | nil => exact absurd hw (words_ne x)
      | cons u us =>
        rw [hw] at hs
        dsimp only at hs
        have hok : ∀ t ∈ u :: us, TokOk t := fun t ht => (words_word hx t (hw ▸ ht)).tok
        have hb : ∀ t ∈ u :: us, LineB t := fun t ht b hbm => .inr ⟨(hok t ht).2 b hbm, words_byte hx t (hw ▸ ht) b hbm⟩
        exact ⟨blines_ok (white_ind _) W us _ (fun t ht => hok t (by simp [ht])) (.inr (tk_one (white_ind _) (hok u (by simp)))) s hs,
          blines_b (lineB_rep _) W us _ (fun t ht => hb t (by simp [ht])) (lineB_app (lineB_rep _) (hb u (by simp))) s hs⟩
    · exact ln_ok W r _ (fun y hy => h y (by simp [hy])) s hs
end Go.Proofs.YtpmbfcogkoiogaaDoor
end
section
namespace Go.Proofs.YtpmbfcogkoiogaaDoor
open Go.Lib
theorem line_sp {b : UInt8} (h : b = 32 ∨ (sp b = false ∧ byteB b = true)) : isSp b = sp b := by
  rcases h with rfl | ⟨h1, h2⟩
  · rfl
  · rw [h1]
    have key : ∀ n : Nat, n < 256 → (cls (UInt8.ofNat n).toNat == 1) = false → (cls (UInt8.ofNat n).toNat != 0) = true → isSp (UInt8.ofNat n) = false := by decide +kernel
    have := key b.toNat b.toNat_lt
    rw [UInt8.ofNat_toNat] at this
    exact this h1 h2
theorem fieldsGo_tok : ∀ (u r cur : List UInt8), (∀ b ∈ u, isSp b = false) → fieldsGo cur (u ++ r) = fieldsGo (cur ++ u) r
  | [], r, cur, _ => by simp
  | b :: u, r, cur, h => by
    rw [List.cons_append, fieldsGo_more _ _ _ (h b (by simp)), fieldsGo_tok u r _ fun c hc => h c (by simp [hc])]
    simp
theorem fields_tk : ∀ (n : Nat) (l : List UInt8), l.length ≤ n → (∀ b ∈ l, isSp b = sp b) → fieldsGo [] l = tkS l
  | _, [], _, _ => by rw [tkS_nil]; rfl
  | 0, b :: s, h, _ => absurd h (by simp)
  | n + 1, b :: s, h, hb => by
    have hs : s.length ≤ n := by simpa using h
    cases hc : sp b
    · obtain ⟨u, r, hur, hu, hr⟩ : ∃ u r, b :: s = u ++ r ∧ TokOk u ∧ (r = [] ∨ headW? r = true) := by
        refine ⟨(b :: s).takeWhile (fun c => !sp c), (b :: s).dropWhile (fun c => !sp c), List.takeWhile_append_dropWhile.symm, ⟨?_, ?_⟩, ?_⟩
        · rw [List.takeWhile_cons_of_pos (by simp [hc])]
          simp
        · intro c hcm
          have := List.all_eq_true.1 (List.all_takeWhile (p := fun c => !sp c) (l := b :: s)) c hcm
          simpa using this
        · cases hd : (b :: s).dropWhile (fun c => !sp c) with
          | nil => exact .inl rfl
          | cons c r =>
            right
            have := List.head?_dropWhile_not (fun c => !sp c) (b :: s)
            rw [hd] at this
            simpa [headW?] using this
      have hu2 : ∀ c ∈ u, isSp c = false := fun c hcm => by rw [hb c (by rw [hur]; simp [hcm])]; exact hu.2 c hcm
      rw [hur, tkS_tok hu hr, fieldsGo_tok u r [] hu2, List.nil_append]
      rcases hr with rfl | hr
      · rw [tkS_nil]
        unfold fieldsGo
        have : u.isEmpty = false := by
          cases u with
          | nil => exact absurd rfl hu.1
          | cons _ _ => rfl
        simp [this]
      · cases r with
        | nil => cases hr
        | cons c r =>
          have hcs : sp c = true := hr
          have hci : isSp c = true := by rw [hb c (by rw [hur]; simp), hcs]
          have hlen : r.length ≤ n := by
            have := congrArg List.length hur
            simp at this
            omega
          rw [fieldsGo_end _ _ _ hci hu.1, fields_tk n r hlen fun d hd => hb d (by rw [hur]; simp [hd])]
          have hw : ([c] : List UInt8) = [] ∨ lastW? [c] = true := .inr (by simp [lastW?, hcs])
          have := tkS_app (g := [c]) (s := r) hw
          rw [List.singleton_append] at this
          rw [this, tkS_white (g := [c]) fun d hd => by simp at hd; subst hd; exact hcs]
          rfl
    · rw [fieldsGo_sp _ _ (by rw [hb b (by simp), hc]), fields_tk n s hs fun d hd => hb d (by simp [hd])]
      have hw : ([b] : List UInt8) = [] ∨ lastW? [b] = true := .inr (by simp [lastW?, hc])
      have := tkS_app (g := [b]) (s := s) hw
      rw [List.singleton_append] at this
      rw [this, tkS_white (g := [b]) fun d hd => by simp at hd; subst hd; exact hc]
      rfl
theorem fields_line {l : List UInt8} (h : LineB l) : fields l = tkS l := fields_tk l.length l (Nat.le_refl _) fun b hb => line_sp (h b hb)
theorem line_asc {l : List UInt8} (h : LineB l) : ∀ b ∈ l, b.toNat < 128 := fun b hb => by
  rcases h b hb with rfl | ⟨_, h2⟩
  · decide
  · have key : ∀ n : Nat, n < 256 → (cls (UInt8.ofNat n).toNat != 0) = true → (UInt8.ofNat n).toNat < 128 := by decide +kernel
    have := key b.toNat b.toNat_lt
    rw [UInt8.ofNat_toNat] at this
    exact this h2
theorem line_nl {l : List UInt8} (h : LineB l) : (10 : UInt8) ∉ l := fun hm => by
  rcases h _ hm with h1 | ⟨h1, _⟩
  · exact absurd h1 (by decide)
  · exact absurd h1 (by decide)
theorem trim_line (l : List UInt8) : trimSuffix (l ++ [10]) [10] = l := by
  have h : hasSuffix (l ++ [10]) [10] = true := by
    unfold hasSuffix
    rw [List.isSuffixOf_iff_suffix]
    exact List.suffix_append _ _
  unfold trimSuffix
  rw [h]
  simp
end Go.Proofs.YtpmbfcogkoiogaaDoor
end
section
namespace Go.Proofs.YtpmbfcogkoiogaaDoor
open Go.RowKit
/-- the iterator value gf with the captured values lb yields just the items, in order, until a round says no -/
def SeqX {α : Type} (n : Nat) (P : Program) (gf : Nat) (lb : Array Value) (R : α → Array Value → World → Prop) (Kp : World → World → Prop) (G : World → Prop) (Tn : World → World → Prop) (items : List α) (w : World) : Prop :=
  ∀ (l : Nat) (J Jx : List α → World → Prop) (W : World), Below w.heap.size w W → (∀ s A A', J s A → Tn A A' → J s A') → (∀ s A A', Jx s A → Tn A A' → Jx s A') → (∀ pre W1, J pre W1 → G W1) →
    (∀ pre x av W1, J pre W1 → R x av W1 → pre ++ [x] <+: items → YieldAt Fence.wide (n - 1) P l av W1 fun e W' =>
      (e = .returned (.bool true) ∧ J (pre ++ [x]) W' ∧ Kp W1 W') ∨ (e = .returned (.bool false) ∧ Jx (pre ++ [x]) W')) →
    J [] W →
    CallsIn Fence.wide n P gf (#[.func (.yield l) #[] #[]] ++ lb) W fun e W' => (∃ v, e = .returned v) ∧ (J items W' ∨ ∃ pre, Jx pre W')

variable {n : Nat} {P : Program}
theorem range_law_x {α : Type} {g : Operand} {ps : Array Tmp} {assign body : Code} {Q : Exit → Act → World → Prop} {a : Act} {w : World}
    (h1 : 1 ≤ n) {gf : Nat} {lb : Array Value} (hg : a.eval g = .func (.func gf) #[] lb) (eg : ∀ args w, (callFunc gf args).run P w = .ok (.enter gf args) w)
    {R : α → Array Value → World → Prop} {Kp Tn : World → World → Prop} {G : World → Prop} {items : List α} {w0 : World} (hseq : SeqX (n - 1) P gf lb R Kp G Tn items w0)
    (hKt : ∀ {A B C : World}, Kp A B → Kp B C → Kp A C) (hKb : ∀ (W : World) (l : Nat) (r r' : Loop), w.heap.size ≤ l → W.heap[l]? = some (.loop r) → Kp W (W.putObj l (.loop r')))
    (hTg : ∀ {A A' : World}, Below A.heap.size A A' → Tn A A') (hTl : ∀ {A A' : World} {k : Nat} {r : Loop}, Tn A A' → A.heap[k]? = some (.loop r) → A'.heap[k]? = some (.loop r)) (hTd : ∀ {A A' : World} {k : Nat} {d : Option (List Deferred)}, Tn A A' → A.heap[k]? = some (.deferred d) → A'.heap[k]? = some (.deferred d))
    (hb0 : Below w0.heap.size w0 w) (hps : ∀ x av W, R x av W → av.size = ps.size)
    (I : List α → World → Prop) (Ix : Code → List α → World → Prop) (hI : ∀ s A A', I s A → Tn A A' → I s A') (hIl : ∀ s A l r r', I s A → w.heap.size ≤ l → A.heap[l]? = some (.loop r) → I s (A.putObj l (.loop r'))) (hIx : ∀ c s A A', Ix c s A → Tn A A' → Ix c s A') (hIxl : ∀ c s A l r r', Ix c s A → w.heap.size ≤ l → A.heap[l]? = some (.loop r) → Ix c s (A.putObj l (.loop r'))) (hIG : ∀ pre W1, I pre W1 → G W1) (h0 : I [] w)
    (Ax : List α → α → Act → World → Prop) (hAx : ∀ pre x a' A l r r', Ax pre x a' A → w.heap.size ≤ l → A.heap[l]? = some (.loop r) → Ax pre x a' (A.putObj l (.loop r')))
    (hassign : ∀ (l : Nat) (pre : List α) (x : α) (av : Array Value) (W : World) (K : Act → World → Prop), I pre W → R x av W → pre ++ [x] <+: items →
      (∀ a' W', KeepsFrom w.heap.size W W' → Kp W W' → Ax pre x a' W' → K a' W') →
      assign.wpIn (Fence.wide.inRound l) (n - 1 - 1) P (Exit.then K (fun _ _ _ => False)) { tmps := (ps.zip av).foldl (fun t (p, v) => t.setIfInBounds p v) a.tmps, defers := [] } W)
    (hbody : ∀ (l : Nat) (pre : List α) (x : α) (a' : Act) (W : World), Ax pre x a' W → pre ++ [x] <+: items →
      body.wpIn (Fence.wide.inRound l) (n - 1 - 1) P (ownPostG w.heap.size Kp I Ix (pre ++ [x]) W) a' W)
    (hdone : ∀ (D : Nat) (W : World), w.heap.size ≤ D → I items W → W.heap[D]? = some (.deferred (some [])) → Q .normal { a with defers := { target := .collected D, args := #[] } :: a.defers } W)
    (hstop : ∀ (D : Nat) (c : Code) (pre : List α) (W : World), w.heap.size ≤ D → Ix c pre W → W.heap[D]? = some (.deferred (some [])) → c.wpIn Fence.wide n P Q { a with defers := { target := .collected D, args := #[] } :: a.defers } W) :
    (Code.rangeFunc g ps assign body).wpIn Fence.wide n P Q a w := by
  refine wpIn_rangeFunc ?_
  intro fn hfn
  show ∃ l mark w₁ d w₁' f args w₂, (Instr.enterLoop fn a.tmps ps assign body none).run P w = .ok (l, mark) w₁ ∧ _
  obtain ⟨rec, hrec⟩ : ∃ rec : LoopState → Option Code → Loop, rec = fun st pe => { state := st, pending := pe, fn, tmps := a.tmps, params := ps, assign, body, defers := w.heap.size } := ⟨_, rfl⟩
  obtain ⟨W1, hW1⟩ : ∃ W1, (w.alloc (.deferred (some []))).alloc (.loop (rec .ready none)) = W1 := ⟨_, rfl⟩
  have hL1 : W1.heap[w.heap.size + 1]? = some (.loop (rec .ready none)) := by
    rw [← hW1]; have := World.alloc_heap_new (w.alloc (.deferred (some []))) (.loop (rec .ready none)); rwa [World.size_alloc] at this
  have hK1 : W1.heap[w.heap.size]? = some (.deferred (some [])) := by
    rw [← hW1]; exact (Below.heap_alloc _ _ _ (by simp)).trans (World.alloc_heap_new w _)
  have hB1 : Below w.heap.size w W1 := by rw [← hW1]; exact ((Below.refl _ w).alloc (Nat.le_refl _) _).alloc (by simp) _
  have hI1 : I [] W1 := hI _ _ _ h0 (hTg hB1)
  have hb1 : Below w0.heap.size w0 W1 := hb0.trans (hB1.mono hb0.size)
  refine ⟨w.heap.size + 1, [{ target := .collected w.heap.size, args := #[] }], W1, { target := .fn (.func gf) lb, args := #[.func (.yield (w.heap.size + 1)) #[] #[]] }, W1, gf,
    #[.func (.yield (w.heap.size + 1)) #[] #[]] ++ lb, W1, ?_, ?_, ?_, ?_, fun _ => h1, ?_⟩
  · rw [← hW1, hrec]; exact run_enterLoop_outer _ _ _ _ _
  · simp only [resolve, hg]
    simp [go_sem]
  · intro f' hf'; exact trivial
  · simp [invoke, go_sem, eg]
  · refine (hseq (w.heap.size + 1)
      (fun pre W => I pre W ∧ W.heap[w.heap.size + 1]? = some (.loop (rec .ready none)) ∧ W.heap[w.heap.size]? = some (.deferred (some [])))
      (fun pre W => ∃ c, Ix c pre W ∧ W.heap[w.heap.size + 1]? = some (.loop (rec .done (some c))) ∧ W.heap[w.heap.size]? = some (.deferred (some [])))
      W1 hb1
      (fun s A B hs ht => ⟨hI s A B hs.1 ht, hTl ht hs.2.1, hTd ht hs.2.2⟩)
      (fun s A B hs ht => by
        obtain ⟨c, hc, hl, hk⟩ := hs
        exact ⟨c, hIx c s A B hc ht, hTl ht hl, hTd ht hk⟩)
      (fun pre W1 h => hIG pre W1 h.1) ?_ ⟨hI1, hL1, hK1⟩).mono ?_
    · rintro pre x av W ⟨hi, hl, hk⟩ hR hpre
      have hy := run_yield (P := P) (args := av) hl (by rw [hrec]; exact hps x av W hR)
      rw [hrec] at hy
      refine ⟨fn, _, assign, body, hy, roundIn_of_wpIn hfn (hassign _ pre x av W _ hi hR hpre ?_)⟩
      clear hy
      intro a' Wa hkfa hkpa hax
      replace hl := hkfa.same _ _ (by omega) hl rfl
      replace hk := hkfa.same _ _ (Nat.le_refl _) hk rfl
      have hlt : w.heap.size + 1 < Wa.heap.size := (Array.getElem?_eq_some_iff.1 hl).1
      refine ⟨_, run_beginRound hl (by rw [hrec]), ?_⟩
      have hl2 : (Wa.putObj (w.heap.size + 1) (.loop { rec .ready none with state := .busy })).heap[w.heap.size + 1]? = some (.loop { rec .ready none with state := .busy }) := World.putObj_heap_same hlt
      have hk2 : (Wa.putObj (w.heap.size + 1) (.loop { rec .ready none with state := .busy })).heap[w.heap.size]? = some (.deferred (some [])) := (World.putObj_heap_other (by omega)).trans hk
      have hw2 : Kp Wa (Wa.putObj (w.heap.size + 1) (.loop { rec .ready none with state := .busy })) := hKb _ _ _ _ (by omega) hl
      refine wpIn_mono (hbody _ pre x a' _ (hAx pre x a' _ _ _ _ hax (by omega) hl) hpre) ?_
      have fin : ∀ (jump : Option Code) (W3 : World), KeepsFrom w.heap.size (Wa.putObj (w.heap.size + 1) (.loop { rec .ready none with state := .busy })) W3 →
          (Instr.endRound (w.heap.size + 1) jump).run P W3 = .ok (.bool jump.isNone) (W3.putObj (w.heap.size + 1) (.loop (rec (if jump.isNone then .ready else .done) jump))) ∧
          W3.heap[w.heap.size + 1]? = some (.loop { rec .ready none with state := .busy }) ∧
          (W3.putObj (w.heap.size + 1) (.loop (rec (if jump.isNone then .ready else .done) jump))).heap[w.heap.size + 1]? = some (.loop (rec (if jump.isNone then .ready else .done) jump)) ∧
          (W3.putObj (w.heap.size + 1) (.loop (rec (if jump.isNone then .ready else .done) jump))).heap[w.heap.size]? = some (.deferred (some [])) := fun jump W3 hk3 => by
        have hl3 := hk3.same _ _ (by omega) hl2 rfl
        have := run_endRound (P := P) jump hl3
        rw [hrec] at this ⊢
        exact ⟨this, by rw [hrec] at hl3; exact hl3, World.putObj_heap_same (Array.getElem?_eq_some_iff.1 hl3).1, (World.putObj_heap_other (by omega)).trans (hk3.same _ _ (Nat.le_refl _) hk2 rfl)⟩
      rintro e a3 W3 hp
      cases e with
      | normal =>
        obtain ⟨hk3, hkp3, hi3⟩ := hp
        obtain ⟨hr, hl3, hl4, hk4⟩ := fin none W3 hk3
        exact ⟨_, _, hr, .inl ⟨rfl, ⟨hIl _ _ _ _ _ hi3 (by omega) hl3, hl4, hk4⟩, hKt hkpa (hKt (hKt hw2 hkp3) (hKb _ _ _ _ (by omega) hl3))⟩⟩
      | ret =>
        obtain ⟨hk3, hi3⟩ := hp
        obtain ⟨hr, hl3, hl4, hk4⟩ := fin (some .ret) W3 hk3
        exact ⟨_, _, hr, .inr ⟨rfl, .ret, hIxl _ _ _ _ _ _ hi3 (by omega) hl3, hl4, hk4⟩⟩
      | exit id =>
        obtain ⟨hk3, hi3⟩ := hp
        obtain ⟨hr, hl3, hl4, hk4⟩ := fin (some (.exit id)) W3 hk3
        exact ⟨_, _, hr, .inr ⟨rfl, .exit id, hIxl _ _ _ _ _ _ hi3 (by omega) hl3, hl4, hk4⟩⟩
      | goto t =>
        obtain ⟨hk3, hi3⟩ := hp
        obtain ⟨hr, hl3, hl4, hk4⟩ := fin (some (.goto t)) W3 hk3
        exact ⟨_, _, hr, .inr ⟨rfl, .goto t, hIxl _ _ _ _ _ _ hi3 (by omega) hl3, hl4, hk4⟩⟩
      | panic ch => exact hp.elim
      | outgrown => exact hp.elim
    · rintro e W2 ⟨⟨v, rfl⟩, (⟨hi, hl, hk⟩ | ⟨pre, c, hi, hl, hk⟩)⟩
      · exact ⟨none, _, by have := run_endLoop (P := P) hl (by rw [hrec]; simp); rw [hrec] at this; exact this, hdone _ _ (Nat.le_refl _) (hIl _ _ _ _ _ hi (by omega) hl) ((World.putObj_heap_other (by omega)).trans hk)⟩
      · exact ⟨some c, _, by have := run_endLoop (P := P) hl (by rw [hrec]; simp); rw [hrec] at this; exact this, hstop _ c pre _ (Nat.le_refl _) (hIxl _ _ _ _ _ _ hi (by omega) hl) ((World.putObj_heap_other (by omega)).trans hk)⟩

end Go.Proofs.YtpmbfcogkoiogaaDoor
end
section
namespace Go.Proofs.YtpmbfcogkoiogaaDoor
open Go.RowKit
theorem own_append_new {P : Program} {w : World} {base : Nat} {t ty e : TypeId} {i : TypeInfo} {z : Value} {size bytes : Nat} (ht : P.underlying t = some (.slice e)) (hi : P.info? e = some i) (hz : i.zero = some z)
    (hsize : i.size = size) (hby : i.bytes = bytes) (hzs : z.cells.size = size) (hsz : 0 < size) {v : Value} {n : Nat} {xs : List Value} (hown : w.ownsRow base e size v n xs)
    (a : Addr) (m c : Nat) (news : List Value) (hl : news.length = m * size) (hnews : ∀ j u, news[j]? = some u → w.cell? (a.add j) = some u) (h1 : ∀ u ∈ news, u.oneCell' = true)
    (h63 : n + m ≤ maxLen) (hbytes : (n + m) * bytes ≤ 140737488355328) (hbase : base ≤ w.heap.size) :
    ∃ v' w', (Builtin.append_ #[t, t] ty #[v, .slice (some a) m c]).run P w = .ok v' w' ∧ w'.ownsRow base e size v' (n + m) (xs ++ news) ∧ w.grownBy w' v.ownBlock ∧ ∀ g, v'.ownBlock = some g → v.ownBlock = some g ∨ w.heap.size ≤ g := by
  obtain ⟨v', w', hrun, r1, r2, r3⟩ := run_append_own (P := P) w base t ty e i z size bytes ht hi hz hsize hby hzs hsz v n xs hown a m c news hl hnews h1 h63 hbytes hbase
  refine ⟨v', w', hrun, r1, r2, fun g eg => ?_⟩
  rcases hown.2 with ⟨rfl, rfl⟩ | ⟨g0, cap, cur, rfl, hbg, hh, hnc, hcm, hcs, htk⟩
  · have hown2 : w.ownsRow w.heap.size e size (.slice none 0 0) 0 xs := ⟨hown.1, .inl ⟨rfl, rfl⟩⟩
    obtain ⟨v2, w2, hrun2, q1, _, _⟩ := run_append_own (P := P) w w.heap.size t ty e i z size bytes ht hi hz hsize hby hzs hsz _ 0 xs hown2 a m c news hl hnews h1 h63 hbytes (Nat.le_refl _)
    rw [hrun] at hrun2
    injection hrun2 with e1 e2
    subst e1 e2
    exact .inr (q1.lt g eg).1
  · by_cases hfit : n + m ≤ cap
    · obtain ⟨w2, hrun2, _, _⟩ := run_append_fits (P := P) w base t ty e i size ht hi hsize g0 n cap xs hown a m c news hl hnews h1 hfit
      rw [hrun] at hrun2
      injection hrun2 with e1 e2
      subst e1
      exact .inl eg
    · by_cases hng : w.heap.size ≤ g
      · exact .inr hng
      · have hlo := hown.1
        subst hsize hby
        have hcap : Builtin.nextslicecap (n + m) cap * i.bytes ≤ 281474976710656 := growslice_fits (by omega) hbytes
        have := run_append_grow (P := P) (w := w) t ty e i z ht hi hz ⟨g0, 0, none⟩ n cap xs hlo (fun j u hu => hown.cells rfl j u hu) a m c news hl hnews (by omega) (by unfold maxLen at h63; omega) hcap
        rw [hrun] at this
        injection this with e1 e2
        subst e1
        simp [Value.ownBlock] at eg
        exact .inr (by omega)
theorem wpListIn_append_new {F : Fence} {n : Nat} {P : Program} (w : World) {ops : Array Oper} {rest : List Oper} {o : Oper} {a : Act} {Q : Exit → Act → World → Prop}
    (hg : o.guard = none) (s x : Operand) (t : TypeId) (hop : o.op = Op.call { callee := Callee.builtin Builtin.append, args := #[s, x], argTypes := #[t, t] })
    (base : Nat) (e : TypeId) (i : TypeInfo) (z : Value) (size bytes : Nat) (h1 : P.underlying t = some (.slice e)) (h2 : P.info? e = some i) (h3 : i.zero = some z) (h4 : i.size = size) (h5 : i.bytes = bytes) (h6 : z.cells.size = size) (h7 : 0 < size)
    (v : Value) (k : Nat) (xs : List Value) (hs : a.eval s = v) (hown : w.ownsRow base e size v k xs) (ad : Addr) (m c : Nat) (news : List Value) (hx : a.eval x = .slice (some ad) m c) (hn : news.length = m * size)
    (hc : ∀ j u, news[j]? = some u → w.cell? (ad.add j) = some u) (h1c : ∀ u ∈ news, u.oneCell' = true) (b1 : k + m ≤ maxLen) (b2 : (k + m) * bytes ≤ 140737488355328) (b3 : base ≤ w.heap.size)
    (hK : ∀ v' w', w'.ownsRow base e size v' (k + m) (xs ++ news) → w.grownBy w' v.ownBlock → (∀ g, v'.ownBlock = some g → v.ownBlock = some g ∨ w.heap.size ≤ g) → wpListIn F n P ops Q rest (a.put o.dst v') w') :
    wpListIn F n P ops Q (o :: rest) a w := by
  obtain ⟨v', w', hrun, r1, r2, r3⟩ := own_append_new (P := P) (w := w) (t := t) (ty := o.type) h1 h2 h3 h4 h5 h6 h7 hown ad m c news hn hc h1c b1 b2 b3
  refine wpListIn_plain hg fun K hK' => ?_
  have hgo := hK' _ _ (hK v' w' r1 r2 r3)
  unfold Oper.wpIn
  constructor
  · simp [Oper.about, hop, resolve, Target.leads, Sem.run_pure]
  · rw [Oper.semAt_plain F _ _ (by rw [hop]; intro c hc'; cases hc')]
    simp [execOp, hop, resolve, invoke, builtin, hs, hx, hrun, Result.andThen]
    exact hgo
end Go.Proofs.YtpmbfcogkoiogaaDoor
end
section
namespace Go.Proofs.YtpmbfcogkoiogaaDoor
open Go.RowKit Go.Shelf
attribute [local go_sem] Oper.semAt_some
/-- a box of a string is there -/
def BoxS (SB : Nat) (W : World) : Prop := ∃ v, Row W SB 9 #[v]
/-- what the iterator may do: make memory; write its own box -/
def TnL (SB : Nat) (W W' : World) : Prop := Below W.heap.size W W' ∨ (BoxS SB W ∧ W.grownBy W' (some SB))
def KpL (SB : Nat) (W W' : World) : Prop := ∀ v, Row W SB 9 #[v] → Row W' SB 9 #[v]
def LineR (x : List UInt8) (av : Array Value) (_ : World) : Prop := av = #[.string ⟨x.toArray⟩]
/-- the lines, each with its end -/
def nlS (ls : List (List UInt8)) : List UInt8 := ls.flatMap (· ++ [10])
theorem nl_cons (l : List UInt8) (ls : List (List UInt8)) : nlS (l :: ls) = l ++ 10 :: nlS ls := by simp [nlS]
theorem index_nl : ∀ (l r : List UInt8), (10 : UInt8) ∉ l → Lib.indexByte (l ++ 10 :: r) 10 = (l.length : Nat)
  | [], r, _ => rfl
  | b :: l, r, h => by
    have h1 : (b == (10 : UInt8)) = false := by
      cases hb : b == (10 : UInt8)
      · rfl
      · exact absurd (by simp at hb; simp [hb]) h
    have ih := index_nl l r (fun hm => h (by simp [hm]))
    rw [List.cons_append, Lib.indexByte, h1, ih]
    simp
theorem nl_take (l r : List UInt8) : (l ++ 10 :: r).take (l.length + 1) = l ++ [10] := by
  rw [show l ++ 10 :: r = (l ++ [10]) ++ r by simp, show l.length + 1 = (l ++ [10]).length by simp, List.take_left]
theorem nl_drop (l r : List UInt8) : (l ++ 10 :: r).drop (l.length + 1) = r := by
  rw [show l ++ 10 :: r = (l ++ [10]) ++ r by simp, show l.length + 1 = (l ++ [10]).length by simp, List.drop_left]
def boxLen (SB : Nat) (W : World) : Nat := match W.cell? ⟨SB, 0, none⟩ with | some (.string s) => s.size | _ => 0
theorem boxLen_row {SB : Nat} {W : World} {l : List UInt8} (h : Row W SB 9 #[.string ⟨l.toArray⟩]) : boxLen SB W = l.length := by
  unfold boxLen
  rw [h.cell (i := 0) rfl]
  simp [ByteArray.size]
theorem grown_nl (W : World) (SB : Nat) (u : Value) : W.grownBy (W.setCell ⟨SB, 0, none⟩ u).drew (some SB) :=
  ⟨rfl, rfl, rfl, by simp [World.setCell, World.drew], fun k _ hk => Below.heap_setCell _ _ _ _ (fun e => hk (by rw [e]))⟩
theorem ext_take (l r : List UInt8) : (ByteArray.mk (l ++ 10 :: r).toArray).extract 0 (l.length + 1) = ⟨(l ++ [10]).toArray⟩ := by
  rw [Lib.extract_eq]
  congr 1
  simpa using nl_take l r
theorem ext_drop (l r : List UInt8) : (ByteArray.mk (l ++ 10 :: r).toArray).extract (l.length + 1) (l ++ 10 :: r).length = ⟨r.toArray⟩ := by
  rw [Lib.extract_eq]
  congr 2
  have h : (l ++ 10 :: r).drop (l.length + 1) = r := nl_drop l r
  show ((l ++ 10 :: r).drop (l.length + 1)).take _ = r
  rw [h, List.take_of_length_le]
  simp
  omega
set_option maxRecDepth 100000 in
set_option maxHeartbeats 4000000 in
theorem lines_seq (n : Nat) (h1 : 1 ≤ n) (ls : List (List UInt8)) (hnl : ∀ l ∈ ls, (10 : UInt8) ∉ l) (hs : (nlS ls).length ≤ 1000000000) (w : World) (SB : Nat) (hrow : Row w SB 9 #[.string ⟨(nlS ls).toArray⟩]) :
    SeqX n Tryd.prog 54 #[.pointer (some ⟨SB, 0, none⟩)] LineR (KpL SB) (fun _ => True) (TnL SB) (ls.map (· ++ [10])) w := by
  intro yl J Jx W hW hJ hJx hG hY hJ0
  have hr0 := hrow.below hW hrow.lt
  have HN := Lib.hid hnl
  clear hrow hnl
  show CallsIn Fence.wide n Tryd.prog 54 #[.func (.yield yl) #[] #[], .pointer (some ⟨SB, 0, none⟩)] W _
  refine callsIn_of_wp Tryd.func54 rfl trivial ?_ rfl
  simp only [Tryd.ntmps54, List.size_toArray, List.length_cons, List.length_nil, Nat.reduceAdd, Nat.reduceSub, Array.replicate_succ, Array.replicate_zero, List.push_toArray, List.append_toArray, List.nil_append, List.cons_append]
  have HR0 := Lib.hid hr0
  have HJ0 := Lib.hid hJ0
  clear hr0 hJ0
  gi_wp2
  gi_loopw [3, 4] (fun _ _ wr => ∃ (pre rest : List (List UInt8)), ls = pre ++ rest ∧ Row wr SB 9 #[.string ⟨(nlS rest).toArray⟩] ∧ J (pre.map (· ++ [10])) wr) (fun _ _ wr => boxLen SB wr)
  case atStart => exact ⟨[], ls, rfl, HR0.out, HJ0.out⟩
  case round =>
    obtain ⟨pre, rest, hls, hrow, hj⟩ := hrel
    have HJ := Lib.hid hj
    have HR := Lib.hid hrow
    have hc := hrow.cell (i := 0) rfl
    have hfr := hrow.free 0
    clear hj hrow
    cases rest with
    | nil =>
      have e1 : (nlS ([] : List (List UInt8))) = [] := rfl
      rw [e1] at hc
      gi_wp2
      go_end0
      exact ⟨⟨_, rfl⟩, .inl (by rw [hls, List.append_nil]; exact HJ.out)⟩
    | cons l rest =>
      rw [nl_cons] at hc
      have hlen : (l ++ 10 :: nlS rest).length ≤ 1000000000 := by
        refine Nat.le_trans ?_ hs
        rw [hls, ← nl_cons]
        simp [nlS]
      have hl1 : l.length + 1 ≤ (l ++ 10 :: nlS rest).length := by simp
      obtain ⟨T, hT⟩ : ∃ T, l ++ 10 :: nlS rest = T := ⟨_, rfl⟩
      have HT := Lib.hid hT
      have hnl := HN.out l (by rw [hls]; simp)
      have hix := index_nl l (nlS rest) hnl
      rw [hT] at hc hlen hl1 hix
      have HIX := Lib.hid hix
      clear hT hix hnl
      have hpos : 0 < T.length := by omega
      have e1 : decide ((T.length : Int) > 0) = true := decide_eq_true (by omega)
      have e2 : decide ((l.length : Int) ≥ 0) = true := decide_eq_true (by omega)
      gi_wp2_with (refine ⟨trivial, ?_⟩; gi_at_call 55; refine (callsIn_wide.2 (Tryd.strings_IndexByte _ _ _)).mono ?_; rintro e w' ⟨rfl, rfl⟩; rw [show Lib.indexByte (ByteArray.mk T.toArray).data.toList (Int.toNat 10).toUInt8 = (l.length : Nat) from HIX.out])
      gi_region
      rw [show (ByteArray.mk T.toArray).extract 0 (l.length + 1) = ⟨(l ++ [10]).toArray⟩ by rw [← HT.out]; exact ext_take _ _]
      rw [show (ByteArray.mk T.toArray).extract (l.length + 1) T.length = ⟨(nlS rest).toArray⟩ by rw [← HT.out]; exact ext_drop _ _]
      have hrw : Row (w'.setCell ⟨SB, 0, none⟩ (.string ⟨(nlS rest).toArray⟩)).drew SB 9 #[.string ⟨(nlS rest).toArray⟩] := HR.out.set 0 _
      have hj2 : J (pre.map (· ++ [10])) (w'.setCell ⟨SB, 0, none⟩ (.string ⟨(nlS rest).toArray⟩)).drew := hJ _ _ _ HJ.out (.inr ⟨⟨_, HR.out⟩, grown_nl _ _ _⟩)
      obtain ⟨w1, hw1⟩ : ∃ w1, (w'.setCell ⟨SB, 0, none⟩ (.string ⟨(nlS rest).toArray⟩)).drew = w1 := ⟨_, rfl⟩
      rw [hw1] at hrw hj2 ⊢
      have hlr : LineR (l ++ [10]) #[.string ⟨(l ++ [10]).toArray⟩] w1 := rfl
      obtain ⟨fn, tmps, assign, body, hy, hRR⟩ := hY _ (l ++ [10]) #[.string ⟨(l ++ [10]).toArray⟩] w1 hj2 hlr ⟨rest.map (· ++ [10]), by rw [hls]; simp⟩
      have HRW := Lib.hid hrw
      have HLS := Lib.hid hls
      have hbl : boxLen SB w' = T.length := by rw [boxLen_row HR.out, nl_cons, HT.out]
      have HBL := Lib.hid hbl
      clear hc hfr hrw hj2 hw1 hls hbl HR HJ
      gi_wp2
      refine hRR.mono ?_
      rintro e W' (⟨rfl, hJ', hk'⟩ | ⟨rfl, hJx'⟩)
      · have hr2 := hk' _ HRW.out
        have HR2 := Lib.hid hr2
        have HJ2 := Lib.hid hJ'
        clear hy hRR hk' hJ' hr2
        gi_wp2
        go_roundw
        case rel => exact ⟨pre ++ [l], rest, by rw [HLS.out]; simp, HR2.out, by simpa using HJ2.out⟩
        case measure =>
          rw [HBL.out, boxLen_row HR2.out, ← HT.out]
          simp
          omega
      · clear hy hRR
        gi_wp2
        refine bodyPost_ret (results_none rfl _ _ _) rfl ?_
        exact ⟨⟨_, rfl⟩, .inr ⟨_, hJx'⟩⟩
end Go.Proofs.YtpmbfcogkoiogaaDoor
end
