/- append(append([]T{}, xs...), y), its operations in any order. The reference of Read: its small functions. -/
import Derived.Test.YtignhjfobcnloaaBldA
import Derived.Test.YtignhjfobcnloaaRoundInv
import Derived.Maps.AppendAt
import Derived.Laws.AppendOwn
import Derived.TacticsInMore
import Derived.Test.YtignhjfobcnloaaSrcPlain2
import Derived.Test.YtignhjfobcnloaaSrcVals
import Derived.Test.YtignhjfobcnloaaStripRef
section
namespace Go.Proofs.Ytignhjfobcnloaa
open Go.RowKit
theorem wpOpIn_app {F : Fence} {n : Nat} {P : Program} {ops : Array Oper} {Q : Exit → Act → World → Prop} {i : Nat} {o : Oper} {a : Act} {w w' : World} {K : Act → World → Prop} {v u v' : Value} (ho : ops[i]? = some o) (hg : o.guard = none) (s x : Operand) (t : TypeId)
    (hop : o.op = Op.call { callee := Callee.builtin Builtin.append, args := #[s, x], argTypes := #[t, t] }) (hs : a.eval s = v) (hx : a.eval x = u) (hrun : (Builtin.append_ #[t, t] o.type #[v, u]).run P w = .ok v' w') (hK : K (a.put o.dst v') w') : wpOpIn F n P ops Q i K a w := by
  have hw : Region.wanted o (yielded ops a.tmps) = true := by simp [Region.wanted, hg]
  unfold wpOpIn
  rw [ho]
  simp only [hw, if_true]
  unfold Oper.wpIn
  constructor
  · simp [Oper.about, hop, resolve, Target.leads, Sem.run_pure]
  · rw [Oper.semAt_plain F _ _ (by rw [hop]; intro c hc'; cases hc')]
    simp [execOp, hop, resolve, invoke, builtin, hs, hx, hrun, Result.andThen]
    exact hK
/-- the region k of a code -/
def regC (k : Nat) : Code → Code
  | .region id ops d => if id = k then .region id ops d else .skip
  | .seq a b => match regC k a with
    | .skip => regC k b
    | c => c
  | .cond _ a b => match regC k a with
    | .skip => regC k b
    | c => c
  | .block _ b => regC k b
  | .loop b => regC k b
  | .scope b => regC k b
  | .rangeFunc _ _ a b => match regC k a with
    | .skip => regC k b
    | c => c
  | _ => .skip
section
variable {P : Program} {W w : World} {E : TypeId} {sz n : Nat} {xs ys : List Value} {b0 b4 b6 b7 : Bool} {v0 v4 v6 v7 : Value}
/-- what has been carried out: b0 the empty slice, b4 the copy, b6 the element laid, b7 the append -/
structure CA (W : World) (E : TypeId) (sz n : Nat) (xs ys : List Value) (b0 b4 b6 b7 : Bool) (v0 v4 v6 v7 : Value) (w : World) : Prop where
  below : Below W.heap.size W w
  f0 : b0 = true → b4 = false → w.ownsRow W.heap.size E sz v0 0 []
  f4 : b4 = true → b7 = false → w.ownsRow W.heap.size E sz v4 n xs
  f6 : b6 = true → b7 = false → ∃ G, v6 = .slice (some ⟨G, 0, none⟩) 1 1 ∧ Row w G E ys.toArray ∧ W.heap.size ≤ G ∧ (b0 = true → b4 = false → v0.ownBlock ≠ some G) ∧ (b4 = true → v4.ownBlock ≠ some G)
  f7 : b7 = true → w.ownsRow W.heap.size E sz v7 (n + 1) (xs ++ ys)
theorem CA.start : CA W E sz n xs ys false false false false v0 v4 v6 v7 W.drew :=
  ⟨(Below.refl _ _).drew, fun h => (by cases h), fun h => (by cases h), fun h => (by cases h), fun h => (by cases h)⟩
theorem ca_own_alloc {w : World} {b k s : Nat} {e : TypeId} {v : Value} {zs : List Value} (h : w.ownsRow b e s v k zs) (o : Obj) : (w.alloc o).ownsRow b e s v k zs := own_below h (new_ (Below.refl _ _) o)
theorem CA.s0 (h : CA W E sz n xs ys false false b6 false v0 v4 v6 v7 w) : CA W E sz n xs ys true false b6 false (.slice (some ⟨w.heap.size, 0, none⟩) 0 0) v4 v6 v7 (w.alloc (.cells #[] E)) := by
  refine ⟨h.below.alloc h.below.size _, fun _ _ => ?_, fun h => (by cases h), fun h1 h2 => ?_, fun h => (by cases h)⟩
  · have h1 := World.ownsRow_made (base := W.heap.size) (e := E) (size := sz) w #[] 0 h.below.size (by decide) (by simp)
    simpa using h1
  · obtain ⟨G, e, hr, hg, _, _⟩ := h.f6 h1 h2
    exact ⟨G, e, hr.alloc _, hg, fun _ _ e => by have := hr.lt; simp [Value.ownBlock] at e; omega, fun h => (by cases h)⟩
theorem CA.s6 (h : CA W E sz n xs ys b0 b4 false false v0 v4 v6 v7 w) : CA W E sz n xs ys b0 b4 true false v0 v4 (.slice (some ⟨w.heap.size, 0, none⟩) 1 1) v7 (w.alloc (.cells ys.toArray E)) := by
  refine ⟨h.below.alloc h.below.size _, fun h1 h2 => ca_own_alloc (h.f0 h1 h2) _, fun h1 h2 => ca_own_alloc (h.f4 h1 h2) _, fun _ _ => ⟨_, rfl, Row.new _ _ _, h.below.size, fun h1 h2 e => ?_, fun h1 e => ?_⟩, fun h => (by cases h)⟩
  · have := ((h.f0 h1 h2).lt _ e).2; omega
  · have := ((h.f4 h1 rfl).lt _ e).2; omega
theorem CA.r4 (h : CA W E sz n xs ys true false b6 false v0 v4 v6 v7 w) (T ty : TypeId) (i : TypeInfo) (z : Value) (bytes : Nat) (ht : P.underlying T = some (.slice E)) (hi : P.info? E = some i) (hz : i.zero = some z)
    (hsize : i.size = sz) (hby : i.bytes = bytes) (hzs : z.cells.size = sz) (hsz : 0 < sz) {sv : Value} (hr : Rds W sz sv n xs) (h1 : ∀ u ∈ xs, u.oneCell' = true) (hbytes : n * bytes ≤ 140737488355328) :
    ∃ v w', (Builtin.append_ #[T, T] ty #[v0, sv]).run P w = .ok v w' ∧ CA W E sz n xs ys true true b6 false v0 v v6 v7 w' := by
  have hr' := hr.below h.below
  obtain ⟨A, c, rfl, hc, hml, hl, hcell⟩ := hr'
  have hown := h.f0 rfl rfl
  have fin : ∀ v w', w'.ownsRow W.heap.size E sz v n xs → w.grownBy w' v0.ownBlock → (v.ownBlock = v0.ownBlock ∨ v.ownBlock = some w.heap.size) → CA W E sz n xs ys true true b6 false v0 v v6 v7 w' := fun v w' ho hg hat => by
    refine ⟨⟨hg.os.trans h.below.os, hg.tape.trans h.below.tape, hg.output.trans h.below.output, Nat.le_trans h.below.size hg.size, fun k hk => (hg.block k (by have := h.below.size; omega) fun e => ?_).trans (h.below.block k hk)⟩, fun _ h => (by cases h), fun _ _ => ho, fun h2 h3 => ?_, fun h => (by cases h)⟩
    · have := (hown.lt _ e.symm).1; omega
    · obtain ⟨G, e, hrw, hG, hne, _⟩ := h.f6 h2 h3
      refine ⟨G, e, hrw.grown hg (fun e => hne rfl rfl e.symm), hG, fun _ h => (by cases h), fun _ e => ?_⟩
      rcases hat with hat | hat
      · exact hne rfl rfl (hat ▸ e)
      · have := hrw.lt
        rw [hat] at e
        simp at e
        omega
  cases A with
  | none =>
    have h0 : n = 0 := by
      rcases Nat.eq_zero_or_pos n with h0 | h0
      · exact h0
      · obtain ⟨b, o', ha, _⟩ := hcell h0; cases ha
    subst h0
    obtain rfl : xs = [] := List.eq_nil_of_length_eq_zero (by simpa using hl)
    exact ⟨v0, w, run_append_nil_any (P := P) (w := w) W.heap.size T ty E i sz ht hi v0 0 [] hown c, fin _ _ hown (World.grownBy.refl w _) (.inl rfl)⟩
  | some ad =>
    obtain ⟨v, w', hrun, ho, hg, _, hat⟩ := run_append_own_at (P := P) w W.heap.size T ty E i z sz bytes ht hi hz hsize hby hzs hsz v0 0 [] hown ad n c xs hl (by
      intro j u hu
      rcases Nat.eq_zero_or_pos n with h0 | h0
      · subst h0
        obtain rfl : xs = [] := List.eq_nil_of_length_eq_zero (by simpa using hl)
        simp at hu
      · obtain ⟨b, o', ha, hz'⟩ := hcell h0
        obtain rfl : ad = ⟨b, o', none⟩ := by simpa using ha
        rw [addr_add]
        exact hz' j u hu) h1 (by omega) (by rw [Nat.zero_add]; exact hbytes) h.below.size
    rw [Nat.zero_add, List.nil_append] at ho
    exact ⟨v, w', hrun, fin v w' ho hg hat⟩
theorem CA.r7 (h : CA W E sz n xs ys true true true false v0 v4 v6 v7 w) (T ty : TypeId) (i : TypeInfo) (z : Value) (bytes : Nat) (ht : P.underlying T = some (.slice E)) (hi : P.info? E = some i) (hz : i.zero = some z)
    (hsize : i.size = sz) (hby : i.bytes = bytes) (hzs : z.cells.size = sz) (hsz : 0 < sz) (hy : ys.length = sz) (h1 : ∀ u ∈ ys, u.oneCell' = true) (hn : n + 1 ≤ maxLen) (hbytes : (n + 1) * bytes ≤ 140737488355328) :
    ∃ v w', (Builtin.append_ #[T, T] ty #[v4, v6]).run P w = .ok v w' ∧ CA W E sz n xs ys true true true true v0 v4 v6 v w' := by
  have hown := h.f4 rfl rfl
  obtain ⟨G, rfl, hrw, hG, _, hne⟩ := h.f6 rfl rfl
  obtain ⟨v, w', hrun, ho, hg, _, hat⟩ := run_append_own_at (P := P) w W.heap.size T ty E i z sz bytes ht hi hz hsize hby hzs hsz v4 n xs hown ⟨G, 0, none⟩ 1 1 ys (by omega) (by
    intro j u hu
    rw [addr_add, Nat.zero_add]
    exact hrw.cell (by simpa using hu)) h1 hn hbytes h.below.size
  refine ⟨v, w', hrun, ⟨hg.os.trans h.below.os, hg.tape.trans h.below.tape, hg.output.trans h.below.output, Nat.le_trans h.below.size hg.size, fun k hk => (hg.block k (by have := h.below.size; omega) fun e => ?_).trans (h.below.block k hk)⟩, fun _ h => (by cases h), fun _ h => (by cases h), fun _ h => (by cases h), fun _ => ho⟩
  have := (hown.lt _ e.symm).1; omega
end
end Go.Proofs.Ytignhjfobcnloaa
end
section
namespace Go.Proofs.Ytignhjfobcnloaa
open Go.RowKit
/-- the state as a value -/
def sV (f wv cv : Value) (d : Int) (e : ErrD) : Value := .agg #[f, wv, cv, .int .i64 d, .string ⟨e.1.toArray⟩, .int .i64 e.2.1, .int .i64 e.2.2]
/-- no error -/
def noErr : ErrD := ([], 0, 0)
/-- the block of the slice v has elements of the type E -/
def TyB (w : World) (E : TypeId) (v : Value) : Prop := ∀ g, v.ownBlock = some g → ∃ c fr, w.heap[g]? = some (.cells c E fr)
theorem TyB.nil {w : World} {E : TypeId} : TyB w E (.slice none 0 0) := fun g e => by cases e
theorem TyB.below {w w' : World} {E : TypeId} {v : Value} (h : TyB w E v) (hb : Below w.heap.size w w') : TyB w' E v := fun g e => by
  obtain ⟨c, fr, hg⟩ := h g e
  exact ⟨c, fr, (hb.block g (Array.getElem?_eq_some_iff.1 hg).1).trans hg⟩
theorem TyB.of_own {w : World} {base : Nat} {E : TypeId} {size n : Nat} {v : Value} {xs : List Value} (h : w.ownsRow base E size v n xs) : TyB w E v := fun g e => by
  rcases h.2 with ⟨rfl, _⟩ | ⟨k, cap, cur, rfl, _, hh, _⟩
  · cases e
  · obtain rfl : k = g := by simpa [Value.ownBlock] using e
    exact ⟨_, _, hh⟩
theorem TyB.ne {w : World} {E t : TypeId} {v : Value} {g : Nat} {cs : Array Value} (h : TyB w E v) (hr : Row w g t cs) (ht : t ≠ E) : ∀ k, v.ownBlock = some k → k ≠ g := fun k e => by
  rintro rfl
  obtain ⟨c, fr, hg⟩ := h k e
  unfold Row at hr
  rw [hr] at hg
  exact ht (by simp at hg; exact hg.2.1)
theorem TyB.store {w : World} {E t : TypeId} {v : Value} {g i : Nat} {cs : Array Value} (h : TyB w E v) (hr : Row w g t cs) (ht : t ≠ E) (u : Value) : TyB (w.setCell ⟨g, i, none⟩ u) E v := fun k e => by
  obtain ⟨c, fr, hg⟩ := h k e
  exact ⟨c, fr, (Below.heap_setCell _ _ _ _ (by dsimp only; exact h.ne hr ht k e)).trans hg⟩
theorem Rds.same {w w' : World} {size n : Nat} {v : Value} {xs : List Value} (h : Rds w size v n xs) (hs : ∀ g, 0 < n → v.ownBlock = some g → ∀ o, w'.cell? ⟨g, o, none⟩ = w.cell? ⟨g, o, none⟩) : Rds w' size v n xs := by
  obtain ⟨A, c, rfl, hc, hm, hl, hx⟩ := h
  refine ⟨A, c, rfl, hc, hm, hl, fun hn => ?_⟩
  obtain ⟨b, o, rfl, hx'⟩ := hx hn
  exact ⟨b, o, rfl, fun j u hu => (hs b hn rfl _).trans (hx' j u hu)⟩
theorem Rds.store {w : World} {size n : Nat} {v : Value} {xs : List Value} {E t : TypeId} {g i : Nat} {cs : Array Value} (h : Rds w size v n xs) (ht : TyB w E v) (hr : Row w g t cs) (he : t ≠ E) (u : Value) : Rds (w.setCell ⟨g, i, none⟩ u) size v n xs :=
  h.same fun k _ e o => by
    unfold World.cell?
    rw [Below.heap_setCell _ _ _ _ (by dsimp only; exact ht.ne hr he k e)]
/-- the state's slices read as the unit x -/
structure StR (w : World) (f wv cv : Value) (x : RdS) : Prop where
  fl : Strs w f x.files
  wd : WordsAt w wv x.words
  cm : ComfAt w cv x.coms
  tf : TyB w 9 f
  tw : TyB w 132 wv
  tc : TyB w 148 cv
theorem StR.below {w w' : World} {f wv cv : Value} {x : RdS} (h : StR w f wv cv x) (hb : Below w.heap.size w w') : StR w' f wv cv x := ⟨h.fl.below hb, h.wd.below hb, h.cm.below hb, h.tf.below hb, h.tw.below hb, h.tc.below hb⟩
theorem StR.store {w : World} {f wv cv : Value} {x : RdS} {g i : Nat} {cs : Array Value} (h : StR w f wv cv x) (hr : Row w g 143 cs) (u : Value) : StR (w.setCell ⟨g, i, none⟩ u) f wv cv x :=
  ⟨Rds.store h.fl h.tf hr (by decide) u, Rds.store h.wd h.tw hr (by decide) u, Rds.store h.cm h.tc hr (by decide) u, h.tf.store hr (by decide) u, h.tw.store hr (by decide) u, h.tc.store hr (by decide) u⟩
set_option maxRecDepth 100000 in
theorem ref_between (w : World) (f wv cv : Value) (x : RdS) (e : ErrD) (h : WordsAt w wv x.words) (ok : OkR x) :
    Calls Try.prog 98 #[sV f wv cv x.depth e] w fun e w' => e = .returned (.bool (betweenS x)) ∧ Below w.heap.size w w' := by
  have hN := ok.wl
  have hd1 := ok.dl.1
  have hd2 := ok.dl.2
  obtain ⟨wA, wc, rfl, hwc, _, hxx⟩ := h.open_
  unfold sV
  cases hl : x.words.getLast? with
  | none =>
    have hnil : x.words = [] := by simpa using hl
    have HR : Hid (betweenS x = true) := Lib.hid (by unfold betweenS; rw [hl])
    have hz : x.words.length = 0 := by rw [hnil]; rfl
    have hd : x.depth = 0 := by omega
    rw [hz, hd]
    clear hl hnil hxx hd1 hd2 hd hwc hz
    go_enter Try.func98, Try.ntmps98
    go_wp2
    go_ret
    exact ⟨ret_bool HR.out.symm, new_ (Below.refl _ _) _⟩
  | some y =>
    obtain ⟨t, fi, at0⟩ := y
    have hne : x.words ≠ [] := fun e => by rw [e] at hl; cases hl
    have hp : 0 < x.words.length := List.length_pos_iff.2 hne
    have hx : x.words[x.words.length - 1]? = some (t, fi, at0) := by rw [← List.getLast?_eq_getElem?]; exact hl
    obtain ⟨b, o, rfl, g1, g2, g3⟩ := hxx _ _ hx
    obtain ⟨n, hn⟩ : ∃ n, n = x.words.length - 1 := ⟨_, rfl⟩
    have hn1 : x.words.length = n + 1 := by omega
    rw [← hn] at g1 g2 g3
    rw [hn1]
    have hn8 : n ≤ 8000 := by omega
    obtain ⟨b1, e1⟩ : ∃ b1, decide (x.depth ≤ 0) = b1 := ⟨_, rfl⟩
    obtain ⟨b2, e2⟩ : ∃ b2, (t == [36, 46]) = b2 := ⟨_, rfl⟩
    obtain ⟨b3, e3⟩ : ∃ b3, (t == [36, 125]) = b3 := ⟨_, rfl⟩
    have HR : Hid (betweenS x = (b1 && (b2 || b3))) := Lib.hid (by unfold betweenS; rw [hl]; simp only [endW, e1, e2, e3])
    have hlb : b < w.heap.size := block_lt_of_cell g1
    clear hl hne hp hx hxx hn hn1 hd1 hd2 hN hwc
    cases b1 <;> cases b2 <;> cases b3
    all_goals
      go_enter Try.func98, Try.ntmps98
      go_wp2
      go_ret
      exact ⟨ret_bool HR.out.symm, new_ (Below.refl _ _) _⟩
theorem StR.form {w : World} {f wv cv : Value} {x : RdS} (h : StR w f wv cv x) : (∃ A c, f = .slice A x.files.length c) ∧ (∃ A c, wv = .slice A x.words.length c) ∧ ∃ A c, cv = .slice A x.coms.length c := by
  obtain ⟨A1, c1, rfl, _⟩ := h.fl
  obtain ⟨A2, c2, rfl, _⟩ := h.wd
  obtain ⟨A3, c3, rfl, _⟩ := h.cm
  exact ⟨⟨_, _, rfl⟩, ⟨_, _, rfl⟩, _, _, rfl⟩
set_option maxRecDepth 100000 in
theorem ref_fail (w : World) (f wv cv : Value) (x : RdS) (h : StR w f wv cv x) (d : Int) (name : List UInt8) (p z : Int) :
    Calls Try.prog 96 #[sV f wv cv d noErr, .string ⟨name.toArray⟩, .int .i64 p, .int .i64 z] w fun e w' => e = .returned (sV f wv cv d (name, p, z)) ∧ Below w.heap.size w w' := by
  obtain ⟨⟨A1, c1, rfl⟩, ⟨A2, c2, rfl⟩, A3, c3, rfl⟩ := h.form
  clear h
  unfold sV noErr
  go_enter Try.func96, Try.ntmps96
  go_wp2
  exact bodyPost_ret (v := .agg #[.slice A1 x.files.length c1, .slice A2 x.words.length c2, .slice A3 x.coms.length c3, .int .i64 d, .string ⟨name.toArray⟩, .int .i64 p, .int .i64 z]) (by simp [results, Try.results96, go_sem]) rfl ⟨rfl, new_ (new_ (Below.refl _ _) _) _⟩
set_option maxRecDepth 100000 in
theorem ref_plain (w : World) (s : List UInt8) (hs : s.length ≤ 40000) :
    Calls Try.prog 99 #[.string ⟨s.toArray⟩] w fun e w' => e = .returned (.bool (decide ((36 : UInt8) ∉ s))) ∧ w = w' := by
  obtain ⟨bl, hbl⟩ : ∃ bl, decide ((36 : UInt8) ∉ s) = bl := ⟨_, rfl⟩
  rw [hbl]
  have HBL := Lib.hid hbl
  clear hbl
  go_enter Try.func99, Try.ntmps99
  go_wp2
  go_loop [3] (fun v => ∃ k : Nat, k ≤ s.length ∧ v = .int .i64 k ∧ (36 : UInt8) ∉ s.take k) (fun v => s.length - (intOf v).toNat)
  case atStart => exact ⟨0, Nat.zero_le _, rfl, by simp⟩
  case round =>
    obtain ⟨k, hk, rfl, hn⟩ := hrel
    by_cases hlt : k < s.length
    · have hts : s.take (k + 1) = s.take k ++ [s[k]] := by rw [List.take_succ_eq_append_getElem hlt]
      obtain ⟨c, hce, hcl⟩ : ∃ c : Nat, (ByteArray.mk s.toArray)[k].toNat = c ∧ c = s[k].toNat := ⟨_, rfl, rfl⟩
      by_cases hc : s[k] = 36
      · have hin : (36 : UInt8) ∈ s := hc ▸ List.getElem_mem hlt
        have HR : Hid (false = bl) := Lib.hid (by rw [← HBL.out]; exact (decide_eq_false (by simpa using hin)).symm)
        have hcc : ((c : Int) == 36) = true := by rw [hcl, hc]; rfl
        clear hc hin hts hn hcl
        go_wp2
        go_ret
        exact ⟨ret_bool HR.out, rfl⟩
      · have HN : Hid ((36 : UInt8) ∉ s.take (k + 1)) := Lib.hid (by
          rw [hts, List.mem_append, not_or]
          exact ⟨hn, fun h => hc (by simp at h; exact h.symm)⟩)
        have hcc : ((c : Int) == 36) = false := by
          rw [beq_eq_false_iff_ne]
          intro e
          have e2 : s[k].toNat = 36 := by omega
          exact hc (UInt8.toNat_inj.1 (by rw [e2]; rfl))
        clear hc hts hn hcl
        go_wp2
        go_round
        case rel => exact ⟨k + 1, by omega, by go_num, HN.out⟩
        case measure => simp [intOf]; omega
    · obtain rfl : k = s.length := by omega
      have HR : Hid (true = bl) := Lib.hid (by rw [← HBL.out]; exact (decide_eq_true (by simpa using hn)).symm)
      clear hn
      go_wp2
      go_ret
      exact ⟨ret_bool HR.out, rfl⟩
set_option maxRecDepth 100000 in
theorem ref_taken (w : World) (f wv cv : Value) (d : Int) (e : ErrD) (l : List (List UInt8)) (name : List UInt8) (hf : Strs w f l) (hl : l.length ≤ 1000) :
    Calls Try.prog 125 #[sV f wv cv d e, .string ⟨name.toArray⟩] w fun e w' => e = .returned (.bool (decide (name ∈ l))) ∧ Below w.heap.size w w' := by
  obtain ⟨fA, fc, rfl, hfc, hfm, hx⟩ := hf.open_
  unfold sV
  have HX := Lib.hid hx
  clear hx hf
  go_enter Try.func125, Try.ntmps125
  go_wp2
  go_loop [5] (fun v => ∃ k : Nat, k ≤ l.length ∧ v = .int .i64 k ∧ name ∉ l.take k) (fun v => l.length - (intOf v).toNat)
  case atStart => exact ⟨0, Nat.zero_le _, rfl, by simp⟩
  case round =>
    obtain ⟨k, hk, rfl, hn⟩ := hrel
    by_cases hlt : k < l.length
    · have hts : l.take (k + 1) = l.take k ++ [l[k]] := by rw [List.take_succ_eq_append_getElem hlt]
      obtain ⟨y, hy⟩ : ∃ y, y = l[k] := ⟨_, rfl⟩
      rw [← hy] at hts
      obtain ⟨b, o, rfl, g0⟩ := HX.out k y (by rw [hy]; exact List.getElem?_eq_getElem hlt)
      have hlb : b < w.heap.size := block_lt_of_cell g0
      have hin : y ∈ l := by rw [hy]; exact List.getElem_mem hlt
      clear hy
      by_cases hc : y = name
      · have HR : Hid (decide (name ∈ l) = true) := Lib.hid (decide_eq_true (hc ▸ hin))
        have hcc : (y == name) = true := by simpa using hc
        clear hc hin hts hn
        go_wp2
        go_ret
        exact ⟨ret_bool HR.out.symm, new_ (Below.refl _ _) _⟩
      · have HN : Hid (name ∉ l.take (k + 1)) := Lib.hid (by
          rw [hts, List.mem_append, not_or]
          exact ⟨hn, fun h => hc (by simp at h; exact h.symm)⟩)
        have hcc : (y == name) = false := by simpa using hc
        clear hc hts hn hin
        go_wp2
        go_round
        case rel => exact ⟨k + 1, by omega, by go_num, HN.out⟩
        case measure => simp [intOf]; omega
    · obtain rfl : k = l.length := by omega
      have HR : Hid (decide (name ∈ l) = false) := Lib.hid (decide_eq_false (by simpa using hn))
      clear hn
      go_wp2
      go_ret
      exact ⟨ret_bool HR.out.symm, new_ (Below.refl _ _) _⟩
end Go.Proofs.Ytignhjfobcnloaa
end
