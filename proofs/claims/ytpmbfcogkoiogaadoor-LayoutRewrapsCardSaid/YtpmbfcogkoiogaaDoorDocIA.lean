/- The iterator over the gaps yields just the gaps. The program's Read: what holds between two rounds. -/
import Derived.Test.YtpmbfcogkoiogaaDoorRangeA
import Derived.Test.YtpmbfcogkoiogaaDoorDocMem
import Derived.Test.YtpmbfcogkoiogaaDoorScanWA
import Derived.Test.YtpmbfcogkoiogaaDoorKitA
import Derived.Test.YtpmbfcogkoiogaaDoorDocRA
import Derived.Test.YtpmbfcogkoiogaaDoorDocPA
import Derived.Test.YtpmbfcogkoiogaaDoorStrA
section
namespace Go.Proofs.YtpmbfcogkoiogaaDoor
open Go.RowKit Go.Shelf
attribute [local go_sem] Oper.semAt_some
/-- what a round keeps: the cells of blocks and types that Q names -/
structure KeepsQ (Q : Nat → TypeId → Prop) (W W' : World) : Prop where
  size : W.heap.size ≤ W'.heap.size
  same : ∀ (k : Nat) (c : Array Value) (t : TypeId) (fr : Nat × Nat), W.heap[k]? = some (Obj.cells c t fr) → Q k t → W'.heap[k]? = some (Obj.cells c t fr)
section
variable {Q : Nat → TypeId → Prop} {A B C W W' : World}
theorem KeepsQ.refl (W : World) : KeepsQ Q W W := ⟨Nat.le_refl _, fun _ _ _ _ h _ => h⟩
theorem KeepsQ.trans (h : KeepsQ Q A B) (k : KeepsQ Q B C) : KeepsQ Q A C := ⟨Nat.le_trans h.size k.size, fun i c t fr hi ht => k.same i c t fr (h.same i c t fr hi ht) ht⟩
theorem KeepsQ.putObj {l : Nat} {o : Obj} (o' : Obj) (hl : W.heap[l]? = some o) (ho : o.isCells = false) : KeepsQ Q W (W.putObj l o') :=
  ⟨by simp, fun k c t fr hk _ => (World.putObj_heap_other (fun e => by subst e; rw [hl] at hk; cases hk; cases ho)).trans hk⟩
theorem KeepsQ.below (h : Below A.heap.size A B) : KeepsQ Q A B := ⟨h.size, fun k _ _ _ hk _ => (h.block k (Array.getElem?_eq_some_iff.1 hk).1).trans hk⟩
theorem KeepsQ.alloc (W : World) (o : Obj) : KeepsQ Q W (W.alloc o) := .below ((Below.refl _ W).alloc (Nat.le_refl _) o)
theorem KeepsQ.drew (W : World) : KeepsQ Q W W.drew := ⟨Nat.le_refl _, fun _ _ _ _ h _ => h⟩
theorem KeepsQ.setCell {p : Addr} {c : Array Value} {t : TypeId} {fr : Nat × Nat} (hp : W.heap[p.block]? = some (.cells c t fr)) (ht : ¬ Q p.block t) (u : Value) : KeepsQ Q W (W.setCell p u) :=
  ⟨by simp [World.setCell], fun k c' t' fr' hk hk' => (Below.heap_setCell W p u k (fun e => by subst e; rw [hp] at hk; cases hk; exact ht hk')).trans hk⟩
theorem KeepsQ.grown {row : Option Nat} (hg : W.grownBy W' row) (hr : ∀ g, row = some g → ∃ c t fr, W.heap[g]? = some (.cells c t fr) ∧ ¬ Q g t) : KeepsQ Q W W' :=
  ⟨hg.size, fun k c t fr hk ht => (hg.block k (Array.getElem?_eq_some_iff.1 hk).1 (fun e => by
    obtain ⟨c', t', fr', h', hn⟩ := hr k e.symm
    rw [h'] at hk
    cases hk
    exact hn ht)).trans hk⟩
theorem KeepsQ.row (h : KeepsQ Q W W') {g : Nat} {t : TypeId} {cs : Array Value} (hr : Row W g t cs) (ht : Q g t) : Row W' g t cs := h.same _ _ _ _ hr ht
theorem KeepsQ.tyb (h : KeepsQ Q W W') {E : TypeId} {v : Value} (hv : TyB W E v) (hQ : ∀ g, v.ownBlock = some g → Q g E) : TyB W' E v := fun g e => by
  obtain ⟨c, fr, hc⟩ := hv g e
  exact ⟨c, fr, h.same _ _ _ _ hc (hQ g e)⟩
theorem KeepsQ.rds (h : KeepsQ Q W W') {E : TypeId} {size n : Nat} {v : Value} {xs : List Value} (hv : TyB W E v) (hQ : ∀ g, v.ownBlock = some g → Q g E) (hr : Rds W size v n xs) : Rds W' size v n xs :=
  hr.same fun g _ e o => by
    obtain ⟨c, fr, hc⟩ := hv g e
    unfold World.cell?
    rw [hc, h.same _ _ _ _ hc (hQ g e)]
end
/-- a gap as the argument of yield -/
def encG (s : List UInt8) : Array Value := #[.string ⟨s.toArray⟩]
theorem jtoG {J : List (List UInt8) → World → Prop} {B : Nat} {W0 W : World} {pre : List (List UInt8)} (hJ : Stable (okIter fun _ => False) B J) (h : J pre W0) (hb : Below W0.heap.size W0 W) : J pre W := hJ _ _ _ h (Turn.grow hb)
/-- where the gap ahead of a token begins -/
def GapFrom (text : List UInt8) (l : List TokD) (i : Nat) : Prop := i ≤ text.length ∧ (∀ t ∈ l, i ≤ t.2 ∧ t.2 + t.1.length ≤ text.length) ∧ l.Pairwise (fun a b => a.2 + a.1.length ≤ b.2)
theorem GapFrom.next {text : List UInt8} {t : TokD} {l : List TokD} {i : Nat} (h : GapFrom text (t :: l) i) : GapFrom text l (t.2 + t.1.length) := by
  obtain ⟨_, h2, h3⟩ := h
  rw [List.pairwise_cons] at h3
  exact ⟨(h2 t (by simp)).2, fun u hu => ⟨h3.1 u hu, (h2 u (by simp [hu])).2⟩, h3.2⟩
/-- what the iterator reads -/
structure GapsAt (text : List UInt8) (l : List TokD) (tv : Value) (SB VB : Nat) (W : World) : Prop where
  rs : Row W SB 9 #[.string ⟨text.toArray⟩]
  rv : Row W VB 70 #[tv]
  tk : ToksAt W tv l
  ty : TyB W 85 tv
theorem GapsAt.below {text : List UInt8} {l : List TokD} {tv : Value} {SB VB : Nat} {W W' : World} (h : GapsAt text l tv SB VB W) (hb : Below W.heap.size W W') : GapsAt text l tv SB VB W' :=
  ⟨h.rs.below hb h.rs.lt, h.rv.below hb h.rv.lt, h.tk.below hb, h.ty.below hb⟩
theorem GapsAt.keeps {text : List UInt8} {l : List TokD} {tv : Value} {SB VB : Nat} {W W' : World} {Q : Nat → TypeId → Prop} (h : GapsAt text l tv SB VB W) (hk : KeepsQ Q W W') (h1 : Q SB 9) (h2 : Q VB 70) (h3 : ∀ g, Q g 85) : GapsAt text l tv SB VB W' :=
  ⟨hk.row h.rs h1, hk.row h.rv h2, hk.rds h.ty (fun g _ => h3 g) h.tk, hk.tyb h.ty fun g _ => h3 g⟩
set_option maxRecDepth 100000 in
set_option maxHeartbeats 4000000 in
theorem gaps_iter (n : Nat) (h1 : 1 ≤ n) (text : List UInt8) (l : List TokD) (tv : Value) (hmax : text.length ≤ maxLen) (hl : l.length ≤ 8000) (hF : GapFrom text l 0) (Q : Nat → TypeId → Prop) (w : World) (SB VB : Nat) (hG : GapsAt text l tv SB VB w)
    (q1 : Q SB 9) (q2 : Q VB 70) (q3 : ∀ g, Q g 85) :
    SeqT n Tryd.prog 93 #[.pointer (some ⟨VB, 0, none⟩), .pointer (some ⟨SB, 0, none⟩)] encG (KeepsQ Q) (fun _ => False) (gapsF text 0 l) w := by
  intro yl J Jx W hW hJ hJx hY hJ0
  have hG0 := hG.below hW
  clear hG
  obtain ⟨A1, a1, rfl, hc1, hm1, hxx⟩ := hG0.tk.open_
  clear hxx
  unfold maxLen at hmax
  show CallsIn Fence.wide n Tryd.prog 93 #[.func (.yield yl) #[] #[], .pointer (some ⟨VB, 0, none⟩), .pointer (some ⟨SB, 0, none⟩)] W _
  refine callsIn_of_wp Tryd.func93 rfl trivial ?_ rfl
  simp only [Tryd.ntmps93, List.size_toArray, List.length_cons, List.length_nil, Nat.reduceAdd, Nat.reduceSub, Array.replicate_succ, Array.replicate_zero, List.push_toArray, List.append_toArray, List.nil_append, List.cons_append]
  have hc0 := hG0.rv.cell (i := 0) rfl
  gi_wp2
  gi_loopw [4, 9] (fun av kv wr => ∃ (k i : Nat) (pre : List (List UInt8)), k ≤ l.length ∧ kv = .int .i64 k ∧ av = .int .i64 i ∧ GapFrom text (l.drop k) i ∧ gapsF text 0 l = pre ++ gapsF text i (l.drop k) ∧ J pre wr ∧ GapsAt text l (.slice A1 l.length a1) SB VB wr) (fun _ k _ => l.length - (intOf k).toNat)
  case atStart => exact ⟨0, 0, [], Nat.zero_le _, rfl, rfl, hF, rfl, hJ0, hG0⟩
  case round =>
    obtain ⟨k, i, pre, hk, rfl, rfl, hf, hit, hj, hG⟩ := hrel
    have HI := Lib.hid hit
    have HF := Lib.hid hf
    have hs := hG.rs.cell (i := 0) (v := .string ⟨text.toArray⟩) rfl
    have HG := Lib.hid hG
    clear hit hf
    by_cases hlt : k < l.length
    · obtain ⟨t, hx⟩ : ∃ x, l[k]? = some x := ⟨_, List.getElem?_eq_getElem hlt⟩
      obtain ⟨A', c', hvv, _, _, hxx⟩ := hG.tk.open_
      obtain ⟨b, o, hA, g1, g2⟩ := hxx k _ hx
      obtain ⟨rfl, _, rfl⟩ := (by simpa using hvv : A1 = A' ∧ True ∧ a1 = c')
      subst hA
      have hd : l.drop k = t :: l.drop (k + 1) := tdrop hx
      have HD := Lib.hid hd
      have hf2 := HF.out
      rw [hd] at hf2
      have hi1 := (hf2.2.1 t (by simp)).1
      have hi2 := (hf2.2.1 t (by simp)).2
      have HN := Lib.hid hf2.next
      have HI2 : Hid (gapsF text 0 l = (pre ++ [(text.take t.2).drop i]) ++ gapsF text (t.2 + t.1.length) (l.drop (k + 1))) := Lib.hid (by rw [HI.out, hd, gapsF]; simp)
      have hb1 : Below wr.heap.size wr (wr.alloc (.cells #[.string ⟨t.1.toArray⟩, .int .i64 (t.2 : Nat)] 85)) := new_ (Below.refl _ _) _
      have q7 : Row (wr.alloc (.cells #[.string ⟨t.1.toArray⟩, .int .i64 (t.2 : Nat)] 85)) wr.heap.size 85 #[.string ⟨t.1.toArray⟩, .int .i64 (t.2 : Nat)] := Row.new _ _ _
      have hG1 := Lib.hid (HG.out.below hb1)
      obtain ⟨fn, tmps, assign, body, hy, hR⟩ := hY pre ((text.take t.2).drop i) (wr.alloc (.cells #[.string ⟨t.1.toArray⟩, .int .i64 (t.2 : Nat)] 85)) (jtoG hJ hj hb1) ⟨_, by rw [HI2.out]⟩
      dsimp only [encG] at hy
      have e1 := fun wx => run_slice_string (P := Tryd.prog) wx 9 ⟨text.toArray⟩ .i64 .i64 (i : Int) (t.2 : Int) Tryd.underlying9 (by omega) (by omega) (by simp [ByteArray.size]; omega)
      simp only [Int.toNat_natCast, bytes_cut] at e1
      have hs1 := hG1.out.rs.cell (i := 0) (v := .string ⟨text.toArray⟩) rfl
      clear hd hf2 hx hxx hj hG hvv
      gi_wp2
      refine hR.mono ?_
      rintro e W' (⟨rfl, hJ', hk'⟩ | ⟨rfl, hJx'⟩)
      · have hG2 := hG1.out.keeps hk' q1 q2 q3
        have hr7 := hk'.row q7 (q3 _)
        have c0 := hr7.cell (i := 0) (v := .string ⟨t.1.toArray⟩) rfl
        have c1 := hr7.cell (i := 1) (v := .int .i64 (t.2 : Nat)) rfl
        have hHJ := Lib.hid hJ'
        have hHG := Lib.hid hG2
        clear hy hR hk' hJ' hG2 hr7 e1 hs1
        gi_wp2
        go_roundw
        case rel => exact ⟨k + 1, t.2 + t.1.length, _, by omega, by go_num, by go_num, HN.out, HI2.out, hHJ.out, hHG.out⟩
        case measure => simp [intOf]; omega
      · clear hy hR e1
        gi_wp2
        refine bodyPost_ret (results_none rfl _ _ _) rfl ?_
        exact ⟨⟨_, rfl⟩, .inr ⟨_, hJx'⟩⟩
    · obtain rfl : k = l.length := by omega
      have hd : l.drop l.length = [] := List.drop_length
      have HI2 : Hid (gapsF text 0 l = pre ++ [text.drop i]) := Lib.hid (by rw [HI.out, hd, gapsF])
      have hi1 := HF.out.1
      have e1 := fun wx => run_slice_string_l (P := Tryd.prog) wx 9 ⟨text.toArray⟩ Tryd.underlying9 .i64 (i : Int) (by omega) (by simp [ByteArray.size]; omega)
      have hsz : (ByteArray.mk text.toArray).size = text.length := by simp [ByteArray.size]
      simp only [Int.toNat_natCast, bytes_cut, hsz, List.take_length] at e1
      obtain ⟨fn, tmps, assign, body, hy, hR⟩ := hY pre (text.drop i) wr hj ⟨[], by rw [HI2.out, List.append_nil]⟩
      dsimp only [encG] at hy
      clear hd hj hG
      gi_wp2
      refine hR.mono ?_
      rintro e W' (⟨rfl, hJ', hk'⟩ | ⟨rfl, hJx'⟩)
      · clear hy hR hk' e1
        gi_wp2
        go_end0
        exact ⟨⟨_, rfl⟩, .inl (by rw [HI2.out]; exact hJ')⟩
      · clear hy hR e1
        gi_wp2
        go_end0
        exact ⟨⟨_, rfl⟩, .inr ⟨_, hJx'⟩⟩
end Go.Proofs.YtpmbfcogkoiogaaDoor
end
section
namespace Go.Proofs.YtpmbfcogkoiogaaDoor
open Go.RowKit
theorem infoPart : (Tryd.prog.info? 62).map (fun i => (i.zero, i.size, i.bytes)) = some (some (.agg #[.int .i64 0, .string ⟨#[]⟩, .slice none 0 0, .slice none 0 0, .slice none 0 0]), 5, 96) := by kernel_rfl
theorem row_ne {W : World} {g g' : Nat} {t t' : TypeId} {cs cs' : Array Value} (h : Row W g t cs) (h' : Row W g' t' cs') (ht : t ≠ t') : g ≠ g' := by
  rintro rfl
  have := (show W.heap[g]? = _ from h).symm.trans (show W.heap[g]? = _ from h')
  cases this
  exact ht rfl
/-- a store into a cell of a row of the call's own -/
theorem own_set {W : World} {base size n g cap i : Nat} {E : TypeId} {xs : List Value} (h : W.ownsRow base E size (.slice (some ⟨g, 0, none⟩) n cap) n xs) (_hi : i < n * size) (u : Value) :
    (W.setCell ⟨g, i, none⟩ u).ownsRow base E size (.slice (some ⟨g, 0, none⟩) n cap) n (xs.set i u) := by
  refine ⟨by rw [List.length_set]; exact h.1, ?_⟩
  rcases h.2 with ⟨he, _⟩ | ⟨g', cap', cur, he, hg, hh, h1, h2, h3, h4⟩
  · cases he
  · cases he
    refine .inr ⟨g, cap, cur.setIfInBounds i u, rfl, hg, Row.set (t := E) (cs := cur) hh i u, h1, h2, by simpa using h3, ?_⟩
    rw [Array.toList_setIfInBounds, List.take_set, h4]
theorem set_same {α : Type} : ∀ {l : List α} {p : Nat} {x : α}, l[p]? = some x → l.set p x = l
  | [], p, x, h => by simp at h
  | y :: r, 0, x, h => by simp at h; rw [h]; rfl
  | y :: r, p + 1, x, h => by rw [List.set_cons_succ, set_same (by simpa using h)]
theorem flat_set {ps : List PartP} {p : Nat} {x : PartP} (hp : ps[p]? = some x) (gv : Value) (gs : List (List UInt8)) : (ps.flatMap partCells).set (p * 5 + 4) gv = (ps.set p (x.1, x.2.1, x.2.2.1, gv, gs)).flatMap partCells := by
  induction ps generalizing p with
  | nil => simp at hp
  | cons y r ih =>
    cases p with
    | zero =>
      obtain rfl : y = x := by simpa using hp
      simp [partCells]
    | succ p =>
      rw [List.set_cons_succ, List.flatMap_cons, List.flatMap_cons, ← ih (by simpa using hp)]
      rw [List.set_append_right _ _ (by simp [partCells]; omega)]
      simp [partCells]
      congr 1
      omega
/-- the gaps of the parts: those of the part p may grow -/
def GapsOwn (W : World) (base p : Nat) (ps : List PartP) : Prop := ∀ (j : Nat) x, ps[j]? = some x →
  (j < p → (∃ b, W.ownsRow b 9 1 x.2.2.2.1 x.2.2.2.2.length (strC x.2.2.2.2)) ∧ ∀ g, x.2.2.2.1.ownBlock = some g → g < base) ∧
  (j = p → W.ownsRow base 9 1 x.2.2.2.1 x.2.2.2.2.length (strC x.2.2.2.2)) ∧ (p < j → x.2.2.2.1 = .slice none 0 0)
/-- between two rounds -/
structure RdI (w0 : World) (g10 g13 : Nat) (l : List StmD) (sp : List StmP) (pre : List (List UInt8)) (B1 : Nat) (W : World) (p base : Nat) (ps : List PartP) (pv : Value) : Prop where
  rd : Row W g10 40 #[pv, .string ⟨#[]⟩]
  rp : Row W g13 3 #[.int .i64 p]
  own : W.ownsRow (g10 + 1) 62 5 pv l.length (ps.flatMap partCells)
  sp : ps.map (fun x => (x.1, x.2.1, x.2.2.1)) = sp
  dl : Dealt l p (ps.map (·.2.2.2.2)) pre
  gp : GapsOwn W base p ps
  b0 : B1 ≤ base
  b1 : base ≤ W.heap.size
  below : Below w0.heap.size w0 W
section
variable {w0 W W' : World} {g10 g13 p base n B1 : Nat} {l : List StmD} {sp : List StmP} {pre : List (List UInt8)} {ps : List PartP} {pv : Value}
theorem GapsOwn.grow (h : GapsOwn W base p ps) (hb : Below W.heap.size W W') : GapsOwn W' base p ps := fun j x hx => by
  obtain ⟨h1, h2, h3⟩ := h j x hx
  exact ⟨fun e => ⟨(h1 e).1.imp fun b h => own_below h hb, (h1 e).2⟩, fun e => own_below (h2 e) hb, h3⟩
theorem GapsOwn.keep (h : GapsOwn W base p ps) (hk : ∀ (g : Nat) (c : Array Value) (fr : Nat × Nat), W.heap[g]? = some (Obj.cells c 9 fr) → W'.heap[g]? = some (Obj.cells c 9 fr)) : GapsOwn W' base p ps := fun j x hx => by
  obtain ⟨h1, h2, h3⟩ := h j x hx
  have k : ∀ b, W.ownsRow b 9 1 x.2.2.2.1 x.2.2.2.2.length (strC x.2.2.2.2) → W'.ownsRow b 9 1 x.2.2.2.1 x.2.2.2.2.length (strC x.2.2.2.2) := fun b hb => by
    refine ⟨hb.1, hb.2.imp id fun ⟨g, cap, cur, e, hg, hh, r⟩ => ⟨g, cap, cur, e, hg, hk _ _ _ hh, r⟩⟩
  exact ⟨fun e => ⟨(h1 e).1.imp fun b h => k b h, (h1 e).2⟩, fun e => k _ (h2 e), h3⟩
theorem GapsOwn.set (h : GapsOwn W base p ps) {g i : Nat} {t : TypeId} {cs : Array Value} (hr : Row W g t cs) (ht : t ≠ 9) (u : Value) : GapsOwn (W.setCell ⟨g, i, none⟩ u) base p ps :=
  h.keep fun k c fr hk => (Below.heap_setCell W ⟨g, i, none⟩ u k (by dsimp only; rintro rfl; rw [hr] at hk; cases hk; exact ht rfl)).trans hk
theorem RdI.grow (h : RdI w0 g10 g13 l sp pre B1 W p base ps pv) (hb : Below W.heap.size W W') : RdI w0 g10 g13 l sp pre B1 W' p base ps pv :=
  ⟨h.rd.below hb h.rd.lt, h.rp.below hb h.rp.lt, own_below h.own hb, h.sp, h.dl, h.gp.grow hb, h.b0, Nat.le_trans h.b1 hb.size, then_ h.below hb⟩
theorem RdI.turn {B : Nat} (h : RdI w0 g10 g13 l sp pre B1 W p base ps pv) (ht : Turn (okCall fun _ => False) B W W') (hB0 : w0.heap.size ≤ B) : RdI w0 g10 g13 l sp pre B1 W' p base ps pv :=
  ⟨h.rd.turn ht (.inr not_okCall_none), h.rp.turn ht (.inr not_okCall_none), own_turn h.own ht fun _ => not_okCall_none, h.sp, h.dl, h.gp.keep fun g c fr hk => ht.block _ _ hk (.inr not_okCall_fr), h.b0, Nat.le_trans h.b1 ht.size, below_turn h.below ht (Nat.le_refl _) hB0⟩
where
  not_okCall_fr {c : Array Value} {t : TypeId} {fr : Nat × Nat} : ¬ okCall (fun _ => False) (.cells c t fr) := by
    rintro (h | ⟨_, _, _, _, h⟩)
    · simp [Obj.isCells] at h
    · exact h
/-- on to the next statement -/
theorem RdI.next (h : RdI w0 g10 g13 l sp pre B1 W p base ps pv) {x : PartP} (hx : ps[p]? = some x) (hn : x.2.2.2.2.length = (wordsS x.1).length) (hl : l[p]? = some x.1) (h0 : w0.heap.size ≤ g13) (hne : g10 ≠ g13) :
    RdI w0 g10 g13 l sp pre B1 (W.setCell ⟨g13, 0, none⟩ (.int .i64 ((p + 1 : Nat) : Int))) (p + 1) W.heap.size ps pv := by
  refine ⟨h.rd.other (by dsimp only; exact hne) _, h.rp.set 0 _, own_store h.own h.rp (by decide) _ _, h.sp, h.dl.next hl (by rw [List.getElem?_map, hx]; rfl) hn, GapsOwn.set (t := 3) (fun j y hy => ?_) h.rp (by decide) _, Nat.le_trans h.b0 h.b1, by simp, ?_⟩
  · obtain ⟨h1, h2, h3⟩ := h.gp j y hy
    refine ⟨fun e => ?_, fun e => ?_, fun e => h3 (by omega)⟩
    · rcases Nat.lt_or_ge j p with hj | hj
      · obtain ⟨⟨b, h4⟩, _⟩ := h1 hj
        exact ⟨⟨b, h4⟩, fun g eg => (h4.lt g eg).2⟩
      · have h4 := h2 (by omega)
        exact ⟨⟨_, h4⟩, fun g eg => (h4.lt g eg).2⟩
    · subst e
      have h5 := h.dl.none (p + 1) y.2.2.2.2 (by omega) (by rw [List.getElem?_map, hy]; rfl)
      rw [h3 (by omega), h5]
      exact own_nil _ _ _ _
  · exact h.below.setCell (p := ⟨g13, 0, none⟩) h0 _
/-- what the iterator over the gaps asks of a round -/
def QG (B1 k : Nat) (t : TypeId) : Prop := t = 85 ∨ (k < B1 ∧ (t = 9 ∨ t = 70))
theorem own_cells {W : World} {b size m : Nat} {E : TypeId} {v : Value} {xs : List Value} (h : W.ownsRow b E size v m xs) : ∀ k, v.ownBlock = some k → b ≤ k ∧ ∃ c, W.heap[k]? = some (Obj.cells c E) := fun k e => by
  rcases h.2 with ⟨rfl, _⟩ | ⟨g, cap, cur, rfl, hg, hh, _⟩
  · cases e
  · cases e
    exact ⟨hg, cur, hh⟩
/-- behind the append of a gap, and the store of the slice -/
theorem RdI.put {bP cP : Nat} (h : RdI w0 g10 g13 l sp pre B1 W p base ps (.slice (some ⟨bP, 0, none⟩) l.length cP)) {x : PartP} (hx : ps[p]? = some x) (hl : l[p]? = some x.1) (hn : x.2.2.2.2.length < (wordsS x.1).length)
    {W2 : World} {v2 : Value} {u : List UInt8} (hO : W2.ownsRow base 9 1 v2 (x.2.2.2.2.length + 1) (strC x.2.2.2.2 ++ [.string ⟨u.toArray⟩])) (hG : (W.drew.alloc (.cells #[.string ⟨u.toArray⟩] 9)).grownBy W2 x.2.2.2.1.ownBlock) (h0 : w0.heap.size ≤ g10) (hB1 : w0.heap.size ≤ B1) :
    RdI w0 g10 g13 l sp (pre ++ [u]) B1 (W2.setCell ⟨bP, p * 5 + 4, none⟩ v2) p base (ps.set p (x.1, x.2.1, x.2.2.1, v2, x.2.2.2.2 ++ [u])) (.slice (some ⟨bP, 0, none⟩) l.length cP) ∧
    KeepsQ (QG B1) W (W2.setCell ⟨bP, p * 5 + 4, none⟩ v2) ∧ KeepsOthers W (W2.setCell ⟨bP, p * 5 + 4, none⟩ v2) := by
  obtain ⟨A, hA⟩ : ∃ A, W.drew.alloc (.cells #[.string ⟨u.toArray⟩] 9) = A := ⟨_, rfl⟩
  rw [hA] at hG
  have hbA : Below W.heap.size W A := by rw [← hA]; exact new_ (Below.refl _ _).drew _
  have hI := h.grow hbA
  have hgo := (hI.gp p x hx).2.1 rfl
  have hc := own_cells hgo
  have hz := hG.size
  have hzA := hbA.size
  have hne : ∀ (k : Nat) (c : Array Value) (t : TypeId) (fr : Nat × Nat), A.heap[k]? = some (Obj.cells c t fr) → t ≠ 9 → W2.heap[k]? = some (Obj.cells c t fr) := fun k c t fr hk ht =>
    (hG.block k (Array.getElem?_eq_some_iff.1 hk).1 fun e => by
      obtain ⟨_, c', hc'⟩ := hc k e.symm
      rw [hk] at hc'
      cases hc'
      exact ht rfl).trans hk
  have hpc := own_cells hI.own bP rfl
  obtain ⟨hpb, cP', hpc⟩ := hpc
  have hpr : Row W2 bP 62 cP' := hne _ _ _ _ hpc (by decide)
  have hp : p < l.length := (List.getElem?_eq_some_iff.1 hl).1
  have hown2 : W2.ownsRow (g10 + 1) 62 5 (.slice (some ⟨bP, 0, none⟩) l.length cP) l.length (ps.flatMap partCells) := own_keep hI.own fun k e => by
    cases e
    exact (hne _ _ _ _ hpc (by decide)).trans hpc.symm
  refine ⟨⟨?_, ?_, ?_, ?_, ?_, ?_, h.b0, ?_, ?_⟩, ?_, ?_⟩
  · refine Row.other (hne _ _ _ _ hI.rd (by decide)) ?_ _
    dsimp only; omega
  · refine Row.other (hne _ _ _ _ hI.rp (by decide)) ?_ _
    dsimp only
    intro e
    have h1 := hI.rp
    rw [e] at h1
    rw [show A.heap[bP]? = _ from h1] at hpc
    cases hpc
  · rw [← flat_set hx]
    exact own_set hown2 (by omega) _
  · rw [← h.sp]
    rw [List.map_set]
    exact set_same (by rw [List.getElem?_map, hx]; rfl)
  · rw [List.map_set]
    exact h.dl.put hl (by rw [List.getElem?_map, hx]; rfl) hn
  · refine GapsOwn.set (t := 62) (fun j y hy => ?_) hpr (by decide) _
    by_cases e : j = p
    · subst e
      rw [List.getElem?_set_self (List.getElem?_eq_some_iff.1 hx).1] at hy
      cases hy
      refine ⟨fun e => absurd e (Nat.lt_irrefl _), fun _ => ?_, fun e => absurd e (Nat.lt_irrefl _)⟩
      dsimp only
      simpa [strC] using hO
    · rw [List.getElem?_set_ne (Ne.symm e)] at hy
      obtain ⟨h1, h2, h3⟩ := hI.gp j y hy
      refine ⟨fun e1 => ⟨?_, (h1 e1).2⟩, fun e1 => absurd e1 e, h3⟩
      obtain ⟨⟨b, h4⟩, h5⟩ := h1 e1
      refine ⟨b, own_keep h4 fun k ek => hG.block k (h4.lt k ek).2 fun e2 => ?_⟩
      have h6 := h5 k ek
      have h7 := (hc k e2.symm).1
      omega
  · simp
    have := h.b1
    omega
  · have h8 : Below w0.heap.size w0 W2 := hI.below.grown hG (by have := h.below.size; omega) fun k e => by
      have := (hc k e).1
      have := h.b0
      omega
    exact h8.setCell (p := ⟨bP, p * 5 + 4, none⟩) (by dsimp only; omega) _
  · refine ((KeepsQ.below hbA).trans (KeepsQ.grown hG fun k e => ?_)).trans (KeepsQ.setCell (p := ⟨bP, p * 5 + 4, none⟩) hpr ?_ _)
    · obtain ⟨h1, c, h2⟩ := hc k e
      refine ⟨c, _, _, h2, ?_⟩
      rintro (h3 | ⟨h3, _⟩)
      · exact absurd h3 (by decide)
      · have := h.b0; omega
    · rintro (h3 | ⟨_, h3 | h3⟩) <;> exact absurd h3 (by decide)
  · rw [← hA] at hG hc
    refine (((KeepsOthers.drew W).trans (KeepsOthers.alloc _ _)).trans (KeepsOthers.of_grownBy hG fun j o ej hj => ?_)).trans (KeepsOthers.setCell _ _ _)
    obtain ⟨_, c, h2⟩ := hc j ej
    rw [h2] at hj
    cases hj
    rfl
/-- the reading of a text, at its end: the parts, the tail -/
def RdX (TD TP : TypeId) (w0 : World) (g10 : Nat) (l : List StmD) (sp : List StmP) (items : List (List UInt8)) (W : World) : Prop :=
  ∃ (ps : List PartP) (A : Option Addr) (c : Nat), Row W g10 TD #[.slice A l.length c, .string ⟨(items.getLastD []).toArray⟩] ∧ W.ownsRow (g10 + 1) TP 5 (.slice A l.length c) l.length (ps.flatMap partCells) ∧ ps.map partD = partsF l items ∧
    ps.map (fun x => (x.1, x.2.1, x.2.2.1)) = sp ∧ (∀ x ∈ ps, ∃ b, W.ownsRow b 9 1 x.2.2.2.1 x.2.2.2.2.length (strC x.2.2.2.2)) ∧ Below w0.heap.size w0 W
theorem RdX.turn {TD TP : TypeId} {B : Nat} {items : List (List UInt8)} (h : RdX TD TP w0 g10 l sp items W) (ht : Turn (okCall fun _ => False) B W W') (hB0 : w0.heap.size ≤ B) : RdX TD TP w0 g10 l sp items W' := by
  obtain ⟨ps, A, c, h1, h2, h3, h4, h5, h6⟩ := h
  exact ⟨ps, A, c, h1.turn ht (.inr not_okCall_none), own_turn h2 ht fun _ => not_okCall_none, h3, h4, fun x hx => let ⟨b, h⟩ := h5 x hx; ⟨b, own_turn h ht fun _ => not_okCall_none⟩, below_turn h6 ht (Nat.le_refl _) hB0⟩
theorem RdX.parts {TD TP : TypeId} {items : List (List UInt8)} (h : RdX TD TP w0 g10 l sp items W) (hs : ∀ p ∈ sp, Strs w0 p.2.1 p.1.text ∧ Strs w0 p.2.2 p.1.proof) : ∃ (A : Option Addr) (c : Nat), Row W g10 TD #[.slice A l.length c, .string ⟨(items.getLastD []).toArray⟩] ∧ Parts W (.slice A l.length c) (partsF l items) ∧ Below w0.heap.size w0 W := by
  obtain ⟨ps, A, c, h1, h2, h3, h4, h5, h6⟩ := h
  refine ⟨A, c, h1, ⟨ps, h3.symm, ?_, fun x hx => ?_⟩, h6⟩
  · have hl : ps.length = l.length := by
      have := h2.1
      rw [partCells_len] at this
      omega
    rw [hl]
    exact Rds.of_own h2
  · obtain ⟨b, hb⟩ := h5 x hx
    obtain ⟨h7, h8⟩ := hs _ (h4 ▸ List.mem_map_of_mem hx)
    refine ⟨Strs.below h7 h6, Strs.below h8 h6, ?_⟩
    exact Rds.of_own hb
/-- the last gap is the tail -/
theorem RdI.stop {items : List (List UInt8)} {u : List UInt8} (h : RdI w0 g10 g13 l sp pre B1 W l.length base ps pv) (hp : pre ++ [u] <+: items) (hi : items.length = numW l + 1) (hsp : sp.map (·.1) = l) (h0 : w0.heap.size ≤ g10) : RdX 40 62 w0 g10 l sp items (W.setCell ⟨g10, 1, none⟩ (.string ⟨u.toArray⟩)) := by
  obtain ⟨h1, h2⟩ := h.dl.done hp hi
  obtain ⟨A, c, rfl, _⟩ := own_form h.own
  have hl : ps.map (·.1) = l := by rw [← hsp, ← h.sp, List.map_map]; rfl
  refine ⟨ps, A, c, ?_, own_store h.own h.rd (by decide) _ _, ?_, h.sp, fun x hx => ?_, h.below.setCell (p := ⟨g10, 1, none⟩) h0 _⟩
  · rw [h2]
    exact h.rd.set 1 _
  · rw [h1, ← hl, List.zip_map', List.map_inj_left]
    intro x _
    rfl
  · obtain ⟨j, hj⟩ := List.getElem?_of_mem hx
    have hjl : j < l.length := by
      have := (List.getElem?_eq_some_iff.1 hj).1
      rw [← hl, List.length_map]
      exact this
    obtain ⟨⟨b, hb⟩, _⟩ := (h.gp j x hj).1 hjl
    exact ⟨b, own_store hb h.rd (by decide) _ _⟩
theorem below_others {W W' : World} (h : Below W.heap.size W W') : KeepsOthers W W' := KeepsOthers.of_grownBy (grown_of_below h) fun _ _ e => nomatch e
theorem own_some {W : World} {b size m c : Nat} {E : TypeId} {A : Option Addr} {xs : List Value} (h : W.ownsRow b E size (.slice A m c) m xs) (hm : 0 < m) : ∃ g, A = some ⟨g, 0, none⟩ ∧ m ≤ c ∧ m ≤ maxLen := by
  rcases h.2 with ⟨_, h0⟩ | ⟨g, cap, cur, he, _, _, h1, h2, _⟩
  · omega
  · cases he
    exact ⟨g, rfl, h1, by omega⟩
theorem RdI.start {A : Option Addr} {c : Nat} (hsp : sp.map (·.1) = l) (hR : Row W g10 40 #[.slice A l.length c, .string ⟨#[]⟩]) (hP : Row W g13 3 #[.int .i64 0])
    (ho : W.ownsRow (g10 + 1) 62 5 (.slice A l.length c) l.length (sp.flatMap fun p => partCells (p.1, p.2.1, p.2.2, .slice none 0 0, []))) (hb : Below w0.heap.size w0 W) :
    RdI w0 g10 g13 l sp [] W.heap.size W 0 W.heap.size (sp.map fun p => (p.1, p.2.1, p.2.2, .slice none 0 0, [])) (.slice A l.length c) := by
  refine ⟨hR, hP, ?_, ?_, ?_, fun j x hx => ?_, Nat.le_refl _, Nat.le_refl _, hb⟩
  · rw [List.flatMap_map]; exact ho
  · rw [List.map_map]
    exact List.map_id' _
  · rw [List.map_map]
    have : (sp.map ((fun x : PartP => x.2.2.2.2) ∘ fun p : StmP => ((p.1, p.2.1, p.2.2, Value.slice none 0 0, []) : PartP))) = List.replicate l.length [] := by
      rw [← hsp, List.length_map]
      exact List.eq_replicate_iff.2 ⟨by simp, fun b hb => by simp at hb; exact hb.2.symm ▸ rfl⟩
    rw [this]
    exact Dealt.start l
  · rw [List.getElem?_map] at hx
    obtain ⟨q, _, rfl⟩ := Option.map_eq_some_iff.1 hx
    exact ⟨fun h => by omega, fun _ => own_nil _ _ _ _, fun _ => rfl⟩
theorem RdI.plen (h : RdI w0 g10 g13 l sp pre B1 W p base ps pv) : ps.length = l.length := by
  have := h.own.1
  rw [partCells_len] at this
  omega
theorem RdI.gapsCell {bP cP : Nat} (h : RdI w0 g10 g13 l sp pre B1 W p base ps (.slice (some ⟨bP, 0, none⟩) l.length cP)) {k : Nat} {x : PartP} (hx : ps[k]? = some x) : W.cell? ⟨bP, k * 5 + 4, none⟩ = some x.2.2.2.1 := by
  have h1 := Rds.of_own h.own
  obtain ⟨A', c', hv, _, _, _, hr⟩ := h1
  have hlt := (List.getElem?_eq_some_iff.1 hx).1
  rw [h.plen] at hlt
  obtain ⟨b, o, ha, hz⟩ := hr (by omega)
  cases hv
  cases ha
  have hf := flatR 5 partCells (fun _ => rfl) ps k 4 x hx (by omega)
  have := hz (k * 5 + 4) _ hf
  simpa using this
theorem RdI.partRow {bP cP : Nat} (h : RdI w0 g10 g13 l sp pre B1 W p base ps (.slice (some ⟨bP, 0, none⟩) l.length cP)) : g10 < bP ∧ ∃ cs, Row W bP 62 cs := by
  obtain ⟨h1, c, h2⟩ := own_cells h.own bP rfl
  exact ⟨h1, c, h2⟩
theorem Rds.cells {size m : Nat} {v : Value} {xs : List Value} (h : Rds W size v m xs) (hk : ∀ a u, W.cell? a = some u → W'.cell? a = some u) : Rds W' size v m xs := by
  obtain ⟨A, c, hv, hc, hm, hl, hr⟩ := h
  refine ⟨A, c, hv, hc, hm, hl, fun h0 => ?_⟩
  obtain ⟨b, o, ha, hz⟩ := hr h0
  exact ⟨b, o, ha, fun j u hu => hk _ _ (hz j u hu)⟩
theorem Parts.cells {v : Value} {d : List PartD} (h : Parts W v d) (hk : ∀ a u, W.cell? a = some u → W'.cell? a = some u) : Parts W' v d := by
  obtain ⟨ps, e, hr, hx⟩ := h
  exact ⟨ps, e, hr.cells hk, fun p hp => ⟨Rds.cells (hx p hp).t hk, Rds.cells (hx p hp).p hk, Rds.cells (hx p hp).g hk⟩⟩
theorem cells_put {D : Nat} {r : Option (List Deferred)} (o : Obj) (hD : W.heap[D]? = some (.deferred r)) : ∀ a u, W.cell? a = some u → (W.putObj D o).cell? a = some u := fun a u h => by
  have hne : a.block ≠ D := by
    intro e
    unfold World.cell? at h
    rw [e, hD] at h
    cases h
  exact (World.cell?_of_block (w := W) (World.putObj_heap_other hne)).trans h
theorem RdX.parts_below {TD TP : TypeId} {items : List (List UInt8)} (h : RdX TD TP w0 g10 l sp items W) : Below w0.heap.size w0 W := by
  obtain ⟨_, _, _, _, _, _, _, _, h6⟩ := h
  exact h6
theorem numW_ge : ∀ l : List StmD, l.length ≤ numW l
  | [] => Nat.zero_le _
  | x :: l => by
    have := numW_ge l
    have := words_pos x
    rw [numW_cons, List.length_cons]
    omega
theorem PartsT.put {TP : TypeId} {v : Value} {d : List PartD} {D : Nat} {r : Option (List Deferred)} (h : PartsT W TP v d) (o : Obj) (hD : W.heap[D]? = some (.deferred r)) : PartsT (W.putObj D o) TP v d := by
  have hty : ∀ {E : TypeId} {u : Value}, TyB W E u → TyB (W.putObj D o) E u := fun ht g e => by
    obtain ⟨c, fr, hg⟩ := ht g e
    exact ⟨c, fr, (World.putObj_heap_other (fun e2 => by subst e2; rw [hD] at hg; cases hg)).trans hg⟩
  obtain ⟨ps, e, hr, ht, hx⟩ := h
  have hk := cells_put o hD
  exact ⟨ps, e, hr.cells hk, hty ht, fun p hp => ⟨⟨Rds.cells (hx p hp).1.t hk, Rds.cells (hx p hp).1.p hk, Rds.cells (hx p hp).1.g hk⟩, hty (hx p hp).2.1, (hx p hp).2.2⟩⟩
/-- a document in memory, behind the two stores into a result's box -/
theorem PartsT.box {TD TP : TypeId} {v : Value} {d : List PartD} (h : PartsT W TP v d) (hT1 : TD ≠ 9) (hT2 : TD ≠ TP) {g2 : Nat} {u0 u1 : Value} (hr : Row W g2 TD #[.slice none 0 0, .string ⟨#[]⟩]) (hu0 : ∀ s, u0 ≠ .string s) :
    Parts ((W.setCell ⟨g2, 0, none⟩ u0).setCell ⟨g2, 1, none⟩ u1) v d := by
  obtain ⟨ps, e, hp, ht, hx⟩ := h
  have hr2 : Row (W.setCell ⟨g2, 0, none⟩ u0) g2 TD #[u0, .string ⟨#[]⟩] := hr.set 0 u0
  have hne : ∀ (xs : List (List UInt8)), (∀ s ∈ xs, s ≠ []) → ∀ v, Strs W v xs → Strs ((W.setCell ⟨g2, 0, none⟩ u0).setCell ⟨g2, 1, none⟩ u1) v xs := fun xs hx v hv => by
    refine Rds.set (Rds.set hv hr (fun u hu => ?_) u0) hr2 (fun u hu => ?_) u1
    · obtain ⟨s, hs, rfl⟩ := List.mem_map.1 hu
      intro hm
      have h0 := hx s hs
      simp at hm
      exact h0 hm
    · obtain ⟨s, hs, rfl⟩ := List.mem_map.1 hu
      intro hm
      have h0 := hx s hs
      simp at hm
      rcases hm with hm | hm
      · exact hu0 _ hm.symm
      · exact h0 hm
  refine ⟨ps, e, Rds.store (Rds.store hp ht hr hT2 _) (ht.store hr hT2 _) hr2 hT2 _, fun p hp => ?_⟩
  obtain ⟨ha, hg, n1, n2⟩ := hx p hp
  exact ⟨hne _ n1 _ ha.t, hne _ n2 _ ha.p, Rds.store (Rds.store ha.g hg hr hT1 _) (hg.store hr hT1 _) hr2 hT1 _⟩
/-- the two stores of a document into the result's box -/
theorem RdX.store {TD TP : TypeId} (hT1 : TD ≠ 9) (hT2 : TD ≠ TP) {items : List (List UInt8)} {g2 : Nat} {u0 u1 : Value} (h : RdX TD TP w0 g10 l sp items W) (hs : ∀ p ∈ sp, Strs w0 p.2.1 p.1.text ∧ Strs w0 p.2.2 p.1.proof) (hsp : sp.map (·.1) = l) (hf : ∀ x ∈ l, formedS x = true)
    (hr : Row W g2 TD #[.slice none 0 0, .string ⟨#[]⟩]) (hu0 : ∀ s, u0 ≠ .string s) :
    ∃ (A : Option Addr) (c : Nat), Row W g10 TD #[.slice A l.length c, .string ⟨(items.getLastD []).toArray⟩] ∧ PartsT ((W.setCell ⟨g2, 0, none⟩ u0).setCell ⟨g2, 1, none⟩ u1) TP (.slice A l.length c) (partsF l items) ∧ Below w0.heap.size w0 W := by
  obtain ⟨ps, A, c, h1, h2, h3, h4, h5, h6⟩ := h
  have hr2 : Row (W.setCell ⟨g2, 0, none⟩ u0) g2 TD #[u0, .string ⟨#[]⟩] := hr.set 0 u0
  have hne : ∀ (xs : List (List UInt8)), (∀ s ∈ xs, s ≠ []) → ∀ v, Strs W v xs → Strs ((W.setCell ⟨g2, 0, none⟩ u0).setCell ⟨g2, 1, none⟩ u1) v xs := fun xs hx v hv => by
    refine Rds.set (Rds.set hv hr (fun u hu => ?_) u0) hr2 (fun u hu => ?_) u1
    · obtain ⟨s, hs, rfl⟩ := List.mem_map.1 hu
      intro hm
      have h0 := hx s hs
      simp at hm
      exact h0 hm
    · obtain ⟨s, hs, rfl⟩ := List.mem_map.1 hu
      intro hm
      have h0 := hx s hs
      simp at hm
      rcases hm with hm | hm
      · exact hu0 _ hm.symm
      · exact h0 hm
  refine ⟨A, c, h1, ⟨ps, h3.symm, ?_, TyB.of_own (own_store (own_store h2 hr hT2 _ _) hr2 hT2 _ _), fun x hx => ?_⟩, h6⟩
  · have hl : ps.length = l.length := by
      have := h2.1
      rw [partCells_len] at this
      omega
    rw [hl]
    exact Rds.of_own (own_store (own_store h2 hr hT2 _ _) hr2 hT2 _ _)
  · obtain ⟨b, hb⟩ := h5 x hx
    have hmem : (x.1, x.2.1, x.2.2.1) ∈ sp := h4 ▸ List.mem_map_of_mem hx
    obtain ⟨h7, h8⟩ := hs _ hmem
    have hfx := hf x.1 (hsp ▸ List.mem_map_of_mem hmem)
    unfold formedS at hfx
    simp only [Bool.and_eq_true] at hfx
    have n1 : ∀ s ∈ x.1.text, s ≠ [] := fun s hs => by
      have := List.all_eq_true.1 hfx.1.1.2 s hs
      exact (of_decide_eq_true this).1
    have n2 : ∀ s ∈ x.1.proof, s ≠ [] := fun s hs => by
      have := List.all_eq_true.1 hfx.1.2 s hs
      rintro rfl
      exact absurd this (by decide)
    refine ⟨⟨hne _ n1 _ (Strs.below h7 h6), hne _ n2 _ (Strs.below h8 h6), ?_⟩, TyB.of_own (own_store (own_store hb hr hT1 _ _) hr2 hT1 _ _), n1, n2⟩
    · exact Rds.of_own (own_store (own_store hb hr hT1 _ _) hr2 hT1 _ _)
end
end Go.Proofs.YtpmbfcogkoiogaaDoor
end
