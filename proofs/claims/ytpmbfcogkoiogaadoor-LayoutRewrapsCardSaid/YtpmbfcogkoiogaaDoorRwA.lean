/- The iterator over the comments of a gap yields just the comments. Rewrap: what its loops keep. Rewrap: what the words of a statement keep. Rewrap: what its statements keep. -/
import Derived.Test.YtpmbfcogkoiogaaDoorLinesA
import Derived.Test.YtpmbfcogkoiogaaDoorRewA
import Derived.Test.YtpmbfcogkoiogaaDoorLayLA
import Derived.Test.YtpmbfcogkoiogaaDoorRightA
import Derived.Test.YtpmbfcogkoiogaaDoorScanWA
import Derived.Test.YtpmbfcogkoiogaaDoorPrintSz
import Derived.Test.YtpmbfcogkoiogaaDoorRewSDA
section
namespace Go.Proofs.YtpmbfcogkoiogaaDoor
open Go.RowKit Go.Shelf
attribute [local go_sem] Oper.semAt_some
/-- what the iterator may do: make memory; append to a row that is its own -/
def TnX (Sf : World → Nat → Prop) (W W' : World) : Prop := Below W.heap.size W W' ∨ ∃ g c fr, Sf W g ∧ W.heap[g]? = some (.cells c 9 fr) ∧ W.grownBy W' (some g)
/-- what the iterator asks of a round: its own rows of strings stay -/
structure HandsX (Kp : World → World → Prop) (G : World → Prop) (Sf : World → Nat → Prop) : Prop where
  new : ∀ W W' g, G W → TnX Sf W W' → W.heap.size ≤ g → (∃ c fr, W'.heap[g]? = some (.cells c 9 fr)) → Sf W' g
  kept : ∀ W W' g c fr, Kp W W' → Sf W g → W.heap[g]? = some (.cells c 9 fr) → Sf W' g ∧ W'.heap[g]? = some (.cells c 9 fr)
  grow : ∀ W W' g, Sf W g → TnX Sf W W' → Sf W' g
  size : ∀ W W', Kp W W' → W.heap.size ≤ W'.heap.size
theorem below_none {W W' : World} (h : W.grownBy W' none) : Below W.heap.size W W' := ⟨h.os, h.tape, h.output, h.size, fun k hk => h.block k hk (by simp)⟩
/-- a row of strings of the iterator's own -/
structure OwnX (Sf : World → Nat → Prop) (base : Nat) (v : Value) (l : List (List UInt8)) (W : World) : Prop where
  own : W.ownsRow base 9 1 v l.length (strC l)
  sf : ∀ g, v.ownBlock = some g → Sf W g
section
variable {Kp : World → World → Prop} {G : World → Prop} {Sf : World → Nat → Prop} {W W' : World} {base : Nat} {v : Value} {l : List (List UInt8)}
theorem ownS_cells (h : W.ownsRow base 9 1 v l.length (strC l)) {g : Nat} (e : v.ownBlock = some g) : ∃ c, W.heap[g]? = some (.cells c 9 (0, 0)) := by
  rcases h.2 with ⟨rfl, _⟩ | ⟨k, cap, cur, rfl, _, hh, _⟩
  · cases e
  · obtain rfl : k = g := by simpa [Value.ownBlock] using e
    exact ⟨_, hh⟩
theorem OwnX.nil : OwnX Sf base (.slice none 0 0) [] W := ⟨own_nil _ _ _ _, fun g e => (by cases e)⟩
theorem OwnX.below (h : OwnX Sf base v l W) (H : HandsX Kp G Sf) (hb : Below W.heap.size W W') : OwnX Sf base v l W' :=
  ⟨own_below h.own hb, fun g e => H.grow _ _ g (h.sf g e) (.inl hb)⟩
theorem OwnX.round (h : OwnX Sf base v l W) (H : HandsX Kp G Sf) (hk : Kp W W') : OwnX Sf base v l W' := by
  refine ⟨⟨h.own.1, ?_⟩, fun g e => ?_⟩
  · rcases h.own.2 with hn | ⟨g, cap, cur, rfl, hg, hh, r⟩
    · exact .inl hn
    · exact .inr ⟨g, cap, cur, rfl, hg, (H.kept _ _ g _ _ hk (h.sf g rfl) hh).2, r⟩
  · obtain ⟨c, hc⟩ := ownS_cells h.own e
    exact (H.kept _ _ g _ _ hk (h.sf g e) hc).1
/-- another row of the iterator's own has grown -/
theorem OwnX.other (h : OwnX Sf base v l W) (H : HandsX Kp G Sf) (ht : TnX Sf W W') {row : Option Nat} (hg : W.grownBy W' row) (hne : ∀ g, v.ownBlock = some g → some g ≠ row) : OwnX Sf base v l W' :=
  ⟨own_keep h.own fun k e => hg.block k (h.own.lt k e).2 (hne k e), fun g e => H.grow _ _ g (h.sf g e) ht⟩
/-- growing a row of the iterator's own is what it may do -/
theorem OwnX.may (h : OwnX Sf base v l W) (hg : W.grownBy W' v.ownBlock) : TnX Sf W W' := by
  cases e : v.ownBlock with
  | none => rw [e] at hg; exact .inl (below_none hg)
  | some g =>
    obtain ⟨c, hc⟩ := ownS_cells h.own e
    rw [e] at hg
    exact .inr ⟨g, c, _, h.sf g e, hc, hg⟩
end
/-- a comment as the argument of yield -/
def ComR (Sf : World → Nat → Prop) (x : List (List UInt8)) (av : Array Value) (W : World) : Prop := ∃ v base, av = #[v] ∧ OwnX Sf base v x W
theorem fields_own (w : World) (s : List UInt8) (hasc : ∀ b ∈ s, b.toNat < 128) (hs : s.length ≤ 4294967296) :
    Calls Tryd.prog 57 #[.string ⟨s.toArray⟩, .func (.func 63) #[] #[]] w fun e w' => ∃ v, e = .returned v ∧ w'.ownsRow w.heap.size 9 1 v (tkS s).length (strC (tkS s)) ∧ Below w.heap.size w w' := by
  refine (Tryd.strings_FieldsFunc_grows 63 #[] (enters_of Tryd.func63 (by kernel_rfl) rfl) wh ⟨s.toArray⟩ w (by simpa [ByteArray.size] using hs) (fun W x hx hb => white_any W x)).mono ?_
  rintro e w' ⟨A, rfl, _, ho, hb⟩
  refine ⟨_, rfl, ?_, hb⟩
  rw [show Lib.goFieldsP wh ⟨s.toArray⟩ = (toks 0 s).map fun t => ⟨t.1.toArray⟩ from fields_toks s hasc] at ho ⊢
  unfold tkS strC
  simpa [Function.comp_def] using ho
theorem comT_len : ∀ (T cur : List (List UInt8)), (comT cur T).length ≤ T.length
  | [], cur => by simp [comT]
  | t :: T, cur => by
    rw [comT]
    split
    · have := comT_len T []
      simp
      omega
    · have := comT_len T (cur ++ [t])
      simp
      omega
theorem com_step {Kp : World → World → Prop} {G : World → Prop} {Sf : World → Nat → Prop} (H : HandsX Kp G Sf) {J : List (List (List UInt8)) → World → Prop} (hJ : ∀ s A A', J s A → TnX Sf A A' → J s A') (hG : ∀ pre W1, J pre W1 → G W1) {wr w1 : World} {tmp : Obj} {pre : List (List (List UInt8))} {v v' tv : Value} {cur T : List (List UInt8)} {t : List UInt8} {B base m : Nat}
    (hj : J pre wr) (hc : OwnX Sf B v cur wr) (hr : OwnX Sf base tv T wr) (hbl : ∀ g, tv.ownBlock = some g → g < B) (hbs : B ≤ wr.heap.size)
    (hown' : w1.ownsRow B 9 1 v' (cur.length + m) (strC cur ++ [.string ⟨t.toArray⟩])) (hgrow : (wr.alloc tmp).grownBy w1 v.ownBlock) (hnew : ∀ g, v'.ownBlock = some g → v.ownBlock = some g ∨ (wr.alloc tmp).heap.size ≤ g) :
    J pre w1 ∧ OwnX Sf B v' (cur ++ [t]) w1 ∧ OwnX Sf base tv T w1 ∧ B ≤ w1.heap.size := by
  have hb := new_ (Below.refl _ wr) tmp
  have hjt := hJ _ _ _ hj (.inl hb)
  have hct := hc.below H hb
  have hrt := hr.below H hb
  have hm := hct.may hgrow
  obtain rfl : m = 1 := by have := hown'.1; simp [strC] at this; omega
  have hsz := hgrow.size
  refine ⟨hJ _ _ _ hjt hm, ⟨by simpa [strC] using hown', fun g e => ?_⟩, hrt.other H hm hgrow (fun g e e2 => ?_), by simp at hsz; omega⟩
  · rcases hnew g e with h | h
    · exact H.grow _ _ g (hct.sf g h) hm
    · have hcell : ∃ c, w1.heap[g]? = some (.cells c 9 (0, 0)) := ownS_cells (l := cur ++ [t]) (by simpa [strC] using hown') e
      obtain ⟨c, hc⟩ := hcell
      exact H.new _ _ g (hG _ _ hjt) hm h ⟨c, _, hc⟩
  · have h2 := (hct.own.lt g e2.symm).1
    have h3 := hbl g e
    omega
set_option maxRecDepth 100000 in
set_option maxHeartbeats 4000000 in
theorem comments_seq (n : Nat) (h1 : 1 ≤ n) (s : List UInt8) (hasc : ∀ b ∈ s, b.toNat < 128) (hs : s.length ≤ 1000000) {Kp : World → World → Prop} {G : World → Prop} {Sf : World → Nat → Prop} (H : HandsX Kp G Sf) (w : World) (SB : Nat) (hrow : Row w SB 9 #[.string ⟨s.toArray⟩]) :
    SeqX n Tryd.prog 109 #[.pointer (some ⟨SB, 0, none⟩)] (ComR Sf) Kp G (TnX Sf) (comS s) w := by
  intro yl J Jx W hW hJ hJx hG hY hJ0
  have hr0 := hrow.below hW hrow.lt
  have HASC := Lib.hid hasc
  clear hrow hasc
  show CallsIn Fence.wide n Tryd.prog 109 #[.func (.yield yl) #[] #[], .pointer (some ⟨SB, 0, none⟩)] W _
  refine callsIn_of_wp Tryd.func109 rfl trivial ?_ rfl
  simp only [Tryd.ntmps109, List.size_toArray, List.length_cons, List.length_nil, Nat.reduceAdd, Nat.reduceSub, Array.replicate_succ, Array.replicate_zero, List.push_toArray, List.append_toArray, List.nil_append, List.cons_append]
  have hc0 := hr0.cell (i := 0) rfl
  obtain ⟨T, hT⟩ : ∃ T, tkS s = T := ⟨_, rfl⟩
  have hTl : T.length ≤ 1000000 := by
    rw [← hT]
    unfold tkS
    rw [List.length_map]
    exact Nat.le_trans (toks_len s.length s 0 (Nat.le_refl _)) hs
  have HT := Lib.hid hT
  have HI0 : Hid (comS s = comT [] T) := Lib.hid (by unfold comS; rw [hT])
  clear hr0 hT
  obtain ⟨i0, hi, hz0, hz1, hz2⟩ := info_parts (show (Tryd.prog.info? 9).map (fun i => (i.zero, i.size, i.bytes)) = some (some (.string ⟨#[]⟩), 1, 16) by kernel_rfl)
  gi_wp2_with (refine ⟨trivial, ?_⟩; gi_at_call 57; refine (callsIn_wide.2 (fields_own _ s HASC.out (by omega))).mono ?_; rw [HT.out]; rintro e w2 ⟨v2, rfl, ho2, hb2⟩; obtain ⟨A2, c2, rfl, hc2⟩ := own_form ho2)
  have hx2 : OwnX Sf W.heap.size (.slice A2 T.length c2) T w2 := ⟨ho2, fun g e => by
    obtain ⟨c, hc⟩ := ownS_cells ho2 e
    exact H.new W w2 g (hG _ _ hJ0) (.inl hb2) (ho2.lt g e).1 ⟨c, _, hc⟩⟩
  have hj2 : J [] w2 := hJ _ _ _ hJ0 (.inl hb2)
  have hbl : ∀ g, (Value.slice A2 T.length c2).ownBlock = some g → g < w2.heap.size := fun g e => (ho2.lt g e).2
  have HX2 := Lib.hid hx2
  have HJ2 := Lib.hid hj2
  have HBL := Lib.hid hbl
  obtain ⟨B, hB⟩ : ∃ B, w2.heap.size = B := ⟨_, rfl⟩
  rw [hB] at HBL
  have HB2 := Lib.hid hB
  clear ho2 hb2 hx2 hj2 hJ0 hbl hB
  gi_wp2
  clear hc0
  gi_loopw [3, 9] (fun bv kv wr => ∃ (k : Nat) (cur : List (List UInt8)) (pre : List (List (List UInt8))), k ≤ T.length ∧ kv = .int .i64 k ∧ cur.length ≤ k ∧ comS s = pre ++ comT cur (T.drop k) ∧ J pre wr ∧ OwnX Sf B bv cur wr ∧ OwnX Sf W.heap.size (.slice A2 T.length c2) T wr ∧ B ≤ wr.heap.size) (fun _ k _ => T.length - (intOf k).toNat)
  case atStart => exact ⟨0, [], [], Nat.zero_le _, rfl, Nat.le_refl _, HI0.out, HJ2.out, OwnX.nil, HX2.out, by rw [HB2.out]; exact Nat.le_refl _⟩
  case round =>
    obtain ⟨k, cur, pre, hk, rfl, hcl, hit, hj, hcur, hrow, hbs⟩ := hrel
    have HI := Lib.hid hit
    have HJ := Lib.hid hj
    have HC := Lib.hid hcur
    have HR := Lib.hid hrow
    obtain ⟨A3, c3, rfl, hc3⟩ := own_form hcur.own
    clear hit hj hcur hrow
    by_cases hlt : k < T.length
    · obtain ⟨t, ht⟩ : ∃ t, T[k]? = some t := ⟨_, List.getElem?_eq_getElem hlt⟩
      have hd : T.drop k = t :: T.drop (k + 1) := by
        obtain ⟨hk2, e⟩ := List.getElem?_eq_some_iff.1 ht
        rw [List.drop_eq_getElem_cons hk2, e]
      obtain ⟨A', c', hv, _, _, hxx⟩ := Strs.open_ (show Strs wr (.slice A2 T.length c2) T from Rds.of_own HR.out.own)
      obtain ⟨b, o, hA, q0⟩ := hxx k t ht
      obtain ⟨rfl, rfl⟩ := (by simpa using hv : A2 = A' ∧ c2 = c')
      subst hA
      have HD := Lib.hid hd
      clear hv hxx ht hd
      have hbt := HBL.out
      by_cases htc : t = [36, 41]
      · have e1 : (t == [36, 41]) = true := by rw [htc]; rfl
        have hitem : comS s = pre ++ (cur ++ [t]) :: comT [] (T.drop (k + 1)) := by rw [HI.out, HD.out, comT, if_pos htc]
        have HIT := Lib.hid hitem
        clear hitem htc hbt
        gi_wp2_with (gi_at_builtin; (refine wpListIn_append_new _ rfl _ _ 22 rfl B 9 i0 (.string ⟨#[]⟩) 1 16 Tryd.underlying22 hi hz0 hz1 hz2 rfl (by decide) _ _ _ rfl (HC.out.own.alloc _) ⟨wr.heap.size, 0, none⟩ 1 1 [.string ⟨t.toArray⟩] rfl rfl (cell_one_new _ _ _) (by simp [Value.oneCell']) (by unfold maxLen; omega) (by omega) (by simp; omega) ?_; intro v' w1 hown' hgrow hnew; obtain ⟨J1, X1, T1, B1⟩ := com_step H hJ hG HJ.out HC.out HR.out HBL.out hbs hown' hgrow hnew; have HX1 := Lib.hid X1; have HT1 := Lib.hid T1; obtain ⟨fn, tmps, assign, body, hy, hRR⟩ := hY pre (cur ++ [t]) #[v'] w1 J1 ⟨v', B, rfl, X1⟩ ⟨comT [] (T.drop (k + 1)), by rw [HIT.out]; simp⟩))
        refine hRR.mono ?_
        rintro e W' (⟨rfl, hJ', hk'⟩ | ⟨rfl, hJx'⟩)
        · have HT2 := Lib.hid (HT1.out.round H hk')
          have hs2 := H.size _ _ hk'
          have HJ2' := Lib.hid hJ'
          clear hy hRR hk' hJ'
          gi_wp2
          go_roundw
          case rel => exact ⟨k + 1, [], pre ++ [cur ++ [t]], by omega, by go_num, by simp, by rw [HIT.out]; simp, HJ2'.out, OwnX.nil, HT2.out, by omega⟩
          case measure => simp [intOf]; omega
        · clear hy hRR
          gi_wp2
          refine bodyPost_ret (results_none rfl _ _ _) rfl ?_
          exact ⟨⟨_, rfl⟩, .inr ⟨_, hJx'⟩⟩
      · have e1 : (t == [36, 41]) = false := by simpa using htc
        have hitem : comS s = pre ++ comT (cur ++ [t]) (T.drop (k + 1)) := by rw [HI.out, HD.out, comT, if_neg htc]
        have HIT := Lib.hid hitem
        clear hitem htc hbt
        gi_wp2_with (gi_at_builtin; (refine wpListIn_append_new _ rfl _ _ 22 rfl B 9 i0 (.string ⟨#[]⟩) 1 16 Tryd.underlying22 hi hz0 hz1 hz2 rfl (by decide) _ _ _ rfl (HC.out.own.alloc _) ⟨wr.heap.size, 0, none⟩ 1 1 [.string ⟨t.toArray⟩] rfl rfl (cell_one_new _ _ _) (by simp [Value.oneCell']) (by unfold maxLen; omega) (by omega) (by simp; omega) ?_; intro v' w1 hown' hgrow hnew; obtain ⟨J1, X1, T1, B1⟩ := com_step H hJ hG HJ.out HC.out HR.out HBL.out hbs hown' hgrow hnew; have HX1 := Lib.hid X1; have HT1 := Lib.hid T1; have HJ1 := Lib.hid J1; clear hown' hgrow hnew J1 X1 T1))
        go_roundw
        case rel => exact ⟨k + 1, cur ++ [t], pre, by omega, by go_num, by simp; omega, HIT.out, HJ1.out, HX1.out, HT1.out, B1⟩
        case measure => simp [intOf]; omega
    · obtain rfl : k = T.length := by omega
      have hit := HI.out
      rw [List.drop_length, comT, List.append_nil] at hit
      have HIT := Lib.hid hit
      clear hit
      gi_wp2
      go_end0
      exact ⟨⟨_, rfl⟩, .inl (by rw [HIT.out]; exact HJ.out)⟩
end Go.Proofs.YtpmbfcogkoiogaaDoor
end
section
namespace Go.Proofs.YtpmbfcogkoiogaaDoor
open Go.RowKit Go.Shelf
/-- the mark of a finished range over a function -/
def markD (D : Nat) : Deferred := { target := .collected D, args := #[] }
/-- the marks in a frame: empty lists, each its own -/
def Marks (B : Nat) (W : World) (ds : List Deferred) : Prop := ds.Pairwise (· ≠ ·) ∧ ∀ d ∈ ds, ∃ D, d = markD D ∧ B ≤ D ∧ W.heap[D]? = some (.deferred (some []))
section
variable {B : Nat} {W W' W0 : World} {ds : List Deferred} {g D : Nat}
theorem Marks.nil : Marks B W [] := ⟨.nil, fun _ h => nomatch h⟩
theorem Marks.others (h : Marks B W ds) (hk : KeepsOthers W W') : Marks B W' ds := ⟨h.1, fun d hd => by
  obtain ⟨D, e, hB, hD⟩ := h.2 d hd
  exact ⟨D, e, hB, hk.same _ _ hD rfl⟩⟩
theorem Marks.grown (h : Marks B W ds) (hg : W.grownBy W' (some g)) {o : Obj} (ho : W.heap[g]? = some o) (h1 : ∀ d, o ≠ .deferred d) : Marks B W' ds := ⟨h.1, fun d hd => by
  obtain ⟨D, e, hB, hD⟩ := h.2 d hd
  refine ⟨D, e, hB, (hg.block D (Array.getElem?_eq_some_iff.1 hD).1 fun e1 => ?_).trans hD⟩
  obtain rfl := Option.some.inj e1
  rw [hD] at ho
  exact h1 _ (Option.some.inj ho).symm⟩
theorem Marks.push (h0 : Marks B W0 ds) (h : Marks B W ds) (hD : W.heap[D]? = some (.deferred (some []))) (hB : B ≤ D) (hle : W0.heap.size ≤ D) : Marks B W (markD D :: ds) := by
  refine ⟨List.pairwise_cons.2 ⟨fun d hd e => ?_, h.1⟩, fun d hd => ?_⟩
  · obtain ⟨D', e', _, hD'⟩ := h0.2 d hd
    have := (Array.getElem?_eq_some_iff.1 hD').1
    rw [e'] at e
    unfold markD at e
    simp at e
    omega
  · rcases List.mem_cons.1 hd with rfl | hd
    · exact ⟨D, rfl, hB, hD⟩
    · exact h.2 d hd
theorem leaves_marks {F : Fence} {n : Nat} {P : Program} {fn : Func} {tmps : Array Value} {R : Ending → World → Prop} {u : FrameMode} (hu : u ≠ .run) : ∀ (ds : List Deferred) (W : World), Marks B W ds → (∀ W', Below B W W' → LeavesIn F n P fn tmps R [] u W') → LeavesInM F n P fn tmps R ds u W
  | [], W, _, h => h W (Below.refl _ _)
  | d :: ds, W, hm, h => by
    obtain ⟨D, rfl, hB, hD⟩ := hm.2 d (by simp)
    have hb : Below B W (W.putObj D (.deferred none)) := (Below.refl B W).grown (grownBy_putObj' W D _) (by have := (Array.getElem?_eq_some_iff.1 hD).1; omega) fun k e => by have := Option.some.inj e; omega
    refine ⟨hu, .inl ⟨D, _, rfl, run_takeDeferred hD, leaves_marks hu ds _ ⟨(List.pairwise_cons.1 hm.1).2, fun d' hd' => ?_⟩ fun W' hb' => h W' (hb.trans hb')⟩⟩
    obtain ⟨D', e', hB', hD'⟩ := hm.2 d' (by simp [hd'])
    refine ⟨D', e', hB', (World.putObj_heap_other fun e => ?_).trans hD'⟩
    have := (List.pairwise_cons.1 hm.1).1 d' hd'
    rw [e', e] at this
    exact this rfl
/-- another block has grown -/
theorem Prn.step {b : Nat} {l : List UInt8} {Wd Dp : Int} (h : Prn W b l Wd Dp) (hg : W.grownBy W' (some g)) {o : Obj} (ho : W.heap[g]? = some o) (h1 : ∀ c fr, o ≠ .cells c 99 fr) (h2 : ∀ c fr, o ≠ .cells c 5 fr) : Prn W' b l Wd Dp := by
  have hne : some b ≠ some g := fun e => by
    obtain rfl := Option.some.inj e
    obtain ⟨p, v, hb⟩ := h.blk
    rw [hb] at ho
    exact h1 _ _ (Option.some.inj ho).symm
  have one : ∀ p, PrnC W b p l Wd Dp → PrnC W' b p l Wd Dp := by
    rintro p ⟨v, hb, hown, hv⟩
    refine ⟨v, (hg.block b (Array.getElem?_eq_some_iff.1 hb).1 hne).trans hb, hown.kept hg ?_, hv⟩
    right
    intro e
    obtain ⟨c, fz, hc⟩ := Lib.ownsRowF_kind hown g e
    rw [ho] at hc
    exact h2 _ _ (Option.some.inj hc)
  exact h.imp (one _) (one _)
theorem PFr.others {b : Nat} {l : List UInt8} {Wd Dp : Int} (h : PFr W W' b []) (hp : Prn W b l Wd Dp) : KeepsOthers W W' :=
  ⟨h.below.size, fun k o ho hc => h.kept k o ho (fun e => by
    obtain ⟨p, v, hb⟩ := hp.blk
    rw [e, hb] at ho
    rw [← Option.some.inj ho] at hc
    cases hc) (by simp) (fun c fz e => by rw [e] at hc; cases hc)⟩
/-- the rows that the iterator may grow: not the block of words, nor what lay before -/
def SfR (B1 g14 : Nat) (W : World) (g : Nat) : Prop := B1 ≤ g ∧ g14 < W.heap.size ∧ ∀ v, Row W g14 22 #[v] → v.ownBlock ≠ some g
def GR (B1 g14 : Nat) (W : World) : Prop := B1 ≤ W.heap.size ∧ ∃ v, Row W g14 22 #[v] ∧ ∀ k, v.ownBlock = some k → k < W.heap.size
def KpR (g14 : Nat) (W W' : World) : Prop := W.heap.size ≤ W'.heap.size ∧ ∀ k c fr, W.heap[k]? = some (.cells c 9 fr) → (∀ v, Row W g14 22 #[v] → v.ownBlock ≠ some k) → W'.heap[k]? = some (.cells c 9 fr) ∧ ∀ v, Row W' g14 22 #[v] → v.ownBlock ≠ some k
theorem KpR.trans {A B C : World} {g14 : Nat} (h : KpR g14 A B) (k : KpR g14 B C) : KpR g14 A C := ⟨Nat.le_trans h.1 k.1, fun i c fr a b => by
  obtain ⟨a', b'⟩ := h.2 i c fr a b
  exact k.2 i c fr a' b'⟩
theorem tn_row {B1 g14 : Nat} (h14 : g14 < B1) (ht : TnX (SfR B1 g14) W W') (hl : g14 < W.heap.size) : W'.heap[g14]? = W.heap[g14]? := by
  rcases ht with hb | ⟨g, c, fr, hs, hh, hg⟩
  · exact hb.block _ hl
  · exact hg.block _ hl fun e => by have := Option.some.inj e; have := hs.1; omega
theorem TnX.size {Sf : World → Nat → Prop} (ht : TnX Sf W W') : W.heap.size ≤ W'.heap.size := by
  rcases ht with hb | ⟨g, c, fr, hs, hh, hg⟩
  · exact hb.size
  · exact hg.size
theorem handsR {B1 g14 : Nat} (h14 : g14 < B1) : HandsX (KpR g14) (GR B1 g14) (SfR B1 g14) where
  new W W' g hG ht hge _ := by
    obtain ⟨hB, v0, h0, hlt⟩ := hG
    have hl := h0.lt
    refine ⟨by omega, by have := ht.size; omega, fun v hv e => ?_⟩
    have h0' : Row W' g14 22 #[v0] := (tn_row h14 ht hl).trans h0
    have hvv : v = v0 := by
      have := (show W'.heap[g14]? = _ from hv).symm.trans (show W'.heap[g14]? = _ from h0')
      simp at this
      exact this
    rw [hvv] at e
    have := hlt g e
    omega
  kept W W' g c fr hk hs hh := by
    obtain ⟨a, b⟩ := hk.2 g c fr hh hs.2.2
    exact ⟨⟨hs.1, by have := hk.1; have := hs.2.1; omega, b⟩, a⟩
  grow W W' g hs ht := ⟨hs.1, by have := ht.size; have := hs.2.1; omega, fun v hv => hs.2.2 v ((tn_row h14 ht hs.2.1).symm.trans hv)⟩
  size _ _ hk := hk.1
theorem KpR.loop {g14 l : Nat} {r r' : Loop} (hl : W.heap[l]? = some (.loop r)) : KpR g14 W (W.putObj l (.loop r')) := by
  refine ⟨by simp, fun k c fr hk hv => ⟨(World.putObj_heap_other fun e => ?_).trans hk, fun v hr => ?_⟩⟩
  · rw [e, hl] at hk
    cases hk
  · by_cases e : g14 = l
    · subst e
      have hlt := (Array.getElem?_eq_some_iff.1 hl).1
      have h1 : (W.putObj g14 (.loop r')).heap[g14]? = _ := hr
      rw [World.putObj_heap_same hlt] at h1
      cases h1
    · exact hv v ((World.putObj_heap_other e).symm.trans hr)
/-- the same where no block of words is there -/
def KpT (W W' : World) : Prop := W.heap.size ≤ W'.heap.size ∧ ∀ (k : Nat) (c : Array Value) (fr : Nat × Nat), W.heap[k]? = some (.cells c 9 fr) → W'.heap[k]? = some (.cells c 9 fr)
theorem handsT (B1 : Nat) : HandsX KpT (fun W => B1 ≤ W.heap.size) (fun _ g => B1 ≤ g) where
  new W W' g hG ht hge _ := by have h1 : B1 ≤ W.heap.size := hG; show B1 ≤ g; omega
  kept W W' g c fr hk hs hh := ⟨hs, hk.2 _ _ _ hh⟩
  grow W W' g hs _ := hs
  size _ _ hk := hk.1
end
end Go.Proofs.YtpmbfcogkoiogaaDoor
end
section
namespace Go.Proofs.YtpmbfcogkoiogaaDoor
open Go.RowKit Go.Shelf
/-- behind some words of a statement: what is printed, the words that wait -/
structure InI (Wa : World) (pb g14 : Nat) (Wd Dp : Int) (O : List UInt8) (blk : List (List UInt8)) (ds : List Deferred) (W : World) : Prop where
  fr : PFr Wa W pb [g14]
  prn : Prn W pb O Wd Dp
  own : ∃ v, Row W g14 22 #[v] ∧ W.ownsRow Wa.heap.size 9 1 v blk.length (strC blk)
  marks : Marks pb W ds
section
variable {Wa W W' w1 : World} {pb g14 g : Nat} {Wd Dp : Int} {O : List UInt8} {blk : List (List UInt8)} {ds : List Deferred} {v v' : Value}
theorem own_string {base n : Nat} {xs : List Value} (h : W.ownsRow base 9 1 v n xs) {g : Nat} (e : v.ownBlock = some g) : ∃ c, W.heap[g]? = some (.cells c 9 (0, 0)) := by
  rcases h.2 with ⟨rfl, _⟩ | ⟨k, cap, cur, rfl, _, hh, _⟩
  · cases e
  · obtain rfl : k = g := by simpa [Value.ownBlock] using e
    exact ⟨_, hh⟩
theorem row_uniq (h1 : Row W g14 22 #[v]) (h2 : Row W g14 22 #[v']) : v = v' := by
  have := (show W.heap[g14]? = _ from h1).symm.trans (show W.heap[g14]? = _ from h2)
  simpa using this
theorem InI.below (h : InI Wa pb g14 Wd Dp O blk ds W) (hb : Below W.heap.size W W') : InI Wa pb g14 Wd Dp O blk ds W' := by
  obtain ⟨v, hr, ho⟩ := h.own
  exact ⟨h.fr.trans (PFr.new h.prn.lt hb), h.prn.below hb, ⟨v, hr.below hb hr.lt, own_below ho hb⟩, h.marks.others ⟨hb.size, fun k o hk _ => (hb.block k (Array.getElem?_eq_some_iff.1 hk).1).trans hk⟩⟩
/-- another block has grown: none of ours -/
theorem InI.step (h : InI Wa pb g14 Wd Dp O blk ds W) (hg : W.grownBy W' (some g)) {o : Obj} (ho : W.heap[g]? = some o) (hpb : pb ≤ g) (hle : Wa.heap.size ≤ g) (h1 : ∀ c fr, o ≠ .cells c 99 fr) (h2 : ∀ c fr, o ≠ .cells c 5 fr) (h3 : ∀ c fr, o ≠ .cells c 22 fr) (h4 : ∀ d, o ≠ .deferred d) (h5 : ∀ v, Row W g14 22 #[v] → v.ownBlock ≠ some g) : InI Wa pb g14 Wd Dp O blk ds W' := by
  obtain ⟨v, hr, hw⟩ := h.own
  refine ⟨⟨h.fr.below.grown hg (Nat.le_of_lt h.prn.lt) fun k e => by have := Option.some.inj e; omega, fun k o' a1 a2 a3 a4 => ?_⟩, h.prn.step hg ho h1 h2, ⟨v, hr.grown hg fun e => ?_, hw.kept hg (.inr (h5 v hr))⟩, h.marks.grown hg ho h4⟩
  · have hl := (Array.getElem?_eq_some_iff.1 a1).1
    have hk := h.fr.kept k o' a1 a2 a3 a4
    exact (hg.block k (Array.getElem?_eq_some_iff.1 hk).1 fun e => by have := Option.some.inj e; omega).trans hk
  · have e1 := Option.some.inj e
    rw [← e1, show W.heap[g14]? = _ from hr] at ho
    exact h3 _ _ (Option.some.inj ho).symm
theorem InI.turn {B1 : Nat} (h : InI Wa pb g14 Wd Dp O blk ds W) (ht : TnX (SfR B1 g14) W W') (hpb : pb ≤ B1) (hle : Wa.heap.size ≤ B1) : InI Wa pb g14 Wd Dp O blk ds W' := by
  rcases ht with hb | ⟨g, c, fr, hs, hh, hg⟩
  · exact h.below hb
  · exact h.step hg hh (by have := hs.1; omega) (by have := hs.1; omega) (fun _ _ e => by cases e) (fun _ _ e => by cases e) (fun _ _ e => by cases e) (fun _ e => by cases e) hs.2.2
theorem InI.loop (h : InI Wa pb g14 Wd Dp O blk ds W) {l : Nat} {r r' : Loop} (hl : W.heap[l]? = some (.loop r)) (hpb : pb ≤ l) (hle : Wa.heap.size ≤ l) : InI Wa pb g14 Wd Dp O blk ds (W.putObj l (.loop r')) :=
  h.step (grownBy_putObj' W l _) hl hpb hle (fun _ _ e => by cases e) (fun _ _ e => by cases e) (fun _ _ e => by cases e) (fun _ e => by cases e) fun v hr e => by
    obtain ⟨v0, hr0, hw⟩ := h.own
    rw [row_uniq hr hr0] at e
    obtain ⟨c, hc⟩ := own_string hw e
    rw [hl] at hc
    cases hc
theorem InI.ga {B1 : Nat} (h : InI Wa pb g14 Wd Dp O blk ds W) (hB : B1 ≤ W.heap.size) : GR B1 g14 W := by
  obtain ⟨v, hr, hw⟩ := h.own
  exact ⟨hB, v, hr, fun k e => (hw.lt k e).2⟩
theorem InI.mark (h : InI Wa pb g14 Wd Dp O blk ds W) {W0 : World} {D : Nat} (h0 : Marks pb W0 ds) (hD : W.heap[D]? = some (.deferred (some []))) (hle : W0.heap.size ≤ D) (hpb : pb ≤ D) : InI Wa pb g14 Wd Dp O blk (markD D :: ds) W := ⟨h.fr, h.prn, h.own, h0.push h.marks hD hpb hle⟩
/-- a block is printed -/
theorem InI.print (h : InI Wa pb g14 Wd Dp O blk ds W) {ws : List (List UInt8)} {ind : List UInt8} (hp : Prn W' pb (O ++ blockS ind Wd ws) Wd Dp) (hf : PFr W W' pb []) : InI Wa pb g14 Wd Dp (O ++ blockS ind Wd ws) blk ds W' := by
  obtain ⟨v, hr, hw⟩ := h.own
  exact ⟨h.fr.trans hf.wide, hp, ⟨v, hf.row hr (h.prn.apart hr (by decide)) (by simp) (by decide), hf.own hw (by decide) (h.prn.not (by decide)) (fun k hk => absurd hk (by simp))⟩, h.marks.others (hf.others h.prn)⟩
theorem PFr.kpr (hf : PFr W W' pb []) (hp : Prn W pb O Wd Dp) (hr : Row W g14 22 #[v]) : KpR g14 W W' := by
  refine ⟨hf.below.size, fun k c fr hk hv => ⟨hf.kept k _ hk (fun e => hp.not (by decide) c fr (e ▸ hk)) (by simp) (fun _ _ e => by cases e), fun u hu => ?_⟩⟩
  have hr' : Row W' g14 22 #[v] := hf.row hr (hp.apart hr (by decide)) (by simp) (by decide)
  rw [row_uniq hu hr']
  exact hv v hr
/-- words are appended to those that wait -/
theorem InI.app (h : InI Wa pb g14 Wd Dp O blk ds W) (hr : Row W g14 22 #[v]) {more : List (List UInt8)} (ho : w1.ownsRow Wa.heap.size 9 1 v' (blk.length + more.length) (strC blk ++ strC more)) (hg : W.grownBy w1 v.ownBlock) (hpb : pb ≤ Wa.heap.size) (h14 : pb ≤ g14) :
    InI Wa pb g14 Wd Dp O (blk ++ more) ds (w1.setCell ⟨g14, 0, none⟩ v') ∧ Row w1 g14 22 #[v] ∧ KeepsOthers W (w1.setCell ⟨g14, 0, none⟩ v') := by
  obtain ⟨v0, hr0, hw⟩ := h.own
  obtain rfl := row_uniq hr hr0
  have hne : some g14 ≠ v.ownBlock := fun e => by
    obtain ⟨c, hc⟩ := own_string hw e.symm
    rw [show W.heap[g14]? = _ from hr] at hc
    simp at hc
  have hr1 : Row w1 g14 22 #[v] := hr.grown hg hne
  have hge : ∀ k, v.ownBlock = some k → Wa.heap.size ≤ k := fun k e => (hw.lt k e).1
  have hko : KeepsOthers W w1 := KeepsOthers.of_grownBy hg fun j o e hj => by
    obtain ⟨c, hc⟩ := own_string hw e
    rw [hj] at hc
    rw [Option.some.inj hc]
    rfl
  have hko2 : KeepsOthers W (w1.setCell ⟨g14, 0, none⟩ v') := hko.trans (KeepsOthers.setCell _ _ _)
  have hp1 : Prn w1 pb O Wd Dp := by
    cases e : v.ownBlock with
    | none =>
      rw [e] at hg
      exact h.prn.below ⟨hg.os, hg.tape, hg.output, hg.size, fun k hk => hg.block k hk (by simp)⟩
    | some k =>
      rw [e] at hg
      obtain ⟨c, hc⟩ := own_string hw e
      exact h.prn.step hg hc (fun _ _ e => by cases e) (fun _ _ e => by cases e)
  refine ⟨⟨⟨?_, fun k o a1 a2 a3 a4 => ?_⟩, hp1.store hr1 (by decide) (by decide) v', ⟨v', hr1.set 0 v', ?_⟩, h.marks.others hko2⟩, hr1, hko2⟩
  · exact (h.fr.below.grown hg (Nat.le_of_lt h.prn.lt) fun k e => Nat.le_trans hpb (hge k e)).trans ((Below.refl _ _).setCell (p := ⟨g14, 0, none⟩) h14 _)
  · have hl := (Array.getElem?_eq_some_iff.1 a1).1
    have hk := h.fr.kept k o a1 a2 a3 a4
    have h2 := (hg.block k (Array.getElem?_eq_some_iff.1 hk).1 fun e => by have := hge k e.symm; omega).trans hk
    exact (Below.heap_setCell _ _ _ _ (fun e => a3 (by simp [e]))).trans h2
  · have := own_store ho hr1 (by decide) (i := 0) v'
    simpa [strC] using this
theorem app_kpr (hr : Row W g14 22 #[v]) {base n : Nat} {xs : List Value} (hw : W.ownsRow base 9 1 v n xs) (hg : W.grownBy w1 v.ownBlock) (hnew : ∀ g, v'.ownBlock = some g → v.ownBlock = some g ∨ W.heap.size ≤ g) : KpR g14 W (w1.setCell ⟨g14, 0, none⟩ v') := by
  have hne : some g14 ≠ v.ownBlock := fun e => by
    obtain ⟨c, hc⟩ := own_string hw e.symm
    rw [show W.heap[g14]? = _ from hr] at hc
    simp at hc
  have hr1 : Row w1 g14 22 #[v] := hr.grown hg hne
  refine ⟨by have := hg.size; simpa [World.setCell] using this, fun k c fr hk hv => ?_⟩
  have hkl := (Array.getElem?_eq_some_iff.1 hk).1
  have h1 : v.ownBlock ≠ some k := hv v hr
  refine ⟨(Below.heap_setCell _ _ _ _ (fun e => ?_)).trans ((hg.block k hkl (fun e => h1 e.symm)).trans hk), fun u hu e => ?_⟩
  · dsimp only at e
    rw [e, show W.heap[g14]? = _ from hr] at hk
    simp at hk
  · obtain rfl := row_uniq hu (hr1.set 0 v')
    rcases hnew k e with h | h
    · exact h1 h
    · omega
end
end Go.Proofs.YtpmbfcogkoiogaaDoor
end
section
namespace Go.Proofs.YtpmbfcogkoiogaaDoor
open Go.RowKit Go.Shelf
structure OutI (Wp : World) (pb : Nat) (Wd Dp : Int) (O : List UInt8) (ds : List Deferred) (W : World) : Prop where
  fr : PFr Wp W pb []
  prn : Prn W pb O Wd Dp
  marks : Marks pb W ds
section
variable {Wp W W' : World} {pb g : Nat} {Wd Dp Dq : Int} {O : List UInt8} {ds : List Deferred}
theorem OutI.below (h : OutI Wp pb Wd Dp O ds W) (hb : Below W.heap.size W W') : OutI Wp pb Wd Dp O ds W' :=
  ⟨h.fr.trans (PFr.new h.prn.lt hb), h.prn.below hb, h.marks.others ⟨hb.size, fun k _ hk _ => (hb.block k (Array.getElem?_eq_some_iff.1 hk).1).trans hk⟩⟩
theorem OutI.call (h : OutI Wp pb Wd Dp O ds W) {O' : List UInt8} (hp : Prn W' pb O' Wd Dq) (hf : PFr W W' pb []) : OutI Wp pb Wd Dq O' ds W' :=
  ⟨h.fr.trans hf, hp, h.marks.others (hf.others h.prn)⟩
theorem OutI.step (h : OutI Wp pb Wd Dp O ds W) (hg : W.grownBy W' (some g)) {o : Obj} (ho : W.heap[g]? = some o) (hpb : pb ≤ g) (hle : Wp.heap.size ≤ g) (h1 : ∀ c fr, o ≠ .cells c 99 fr) (h2 : ∀ c fr, o ≠ .cells c 5 fr) (h4 : ∀ d, o ≠ .deferred d) : OutI Wp pb Wd Dp O ds W' := by
  refine ⟨⟨h.fr.below.grown hg (Nat.le_of_lt h.prn.lt) fun k e => by have := Option.some.inj e; omega, fun k o' a1 a2 a3 a4 => ?_⟩, h.prn.step hg ho h1 h2, h.marks.grown hg ho h4⟩
  have hl := (Array.getElem?_eq_some_iff.1 a1).1
  have hk := h.fr.kept k o' a1 a2 a3 a4
  exact (hg.block k (Array.getElem?_eq_some_iff.1 hk).1 fun e => by have := Option.some.inj e; omega).trans hk
theorem OutI.turn {B1 : Nat} (h : OutI Wp pb Wd Dp O ds W) (ht : TnX (fun _ g => B1 ≤ g) W W') (hpb : pb ≤ B1) (hle : Wp.heap.size ≤ B1) : OutI Wp pb Wd Dp O ds W' := by
  rcases ht with hb | ⟨g, c, fr, hs, hh, hg⟩
  · exact h.below hb
  · have h1 : B1 ≤ g := hs
    exact h.step hg hh (by omega) (by omega) (fun _ _ e => by cases e) (fun _ _ e => by cases e) (fun _ e => by cases e)
theorem OutI.loop (h : OutI Wp pb Wd Dp O ds W) {l : Nat} {r r' : Loop} (hl : W.heap[l]? = some (.loop r)) (hpb : pb ≤ l) (hle : Wp.heap.size ≤ l) : OutI Wp pb Wd Dp O ds (W.putObj l (.loop r')) :=
  h.step (grownBy_putObj' W l _) hl hpb hle (fun _ _ e => by cases e) (fun _ _ e => by cases e) (fun _ e => by cases e)
theorem PFr.kpt (hf : PFr W W' pb []) (hp : Prn W pb O Wd Dp) : KpT W W' :=
  ⟨hf.below.size, fun k c fr hk => hf.kept k _ hk (fun e => hp.not (by decide) c fr (e ▸ hk)) (by simp) (fun _ _ e => by cases e)⟩
/-- the words of a statement begin: nothing waits -/
theorem InI.start {g14 : Nat} (h : OutI Wp pb Wd Dp O ds W) (hr : Row W g14 22 #[.slice none 0 0]) : InI W pb g14 Wd Dp O [] ds W :=
  ⟨PFr.refl _ _ _, h.prn, ⟨_, hr, own_nil _ _ _ _⟩, h.marks⟩
/-- the words of a statement end -/
theorem OutI.after {Wa : World} {g14 : Nat} {O0 : List UInt8} {blk : List (List UInt8)} {ds0 : List Deferred} (h : OutI Wp pb Wd Dp O0 ds0 Wa) (hi : InI Wa pb g14 Wd Dp O blk ds W) (h14 : Wp.heap.size ≤ g14) : OutI Wp pb Wd Dp O ds W :=
  ⟨h.fr.past hi.fr (fun k hk => by simp at hk; omega), hi.prn, hi.marks⟩
theorem tn_other {Sf : World → Nat → Prop} {k : Nat} {o : Obj} (ht : TnX Sf W W') (ho : W.heap[k]? = some o) (hn : ∀ c fr, o ≠ .cells c 9 fr) : W'.heap[k]? = some o := by
  rcases ht with hb | ⟨g, c, fr, hs, hh, hg⟩
  · exact (hb.block k (Array.getElem?_eq_some_iff.1 ho).1).trans ho
  · refine (hg.block k (Array.getElem?_eq_some_iff.1 ho).1 fun e => ?_).trans ho
    obtain rfl := Option.some.inj e
    rw [hh] at ho
    exact hn _ _ (Option.some.inj ho).symm
theorem KpR.refl (g14 : Nat) (W : World) : KpR g14 W W := ⟨Nat.le_refl _, fun _ _ _ a b => ⟨a, b⟩⟩
theorem comT_ne : ∀ (T cur : List (List UInt8)), ∀ c ∈ comT cur T, c ≠ []
  | [], _, c, h => by simp [comT] at h
  | t :: T, cur, c, h => by
    rw [comT] at h
    split at h
    · rcases List.mem_cons.1 h with rfl | h
      · simp
      · exact comT_ne T [] c h
    · exact comT_ne T _ c h
theorem comS_ne (g : List UInt8) : ∀ c ∈ comS g, c ≠ [] := comT_ne _ _
end
end Go.Proofs.YtpmbfcogkoiogaaDoor
end
