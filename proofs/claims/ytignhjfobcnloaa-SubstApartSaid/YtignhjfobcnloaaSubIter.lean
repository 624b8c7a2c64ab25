/- The iterator over the pairs that a substitution requires. -/
import Derived.Test.YtignhjfobcnloaaSubReq
namespace Go.Proofs.Ytignhjfobcnloaa
open Go.RowKit Go.Shelf
attribute [local go_sem] Oper.semAt_some
def encP (p : PairD) : Array Value := #[.agg #[.string ⟨p.1.toArray⟩, .string ⟨p.2.toArray⟩]]
theorem pto {J : List PairD → World → Prop} {B : Nat} {W0 W : World} {pre : List PairD} (hJ : Stable (okIter fun _ => False) B J) (h : J pre W0) (hb : Below W0.heap.size W0 W) : J pre W := hJ _ _ _ h (Turn.grow hb)
theorem ordered_at2 (w : World) (y : PairD) (p q : List UInt8) (h : orderedS y = (p, q)) : Calls Try.prog 53 #[.agg #[.string ⟨y.1.toArray⟩, .string ⟨y.2.toArray⟩]] w fun e w' => e = .returned (.agg #[.string ⟨p.toArray⟩, .string ⟨q.toArray⟩]) ∧ Below w.heap.size w w' := by
  have := ordered_any w y
  rw [h] at this
  exact this
/-- the sizes that the calls ask -/
structure SubSz (l : List BindD) (pairs : List PairD) (vs : List (List UInt8)) : Prop where
  var : ∀ x ∈ l, x.1.length ≤ maxLen
  text : ∀ x ∈ l, ∀ s ∈ x.2, s.length ≤ maxLen
  long : ∀ x ∈ l, x.2.length ≤ 1000000000
  many : l.length ≤ 1000000
  pair : ∀ p ∈ pairs, p.1.length ≤ maxLen ∧ p.2.length ≤ maxLen
  vars : ∀ s ∈ vs, s.length ≤ maxLen
  nvars : vs.length ≤ 1000000
theorem image_mem (l : List BindD) (s : List UInt8) : imageS l s = [s] ∨ ∃ x ∈ l, imageS l s = x.2 := by
  unfold imageS boundS
  cases h : l.find? (fun x => x.1 == s) with
  | none => exact .inl rfl
  | some x => exact .inr ⟨x, List.mem_of_find?_eq_some h, rfl⟩
theorem SubSz.image {l : List BindD} {pairs : List PairD} {vs : List (List UInt8)} (z : SubSz l pairs vs) {s : List UInt8} (hs : s.length ≤ maxLen) : (∀ t ∈ imageS l s, t.length ≤ maxLen) ∧ (imageS l s).length ≤ 1000000000 := by
  rcases image_mem l s with h | ⟨x, hx, h⟩
  · rw [h]; exact ⟨by simpa using hs, by simp⟩
  · rw [h]; exact ⟨z.text x hx, z.long x hx⟩
set_option maxRecDepth 100000 in
set_option maxHeartbeats 4000000 in
theorem required_seq (n : Nat) (h1 : 1 ≤ n) {w0 : World} {lv pv vv : Value} {l : List BindD} {pairs : List PairD} {vs : List (List UInt8)} (hl : BindAt w0 lv l) (hp : PairsAt w0 pv pairs) (hv : Strs w0 vv vs) (z : SubSz l pairs vs)
    (w : World) (hw0 : Below w0.heap.size w0 w) (B1 B2 B3 : Nat) (r1 : Row w B1 23 #[lv]) (r2 : Row w B2 22 #[vv]) (r3 : Row w B3 36 #[pv]) {Kp : World → World → Prop} {G : World → Prop} {Sf : World → Nat → Prop} (H : Hands w0.heap.size Kp G Sf) :
    SeqG n Try.prog 83 #[.pointer (some ⟨B1, 0, none⟩), .pointer (some ⟨B2, 0, none⟩), .pointer (some ⟨B3, 0, none⟩)] encP Kp G (fun _ => False) (reqS l pairs vs) w := by
  intro yl J Jx W hW hJ hJx hG hY hJ0
  have hbW : Below w0.heap.size w0 W := hw0.trans (hW.mono hw0.size)
  have hl0 := hl
  have hv0 := hv.below hbW
  have r1' := r1.below hW r1.lt
  have r2' := r2.below hW r2.lt
  have r3' := r3.below hW r3.lt
  obtain ⟨pA, pc, rfl, hpc, hpm, _⟩ := hp.open_
  obtain ⟨vA, vc, rfl⟩ := hv.form
  obtain ⟨lA, lc, rfl, _⟩ := hl
  unfold maxLen at hpm
  have HL := Lib.hid hl0
  have HV := Lib.hid hv0
  have HP := Lib.hid hp
  clear hp hl0 hv0 hv r1 r2 r3 hw0
  show CallsIn Fence.wide n Try.prog 83 #[.func (.yield yl) #[] #[], .pointer (some ⟨B1, 0, none⟩), .pointer (some ⟨B2, 0, none⟩), .pointer (some ⟨B3, 0, none⟩)] W _
  refine callsIn_of_wp Try.func83 rfl trivial ?_ rfl
  simp only [Try.ntmps83, List.size_toArray, List.length_cons, List.length_nil, Nat.reduceAdd, Nat.reduceSub, Array.replicate_succ, Array.replicate_zero, List.push_toArray, List.append_toArray, List.nil_append, List.cons_append]
  have c1 := r1'.cell (i := 0) (v := .slice lA l.length lc) rfl
  have c2 := r2'.cell (i := 0) (v := .slice vA vs.length vc) rfl
  have c3 := r3'.cell (i := 0) (v := .slice pA pairs.length pc) rfl
  gi_wp2_with (first
    | (refine ⟨trivial, ?_⟩; gi_at_call 49; (refine (callsIn_wide.2 (bind_at w0 _ _ l HL.out hbW z.var z.many)).mono ?_; rintro e w1 ⟨nb, f, rfl, hnb, hbm, hsay, hb1⟩; have c2' := (r2'.below hb1 r2'.lt).cell (i := 0) (v := .slice vA vs.length vc) rfl; have c3' := (r3'.below hb1 r3'.lt).cell (i := 0) (v := .slice pA pairs.length pc) rfl))
    | (refine ⟨trivial, ?_⟩; gi_at_call 84; (refine (callsIn_wide.2 (listed_at _ _ vs (HV.out.below hb1) z.vars z.nvars)).mono ?_; rintro e w2 ⟨rfl, hset, hb2⟩; have c3'' := ((r3'.below hb1 r3'.lt).below hb2 (r3'.below hb1 r3'.lt).lt).cell (i := 0) (v := .slice pA pairs.length pc) rfl)))
  have hw1z := hb1.size
  have hw2z := hb2.size
  have hms := hset.lt
  have hmb := hbm.lt
  have hg2 : Below W.heap.size W w2 := then_ hb1 hb2
  have s1 : Sf w2 W.heap.size := H.new W w2 _ (hG _ _ hJ0) hg2 (Nat.le_refl _) (by omega)
  have s2 : Sf w2 w1.heap.size := H.new W w2 _ (hG _ _ hJ0) hg2 hw1z hms
  have hJ2 := pto hJ hJ0 hg2
  have hb02 : Below w0.heap.size w0 w2 := hbW.trans (hg2.mono hbW.size)
  have hbm2 := hbm.below hb2
  clear hbm c1 c2 c3 c2' c3' c3'' hb1 hb2 r1' r2' r3' hms hmb
  generalize hgs : w1.heap.size = gs at *
  clear hgs w1
  gi_loopw [19] (fun kv wr => ∃ k : Nat, k ≤ pairs.length ∧ kv = .int .i64 k ∧ J (reqS l (pairs.take k) vs) wr ∧ Below w0.heap.size w0 wr ∧ BMap wr W.heap.size nb f ∧ SetM wr gs vs ∧ Sf wr W.heap.size ∧ Sf wr gs ∧ W.heap.size ≤ wr.heap.size) (fun kv _ => pairs.length - (intOf kv).toNat)
  case atStart => exact ⟨0, Nat.zero_le _, rfl, by simpa [reqS] using hJ2, hb02, hbm2, hset, s1, s2, hg2.size⟩
  case round =>
    obtain ⟨k, hk, rfl, hj, hb0, hbm, hset, s1, s2, hwz⟩ := hrel
    by_cases hlt : k < pairs.length
    · obtain ⟨p, hy⟩ : ∃ p, pairs[k]? = some p := ⟨_, List.getElem?_eq_getElem hlt⟩
      obtain ⟨A', c', hvv, _, _, hx⟩ := (HP.out.below hb0).open_
      obtain ⟨rfl, _, rfl⟩ := (by simpa using hvv : pA = A' ∧ True ∧ pc = c')
      obtain ⟨b, o, rfl, g1, g2⟩ := hx k p hy
      obtain ⟨hz1, hz2⟩ := z.pair p (List.mem_of_getElem? hy)
      have HY := Lib.hid hy
      obtain ⟨zi1, zi2⟩ := z.image (l := l) hz1
      obtain ⟨xs, hxs⟩ : ∃ xs, varsS (imageS l p.1) vs = xs := ⟨_, rfl⟩
      have HX := Lib.hid hxs
      have hxl : xs.length ≤ 1000000000 := by rw [← hxs]; exact Nat.le_trans (varsS_len _ _) zi2
      have HBR : Hid (BinderAt wr W.heap.size l) := Lib.hid ⟨nb, f, hnb, hbm, hsay.below hb0⟩
      clear hx hy hvv hxs
      gi_wp2_with (first
        | (refine ⟨trivial, ?_⟩; gi_at_call 82; (refine (callsIn_wide.2 (image_any _ _ l p.1 (HBR.out.below ((Below.refl _ _).alloc (Nat.le_refl _) _)) hz1)).mono ?_; rintro e w3 ⟨u1, rfl, hu1, hb3⟩))
        | (refine ⟨trivial, ?_⟩; gi_at_call 85; (refine (callsIn_wide.2 (occurring_own _ _ (imageS l p.1) gs vs hu1 ((hset.below ((Below.refl _ _).alloc (Nat.le_refl _) _)).below hb3) zi1 zi2)).mono ?_; rintro e w4 ⟨u2, rfl, hu2, hb4⟩; rw [HX.out] at hu2; obtain ⟨ua, uc, rfl, hco⟩ := own_form hu2)))
      obtain ⟨ys, hys⟩ : ∃ ys, varsS (imageS l p.2) vs = ys := ⟨_, rfl⟩
      have HYS := Lib.hid hys
      obtain ⟨zj1, zj2⟩ := z.image (l := l) hz2
      have hyl : ys.length ≤ 1000000000 := by rw [← hys]; exact Nat.le_trans (varsS_len _ _) zj2
      clear hys
      have hz3 := hb3.size
      have hz4 := hb4.size
      have e3 : (wr.alloc (.cells #[.string ⟨p.1.toArray⟩, .string ⟨p.2.toArray⟩] 39)).heap.size = wr.heap.size + 1 := by simp
      have hbr3 : Below wr.heap.size wr w3 := ((Below.refl _ _).alloc (Nat.le_refl _) _).trans (hb3.mono (by rw [e3]; omega))
      have hbr4 : Below wr.heap.size wr w4 := then_ hbr3 hb4
      have hg := hG _ _ hj
      have q8 : Row w4 wr.heap.size 39 #[.string ⟨p.1.toArray⟩, .string ⟨p.2.toArray⟩] := ((Row.new wr _ _).below hb3 (by rw [e3]; omega)).below hb4 (by omega)
      have s8 : Sf w4 wr.heap.size := H.new wr w4 _ hg hbr4 (Nat.le_refl _) (by omega)
      have su : ∀ g, (Value.slice ua xs.length uc).ownBlock = some g → Sf w4 g := fun g eg => by
        have := hu2.lt g eg
        exact H.new wr w4 g hg hbr4 (by omega) this.2
      have hj4 := pto hJ hj hbr4
      have hj4 : J (reqS l (pairs.take k) vs ++ (xs.take 0).flatMap (reqX ys)) w4 := by simpa using hj4
      have hb04 : Below w0.heap.size w0 w4 := hb0.trans (hbr4.mono (Nat.le_trans hbW.size hwz))
      have hbm4 := hbm.below hbr4
      have hset4 := hset.below hbr4
      have s14 := H.grow _ _ _ s1 hbr4
      have s24 := H.grow _ _ _ s2 hbr4
      have hz5 : wr.heap.size ≤ w4.heap.size := by omega
      clear hg HBR hbm hset s1 s2 hj hb3 hb4 hbr3 hbr4 hu1 g1 g2 hb0 e3 hz3 hz4
      generalize hg8 : wr.heap.size = g8 at *
      generalize w3.heap.size + 1 = ub at *
      clear hg8 wr w3
      gi_loopw [30] (fun jv wm => ∃ j : Nat, j ≤ xs.length ∧ jv = .int .i64 j ∧ J (reqS l (pairs.take k) vs ++ (xs.take j).flatMap (reqX ys)) wm ∧ Below w0.heap.size w0 wm ∧ BMap wm W.heap.size nb f ∧ SetM wm gs vs ∧ Sf wm W.heap.size ∧ Sf wm gs ∧
        Row wm g8 39 #[.string ⟨p.1.toArray⟩, .string ⟨p.2.toArray⟩] ∧ Sf wm g8 ∧ wm.ownsRow ub 9 1 (.slice ua xs.length uc) xs.length (xs.map strV) ∧ (∀ g, (Value.slice ua xs.length uc).ownBlock = some g → Sf wm g) ∧ W.heap.size ≤ wm.heap.size) (fun jv _ => xs.length - (intOf jv).toNat)
      case atStart => exact ⟨0, Nat.zero_le _, rfl, hj4, hb04, hbm4, hset4, s14, s24, q8, s8, hu2, su, by omega⟩
      case round =>
        obtain ⟨j, hjk, rfl, hj, hb0, hbm, hset, s1, s2, q8, s8, hu, su, hwz⟩ := hrel
        by_cases hjl : j < xs.length
        · obtain ⟨x, hx⟩ : ∃ x, xs[j]? = some x := ⟨_, List.getElem?_eq_getElem hjl⟩
          obtain ⟨A', c', hvv, _, _, hcx⟩ := (strs_of_own hu rfl).open_
          obtain ⟨rfl, rfl⟩ := (by simpa using hvv : ua = A' ∧ uc = c')
          obtain ⟨b, o, rfl, g1⟩ := hcx j x hx
          have HXJ := Lib.hid hx
          have g2 := q8.cell (i := 1) (v := .string ⟨p.2.toArray⟩) rfl
          have HBR : Hid (BinderAt wr W.heap.size l) := Lib.hid ⟨nb, f, hnb, hbm, hsay.below hb0⟩
          have hg := hG _ _ hj
          clear hcx hx hvv
          gi_wp2_with (first
            | (refine ⟨trivial, ?_⟩; gi_at_call 82; (refine (callsIn_wide.2 (image_any _ _ l p.2 HBR.out hz2)).mono ?_; rintro e w3 ⟨u1, rfl, hu1, hb3⟩))
            | (refine ⟨trivial, ?_⟩; gi_at_call 85; (refine (callsIn_wide.2 (occurring_own _ _ (imageS l p.2) gs vs hu1 (hset.below hb3) zj1 zj2)).mono ?_; rintro e w4 ⟨u2, rfl, hv2, hb4⟩; rw [HYS.out] at hv2; obtain ⟨ya, yc, rfl, hcy⟩ := own_form hv2)))
          have hz3 := hb3.size
          have hz4 := hb4.size
          have hbr4 : Below wr.heap.size wr w4 := then_ hb3 hb4
          have sy : ∀ g, (Value.slice ya ys.length yc).ownBlock = some g → Sf w4 g := fun g eg => by
            have := hv2.lt g eg
            exact H.new wr w4 g hg hbr4 (by omega) this.2
          have hj4 := pto hJ hj hbr4
          have hj4 : J (reqS l (pairs.take k) vs ++ (xs.take j).flatMap (reqX ys) ++ reqX (ys.take 0) x) w4 := by simpa [reqX] using hj4
          have hb04 : Below w0.heap.size w0 w4 := hb0.trans (hbr4.mono (Nat.le_trans hbW.size hwz))
          have hbm4 := hbm.below hbr4
          have hset4 := hset.below hbr4
          have s14 := H.grow _ _ _ s1 hbr4
          have s24 := H.grow _ _ _ s2 hbr4
          have s84 := H.grow _ _ _ s8 hbr4
          have q84 := q8.below hbr4 q8.lt
          have hu4 := own_below hu hbr4
          have su4 : ∀ g, (Value.slice (some ⟨b, o, none⟩) xs.length uc).ownBlock = some g → Sf w4 g := fun g eg => H.grow _ _ _ (su g eg) hbr4
          have hwz4 : W.heap.size ≤ w4.heap.size := by omega
          clear hg HBR hbm hset s1 s2 hj hb3 hb4 hbr4 hu1 g1 g2 hb0 hz3 hz4 q8 s8 hu su hwz
          generalize w3.heap.size + 1 = yb at *
          clear w3 wr
          gi_loopw [41] (fun iv wi => ∃ i : Nat, i ≤ ys.length ∧ iv = .int .i64 i ∧ J (reqS l (pairs.take k) vs ++ (xs.take j).flatMap (reqX ys) ++ reqX (ys.take i) x) wi ∧ Below w0.heap.size w0 wi ∧ BMap wi W.heap.size nb f ∧ SetM wi gs vs ∧ Sf wi W.heap.size ∧ Sf wi gs ∧
            Row wi g8 39 #[.string ⟨p.1.toArray⟩, .string ⟨p.2.toArray⟩] ∧ Sf wi g8 ∧ wi.ownsRow ub 9 1 (.slice (some ⟨b, o, none⟩) xs.length uc) xs.length (xs.map strV) ∧ (∀ g, (Value.slice (some ⟨b, o, none⟩) xs.length uc).ownBlock = some g → Sf wi g) ∧ W.heap.size ≤ wi.heap.size ∧
            wi.ownsRow yb 9 1 (.slice ya ys.length yc) ys.length (ys.map strV) ∧ (∀ g, (Value.slice ya ys.length yc).ownBlock = some g → Sf wi g)) (fun iv _ => ys.length - (intOf iv).toNat)
          case atStart => exact ⟨0, Nat.zero_le _, rfl, hj4, hb04, hbm4, hset4, s14, s24, q84, s84, hu4, su4, hwz4, hv2, sy⟩
          case round =>
            obtain ⟨i, hik, rfl, hj, hb0, hbm, hset, s1, s2, q8, s8, hu, su, hwz, hv2, sy⟩ := hrel
            by_cases hil : i < ys.length
            · obtain ⟨y, hy⟩ : ∃ y, ys[i]? = some y := ⟨_, List.getElem?_eq_getElem hil⟩
              obtain ⟨A', c', hvv, _, _, hcx⟩ := (strs_of_own hv2 rfl).open_
              obtain ⟨rfl, rfl⟩ := (by simpa using hvv : ya = A' ∧ yc = c')
              obtain ⟨b', o', rfl, g1⟩ := hcx i y hy
              have HPF := Lib.hid (req_prefix HY.out HX.out HYS.out HXJ.out hy)
              have HYT := Lib.hid (reqX_take (x := x) hy)
              obtain ⟨a, c, hac⟩ : ∃ a c, orderedS (x, y) = (a, c) := ⟨_, _, rfl⟩
              have HAC := Lib.hid hac
              clear hcx hy hvv hac
              gi_wp2_with (refine ⟨trivial, ?_⟩; gi_at_call 53; (refine (callsIn_wide.2 (ordered_at2 _ (x, y) a c HAC.out)).mono ?_; rintro e w6 ⟨rfl, hb6⟩; have hj6 := pto hJ hj hb6; rw [HAC.out] at HPF; obtain ⟨fn, tmps, assign, body, hyy, hR⟩ := hY _ (a, c) w6 hj6 HPF.out; dsimp only [encP] at hyy))
              have hz6 := hb6.size
              have bm6 := hbm.below hb6
              have st6 := hset.below hb6
              have s16 := H.grow _ _ _ s1 hb6
              have s26 := H.grow _ _ _ s2 hb6
              have s86 := H.grow _ _ _ s8 hb6
              have q86 := q8.below hb6 q8.lt
              have u6 := own_below hu hb6
              have su6 : ∀ g, (Value.slice (some ⟨b, o, none⟩) xs.length uc).ownBlock = some g → Sf w6 g := fun g eg => H.grow _ _ _ (su g eg) hb6
              have y6 := own_below hv2 hb6
              have sy6 : ∀ g, (Value.slice (some ⟨b', o', none⟩) ys.length yc).ownBlock = some g → Sf w6 g := fun g eg => H.grow _ _ _ (sy g eg) hb6
              have b06 : Below w0.heap.size w0 w6 := hb0.trans (hb6.mono (Nat.le_trans hbW.size hwz))
              clear hbm hset s1 s2 s8 q8 hu su hv2 sy hb0 g1
              refine hR.mono ?_
              rintro e W' (⟨rfl, hJ', hk'⟩ | ⟨rfl, hJx'⟩)
              · have bm7 := H.bmap hk' s16 bm6
                have st7 := H.setm hk' s26 st6
                have q87 := H.row hk' s86 q86
                have u7 := H.own hk' su6 u6
                have y7 := H.own hk' sy6 y6
                have b07 := b06.trans (H.old _ _ hk')
                have hz7 := (H.old _ _ hk').size
                have s17 := (H.kept _ _ _ hk' s16).1
                have s27 := (H.kept _ _ _ hk' s26).1
                have s87 := (H.kept _ _ _ hk' s86).1
                have su7 : ∀ g, (Value.slice (some ⟨b, o, none⟩) xs.length uc).ownBlock = some g → Sf W' g := fun g eg => (H.kept _ _ _ hk' (su6 g eg)).1
                have sy7 : ∀ g, (Value.slice (some ⟨b', o', none⟩) ys.length yc).ownBlock = some g → Sf W' g := fun g eg => (H.kept _ _ _ hk' (sy6 g eg)).1
                clear hyy hR hk' bm6 st6 s16 s26 s86 q86 u6 su6 y6 sy6 b06
                gi_wp2
                go_roundw
                case rel => exact ⟨i + 1, by omega, by go_num, by rw [HYT.out, HAC.out, ← List.append_assoc]; exact hJ', b07, bm7, st7, s17, s27, q87, s87, u7, su7, by omega, y7, sy7⟩
                case measure => simp [intOf]; omega
              · clear hyy hR bm6 st6 s16 s26 s86 q86 u6 su6 y6 sy6 b06
                gi_wp2
                refine bodyPost_ret (results_none rfl _ _ _) rfl ?_
                exact ⟨⟨_, rfl⟩, .inr ⟨_, hJx'⟩⟩
            · obtain rfl : i = ys.length := by omega
              rw [List.take_length] at hj
              have HFT := Lib.hid (flat_take (f := reqX ys) HXJ.out)
              gi_wp2
              go_roundw
              case rel => exact ⟨j + 1, by omega, by go_num, by rw [HFT.out, ← List.append_assoc]; exact hj, hb0, hbm, hset, s1, s2, q8, s8, hu, su, hwz⟩
              case measure => simp [intOf]; omega
        · obtain rfl : j = xs.length := by omega
          rw [List.take_length] at hj
          have HRT := Lib.hid (req_take HY.out HX.out HYS.out)
          gi_wp2
          go_roundw
          case rel => exact ⟨k + 1, by omega, by go_num, by rw [HRT.out]; exact hj, hb0, hbm, hset, s1, s2, hwz⟩
          case measure => simp [intOf]; omega
    · obtain rfl : k = pairs.length := by omega
      rw [List.take_length] at hj
      gi_wp2
      go_end0
      exact ⟨⟨_, rfl⟩, .inl hj⟩
end Go.Proofs.Ytignhjfobcnloaa
