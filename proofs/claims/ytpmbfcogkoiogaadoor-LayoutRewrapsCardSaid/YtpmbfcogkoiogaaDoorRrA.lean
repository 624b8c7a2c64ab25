/- The reference's comments of a gap. Rewrap of the reference: the comments of a gap beside the line that grows. Rewrap of the reference. -/
import Derived.Test.YtpmbfcogkoiogaaDoorRewA
import Derived.Test.YtpmbfcogkoiogaaDoorScanRA
import Derived.Test.YtpmbfcogkoiogaaDoorLayLA
import Derived.Test.YtpmbfcogkoiogaaDoorLinesA
import Derived.Test.YtpmbfcogkoiogaaDoorLayMemA
import Derived.Test.YtpmbfcogkoiogaaDoorDocRA
import Derived.Test.YtpmbfcogkoiogaaDoorRewSDA
import Derived.Test.YtpmbfcogkoiogaaDoorRefBlock
import Derived.Test.YtpmbfcogkoiogaaDoorRefDoc
import Derived.Maps.AppendAt
section
namespace Go.Proofs.YtpmbfcogkoiogaaDoor
open Go.RowKit
attribute [local go_sem ↓] Go.wp_at_zero Go.wp_at_succ
/-- behind some words: the comments so far, the one that is read -/
def ComI (w1 wr : World) (bv ov : Value) (vals : List Value) (pre : List (List (List UInt8))) (cur : List (List UInt8)) (Bc : Nat) : Prop :=
  wr.ownsRow w1.heap.size 22 1 bv pre.length vals ∧ vals.length = pre.length ∧ wr.ownsRow Bc 9 1 ov cur.length (strC cur) ∧ w1.heap.size ≤ Bc ∧ Bc ≤ wr.heap.size ∧
    (∀ (k : Nat) x c, vals[k]? = some x → pre[k]? = some c → Strs wr x c ∧ TyB wr 9 x ∧ ∀ g, x.ownBlock = some g → w1.heap.size ≤ g ∧ g < Bc) ∧ Below w1.heap.size w1 wr
section
variable {w1 wr w2 : World} {bv ov bv' ov' : Value} {vals : List Value} {pre : List (List (List UInt8))} {cur : List (List UInt8)} {Bc : Nat}
theorem cell_kind {base n size : Nat} {e : TypeId} {v : Value} {xs : List Value} (h : wr.ownsRow base e size v n xs) {g : Nat} (he : v.ownBlock = some g) : ∃ c, wr.heap[g]? = some (.cells c e (0, 0)) := by
  rcases h.2 with ⟨rfl, _⟩ | ⟨k, cap, cur, rfl, _, hh, _⟩
  · cases he
  · obtain rfl : k = g := by simpa [Value.ownBlock] using he
    exact ⟨_, hh⟩
theorem ComI.below (h : ComI w1 wr bv ov vals pre cur Bc) (hb : Below wr.heap.size wr w2) : ComI w1 w2 bv ov vals pre cur Bc := by
  obtain ⟨h1, h2, h3, h4, h5, h6, h7⟩ := h
  exact ⟨own_below h1 hb, h2, own_below h3 hb, h4, Nat.le_trans h5 hb.size, fun k x c hx hc => by
    obtain ⟨a, b, d⟩ := h6 k x c hx hc
    exact ⟨Strs.below a hb, b.below hb, d⟩, then_ h7 hb⟩
/-- a word is appended to the comment -/
theorem ComI.word (h : ComI w1 wr bv ov vals pre cur Bc) {t : List UInt8} (ho : w2.ownsRow Bc 9 1 ov' (cur.length + 1) (strC cur ++ [.string ⟨t.toArray⟩])) (hg : wr.grownBy w2 ov.ownBlock) : ComI w1 w2 bv ov' vals pre (cur ++ [t]) Bc := by
  obtain ⟨h1, h2, h3, h4, h5, h6, h7⟩ := h
  refine ⟨h1.kept hg ?_, h2, by simpa [strC] using ho, h4, Nat.le_trans h5 hg.size, fun k x c hx hc => ?_, h7.grown hg h7.size fun k e => Nat.le_trans h4 (h3.lt k e).1⟩
  · cases e : bv.ownBlock with
    | none => exact .inl rfl
    | some g =>
      right
      intro e2
      obtain ⟨c, hc⟩ := cell_kind h1 e
      obtain ⟨c', hc'⟩ := cell_kind h3 e2.symm
      rw [hc] at hc'
      simp at hc'
  · obtain ⟨a, b, d⟩ := h6 k x c hx hc
    have key : ∀ g, x.ownBlock = some g → w2.heap[g]? = wr.heap[g]? := fun g e => by
      obtain ⟨c0, fr, hg0⟩ := b g e
      exact hg.block g (Array.getElem?_eq_some_iff.1 hg0).1 fun e2 => by
        have := (h3.lt g e2.symm).1
        have := (d g e).2
        omega
    refine ⟨Rds.same a fun g _ e o => ?_, fun g e => ?_, d⟩
    · unfold World.cell?
      rw [key g e]
    · rw [key g e]
      exact b g e
theorem own_empty (w : World) : (w.alloc (.cells #[] 9)).ownsRow w.heap.size 9 1 (.slice (some ⟨w.heap.size, 0, none⟩) 0 0) 0 [] := by
  have h1 := World.ownsRow_made (base := w.heap.size) (e := 9) (size := 1) w #[] 0 (Nat.le_refl _) (by decide) (by simp)
  simpa using h1
/-- the comment ends -/
theorem ComI.put (h : ComI w1 wr bv ov vals pre cur Bc) (ho : w2.ownsRow w1.heap.size 22 1 bv' (pre.length + 1) (vals ++ [ov])) (hg : wr.grownBy w2 bv.ownBlock) : ComI w1 (w2.alloc (.cells #[] 9)) bv' (.slice (some ⟨w2.heap.size, 0, none⟩) 0 0) (vals ++ [ov]) (pre ++ [cur]) [] w2.heap.size := by
  obtain ⟨h1, h2, h3, h4, h5, h6, h7⟩ := h
  have hz := hg.size
  have hba : Below w2.heap.size w2 (w2.alloc (.cells #[] 9)) := new_ (Below.refl _ _) _
  have keep : ∀ x c, Strs wr x c → TyB wr 9 x → Strs (w2.alloc (.cells #[] 9)) x c ∧ TyB (w2.alloc (.cells #[] 9)) 9 x := fun x c a b => by
    have key : ∀ g, x.ownBlock = some g → w2.heap[g]? = wr.heap[g]? := fun g e => by
      obtain ⟨c0, fr, hg0⟩ := b g e
      refine hg.block g (Array.getElem?_eq_some_iff.1 hg0).1 fun e2 => ?_
      obtain ⟨c', hc'⟩ := cell_kind h1 e2.symm
      rw [hg0] at hc'
      simp at hc'
    refine ⟨Strs.below (Rds.same a fun g _ e o => ?_) hba, TyB.below (fun g e => ?_) hba⟩
    · unfold World.cell?
      rw [key g e]
    · rw [key g e]
      exact b g e
  refine ⟨by simpa using own_below ho hba, by simp [h2], own_empty w2, by omega, by simp, fun k x c hx hc => ?_, (h7.grown hg h7.size fun k e => (h1.lt k e).1).trans (hba.mono (by omega))⟩
  by_cases hk : k < vals.length
  · rw [List.getElem?_append_left hk] at hx
    rw [List.getElem?_append_left (by omega)] at hc
    obtain ⟨a, b, d⟩ := h6 k x c hx hc
    obtain ⟨a', b'⟩ := keep x c a b
    exact ⟨a', b', fun g e => by have := d g e; omega⟩
  · rw [List.getElem?_append_right (by omega)] at hx
    rw [List.getElem?_append_right (by omega)] at hc
    obtain ⟨hk0, rfl⟩ : k - vals.length = 0 ∧ ov = x := by
      cases e : k - vals.length with
      | zero => rw [e] at hx; simpa using hx
      | succ n => rw [e] at hx; simp at hx
    obtain rfl : cur = c := by
      rw [show k - pre.length = 0 by omega] at hc
      simpa using hc
    obtain ⟨a', b'⟩ := keep ov cur (by have := Rds.of_own h3; exact this) (TyB.of_own h3)
    exact ⟨a', b', fun g e => by have := h3.lt g e; omega⟩
end
/-- a slice of slices of strings -/
def Coms (lo : Nat) (w : World) (v : Value) (L : List (List (List UInt8))) : Prop := ∃ vals : List Value, Rds w 1 v L.length vals ∧ (TyB w 22 v ∧ ∀ g, v.ownBlock = some g → lo ≤ g) ∧ vals.length = L.length ∧ ∀ (k : Nat) x c, vals[k]? = some x → L[k]? = some c → Strs w x c ∧ TyB w 9 x ∧ ∀ g, x.ownBlock = some g → lo ≤ g
theorem scan_gap {g : List UInt8} (h : blankP g = true) (h4 : g.length ≤ 40000) (h8 : (toks 0 g).length ≤ 8000) : scanS g = (toks 0 g, 0, 0) :=
  scanS_ok (by omega) (fun j y hy => by
    have := (blank_tk.1 h).1 y (List.mem_of_getElem? hy)
    unfold byteB at this
    simpa using this) rfl h8
set_option maxRecDepth 100000 in
set_option maxHeartbeats 8000000 in
theorem ref_comments (w : World) (g : List UInt8) (hb : blankP g = true) (h4 : g.length ≤ 40000) (h8 : (toks 0 g).length ≤ 8000) :
    Calls Tryd.prog 69 #[.string ⟨g.toArray⟩] w fun e w' => ∃ v, e = .returned v ∧ Coms w.heap.size w' v (comS g) ∧ Below w.heap.size w w' := by
  have HSC := Lib.hid (scan_gap hb h4 h8)
  obtain ⟨T, hT⟩ : ∃ T, toks 0 g = T := ⟨_, rfl⟩
  rw [hT] at HSC h8
  have HT := Lib.hid hT
  clear hb h4 hT
  go_enter Tryd.func69, Tryd.ntmps69
  go_wp2_with fail
  refine (ref_scan _ g).mono ?_
  rw [HSC.out]
  rintro e w1 ⟨v1, rfl, hv1, hb1⟩
  have HV1 := Lib.hid hv1
  have HB1 := Lib.hid hb1
  obtain ⟨A1, c1, rfl, hc1, hm1, -⟩ := hv1.open_
  clear hv1 hb1
  go_wp2_with fail
  obtain ⟨wl, hwl⟩ : ∃ wl, (w1.alloc (.cells #[] 22)).alloc (.cells #[] 9) = wl := ⟨_, rfl⟩
  have hI0 : ComI w1 wl (.slice (some ⟨w1.heap.size, 0, none⟩) 0 0) (.slice (some ⟨w1.heap.size + 1, 0, none⟩) 0 0) [] [] [] (w1.heap.size + 1) := by
    rw [← hwl]
    refine ⟨?_, rfl, ?_, by omega, by simp, fun k x c hx => by simp at hx, new_ (new_ (Below.refl _ _) _) _⟩
    · have h1 := World.ownsRow_made (base := w1.heap.size) (e := 22) (size := 1) w1 #[] 0 (Nat.le_refl _) (by decide) (by simp)
      simpa using ca_own_alloc (by simpa using h1) _
    · have h1 := own_empty (w1.alloc (.cells #[] 22))
      rw [World.size_alloc] at h1
      exact h1
  have HI0 := Lib.hid hI0
  have hTC : comS g = comT [] (T.map (·.1)) := by unfold comS tkS; rw [HT.out]
  have HTC := Lib.hid hTC
  rw [hwl]
  clear hwl hI0 hTC
  go_loopw [6, 7, 8] (fun bv ov kv wr => ∃ (k : Nat) (cur : List (List UInt8)) (pre : List (List (List UInt8))) (vals : List Value) (Bc : Nat), k ≤ T.length ∧ kv = .int .i64 k ∧ cur.length ≤ k ∧ pre.length ≤ k ∧ comS g = pre ++ comT cur ((T.map (·.1)).drop k) ∧ ComI w1 wr bv ov vals pre cur Bc) (fun _ _ kv _ => T.length - (intOf kv).toNat)
  case atStart => exact ⟨0, [], [], [], _, Nat.zero_le _, rfl, Nat.le_refl _, Nat.le_refl _, HTC.out, HI0.out⟩
  case round =>
    obtain ⟨k, cur, pre, vals, Bc, hk, rfl, hcl, hpl, hit, hI⟩ := hrel
    have HIT := Lib.hid hit
    have HI := Lib.hid hI
    obtain ⟨A7, c7, rfl, hc7⟩ := own_form hI.2.2.1
    obtain ⟨A6, c6, rfl, hc6⟩ := own_form hI.1
    clear hit hI
    by_cases hlt : k < T.length
    · obtain ⟨t, ht⟩ : ∃ t, T[k]? = some t := ⟨_, List.getElem?_eq_getElem hlt⟩
      have hd : (T.map (·.1)).drop k = t.1 :: (T.map (·.1)).drop (k + 1) := by
        have h1 : (T.map (·.1))[k]? = some t.1 := by rw [List.getElem?_map, ht]; rfl
        obtain ⟨hk2, e⟩ := List.getElem?_eq_some_iff.1 h1
        rw [List.drop_eq_getElem_cons hk2, e]
      have HD := Lib.hid hd
      obtain ⟨A', c', hv, _, _, hxx⟩ := HV1.out.open_
      obtain ⟨b, o, hA, z0, -⟩ := hxx k t ht
      obtain ⟨rfl, _, rfl⟩ := (by simpa using hv : A1 = A' ∧ True ∧ c1 = c')
      subst hA
      clear hv hxx ht hd
      obtain ⟨u, hu⟩ : ∃ u, t.1 = u := ⟨_, rfl⟩
      rw [hu] at z0 HD
      have x0 := cellB z0 HI.out.2.2.2.2.2.2
      have HU := Lib.hid hu
      clear hu
      obtain ⟨i0, hi, hz0, hz1, hz2⟩ := info_parts (show (Tryd.prog.info? 9).map (fun i => (i.zero, i.size, i.bytes)) = some (some (.string ⟨#[]⟩), 1, 16) by kernel_rfl)
      have h3 := HI.out.2.2.1
      have h5 := HI.out.2.2.2.2.1
      by_cases hue : u = [36, 41]
      · have e1 : (u == [36, 41]) = true := by rw [hue]; rfl
        have HN : Hid (comS g = (pre ++ [cur ++ [u]]) ++ comT [] ((T.map (·.1)).drop (k + 1))) := Lib.hid (by rw [HIT.out, HD.out, comT, if_pos hue]; simp)
        clear hue
        obtain ⟨j0, hj, jz0, jz1, jz2⟩ := info_parts (show (Tryd.prog.info? 22).map (fun i => (i.zero, i.size, i.bytes)) = some (some (.slice none 0 0), 1, 24) by kernel_rfl)
        go_wp2_with (at_builtin; first
          | (refine wpList_append_own _ rfl (.tmp 23) (.tmp 29) 22 rfl Bc 9 i0 (.string ⟨#[]⟩) 1 16 Tryd.underlying22 hi hz0 hz1 hz2 rfl (by decide) (.slice A7 cur.length c7) cur.length (strC cur) rfl (h3.alloc _) ⟨wr.heap.size, 0, none⟩ 1 1 [.string ⟨u.toArray⟩] rfl rfl (cell_one_new _ _ _) (by simp [Value.oneCell']) (by unfold maxLen; omega) (by omega) (by simp; omega) ?_; intro v' w2 hown' hgrow _; obtain ⟨A8, c8, rfl, hc8⟩ := own_form hown'; have HW := Lib.hid ((HI.out.below (new_ (Below.refl _ _) _)).word hown' hgrow); have y0 := cellB z0 HW.out.2.2.2.2.2.2; have hz2' := HW.out.2.2.2.2.2.2.size)
          | (refine wpList_append_own _ rfl (.tmp 37) (.tmp 39) 119 rfl w1.heap.size 22 j0 (.slice none 0 0) 1 24 Tryd.underlying119 hj jz0 jz1 jz2 rfl (by decide) (.slice A6 pre.length c6) pre.length vals rfl (HW.out.1.alloc _) ⟨w2.heap.size, 0, none⟩ 1 1 [.slice A8 (cur.length + 1) c8] rfl rfl (cell_one_new _ _ _) (by simp [Value.oneCell']) (by unfold maxLen; omega) (by omega) (by simp; omega) ?_; intro v' w4 hown' hgrow _; have HX := Lib.hid ((HW.out.below (new_ (Below.refl _ _) _)).put hown' hgrow))
          | fail)
        go_roundw
        case rel => exact ⟨k + 1, [], pre ++ [cur ++ [u]], _, _, by omega, by go_num, by simp, by simp; omega, HN.out, HX.out⟩
        case measure => simp [intOf]; omega
      · have e1 : (u == [36, 41]) = false := by simpa using hue
        have HN : Hid (comS g = pre ++ comT (cur ++ [u]) ((T.map (·.1)).drop (k + 1))) := Lib.hid (by rw [HIT.out, HD.out, comT, if_neg hue])
        go_wp2_with (at_builtin; refine wpList_append_own _ rfl (.tmp 23) (.tmp 29) 22 rfl Bc 9 i0 (.string ⟨#[]⟩) 1 16 Tryd.underlying22 hi hz0 hz1 hz2 rfl (by decide) (.slice A7 cur.length c7) cur.length (strC cur) rfl (h3.alloc _) ⟨wr.heap.size, 0, none⟩ 1 1 [.string ⟨u.toArray⟩] rfl rfl (cell_one_new _ _ _) (by simp [Value.oneCell']) (by unfold maxLen; omega) (by omega) (by simp; omega) ?_; intro v' w2 hown' hgrow _; have HW := Lib.hid ((HI.out.below (new_ (Below.refl _ _) _)).word hown' hgrow); have y0 := cellB z0 HW.out.2.2.2.2.2.2)
        go_roundw
        case rel => exact ⟨k + 1, cur ++ [u], pre, vals, Bc, by omega, by go_num, by simp; omega, by omega, HN.out, HW.out⟩
        case measure => simp [intOf]; omega
    · obtain rfl : k = T.length := by omega
      have HC : Hid (pre = comS g) := Lib.hid (by
        have h1 := HIT.out
        rw [List.drop_of_length_le (by simp), comT, List.append_nil] at h1
        exact h1.symm)
      go_wp2
      go_ret
      obtain ⟨h1, h2, _, _, _, h6, h7⟩ := HI.out
      refine ⟨_, rfl, ⟨vals, by rw [← HC.out]; exact Rds.of_own h1, ⟨TyB.of_own h1, fun g e => Nat.le_trans HB1.out.size (h1.lt g e).1⟩, by rw [← HC.out]; exact h2, fun k x c hx hc => ?_⟩, then_ HB1.out h7⟩
      rw [← HC.out] at hc
      obtain ⟨a, b, d⟩ := h6 k x c hx hc
      exact ⟨a, b, fun g e => Nat.le_trans HB1.out.size (d g e).1⟩
end Go.Proofs.YtpmbfcogkoiogaaDoor
end
section
namespace Go.Proofs.YtpmbfcogkoiogaaDoor
open Go.RowKit
/-- a slice of slices of strings, all of it between two heights of the heap -/
def ComsR (lo hi : Nat) (w : World) (v : Value) (L : List (List (List UInt8))) : Prop := ∃ vals : List Value, Rds w 1 v L.length vals ∧ (∀ g, v.ownBlock = some g → lo ≤ g ∧ g < hi) ∧ vals.length = L.length ∧ ∀ (k : Nat) x c, vals[k]? = some x → L[k]? = some c → Strs w x c ∧ ∀ g, x.ownBlock = some g → lo ≤ g ∧ g < hi
section
variable {lo hi : Nat} {w w' w5 : World} {v lv lv' : Value} {L : List (List (List UInt8))} {line c : List (List UInt8)}
theorem Coms.toR (h : Coms lo w v L) : ComsR lo w.heap.size w v L := by
  obtain ⟨vals, h1, ⟨h2, h3⟩, h4, h5⟩ := h
  refine ⟨vals, h1, fun g e => ⟨h3 g e, ?_⟩, h4, fun k x c hx hc => ?_⟩
  · obtain ⟨c, fr, hg⟩ := h2 g e
    exact (Array.getElem?_eq_some_iff.1 hg).1
  · obtain ⟨a, b, d⟩ := h5 k x c hx hc
    refine ⟨a, fun g e => ⟨d g e, ?_⟩⟩
    obtain ⟨c, fr, hg⟩ := b g e
    exact (Array.getElem?_eq_some_iff.1 hg).1
theorem ComsR.kept (h : ComsR lo hi w v L) (hk : ∀ b, lo ≤ b → b < hi → w'.heap[b]? = w.heap[b]?) : ComsR lo hi w' v L := by
  obtain ⟨vals, h1, h2, h4, h5⟩ := h
  refine ⟨vals, h1.same fun g _ e o => ?_, h2, h4, fun k x c hx hc => ?_⟩
  · unfold World.cell?
    rw [hk g (h2 g e).1 (h2 g e).2]
  · obtain ⟨a, d⟩ := h5 k x c hx hc
    refine ⟨Rds.same a fun g _ e o => ?_, d⟩
    unfold World.cell?
    rw [hk g (d g e).1 (d g e).2]
theorem ComsR.form (h : ComsR lo hi w v L) : ∃ A cp, v = .slice A L.length cp ∧ L.length ≤ maxLen := by
  obtain ⟨vals, ⟨A, cp, h1, _, h2, _⟩, _⟩ := h
  exact ⟨A, cp, h1, h2⟩
theorem ComsR.at (h : ComsR lo hi w v L) {j : Nat} (hc : L[j]? = some c) : ∃ b o cp x, v = .slice (some ⟨b, o, none⟩) L.length cp ∧ w.cell? ⟨b, o + j, none⟩ = some x ∧ Strs w x c := by
  obtain ⟨vals, ⟨A, cp, h1, _, h2, h3, h4⟩, _, h5, h6⟩ := h
  have hj := (List.getElem?_eq_some_iff.1 hc).1
  obtain ⟨b, o, rfl, h7⟩ := h4 (by omega)
  obtain ⟨x, hx⟩ : ∃ x, vals[j]? = some x := ⟨_, List.getElem?_eq_getElem (by omega)⟩
  exact ⟨b, o, cp, x, h1, h7 j x hx, (h6 j x c hx hc).1⟩
/-- the line, and the comments beside it -/
def RrI (w5 : World) (lo hi : Nat) (wr : World) (lv : Value) (line : List (List UInt8)) (v : Value) (L : List (List (List UInt8))) : Prop :=
  wr.ownsRow w5.heap.size 9 1 lv line.length (strC line) ∧ Below w5.heap.size w5 wr ∧ hi ≤ wr.heap.size ∧ (∀ g, lv.ownBlock = some g → g < lo ∨ hi ≤ g) ∧ ComsR lo hi wr v L
theorem RrI.start {wm w7 : World} (h : wm.ownsRow w5.heap.size 9 1 lv line.length (strC line)) (hb : Below w5.heap.size w5 wm) (hc : Coms wm.heap.size w7 v L) (h7 : Below wm.heap.size wm w7) : RrI w5 wm.heap.size w7.heap.size w7 lv line v L :=
  ⟨own_below h h7, then_ hb h7, Nat.le_refl _, fun g e => .inl (h.lt g e).2, hc.toR⟩
theorem RrI.below (h : RrI w5 lo hi w lv line v L) (hb : Below w.heap.size w w') : RrI w5 lo hi w' lv line v L := by
  obtain ⟨h1, h2, h3, h4, h5⟩ := h
  exact ⟨own_below h1 hb, then_ h2 hb, Nat.le_trans h3 hb.size, h4, h5.kept fun b _ hb2 => hb.block b (by omega)⟩
theorem RrI.app (h : RrI w5 lo hi w lv line v L) (ho : w'.ownsRow w5.heap.size 9 1 lv' (line.length + c.length) (strC line ++ strC c)) (hg : w.grownBy w' lv.ownBlock) (ha : lv'.ownBlock = lv.ownBlock ∨ lv'.ownBlock = some w.heap.size) : RrI w5 lo hi w' lv' (line ++ c) v L := by
  obtain ⟨h1, h2, h3, h4, h5⟩ := h
  refine ⟨by simpa [strC] using ho, h2.grown hg h2.size fun k e => (h1.lt k e).1, Nat.le_trans h3 hg.size, fun g e => ?_, h5.kept fun b hb1 hb2 => hg.block b (by omega) fun e => ?_⟩
  · rcases ha with ha | ha
    · exact h4 g (ha ▸ e)
    · rw [ha] at e
      cases e
      exact .inr h3
  · rcases h4 b e.symm with h | h <;> omega
end
theorem rr_ne : ∀ (T cur : List (List UInt8)), ∀ c ∈ comT cur T, c ≠ []
  | [], _, c, h => by cases h
  | t :: T, cur, c, h => by
    rw [comT] at h
    split at h
    · rcases List.mem_cons.1 h with rfl | h
      · simp
      · exact rr_ne T _ c h
    · exact rr_ne T _ c h
theorem rr_cne {g : List UInt8} {c : List (List UInt8)} (h : c ∈ comS g) : c ≠ [] := rr_ne _ _ c h
theorem len_flat {l : List (List (List UInt8))} {x : List (List UInt8)} (h : x ∈ l) : x.length ≤ l.flatten.length := (List.sublist_flatten_of_mem h).length_le
theorem tkS_len (g : List UInt8) : (tkS g).length = (toks 0 g).length := by unfold tkS; rw [List.length_map]
/-- what is known of the document of a text -/
theorem rr_facts {text : List UInt8} {d : List PartD} {tl : List UInt8} {off : Nat} (h : docS text = (d, tl, off, 0)) (hn : text.length ≤ 40000) :
    RwSz d tl ∧ (∀ x ∈ d, (mostS x.1.kind = 0 → x.1.text = []) ∧ ∀ g ∈ x.2, blankP g = true ∧ g.length ≤ 40000 ∧ (toks 0 g).length ≤ 8000) ∧ blankP tl = true ∧ tl.length ≤ 40000 ∧ (toks 0 tl).length ≤ 8000 := by
  obtain ⟨ha, hl, hr, ho, ht⟩ := doc_facts h
  have hz := rw_sz h (by omega)
  obtain ⟨hb1, hb2⟩ := doc_blank hr
  obtain ⟨q1, q2⟩ := docQ_all d hl hb1
  have hall := allW_fine ha
  have hol : (outS d).length + tl.length = text.length := by rw [← ho, List.length_append]
  have hnum := hz.num
  rw [List.length_append, q1] at hnum
  refine ⟨hz, fun x hx => ⟨formed_none (hall x.1 (List.mem_map_of_mem hx)), fun g hg => ⟨hb1 x hx g hg, ?_, ?_⟩⟩, hb2, by omega, ?_⟩
  · have := out_gap hl hx hg
    omega
  · have h1 : (tkS g).length ≤ (((d.map (·.2)).flatten).map tkS).flatten.length := len_flat (List.mem_map_of_mem (List.mem_flatten.2 ⟨x.2, List.mem_map_of_mem (f := fun x : PartD => x.2) hx, hg⟩))
    rw [tkS_len] at h1
    omega
  · have hcf : (comS tl).flatten = tkS tl := com_flat (blank_tk.1 hb2).2
    rw [hcf, tkS_len] at hnum
    omega
end Go.Proofs.YtpmbfcogkoiogaaDoor
end
section
namespace Go.Proofs.YtpmbfcogkoiogaaDoor
open Go.RowKit
attribute [local go_sem ↓] Go.wp_at_zero Go.wp_at_succ
def RrwPost (w : World) (r : List UInt8 × Nat × Int) (e : Ending) (w' : World) : Prop := e = .returned (.tuple #[.string ⟨r.1.toArray⟩, .int .i64 (r.2.1 : Nat), .int .i64 r.2.2]) ∧ Below w.heap.size w w'
theorem rr_ends {X tl : List UInt8} {D W : Int} {pre : List (List (List UInt8))} (hp : pre <+: comS tl) (hq : X.length + (sumL (comS tl).flatten + (comS tl).flatten.length * 1006) ≤ 20000000) : (X ++ pre.flatMap (blockS (indS D) W)).length ≤ 20000000 := by
  have h1 := blocks_len D W pre
  have h2 := sumL_prefix (flat_prefix hp)
  rw [List.length_append]
  omega
theorem rr_com {T : List (List (List UInt8))} {c : List (List UInt8)} {j : Nat} (h : T[j]? = some c) : c.length ≤ T.flatten.length ∧ sumL c ≤ sumL T.flatten := by
  have h1 : T.take j ++ [c] <+: T := ⟨T.drop (j + 1), by rw [← take_snoc h, List.take_append_drop]⟩
  have h2 := sumL_prefix (flat_prefix h1)
  rw [List.flatten_append, sumL_app, List.length_append] at h2
  simp only [List.flatten_cons, List.flatten_nil, List.append_nil] at h2
  omega
set_option maxRecDepth 100000 in
set_option maxHeartbeats 8000000 in
theorem ref_rewrap (w : World) (text : List UInt8) (W : Int) (hn : text.length ≤ 40000) :
    Calls Tryd.prog 33 #[.string ⟨text.toArray⟩, .int .i64 W] w (RrwPost w (rewrapS text W)) := by
  obtain ⟨⟨d, tl, off, err⟩, hd⟩ : ∃ R, docS text = R := ⟨_, rfl⟩
  have HD := Lib.hid hd
  clear hd
  have HN := Lib.hid hn
  clear hn
  go_enter Tryd.func33, Tryd.ntmps33
  go_wp2_with fail
  refine (ref_doc _ text (Nat.le_trans HN.out (by decide))).mono ?_
  rw [HD.out]
  rintro e w1 ⟨v1, rfl, hp, hb1⟩
  have HP := Lib.hid hp
  have HB1 := Lib.hid hb1
  obtain ⟨A1, c1, rfl, hc1, hm1, -⟩ := hp.open_
  clear hp hb1
  by_cases herr : err = 0
  · subst herr
    have HF := Lib.hid (rr_facts HD.out HN.out)
    have HZ := Lib.hid HF.out.1
    have e1 : ((0 : Int) != 0) = false := rfl
    have hfew := HZ.out.few
    unfold maxLen at hm1
    obtain ⟨wl, hwl⟩ : ∃ wl, w1.alloc (.cells #[.slice A1 d.length c1, .string ⟨tl.toArray⟩] 45) = wl := ⟨_, rfl⟩
    have HR7 : Hid (Row wl w1.heap.size 45 #[.slice A1 d.length c1, .string ⟨tl.toArray⟩]) := Lib.hid (by rw [← hwl]; exact Row.new _ _ _)
    have HBL : Hid (Below w1.heap.size w1 wl) := Lib.hid (by rw [← hwl]; exact new_ (Below.refl _ _) _)
    go_wp2_with fail
    clear hwl
    go_loopw [10, 11, 12] (fun ov dv kv wr => ∃ i : Nat, i ≤ d.length ∧ kv = .int .i64 i ∧ dv = .int .i64 (depD 0 (d.take i)) ∧ ov = .string ⟨(rewS W 0 (d.take i)).toArray⟩ ∧ Below wl.heap.size wl wr) (fun _ _ kv _ => d.length - (intOf kv).toNat)
    case atStart => exact ⟨0, Nat.zero_le _, rfl, rfl, rfl, Below.refl _ _⟩
    case round =>
      obtain ⟨wo, rfl⟩ : ∃ wo, wo = wr := ⟨_, rfl⟩
      obtain ⟨i, hi, rfl, rfl, rfl, hB⟩ := hrel
      by_cases hlt : i < d.length
      · obtain ⟨y, hy⟩ : ∃ y, d[i]? = some y := ⟨_, List.getElem?_eq_getElem hlt⟩
        obtain ⟨A', c', hv, _, _, hxx⟩ := HP.out.open_
        obtain ⟨b, o, tv, pv, gv, hA, g0, g1, g2, g3, g4, hT, hPf, hG⟩ := hxx i y hy
        obtain ⟨rfl, _, rfl⟩ := (by simpa using hv : A1 = A' ∧ True ∧ c1 = c')
        subst hA
        obtain ⟨T1, d1, rfl, -⟩ := hT.open_
        obtain ⟨P1, e1, rfl, -⟩ := hPf.open_
        obtain ⟨G1, f1, rfl, hcg, hmg, -⟩ := hG.open_
        have hmem := List.mem_of_getElem? hy
        have HT := Lib.hid hT
        have HPF := Lib.hid hPf
        have HG := Lib.hid hG
        have hlen : y.2.length = (wordsS y.1).length := by
          have := List.all_eq_true.1 HZ.out.lens y hmem
          simpa using this
        have HOK := Lib.hid (HZ.out.ok y hmem)
        have HFY := Lib.hid (HF.out.2.1 y hmem)
        have q5 := depD_le (d.take i) 0
        rw [List.length_take] at q5
        have q6 := rew_len W (d.take i) 0
        have q7 := docQ_split hy
        have q8 := HZ.out.num
        have q9 := HZ.out.sum
        rw [List.length_append] at q8
        rw [sumL_app] at q9
        have HNX := Lib.hid (rewS_snoc hy W 0)
        have HDX := Lib.hid (depD_snoc hy 0)
        obtain ⟨X, hX⟩ : ∃ X, rewS W 0 (d.take i) = X := ⟨_, rfl⟩
        obtain ⟨D, hD⟩ : ∃ D, depD 0 (d.take i) = D := ⟨_, rfl⟩
        obtain ⟨ws, hws⟩ : ∃ ws, wordsS y.1 = ws := ⟨_, rfl⟩
        rw [hX] at HNX q6
        rw [hD] at q5 HNX HDX
        rw [hws] at hlen q7 HNX
        rw [hX, hD]
        have hdl : -1000000 ≤ D ∧ D ≤ 1000000 := by omega
        have hal : -1000000 ≤ atD D y.1.kind ∧ atD D y.1.kind ≤ 1000000 := by unfold atD; split <;> omega
        have HDL := Lib.hid (And.intro hdl hal)
        have HSZ : Hid (X.length + (sumL (partQ y.2 ws) + (partQ y.2 ws).length * 1006) ≤ 20000000 ∧ (partQ y.2 ws).length ≤ 8000 ∧ sumL (partQ y.2 ws) ≤ 1000000) := Lib.hid (by omega)
        have HLEN := Lib.hid hlen
        have HWS := Lib.hid hws
        have HWN : Hid (ws ≠ []) := Lib.hid (hws ▸ words_ne y.1)
        have HBW := Lib.hid (then_ HBL.out hB)
        have HBO := Lib.hid hB
        have k0 := cellB g0 HBW.out
        have k1 := cellB g1 HBW.out
        have k2 := cellB g2 HBW.out
        have k3 := cellB g3 HBW.out
        have k4 := cellB g4 HBW.out
        have R7 := (HR7.out.below hB HR7.out.lt).cell (i := 0) (v := .slice (some ⟨b, o, none⟩) d.length c1) rfl
        have hr13 := Row.new wo 90 #[.int .i64 y.1.kind, .string ⟨y.1.label.toArray⟩, .slice T1 y.1.text.length d1, .slice P1 y.1.proof.length e1, .slice G1 y.2.length f1]
        have p0 := hr13.cell (i := 0) (v := .int .i64 y.1.kind) rfl
        have p1 := hr13.cell (i := 1) (v := .string ⟨y.1.label.toArray⟩) rfl
        have p2 := hr13.cell (i := 2) (v := .slice T1 y.1.text.length d1) rfl
        have p3 := hr13.cell (i := 3) (v := .slice P1 y.1.proof.length e1) rfl
        clear hxx hv hT hPf hG hmem hy q5 q6 q7 q8 q9 hX hD hdl hal hlen hws g0 g1 g2 g3 g4 hB
        go_wp2_with fail
        obtain ⟨w2, hw2⟩ : ∃ w2, wo.alloc (.cells #[.int .i64 y.1.kind, .string ⟨y.1.label.toArray⟩, .slice T1 y.1.text.length d1, .slice P1 y.1.proof.length e1, .slice G1 y.2.length f1] 90) = w2 := ⟨_, rfl⟩
        have HB2 : Hid (Below wl.heap.size wl w2) := Lib.hid (hw2 ▸ new_ HBO.out _)
        have HR13 : Hid (Row w2 wo.heap.size 90 #[.int .i64 y.1.kind, .string ⟨y.1.label.toArray⟩, .slice T1 y.1.text.length d1, .slice P1 y.1.proof.length e1, .slice G1 y.2.length f1]) := Lib.hid (hw2 ▸ hr13)
        rw [hw2]
        clear hw2 hr13 p0 p1 p2 p3 k0 k1 k2 k3 k4 R7
        refine (ref_depthAt w2 D y.1.kind _ _ _ HDL.out.1).mono ?_
        rintro e w3 ⟨rfl, hb3⟩
        have hr13 := HR13.out.below hb3 HR13.out.lt
        have HR13' := Lib.hid hr13
        have HB3 := Lib.hid (then_ HB2.out hb3)
        have p0 := hr13.cell (i := 0) (v := .int .i64 y.1.kind) rfl
        have p1 := hr13.cell (i := 1) (v := .string ⟨y.1.label.toArray⟩) rfl
        have p2 := hr13.cell (i := 2) (v := .slice T1 y.1.text.length d1) rfl
        have p3 := hr13.cell (i := 3) (v := .slice P1 y.1.proof.length e1) rfl
        clear hb3 hr13
        go_wp2_with fail
        refine (ref_words w3 y.1 _ _ (Strs.below HT.out (then_ HBL.out HB3.out)) (Strs.below HPF.out (then_ HBL.out HB3.out)) HOK.out.1 HFY.out.1 (by have := HOK.out; omega) (by have := HOK.out; omega)).mono ?_
        rw [HWS.out]
        rintro e w5 ⟨v5, rfl, hv5, hb5⟩
        have HR5 := Lib.hid (HR13'.out.below hb5 HR13'.out.lt)
        have HB5 := Lib.hid (then_ HB3.out hb5)
        obtain ⟨A5, c5, rfl, hc5, hm5, -⟩ := hv5.open_
        unfold maxLen at hm5
        have HV5 := Lib.hid hv5
        clear hv5 hb5 p0 p1 p2 p3
        go_wp2_with fail
        obtain ⟨w6, hw6⟩ : ∃ w6, w5.alloc (.cells #[] 9) = w6 := ⟨_, rfl⟩
        have HO6 : Hid (w6.ownsRow w5.heap.size 9 1 (.slice (some ⟨w5.heap.size, 0, none⟩) 0 0) 0 (strC [])) := Lib.hid (hw6 ▸ own_empty w5)
        have HB6 : Hid (Below w5.heap.size w5 w6) := Lib.hid (hw6 ▸ new_ (Below.refl _ _) _)
        rw [hw6]
        clear hw6
        obtain ⟨IND, hIND⟩ : ∃ I, indS (atD D y.1.kind) = I := ⟨_, rfl⟩
        rw [hIND] at HNX
        have HIND := Lib.hid hIND
        have HINL : Hid (IND.length ≤ 1000) := Lib.hid (hIND ▸ Nat.le_trans (indS_len _) (by decide))
        have HOL : Hid (∀ k pre, (k = 0 → pre <+: comS (y.2.headD [])) → (oS IND W X y.2 k pre).length ≤ 20000000) := Lib.hid fun k pre hp => by
          have h1 := o_len (D := atD D y.1.kind) (W := W) (X := X) (j := k) HLEN.out HWN.out hp
          rw [hIND] at h1
          exact Nat.le_trans h1 HSZ.out.1
        clear hIND
        go_loopw [10, 17, 18] (fun ov lv kv wr => ∃ k : Nat, k ≤ ws.length ∧ kv = .int .i64 k ∧ ov = .string ⟨(oS IND W X y.2 k []).toArray⟩ ∧ wr.ownsRow w5.heap.size 9 1 lv (bS y.2 ws k []).length (strC (bS y.2 ws k [])) ∧ Below w5.heap.size w5 wr) (fun _ _ kv _ => ws.length - (intOf kv).toNat)
        case atStart => exact ⟨0, Nat.zero_le _, rfl, by simp [oS], HO6.out, HB6.out⟩
        case round =>
          obtain ⟨wm, rfl⟩ : ∃ wm, wm = wr := ⟨_, rfl⟩
          obtain ⟨k, hk, rfl, rfl, hO, hBm⟩ := hrel
          have HO := Lib.hid hO
          have HBM := Lib.hid hBm
          obtain ⟨A17, c17, rfl, hc17⟩ := own_form hO
          clear hO hBm
          by_cases hkl : k < ws.length
          · obtain ⟨u, hu⟩ : ∃ u, ws[k]? = some u := ⟨_, List.getElem?_eq_getElem hkl⟩
            have hkg : k < y.2.length := by have := HLEN.out; omega
            obtain ⟨g, hg⟩ : ∃ g, y.2[k]? = some g := ⟨_, List.getElem?_eq_getElem hkg⟩
            obtain ⟨A', c', hv, _, _, hxx⟩ := HG.out.open_
            obtain ⟨bg, og, hA, gc⟩ := hxx k g hg
            obtain ⟨rfl, _, rfl⟩ := (by simpa using hv : G1 = A' ∧ True ∧ f1 = c')
            subst hA
            clear hv hxx
            obtain ⟨A', c', hv, _, _, hxx⟩ := HV5.out.open_
            obtain ⟨bw, ow, hA, uc⟩ := hxx k u hu
            obtain ⟨rfl, _, rfl⟩ := (by simpa using hv : A5 = A' ∧ True ∧ c5 = c')
            subst hA
            clear hv hxx
            have HGK := Lib.hid hg
            have HUK := Lib.hid hu
            have HUC := Lib.hid uc
            have HGP := Lib.hid (HFY.out.2 g (List.mem_of_getElem? hg))
            have gc5 := cellB gc (then_ (then_ HBL.out HB5.out) HBM.out)
            have p4 := (HR5.out.below HBM.out HR5.out.lt).cell (i := 4) (v := .slice (some ⟨bg, og, none⟩) y.2.length f1) rfl
            clear hg hu uc gc
            go_wp2_with fail
            refine (ref_comments wm g HGP.out.1 HGP.out.2.1 HGP.out.2.2).mono ?_
            rintro e w7 ⟨v7, rfl, hv7, hb7⟩
            have HI7 := Lib.hid (RrI.start HO.out HBM.out hv7 hb7)
            obtain ⟨A7, c7, rfl, hm7⟩ := hv7.toR.form
            unfold maxLen at hm7
            obtain ⟨T, hT⟩ : ∃ T, comS g = T := ⟨_, rfl⟩
            rw [hT] at hm7 HI7 ⊢
            have HT7 := Lib.hid hT
            have HBT : Hid (∀ pre, pre <+: T → (bS y.2 ws k pre).length ≤ 8000) := Lib.hid fun pre hp => Nat.le_trans (b_len HLEN.out HGK.out HUK.out (hT ▸ hp)).1 HSZ.out.2.1
            have HOT : Hid (∀ pre, pre <+: T → (oS IND W X y.2 k pre).length ≤ 20000000) := Lib.hid fun pre hp => HOL.out k pre fun e => by
              have h1 := HGK.out
              subst e
              have h2 : y.2.headD [] = g := by
                cases hy : y.2 with
                | nil => rw [hy] at h1; simp at h1
                | cons a r => rw [hy] at h1; simpa using h1
              rw [h2, hT]
              exact hp
            have HCN : Hid (∀ (j : Nat) c, T[j]? = some c → c ≠ [] ∧ c.length ≤ 8000 ∧ sumL c ≤ 1000000) := Lib.hid fun j c hc => by
              have h1 := rr_com hc
              have h2 := part_gap HGK.out hkl
              have h3 := HSZ.out
              rw [hT] at h2
              exact ⟨rr_cne (hT ▸ List.mem_of_getElem? hc), by omega, by omega⟩
            clear hv7 hb7 hT p4 gc5 hc17
            go_wp2_with fail
            go_loopw [10, 17, 20] (fun ov lv jv wr => ∃ j : Nat, j ≤ T.length ∧ jv = .int .i64 j ∧ ov = .string ⟨(oS IND W X y.2 k (T.take j)).toArray⟩ ∧ RrI w5 wm.heap.size w7.heap.size wr lv (bS y.2 ws k (T.take j)) (.slice A7 T.length c7) T) (fun _ _ jv _ => T.length - (intOf jv).toNat)
            case atStart => exact ⟨0, Nat.zero_le _, rfl, rfl, HI7.out⟩
            case round =>
              obtain ⟨wi, rfl⟩ : ∃ wi, wi = wr := ⟨_, rfl⟩
              obtain ⟨j, hj, rfl, rfl, hI⟩ := hrel
              have HOJ := Lib.hid (HOT.out _ (List.take_prefix j T))
              have HBJ := Lib.hid (HBT.out _ (List.take_prefix j T))
              obtain ⟨L, hL⟩ : ∃ L, bS y.2 ws k (T.take j) = L := ⟨_, rfl⟩
              rw [hL] at hI HBJ
              have HL := Lib.hid hL
              have HI := Lib.hid hI
              have h3 := hI.1
              obtain ⟨A18, c18, rfl, hc18⟩ := own_form hI.1
              have hz3 := hI.2.1.size
              have hbl := HBJ.out
              clear hI hL
              obtain ⟨i0, hi, hz0, hz1, hz2⟩ := info_parts (show (Tryd.prog.info? 9).map (fun i => (i.zero, i.size, i.bytes)) = some (some (.string ⟨#[]⟩), 1, 16) by kernel_rfl)
              by_cases hjl : j < T.length
              · obtain ⟨c, hc⟩ : ∃ c, T[j]? = some c := ⟨_, List.getElem?_eq_getElem hjl⟩
                obtain ⟨bc, oc, cp, x, hA, cx, hx⟩ := HI.out.2.2.2.2.at hc
                obtain ⟨rfl, rfl⟩ := (by simpa using hA : A7 = some ⟨bc, oc, none⟩ ∧ c7 = cp)
                have HC := Lib.hid (HCN.out j c hc)
                have HSN := Lib.hid (take_snoc hc)
                have HX := Lib.hid hx
                obtain ⟨Ax, cpx, rfl, hcx, hmx, hlx, hrx⟩ := hx
                obtain ⟨bx, ox, rfl, hcells⟩ := hrx (List.length_pos_iff.2 HC.out.1)
                have HCL := Lib.hid hcells
                have hcl := HC.out.2.1
                clear hA hrx hcells hlx hc
                by_cases hk0 : k = 0
                · have e2 : ((k : Int) == 0) = true := by rw [hk0]; rfl
                  have HK0 := Lib.hid hk0
                  clear hk0
                  obtain ⟨O, hO⟩ : ∃ O, oS IND W X y.2 k (T.take j) = O := ⟨_, rfl⟩
                  obtain ⟨BL, hBL⟩ : ∃ BL, blockS IND W c = BL := ⟨_, rfl⟩
                  obtain ⟨O2, hO2⟩ : ∃ O2, O ++ BL = O2 := ⟨_, rfl⟩
                  have HN2 : Hid (oS IND W X y.2 k (T.take (j + 1)) = O2) := Lib.hid (by
                    rw [HSN.out, HK0.out, o_snoc, ← HK0.out, hO, hBL, hO2])
                  have HL2 : Hid (bS y.2 ws k (T.take (j + 1)) = L) := Lib.hid (by
                    have h1 := HL.out
                    rw [HK0.out] at h1 ⊢
                    rw [← h1]
                    exact b_zero)
                  have HBL2 := Lib.hid hBL
                  have hob : O.length ≤ 20000000 := hO ▸ HOJ.out
                  have hbb : BL.length ≤ 20000000 := by
                    have h1 := blockS_len (atD D y.1.kind) W c
                    rw [HIND.out, hBL] at h1
                    have := HC.out
                    omega
                  have hca := cat_run hO2 (by omega)
                  rw [hO]
                  clear hO hBL hO2 hob hbb h3
                  go_wp2_with fail
                  go_region_held3 (fun W' => W'.cell? ⟨bc, oc + j, none⟩ = some (.slice (some ⟨bx, ox, none⟩) c.length cpx)) (go_keep) (first | (go_at_call 71; (refine (ref_indent _ _ HDL.out.2).mono ?_; rw [HIND.out]; rintro e w8 ⟨rfl, rfl⟩)) | (go_at_call 70; (refine (ref_rblock _ _ c IND W (Strs.below HX.out (Below.refl _ _).drew) HINL.out (Nat.le_trans HC.out.2.1 (by decide)) HC.out.2.2).mono ?_; rw [HBL2.out]; rintro e w8 ⟨rfl, hb8⟩; have HB8 : Hid (Below wi.heap.size wi w8) := Lib.hid ((Below.refl _ wi).drew.trans hb8); have cx8 := cellB cx HB8.out)) | fail)
                  have HI8 := Lib.hid (HI.out.below HB8.out)
                  clear hca hb8 cx8 cx hcx hmx hcl hc18
                  go_wp2_with fail
                  go_roundw
                  case rel => exact ⟨j + 1, by omega, by go_num, by rw [HN2.out], by rw [HL2.out]; exact HI8.out⟩
                  case measure => simp [intOf]; omega
                · have e2 : ((k : Int) == 0) = false := by rw [beq_eq_false_iff_ne]; omega
                  have HK0 := Lib.hid hk0
                  have HN2 : Hid (oS IND W X y.2 k (T.take (j + 1)) = oS IND W X y.2 k (T.take j)) := Lib.hid (o_other hk0)
                  have HL2 : Hid (bS y.2 ws k (T.take (j + 1)) = L ++ c) := Lib.hid (by rw [HSN.out, b_snoc hk0, HL.out])
                  clear hk0
                  go_wp2_with (at_builtin; refine wpList_append_own_at _ rfl (.tmp 87) (.tmp 91) 22 rfl w5.heap.size 9 i0 (.string ⟨#[]⟩) 1 16 Tryd.underlying22 hi hz0 hz1 hz2 rfl (by decide) (.slice A18 L.length c18) L.length (strC L) rfl h3 ⟨bx, ox, none⟩ c.length cpx (strC c) rfl (by simp [strC]) (fun j u hu => (congrArg wi.cell? (addr_add bx ox j)).trans (HCL.out j u hu)) (strC_one c) (by unfold maxLen; omega) (by omega) hz3 ?_; intro v' w8 hown' hgrow _ hat; obtain ⟨A8, c8, rfl, hc8⟩ := own_form hown'; have HI8 := Lib.hid (HI.out.app hown' hgrow hat))
                  go_roundw
                  case rel => exact ⟨j + 1, by omega, by go_num, by rw [HN2.out], by rw [HL2.out]; exact HI8.out⟩
                  case measure => simp [intOf]; omega
              · obtain rfl : j = T.length := by omega
                rw [List.take_length] at HL ⊢
                have HON : Hid (oS IND W X y.2 k T = oS IND W X y.2 (k + 1) []) := Lib.hid (by rw [← HT7.out]; exact o_next HGK.out)
                have HLN : Hid (bS y.2 ws (k + 1) [] = L ++ [u]) := Lib.hid (by rw [b_next HGK.out HUK.out, HT7.out, HL.out])
                have uc5 := cellB HUC.out HI.out.2.1
                have hba := Lib.hid (new_ HI.out.2.1 (.cells #[.string ⟨u.toArray⟩] 9))
                go_wp2_with (at_builtin; refine wpList_append_own_at _ rfl (.tmp 93) (.tmp 98) 22 rfl w5.heap.size 9 i0 (.string ⟨#[]⟩) 1 16 Tryd.underlying22 hi hz0 hz1 hz2 rfl (by decide) (.slice A18 L.length c18) L.length (strC L) rfl (h3.alloc _) ⟨wi.heap.size, 0, none⟩ 1 1 [.string ⟨u.toArray⟩] rfl rfl (cell_one_new _ _ _) (by simp [Value.oneCell']) (by unfold maxLen; omega) (by omega) (by simp; omega) ?_; intro v' w8 hown' hgrow _ _; obtain ⟨A8, c8, rfl, hc8⟩ := own_form hown'; have HO8 := Lib.hid hown'; have HB8 := Lib.hid (hba.out.grown hgrow hba.out.size fun k e => (h3.lt k e).1))
                go_roundw
                case rel => exact ⟨k + 1, by omega, by go_num, by rw [HON.out], by rw [HLN.out]; simpa [strC] using HO8.out, HB8.out⟩
                case measure => simp [intOf]; omega
          · obtain rfl : k = ws.length := by omega
            have HOL2 := Lib.hid (HOL.out ws.length [] fun e => absurd (List.eq_nil_of_length_eq_zero e) HWN.out)
            have HBL2 : Hid (bS y.2 ws ws.length [] = blkW y.2 ws ws.length) := Lib.hid (by simp [bS])
            have HBZ := Lib.hid (blk_len y.2 ws HLEN.out ws.length)
            have HEND := Lib.hid (o_end (ind := IND) (W := W) (X := X) HLEN.out HWN.out)
            rw [← HBL2.out] at HEND HBZ
            obtain ⟨L, hL⟩ : ∃ L, bS y.2 ws ws.length [] = L := ⟨_, rfl⟩
            obtain ⟨O, hO⟩ : ∃ O, oS IND W X y.2 ws.length [] = O := ⟨_, rfl⟩
            rw [hL] at HO HEND HBZ ⊢
            rw [hO] at HEND HOL2 ⊢
            have HV17 : Hid (Strs wm (.slice A17 L.length c17) L) := Lib.hid (by have := Rds.of_own HO.out; exact this)
            obtain ⟨BL, hBL⟩ : ∃ BL, blockS IND W L = BL := ⟨_, rfl⟩
            obtain ⟨O2, hO2⟩ : ∃ O2, O ++ BL = O2 := ⟨_, rfl⟩
            rw [hBL, hO2] at HEND
            have HBL3 := Lib.hid hBL
            have HLZ : Hid (L.length ≤ 8000 ∧ sumL L ≤ 1000000) := Lib.hid (by have := HBZ.out; have := HSZ.out; omega)
            have hob : O.length ≤ 20000000 := HOL2.out
            have hbb : BL.length ≤ 20000000 := by
              have h1 := blockS_len (atD D y.1.kind) W L
              rw [HIND.out, hBL] at h1
              have := HLZ.out
              omega
            have hca := cat_run hO2 (by omega)
            clear hL hO hBL hO2 hob hbb
            go_wp2_with fail
            refine (ref_indent _ _ HDL.out.2).mono ?_
            rw [HIND.out]
            rintro e w8 ⟨rfl, rfl⟩
            go_wp2_with fail
            refine (ref_rblock _ _ L IND W HV17.out HINL.out (Nat.le_trans HLZ.out.1 (by decide)) HLZ.out.2).mono ?_
            rw [HBL3.out]
            rintro e w8 ⟨rfl, hb8⟩
            have HB8 := Lib.hid (then_ HB5.out (then_ HBM.out hb8))
            clear hb8
            go_wp2_with fail
            clear hca
            go_roundw
            case rel => exact ⟨i + 1, by omega, by go_num, by rw [HDX.out], by rw [HNX.out, HEND.out], HB8.out⟩
            case measure => simp [intOf]; omega
      · obtain rfl : i = d.length := by omega
        rw [List.take_length]
        have q6 := rew_len W d 0
        have q8 := HZ.out.num
        have q9 := HZ.out.sum
        rw [List.length_append] at q8
        rw [sumL_app] at q9
        have q5 := depD_le d 0
        obtain ⟨X, hX⟩ : ∃ X, rewS W 0 d = X := ⟨_, rfl⟩
        obtain ⟨D, hD⟩ : ∃ D, depD 0 d = D := ⟨_, rfl⟩
        obtain ⟨T, hT⟩ : ∃ T, comS tl = T := ⟨_, rfl⟩
        rw [hX] at q6 ⊢
        rw [hD] at q5 ⊢
        rw [hT] at q8 q9
        have HRT : Hid (rewT W d tl = X ++ T.flatMap (blockS (indS D) W)) := Lib.hid (by unfold rewT; rw [hX, hD, hT])
        have HDL : Hid (-1000000 ≤ D ∧ D ≤ 1000000) := Lib.hid (by omega)
        have HSZ : Hid (X.length + (sumL T.flatten + T.flatten.length * 1006) ≤ 20000000 ∧ T.flatten.length ≤ 8000 ∧ sumL T.flatten ≤ 1000000) := Lib.hid (by omega)
        obtain ⟨IND, hIND⟩ : ∃ I, indS D = I := ⟨_, rfl⟩
        have HIND := Lib.hid hIND
        have HINL : Hid (IND.length ≤ 1000) := Lib.hid (hIND ▸ Nat.le_trans (indS_len _) (by decide))
        rw [hIND] at HRT
        have HT := Lib.hid hT
        have HQL : Hid (∀ pre, pre <+: T → (X ++ pre.flatMap (blockS IND W)).length ≤ 20000000) := Lib.hid fun pre hp => by
          rw [← hIND]
          exact rr_ends (tl := tl) (by rw [hT]; exact hp) (by rw [hT]; exact HSZ.out.1)
        have R7 := (HR7.out.below hB HR7.out.lt).cell (i := 1) (v := .string ⟨tl.toArray⟩) rfl
        have R70 := (HR7.out.below hB HR7.out.lt).cell (i := 0) (v := .slice A1 d.length c1) rfl
        have HBO := Lib.hid hB
        clear q5 q6 q8 q9 hX hD hT hIND hB
        go_wp2_with fail
        refine (ref_comments wo tl HF.out.2.2.1 HF.out.2.2.2.1 HF.out.2.2.2.2).mono ?_
        rw [HT.out]
        rintro e w7 ⟨v7, rfl, hv7, hb7⟩
        have HV7 := Lib.hid hv7.toR
        have HB7 := Lib.hid (then_ HBL.out (then_ HBO.out hb7))
        obtain ⟨A7, c7, rfl, hm7⟩ := hv7.toR.form
        unfold maxLen at hm7
        clear hv7 hb7 R7 R70
        go_wp2_with fail
        go_loopw [10, 22] (fun ov jv wr => ∃ j : Nat, j ≤ T.length ∧ jv = .int .i64 j ∧ ov = .string ⟨(X ++ (T.take j).flatMap (blockS IND W)).toArray⟩ ∧ Below w7.heap.size w7 wr) (fun _ jv _ => T.length - (intOf jv).toNat)
        case atStart => exact ⟨0, Nat.zero_le _, rfl, by simp, Below.refl _ _⟩
        case round =>
          obtain ⟨wi, rfl⟩ : ∃ wi, wi = wr := ⟨_, rfl⟩
          obtain ⟨j, hj, rfl, rfl, hBi⟩ := hrel
          have HBI := Lib.hid hBi
          have HOJ := Lib.hid (HQL.out _ (List.take_prefix j T))
          clear hBi
          by_cases hjl : j < T.length
          · obtain ⟨c, hc⟩ : ∃ c, T[j]? = some c := ⟨_, List.getElem?_eq_getElem hjl⟩
            obtain ⟨bc, oc, cp, x, hA, cx, hx⟩ := (HV7.out.kept fun b _ hb2 => HBI.out.block b hb2).at hc
            obtain ⟨rfl, rfl⟩ := (by simpa using hA : A7 = some ⟨bc, oc, none⟩ ∧ c7 = cp)
            have HC : Hid (c.length ≤ 8000 ∧ sumL c ≤ 1000000) := Lib.hid (by have := rr_com hc; have := HSZ.out; omega)
            have HSN := Lib.hid (take_snoc hc)
            have HX := Lib.hid hx
            obtain ⟨Ax, cpx, rfl, -⟩ := hx
            obtain ⟨O, hO⟩ : ∃ O, X ++ (T.take j).flatMap (blockS IND W) = O := ⟨_, rfl⟩
            obtain ⟨BL, hBL⟩ : ∃ BL, blockS IND W c = BL := ⟨_, rfl⟩
            obtain ⟨O2, hO2⟩ : ∃ O2, O ++ BL = O2 := ⟨_, rfl⟩
            have HN2 : Hid (X ++ (T.take (j + 1)).flatMap (blockS IND W) = O2) := Lib.hid (by
              rw [HSN.out, List.flatMap_append, ← List.append_assoc, hO, ← hO2, ← hBL]
              simp)
            have HBL2 := Lib.hid hBL
            have hob : O.length ≤ 20000000 := hO ▸ HOJ.out
            have hbb : BL.length ≤ 20000000 := by
              have h1 := blockS_len D W c
              rw [HIND.out, hBL] at h1
              have := HC.out
              omega
            have hca := cat_run hO2 (by omega)
            rw [hO]
            clear hA hc hO hBL hO2 hob hbb
            go_wp2_with fail
            go_region_held3 (fun W' => W'.cell? ⟨bc, oc + j, none⟩ = some (.slice Ax c.length cpx)) (go_keep) (first | (go_at_call 71; (refine (ref_indent _ _ HDL.out).mono ?_; rw [HIND.out]; rintro e w8 ⟨rfl, rfl⟩)) | (go_at_call 70; (refine (ref_rblock _ _ c IND W (Strs.below HX.out (Below.refl _ _).drew) HINL.out (Nat.le_trans HC.out.1 (by decide)) HC.out.2).mono ?_; rw [HBL2.out]; rintro e w8 ⟨rfl, hb8⟩; have HB8 : Hid (Below wi.heap.size wi w8) := Lib.hid ((Below.refl _ wi).drew.trans hb8); have cx8 := cellB cx HB8.out)) | fail)
            have HI8 := Lib.hid (then_ HBI.out HB8.out)
            clear hca hb8 cx8 cx
            go_wp2_with fail
            go_roundw
            case rel => exact ⟨j + 1, by omega, by go_num, by rw [HN2.out], HI8.out⟩
            case measure => simp [intOf]; omega
          · obtain rfl : j = T.length := by omega
            rw [List.take_length] at HOJ ⊢
            rw [← HRT.out] at HOJ ⊢
            have HR : Hid (rewrapS text W = if 40000 < (rewT W d tl).length then ([], 0, 15) else (rewT W d tl, 0, 0)) := Lib.hid (by unfold rewrapS; rw [HD.out, if_neg (by simp)])
            obtain ⟨O, hO⟩ : ∃ O, rewT W d tl = O := ⟨_, rfl⟩
            rw [hO] at HR HOJ ⊢
            have HBE := Lib.hid (then_ HB1.out (then_ HB7.out HBI.out))
            have hol := HOJ.out
            clear hO
            by_cases hlarge : 40000 < O.length
            · have e2 : decide ((40000 : Int) < (O.length : Int)) = true := decide_eq_true (by omega)
              have HQ2 : Hid (rewrapS text W = ([], 0, 15)) := Lib.hid (by rw [HR.out, if_pos hlarge])
              clear hlarge
              go_wp2_with fail
              refine bodyPost_ret (v := .tuple #[.string ⟨#[]⟩, .int .i64 0, .int .i64 15]) (by simp [results, Tryd.results33, go_sem]) rfl ?_
              rw [HQ2.out]
              exact ⟨rfl, HBE.out⟩
            · have e2 : decide ((40000 : Int) < (O.length : Int)) = false := decide_eq_false (by omega)
              have HQ2 : Hid (rewrapS text W = (O, 0, 0)) := Lib.hid (by rw [HR.out, if_neg hlarge])
              clear hlarge
              go_wp2_with fail
              refine bodyPost_ret (v := .tuple #[.string ⟨O.toArray⟩, .int .i64 0, .int .i64 0]) (by simp [results, Tryd.results33, go_sem]) rfl ?_
              rw [HQ2.out]
              exact ⟨rfl, HBE.out⟩
  · have e1 : (err != 0) = true := by simpa using herr
    have HR : Hid (rewrapS text W = ([], off, err)) := Lib.hid (by unfold rewrapS; rw [HD.out, if_pos herr])
    go_wp2
    refine bodyPost_ret (v := .tuple #[.string ⟨#[]⟩, .int .i64 (off : Nat), .int .i64 err]) (by simp [results, Tryd.results33, go_sem]) rfl ?_
    rw [HR.out]
    exact ⟨rfl, new_ HB1.out _⟩
end Go.Proofs.YtpmbfcogkoiogaaDoor
end
