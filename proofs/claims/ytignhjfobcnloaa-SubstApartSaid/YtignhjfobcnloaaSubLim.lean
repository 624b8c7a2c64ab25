/- Limited, Fits, Same of the program and of the reference. -/
import Derived.Test.YtignhjfobcnloaaSubApply
import Derived.WalkMore
import Derived.Deep.LoopGhost
import Derived.RegionTactic
namespace Go.Proofs.Ytignhjfobcnloaa
open Go.RowKit
section
variable {text t : Form} {l : List BindD} {most : Int} {k : Nat} {y : List UInt8}
theorem limitedS_arg (h : most < 0) : limitedS text l most = ([], 1) := by unfold limitedS; rw [if_pos h]
theorem limitedS_large (h : ¬ most < 0) (h2 : most < (applyS text l).length) : limitedS text l most = ([], 15) := by unfold limitedS; rw [if_neg h, if_pos h2]
theorem limitedS_ok (h : ¬ most < 0) (h2 : ¬ most < (applyS text l).length) : limitedS text l most = (applyS text l, 0) := by unfold limitedS; rw [if_neg h, if_neg h2]
theorem prefix_snoc {α : Type} {P t : List α} {x : α} (h : P <+: t) (hx : t[P.length]? = some x) : P ++ [x] <+: t := by
  obtain ⟨r, rfl⟩ := h
  rw [List.getElem?_append_right (Nat.le_refl _), Nat.sub_self] at hx
  cases r with
  | nil => simp at hx
  | cons a r => simp at hx; subst hx; exact ⟨r, by simp⟩
theorem not_prefix {α : Type} {P t : List α} {x : α} (h : t[P.length]? ≠ some x) : ¬ P ++ [x] <+: t := by
  rintro ⟨r, rfl⟩
  apply h
  rw [List.append_assoc, List.getElem?_append_right (Nat.le_refl _), Nat.sub_self]
  rfl
theorem part_prefix {j : Nat} {x : List UInt8} (hy : text[k]? = some y) (hx : (imageS l y)[j]? = some x) : applyS (text.take k) l ++ (imageS l y).take j ++ [x] <+: applyS text l := by
  have e : applyS text l = applyS (text.take (k + 1)) l ++ applyS (text.drop (k + 1)) l := by rw [← applyS_append, List.take_append_drop]
  rw [e, applyS_take hy]
  have e2 : imageS l y = (imageS l y).take j ++ ([x] ++ (imageS l y).drop (j + 1)) := by
    obtain ⟨hj, e3⟩ := List.getElem?_eq_some_iff.1 hx
    conv => lhs; rw [← List.take_append_drop j (imageS l y), List.drop_eq_getElem_cons hj, e3]
    rfl
  refine ⟨(imageS l y).drop (j + 1) ++ applyS (text.drop (k + 1)) l, ?_⟩
  conv => rhs; rw [e2]
  simp [List.append_assoc]
theorem prefix_whole {α : Type} {P t : List α} (h : P <+: t) : P = t ↔ P.length = t.length :=
  ⟨fun e => by rw [e], fun e => h.eq_of_length e⟩
end
set_option maxRecDepth 20000 in
set_option maxHeartbeats 1000000 in
theorem limited_own (w : World) (lv tv : Value) (l : List BindD) (text : Form) (most : Int) (hl : BindAt w lv l) (ht : Strs w tv text) (hsl : ∀ x ∈ l, x.1.length ≤ maxLen) (hsz : ∀ s ∈ text, s.length ≤ maxLen) (hL : l.length ≤ 1000000) (hA : (applyS text l).length ≤ 1000000000) (hmx : most ≤ 9223372036854775807) :
    Calls Try.prog 60 #[tv, lv, .int .i64 most] w fun e w' => ∃ v, e = .returned (.tuple #[v, .int .i64 (limitedS text l most).2]) ∧ w'.ownsRow w.heap.size 9 1 v (limitedS text l most).1.length ((limitedS text l most).1.map strV) ∧ Below w.heap.size w w' := by
  have ht0 := ht
  obtain ⟨A, c, rfl, hc, hm, hx⟩ := ht.open_
  unfold maxLen at hm
  clear hx ht
  by_cases hneg : most < 0
  · have e0 : decide (most < 0) = true := decide_eq_true hneg
    have HS := Lib.hid (limitedS_arg (text := text) (l := l) hneg)
    clear hneg
    go_enter Try.func60, Try.ntmps60
    go_wp2
    go_ret2
    rw [HS.out]
    exact ⟨_, rfl, World.ownsRow_nil _ _ _ _, Below.refl _ _⟩
  · have e0 : decide (most < 0) = false := decide_eq_false hneg
    have hm0 : 0 ≤ most := by omega
    have HNEG := Lib.hid hneg
    have HA := Lib.hid hA
    clear hneg hA
    go_enter Try.func60, Try.ntmps60
    go_wp2_with (go_at_call 49; (refine (bind_any _ lv l hl hsl hL).mono ?_; rintro e w1 ⟨b, rfl, hbd, hb1⟩))
    have hz1 := hb1.size
    go_loopw [9, 19] (fun lf i wr => ∃ (k : Nat) (z : Int), k ≤ text.length ∧ i = .int .i64 k ∧ lf = .int .i64 z ∧ z + (applyS (text.take k) l).length = most ∧ 0 ≤ z ∧ Below w1.heap.size w1 wr) (fun _ i _ => text.length - (intOf i).toNat)
    case atStart => exact ⟨0, most, Nat.zero_le _, rfl, rfl, by simp [applyS], hm0, Below.refl _ _⟩
    case round =>
      obtain ⟨k, z, hk, rfl, rfl, hzm, hz0, hbw⟩ := hrel
      have HZ := Lib.hid hzm
      have hzm2 : z ≤ most := by omega
      have hwz := hbw.size
      clear hzm
      by_cases hlt : k < text.length
      · obtain ⟨y, hy⟩ : ∃ y, text[k]? = some y := ⟨_, List.getElem?_eq_getElem hlt⟩
        obtain ⟨A', c', hvv, _, _, hx⟩ := (ht0.below (then_ hb1 hbw)).open_
        obtain ⟨rfl, _, rfl⟩ := (by simpa using hvv : A = A' ∧ True ∧ c = c')
        obtain ⟨bt, ot, rfl, g1⟩ := hx k y hy
        have hys := hsz y (List.mem_of_getElem? hy)
        obtain ⟨N, hN⟩ : ∃ N, N = (imageS l y).length := ⟨_, rfl⟩
        have hst := apply_step hy HA.out
        have htk : (applyS (text.take (k + 1)) l).length = (applyS (text.take k) l).length + N := by rw [applyS_take hy, List.length_append, hN]
        have hle := applyS_take_le text l (k + 1)
        have hN9 : N ≤ 1000000000 := by omega
        have HN := Lib.hid hN
        have HTK := Lib.hid htk
        have HLE := Lib.hid hle
        have HBb := Lib.hid (hbd.below hbw)
        clear hx hy hvv hN hst htk hle
        by_cases hng : z - N < 0
        · have e1 : decide (z - (N : Int) < 0) = true := decide_eq_true hng
          have HS := Lib.hid (limitedS_large (text := text) (l := l) (most := most) (by have := HNEG.out; omega) (by have := HZ.out; have := HTK.out; have := HLE.out; omega))
          clear hng
          go_wp2_with (go_at_call 82; (refine (image_any _ b l y HBb.out hys).mono ?_; rintro e w2 ⟨v1, rfl, hv1, hb2⟩; obtain ⟨ia, ic, rfl⟩ := hv1.form; rw [← HN.out]))
          go_ret2
          rw [HS.out]
          exact ⟨_, rfl, World.ownsRow_nil _ _ _ _, then_ (then_ hb1 hbw) hb2⟩
        · have e1 : decide (z - (N : Int) < 0) = false := decide_eq_false hng
          have hng2 : 0 ≤ z - (N : Int) := by omega
          clear hng
          go_wp2_with (go_at_call 82; (refine (image_any _ b l y HBb.out hys).mono ?_; rintro e w2 ⟨v1, rfl, hv1, hb2⟩; obtain ⟨ia, ic, rfl⟩ := hv1.form; rw [← HN.out]))
          go_roundw
          case rel => exact ⟨k + 1, z - (N : Int), by omega, by go_num, rfl, by have := HZ.out; have := HTK.out; omega, hng2, hbw.trans (hb2.mono hwz)⟩
          case measure => simp [intOf]; omega
      · obtain rfl : k = text.length := by omega
        rw [List.take_length] at HZ
        have HS := Lib.hid (limitedS_ok (text := text) (l := l) (most := most) (by have := HNEG.out; omega) (by have := HZ.out; omega))
        go_wp2_with (go_at_call 50; (refine (binder_apply_own _ b l _ text (hbd.below hbw) (ht0.below (then_ hb1 hbw)) hsz HA.out).mono ?_; rintro e w3 ⟨v3, rfl, hv3, hb3⟩))
        go_ret2
        rw [HS.out]
        exact ⟨_, rfl, own_base hv3 (Nat.le_trans hb1.size hbw.size), then_ (then_ hb1 hbw) hb3⟩
theorem limited_any (w : World) (lv tv : Value) (l : List BindD) (text : Form) (most : Int) (hl : BindAt w lv l) (ht : Strs w tv text) (hsl : ∀ x ∈ l, x.1.length ≤ maxLen) (hsz : ∀ s ∈ text, s.length ≤ maxLen) (hL : l.length ≤ 1000000) (hA : (applyS text l).length ≤ 1000000000) (hmx : most ≤ 9223372036854775807) :
    Calls Try.prog 60 #[tv, lv, .int .i64 most] w fun e w' => ∃ v, e = .returned (.tuple #[v, .int .i64 (limitedS text l most).2]) ∧ Strs w' v (limitedS text l most).1 ∧ Below w.heap.size w w' :=
  (limited_own w lv tv l text most hl ht hsl hsz hL hA hmx).mono fun _ _ ⟨v, h1, h2, h3⟩ => ⟨v, h1, strs_of_own h2 rfl, h3⟩
end Go.Proofs.Ytignhjfobcnloaa
