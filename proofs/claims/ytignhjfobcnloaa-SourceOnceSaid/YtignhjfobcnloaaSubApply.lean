/- Apply of the program and of the reference. -/
import Derived.Test.YtignhjfobcnloaaSubA
import Derived.Test.YtignhjfobcnloaaBldA
namespace Go.Proofs.Ytignhjfobcnloaa
open Go.RowKit
/-- a symbol as a cell's value -/
def strV (s : List UInt8) : Value := .string ⟨s.toArray⟩
theorem strs_of_own {w : World} {base : Nat} {v : Value} {l : Form} {n : Nat} (h : w.ownsRow base 9 1 v n (l.map strV)) (hn : n = l.length) : Strs w v l := by
  subst hn; exact Rds.of_own h
theorem apply_step {text : Form} {l : List BindD} {k : Nat} {y : List UInt8} (hy : text[k]? = some y) (hA : (applyS text l).length ≤ 1000000000) : (applyS (text.take k) l).length + (imageS l y).length ≤ 1000000000 := by
  have h1 := applyS_take (l := l) hy
  have h2 := applyS_take_le text l (k + 1)
  rw [h1, List.length_append] at h2
  omega
set_option maxRecDepth 20000 in
set_option maxHeartbeats 1000000 in
theorem binder_apply_own (w : World) (b : Nat) (l : List BindD) (tv : Value) (text : Form) (hb : BinderAt w b l) (ht : Strs w tv text) (hsz : ∀ s ∈ text, s.length ≤ maxLen) (hA : (applyS text l).length ≤ 1000000000) :
    Calls Try.prog 50 #[.map (some b), tv] w fun e w' => ∃ v, e = .returned v ∧ w'.ownsRow w.heap.size 9 1 v (applyS text l).length ((applyS text l).map strV) ∧ Below w.heap.size w w' := by
  have ht0 := ht
  obtain ⟨A, c, rfl, hc, hm, hx⟩ := ht.open_
  unfold maxLen at hm
  have HA := Lib.hid hA
  clear hx ht hA
  obtain ⟨i0, hi, hj0, hj1, hj2⟩ := info_parts infoStr
  go_enter Try.func50, Try.ntmps50
  go_wp2
  go_loopw [5, 10] (fun ov i wr => ∃ k : Nat, k ≤ text.length ∧ i = .int .i64 k ∧ wr.ownsRow w.heap.size 9 1 ov (applyS (text.take k) l).length ((applyS (text.take k) l).map strV) ∧ Below w.heap.size w wr) (fun _ i _ => text.length - (intOf i).toNat)
  case atStart => exact ⟨0, Nat.zero_le _, rfl, World.ownsRow_nil _ _ _ _, Below.refl _ _⟩
  case round =>
    obtain ⟨k, hk, rfl, hown, hbw⟩ := hrel
    have hwz := hbw.size
    by_cases hlt : k < text.length
    · obtain ⟨y, hy⟩ : ∃ y, text[k]? = some y := ⟨_, List.getElem?_eq_getElem hlt⟩
      obtain ⟨A', c', hvv, _, _, hx⟩ := (ht0.below hbw).open_
      obtain ⟨rfl, _, rfl⟩ := (by simpa using hvv : A = A' ∧ True ∧ c = c')
      obtain ⟨bt, ot, rfl, g1⟩ := hx k y hy
      have hys := hsz y (List.mem_of_getElem? hy)
      have hst := apply_step hy HA.out
      have HT := Lib.hid (applyS_take (l := l) hy)
      obtain ⟨M, hM⟩ : ∃ M, M = (applyS (text.take k) l).length := ⟨_, rfl⟩
      obtain ⟨X, hX⟩ : ∃ X, X = (applyS (text.take k) l).map strV := ⟨_, rfl⟩
      rw [← hM, ← hX] at hown
      rw [← hM] at hst
      have HM := Lib.hid hM
      have HX := Lib.hid hX
      have HBb := Lib.hid (hb.below hbw)
      clear hx hy hvv hM hX
      go_wp2_with (first
        | (go_at_call 82; (refine (image_any _ b l y HBb.out hys).mono ?_; rintro e w1 ⟨v1, rfl, hv1, hb1⟩; obtain ⟨ia, ic, rfl⟩ := hv1.form; have hown1 := own_below hown hb1; have hz1 := hb1.size))
        | (at_builtin; (refine wpList_append_rds rfl (.tmp 14) (.tmp 17) 22 rfl w.heap.size 9 i0 (.string ⟨#[]⟩) 1 16 Try.underlying22 hi hj0 hj1 hj2 rfl (by decide) _ M X rfl hown1 (.slice ia (imageS l y).length ic) (imageS l y).length ((imageS l y).map strV) rfl hv1 (by simp [strV, Value.oneCell']) (by unfold maxLen; omega) (by omega) (by omega) ?_; intro v' wz hown' hgrow)))
      go_roundw
      case rel => exact ⟨k + 1, by omega, by go_num, by rw [HT.out, List.map_append, List.length_append, ← HM.out, ← HX.out]; exact hown', (hbw.trans (hb1.mono hwz)).grown hgrow (by omega) (own_block hown1)⟩
      case measure => simp [intOf]; omega
    · obtain rfl : k = text.length := by omega
      rw [List.take_length] at hown
      obtain ⟨oa, oc, rfl, hco⟩ := own_form hown
      go_wp2
      go_ret
      exact ⟨_, rfl, hown, hbw⟩
theorem own_base {w : World} {b1 b2 : Nat} {e : TypeId} {size n : Nat} {v : Value} {xs : List Value} (h : w.ownsRow b1 e size v n xs) (hb : b2 ≤ b1) : w.ownsRow b2 e size v n xs := by
  refine ⟨h.1, ?_⟩
  rcases h.2 with h | ⟨g, cap, cur, rfl, hg, r⟩
  · exact .inl h
  · exact .inr ⟨g, cap, cur, rfl, by omega, r⟩
theorem binder_apply (w : World) (b : Nat) (l : List BindD) (tv : Value) (text : Form) (hb : BinderAt w b l) (ht : Strs w tv text) (hsz : ∀ s ∈ text, s.length ≤ maxLen) (hA : (applyS text l).length ≤ 1000000000) :
    Calls Try.prog 50 #[.map (some b), tv] w fun e w' => ∃ v, e = .returned v ∧ Strs w' v (applyS text l) ∧ Below w.heap.size w w' :=
  (binder_apply_own w b l tv text hb ht hsz hA).mono fun _ _ ⟨v, h1, h2, h3⟩ => ⟨v, h1, strs_of_own h2 rfl, h3⟩
theorem apply_own (w : World) (lv tv : Value) (l : List BindD) (text : Form) (hl : BindAt w lv l) (ht : Strs w tv text) (hsl : ∀ x ∈ l, x.1.length ≤ maxLen) (hsz : ∀ s ∈ text, s.length ≤ maxLen) (hL : l.length ≤ 1000000) (hA : (applyS text l).length ≤ 1000000000) :
    Calls Try.prog 16 #[tv, lv] w fun e w' => ∃ v, e = .returned v ∧ w'.ownsRow w.heap.size 9 1 v (applyS text l).length ((applyS text l).map strV) ∧ Below w.heap.size w w' := by
  go_enter Try.func16, Try.ntmps16
  go_wp2_with (first
    | (go_at_call 49; (refine (bind_any _ lv l hl hsl hL).mono ?_; rintro e w1 ⟨b, rfl, hbd, hb1⟩))
    | (go_at_call 50; (refine (binder_apply_own _ b l _ text hbd (ht.below hb1) hsz hA).mono ?_; rintro e w2 ⟨v2, rfl, hv2, hb2⟩)))
  go_ret
  exact ⟨_, rfl, own_base hv2 hb1.size, then_ hb1 hb2⟩
theorem apply_any (w : World) (lv tv : Value) (l : List BindD) (text : Form) (hl : BindAt w lv l) (ht : Strs w tv text) (hsl : ∀ x ∈ l, x.1.length ≤ maxLen) (hsz : ∀ s ∈ text, s.length ≤ maxLen) (hL : l.length ≤ 1000000) (hA : (applyS text l).length ≤ 1000000000) :
    Calls Try.prog 16 #[tv, lv] w fun e w' => ∃ v, e = .returned v ∧ Strs w' v (applyS text l) ∧ Below w.heap.size w w' :=
  (apply_own w lv tv l text hl ht hsl hsz hL hA).mono fun _ _ ⟨v, h1, h2, h3⟩ => ⟨v, h1, strs_of_own h2 rfl, h3⟩
theorem image_hit {l : List BindD} {k : Nat} {y : BindD} {s : List UInt8} (hy : l[k]? = some y) (hn : ∀ z ∈ l.take k, z.1 ≠ s) (he : y.1 = s) : imageS l s = y.2 := by
  refine imageS_some ?_
  have e : l = l.take k ++ (y :: l.drop (k + 1)) := by
    obtain ⟨hk, rfl⟩ := List.getElem?_eq_some_iff.1 hy
    rw [← List.drop_eq_getElem_cons hk, List.take_append_drop]
  rw [e, boundS_append, boundS_cons, if_pos he]
  rw [boundS_none.2 (fun hm => by obtain ⟨z, hz, e⟩ := List.mem_map.1 hm; exact hn z hz e)]
  rfl
theorem image_miss {l : List BindD} {s : List UInt8} (hn : ∀ z ∈ l, z.1 ≠ s) : imageS l s = [s] :=
  imageS_none (boundS_none.2 fun hm => by obtain ⟨z, hz, e⟩ := List.mem_map.1 hm; exact hn z hz e)
end Go.Proofs.Ytignhjfobcnloaa
