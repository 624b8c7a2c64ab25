/- SubstPairs: Vars, Sorted, Apart and Broken are the reference's. -/
import Derived.Test.YtieclecpjjfhfaaRefApart
import Derived.Test.YtieclecpjjfhfaaLawSwaps
namespace Go.Proofs.Ytieclecpjjfhfaa
open Go.RowKit Go.Shelf
theorem flat_len {α β : Type} {f : α → List β} {c : Nat} : ∀ (a : List α), (∀ x ∈ a, (f x).length ≤ c) → (a.flatMap f).length ≤ a.length * c := by
  intro a
  induction a with
  | nil => intro _; simp
  | cons x a ih =>
    intro h
    rw [List.flatMap_cons, List.length_append, List.length_cons, Nat.add_mul]
    have h1 := h x (List.mem_cons_self ..)
    have h2 := ih (fun y hy => h y (List.mem_cons_of_mem _ hy))
    omega
theorem req_len {l : List BindD} {m : Nat} (h : ∀ x ∈ l, x.2.length ≤ m) (hm : 1 ≤ m) (pairs : List PairD) (vs : Form) : (reqS l pairs vs).length ≤ pairs.length * (m * m) := by
  refine flat_len pairs fun p _ => ?_
  have h1 : (varsS (imageS l p.1) vs).length ≤ m := Nat.le_trans (varsS_len _ _) (image_len h hm p.1)
  have h2 : (varsS (imageS l p.2) vs).length ≤ m := Nat.le_trans (varsS_len _ _) (image_len h hm p.2)
  refine Nat.le_trans (flat_len (c := m) _ fun x _ => ?_) (Nat.mul_le_mul_right m h1)
  unfold reqX
  rw [List.length_map]
  exact h2
set_option maxRecDepth 20000 in
theorem equal_pairs (w : World) (v1 v2 : Value) (l : List PairD) (h1 : PairsAt w v1 l) (h2 : PairsAt w v2 l) :
    Calls Try.prog 61 #[v1, v2] w fun e w' => e = .returned (.bool true) ∧ Below w.heap.size w w' := by
  obtain ⟨A1, c1, rfl, hc1, hm1, hx1⟩ := h1.open_
  obtain ⟨A2, c2, rfl, hc2, hm2, hx2⟩ := h2.open_
  unfold maxLen at hm1 hm2
  have hst := stoodPair
  clear h1 h2
  go_enter Try.func61, Try.ntmps61
  go_wp2
  go_loopw [13] (fun i wr => ∃ k n : Nat, k ≤ l.length ∧ i = .int .i64 k ∧ wr = w.drewN n) (fun i _ => l.length - (intOf i).toNat)
  case atStart => exact ⟨0, 0, Nat.zero_le _, rfl, rfl⟩
  case round =>
    obtain ⟨k, n, hk, rfl, rfl⟩ := hrel
    by_cases hlt : k < l.length
    · obtain ⟨⟨y1, y2⟩, hy⟩ : ∃ y, l[k]? = some y := ⟨_, List.getElem?_eq_getElem hlt⟩
      obtain ⟨b1, o1, rfl, g1, g2⟩ := hx1 k _ hy
      obtain ⟨b2, o2, rfl, q1, q2⟩ := hx2 k _ hy
      have t1 : (y1 == y1) = true := by simp
      have t2 : (y2 == y2) = true := by simp
      have k0 : (0 : Int) ≤ (k : Int) := Int.natCast_nonneg _
      have k1 : (k : Int) < (l.length : Int) := by omega
      clear hx1 hx2 hy
      go_wp2
      go_quiet (fail)
      go_wp2
      go_roundw
      case rel => exact ⟨k + 1, _, by omega, by go_num, rfl⟩
      case measure => simp [intOf]; omega
    · go_wp2
      go_ret
      exact ⟨rfl, below_drewN (Below.refl _ _) n⟩
theorem apart_any (w : World) (lv pv vv : Value) (l : List BindD) (pairs : List PairD) (vs : Form) (Q : List PairD) (ps : Bool) (hQ : apartS l pairs vs = Q) (hps : posS (reqS l pairs vs) = ps) (hl : BindAt w lv l) (hp : PairsAt w pv pairs) (hv : Strs w vv vs) (z : SubSz l pairs vs) (hN : (reqS l pairs vs).length ≤ 1000000) :
    Calls Try.prog 57 #[lv, pv, vv] w fun e w' => ∃ v, e = .returned (.tuple #[v, .bool ps]) ∧ PairsAt w' v Q ∧ Below w.heap.size w w' := by
  have := apart_of w lv pv vv l pairs vs hl hp hv z hN (compact_any _ (by rw [List.length_mergeSort, List.length_map]; have := outS_small hN; omega))
  rw [hps] at this
  rw [← hQ]
  exact this
theorem ref_apart_any (w : World) (lv pv vv : Value) (l : List BindD) (pairs : List PairD) (vs : Form) (Q : List PairD) (ps : Bool) (hQ : apartS l pairs vs = Q) (hps : posS (reqS l pairs vs) = ps) (hl : BindAt w lv l) (hp : PairsAt w pv pairs) (hv : Strs w vv vs) (z : SubSz l pairs vs) (hN : (reqS l pairs vs).length ≤ 1000000) :
    Calls Try.prog 58 #[lv, pv, vv] w fun e w' => ∃ v, e = .returned (.tuple #[v, .bool ps]) ∧ PairsAt w' v Q ∧ Below w.heap.size w w' := by
  have := ref_apart w lv pv vv l pairs vs hl hp hv z hN
  rw [hps] at this
  rw [← hQ]
  exact this
theorem broken_any (w : World) (lv pv vv wv : Value) (l : List BindD) (pairs wide : List PairD) (vs : Form) (p1 p2 : List UInt8) (bz : Bool) (hq : (brokenS wide (reqS l pairs vs)).getD ([], []) = (p1, p2)) (hz : (brokenS wide (reqS l pairs vs)).isSome = bz) (hl : BindAt w lv l) (hp : PairsAt w pv pairs) (hv : Strs w vv vs) (hw : PairsAt w wv wide) (z : SubSz l pairs vs) (hN : (reqS l pairs vs).length ≤ 1000000) (hW : wide.length ≤ 1000000) :
    Calls Try.prog 59 #[lv, pv, vv, wv] w fun e w' => e = .returned (.tuple #[.agg #[.string ⟨p1.toArray⟩, .string ⟨p2.toArray⟩], .bool bz]) ∧ Below w.heap.size w w' := by
  have := broken_of w lv pv vv wv l pairs wide vs hl hp hv hw z hN hW
  rw [hq, hz] at this
  exact this
theorem ref_broken_any (w : World) (lv pv vv wv : Value) (l : List BindD) (pairs wide : List PairD) (vs : Form) (p1 p2 : List UInt8) (bz : Bool) (hq : (brokenS wide (reqS l pairs vs)).getD ([], []) = (p1, p2)) (hz : (brokenS wide (reqS l pairs vs)).isSome = bz) (hl : BindAt w lv l) (hp : PairsAt w pv pairs) (hv : Strs w vv vs) (hw : PairsAt w wv wide) (z : SubSz l pairs vs) (hN : (reqS l pairs vs).length ≤ 1000000) :
    Calls Try.prog 60 #[lv, pv, vv, wv] w fun e w' => e = .returned (.tuple #[.agg #[.string ⟨p1.toArray⟩, .string ⟨p2.toArray⟩], .bool bz]) ∧ Below w.heap.size w w' := by
  have := ref_broken w lv pv vv wv l pairs wide vs hl hp hv hw z hN
  rw [hq, hz] at this
  exact this
set_option maxRecDepth 100000 in
set_option maxHeartbeats 8000000 in
theorem law_pairs (w : World) (lv pv wv vv tv : Value) (l : List BindD) (pairs wide : List PairD) (vs text : Form) (hl : BindAt w lv l) (hp : PairsAt w pv pairs) (hw : PairsAt w wv wide) (hv : Strs w vv vs) (ht : Strs w tv text)
    (hsl : ∀ x ∈ l, x.1.length ≤ maxLen ∧ ∀ s ∈ x.2, s.length ≤ maxLen) (hsp : ∀ p ∈ pairs, p.1.length ≤ maxLen ∧ p.2.length ≤ maxLen) (hsv : ∀ s ∈ vs, s.length ≤ maxLen) (hst : ∀ s ∈ text, s.length ≤ maxLen) :
    Calls Try.prog 11 #[lv, pv, wv, vv, tv] w fun e w' => e = .returned (.bool true) ∧ Below w.heap.size w w' := by
  have HL := Lib.hid hl
  have HP := Lib.hid hp
  have HWI := Lib.hid hw
  have HV := Lib.hid hv
  have HT := Lib.hid ht
  obtain ⟨lA, lc, rfl, _⟩ := hl
  obtain ⟨pA, pc, rfl, _, hpm, _⟩ := hp.open_
  obtain ⟨wA, wc, rfl, _, hwm, _⟩ := hw.open_
  obtain ⟨vA, vc, rfl⟩ := hv.form
  obtain ⟨tA, tc, rfl⟩ := ht.form
  have htm : text.length ≤ maxLen := by obtain ⟨_, _, _, _, h, _⟩ := ht; exact h
  have hvm : vs.length ≤ maxLen := by obtain ⟨_, _, _, _, h, _⟩ := hv; exact h
  unfold maxLen at htm hvm hpm hwm
  clear hp hw hv ht
  have HW := Lib.hid (Below.refl w.heap.size w)
  by_cases hf : FewS l 40 40
  · have e1 : decide (FewS l 40 40) = true := decide_eq_true hf
    by_cases h2 : pairs.length ≤ 40
    · have e2 : decide ((40 : Int) < (pairs.length : Int)) = false := decide_eq_false (by omega)
      by_cases h3 : wide.length ≤ 40
      · have e3 : decide ((40 : Int) < (wide.length : Int)) = false := decide_eq_false (by omega)
        by_cases h4 : vs.length ≤ 40
        · have e4 : decide ((40 : Int) < (vs.length : Int)) = false := decide_eq_false (by omega)
          by_cases h5 : text.length ≤ 100
          · have e5 : decide ((100 : Int) < (text.length : Int)) = false := decide_eq_false (by omega)
            have HN : Hid ((reqS l pairs vs).length ≤ 1000000) := Lib.hid (by
              have := req_len (m := 40) (fun x hx => by have := hf.2 x hx; omega) (by decide) pairs vs
              omega)
            have HZ : Hid (SubSz l pairs vs) := Lib.hid ⟨fun x hx => (hsl x hx).1, fun x hx => (hsl x hx).2, fun x hx => by have := hf.2 x hx; omega, by have := hf.1; omega, hsp, hsv, by omega⟩
            obtain ⟨Q, hQ⟩ : ∃ Q, apartS l pairs vs = Q := ⟨_, rfl⟩
            obtain ⟨ps, hps⟩ : ∃ ps, posS (reqS l pairs vs) = ps := ⟨_, rfl⟩
            obtain ⟨p1, p2, hq⟩ : ∃ p1 p2, (brokenS wide (reqS l pairs vs)).getD ([], []) = (p1, p2) := ⟨_, _, rfl⟩
            obtain ⟨bz, hbz⟩ : ∃ bz, (brokenS wide (reqS l pairs vs)).isSome = bz := ⟨_, rfl⟩
            have HQ := Lib.hid hQ
            have HPS := Lib.hid hps
            have HQQ := Lib.hid hq
            have HBZ := Lib.hid hbz
            have HSV := Lib.hid hsv
            have HST := Lib.hid hst
            have hs := stoodPair
            have b1 : (ps == ps) = true := by simp
            have b2 : (bz == bz) = true := by simp
            have b3 : (p1 == p1) = true := by simp
            have b4 : (p2 == p2) = true := by simp
            have hcs : Hid (CompactOk ((pairs.map orderedS).mergeSort fun x y => !(ltOf cmpP) y x)) := Lib.hid (compact_any _ (by rw [List.length_mergeSort, List.length_map]; omega))
            clear hQ hps hq hbz hsv hst hsl hsp hf
            go_enter Try.func11, Try.ntmps11
            go_wp2_with (first
              | (go_at_call 53; (refine (few_any _ _ l 40 40 (HL.out.below HW.out)).mono ?_; rintro e w1 ⟨rfl, hb⟩; have HW := Lib.hid (then_ HW.out hb); clear hb))
              | (go_at_call 57; (refine (apart_any _ _ _ _ l pairs vs Q ps HQ.out HPS.out (HL.out.below HW.out) (HP.out.below HW.out) (HV.out.below HW.out) HZ.out HN.out).mono ?_; rintro e w3 ⟨u3, rfl, hv3, hb⟩; have HW := Lib.hid (then_ HW.out hb); have HX := Lib.hid hv3; clear hv3 hb))
              | (go_at_call 58; (refine (ref_apart_any _ _ _ _ l pairs vs Q ps HQ.out HPS.out (HL.out.below HW.out) (HP.out.below HW.out) (HV.out.below HW.out) HZ.out HN.out).mono ?_; rintro e w4 ⟨u4, rfl, hv4, hb⟩; have HW := Lib.hid (then_ HW.out hb); have HX := Lib.hid (HX.out.below hb); have HY := Lib.hid hv4; clear hv4 hb))
              | (go_at_call 59; (refine (broken_any _ _ _ _ _ l pairs wide vs p1 p2 bz HQQ.out HBZ.out (HL.out.below HW.out) (HP.out.below HW.out) (HV.out.below HW.out) (HWI.out.below HW.out) HZ.out HN.out (by omega)).mono ?_; rintro e w5 ⟨rfl, hb⟩; have HW := Lib.hid (then_ HW.out hb); have HX := Lib.hid (HX.out.below hb); have HY := Lib.hid (HY.out.below hb); clear hb))
              | (go_at_call 60; (refine (ref_broken_any _ _ _ _ _ l pairs wide vs p1 p2 bz HQQ.out HBZ.out (HL.out.below (new_ HW.out _)) (HP.out.below (new_ HW.out _)) (HV.out.below (new_ HW.out _)) (HWI.out.below (new_ HW.out _)) HZ.out HN.out).mono ?_; rintro e w6 ⟨rfl, hb⟩; have HR1 := Lib.hid ((Row.new w5 124 #[.string ⟨p1.toArray⟩, .string ⟨p2.toArray⟩]).below hb (by simp)); have HX := Lib.hid (HX.out.below (then_ (new_ (Below.refl _ _) _) hb)); have HY := Lib.hid (HY.out.below (then_ (new_ (Below.refl _ _) _) hb)); have HW := Lib.hid (then_ (new_ HW.out _) hb); clear hb))
              | (go_at_call 61; (first
                | ((with_reducible refine (equal_pairs _ u8 u9 _ HA8.out HA9.out).mono ?_); rintro e w10 ⟨rfl, hb⟩; have HW := Lib.hid (then_ HW.out hb); clear hb)
                | ((with_reducible refine (equal_pairs _ u3 u4 Q (HX.out.below (new_ (Below.refl _ _) _)) (HY.out.below (new_ (Below.refl _ _) _))).mono ?_); rintro e w7 ⟨rfl, hb⟩; have r1 := (HR1.out.alloc (.cells #[.string ⟨p1.toArray⟩, .string ⟨p2.toArray⟩] 124)).below hb (HR1.out.alloc _).lt; have r2 := (Row.new w6 124 #[.string ⟨p1.toArray⟩, .string ⟨p2.toArray⟩]).below hb (by simp); have d0 := r1.cell (i := 0) (v := .string ⟨p1.toArray⟩) rfl; have d1 := r1.cell (i := 1) (v := .string ⟨p2.toArray⟩) rfl; have d2 := r2.cell (i := 0) (v := .string ⟨p1.toArray⟩) rfl; have d3 := r2.cell (i := 1) (v := .string ⟨p2.toArray⟩) rfl; have HW := Lib.hid (then_ (new_ HW.out _) hb); clear hb r1 r2)))
              | (go_at_call 62; (refine (sorted_of compare_any _ _ pairs (HP.out.below HW.out) (by omega) hcs.out).mono ?_; rintro e w8 ⟨u8, rfl, hv8, hb⟩; have HW := Lib.hid (then_ HW.out hb); have HA8 := Lib.hid hv8; clear hv8 hb))
              | (go_at_call 63; (refine (ref_sorted _ _ pairs (HP.out.below HW.out) (by omega)).mono ?_; rintro e w9 ⟨u9, rfl, hv9, hb⟩; have HW := Lib.hid (then_ HW.out hb); have HA8 := Lib.hid (HA8.out.below hb); have HA9 := Lib.hid hv9; clear hv9 hb))
              | (go_at_call 55; (refine (vars_any _ _ _ text vs (HT.out.below HW.out) (HV.out.below HW.out) HST.out HSV.out (by omega) (by omega)).mono ?_; rintro e w11 ⟨u11, rfl, hv11, hb⟩; have HW := Lib.hid (then_ HW.out hb); have HB1 := Lib.hid hv11; clear hv11 hb))
              | (go_at_call 64; (refine (ref_vars _ _ _ text vs (HT.out.below HW.out) (HV.out.below HW.out) (by omega)).mono ?_; rintro e w12 ⟨u12, rfl, hv12, hb⟩; have HW := Lib.hid (then_ HW.out hb); have HB1 := Lib.hid (HB1.out.below hb); have HB2 := Lib.hid hv12; clear hv12 hb))
              | (go_at_call 31; (refine (equal_str_same _ _ _ _ HB1.out HB2.out).mono ?_; rintro e w13 ⟨rfl, hb⟩; have HW := Lib.hid (then_ HW.out hb); clear hb))
              | (go_at_call 54; (refine (awake06 _).mono ?_; rintro e w2 ⟨rfl, hb⟩; have HW := Lib.hid (then_ HW.out hb); clear hb)))
            go_ret
            exact ⟨rfl, HW.out⟩
          · have e5 : decide ((100 : Int) < (text.length : Int)) = true := decide_eq_true (by omega)
            clear hf
            go_enter Try.func11, Try.ntmps11
            go_wp2_with (first | (go_at_call 53; (refine (few_any _ _ l 40 40 (HL.out.below HW.out)).mono ?_; rintro e w1 ⟨rfl, hb⟩; have HW := Lib.hid (then_ HW.out hb); clear hb)) | (go_at_call 54; (refine (awake06 _).mono ?_; rintro e w2 ⟨rfl, hb⟩; have HW := Lib.hid (then_ HW.out hb); clear hb)))
            go_ret
            exact ⟨rfl, HW.out⟩
        · have e4 : decide ((40 : Int) < (vs.length : Int)) = true := decide_eq_true (by omega)
          clear hf
          go_enter Try.func11, Try.ntmps11
          go_wp2_with (first | (go_at_call 53; (refine (few_any _ _ l 40 40 (HL.out.below HW.out)).mono ?_; rintro e w1 ⟨rfl, hb⟩; have HW := Lib.hid (then_ HW.out hb); clear hb)) | (go_at_call 54; (refine (awake06 _).mono ?_; rintro e w2 ⟨rfl, hb⟩; have HW := Lib.hid (then_ HW.out hb); clear hb)))
          go_ret
          exact ⟨rfl, HW.out⟩
      · have e3 : decide ((40 : Int) < (wide.length : Int)) = true := decide_eq_true (by omega)
        clear hf
        go_enter Try.func11, Try.ntmps11
        go_wp2_with (first | (go_at_call 53; (refine (few_any _ _ l 40 40 (HL.out.below HW.out)).mono ?_; rintro e w1 ⟨rfl, hb⟩; have HW := Lib.hid (then_ HW.out hb); clear hb)) | (go_at_call 54; (refine (awake06 _).mono ?_; rintro e w2 ⟨rfl, hb⟩; have HW := Lib.hid (then_ HW.out hb); clear hb)))
        go_ret
        exact ⟨rfl, HW.out⟩
    · have e2 : decide ((40 : Int) < (pairs.length : Int)) = true := decide_eq_true (by omega)
      clear hf
      go_enter Try.func11, Try.ntmps11
      go_wp2_with (first | (go_at_call 53; (refine (few_any _ _ l 40 40 (HL.out.below HW.out)).mono ?_; rintro e w1 ⟨rfl, hb⟩; have HW := Lib.hid (then_ HW.out hb); clear hb)) | (go_at_call 54; (refine (awake06 _).mono ?_; rintro e w2 ⟨rfl, hb⟩; have HW := Lib.hid (then_ HW.out hb); clear hb)))
      go_ret
      exact ⟨rfl, HW.out⟩
  · have e1 : decide (FewS l 40 40) = false := decide_eq_false hf
    clear hf
    go_enter Try.func11, Try.ntmps11
    go_wp2_with (first | (go_at_call 53; (refine (few_any _ _ l 40 40 (HL.out.below HW.out)).mono ?_; rintro e w1 ⟨rfl, hb⟩; have HW := Lib.hid (then_ HW.out hb); clear hb)) | (go_at_call 54; (refine (awake06 _).mono ?_; rintro e w2 ⟨rfl, hb⟩; have HW := Lib.hid (then_ HW.out hb); clear hb)))
    go_ret
    exact ⟨rfl, HW.out⟩
end Go.Proofs.Ytieclecpjjfhfaa
