/- Compose of the program. -/
import Derived.Test.YtignhjfobcnloaaComposeRow
import Derived.Test.YtignhjfobcnloaaSubOrd
import Derived.Test.YtignhjfobcnloaaSubVars
import Derived.Deep.RegionWith
namespace Go.Proofs.Ytignhjfobcnloaa
open Go.RowKit
theorem or_errno (w : World) (v : Value) (x y : Int) (h : Ints w v [x, y]) : Calls Try.prog 58 #[v] w fun e w' => e = .returned (.int .i64 (if x ≠ 0 then x else y)) ∧ w = w' := by
  obtain ⟨A, c, rfl, hc, hm, hl, hr⟩ := h
  obtain ⟨b, o, rfl, hx⟩ := hr (by simp)
  have g0 := hx 0 (.int .i64 x) rfl
  have g1 := hx 1 (.int .i64 y) rfl
  clear hx hr hl
  simp only [List.length_cons, List.length_nil, Nat.add_zero, Nat.zero_add] at *
  by_cases h0 : x = 0
  · subst h0
    by_cases h1 : y = 0
    · subst h1
      go_enter Try.func58, Try.ntmps58
      go_wp2
      refine wp_loop_rounds 3 ?_
      rw [rounds_succ]
      go_wp2
      rw [rounds_succ]
      go_wp2
      rw [rounds_succ]
      go_wp2
      go_ret
      exact ⟨rfl, rfl⟩
    · have t1 : (y != 0) = true := by simpa using h1
      have t2 : (y == 0) = false := by simpa using h1
      clear h1
      go_enter Try.func58, Try.ntmps58
      go_wp2
      refine wp_loop_rounds 2 ?_
      rw [rounds_succ]
      go_wp2
      rw [rounds_succ]
      go_wp2
      go_ret
      exact ⟨rfl, rfl⟩
  · have t1 : (x != 0) = true := by simpa using h0
    have t2 : (x == 0) = false := by simpa using h0
    have HX := Lib.hid h0
    clear h0
    go_enter Try.func58, Try.ntmps58
    go_wp2
    refine wp_loop_rounds 1 ?_
    rw [rounds_succ]
    go_wp2
    go_ret
    exact ⟨rfl, rfl⟩
theorem binder_says {w : World} {b : Nat} {l : List BindD} (h : BinderAt w b l) (s : List UInt8) (hs : s.length ≤ maxLen) : ∃ v, (Instr.lookup 113 (.map (some b)) (.string ⟨s.toArray⟩) true).run Try.prog w = .ok (.tuple #[v, .bool (boundS l s).isSome]) w := by
  obtain ⟨n, f, hn, hm, hsay⟩ := h
  exact ⟨(f s).getD (.slice none 0 0), by rw [hm.look s hs, says_some hsay]⟩
theorem or_zero (w : World) (v : Value) (h : Ints w v [0, 0]) : Calls Try.prog 58 #[v] w fun e w' => e = .returned (.int .i64 0) ∧ w = w' := (or_errno w v 0 0 h).mono fun _ _ ⟨h1, h2⟩ => ⟨by simpa using h1, h2⟩
theorem binder_gives {w : World} {b : Nat} {l : List BindD} (h : BinderAt w b l) (s : List UInt8) (hs : s.length ≤ maxLen) {t : Form} (ht : boundS l s = some t) : ∃ v, (Instr.lookup 113 (.map (some b)) (.string ⟨s.toArray⟩) false).run Try.prog w = .ok v w ∧ Strs w v t := by
  obtain ⟨n, f, hn, hm, hsay⟩ := h
  have := hsay s
  rw [ht] at this
  obtain ⟨v, h1, h2⟩ := this
  exact ⟨v, by rw [hm.look1 s hs, h1]; rfl, h2⟩
theorem bound_self {l : List BindD} (hn : (l.map (·.1)).Nodup) : ∀ {x : BindD}, x ∈ l → boundS l x.1 = some x.2 := by
  induction l with
  | nil => intro x hx; cases hx
  | cons y l ih =>
    intro x hx
    rw [List.map_cons, List.nodup_cons] at hn
    rw [boundS_cons]
    rcases List.mem_cons.1 hx with rfl | hx
    · rw [if_pos rfl]
    · rw [if_neg (fun e => hn.1 (by rw [e]; exact List.mem_map.2 ⟨x, hx, rfl⟩)), ih hn.2 hx]
/-- the bindings of Compose's first part -/
def compA (a b : List BindD) : List BindD := a.map (fun x => (x.1, applyS x.2 b))
theorem compA_take {a b : List BindD} {k : Nat} {x : BindD} (h : a[k]? = some x) : compA (a.take (k + 1)) b = compA (a.take k) b ++ [(x.1, applyS x.2 b)] := by
  unfold compA; rw [List.take_add_one, h]; simp
theorem compA_len (a b : List BindD) : (compA a b).length = a.length := by unfold compA; simp
theorem composeS_size {a b : List BindD} (h1 : checkS a = 0) (h2 : checkS b = 0) (h3 : 40 < (compS a b).length) : composeS a b = ([], 4) := by
  unfold composeS; rw [if_neg (by simp [h1]), if_neg (by simp [h2]), if_pos h3]
theorem composeS_large {a b : List BindD} (h1 : checkS a = 0) (h2 : checkS b = 0) (h3 : ¬ 40 < (compS a b).length) {x : BindD} (hx : x ∈ a) (hl : 2000 < (applyS x.2 b).length) : composeS a b = ([], 15) := by
  unfold composeS; rw [if_neg (by simp [h1]), if_neg (by simp [h2]), if_neg h3, if_pos ⟨x, hx, hl⟩]
theorem composeS_bad {a b : List BindD} (h : (if checkS a ≠ 0 then checkS a else checkS b) ≠ 0) : composeS a b = ([], if checkS a ≠ 0 then checkS a else checkS b) := by
  unfold composeS
  by_cases h1 : checkS a = 0
  · rw [if_neg (by simp [h1])] at h ⊢
    rw [if_pos h, if_neg (by simp [h1])]
  · rw [if_pos h1, if_pos h1]
theorem limited_own_as (w : World) (lv tv : Value) (l : List BindD) (text : Form) (most : Int) (L : Form) (z : Int) (h : limitedS text l most = (L, z)) (hl : BindAt w lv l) (ht : Strs w tv text) (hsl : ∀ x ∈ l, x.1.length ≤ maxLen) (hsz : ∀ s ∈ text, s.length ≤ maxLen) (hL : l.length ≤ 1000000) (hA : (applyS text l).length ≤ 1000000000) (hmx : most ≤ 9223372036854775807) :
    Calls Try.prog 60 #[tv, lv, .int .i64 most] w fun e w' => ∃ v, e = .returned (.tuple #[v, .int .i64 z]) ∧ w'.ownsRow w.heap.size 9 1 v L.length (L.map strV) ∧ Below w.heap.size w w' := by
  have := limited_own w lv tv l text most hl ht hsl hsz hL hA hmx
  rwa [h] at this
theorem composeS_fine {a b : List BindD} (h1 : checkS a = 0) (h2 : checkS b = 0) (h3 : ¬ 40 < (compS a b).length) (h4 : ∀ x ∈ a, (applyS x.2 b).length ≤ 2000) : composeS a b = (compA a b ++ restS a b, 0) :=
  composeS_mk h1 h2 (by omega) h4
set_option maxRecDepth 100000 in
set_option maxHeartbeats 8000000 in
theorem compose_any (w : World) (av bv : Value) (a b : List BindD) (ha : BindAt w av a) (hb : BindAt w bv b) (hsa : ∀ x ∈ a, x.1.length ≤ maxLen ∧ ∀ s ∈ x.2, s.length ≤ maxLen) (hsb : ∀ x ∈ b, x.1.length ≤ maxLen ∧ ∀ s ∈ x.2, s.length ≤ maxLen) :
    Calls Try.prog 23 #[av, bv] w fun e w' => ∃ v, e = .returned (.tuple #[v, .int .i64 (composeS a b).2]) ∧ BindAt w' v (composeS a b).1 ∧ Below w.heap.size w w' := by
  have ha0 := ha
  have hb0 := hb
  obtain ⟨aA, ac, rfl, hac, ham, hax⟩ := ha
  obtain ⟨bA, bc, rfl, hbc, hbm, hbx⟩ := hb
  clear hax hbx
  unfold maxLen at ham hbm
  have HA := Lib.hid ha0
  have HB := Lib.hid hb0
  clear ha0 hb0
  obtain ⟨E, hE⟩ : ∃ E, E = (if checkS a ≠ 0 then checkS a else checkS b) := ⟨_, rfl⟩
  by_cases hE0 : E = 0
  · have c12 : checkS a = 0 ∧ checkS b = 0 := by
      rw [hE] at hE0
      by_cases h1 : checkS a = 0
      · rw [if_neg (by simp [h1])] at hE0; exact ⟨h1, hE0⟩
      · rw [if_pos h1] at hE0; exact absurd hE0 h1
    have HC1 := Lib.hid c12.1
    have HC2 := Lib.hid c12.2
    obtain ⟨a1, a2, a3⟩ := checkS_ok.1 c12.1
    obtain ⟨b1, b2, b3⟩ := checkS_ok.1 c12.2
    have HA2 := Lib.hid a2
    have HB2 := Lib.hid b2
    have HB3 := Lib.hid b3
    have HSA := Lib.hid hsa
    have HSB := Lib.hid hsb
    have HSB1 := Lib.hid (fun x hx => (hsb x hx).1)
    have HSA1 := Lib.hid (fun x hx => (hsa x hx).1)
    have HAP : Hid (∀ t : Form, (applyS t b).length ≤ t.length * 2000) := Lib.hid (by
      intro t
      have key : ∀ s, (imageS b s).length ≤ 2000 := fun s => by
        unfold imageS boundS
        cases h : b.find? (fun x => x.1 == s) with
        | none => simp
        | some x => exact (b2 x (List.mem_of_find?_eq_some h)).2
      induction t with
      | nil => simp [applyS]
      | cons s t ih => rw [applyS_cons, List.length_append, List.length_cons, Nat.add_mul]; have := key s; omega)
    clear c12 a2 a3 b2 b3 hsa hsb hE
    subst hE0
    obtain ⟨i0, hi, hj0, hj1, hj2⟩ := info_parts infoBind
    go_enter Try.func23, Try.ntmps23
    go_wp2_with (first
      | (go_at_call 59; (first
        | ((with_reducible refine (check_any _ _ b (HB.out.below hb1) HSB1.out).mono ?_); rw [HC2.out]; rintro e w2 ⟨rfl, hb2⟩)
        | ((with_reducible refine (check_any _ _ a HA.out HSA1.out).mono ?_); rw [HC1.out]; rintro e w1 ⟨rfl, hb1⟩)))
      | (go_at_call 58; (refine (or_zero _ _ (ints_two _ 0 0 _ rfl)).mono ?_; rintro e w3 ⟨rfl, rfl⟩))
      | (go_at_call 49; (first
        | ((with_reducible refine (bind_any _ _ b (HB.out.below (then_ HW4.out hb4)) HSB1.out (by omega)).mono ?_); rintro e w5 ⟨p2, rfl, hp2, hb5⟩)
        | ((with_reducible refine (bind_any _ _ a (HA.out.below (new_ (then_ hb1 hb2) _)) HSA1.out (by omega)).mono ?_); rintro e w4 ⟨p1, rfl, hp1, hb4⟩; have HW4 := Lib.hid (new_ (then_ hb1 hb2) (.cells #[.int .i64 0, .int .i64 0] 46))))))
    have HBW := Lib.hid (then_ (then_ HW4.out hb4) hb5)
    have HP1 := Lib.hid (hp1.below hb5)
    have HP2 := Lib.hid hp2
    clear hp1 hp2 hb4 hb5 HW4 hb1 hb2
    go_loopw [9, 40] (fun sz i wr => ∃ (k m : Nat), k ≤ b.length ∧ i = .int .i64 k ∧ sz = .int .i64 m ∧ m ≤ a.length + k ∧ Hid (m = a.length + (restS a (b.take k)).length) ∧ Below w5.heap.size w5 wr) (fun _ i _ => b.length - (intOf i).toNat)
    case atStart => exact ⟨0, a.length, Nat.zero_le _, rfl, rfl, by omega, Lib.hid (by simp [restS]), Below.refl _ _⟩
    case round =>
      obtain ⟨k, m, hk, rfl, rfl, hmk, HM, hbw⟩ := hrel
      by_cases hlt : k < b.length
      · obtain ⟨y, hy⟩ : ∃ y, b[k]? = some y := ⟨_, List.getElem?_eq_getElem hlt⟩
        obtain ⟨B', c', hvv, _, _, hx⟩ := HB.out.below (then_ HBW.out hbw)
        obtain ⟨rfl, _, rfl⟩ := (by simpa using hvv : bA = B' ∧ True ∧ bc = c')
        obtain ⟨b1', o1, tv, rfl, g1, g2, g3⟩ := hx k y hy
        obtain ⟨tA, tc, rfl⟩ := g3.form
        have hys := (HSB.out y (List.mem_of_getElem? hy)).1
        have HST := Lib.hid (rest_step (a := a) hy)
        obtain ⟨lv, hlook⟩ := binder_says (HP1.out.below (new_ hbw (.cells #[.string ⟨y.1.toArray⟩, .slice tA y.2.length tc] 28))) y.1 hys
        clear hx hy hvv g3
        cases hbd : (boundS a y.1).isSome with
        | true =>
          rw [hbd] at hlook
          have HS2 : Hid (restS a (b.take (k + 1)) = restS a (b.take k)) := Lib.hid (by rw [HST.out, if_neg (by rw [Option.isNone_iff_eq_none]; intro e; rw [e] at hbd; cases hbd)]; simp)
          clear hbd
          go_wp2
          go_roundw
          case rel => exact ⟨k + 1, m, by omega, by go_num, rfl, by omega, Lib.hid (by rw [HS2.out]; exact HM.out), new_ hbw _⟩
          case measure => simp [intOf]; omega
        | false =>
          rw [hbd] at hlook
          have HS2 : Hid (restS a (b.take (k + 1)) = restS a (b.take k) ++ [y]) := Lib.hid (by rw [HST.out, if_pos (by simpa using hbd)])
          clear hbd
          go_wp2
          go_roundw
          case rel => exact ⟨k + 1, m + 1, by omega, by go_num, by go_num, by omega, Lib.hid (by rw [HS2.out, List.length_append, HM.out]; rfl), new_ hbw _⟩
          case measure => simp [intOf]; omega
      · obtain rfl : k = b.length := by omega
        rw [List.take_length] at HM
        have HM2 : Hid ((compS a b).length = m) := Lib.hid (by rw [comp_len, HM.out])
        by_cases h40 : 40 < m
        · have HS := Lib.hid (composeS_size HC1.out HC2.out (by rw [HM2.out]; exact h40))
          have e1 : decide ((40 : Int) < (m : Int)) = true := decide_eq_true (by omega)
          clear h40
          go_wp2
          go_ret2
          rw [HS.out]
          exact ⟨_, rfl, BindAt.nil_, then_ HBW.out hbw⟩
        · have H40 : Hid (¬ 40 < (compS a b).length) := Lib.hid (by rw [HM2.out]; exact h40)
          have e1 : decide ((40 : Int) < (m : Int)) = false := decide_eq_false (by omega)
          clear h40 hmk
          obtain ⟨wo, rfl⟩ : ∃ wo : World, wo = wr := ⟨_, rfl⟩
          have hwo := hbw.size
          go_wp2
          go_loopw [14, 60] (fun ov i wr => ∃ (k : Nat) (z : List (BindD × Value)), k ≤ a.length ∧ i = .int .i64 k ∧ BRow wr w5.heap.size ov z ∧ Hid (z.map (·.1) = compA (a.take k) b) ∧ Hid (∀ x ∈ a.take k, (applyS x.2 b).length ≤ 2000) ∧ Below w5.heap.size w5 wr) (fun _ i _ => a.length - (intOf i).toNat)
          case atStart => exact ⟨0, [], Nat.zero_le _, rfl, BRow.nil_, Lib.hid (by simp [compA]), Lib.hid (by simp), hbw⟩
          case round =>
            obtain ⟨k, z, hk, rfl, hrow, HZ, HL, hbw⟩ := hrel
            have hwz := hbw.size
            by_cases hlt : k < a.length
            · obtain ⟨y, hy⟩ : ∃ y, a[k]? = some y := ⟨_, List.getElem?_eq_getElem hlt⟩
              obtain ⟨A', c', hvv, _, _, hx⟩ := HA.out.below (then_ HBW.out hbw)
              obtain ⟨rfl, _, rfl⟩ := (by simpa using hvv : aA = A' ∧ True ∧ ac = c')
              obtain ⟨b1', o1, tv, rfl, g1, g2, g3⟩ := hx k y hy
              obtain ⟨tA, tc, rfl⟩ := g3.form
              have hyl : y.2.length ≤ 2000 := (HA2.out y (List.mem_of_getElem? hy)).2
              have hys := (HSA.out y (List.mem_of_getElem? hy)).2
              have hap : (applyS y.2 b).length ≤ 1000000000 := by have := HAP.out y.2; omega
              have HY := Lib.hid hy
              have HTK := Lib.hid (compA_take (b := b) hy)
              have HG3 := Lib.hid g3
              have HYS := Lib.hid hys
              have HAPY := Lib.hid hap
              clear hx hy hvv g3 hys hap
              by_cases hlg : 2000 < (applyS y.2 b).length
              · have HLM := Lib.hid (limit_large hlg)
                have HS := Lib.hid (composeS_large HC1.out HC2.out H40.out (List.mem_of_getElem? HY.out) hlg)
                clear hlg
                go_wp2_with (go_at_call 60; (refine (limited_own_as _ _ _ b y.2 2000 [] 15 HLM.out (HB.out.below (new_ (then_ HBW.out hbw) _)) (HG3.out.alloc _) HSB1.out HYS.out (by omega) HAPY.out (by decide)).mono ?_; rintro e w6 ⟨v6, rfl, hv6, hb6⟩))
                go_ret2
                rw [HS.out]
                exact ⟨_, rfl, BindAt.nil_, then_ (new_ (then_ HBW.out hbw) _) hb6⟩
              · have HLM := Lib.hid (limit_fits hlg)
                have HLG := Lib.hid hlg
                obtain ⟨L, hL⟩ : ∃ L, L = applyS y.2 b := ⟨_, rfl⟩
                rw [← hL] at HLM
                have HLL := Lib.hid hL
                have hzl : z.length ≤ 40 := by have := congrArg List.length HZ.out; rw [List.length_map, compA_len, List.length_take] at this; omega
                obtain ⟨M, hM⟩ : ∃ M, M = z.length := ⟨_, rfl⟩
                obtain ⟨X, hX⟩ : ∃ X, X = z.flatMap bcell := ⟨_, rfl⟩
                have HMM := Lib.hid hM
                have HXX := Lib.hid hX
                have HROW := Lib.hid hrow
                rw [← hM] at hzl
                clear hlg hL hM hX hrow
                have hb0 : Below wr.heap.size wr (wr.alloc (.cells #[.string ⟨y.1.toArray⟩, .slice tA y.2.length tc] 28)) := new_ (Below.refl _ _) _
                go_wp2_with (first
                  | (go_at_call 60; (refine (limited_own_as _ _ _ b y.2 2000 L 0 HLM.out (HB.out.below (new_ (then_ HBW.out hbw) _)) (HG3.out.alloc _) HSB1.out HYS.out (by omega) HAPY.out (by decide)).mono ?_; rintro e w6 ⟨v6, rfl, hv6, hb6⟩; have q0 := ((Row.new wr 28 #[.string ⟨y.1.toArray⟩, .slice tA y.2.length tc]).below hb6 (by simp)).cell (i := 0) (v := .string ⟨y.1.toArray⟩) rfl; have hw6 := then_ hb0 hb6; have hrow6 := HROW.out.below hw6; have hown6 := hrow6.own; rw [← HMM.out, ← HXX.out] at hown6; have hz6 := hw6.size; have HW6 := Lib.hid hw6; have HROW6 := Lib.hid hrow6; have HV6 := Lib.hid hv6; obtain ⟨la, lc, rfl, _⟩ := own_form hv6; clear hw6 hrow6 hb6 hv6))
                  | (at_builtin; (refine wpList_append_own _ rfl (.tmp 74) (.tmp 79) 23 rfl w5.heap.size 28 i0 (.agg #[.string ⟨#[]⟩, .slice none 0 0]) 2 40 Try.underlying23 hi hj0 hj1 hj2 rfl (by decide) _ M X rfl (hown6.alloc _) ⟨w6.heap.size, 0, none⟩ 1 1 [.string ⟨y.1.toArray⟩, .slice la L.length lc] rfl rfl (cells_of' _ _ _ _ rfl rfl) (by simp [Value.oneCell']) (by unfold maxLen; omega) (by omega) (by simp; omega) ?_; intro v' wz hown' hgrow _)))
                go_roundw
                case rel => exact ⟨k + 1, z ++ [((y.1, L), .slice la L.length lc)], by omega, by go_num, (HROW6.out.below (new_ (Below.refl _ _) _)).snoc (y.1, L) (OwnStr.below ⟨_, HV6.out⟩ (new_ (Below.refl _ _) _)) hgrow (by rw [← HMM.out, ← HXX.out]; exact hown'), Lib.hid (by rw [HTK.out, List.map_append, HZ.out, HLL.out]; rfl), Lib.hid (by rw [take_snoc HY.out]; intro x hx; rcases List.mem_append.1 hx with hx | hx; exact HL.out x hx; simp at hx; rw [hx]; have := HLG.out; omega), (new_ (hbw.trans (HW6.out.mono hwz)) _).grown hgrow (by simp; omega) (fun j ej => own_block hown6 j ej)⟩
                case measure => simp [intOf]; omega
            · obtain rfl : k = a.length := by omega
              rw [List.take_length] at HZ HL
              obtain ⟨wp, rfl⟩ : ∃ wp : World, wp = wr := ⟨_, rfl⟩
              have HFIN := Lib.hid (composeS_fine HC1.out HC2.out H40.out HL.out)
              go_wp2
              go_loopw [14, 84] (fun ov i wr => ∃ (k : Nat) (z : List (BindD × Value)), k ≤ b.length ∧ i = .int .i64 k ∧ BRow wr w5.heap.size ov z ∧ Hid (z.map (·.1) = compA a b ++ restS a (b.take k)) ∧ Below w5.heap.size w5 wr) (fun _ i _ => b.length - (intOf i).toNat)
              case atStart => exact ⟨0, z, Nat.zero_le _, rfl, hrow, Lib.hid (by rw [HZ.out]; simp [restS]), hbw⟩
              case round =>
                obtain ⟨k, z, hk, rfl, hrow, HZ, hbw⟩ := hrel
                have hwz := hbw.size
                by_cases hlt : k < b.length
                · obtain ⟨y, hy⟩ : ∃ y, b[k]? = some y := ⟨_, List.getElem?_eq_getElem hlt⟩
                  obtain ⟨B', c', hvv, _, _, hx⟩ := HB.out.below (then_ HBW.out hbw)
                  obtain ⟨rfl, _, rfl⟩ := (by simpa using hvv : bA = B' ∧ True ∧ bc = c')
                  obtain ⟨b1', o1, tv, rfl, g1, g2, g3⟩ := hx k y hy
                  obtain ⟨tA, tc, rfl⟩ := g3.form
                  have hys := (HSB.out y (List.mem_of_getElem? hy)).1
                  have hyl : y.2.length ≤ 2000 := (HB2.out y (List.mem_of_getElem? hy)).2
                  have HST := Lib.hid (rest_step (a := a) hy)
                  have HBS := Lib.hid (bound_self HB3.out (List.mem_of_getElem? hy))
                  obtain ⟨lv, hlook⟩ := binder_says (HP1.out.below (new_ hbw (.cells #[.string ⟨y.1.toArray⟩, .slice tA y.2.length tc] 28))) y.1 hys
                  clear hx hy hvv g3
                  cases hbd : (boundS a y.1).isSome with
                  | true =>
                    rw [hbd] at hlook
                    have HS2 : Hid (restS a (b.take (k + 1)) = restS a (b.take k)) := Lib.hid (by rw [HST.out, if_neg (by rw [Option.isNone_iff_eq_none]; intro e; rw [e] at hbd; cases hbd)]; simp)
                    clear hbd
                    go_wp2
                    go_roundw
                    case rel => exact ⟨k + 1, z, by omega, by go_num, hrow.below (new_ (Below.refl _ _) _), Lib.hid (by rw [HS2.out]; exact HZ.out), new_ hbw _⟩
                    case measure => simp [intOf]; omega
                  | false =>
                    rw [hbd] at hlook
                    have HS2 : Hid (restS a (b.take (k + 1)) = restS a (b.take k) ++ [y]) := Lib.hid (by rw [HST.out, if_pos (by simpa using hbd)])
                    clear hbd
                    have hzl : z.length ≤ 80 := by have := congrArg List.length HZ.out; rw [List.length_map, List.length_append, compA_len] at this; have := rest_len a b k; omega
                    obtain ⟨M, hM⟩ : ∃ M, M = z.length := ⟨_, rfl⟩
                    obtain ⟨X, hX⟩ : ∃ X, X = z.flatMap bcell := ⟨_, rfl⟩
                    have HMM := Lib.hid hM
                    have HXX := Lib.hid hX
                    have HROW := Lib.hid hrow
                    rw [← hM] at hzl
                    clear hM hX hrow
                    go_wp2
                    obtain ⟨W7, hW7⟩ : ∃ W7 : World, W7 = wr.alloc (.cells #[.string ⟨y.1.toArray⟩, .slice tA y.2.length tc] 28) := ⟨_, rfl⟩
                    rw [← hW7]
                    have hb7 : Below wr.heap.size wr W7 := by rw [hW7]; exact new_ (Below.refl _ _) _
                    have r7 : Row W7 wr.heap.size 28 #[.string ⟨y.1.toArray⟩, .slice tA y.2.length tc] := by rw [hW7]; exact Row.new _ _ _
                    clear hlook g1 g2 hW7
                    have hz7 := hb7.size
                    have hl7 := r7.lt
                    have q7 := r7.cell (i := 0) (v := .string ⟨y.1.toArray⟩) rfl
                    have hrow7 := HROW.out.below hb7
                    have hw7 : Below w5.heap.size w5 W7.drew := (hbw.trans (hb7.mono hwz)).drew
                    obtain ⟨gv, hlk, hgv⟩ := binder_gives (w := W7.drew) (HP2.out.below hw7) y.1 hys HBS.out
                    obtain ⟨ga, gc, rfl⟩ := hgv.form
                    have HGV := Lib.hid hgv
                    have HR7 := Lib.hid hrow7
                    have HB7 := Lib.hid r7
                    have HW7 := Lib.hid hw7
                    obtain ⟨YL, hYL⟩ : ∃ YL, YL = y.2.length := ⟨_, rfl⟩
                    have HYL := Lib.hid hYL
                    rw [← hYL] at hlk
                    clear hgv hrow7 r7 hw7 hYL
                    go_region_law (first
                      | (refine step_append_lies _ rfl (.tmp 97) (.tmp 106) 23 rfl w5.heap.size 28 i0 (.agg #[.string ⟨#[]⟩, .slice none 0 0]) 2 40 Try.underlying23 hi hj0 hj1 hj2 rfl (by decide) u14 M X (by rfl) (hown8.alloc _) ⟨w8.heap.size, 0, none⟩ 1 1 [.string ⟨y.1.toArray⟩, .slice va YL vc] (by rfl) rfl (cells_of' _ _ _ _ rfl rfl) (by simp [Value.oneCell']) (by decide) (by unfold maxLen; omega) (by omega) (by simp; omega) _ rfl ?_; intro gg cap wz hown' hgrow hat hltz)
                      | (go_simp; go_at_call 17; refine (clone_own W7.drew (.slice ga YL gc) y.2 (by rw [HYL.out]; exact HGV.out) (by omega)).mono ?_; rintro e w8 ⟨v8, rfl, hv8, hb8⟩; have hb8' : Below W7.heap.size W7 w8 := ((Below.refl _ _).drew).trans hb8; have q8 := (HB7.out.below hb8' hl7).cell (i := 0) (v := .string ⟨y.1.toArray⟩) rfl; have hrow8 := HR7.out.below hb8'; have hown8 := hrow8.own; rw [← HMM.out, ← HXX.out] at hown8; have hz8 := hb8'.size; have HROW8 := Lib.hid hrow8; have HV8 := Lib.hid hv8; obtain ⟨va, vc, rfl, _⟩ := own_form hv8; rw [← HYL.out]; have HB8 := Lib.hid hb8'; clear hrow8 hb8 hv8 hb8'))
                    all_goals
                      go_wp2
                      go_roundw
                      case rel => exact ⟨k + 1, z ++ [(y, .slice va YL vc)], by omega, by go_num, (HROW8.out.below (new_ (Below.refl _ _) _)).snoc y (OwnStr.below (by rw [HYL.out]; exact ⟨_, HV8.out⟩) (new_ (Below.refl _ _) _)) hgrow (by rw [← HMM.out, ← HXX.out]; exact hown'), Lib.hid (by rw [List.map_append, HZ.out, HS2.out, List.append_assoc]; rfl), (new_ ((hbw.trans (hb7.mono hwz)).trans (HB8.out.mono (by omega))) _).grown hgrow (by simp; omega) (fun j ej => own_block hown8 j ej)⟩
                      case measure => simp [intOf]; omega
                · obtain rfl : k = b.length := by omega
                  rw [List.take_length] at HZ
                  obtain ⟨oa, oc, rfl, hco⟩ := own_form hrow.own
                  go_wp2
                  go_ret2
                  rw [HFIN.out]
                  refine ⟨_, rfl, ?_, then_ HBW.out hbw⟩
                  have := hrow.bindAt
                  rw [HZ.out] at this
                  exact this
  · have HS := Lib.hid (composeS_bad (a := a) (b := b) (by rw [← hE]; exact hE0))
    rw [← hE] at HS
    obtain ⟨z1, hz1⟩ : ∃ z1, checkS a = z1 := ⟨_, rfl⟩
    obtain ⟨z2, hz2⟩ : ∃ z2, checkS b = z2 := ⟨_, rfl⟩
    rw [hz1, hz2] at hE
    have HC1 := Lib.hid hz1
    have HC2 := Lib.hid hz2
    have HE := Lib.hid hE
    have HSA1 := Lib.hid (fun x hx => (hsa x hx).1)
    have HSB1 := Lib.hid (fun x hx => (hsb x hx).1)
    have t1 : (E != 0) = true := by simpa using hE0
    have t2 : (E == 0) = false := by simpa using hE0
    clear hE hz1 hz2 hE0 hsa hsb
    go_enter Try.func23, Try.ntmps23
    go_wp2_with (first
      | (go_at_call 59; (first
        | ((with_reducible refine (check_any _ _ b (HB.out.below hb1) HSB1.out).mono ?_); rw [HC2.out]; rintro e w2 ⟨rfl, hb2⟩)
        | ((with_reducible refine (check_any _ _ a HA.out HSA1.out).mono ?_); rw [HC1.out]; rintro e w1 ⟨rfl, hb1⟩)))
      | (go_at_call 58; (refine (or_errno _ _ z1 z2 (ints_two _ z1 z2 _ rfl)).mono ?_; rw [← HE.out]; rintro e w3 ⟨rfl, rfl⟩)))
    go_ret2
    rw [HS.out]
    exact ⟨_, rfl, BindAt.nil_, new_ (then_ hb1 hb2) _⟩
end Go.Proofs.Ytignhjfobcnloaa
