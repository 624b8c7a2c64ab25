/- Compose of the reference. -/
import Derived.Test.YtieclecpjjfhfaaComposeRow
import Derived.Test.YtieclecpjjfhfaaSubVars
import Derived.Deep.RegionHeld3
import Derived.Deep.DrawnRows
import Derived.Deep.RegionLaw
namespace Go.Proofs.Ytieclecpjjfhfaa
open Go.RowKit
theorem bound_take_no {l : List BindD} {k : Nat} {y : BindD} {s : List UInt8} (hy : l[k]? = some y) (h : boundS (l.take k) s = none) (hne : y.1 ≠ s) : boundS (l.take (k + 1)) s = none := by
  rw [List.take_add_one, hy, boundS_append, h]
  show boundS [y] s = none
  rw [boundS_cons, if_neg hne]; rfl
theorem bound_hit {l : List BindD} {k : Nat} {y : BindD} (hy : l[k]? = some y) : (boundS l y.1).isSome = true := by
  cases h : boundS l y.1 with
  | some t => rfl
  | none => exact absurd (List.mem_map.2 ⟨y, List.mem_of_getElem? hy, rfl⟩) (boundS_none.1 h)
theorem ref_bound (w : World) (v : Value) (l : List BindD) (s : List UInt8) (h : BindAt w v l) :
    Calls Try.prog 131 #[v, .string ⟨s.toArray⟩] w fun e w' => e = .returned (.bool (boundS l s).isSome) ∧ w = w' := by
  obtain ⟨A, c, rfl, hc, hm, hx⟩ := h
  unfold maxLen at hm
  go_enter Try.func131, Try.ntmps131
  go_wp2
  go_loop [5] (fun i => ∃ k : Nat, k ≤ l.length ∧ i = .int .i64 k ∧ Hid (boundS (l.take k) s = none)) (fun i => l.length - (intOf i).toNat)
  case atStart => exact ⟨0, Nat.zero_le _, rfl, Lib.hid rfl⟩
  case round =>
    obtain ⟨k, hk, rfl, HN⟩ := hrel
    by_cases hlt : k < l.length
    · obtain ⟨y, hy⟩ : ∃ y, l[k]? = some y := ⟨_, List.getElem?_eq_getElem hlt⟩
      obtain ⟨b, o, tv, rfl, g1, g2, g3⟩ := hx k y hy
      have HY := Lib.hid hy
      clear hx hy g2 g3
      by_cases he : y.1 = s
      · subst he
        have t1 : (y.1 == y.1) = true := by simp
        have HB := Lib.hid (bound_hit HY.out)
        go_wp2
        go_ret
        exact ⟨ret_bool HB.out.symm, rfl⟩
      · have t1 : (y.1 == s) = false := by simpa using he
        have HE := Lib.hid he
        clear he
        go_wp2
        go_round
        case rel => exact ⟨k + 1, by omega, by go_num, Lib.hid (bound_take_no HY.out HN.out HE.out)⟩
        case measure => simp [intOf]; omega
    · obtain rfl : k = l.length := by omega
      go_wp2
      go_ret
      exact ⟨ret_bool (by have := HN.out; rw [List.take_length] at this; rw [this]; rfl), rfl⟩
theorem ref_bound_as (w : World) (v : Value) (l : List BindD) (s : List UInt8) (z : Bool) (hz : (boundS l s).isSome = z) (h : BindAt w v l) :
    Calls Try.prog 131 #[v, .string ⟨s.toArray⟩] w fun e w' => e = .returned (.bool z) ∧ w = w' := hz ▸ ref_bound w v l s h
theorem ref_limited_own_as (w : World) (lv tv : Value) (l : List BindD) (text : Form) (most : Int) (L : Form) (z : Int) (h : limitedS text l most = (L, z)) (hl : BindAt w lv l) (ht : Strs w tv text) (hA : (applyS text l).length ≤ 1000000000) (hmx : most ≤ 9223372036854775807) :
    Calls Try.prog 70 #[tv, lv, .int .i64 most] w fun e w' => ∃ v, e = .returned (.tuple #[v, .int .i64 z]) ∧ w'.ownsRow w.heap.size 9 1 v L.length (L.map strV) ∧ Below w.heap.size w w' := by
  have := ref_limited_own w lv tv l text most hl ht hA hmx
  rwa [h] at this
theorem ref_check_as (w : World) (v : Value) (l : List BindD) (z : Int) (hz : checkS l = z) (h : BindAt w v l) :
    Calls Try.prog 72 #[v] w fun e w' => e = .returned (.int .i64 z) ∧ Below w.heap.size w w' := hz ▸ ref_check w v l h
/-- the row of bindings of the reference's first part -/
def compRA (a b : List BindD) : List BindD := a.map (fun x => (x.1, refText b x))
theorem compRA_take {a b : List BindD} {k : Nat} {x : BindD} (h : a[k]? = some x) : compRA (a.take (k + 1)) b = compRA (a.take k) b ++ [(x.1, refText b x)] := by
  unfold compRA; rw [List.take_add_one, h]; simp
theorem compRA_len (a b : List BindD) : (compRA a b).length = a.length := by unfold compRA; simp
theorem BindAt.lt {w : World} {b o n c : Nat} {l : List BindD} {k : Nat} {y : BindD} (h : BindAt w (.slice (some ⟨b, o, none⟩) n c) l) (hy : l[k]? = some y) : b < w.heap.size := by
  obtain ⟨A, c', hv, _, _, hx⟩ := h
  obtain ⟨b', o', tv, rfl, g1, _⟩ := hx k y hy
  obtain ⟨⟨rfl, _⟩, _⟩ := (by simpa using hv : (b = b' ∧ o = o') ∧ n = l.length ∧ c = c')
  exact block_lt_of_cell g1
/-- 2001 empty strings -/
def manyS : Form := List.replicate 2001 []
theorem manyS_len : manyS.length = 2001 := List.length_replicate
theorem many_cells : (madeCells (Value.cells (.string ⟨#[]⟩)) (2001 * 1)).toList = manyS.map strV := by
  unfold manyS
  apply List.ext_getElem?
  intro i
  rw [List.map_replicate]
  by_cases hi : i < 2001
  · rw [List.getElem?_replicate, if_pos hi, List.getElem?_eq_getElem (by simp [madeCells]; exact hi)]
    simp [madeCells, strV, Value.cells, Nat.mod_one]
  · rw [List.getElem?_replicate, if_neg hi, List.getElem?_eq_none (by simp [madeCells]; omega)]
theorem refText_large {b : List BindD} {x : BindD} (h : 2000 < (applyS x.2 b).length) : refText b x = manyS := by
  unfold refText manyS
  rw [if_neg (by rw [limited_small]; omega)]
theorem composeS_first {a b : List BindD} (h : checkS a ≠ 0) : composeS a b = ([], checkS a) := by unfold composeS; rw [if_pos h]
theorem composeS_second {a b : List BindD} (h1 : checkS a = 0) (h : checkS b ≠ 0) : composeS a b = ([], checkS b) := by unfold composeS; rw [if_neg (by simp [h1]), if_pos h]
theorem composeS_whole {a b : List BindD} (h1 : checkS a = 0) (h2 : checkS b = 0) (h : checkS (compR a b) = 0) : composeS a b = (compR a b, 0) := by
  rw [compR_ok h1 h2 h]
  rw [compR_check h1 h2] at h
  obtain ⟨_, _, _, _, h5⟩ := composeS_ok h
  exact h5
theorem composeS_bad2 {a b : List BindD} {E : Int} (h1 : checkS a = 0) (h2 : checkS b = 0) (h : checkS (compR a b) = E) (h0 : E ≠ 0) : composeS a b = ([], E) := by
  rw [compR_check h1 h2] at h
  refine Prod.ext (composeS_err (by rw [h]; exact h0)) h
attribute [local go_sem ↓] Go.wp_at_zero Go.wp_at_succ
set_option maxRecDepth 100000 in
set_option maxHeartbeats 8000000 in
theorem ref_compose (w : World) (av bv : Value) (a b : List BindD) (ha : BindAt w av a) (hb : BindAt w bv b) :
    Calls Try.prog 77 #[av, bv] w fun e w' => ∃ v, e = .returned (.tuple #[v, .int .i64 (composeS a b).2]) ∧ BindAt w' v (composeS a b).1 ∧ Below w.heap.size w w' := by
  have HA := Lib.hid ha
  have HB := Lib.hid hb
  obtain ⟨aA, ac, rfl, hac, ham, hax⟩ := ha
  obtain ⟨bA, bc, rfl, hbc, hbm, hbx⟩ := hb
  clear hax hbx
  unfold maxLen at ham hbm
  obtain ⟨z1, hz1⟩ : ∃ z1, checkS a = z1 := ⟨_, rfl⟩
  obtain ⟨z2, hz2⟩ : ∃ z2, checkS b = z2 := ⟨_, rfl⟩
  have HC1 := Lib.hid hz1
  have HC2 := Lib.hid hz2
  by_cases h1 : z1 = 0
  · subst h1
    obtain ⟨a1, a2, a3⟩ := checkS_ok.1 hz1
    have HA2 := Lib.hid a2
    clear a2 a3
    by_cases h2 : z2 = 0
    · subst h2
      obtain ⟨b1, b2, b3⟩ := checkS_ok.1 hz2
      have HB2 := Lib.hid b2
      have HAP : Hid (∀ t : Form, (applyS t b).length ≤ t.length * 2000) := Lib.hid (by
        intro t
        have key : ∀ s, (imageS b s).length ≤ 2000 := fun s => by
          unfold imageS boundS
          cases h : b.find? (fun x => x.1 == s) with
          | none => simp
          | some x => exact (b2 x (List.mem_of_find?_eq_some h)).2
        induction t with
        | nil => simp [applyS]
        | cons s t ih => rw [applyS_cons, List.length_append, List.length_cons, Nat.add_mul]; have := key s; omega)
      clear b2 b3 hz1 hz2
      obtain ⟨i0, hi, hj0, hj1, hj2⟩ := info_parts infoBind
      obtain ⟨s0, si, sj0, sj1, sj2⟩ := info_parts infoStr
      go_enter Try.func77, Try.ntmps77
      go_wp2_with (go_at_call 72; (first
        | ((with_reducible refine (ref_check_as _ _ b 0 HC2.out (HB.out.below hb1)).mono ?_); rintro e w2 ⟨rfl, hb2⟩)
        | ((with_reducible refine (ref_check_as _ _ a 0 HC1.out HA.out).mono ?_); rintro e w1 ⟨rfl, hb1⟩)))
      have HBW := Lib.hid (then_ hb1 hb2)
      clear hb1 hb2
      go_loopw [8, 9] (fun ov i wr => ∃ (k : Nat) (z : List (BindD × Value)), k ≤ a.length ∧ i = .int .i64 k ∧ BRow wr w2.heap.size ov z ∧ Hid (z.map (·.1) = compRA (a.take k) b) ∧ Below w2.heap.size w2 wr) (fun _ i _ => a.length - (intOf i).toNat)
      case atStart => exact ⟨0, [], Nat.zero_le _, rfl, ⟨World.ownsRow_made _ _ _ (Nat.le_refl _) (by decide) rfl, by simp⟩, Lib.hid (by simp [compRA]), new_ (Below.refl _ _) _⟩
      case round =>
        obtain ⟨k, z, hk, rfl, hrow, HZ, hbw⟩ := hrel
        have hwz := hbw.size
        by_cases hlt : k < a.length
        · obtain ⟨y, hy⟩ : ∃ y, a[k]? = some y := ⟨_, List.getElem?_eq_getElem hlt⟩
          obtain ⟨A', c', hvv, _, _, hx⟩ := HA.out.below (then_ HBW.out hbw)
          obtain ⟨rfl, _, rfl⟩ := (by simpa using hvv : aA = A' ∧ True ∧ ac = c')
          obtain ⟨b1', o1, tv, rfl, g1, g2, g3⟩ := hx k y hy
          obtain ⟨tA, tc, rfl⟩ := g3.form
          have hyl : y.2.length ≤ 2000 := (HA2.out y (List.mem_of_getElem? hy)).2
          have hap : (applyS y.2 b).length ≤ 1000000000 := by have := HAP.out y.2; omega
          have HTK := Lib.hid (compRA_take (b := b) hy)
          have HG3 := Lib.hid g3
          have HAPY := Lib.hid hap
          have hzl : z.length ≤ 40 := by have := congrArg List.length HZ.out; rw [List.length_map, compRA_len, List.length_take] at this; omega
          obtain ⟨M, hM⟩ : ∃ M, M = z.length := ⟨_, rfl⟩
          obtain ⟨X, hX⟩ : ∃ X, X = z.flatMap bcell := ⟨_, rfl⟩
          have HMM := Lib.hid hM
          have HXX := Lib.hid hX
          have HROW := Lib.hid hrow
          rw [← hM] at hzl
          have HG1 := Lib.hid g1
          have hlb := block_lt_of_cell g1
          dsimp only at hlb
          clear hx hy hvv g3 hap hM hX hrow
          by_cases hlg : 2000 < (applyS y.2 b).length
          · have HLM := Lib.hid (limit_large hlg)
            have HRT := Lib.hid (refText_large hlg)
            have HML := Lib.hid manyS_len
            obtain ⟨L, hL⟩ : ∃ L, L = manyS := ⟨_, rfl⟩
            have HLL := Lib.hid hL
            have hll : L.length = 2001 := by rw [hL]; exact manyS_len
            have HLN := Lib.hid hll
            clear hlg hL hll
            go_wp2_with (first
              | (go_at_call 70; (refine (ref_limited_own_as _ _ _ b y.2 2000 [] 15 HLM.out (HB.out.below (then_ HBW.out hbw)) HG3.out HAPY.out (by decide)).mono ?_; rintro e w6 ⟨v6, rfl, hv6, hb6⟩))
              | (at_make; (refine wpList_make_full _ rfl (.const (.int .i64 2001)) (.const (.int .i64 2001)) 24 rfl w6.heap.size 9 s0 (.string ⟨#[]⟩) 1 Try.underlying24 si sj0 sj1 .i64 .i64 2001 2001 2001 rfl rfl rfl rfl (by rw [sj2]; decide) (by decide) (Nat.le_refl _) ?_; intro w7 hown7 hg7; have hb7 : Below w6.heap.size w6 w7 := (Below.refl _ _).grown hg7 (Nat.le_refl _) (fun j ej => by cases ej); have hb67 := then_ hb6 hb7; have q7 := (hb67.cell (p := ⟨b1', o1 + k * 2, none⟩) hlb).trans HG1.out; have hrow7 := HROW.out.below hb67; have hr7 := hrow7.own; rw [← HMM.out, ← HXX.out] at hr7; have hz7 := hb67.size; rw [many_cells] at hown7; have HO7 := Lib.hid hown7; have HROW7 := Lib.hid hrow7; have HB67 := Lib.hid hb67; clear hown7 hg7 hb7 hb6 hb67 hrow7))
              | (at_builtin; (refine wpList_append_own _ rfl (.tmp 44) (.tmp 52) 114 rfl w2.heap.size 117 i0 (.agg #[.string ⟨#[]⟩, .slice none 0 0]) 2 40 Try.underlying114 hi hj0 hj1 hj2 rfl (by decide) _ M X rfl (hr7.alloc _) ⟨w7.heap.size, 0, none⟩ 1 1 [.string ⟨y.1.toArray⟩, .slice (some ⟨w6.heap.size, 0, none⟩) 2001 2001] rfl rfl (cells_of' _ _ _ _ rfl rfl) (by simp [Value.oneCell']) (by unfold maxLen; omega) (by omega) (by simp; omega) ?_; intro v' wz hown' hgrow _)))
            go_roundw
            case rel => exact ⟨k + 1, z ++ [((y.1, L), .slice (some ⟨w6.heap.size, 0, none⟩) 2001 2001)], by omega, by go_num, (HROW7.out.below (new_ (Below.refl _ _) _)).snoc (y.1, L) (OwnStr.below ⟨_, by rw [HLN.out, HLL.out]; exact HO7.out⟩ (new_ (Below.refl _ _) _)) hgrow (by rw [← HMM.out, ← HXX.out]; exact hown'), Lib.hid (by rw [HTK.out, List.map_append, HZ.out, HLL.out, HRT.out]; rfl), (new_ (hbw.trans (HB67.out.mono hwz)) _).grown hgrow (by simp; omega) (fun j ej => own_block hr7 j ej)⟩
            case measure => simp [intOf]; omega
          · have HLM := Lib.hid (limit_fits hlg)
            have HRT := Lib.hid (refText_eq hlg)
            obtain ⟨L, hL⟩ : ∃ L, L = applyS y.2 b := ⟨_, rfl⟩
            rw [← hL] at HLM
            have HLL := Lib.hid hL
            clear hlg hL
            go_wp2_with (first
              | (go_at_call 70; (refine (ref_limited_own_as _ _ _ b y.2 2000 L 0 HLM.out (HB.out.below (then_ HBW.out hbw)) HG3.out HAPY.out (by decide)).mono ?_; rintro e w6 ⟨v6, rfl, hv6, hb6⟩; have q7 := (hb6.cell (p := ⟨b1', o1 + k * 2, none⟩) hlb).trans HG1.out; have hrow7 := HROW.out.below hb6; have hr7 := hrow7.own; rw [← HMM.out, ← HXX.out] at hr7; have hz7 := hb6.size; have HO7 := Lib.hid hv6; have HROW7 := Lib.hid hrow7; have HB67 := Lib.hid hb6; obtain ⟨la, lc, rfl, _⟩ := own_form hv6; clear hv6 hb6 hrow7))
              | (at_builtin; (refine wpList_append_own _ rfl (.tmp 44) (.tmp 52) 114 rfl w2.heap.size 117 i0 (.agg #[.string ⟨#[]⟩, .slice none 0 0]) 2 40 Try.underlying114 hi hj0 hj1 hj2 rfl (by decide) _ M X rfl (hr7.alloc _) ⟨w6.heap.size, 0, none⟩ 1 1 [.string ⟨y.1.toArray⟩, .slice la L.length lc] rfl rfl (cells_of' _ _ _ _ rfl rfl) (by simp [Value.oneCell']) (by unfold maxLen; omega) (by omega) (by simp; omega) ?_; intro v' wz hown' hgrow _)))
            go_roundw
            case rel => exact ⟨k + 1, z ++ [((y.1, L), .slice la L.length lc)], by omega, by go_num, (HROW7.out.below (new_ (Below.refl _ _) _)).snoc (y.1, L) (OwnStr.below ⟨_, HO7.out⟩ (new_ (Below.refl _ _) _)) hgrow (by rw [← HMM.out, ← HXX.out]; exact hown'), Lib.hid (by rw [HTK.out, List.map_append, HZ.out, HLL.out, HRT.out]; rfl), (new_ (hbw.trans (HB67.out.mono hwz)) _).grown hgrow (by simp; omega) (fun j ej => own_block hr7 j ej)⟩
            case measure => simp [intOf]; omega
        · obtain rfl : k = a.length := by omega
          rw [List.take_length] at HZ
          obtain ⟨wp, rfl⟩ : ∃ wp : World, wp = wr := ⟨_, rfl⟩
          go_wp2
          go_loopw [8, 12] (fun ov i wr => ∃ (k : Nat) (z : List (BindD × Value)), k ≤ b.length ∧ i = .int .i64 k ∧ BRow wr w2.heap.size ov z ∧ Hid (z.map (·.1) = compRA a b ++ restS a (b.take k)) ∧ Below w2.heap.size w2 wr) (fun _ i _ => b.length - (intOf i).toNat)
          case atStart => exact ⟨0, z, Nat.zero_le _, rfl, hrow, Lib.hid (by rw [HZ.out]; simp [restS]), hbw⟩
          case round =>
            obtain ⟨k, z, hk, rfl, hrow, HZ, hbw⟩ := hrel
            have hwz := hbw.size
            by_cases hlt : k < b.length
            · obtain ⟨y, hy⟩ : ∃ y, b[k]? = some y := ⟨_, List.getElem?_eq_getElem hlt⟩
              obtain ⟨B', c', hvv, _, _, hx⟩ := HB.out.below (then_ HBW.out hbw)
              obtain ⟨rfl, _, rfl⟩ := (by simpa using hvv : bA = B' ∧ True ∧ bc = c')
              obtain ⟨b1', o1, tv, rfl, g1, g2, g3⟩ := hx k y hy
              obtain ⟨tA, tc, rfl⟩ := g3.form
              have hyl : y.2.length ≤ 2000 := (HB2.out y (List.mem_of_getElem? hy)).2
              have HST := Lib.hid (rest_step (a := a) hy)
              have HG3 := Lib.hid g3
              have hlb := block_lt_of_cell g1
              dsimp only at hlb
              have hlw : b1' < w2.heap.size := Nat.lt_of_lt_of_le (HB.out.lt hy) HBW.out.size
              clear hx hy hvv g3
              cases hbd : (boundS a y.1).isSome with
              | true =>
                have HBD := Lib.hid hbd
                have HS2 : Hid (restS a (b.take (k + 1)) = restS a (b.take k)) := Lib.hid (by rw [HST.out, if_neg (by rw [Option.isNone_iff_eq_none]; intro e; rw [e] at hbd; cases hbd)]; simp)
                clear hbd
                go_wp2_with (go_at_call 131; (refine (ref_bound_as _ _ a y.1 true HBD.out (HA.out.below (then_ HBW.out hbw))).mono ?_; rintro e w6 ⟨rfl, rfl⟩))
                go_roundw
                case rel => exact ⟨k + 1, z, by omega, by go_num, hrow, Lib.hid (by rw [HS2.out]; exact HZ.out), hbw⟩
                case measure => simp [intOf]; omega
              | false =>
                have HBD := Lib.hid hbd
                have HS2 : Hid (restS a (b.take (k + 1)) = restS a (b.take k) ++ [y]) := Lib.hid (by rw [HST.out, if_pos (by simpa using hbd)])
                clear hbd
                have hzl : z.length ≤ 80 := by have := congrArg List.length HZ.out; rw [List.length_map, List.length_append, compRA_len] at this; have := rest_len a b k; omega
                obtain ⟨M, hM⟩ : ∃ M, M = z.length := ⟨_, rfl⟩
                obtain ⟨X, hX⟩ : ∃ X, X = z.flatMap bcell := ⟨_, rfl⟩
                have HMM := Lib.hid hM
                have HXX := Lib.hid hX
                have HROW := Lib.hid hrow
                rw [← hM] at hzl
                clear hM hX hrow
                go_wp2_with (go_at_call 131; (refine (ref_bound_as _ _ a y.1 false HBD.out (HA.out.below (then_ HBW.out hbw))).mono ?_; rintro e w6 ⟨rfl, rfl⟩))
                have k0 : (0 : Int) ≤ (k : Int) := Int.natCast_nonneg _
                have k1 : (k : Int) < (b.length : Int) := by omega
                have hb0 : Below wr.heap.size wr ((wr.alloc (.cells #[] 9)).drew) := (new_ (Below.refl _ _) _).drew
                go_region_held3 (fun w' => w'.cell? ⟨b1', o1 + k * 2, none⟩ = some (.string ⟨y.1.toArray⟩) ∧ w'.cell? ⟨b1', o1 + k * 2 + 1, none⟩ = some (.slice tA y.2.length tc)) (go_keep)
                  ((first
                    | (refine step_append_rds rfl (.tmp 74) (.tmp 79) 24 rfl wr.heap.size 9 s0 (.string ⟨#[]⟩) 1 16 Try.underlying24 si sj0 sj1 sj2 rfl (by decide) (.slice (some ⟨wr.heap.size, 0, none⟩) 0 0) 0 [] (by rfl) (World.ownsRow_made _ _ _ (Nat.le_refl _) (by decide) rfl) (.slice tA y.2.length tc) y.2.length (y.2.map strV) (by rfl) (Rds.below HG3.out hb0) (by simp [strV, Value.oneCell']) (by unfold maxLen; omega) (by omega) (by simp) ?_; intro v7 w7 hown7 hg7; have hb7 : Below wr.heap.size wr w7 := hb0.grown hg7 hb0.size (fun j ej => by cases ej; exact Nat.le_refl _); have q1 := (hb7.cell (p := ⟨b1', o1 + k * 2, none⟩) hlb).trans g1; have q2 := (hb7.cell (p := ⟨b1', o1 + k * 2 + 1, none⟩) hlb).trans g2; have hrow7 := HROW.out.below hb7; have hr7 := hrow7.own; rw [← HMM.out, ← HXX.out] at hr7; have hz7 := hb7.size; have HROW7 := Lib.hid hrow7; have HB7 := Lib.hid hb7; simp only [Nat.zero_add, List.nil_append] at hown7; have HO7 := Lib.hid hown7; obtain ⟨va, vc, rfl, _⟩ := own_form hown7; clear hown7 hg7 hb7 hrow7)
                    | (refine step_append_lies _ (by rfl) (.tmp 68) (.tmp 82) 114 (by rfl) w2.heap.size 117 i0 (.agg #[.string ⟨#[]⟩, .slice none 0 0]) 2 40 Try.underlying114 hi hj0 hj1 hj2 rfl (by decide) u8 M X (by rfl) (hr7.alloc _) ⟨w7.heap.size, 0, none⟩ 1 1 [.string ⟨y.1.toArray⟩, .slice va y.2.length vc] (by rfl) rfl (cells_of' _ _ _ _ rfl rfl) (by simp [Value.oneCell']) (by decide) (by unfold maxLen; omega) (by omega) (by simp; omega) _ rfl ?_; intro gg cap wz hown' hgrow hat hltz; have hb8 : Below w7.heap.size w7 (w7.alloc (.cells #[.string ⟨y.1.toArray⟩, .slice va y.2.length vc] 117)) := new_ (Below.refl _ _) _; have hne : u8.ownBlock ≠ some b1' := (fun e => by have := own_block hr7 _ e; omega); have q3 := ((hgrow.cell_far ⟨b1', o1 + k * 2, none⟩ (by simp; omega) hne.symm).trans (hb8.cell (p := ⟨b1', o1 + k * 2, none⟩) (by dsimp only; omega))).trans q1; have q4 := ((hgrow.cell_far ⟨b1', o1 + k * 2 + 1, none⟩ (by simp; omega) hne.symm).trans (hb8.cell (p := ⟨b1', o1 + k * 2 + 1, none⟩) (by dsimp only; omega))).trans q2; have HBZ := Lib.hid hb8; clear hb8 hne)))
                go_wp2
                go_roundw
                case rel => exact ⟨k + 1, z ++ [(y, .slice va y.2.length vc)], by omega, by go_num, (HROW7.out.below HBZ.out).snoc y (OwnStr.below ⟨_, by simpa [strV] using HO7.out⟩ HBZ.out) hgrow (by rw [← HMM.out, ← HXX.out]; exact hown'), Lib.hid (by rw [List.map_append, HZ.out, HS2.out, List.append_assoc]; rfl), (new_ (hbw.trans (HB7.out.mono hwz)) _).grown hgrow (by simp; omega) (fun j ej => own_block hr7 j ej)⟩
                case measure => simp [intOf]; omega
            · obtain rfl : k = b.length := by omega
              rw [List.take_length] at HZ
              obtain ⟨oa, oc, rfl, hco⟩ := own_form hrow.own
              have HRZ : Hid (BindAt wr (.slice oa z.length oc) (compR a b)) := Lib.hid (by have := hrow.bindAt; rw [HZ.out] at this; exact this)
              obtain ⟨E, hE⟩ : ∃ E, checkS (compR a b) = E := ⟨_, rfl⟩
              have HE := Lib.hid hE
              by_cases hE0 : E = 0
              · subst hE0
                have HF := Lib.hid (composeS_whole HC1.out HC2.out HE.out)
                clear hE
                go_wp2_with (go_at_call 72; (refine (ref_check_as _ _ (compR a b) 0 HE.out HRZ.out).mono ?_; rintro e w7 ⟨rfl, hb7⟩))
                go_ret2
                rw [HF.out]
                exact ⟨_, rfl, HRZ.out.below hb7, then_ (then_ HBW.out hbw) hb7⟩
              · have HF := Lib.hid (composeS_bad2 HC1.out HC2.out HE.out hE0)
                have t1 : (E != 0) = true := by simpa using hE0
                have t2 : (E == 0) = false := by simpa using hE0
                clear hE hE0
                go_wp2_with (go_at_call 72; (refine (ref_check_as _ _ (compR a b) E HE.out HRZ.out).mono ?_; rintro e w7 ⟨rfl, hb7⟩))
                go_ret2
                rw [HF.out]
                exact ⟨_, rfl, BindAt.nil_, then_ (then_ HBW.out hbw) hb7⟩
    · have HF := Lib.hid (composeS_second HC1.out (by rw [hz2]; exact h2))
      have t1 : (z2 != 0) = true := by simpa using h2
      have t2 : (z2 == 0) = false := by simpa using h2
      clear h2 hz1 hz2
      go_enter Try.func77, Try.ntmps77
      go_wp2_with (go_at_call 72; (first
        | ((with_reducible refine (ref_check_as _ _ b z2 HC2.out (HB.out.below hb1)).mono ?_); rintro e w2 ⟨rfl, hb2⟩)
        | ((with_reducible refine (ref_check_as _ _ a 0 HC1.out HA.out).mono ?_); rintro e w1 ⟨rfl, hb1⟩)))
      go_ret2
      rw [HF.out, HC2.out]
      exact ⟨_, rfl, BindAt.nil_, then_ hb1 hb2⟩
  · have HF := Lib.hid (composeS_first (a := a) (b := b) (by rw [hz1]; exact h1))
    have t1 : (z1 != 0) = true := by simpa using h1
    have t2 : (z1 == 0) = false := by simpa using h1
    clear h1 hz1 hz2
    go_enter Try.func77, Try.ntmps77
    go_wp2_with (go_at_call 72; ((with_reducible refine (ref_check_as _ _ a z1 HC1.out HA.out).mono ?_); rintro e w1 ⟨rfl, hb1⟩))
    go_ret2
    rw [HF.out, HC1.out]
    exact ⟨_, rfl, BindAt.nil_, hb1⟩
end Go.Proofs.Ytieclecpjjfhfaa
