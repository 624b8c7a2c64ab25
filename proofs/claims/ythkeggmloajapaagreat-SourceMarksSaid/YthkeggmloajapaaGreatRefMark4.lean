/- Marks of the reference. -/
import Derived.Test.YthkeggmloajapaaGreatRefMark2
import Derived.Test.YthkeggmloajapaaGreatMarkFn
namespace Go.Proofs.YthkeggmloajapaaGreat
open Go.RowKit
theorem addM_len (out : List MarkD) (k : Int) (t : List UInt8) : (addM out k t).length ≤ out.length + 1 := by
  unfold addM
  split
  · split
    · simp
    · simp
  · simp
theorem addM_text {out : List MarkD} {k : Int} {t : List UInt8} {B d : Nat} (h : ∀ m ∈ out, m.2.length ≤ B) (ht : t.length ≤ d) : ∀ m ∈ addM out k t, m.2.length ≤ B + d := by
  intro m hm
  unfold addM at hm
  split at hm
  · rename_i x hx
    have hxm : x ∈ out := List.mem_of_getLast? hx
    split at hm
    · rw [List.mem_append] at hm
      rcases hm with hm | hm
      · have := h m (List.dropLast_subset _ hm); omega
      · obtain rfl := List.mem_singleton.1 hm
        have := h x hxm
        dsimp only
        rw [List.length_append]
        omega
    · rw [List.mem_append] at hm
      rcases hm with hm | hm
      · have := h m hm; omega
      · obtain rfl := List.mem_singleton.1 hm
        dsimp only
        omega
  · rw [List.mem_append] at hm
    rcases hm with hm | hm
    · have := h m hm; omega
    · obtain rfl := List.mem_singleton.1 hm
      dsimp only
      omega
/-- the reference's marks so far -/
structure RMk (w wr : World) (s : List UInt8) (i : Nat) (ov : Value) (out : List MarkD) : Prop where
  le : i ≤ s.length
  rd : Rds wr 2 ov out.length (markC out)
  run : marksS s = mrest s i out
  len : out.length ≤ i
  txt : ∀ m ∈ out, m.2.length ≤ i
  below : Below w.heap.size w wr
theorem RMk.next {w wo W4 : World} {s : List UInt8} {i : Nat} {ov v4 : Value} {out : List MarkD} (h : RMk w wo s i ov out) {k : Int} {t : List UInt8} {d : Nat} (hst : mstep (s.drop i) = some (k, t, d)) (ht : t.length ≤ d)
    (hr : Rds W4 2 v4 (addM out k t).length (markC (addM out k t))) (hb : Below wo.heap.size wo W4) : RMk w W4 s (i + d) v4 (addM out k t) := by
  have hp := mstep_pos hst
  rw [List.length_drop] at hp
  have h1 := h.len
  have h2 := addM_len out k t
  have h3 := h.le
  exact ⟨by omega, hr, h.run.trans (mrest_next hst), by omega, addM_text h.txt ht, then_ h.below hb⟩
set_option maxRecDepth 100000 in
set_option maxHeartbeats 16000000 in
theorem ref_marks (w : World) (s : List UInt8) : Calls Tryz.prog 6 #[.string ⟨s.toArray⟩] w (MarksPost w (marksS s)) := by
  by_cases hbig : 40000 < s.length
  · have e0 : decide ((40000 : Int) < (s.length : Int)) = true := decide_eq_true (by omega)
    have HM : Hid (marksS s = ([], 0, 4)) := Lib.hid (by unfold marksS; rw [if_pos hbig])
    clear hbig
    go_enter Tryz.func6, Tryz.ntmps6
    go_wp2
    go_ret3
    rw [HM.out]
    exact ⟨_, rfl, Rds.nil_, Below.refl _ _⟩
  · have e0 : decide ((40000 : Int) < (s.length : Int)) = false := decide_eq_false (by omega)
    have hn : s.length ≤ 40000 := by omega
    have HR := Lib.hid (mrest_zero hbig)
    clear hbig
    go_enter Tryz.func6, Tryz.ntmps6
    go_wp2
    go_loopw [5, 6] (fun ov iv wr => ∃ (i : Nat) (out : List MarkD), iv = .int .i64 i ∧ RMk w wr s i ov out) (fun _ iv _ => s.length - (intOf iv).toNat)
    case atStart =>
      refine ⟨0, [], rfl, Nat.zero_le _, ?_, HR.out, Nat.le_refl _, by simp, new_ (Below.refl _ _) _⟩
      have h1 := World.ownsRow_made (base := w.heap.size) (e := 26) (size := 2) w #[] 0 (Nat.le_refl _) (by decide) (by simp)
      exact Rds.of_own (by simpa [markC] using h1)
    case round =>
      obtain ⟨wo, rfl⟩ : ∃ wo, wo = wr := ⟨_, rfl⟩
      obtain ⟨i, out, rfl, hmk⟩ := hrel
      obtain ⟨oA, oc, rfl, -⟩ := hmk.rd
      have HK := Lib.hid hmk
      have hi := hmk.le
      have hln := hmk.len
      clear hmk
      by_cases hil : i < s.length
      · obtain ⟨b, hbx⟩ : ∃ b, s[i] = b := ⟨_, rfl⟩
        obtain ⟨r, hrd⟩ : ∃ r, s.drop (i + 1) = r := ⟨_, rfl⟩
        have hdr : s.drop i = b :: r := by rw [List.drop_eq_getElem_cons hil, hbx, hrd]
        obtain ⟨c, hce, hcl⟩ : ∃ c : Nat, (ByteArray.mk s.toArray)[i].toNat = c ∧ c = b.toNat := ⟨_, rfl, by rw [← hbx]; rfl⟩
        have HMS := Lib.hid (mstep_cons b r)
        rw [← hdr] at HMS
        have HRD := Lib.hid hrd
        have HDR := Lib.hid hdr
        have HC := Lib.hid hcl
        have HTX : Hid (∀ m ∈ out, m.2.length ≤ 1000000) := Lib.hid fun m hm => Nat.le_trans (HK.out.txt m hm) (by omega)
        have HLN : Hid (out.length ≤ 1000000) := Lib.hid (by omega)
        have hrl : r.length + (i + 1) = s.length := by rw [← hrd, List.length_drop]; omega
        have hi1 : ((i : Int) + 1).toNat = i + 1 := by omega
        have hsl1 := fun wx => run_slice_string (P := Tryz.prog) wx 9 ⟨s.toArray⟩ .i64 .i64 (i : Int) ((i : Int) + 1) Tryz.underlying9 (by omega) (by omega) (by simp [ByteArray.size]; omega)
        simp only [Int.toNat_natCast, hi1, cut_text] at hsl1
        rw [hdr, show i + 1 - i = 1 by omega, show (b :: r).take 1 = [b] from rfl] at hsl1
        obtain ⟨dbl, hdbl⟩ : ∃ q, decide (special b = true ∧ r.head? = some b) = q := ⟨_, rfl⟩
        have HD := Lib.hid hdbl
        have hhead : r.head? = s[i + 1]? := by rw [← hrd, List.head?_drop]
        have HHD := Lib.hid hhead
        clear hdr hbx hrd hhead hcl hdbl
        go_upto_region 7 with fail
        go_cut [8] (fun cv wx => cv = .bool dbl ∧ wx = wo)
        case first =>
          rcases Nat.lt_or_ge (i + 1) s.length with hx | hx
          · have q1 : decide ((i : Int) + 1 < (s.length : Int)) = true := decide_eq_true (by omega)
            obtain ⟨b', hbx'⟩ : ∃ b', s[i + 1] = b' := ⟨_, rfl⟩
            obtain ⟨c', hce', hcl'⟩ : ∃ c' : Nat, (ByteArray.mk s.toArray)[i + 1].toNat = c' ∧ c' = b'.toNat := ⟨_, rfl, by rw [← hbx']; rfl⟩
            have HH : Hid (r.head? = some b') := Lib.hid (by rw [HHD.out, List.getElem?_eq_getElem hx, hbx'])
            clear hbx'
            by_cases hbb : b' = b
            · have q2 : ((c' : Int) == (c : Int)) = true := by rw [HC.out, hcl', hbb]; simp
              have hw : (((c : Int) == 96) = true ∨ (((c : Int) == 96) = false ∧ ((c : Int) == 126) = true) ∨ (((c : Int) == 96) = false ∧ ((c : Int) == 126) = false ∧ ((c : Int) == 91) = true)) ∨ ((c : Int) == 96) = false ∧ ((c : Int) == 126) = false ∧ ((c : Int) == 91) = false := by
                cases ((c : Int) == 96) <;> cases ((c : Int) == 126) <;> cases ((c : Int) == 91) <;> simp
              rcases hw with hw | ⟨x1, x2, x3⟩
              · have HT : Hid (dbl = true) := Lib.hid (by
                  rw [← HD.out]
                  refine decide_eq_true ⟨?_, by rw [HH.out, hbb]⟩
                  have hb : b = 96 ∨ b = 126 ∨ b = 91 := by
                    simp only [beq_iff_eq] at hw
                    rcases hw with h | ⟨-, h⟩ | ⟨-, -, h⟩
                    · exact .inl (UInt8.toNat_inj.1 (by rw [← HC.out]; exact Int.ofNat.inj h))
                    · exact .inr (.inl (UInt8.toNat_inj.1 (by rw [← HC.out]; exact Int.ofNat.inj h)))
                    · exact .inr (.inr (UInt8.toNat_inj.1 (by rw [← HC.out]; exact Int.ofNat.inj h)))
                  rcases hb with rfl | rfl | rfl <;> decide)
                clear hcl' hbb
                rcases hw with x1 | ⟨x1, x2⟩ | ⟨x1, x2, x3⟩
                all_goals
                  go_wp2
                  go_meet
                  exact ⟨by rw [HT.out], rfl⟩
              · have HT : Hid (dbl = false) := Lib.hid (by
                  rw [← HD.out]
                  refine decide_eq_false fun h => ?_
                  have h1 := h.1
                  unfold special at h1
                  simp at h1
                  rcases h1 with rfl | rfl | rfl <;> rw [HC.out] at x1 x2 x3 <;> simp at x1 x2 x3)
                clear hcl' hbb
                go_wp2
                go_meet
                exact ⟨by rw [HT.out], rfl⟩
            · have q2 : ((c' : Int) == (c : Int)) = false := by
                rw [beq_eq_false_iff_ne]
                intro e
                exact hbb (UInt8.toNat_inj.1 (by rw [← HC.out, ← hcl']; omega))
              have HT : Hid (dbl = false) := Lib.hid (by
                rw [← HD.out]
                refine decide_eq_false fun h => hbb ?_
                have h2 := h.2
                rw [HH.out] at h2
                exact Option.some.inj h2)
              clear hcl' hbb
              go_wp2
              go_meet
              exact ⟨by rw [HT.out], rfl⟩
          · have q1 : decide ((i : Int) + 1 < (s.length : Int)) = false := decide_eq_false (by omega)
            have HT : Hid (dbl = false) := Lib.hid (by
              rw [← HD.out]
              refine decide_eq_false fun h => ?_
              rw [HHD.out, List.getElem?_eq_none hx] at h
              exact absurd h.2 (by simp))
            go_wp2
            go_meet
            exact ⟨by rw [HT.out], rfl⟩
        case rest =>
          obtain ⟨rfl, rfl⟩ := hcut
          cases dbl with
          | true =>
            have hst : mstep (s.drop i) = some (1, [b], 2) := by rw [HMS.out, if_pos (of_decide_eq_true HD.out)]
            have HST := Lib.hid hst
            clear hst
            go_wp2_with (go_at_call 16; (refine (ref_add _ _ out 1 [b] HK.out.rd HLN.out (by simp) HTX.out).mono ?_; rintro e w4 ⟨v4, rfl, hv4, hb4⟩; have HV4 := Lib.hid hv4; have HB4 := Lib.hid hb4; clear hv4 hb4))
            go_roundw
            case rel => exact ⟨i + 2, _, by go_num, HK.out.next HST.out (by simp) HV4.out HB4.out⟩
            case measure => simp [intOf]; omega
          | false =>
            have HND : Hid (¬(special b = true ∧ r.head? = some b)) := Lib.hid (of_decide_eq_false HD.out)
            by_cases hb96 : b = 96
            · have x1 : ((c : Int) == 96) = true := by rw [HC.out, hb96]; rfl
              have HMS2 : Hid (mstep (s.drop i) = if (mathT r).length = r.length then none else some (2, mathT r, (mathT r).length + 2)) := Lib.hid (by rw [HMS.out, if_neg HND.out, if_pos hb96])
              obtain ⟨N, hN⟩ : ∃ N, (mathT r).length = N := ⟨_, rfl⟩
              have hN2 : (r.takeWhile (fun c => c != 96)).length = N := hN
              obtain ⟨P, hP⟩ : ∃ P, i + 1 + N = P := ⟨_, rfl⟩
              have hple : P ≤ s.length := by rw [← hP, ← hN2, ← HRD.out]; exact span_le (p := fun c => c != 96) (by omega)
              have HI1 : Hid (∀ m, i + 1 ≤ m → m < P → ∃ h : m < s.length, (s[m] != 96) = true) := Lib.hid fun m a b => span_in (p := fun c => c != 96) a (by rw [← hP, ← hN2, ← HRD.out] at b; exact b)
              have HE1 : Hid (∀ h : P < s.length, (s[P] != 96) = false) := Lib.hid fun h => span_end (p := fun c => c != 96) (a := i + 1) (by rw [← hP, ← hN2, ← HRD.out]) h
              have hmx : r.take N = mathT r := by rw [← hN]; exact (List.prefix_iff_eq_take.1 (List.takeWhile_prefix _)).symm
              have HMX := Lib.hid hmx
              have hP1 : i + 1 ≤ P := by omega
              rw [hN] at HMS2
              have HN := Lib.hid hN
              have HPN := Lib.hid hP
              have HRL := Lib.hid hrl
              clear hN hN2 hmx hb96 hP hrl
              go_wp2
              go_loop [9] (fun ev => ∃ e : Nat, i + 1 ≤ e ∧ e ≤ P ∧ ev = .int .i64 e) (fun ev => P - (intOf ev).toNat)
              case atStart => exact ⟨i + 1, Nat.le_refl _, hP1, by go_num⟩
              case round =>
                obtain ⟨m, hm1, hm2, rfl⟩ := hrel
                by_cases hlt : m < P
                · obtain ⟨hel, hne⟩ := HI1.out m hm1 hlt
                  obtain ⟨c2, hce2, hcl2⟩ : ∃ c2 : Nat, (ByteArray.mk s.toArray)[m].toNat = c2 ∧ c2 = s[m].toNat := ⟨_, rfl, rfl⟩
                  have x2 : ((c2 : Int) != 96) = true := by
                    rw [bne_iff_ne]
                    intro e
                    exact (by simpa using hne : s[m] ≠ 96) (UInt8.toNat_inj.1 (by rw [← hcl2]; exact Int.ofNat.inj e))
                  clear hcl2 hne
                  go_wp2
                  go_round
                  case rel => exact ⟨m + 1, by omega, by omega, by go_num⟩
                  case measure => simp [intOf]; omega
                · obtain rfl : m = P := by omega
                  clear hm2 hlt HI1 hm1
                  rcases Nat.lt_or_ge m s.length with hml | hge
                  · have h96 := HE1.out hml
                    obtain ⟨c2, hce2, hcl2⟩ : ∃ c2 : Nat, (ByteArray.mk s.toArray)[m].toNat = c2 ∧ c2 = s[m].toNat := ⟨_, rfl, rfl⟩
                    have x2 : ((c2 : Int) != 96) = false := by
                      rw [hcl2, (by simpa using h96 : s[m] = 96)]
                      rfl
                    have x3 : ((m : Int) == (s.length : Int)) = false := by rw [beq_eq_false_iff_ne]; omega
                    have HST : Hid (mstep (s.drop i) = some (2, mathT r, N + 2)) := Lib.hid (by rw [HMS2.out, if_neg (by have := HRL.out; have := HPN.out; omega)])
                    have HTL : Hid ((mathT r).length ≤ 1000000) := Lib.hid (by rw [HN.out]; have := HPN.out; omega)
                    have hs2 := fun wx => run_slice_string (P := Tryz.prog) wx 9 ⟨s.toArray⟩ .i64 .i64 ((i : Int) + 1) (m : Int) Tryz.underlying9 (by omega) (by omega) (by simp [ByteArray.size]; omega)
                    simp only [Int.toNat_natCast, hi1, cut_text] at hs2
                    rw [HRD.out, show m - (i + 1) = N by have := HPN.out; omega, HMX.out] at hs2
                    clear h96 hcl2 HE1
                    go_wp2_with (go_at_call 16; (refine (ref_add _ _ out 2 (mathT r) HK.out.rd HLN.out HTL.out HTX.out).mono ?_; rintro e w4 ⟨v4, rfl, hv4, hb4⟩; have HV4 := Lib.hid hv4; have HB4 := Lib.hid hb4; clear hv4 hb4))
                    go_roundw
                    case rel => exact ⟨m + 1, _, by go_num, by rw [show m + 1 = i + (N + 2) by have := HPN.out; omega]; exact HK.out.next HST.out (by rw [HN.out]; omega) HV4.out HB4.out⟩
                    case measure => simp [intOf]; omega
                  · have x3 : ((m : Int) == (s.length : Int)) = true := by rw [beq_iff_eq]; omega
                    have HBAD : Hid (marksS s = ([], i, 45)) := Lib.hid (HK.out.run.trans (mrest_bad hil (by rw [HMS2.out, if_pos (by have := HRL.out; have := HPN.out; omega)])))
                    have x4 : decide ((m : Int) < (s.length : Int)) = false := decide_eq_false (by omega)
                    clear HE1
                    go_wp2
                    go_ret3
                    rw [HBAD.out]
                    exact ⟨_, rfl, Rds.nil_, HK.out.below⟩
            · have x1 : ((c : Int) == 96) = false := by
                rw [beq_eq_false_iff_ne]
                intro e
                exact hb96 (UInt8.toNat_inj.1 (by rw [← HC.out]; exact Int.ofNat.inj e))
              by_cases hb126 : b = 126
              · have y1 : ((c : Int) == 126) = true := by rw [HC.out, hb126]; rfl
                have HMS2 : Hid (mstep (s.drop i) = if refW r = 0 ∨ refT r = [] then none else some (3, refT r, 1 + refW r + (refT r).length)) := Lib.hid (by rw [HMS.out, if_neg HND.out, if_neg hb96, if_pos hb126])
                obtain ⟨N, hN⟩ : ∃ N, refW r = N := ⟨_, rfl⟩
                have hN2 : (r.takeWhile sp).length = N := hN
                obtain ⟨P, hP⟩ : ∃ P, i + 1 + N = P := ⟨_, rfl⟩
                have hple : P ≤ s.length := by rw [← hP, ← hN2, ← HRD.out]; exact span_le (p := sp) (by omega)
                have HI1 : Hid (∀ m, i + 1 ≤ m → m < P → ∃ h : m < s.length, sp s[m] = true) := Lib.hid fun m a b => span_in (p := sp) a (by rw [← hP, ← hN2, ← HRD.out] at b; exact b)
                have HE1 : Hid (∀ h : P < s.length, sp s[P] = false) := Lib.hid fun h => span_end (p := sp) (a := i + 1) (by rw [← hP, ← hN2, ← HRD.out]) h
                have hdp : s.drop P = r.drop N := by rw [← hP, ← HRD.out, List.drop_drop]
                obtain ⟨T, hT⟩ : ∃ T, refT r = T := ⟨_, rfl⟩
                have hT2 : (s.drop P).takeWhile (fun c => !sp c) = T := by rw [hdp, ← hT, ← hN]; rfl
                obtain ⟨M, hM⟩ : ∃ M, P + T.length = M := ⟨_, rfl⟩
                have hMle : M ≤ s.length := by rw [← hM, ← hT2]; exact span_le (p := fun c => !sp c) hple
                have HI2 : Hid (∀ m, P ≤ m → m < M → ∃ h : m < s.length, (!sp s[m]) = true) := Lib.hid fun m a b => span_in (p := fun c => !sp c) a (by rw [← hM, ← hT2] at b; exact b)
                have HE2 : Hid (∀ h : M < s.length, (!sp s[M]) = false) := Lib.hid fun h => span_end (p := fun c => !sp c) (a := P) (by rw [← hM, ← hT2]) h
                have HMX : Hid ((s.drop P).take (M - P) = T) := Lib.hid (by
                  rw [show M - P = T.length by omega, ← hT2]
                  exact (List.prefix_iff_eq_take.1 (List.takeWhile_prefix _)).symm)
                have hP1 : i + 1 ≤ P := by omega
                have hM1 : P ≤ M := by omega
                rw [hN, hT] at HMS2
                have HPN := Lib.hid hP
                have HPM := Lib.hid hM
                have HTL : Hid (T.length ≤ 1000000) := Lib.hid (by omega)
                have HBAD : Hid (N = 0 ∨ T = [] → marksS s = ([], i, 45)) := Lib.hid fun h => HK.out.run.trans (mrest_bad hil (by rw [HMS2.out, if_pos h]))
                have HGOOD : Hid (N ≠ 0 → T ≠ [] → mstep (s.drop i) = some (3, T, 1 + N + T.length)) := Lib.hid fun h1 h2 => by rw [HMS2.out, if_neg (by simp [h1, h2])]
                have HTE : Hid (T = [] ↔ M = P) := Lib.hid ⟨fun h => by rw [← hM, h]; rfl, fun h => List.eq_nil_of_length_eq_zero (by omega)⟩
                clear hN hN2 hb126 hb96 hP hrl hdp hT hT2 hM HMS2
                go_wp2
                go_loop [10] (fun ev => ∃ e : Nat, i + 1 ≤ e ∧ e ≤ P ∧ ev = .int .i64 e) (fun ev => P - (intOf ev).toNat)
                case atStart => exact ⟨i + 1, Nat.le_refl _, hP1, by go_num⟩
                case round =>
                  obtain ⟨m, hm1, hm2, rfl⟩ := hrel
                  by_cases hlt : m < P
                  · obtain ⟨hel, hne⟩ := HI1.out m hm1 hlt
                    obtain ⟨b2, hb2⟩ : ∃ b2, s[m] = b2 := ⟨_, rfl⟩
                    rw [hb2] at hne
                    obtain ⟨c2, hce2, hcl2⟩ : ∃ c2 : Nat, (ByteArray.mk s.toArray)[m].toNat = c2 ∧ c2 = b2.toNat := ⟨_, rfl, by rw [← hb2]; rfl⟩
                    have HC2 := Lib.hid hcl2
                    have HNE := Lib.hid hne
                    clear hcl2 hne hb2
                    go_wp2_with (go_at_call 17; (refine (ref_sp _ b2 _ HC2.out).mono ?_; rw [HNE.out]; rintro e w2 ⟨rfl, rfl⟩))
                    go_round
                    case rel => exact ⟨m + 1, by omega, by omega, by go_num⟩
                    case measure => simp [intOf]; omega
                  · obtain rfl : m = P := by omega
                    clear hm2 hlt HI1 hm1
                    have hexit : (s.length ≤ m) ∨ ∃ (h : m < s.length) (b2 : UInt8) (c2 : Nat), (ByteArray.mk s.toArray)[m].toNat = c2 ∧ Hid (c2 = b2.toNat) ∧ Hid (sp b2 = false) := by
                      rcases Nat.lt_or_ge m s.length with h | h
                      · exact .inr ⟨h, s[m], _, rfl, Lib.hid rfl, Lib.hid (HE1.out h)⟩
                      · exact .inl h
                    clear HE1
                    rcases hexit with hge | ⟨hml, b2, c2, hce2, HC2, HNE⟩
                    · have x4 : decide ((m : Int) < (s.length : Int)) = false := decide_eq_false (by omega)
                      have HX := Lib.hid (HBAD.out (.inr (HTE.out.2 (by omega))))
                      go_wp2
                      go_loop [11] (fun ev => ev = .int .i64 m) (fun _ => 0)
                      case atStart => rfl
                      case round =>
                        subst hrel
                        by_cases hz : m = i + 1
                        · have z1 : ((m : Int) == (i : Int) + 1) = true := by rw [beq_iff_eq]; omega
                          go_wp2
                          go_ret3
                          rw [HX.out]
                          exact ⟨_, rfl, Rds.nil_, HK.out.below⟩
                        · have z1 : ((m : Int) == (i : Int) + 1) = false := by rw [beq_eq_false_iff_ne]; omega
                          go_wp2
                          go_ret3
                          rw [HX.out]
                          exact ⟨_, rfl, Rds.nil_, HK.out.below⟩
                    · go_wp2_with (go_at_call 17; (refine (ref_sp _ b2 _ HC2.out).mono ?_; rw [HNE.out]; rintro e w2 ⟨rfl, rfl⟩))
                      go_loop [11] (fun ev => ∃ e : Nat, m ≤ e ∧ e ≤ M ∧ ev = .int .i64 e) (fun ev => M - (intOf ev).toNat)
                      case atStart => exact ⟨m, Nat.le_refl _, hM1, rfl⟩
                      case round =>
                        obtain ⟨q, hq1, hq2, rfl⟩ := hrel
                        clear hce2 HC2 HNE
                        by_cases hlt : q < M
                        · obtain ⟨hel, hne⟩ := HI2.out q hq1 hlt
                          obtain ⟨b2, hb2⟩ : ∃ b2, s[q] = b2 := ⟨_, rfl⟩
                          rw [hb2] at hne
                          obtain ⟨c2, hce2, hcl2⟩ : ∃ c2 : Nat, (ByteArray.mk s.toArray)[q].toNat = c2 ∧ c2 = b2.toNat := ⟨_, rfl, by rw [← hb2]; rfl⟩
                          have HC2 := Lib.hid hcl2
                          have HNE : Hid (sp b2 = false) := Lib.hid (by simpa using hne)
                          clear hcl2 hne hb2
                          go_wp2_with (go_at_call 17; (refine (ref_sp _ b2 _ HC2.out).mono ?_; rw [HNE.out]; rintro e w2 ⟨rfl, rfl⟩))
                          go_round
                          case rel => exact ⟨q + 1, by omega, by omega, by go_num⟩
                          case measure => simp [intOf]; omega
                        · obtain rfl : q = M := by omega
                          clear hq2 hlt HI2
                          have hexit : (s.length ≤ q) ∨ ∃ (h : q < s.length) (b2 : UInt8) (c2 : Nat), (ByteArray.mk s.toArray)[q].toNat = c2 ∧ Hid (c2 = b2.toNat) ∧ Hid (sp b2 = true) := by
                            rcases Nat.lt_or_ge q s.length with h | h
                            · exact .inr ⟨h, s[q], _, rfl, Lib.hid rfl, Lib.hid (by simpa using HE2.out h)⟩
                            · exact .inl h
                          clear HE2
                          by_cases hz : m = i + 1
                          · have z1 : ((m : Int) == (i : Int) + 1) = true := by rw [beq_iff_eq]; omega
                            have HX := Lib.hid (HBAD.out (.inl (by have := HPN.out; omega)))
                            clear hz
                            rcases hexit with hge | ⟨hql, b2, c2, hce2, HC2, HNE⟩
                            · have x4 : decide ((q : Int) < (s.length : Int)) = false := decide_eq_false (by omega)
                              go_wp2
                              go_ret3
                              rw [HX.out]
                              exact ⟨_, rfl, Rds.nil_, HK.out.below⟩
                            · go_wp2_with (go_at_call 17; (refine (ref_sp _ b2 _ HC2.out).mono ?_; rw [HNE.out]; rintro e w2 ⟨rfl, rfl⟩))
                              go_ret3
                              rw [HX.out]
                              exact ⟨_, rfl, Rds.nil_, HK.out.below⟩
                          · have z1 : ((m : Int) == (i : Int) + 1) = false := by rw [beq_eq_false_iff_ne]; omega
                            have HZN : Hid (N ≠ 0) := Lib.hid (by have := HPN.out; omega)
                            clear hz
                            by_cases hz2 : q = m
                            · have z2 : ((q : Int) == (m : Int)) = true := by rw [beq_iff_eq]; omega
                              have HX := Lib.hid (HBAD.out (.inr (HTE.out.2 hz2)))
                              rcases hexit with hge | ⟨hql, b2, c2, hce2, HC2, HNE⟩
                              · have x4 : decide ((q : Int) < (s.length : Int)) = false := decide_eq_false (by omega)
                                clear hz2
                                go_wp2
                                go_ret3
                                rw [HX.out]
                                exact ⟨_, rfl, Rds.nil_, HK.out.below⟩
                              · clear hz2
                                go_wp2_with (go_at_call 17; (refine (ref_sp _ b2 _ HC2.out).mono ?_; rw [HNE.out]; rintro e w2 ⟨rfl, rfl⟩))
                                go_ret3
                                rw [HX.out]
                                exact ⟨_, rfl, Rds.nil_, HK.out.below⟩
                            · have z2 : ((q : Int) == (m : Int)) = false := by rw [beq_eq_false_iff_ne]; omega
                              have HST := Lib.hid (HGOOD.out HZN.out fun h => hz2 (HTE.out.1 h))
                              have hs2 := fun wx => run_slice_string (P := Tryz.prog) wx 9 ⟨s.toArray⟩ .i64 .i64 (m : Int) (q : Int) Tryz.underlying9 (by omega) (by omega) (by simp [ByteArray.size]; omega)
                              simp only [Int.toNat_natCast, cut_text] at hs2
                              rw [HMX.out] at hs2
                              clear hz2
                              rcases hexit with hge | ⟨hql, b2, c2, hce2, HC2, HNE⟩
                              · have x4 : decide ((q : Int) < (s.length : Int)) = false := decide_eq_false (by omega)
                                go_wp2_with (go_at_call 16; (refine (ref_add _ _ out 3 T HK.out.rd HLN.out HTL.out HTX.out).mono ?_; rintro e w4 ⟨v4, rfl, hv4, hb4⟩; have HV4 := Lib.hid hv4; have HB4 := Lib.hid hb4; clear hv4 hb4))
                                go_roundw
                                case rel => exact ⟨q, _, by go_num, by rw [show q = i + (1 + N + T.length) by have := HPN.out; have := HPM.out; omega]; exact HK.out.next HST.out (by omega) HV4.out HB4.out⟩
                                case measure => simp [intOf]; omega
                              · go_wp2_with (first | (go_at_call 17; (refine (ref_sp _ b2 _ HC2.out).mono ?_; rw [HNE.out]; rintro e w2 ⟨rfl, rfl⟩)) | (go_at_call 16; (refine (ref_add _ _ out 3 T HK.out.rd HLN.out HTL.out HTX.out).mono ?_; rintro e w4 ⟨v4, rfl, hv4, hb4⟩; have HV4 := Lib.hid hv4; have HB4 := Lib.hid hb4; clear hv4 hb4)))
                                go_roundw
                                case rel => exact ⟨q, _, by go_num, by rw [show q = i + (1 + N + T.length) by have := HPN.out; have := HPM.out; omega]; exact HK.out.next HST.out (by omega) HV4.out HB4.out⟩
                                case measure => simp [intOf]; omega
              · have y1 : ((c : Int) == 126) = false := by
                  rw [beq_eq_false_iff_ne]
                  intro e
                  exact hb126 (UInt8.toNat_inj.1 (by rw [← HC.out]; exact Int.ofNat.inj e))
                have HTL : Hid ([b].length ≤ 1000000) := Lib.hid (by simp)
                have HNB := Lib.hid (And.intro hb96 hb126)
                clear hb96 hb126 hrl
                by_cases hb91 : b = 91
                · have z1 : ((c : Int) == 91) = true := by rw [HC.out, hb91]; rfl
                  obtain ⟨N, hN⟩ : ∃ N, citeN r = N := ⟨_, rfl⟩
                  have hsl2 := fun wx => run_slice_string_l (P := Tryz.prog) wx 9 ⟨s.toArray⟩ Tryz.underlying9 .i64 (i : Int) (by omega) (by simp [ByteArray.size]; omega)
                  have hsz : (ByteArray.mk s.toArray).size = s.length := by simp [ByteArray.size]
                  simp only [Int.toNat_natCast, hsz, cut_end] at hsl2
                  clear hsz
                  obtain ⟨u, hu⟩ : ∃ u, s.drop i = u := ⟨_, rfl⟩
                  have HU : Hid (u.length ≤ 40000 ∧ 0 < u.length ∧ u.drop 1 = r) := Lib.hid (by
                    rw [← hu]
                    exact ⟨by rw [List.length_drop]; omega, by rw [List.length_drop]; omega, by rw [HDR.out]; rfl⟩)
                  have HCN := Lib.hid hN
                  rw [hu] at hsl2
                  have HUU := Lib.hid hu
                  by_cases hz : N = 0
                  · have HST : Hid (mstep (s.drop i) = some (1, [b], 1)) := Lib.hid (by rw [HMS.out, if_neg HND.out, if_neg HNB.out.1, if_neg HNB.out.2, if_neg (fun e => e.2 (by rw [hN]; exact hz))])
                    subst hz
                    clear hN hu hb91
                    go_wp2_with (first | (go_at_call 18; (refine (ref_cite _ u r HU.out.1 HU.out.2.1 HU.out.2.2).mono ?_; rw [HCN.out]; rintro e w2 ⟨rfl, rfl⟩)) | (go_at_call 16; (refine (ref_add _ _ out 1 [b] HK.out.rd HLN.out HTL.out HTX.out).mono ?_; rintro e w4 ⟨v4, rfl, hv4, hb4⟩; have HV4 := Lib.hid hv4; have HB4 := Lib.hid hb4; clear hv4 hb4)))
                    go_roundw
                    case rel => exact ⟨i + 1, _, by go_num, HK.out.next HST.out (by simp) HV4.out HB4.out⟩
                    case measure => simp [intOf]; omega
                  · have HST : Hid (mstep (s.drop i) = some (4, r.take N, N + 2)) := Lib.hid (by rw [HMS.out, if_neg HND.out, if_neg HNB.out.1, if_neg HNB.out.2, if_pos ⟨hb91, by rw [hN]; exact hz⟩, hN])
                    have hpos := (mstep_pos HST.out).2
                    rw [List.length_drop] at hpos
                    have z2 : decide ((0 : Int) < (N : Int)) = true := decide_eq_true (by omega)
                    have z3 : decide (0 < N) = true := decide_eq_true (by omega)
                    have hi2 : ((i : Int) + 1 + (N : Int)).toNat = i + 1 + N := by omega
                    have hs2 := fun wx => run_slice_string (P := Tryz.prog) wx 9 ⟨s.toArray⟩ .i64 .i64 ((i : Int) + 1) ((i : Int) + 1 + (N : Int)) Tryz.underlying9 (by omega) (by omega) (by simp [ByteArray.size]; omega)
                    simp only [hi1, hi2, cut_text] at hs2
                    rw [HRD.out, show i + 1 + N - (i + 1) = N by omega] at hs2
                    have HTN : Hid ((r.take N).length ≤ N) := Lib.hid (List.length_take_le _ _)
                    have HTL : Hid ((r.take N).length ≤ 1000000) := Lib.hid (by have := HTN.out; omega)
                    obtain ⟨tx, htx⟩ : ∃ tx, r.take N = tx := ⟨_, rfl⟩
                    rw [htx] at HST HTN HTL hs2
                    have hpn : i + N + 2 ≤ s.length := by omega
                    clear hN hu hb91 hz htx hi2 hpos
                    go_wp2_with (first | (go_at_call 18; (refine (ref_cite _ u r HU.out.1 HU.out.2.1 HU.out.2.2).mono ?_; rw [HCN.out]; rintro e w2 ⟨rfl, rfl⟩)) | (go_at_call 16; (refine (ref_add _ _ out 4 tx HK.out.rd HLN.out HTL.out HTX.out).mono ?_; rintro e w4 ⟨v4, rfl, hv4, hb4⟩; have HV4 := Lib.hid hv4; have HB4 := Lib.hid hb4; clear hv4 hb4)))
                    go_roundw
                    case rel => exact ⟨i + (N + 2), _, by go_num, HK.out.next HST.out (by have := HTN.out; omega) HV4.out HB4.out⟩
                    case measure => simp [intOf]; omega
                · have z1 : ((c : Int) == 91) = false := by
                    rw [beq_eq_false_iff_ne]
                    intro e
                    exact hb91 (UInt8.toNat_inj.1 (by rw [← HC.out]; exact Int.ofNat.inj e))
                  have HST : Hid (mstep (s.drop i) = some (1, [b], 1)) := Lib.hid (by rw [HMS.out, if_neg HND.out, if_neg HNB.out.1, if_neg HNB.out.2, if_neg (fun e => hb91 e.1)])
                  clear hb91
                  go_wp2_with (go_at_call 16; (refine (ref_add _ _ out 1 [b] HK.out.rd HLN.out HTL.out HTX.out).mono ?_; rintro e w4 ⟨v4, rfl, hv4, hb4⟩; have HV4 := Lib.hid hv4; have HB4 := Lib.hid hb4; clear hv4 hb4))
                  go_roundw
                  case rel => exact ⟨i + 1, _, by go_num, HK.out.next HST.out (by simp) HV4.out HB4.out⟩
                  case measure => simp [intOf]; omega
      · obtain rfl : i = s.length := by omega
        have HM : Hid (marksS s = (out, 0, 0)) := Lib.hid (HK.out.run.trans (mrest_end (Nat.le_refl _) out))
        go_wp2
        go_ret3
        rw [HM.out]
        exact ⟨_, rfl, HK.out.rd, HK.out.below⟩
end Go.Proofs.YthkeggmloajapaaGreat
