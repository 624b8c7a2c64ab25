/- Unmark of the program. -/
import Derived.Test.YthkeggmloajapaaMarkWr
import Derived.Test.YthkeggmloajapaaMarkBld
import Derived.Test.YthkeggmloajapaaMarkSp
namespace Go.Proofs.Ythkeggmloajapaa
open Go.RowKit
theorem fit_take : ∀ (x y : List MarkD) (b : MarkD), fitL b (x ++ y) = true → fitL b x = true
  | [], _, _, _ => rfl
  | m :: x, y, b, h => by
    rw [List.cons_append, fitL] at h
    rw [fitL]
    simp only [Bool.and_eq_true] at h ⊢
    exact ⟨h.1, fit_take x y m h.2⟩
theorem fit_not {l : List MarkD} {k : Nat} (h : fitL (0, []) (l.take k) = false) : fitL (0, []) l = false := by
  cases h2 : fitL (0, []) l with
  | false => rfl
  | true =>
    rw [← List.take_append_drop k l] at h2
    rw [fit_take _ _ _ h2] at h
    cases h
theorem writeM_len (m : MarkD) (h : formM m = true) : (writeM m).length ≤ 4 * m.2.length := by
  have h0 : m.2 ≠ [] := by
    intro e
    unfold formM at h
    rw [e] at h
    simp at h
  have h1 : 1 ≤ m.2.length := List.length_pos_iff.2 h0
  have h2 := dup_len m.2
  have h3 := List.countP_le_length (p := special) (l := m.2)
  unfold writeM
  split
  · omega
  · split
    · simp; omega
    · split
      · simp; omega
      · split
        · simp; omega
        · simp
theorem marks_open {w : World} {v : Value} {l : List MarkD} (h : Rds w 2 v l.length (markC l)) : ∃ A c, v = .slice A l.length c ∧ l.length ≤ c ∧ l.length ≤ maxLen ∧
    (∀ k x, l[k]? = some x → ∃ b o, A = some ⟨b, o, none⟩ ∧ w.cell? ⟨b, o + k * 2, none⟩ = some (.int .i64 x.1) ∧ w.cell? ⟨b, o + k * 2 + 1, none⟩ = some (.string ⟨x.2.toArray⟩)) := by
  obtain ⟨A, c, hv, hc, hm, hl, hr⟩ := h
  refine ⟨A, c, hv, hc, hm, fun k x hx => ?_⟩
  have hk : k < l.length := (List.getElem?_eq_some_iff.1 hx).1
  obtain ⟨b, o, ha, hz⟩ := hr (by omega)
  have hf := fun i hi => flatN 2 (fun m : MarkD => [Value.int .i64 m.1, .string ⟨m.2.toArray⟩]) (fun _ => rfl) l k i x hx hi
  exact ⟨b, o, ha, hz (k * 2) _ (hf 0 (by omega)), hz (k * 2 + 1) _ (hf 1 (by omega))⟩
theorem flat_take {α : Type} (f : MarkD → List α) (l : List MarkD) (k : Nat) : ((l.take k).flatMap f).length ≤ (l.flatMap f).length := by
  conv => rhs; rw [← List.take_append_drop k l]
  rw [List.flatMap_append, List.length_append]
  omega
theorem un_measure (j n : Nat) (z : Int) (hz : z = ((j + 1 + 1 : Nat) : Int)) (h : j + 1 < n) : n - (intOf (.int .i64 z)).toNat < n - (intOf (.int .i64 ((j + 1 : Nat) : Int))).toNat := by
  subst hz
  simp only [intOf]
  omega
def UnPost (w : World) (l : List MarkD) (e : Ending) (w' : World) : Prop := e = .returned (.tuple #[.string ⟨(unmarkS l).1.toArray⟩, .int .i64 (unmarkS l).2]) ∧ Below w.heap.size w w'
set_option maxRecDepth 100000 in
set_option maxHeartbeats 4000000 in
theorem unmark_any (w : World) (v : Value) (l : List MarkD) (hv : Rds w 2 v l.length (markC l)) (hs : ∀ m ∈ l, m.2.length ≤ 1000000) (hsum : (l.flatMap (·.2)).length ≤ 100000000) :
    Calls Try.prog 7 #[v] w (UnPost w l) := by
  obtain ⟨A1, a1, rfl⟩ : ∃ a c, v = .slice a l.length c := by obtain ⟨a, c, h, _⟩ := hv; exact ⟨a, c, h⟩
  have HV1 := Lib.hid hv
  clear hv
  have HS := Lib.hid hs
  have HSUM := Lib.hid hsum
  clear hs hsum
  go_enter Try.func7, Try.ntmps7
  go_wp2
  go_loopw [12] (fun i wr => ∃ k : Nat, k ≤ l.length ∧ i = .int .i64 k ∧ Hid (fitL (0, []) (l.take k) = true) ∧ Hid (((l.take k).flatMap writeM).length ≤ 4 * ((l.take k).flatMap (·.2)).length) ∧ Hid (Bld wr w.heap.size w.heap.size ((l.take k).flatMap writeM)) ∧ Below w.heap.size w wr) (fun i _ => l.length - (intOf i).toNat)
  case atStart => exact ⟨0, Nat.zero_le _, rfl, Lib.hid rfl, Lib.hid (by simp), Lib.hid (Bld.new w (Nat.le_refl _)), new_ (Below.refl _ _) _⟩
  case round =>
    obtain ⟨k, hk, rfl, HF, HL, HB0, hb⟩ := hrel
    have hwz := hb.size
    have HB := Lib.hid hb
    by_cases hlt : k < l.length
    · obtain ⟨⟨mk, mt⟩, hx⟩ : ∃ x, l[k]? = some x := ⟨_, List.getElem?_eq_getElem hlt⟩
      obtain ⟨A', c', hvv, _, maxl, hxx⟩ := marks_open (HV1.out.below hb)
      obtain ⟨b, o, hA, g1, g2⟩ := hxx k _ hx
      obtain ⟨rfl, _, rfl⟩ := (by simpa using hvv : A1 = A' ∧ True ∧ a1 = c')
      subst hA
      have HMS := Lib.hid (HS.out _ (List.mem_of_getElem? hx))
      have HSN := Lib.hid (fitL_snoc (l.take k) (0, []) (mk, mt))
      have HTK := Lib.hid (take_snoc hx)
      have HWZ : Hid (w.heap.size ≤ wr.heap.size) := Lib.hid hwz
      have c0 := (Row.new wr 24 #[.int .i64 mk, .string ⟨mt.toArray⟩]).cell (i := 0) (v := .int .i64 mk) rfl
      have c1 := (Row.new wr 24 #[.int .i64 mk, .string ⟨mt.toArray⟩]).cell (i := 1) (v := .string ⟨mt.toArray⟩) rfl
      clear hb hvv
      cases hform : formM (mk, mt) with
      | false =>
        have HFM := Lib.hid hform
        clear hxx hx hform
        go_wp2_with (first | (go_at_call 15; (refine (written_any _ mk mt HMS.out).mono ?_; rintro e w2 ⟨s, rfl, _, hb2⟩; rw [HFM.out]; have HB2 := Lib.hid hb2; clear hb2)) | fail)
        go_ret2
        have hU : unmarkS l = ([], 2) := by
          unfold unmarkS
          rw [if_pos (fit_not (k := k + 1) (by rw [HTK.out, HSN.out, HFM.out]; simp))]
        exact ⟨by rw [hU]; rfl, then_ (new_ HB.out _) HB2.out⟩
      | true =>
        have HFM := Lib.hid hform
        have HLB : Hid (((l.take k).flatMap writeM).length ≤ 1000000000) := Lib.hid (by have h1 := flat_take (·.2) l k; have h2 := HSUM.out; have h3 := HL.out; omega)
        have HLS : Hid ((writeM (mk, mt)).length ≤ 1000000000) := Lib.hid (by have h1 := writeM_len (mk, mt) hform; have h2 := HMS.out; dsimp only at h1 h2; omega)
        have HFX : Hid ((l.take (k + 1)).flatMap writeM = (l.take k).flatMap writeM ++ writeM (mk, mt)) := Lib.hid (by rw [HTK.out]; simp)
        have HLT : Hid (((l.take (k + 1)).flatMap writeM).length ≤ 4 * ((l.take (k + 1)).flatMap (·.2)).length) := Lib.hid (by have h1 := writeM_len (mk, mt) hform; have h3 := HL.out; rw [HTK.out]; simp at h1 h3 ⊢; omega)
        obtain ⟨c, t, rfl⟩ : ∃ c t, mt = c :: t := by
          cases mt with
          | nil => simp [formM] at hform
          | cons c t => exact ⟨c, t, rfl⟩
        cases k with
        | zero =>
          have HFT : Hid (fitL (0, []) (l.take (0 + 1)) = true) := Lib.hid (by rw [HTK.out, HSN.out, HFM.out]; simp [fitL, fitM, lastM])
          rw [Nat.zero_mul, Nat.add_zero] at g1 g2
          clear hxx hx hform
          go_wp2_with (first | (go_at_call 15; (refine (written_any _ mk (c :: t) HMS.out).mono ?_; rintro e w2 ⟨s, rfl, hs2, hb2⟩; obtain rfl := hs2 HFM.out; rw [HFM.out]; have HB2 : Hid (Below wr.heap.size wr w2) := Lib.hid (then_ (new_ (Below.refl _ _) _) hb2); have q0 := cellM c0 (Lib.hid hb2).out; have q1 := cellM c1 (Lib.hid hb2).out; clear hb2 hs2)) | (go_at_call 17; (refine (bldm_str _ w.heap.size w.heap.size _ (writeM (mk, c :: t)) (Bld.below HB0.out HB2.out) HLB.out HLS.out (Nat.le_trans HWZ.out HB2.out.size)).mono ?_; rintro e w3 ⟨⟨vv, rfl⟩, hB3, hb3⟩; have HB3 := Lib.hid hB3; have HW3 := Lib.hid (HB.out.trans ((HB2.out.mono HWZ.out).trans hb3)); clear hB3 hb3)) | fail)
          go_roundw
          case rel => exact ⟨0 + 1, by omega, by go_num, HFT, HLT, Lib.hid (by rw [HFX.out]; exact HB3.out), HW3.out⟩
          case measure => simp [intOf]; omega
        | succ j =>
          obtain ⟨⟨pk, pt⟩, hpx⟩ : ∃ x, l[j]? = some x := ⟨_, List.getElem?_eq_getElem (by omega)⟩
          obtain ⟨b', o', hA, p1, p2⟩ := hxx j _ hpx
          obtain ⟨rfl, rfl⟩ : b = b' ∧ o = o' := by simpa using hA
          have HLM : Hid (lastM (0, []) (l.take (j + 1)) = (pk, pt)) := Lib.hid (by rw [take_snoc hpx, lastM_snoc])
          obtain ⟨a1, e1⟩ : ∃ q, (mk == 1) = q := ⟨_, rfl⟩
          obtain ⟨a2, e2⟩ : ∃ q, (pk == 1) = q := ⟨_, rfl⟩
          obtain ⟨a3, e3⟩ : ∃ q, (pk == 3) = q := ⟨_, rfl⟩
          obtain ⟨a4, e4⟩ : ∃ q, sp c = q := ⟨_, rfl⟩
          have hw64 : wrap64 (j : Int) = (j : Int) := by have h9 := maxl; unfold maxLen at h9; unfold wrap64; omega
          have HW65 : Hid (wrap64 ((j : Int) + 1 + 1) = ((j + 1 + 1 : Nat) : Int)) := Lib.hid (by have h9 := maxl; unfold maxLen at h9; unfold wrap64; omega)
          have e1' : (mk != 1) = !a1 := by rw [bne, e1]
          have HFi : Hid (fitM (pk, pt) (mk, c :: t) = (!(a1 && a2) && !(a3 && (!a1 || !a4)))) := Lib.hid (by unfold fitM; simp [bne, ← e1, ← e2, ← e3, ← e4])
          have HLK : Hid (j + 1 < l.length) := Lib.hid hlt
          clear hxx hx hform hA p2 hpx
          have hways : (((a1 = false ∧ a3 = false) ∨ (a1 = true ∧ a2 = false ∧ a3 = false) ∨ (a1 = true ∧ a2 = false ∧ a3 = true ∧ a4 = true)) ∧ (!(a1 && a2) && !(a3 && (!a1 || !a4))) = true) ∨
              (((a1 = false ∧ a3 = true) ∨ (a1 = true ∧ a2 = true) ∨ (a1 = true ∧ a2 = false ∧ a3 = true ∧ a4 = false)) ∧ (!(a1 && a2) && !(a3 && (!a1 || !a4))) = false) := by
            cases a1 <;> cases a2 <;> cases a3 <;> cases a4 <;> simp
          rcases hways with ⟨hway, hq⟩ | ⟨hway, hq⟩
          · have HFT : Hid (fitL (0, []) (l.take (j + 1 + 1)) = true) := Lib.hid (by rw [HTK.out, HSN.out, HFM.out, HF.out, HLM.out, HFi.out, hq]; rfl)
            clear HFi hq
            rcases hway with ⟨rfl, rfl⟩ | ⟨rfl, rfl, rfl⟩ | ⟨rfl, rfl, rfl, rfl⟩
            all_goals as_aux_lemma =>
              go_wp2_with (first | (go_at_call 15; (refine (written_any _ mk (c :: t) HMS.out).mono ?_; rintro e w2 ⟨s, rfl, hs2, hb2⟩; obtain rfl := hs2 HFM.out; rw [HFM.out]; have HB2 : Hid (Below wr.heap.size wr w2) := Lib.hid (then_ (new_ (Below.refl _ _) _) hb2); have q0 := cellM c0 (Lib.hid hb2).out; have q1 := cellM c1 (Lib.hid hb2).out; have q2 := cellM p1 HB2.out; clear hb2 hs2)) | (go_at_call 16; (refine (space_any _ c _ rfl).mono ?_; rintro e w4 ⟨rfl, hb4⟩; rw [e4]; have HB4 := Lib.hid hb4; clear hb4)) | (go_at_call 17; (refine (bldm_str _ w.heap.size w.heap.size _ (writeM (mk, c :: t)) (Bld.below HB0.out HB2.out) HLB.out HLS.out (Nat.le_trans HWZ.out HB2.out.size)).mono ?_; rintro e w3 ⟨⟨vv, rfl⟩, hB3, hb3⟩; have HB3 := Lib.hid hB3; have HW3 := Lib.hid (HB.out.trans ((HB2.out.mono HWZ.out).trans hb3)); clear hB3 hb3)) | (go_at_call 17; (refine (bldm_str _ w.heap.size w.heap.size _ (writeM (mk, c :: t)) (Bld.below HB0.out (then_ HB2.out HB4.out)) HLB.out HLS.out (Nat.le_trans HWZ.out (then_ HB2.out HB4.out).size)).mono ?_; rintro e w3 ⟨⟨vv, rfl⟩, hB3, hb3⟩; have HB3 := Lib.hid hB3; have HW3 := Lib.hid (HB.out.trans (((then_ HB2.out HB4.out).mono HWZ.out).trans hb3)); clear hB3 hb3)) | fail)
              go_roundw
              case rel => exact ⟨j + 1 + 1, by have h9 := HLK.out; omega, by rw [HW65.out], HFT, HLT, Lib.hid (by rw [HFX.out]; exact HB3.out), HW3.out⟩
              case measure => exact un_measure j l.length _ HW65.out HLK.out
          · have hU : Hid (unmarkS l = ([], 2)) := Lib.hid (by
              unfold unmarkS
              rw [if_pos (fit_not (k := j + 1 + 1) (by rw [HTK.out, HSN.out, HFM.out, HF.out, HLM.out, HFi.out, hq]; rfl))])
            clear HFi hq
            rcases hway with ⟨rfl, rfl⟩ | ⟨rfl, rfl⟩ | ⟨rfl, rfl, rfl, rfl⟩
            all_goals as_aux_lemma =>
              go_wp2_with (first | (go_at_call 15; (refine (written_any _ mk (c :: t) HMS.out).mono ?_; rintro e w2 ⟨s, rfl, hs2, hb2⟩; obtain rfl := hs2 HFM.out; rw [HFM.out]; have HB2 : Hid (Below wr.heap.size wr w2) := Lib.hid (then_ (new_ (Below.refl _ _) _) hb2); have q0 := cellM c0 (Lib.hid hb2).out; have q1 := cellM c1 (Lib.hid hb2).out; have q2 := cellM p1 HB2.out; clear hb2 hs2)) | (go_at_call 16; (refine (space_any _ c _ rfl).mono ?_; rintro e w4 ⟨rfl, hb4⟩; rw [e4]; have HB4 := Lib.hid hb4; clear hb4)) | (go_at_call 17; (refine (bldm_str _ w.heap.size w.heap.size _ (writeM (mk, c :: t)) (Bld.below HB0.out HB2.out) HLB.out HLS.out (Nat.le_trans HWZ.out HB2.out.size)).mono ?_; rintro e w3 ⟨⟨vv, rfl⟩, hB3, hb3⟩; have HB3 := Lib.hid hB3; have HW3 := Lib.hid (HB.out.trans ((HB2.out.mono HWZ.out).trans hb3)); clear hB3 hb3)) | fail)
              go_ret2
              refine ⟨by rw [hU.out]; rfl, ?_⟩
              first | exact then_ (HB.out.trans (HB2.out.mono HWZ.out)) HB4.out | exact HB.out.trans (HB2.out.mono HWZ.out)
    · obtain rfl : k = l.length := by omega
      rw [List.take_length] at HF HL HB0
      obtain ⟨N, hN⟩ : ∃ N, (l.flatMap writeM).length = N := ⟨_, rfl⟩
      have HLN := Lib.hid hN
      by_cases h4 : 40000 < N
      · have hU : Hid (unmarkS l = ([], 15)) := Lib.hid (by unfold unmarkS; rw [if_neg (by rw [HF.out]; simp), hN, if_pos h4])
        have h4' : decide ((40000 : Int) < (N : Int)) = true := decide_eq_true (by omega)
        clear hb hN
        go_wp2_with (first | (go_at_call 18; (refine (bld_len _ w.heap.size w.heap.size _ N HLN.out HB0.out).mono ?_; rintro e w2 ⟨rfl, rfl⟩)) | fail)
        go_ret2
        exact ⟨by rw [hU.out]; rfl, HB.out⟩
      · have hU : Hid (unmarkS l = (l.flatMap writeM, 0)) := Lib.hid (by unfold unmarkS; rw [if_neg (by rw [HF.out]; simp), hN, if_neg h4])
        have h4' : decide ((40000 : Int) < (N : Int)) = false := decide_eq_false (by omega)
        clear hb hN
        go_wp2_with (first | (go_at_call 18; (refine (bld_len _ w.heap.size w.heap.size _ N HLN.out HB0.out).mono ?_; rintro e w2 ⟨rfl, rfl⟩)) | (go_at_call 19; (refine (bld_string _ w.heap.size w.heap.size _ HB0.out (by assumption)).mono ?_; rintro e w3 ⟨rfl, hb3, -⟩; have HB3 := Lib.hid (HB.out.trans hb3); clear hb3)) | fail)
        go_ret2
        exact ⟨by rw [hU.out]; rfl, HB3.out⟩
end Go.Proofs.Ythkeggmloajapaa
