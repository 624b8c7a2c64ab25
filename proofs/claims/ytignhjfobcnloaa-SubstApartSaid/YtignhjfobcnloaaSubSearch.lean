/- slices.BinarySearchFunc at pairs. -/
import Derived.Test.YtignhjfobcnloaaPairPlain
import Derived.Test.YtignhjfobcnloaaSubSorted
import Derived.Test.YtignhjfobcnloaaSubCmp
import Derived.Deep.RegionHeld3
import Derived.RegionTactic
import Derived.Deep.DrawnRows
namespace Go.Proofs.Ytignhjfobcnloaa
open Go.RowKit
theorem cmpP_neg (p q : PairD) : decide (cmpP p q < 0) = decide (ltP p q) := by
  have := ltP_ltOf p q
  unfold ltOf at this
  exact this
theorem cmpS_zero {a b : List UInt8} : cmpS a b = 0 ↔ a = b := by
  constructor
  · intro h
    by_cases h1 : a < b
    · rw [cmpS_lt h1] at h; cases h
    · by_cases h2 : b < a
      · rw [cmpS_gt h1 h2] at h; cases h
      · exact lt_tri h1 h2
  · rintro rfl
    exact cmpS_self a
theorem cmpP_zero {p q : PairD} : cmpP p q = 0 ↔ p = q := by
  unfold cmpP
  constructor
  · intro h
    by_cases h1 : cmpS p.1 q.1 = 0
    · rw [if_neg (by simp [h1])] at h
      exact Prod.ext (cmpS_zero.1 h1) (cmpS_zero.1 h)
    · rw [if_pos h1] at h
      exact absurd h h1
  · rintro rfl
    rw [cmpS_self, cmpS_self]
    simp
theorem pw_at {l : List PairD} (h : l.Pairwise ltP) {i j : Nat} {x y : PairD} (hij : i < j) (hx : l[i]? = some x) (hy : l[j]? = some y) : ltP x y := by
  obtain ⟨hi, rfl⟩ := List.getElem?_eq_some_iff.1 hx
  obtain ⟨hj, rfl⟩ := List.getElem?_eq_some_iff.1 hy
  exact List.pairwise_iff_getElem.1 h i j hi hj hij
structure SeekAt (l : List PairD) (p : PairD) (i j : Nat) : Prop where
  low : ∀ t y, t < i → l[t]? = some y → ltP y p
  high : ∀ t y, j ≤ t → l[t]? = some y → ¬ ltP y p
theorem SeekAt.up {l : List PairD} {p y : PairD} {i j h : Nat} (s : SeekAt l p i j) (hl : l.Pairwise ltP) (hy : l[h]? = some y) (hlt : ltP y p) : SeekAt l p (h + 1) j :=
  ⟨fun t z ht hz => by
    rcases Nat.lt_or_eq_of_le (Nat.lt_succ_iff.1 ht) with e | e
    · exact plt_trans (pw_at hl e hz hy) hlt
    · subst e; rw [hy] at hz; cases hz; exact hlt, s.high⟩
theorem SeekAt.down {l : List PairD} {p y : PairD} {i j h : Nat} (s : SeekAt l p i j) (hl : l.Pairwise ltP) (hy : l[h]? = some y) (hlt : ¬ ltP y p) : SeekAt l p i h :=
  ⟨s.low, fun t z ht hz => by
    rcases Nat.lt_or_eq_of_le ht with e | e
    · exact fun hn => hlt (plt_trans (pw_at hl e hy hz) hn)
    · subst e; rw [hy] at hz; cases hz; exact hlt⟩
theorem SeekAt.found {l : List PairD} {p : PairD} {i : Nat} (s : SeekAt l p i i) (hl : l.Pairwise ltP) : p ∈ l ↔ l[i]? = some p := by
  constructor
  · intro h
    obtain ⟨t, ht⟩ := List.mem_iff_getElem?.1 h
    rcases Nat.lt_or_ge t i with e | e
    · exact absurd (s.low t p e ht) (plt_irrefl p)
    · rcases Nat.lt_or_eq_of_le e with e | e
      · have hlt : t < l.length := (List.getElem?_eq_some_iff.1 ht).1
        have hi : l[i]? = some (l[i]'(by omega)) := List.getElem?_eq_getElem (by omega)
        exact absurd (pw_at hl e hi ht) (s.high i _ (Nat.le_refl _) hi)
      · rw [e]; exact ht
  · intro h; exact List.mem_of_getElem? h
theorem below_grow (w : World) (n : Nat) (os : Array Obj) : Below w.heap.size w (Sort.grow (w.drewN n) os) := by
  refine ⟨rfl, rfl, rfl, ?_, fun j hj => ?_⟩
  · show w.heap.size ≤ (w.heap ++ os).size
    simp
  · show (w.heap ++ os)[j]? = w.heap[j]?
    rw [Array.getElem?_append_left hj]
theorem compare_as (w : World) (p q : PairD) (z : Int) (h : cmpP p q = z) : Calls Try.prog 55 #[.agg #[.string ⟨p.1.toArray⟩, .string ⟨p.2.toArray⟩], .agg #[.string ⟨q.1.toArray⟩, .string ⟨q.2.toArray⟩]] w fun e w' => e = .returned (.int .i64 z) ∧ Below w.heap.size w w' :=
  (compare_any w p q).mono fun _ _ ⟨h1, n, os, h2⟩ => ⟨by rw [h1, h], by rw [h2]; exact below_grow w n os⟩
attribute [local go_sem ↓] Go.wp_at_zero Go.wp_at_succ
set_option maxRecDepth 100000 in
set_option maxHeartbeats 4000000 in
theorem search_pairs (w : World) (v : Value) (l : List PairD) (p : PairD) (h : PairsAt w v l) (hs : l.Pairwise ltP) (hl : l.length ≤ 1000000) :
    Calls Try.prog 57 #[v, .agg #[.string ⟨p.1.toArray⟩, .string ⟨p.2.toArray⟩], .func (.func 55) #[] #[]] w fun e w' => ∃ i : Int, e = .returned (.tuple #[.int .i64 i, .bool (decide (p ∈ l))]) ∧ Below w.heap.size w w' := by
  have h0 := h
  obtain ⟨A, c, rfl, hc, hm, hx⟩ := h.open_
  clear hx hm
  have HS := Lib.hid hs
  clear hs
  go_enter Try.func57, Try.ntmps57
  go_wp2
  go_loopw [9, 10] (fun iv jv wr => ∃ i j : Nat, i ≤ j ∧ j ≤ l.length ∧ iv = .int .i64 i ∧ jv = .int .i64 j ∧ Hid (SeekAt l p i j) ∧ Below w.heap.size w wr ∧ Row wr w.heap.size 39 #[.string ⟨p.1.toArray⟩, .string ⟨p.2.toArray⟩]) (fun iv jv _ => (intOf jv).toNat - (intOf iv).toNat)
  case atStart => exact ⟨0, l.length, Nat.zero_le _, Nat.le_refl _, rfl, rfl, Lib.hid ⟨fun t y ht => absurd ht (Nat.not_lt_zero _), fun t y ht hy => by have := (List.getElem?_eq_some_iff.1 hy).1; omega⟩, new_ (Below.refl _ _) _, Row.new _ _ _⟩
  case round =>
    obtain ⟨i, j, hij, hjl, rfl, rfl, HK, hb, hr⟩ := hrel
    have c0 := hr.cell (i := 0) (v := .string ⟨p.1.toArray⟩) rfl
    have c1 := hr.cell (i := 1) (v := .string ⟨p.2.toArray⟩) rfl
    have HR := Lib.hid hr
    by_cases hlt : i < j
    · obtain ⟨m, hm⟩ : ∃ m : Nat, ((i : Int) + (j : Int)) / 2 = (m : Int) := ⟨(i + j) / 2, by omega⟩
      have m1 : i ≤ m := by omega
      have m2 : m < j := by omega
      have m3 : m < l.length := by omega
      obtain ⟨y, hy⟩ : ∃ y, l[m]? = some y := ⟨_, List.getElem?_eq_getElem m3⟩
      obtain ⟨A', c', hvv, _, _, hx⟩ := (h0.below hb).open_
      obtain ⟨rfl, _, rfl⟩ := (by simpa using hvv : A = A' ∧ True ∧ c = c')
      obtain ⟨b, o, rfl, g1, g2⟩ := hx m y hy
      have k0 : (0 : Int) ≤ (m : Int) := Int.natCast_nonneg _
      have k1 : (m : Int) < (l.length : Int) := by omega
      have hB := hb.size
      have hlb := block_lt_of_cell g1
      dsimp only at hlb
      have hlr := hr.lt
      have HY := Lib.hid hy
      have HM := Lib.hid hm
      obtain ⟨z, hz⟩ : ∃ z, cmpP y p = z := ⟨_, rfl⟩
      have HZ := Lib.hid hz
      have HLT := Lib.hid (cmpP_neg y p)
      rw [hz] at HLT
      clear hx hvv hy hm hz h h0 hr
      by_cases hzn : z < 0
      · have e1 : decide (z < 0) = true := decide_eq_true hzn
        have HPY : Hid (ltP y p) := Lib.hid (by have := HLT.out; rw [e1] at this; exact of_decide_eq_true this.symm)
        clear hzn
        go_wp2
        rw [HM.out]
        go_region_held3 (fun w' => w'.cell? ⟨b, o + m * 2, none⟩ = some (.string ⟨y.1.toArray⟩) ∧ w'.cell? ⟨b, o + m * 2 + 1, none⟩ = some (.string ⟨y.2.toArray⟩) ∧ w'.cell? ⟨w.heap.size, 0, none⟩ = some (.string ⟨p.1.toArray⟩) ∧ w'.cell? ⟨w.heap.size, 1, none⟩ = some (.string ⟨p.2.toArray⟩)) (go_keep)
          (first | (go_at_call 55; refine (compare_as _ y p z HZ.out).mono ?_; rintro e w5 ⟨rfl, hb5⟩; have hb6 : Below wr.heap.size wr w5 := ((Below.refl _ _).drew).trans hb5; have q1 := (hb6.cell (p := ⟨b, o + m * 2, none⟩) hlb).trans g1; have q2 := (hb6.cell (p := ⟨b, o + m * 2 + 1, none⟩) hlb).trans g2; have q3 := (hb6.cell (p := ⟨w.heap.size, 0, none⟩) hlr).trans c0; have q4 := (hb6.cell (p := ⟨w.heap.size, 1, none⟩) hlr).trans c1))
        go_wp2
        go_roundw
        case rel => exact ⟨m + 1, j, by omega, hjl, by go_num, rfl, Lib.hid (HK.out.up HS.out HY.out HPY.out), hb.trans (hb6.mono hB), HR.out.below hb6 hlr⟩
        case measure => simp [intOf]; omega
      · have e1 : decide (z < 0) = false := decide_eq_false hzn
        have HPY : Hid (¬ ltP y p) := Lib.hid (by have := HLT.out; rw [e1] at this; exact of_decide_eq_false this.symm)
        clear hzn
        go_wp2
        rw [HM.out]
        go_region_held3 (fun w' => w'.cell? ⟨b, o + m * 2, none⟩ = some (.string ⟨y.1.toArray⟩) ∧ w'.cell? ⟨b, o + m * 2 + 1, none⟩ = some (.string ⟨y.2.toArray⟩) ∧ w'.cell? ⟨w.heap.size, 0, none⟩ = some (.string ⟨p.1.toArray⟩) ∧ w'.cell? ⟨w.heap.size, 1, none⟩ = some (.string ⟨p.2.toArray⟩)) (go_keep)
          (first | (go_at_call 55; refine (compare_as _ y p z HZ.out).mono ?_; rintro e w5 ⟨rfl, hb5⟩; have hb6 : Below wr.heap.size wr w5 := ((Below.refl _ _).drew).trans hb5; have q1 := (hb6.cell (p := ⟨b, o + m * 2, none⟩) hlb).trans g1; have q2 := (hb6.cell (p := ⟨b, o + m * 2 + 1, none⟩) hlb).trans g2; have q3 := (hb6.cell (p := ⟨w.heap.size, 0, none⟩) hlr).trans c0; have q4 := (hb6.cell (p := ⟨w.heap.size, 1, none⟩) hlr).trans c1))
        go_wp2
        go_roundw
        case rel => exact ⟨i, m, by omega, by omega, rfl, by go_num, Lib.hid (HK.out.down HS.out HY.out HPY.out), hb.trans (hb6.mono hB), HR.out.below hb6 hlr⟩
        case measure => simp [intOf]; omega
    · obtain rfl : i = j := by omega
      have HF := Lib.hid (HK.out.found HS.out)
      have hB := hb.size
      have hlr := hr.lt
      by_cases hil : i < l.length
      · obtain ⟨y, hy⟩ : ∃ y, l[i]? = some y := ⟨_, List.getElem?_eq_getElem hil⟩
        obtain ⟨A', c', hvv, _, _, hx⟩ := (h0.below hb).open_
        obtain ⟨rfl, _, rfl⟩ := (by simpa using hvv : A = A' ∧ True ∧ c = c')
        obtain ⟨b, o, rfl, g1, g2⟩ := hx i y hy
        have k0 : (0 : Int) ≤ (i : Int) := Int.natCast_nonneg _
        have k1 : (i : Int) < (l.length : Int) := by omega
        have t1 : decide (i < l.length) = true := decide_eq_true hil
        have hlb := block_lt_of_cell g1
        dsimp only at hlb
        obtain ⟨z, hz⟩ : ∃ z, cmpP y p = z := ⟨_, rfl⟩
        have HZ := Lib.hid hz
        have HQ : Hid ((z == 0) = decide (p ∈ l)) := Lib.hid (by
          rw [← hz, Bool.eq_iff_iff, beq_iff_eq, decide_eq_true_eq, HF.out, hy, cmpP_zero]
          simp)
        clear hx hvv hy hz h h0 hr
        go_wp2
        go_region_held3 (fun w' => w'.cell? ⟨b, o + i * 2, none⟩ = some (.string ⟨y.1.toArray⟩) ∧ w'.cell? ⟨b, o + i * 2 + 1, none⟩ = some (.string ⟨y.2.toArray⟩) ∧ w'.cell? ⟨w.heap.size, 0, none⟩ = some (.string ⟨p.1.toArray⟩) ∧ w'.cell? ⟨w.heap.size, 1, none⟩ = some (.string ⟨p.2.toArray⟩)) (go_keep)
          (first | (go_at_call 55; refine (compare_as _ y p z HZ.out).mono ?_; rintro e w5 ⟨rfl, hb5⟩; have hb6 : Below wr.heap.size wr w5 := ((Below.refl _ _).drew).trans hb5; have q1 := (hb6.cell (p := ⟨b, o + i * 2, none⟩) hlb).trans g1; have q2 := (hb6.cell (p := ⟨b, o + i * 2 + 1, none⟩) hlb).trans g2; have q3 := (hb6.cell (p := ⟨w.heap.size, 0, none⟩) hlr).trans c0; have q4 := (hb6.cell (p := ⟨w.heap.size, 1, none⟩) hlr).trans c1))
        go_wp2
        go_ret2
        exact ⟨(i : Int), (by rw [HQ.out]; rfl), hb.trans (hb6.mono hB)⟩
      · have t1 : decide (i < l.length) = false := decide_eq_false hil
        have HQ : Hid (decide (p ∈ l) = false) := Lib.hid (decide_eq_false fun hp => by
          have := (List.getElem?_eq_some_iff.1 (HF.out.1 hp)).1
          omega)
        clear h h0 hr
        go_wp2
        go_region
        go_wp2
        go_ret2
        exact ⟨(i : Int), (by rw [HQ.out]; rfl), hb.drew⟩
end Go.Proofs.Ytignhjfobcnloaa
