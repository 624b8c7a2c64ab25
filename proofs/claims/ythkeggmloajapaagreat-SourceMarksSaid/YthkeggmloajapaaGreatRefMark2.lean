/- The reference's list of marks: one more mark. -/
import Derived.Test.YthkeggmloajapaaGreatRefMark1
import Derived.Test.YthkeggmloajapaaGreatMarkWr
import Derived.Test.YthkeggmloajapaaGreatCellA
import Derived.Deep.RegionHeld3
import Derived.Deep.DrawnRows
namespace Go.Proofs.YthkeggmloajapaaGreat
open Go.RowKit
attribute [local go_sem ↓] Go.wp_at_zero Go.wp_at_succ
theorem infoRMark : (Tryz.prog.info? 26).map (fun i => (i.zero, i.size, i.bytes)) = some (some (.agg #[.int .i64 0, .string ⟨#[]⟩]), 2, 24) := by kernel_rfl
theorem markC_one (l : List MarkD) : ∀ u ∈ markC l, u.oneCell' = true := by
  intro u hu
  unfold markC at hu
  obtain ⟨m, -, hm⟩ := List.mem_flatMap.1 hu
  simp at hm
  rcases hm with rfl | rfl <;> rfl
/-- what add returns -/
def AddPost (w : World) (l : List MarkD) (e : Ending) (w' : World) : Prop := ∃ v, e = .returned v ∧ Rds w' 2 v l.length (markC l) ∧ Below w.heap.size w w'
theorem rds_front {w : World} {A : Option Addr} {n c : Nat} {l0 : List MarkD} {m : MarkD} (h : Rds w 2 (.slice A (n + 1) c) (n + 1) (markC (l0 ++ [m]))) (hn : l0.length = n) :
    ∃ b o, A = some ⟨b, o, none⟩ ∧ n + 1 ≤ c ∧ n + 1 ≤ maxLen ∧ Rds w 2 (.slice (some ⟨b, o, none⟩) n c) n (markC l0) ∧ w.cell? ⟨b, o + n * 2, none⟩ = some (.int .i64 m.1) ∧ w.cell? ⟨b, o + n * 2 + 1, none⟩ = some (.string ⟨m.2.toArray⟩) := by
  obtain ⟨A', c', hv, hc, hm, hl, hr⟩ := h
  obtain ⟨rfl, rfl⟩ := (by simpa using hv : A = A' ∧ c = c')
  obtain ⟨b, o, rfl, hx⟩ := hr (by omega)
  have hml := markC_len l0
  refine ⟨b, o, rfl, hc, hm, ⟨_, _, rfl, by omega, by omega, by rw [hml, hn], fun _ => ⟨b, o, rfl, fun j u hu => hx j u ?_⟩⟩, hx (n * 2) _ ?_, hx (n * 2 + 1) _ ?_⟩
  · rw [markC_snoc]
    exact List.getElem?_append_left (List.getElem?_eq_some_iff.1 hu).1 ▸ hu
  · rw [markC_snoc, List.getElem?_append_right (by omega), hml, hn]
    simp
  · rw [markC_snoc, List.getElem?_append_right (by omega), hml, hn]
    simp
set_option maxRecDepth 100000 in
set_option maxHeartbeats 4000000 in
/-- more plain text behind plain text -/
theorem add_app {W2 : World} {b o n c : Nat} {l0 : List MarkD} {u t : List UInt8} {x3 x4 x5 x6 x8 x9 x10 x11 x12 x13 x14 x15 x16 x17 x18 x19 x20 x21 x22 x23 x24 x25 x26 x27 x28 x29 x30 x31 x32 x33 x34 x35 x36 x37 x38 x39 x40 x41 x42 x43 x44 x45 x46 x47 x48 x49 : Value} {Q : Exit → Act → World → Prop} (c1 : W2.cell? ⟨b, o + n * 2 + 1, none⟩ = some (.string ⟨u.toArray⟩)) (hfr : Rds W2 2 (.slice (some ⟨b, o, none⟩) n c) n (markC l0))
    (hcn : n + 1 ≤ c) (hl : n + 1 ≤ 1000000) (hcat : Op.stringOp .add ⟨u.toArray⟩ ⟨t.toArray⟩ = pure (.string ⟨(u ++ t).toArray⟩))
    (hQ : ∀ (w1 : World) (V7 : Value) {V0 V4 V6 x25 x26 x27 x28 x29 x30 x31 x32 x33 x34 x35 x36 x37 x38 x39 x40 x41 : Value}, CA W2 26 2 n (markC l0) [.int .i64 1, .string ⟨(u ++ t).toArray⟩] true true true true V0 V4 V6 V7 w1 → Q .normal { tmps := #[.slice (some ⟨b, o, none⟩) (n + 1) c, .int .i64 1, .string ⟨t.toArray⟩, x3, x4, x5, V7, .int .i64 ((n : Int) + 1), x8, x9, x10, x11, x12, x13, x14, x15, x16, x17, x18, x19, x20, x21, x22, x23, x24, x25, x26, x27, x28, x29, x30, x31, x32, x33, x34, x35, x36, x37, x38, x39, x40, x41, x42, x43, x44, x45, x46, x47, x48, x49], defers := [] } w1) :
    (regC 3 (Tryz.f16.body.getD .skip)).wp Tryz.prog Q { tmps := #[.slice (some ⟨b, o, none⟩) (n + 1) c, .int .i64 1, .string ⟨t.toArray⟩, x3, x4, x5, x6, .int .i64 ((n : Int) + 1), x8, x9, x10, x11, x12, x13, x14, x15, x16, x17, x18, x19, x20, x21, x22, x23, x24, x25, x26, x27, x28, x29, x30, x31, x32, x33, x34, x35, x36, x37, x38, x39, x40, x41, x42, x43, x44, x45, x46, x47, x48, x49], defers := [] } W2 := by
  have i1 : (0 : Int) ≤ (n : Int) := by omega
  have i2 : (n : Int) ≤ (c : Int) := by omega
  have i3 : (n : Int) < ((n + 1 : Nat) : Int) := by omega
  have i4 : (n : Int) < (n : Int) + 1 := by omega
  have i5 : IntKind.i64.wrap ((n : Int) + 1 - 1) = (n : Int) := by rw [IntWalk.i64_in _ (by omega)]; omega
  have i6 : wrap64 (n : Int) = (n : Int) := by unfold wrap64; omega
  have i7 : IntKind.i64.wrap (n : Int) = (n : Int) := IntWalk.i64_in _ (by omega)
  simp only [Tryz.f16, Option.getD_some, regC]
  refine (wpIn_wide (n := 0)).1 (wpIn_region_any (by kernel_rfl) ?_)
  refine wpAnyIn_inv (Inv := fun listed a wq => ∃ (b0 b1 b2 b3 b4 b5 b6 b7 b8 b9 b10 b11 b12 b13 b14 b15 b16 b17 : Bool) (V0 : Value) (V4 : Value) (V6 : Value) (V7 : Value), listed = #[b0, b1, b2, b3, b4, b5, b6, b7, b8, b9, b10, b11, b12, b13, b14, b15, b16, b17] ∧ a = { tmps := #[.slice (some ⟨b, o, none⟩) (n + 1) c, .int .i64 1, .string ⟨t.toArray⟩, x3, x4, x5, (bif b17 then V7 else x6), .int .i64 ((n : Int) + 1), x8, x9, x10, x11, x12, x13, x14, x15, x16, x17, x18, x19, x20, x21, x22, x23, x24, (bif b0 then V0 else x25), (bif b1 then .slice (some ⟨b, o, none⟩) (n + 1) c else x26), (bif b2 then .int .i64 ((n : Int) + 1) else x27), (bif b3 then .int .i64 (n : Int) else x28), (bif b4 then .slice (some ⟨b, o, none⟩) n c else x29), (bif b5 then V4 else x30), (bif b6 then .slice (some ⟨b, o, none⟩) (n + 1) c else x31), (bif b7 then .int .i64 ((n : Int) + 1) else x32), (bif b8 then .int .i64 (n : Int) else x33), (bif b9 then .pointer (some ⟨b, o + n * 2, none⟩) else x34), (bif b10 then .pointer (some ⟨b, o + n * 2 + 1, none⟩) else x35), (bif b11 then .string ⟨u.toArray⟩ else x36), (bif b12 then .string ⟨t.toArray⟩ else x37), (bif b13 then .string ⟨(u ++ t).toArray⟩ else x38), (bif b14 then .agg #[.int .i64 1, .string ⟨(u ++ t).toArray⟩] else x39), (bif b15 then V6 else x40), (bif b16 then V7 else x41), x42, x43, x44, x45, x46, x47, x48, x49], defers := [] } ∧ (b17 = true → b16 = true) ∧ (b5 = true → b0 = true) ∧ (b16 = true → (b5 && b15) = true) ∧ (CA W2 26 2 (n) (markC l0) ([.int .i64 1, .string ⟨(u ++ t).toArray⟩]) b0 b5 b15 b16 V0 V4 V6 V7 wq)) (by kernel_rfl) ?_ ?_ ?_ _ _ _ _ ?_ ?_
  rotate_left 2
  rotate_left 1
  · exact ⟨false, false, false, false, false, false, false, false, false, false, false, false, false, false, false, false, false, false, .nilIface, .nilIface, .nilIface, .nilIface, rfl, rfl, fun h => (by cases h), fun h => (by cases h), fun h => (by cases h), CA.start⟩
  · simp
  · rintro listed a wq ⟨b0, b1, b2, b3, b4, b5, b6, b7, b8, b9, b10, b11, b12, b13, b14, b15, b16, b17, V0, V4, V6, V7, rfl, _⟩
    rfl
  · rintro ii listed a wq hii ⟨b0, b1, b2, b3, b4, b5, b6, b7, b8, b9, b10, b11, b12, b13, b14, b15, b16, b17, V0, V4, V6, V7, rfl, rfl, hs7, h40, h74, hca⟩ hl ha
    match ii, hii with
    | 0, _ =>
      have hb : b0 = false := by simpa using hl
      clear ha hl
      subst hb
      obtain rfl : b5 = false := by cases b5 with | false => rfl | true => exact absurd (h40 rfl) (by simp)
      obtain rfl : b16 = false := by cases b16 with | false => rfl | true => exact absurd (h74 rfl) (by simp)
      refine wpOpIn_step rfl fun K' hK => ?_
      go_simp
      exact hK _ _ ⟨true, b1, b2, b3, b4, false, b6, b7, b8, b9, b10, b11, b12, b13, b14, b15, false, b17, _, V4, V6, V7, rfl, rfl, fun h => absurd (hs7 h) (by simp), fun _ => rfl, fun h => (by cases h), hca.s0⟩
    | 1, _ =>
      have hb : b1 = false := by simpa using hl
      clear ha hl
      subst hb
      refine wpOpIn_step rfl fun K' hK => ?_
      go_simp
      exact hK _ _ ⟨b0, true, b2, b3, b4, b5, b6, b7, b8, b9, b10, b11, b12, b13, b14, b15, b16, b17, V0, V4, V6, V7, rfl, rfl, hs7, h40, h74, hca⟩
    | 2, _ =>
      have hb : b2 = false := by simpa using hl
      clear ha hl
      subst hb
      refine wpOpIn_step rfl fun K' hK => ?_
      go_simp
      exact hK _ _ ⟨b0, b1, true, b3, b4, b5, b6, b7, b8, b9, b10, b11, b12, b13, b14, b15, b16, b17, V0, V4, V6, V7, rfl, rfl, hs7, h40, h74, hca⟩
    | 3, _ =>
      have hb : b3 = false := by simpa using hl
      have hd := ha _ rfl
      have d2 : b2 = true := by cases b2 with | true => rfl | false => simp [Region.binds] at hd
      clear hd
      clear ha hl
      subst hb d2
      refine wpOpIn_step rfl fun K' hK => ?_
      go_simp
      exact hK _ _ ⟨b0, b1, true, true, b4, b5, b6, b7, b8, b9, b10, b11, b12, b13, b14, b15, b16, b17, V0, V4, V6, V7, rfl, rfl, hs7, h40, h74, hca⟩
    | 4, _ =>
      have hb : b4 = false := by simpa using hl
      have hd := ha _ rfl
      have d1 : b1 = true := by cases b1 with | true => rfl | false => simp [Region.binds] at hd
      have d3 : b3 = true := by cases b3 with | true => rfl | false => simp [Region.binds] at hd
      clear hd
      clear ha hl
      subst hb d1 d3
      refine wpOpIn_step rfl fun K' hK => ?_
      go_simp
      exact hK _ _ ⟨b0, true, b2, true, true, b5, b6, b7, b8, b9, b10, b11, b12, b13, b14, b15, b16, b17, V0, V4, V6, V7, rfl, rfl, hs7, h40, h74, hca⟩
    | 5, _ =>
      have hb : b5 = false := by simpa using hl
      have hd := ha _ rfl
      have d0 : b0 = true := by cases b0 with | true => rfl | false => simp [Region.binds] at hd
      have d4 : b4 = true := by cases b4 with | true => rfl | false => simp [Region.binds] at hd
      clear hd
      clear ha hl
      subst hb d0 d4
      obtain rfl : b16 = false := by cases b16 with | false => rfl | true => exact absurd (h74 rfl) (by simp)
      obtain ⟨i0, hi0, hj0, hj1, hj2⟩ := info_parts infoRMark
      obtain ⟨v, w', hrun, hc'⟩ := hca.r4 (P := Tryz.prog) 23 23 i0 _ 24 Tryz.underlying23 hi0 hj0 hj1 hj2 rfl (by decide) (hfr) (markC_one _) (by omega)
      refine wpOpIn_app rfl rfl (.tmp 25) (.tmp 29) 23 rfl rfl rfl hrun ?_
      exact ⟨true, b1, b2, b3, true, true, b6, b7, b8, b9, b10, b11, b12, b13, b14, b15, false, b17, V0, v, V6, V7, rfl, rfl, fun h => absurd (hs7 h) (by simp), fun _ => rfl, fun h => (by cases h), hc'⟩
    | 6, _ =>
      have hb : b6 = false := by simpa using hl
      clear ha hl
      subst hb
      refine wpOpIn_step rfl fun K' hK => ?_
      go_simp
      exact hK _ _ ⟨b0, b1, b2, b3, b4, b5, true, b7, b8, b9, b10, b11, b12, b13, b14, b15, b16, b17, V0, V4, V6, V7, rfl, rfl, hs7, h40, h74, hca⟩
    | 7, _ =>
      have hb : b7 = false := by simpa using hl
      clear ha hl
      subst hb
      refine wpOpIn_step rfl fun K' hK => ?_
      go_simp
      exact hK _ _ ⟨b0, b1, b2, b3, b4, b5, b6, true, b8, b9, b10, b11, b12, b13, b14, b15, b16, b17, V0, V4, V6, V7, rfl, rfl, hs7, h40, h74, hca⟩
    | 8, _ =>
      have hb : b8 = false := by simpa using hl
      have hd := ha _ rfl
      have d7 : b7 = true := by cases b7 with | true => rfl | false => simp [Region.binds] at hd
      clear hd
      clear ha hl
      subst hb d7
      refine wpOpIn_step rfl fun K' hK => ?_
      go_simp
      exact hK _ _ ⟨b0, b1, b2, b3, b4, b5, b6, true, true, b9, b10, b11, b12, b13, b14, b15, b16, b17, V0, V4, V6, V7, rfl, rfl, hs7, h40, h74, hca⟩
    | 9, _ =>
      have hb : b9 = false := by simpa using hl
      have hd := ha _ rfl
      have d6 : b6 = true := by cases b6 with | true => rfl | false => simp [Region.binds] at hd
      have d8 : b8 = true := by cases b8 with | true => rfl | false => simp [Region.binds] at hd
      clear hd
      clear ha hl
      subst hb d6 d8
      refine wpOpIn_step rfl fun K' hK => ?_
      go_simp
      exact hK _ _ ⟨b0, b1, b2, b3, b4, b5, true, b7, true, true, b10, b11, b12, b13, b14, b15, b16, b17, V0, V4, V6, V7, rfl, rfl, hs7, h40, h74, hca⟩
    | 10, _ =>
      have hb : b10 = false := by simpa using hl
      have hd := ha _ rfl
      have d9 : b9 = true := by cases b9 with | true => rfl | false => simp [Region.binds] at hd
      clear hd
      clear ha hl
      subst hb d9
      refine wpOpIn_step rfl fun K' hK => ?_
      go_simp
      exact hK _ _ ⟨b0, b1, b2, b3, b4, b5, b6, b7, b8, true, true, b11, b12, b13, b14, b15, b16, b17, V0, V4, V6, V7, rfl, rfl, hs7, h40, h74, hca⟩
    | 11, _ =>
      have hb : b11 = false := by simpa using hl
      have hd := ha _ rfl
      have d10 : b10 = true := by cases b10 with | true => rfl | false => simp [Region.binds] at hd
      clear hd
      clear ha hl
      subst hb d10
      have t1 := cellM c1 hca.below
      refine wpOpIn_step rfl fun K' hK => ?_
      go_simp
      exact hK _ _ ⟨b0, b1, b2, b3, b4, b5, b6, b7, b8, b9, true, true, b12, b13, b14, b15, b16, b17, V0, V4, V6, V7, rfl, rfl, hs7, h40, h74, hca⟩
    | 12, _ =>
      have hb : b12 = false := by simpa using hl
      clear ha hl
      subst hb
      refine wpOpIn_step rfl fun K' hK => ?_
      go_simp
      exact hK _ _ ⟨b0, b1, b2, b3, b4, b5, b6, b7, b8, b9, b10, b11, true, b13, b14, b15, b16, b17, V0, V4, V6, V7, rfl, rfl, hs7, h40, h74, hca⟩
    | 13, _ =>
      have hb : b13 = false := by simpa using hl
      have hd := ha _ rfl
      have d11 : b11 = true := by cases b11 with | true => rfl | false => simp [Region.binds] at hd
      have d12 : b12 = true := by cases b12 with | true => rfl | false => simp [Region.binds] at hd
      clear hd
      clear ha hl
      subst hb d11 d12
      refine wpOpIn_step rfl fun K' hK => ?_
      go_simp
      exact hK _ _ ⟨b0, b1, b2, b3, b4, b5, b6, b7, b8, b9, b10, true, true, true, b14, b15, b16, b17, V0, V4, V6, V7, rfl, rfl, hs7, h40, h74, hca⟩
    | 14, _ =>
      have hb : b14 = false := by simpa using hl
      have hd := ha _ rfl
      have d13 : b13 = true := by cases b13 with | true => rfl | false => simp [Region.binds] at hd
      clear hd
      clear ha hl
      subst hb d13
      refine wpOpIn_step rfl fun K' hK => ?_
      go_simp
      exact hK _ _ ⟨b0, b1, b2, b3, b4, b5, b6, b7, b8, b9, b10, b11, b12, true, true, b15, b16, b17, V0, V4, V6, V7, rfl, rfl, hs7, h40, h74, hca⟩
    | 15, _ =>
      have hb : b15 = false := by simpa using hl
      have hd := ha _ rfl
      have d14 : b14 = true := by cases b14 with | true => rfl | false => simp [Region.binds] at hd
      clear hd
      clear ha hl
      subst hb d14
      obtain rfl : b16 = false := by cases b16 with | false => rfl | true => exact absurd (h74 rfl) (by simp)
      refine wpOpIn_step rfl fun K' hK => ?_
      go_simp
      exact hK _ _ ⟨b0, b1, b2, b3, b4, b5, b6, b7, b8, b9, b10, b11, b12, b13, true, true, false, b17, V0, V4, _, V7, rfl, rfl, fun h => absurd (hs7 h) (by simp), h40, fun h => (by cases h), hca.s6⟩
    | 16, _ =>
      have hb : b16 = false := by simpa using hl
      have hd := ha _ rfl
      have d5 : b5 = true := by cases b5 with | true => rfl | false => simp [Region.binds] at hd
      have d15 : b15 = true := by cases b15 with | true => rfl | false => simp [Region.binds] at hd
      clear hd
      clear ha hl
      subst hb d5 d15
      obtain rfl : b17 = false := by cases b17 with | false => rfl | true => exact absurd (hs7 rfl) (by simp)
      obtain rfl : b0 = true := h40 rfl
      obtain ⟨i0, hi0, hj0, hj1, hj2⟩ := info_parts infoRMark
      obtain ⟨v, w', hrun, hc'⟩ := hca.r7 (P := Tryz.prog) 23 23 i0 _ 24 Tryz.underlying23 hi0 hj0 hj1 hj2 rfl (by decide) (rfl) (by simp [Value.oneCell']) (by unfold maxLen; omega) (by omega)
      refine wpOpIn_app rfl rfl (.tmp 30) (.tmp 40) 23 rfl rfl rfl hrun ?_
      exact ⟨true, b1, b2, b3, b4, true, b6, b7, b8, b9, b10, b11, b12, b13, b14, true, true, false, V0, V4, V6, v, rfl, rfl, fun _ => rfl, fun _ => rfl, fun _ => rfl, hc'⟩
    | 17, _ =>
      have hb : b17 = false := by simpa using hl
      have hd := ha _ rfl
      have d16 : b16 = true := by cases b16 with | true => rfl | false => simp [Region.binds] at hd
      clear hd
      clear ha hl
      subst hb d16
      refine wpOpIn_step rfl fun K' hK => ?_
      go_simp
      exact hK _ _ ⟨b0, b1, b2, b3, b4, b5, b6, b7, b8, b9, b10, b11, b12, b13, b14, b15, true, true, V0, V4, V6, V7, rfl, rfl, fun _ => rfl, h40, h74, hca⟩
    | k + 18, hlt => exact absurd hlt (by show ¬ k + 18 < 18; omega)
  · rintro listed a wq ⟨b0, b1, b2, b3, b4, b5, b6, b7, b8, b9, b10, b11, b12, b13, b14, b15, b16, b17, V0, V4, V6, V7, rfl, rfl, hs7, h40, h74, hca⟩ hall
    have hh0 : b0 = true := by simpa using hall 0 (by decide)
    have hh1 : b1 = true := by simpa using hall 1 (by decide)
    have hh2 : b2 = true := by simpa using hall 2 (by decide)
    have hh3 : b3 = true := by simpa using hall 3 (by decide)
    have hh4 : b4 = true := by simpa using hall 4 (by decide)
    have hh5 : b5 = true := by simpa using hall 5 (by decide)
    have hh6 : b6 = true := by simpa using hall 6 (by decide)
    have hh7 : b7 = true := by simpa using hall 7 (by decide)
    have hh8 : b8 = true := by simpa using hall 8 (by decide)
    have hh9 : b9 = true := by simpa using hall 9 (by decide)
    have hh10 : b10 = true := by simpa using hall 10 (by decide)
    have hh11 : b11 = true := by simpa using hall 11 (by decide)
    have hh12 : b12 = true := by simpa using hall 12 (by decide)
    have hh13 : b13 = true := by simpa using hall 13 (by decide)
    have hh14 : b14 = true := by simpa using hall 14 (by decide)
    have hh15 : b15 = true := by simpa using hall 15 (by decide)
    have hh16 : b16 = true := by simpa using hall 16 (by decide)
    have hh17 : b17 = true := by simpa using hall 17 (by decide)
    clear hall
    subst hh0 hh1 hh2 hh3 hh4 hh5 hh6 hh7 hh8 hh9 hh10 hh11 hh12 hh13 hh14 hh15 hh16 hh17
    clear h40 h74
    exact hQ _ V7 hca
set_option maxRecDepth 100000 in
set_option maxHeartbeats 4000000 in
theorem ref_add (w : World) (v : Value) (l : List MarkD) (k : Int) (t : List UInt8) (hv : Rds w 2 v l.length (markC l)) (hl : l.length ≤ 1000000) (ht : t.length ≤ 1000000) (hm : ∀ m ∈ l, m.2.length ≤ 1000000) :
    Calls Tryz.prog 16 #[v, .int .i64 k, .string ⟨t.toArray⟩] w (AddPost w (addM l k t)) := by
  obtain ⟨A, c, rfl⟩ : ∃ a c, v = .slice a l.length c := by obtain ⟨a, c, h, _⟩ := hv; exact ⟨a, c, h⟩
  obtain ⟨i9, ki, kj0, kj1, kj2⟩ := info_parts infoRMark
  have HONE := Lib.hid (markC_one l)
  have HV := Lib.hid hv
  have fin : ∀ (W : World) (v6 : Value) (n : Nat), n = l.length → W.ownsRow w.heap.size 26 2 v6 (0 + n + 1) ([] ++ markC l ++ [.int .i64 k, .string ⟨t.toArray⟩]) → Rds W 2 v6 (l ++ [(k, t)]).length (markC (l ++ [(k, t)])) := fun W v6 n hn h => by
    subst hn
    rw [markC_snoc, List.length_append]
    have h2 := Rds.of_own h
    simpa using h2
  by_cases hcase : k = 1 ∧ (lastM (0, []) l).1 = 1
  · obtain ⟨rfl, hk1⟩ := hcase
    cases hlast : l.getLast? with
    | none =>
      rw [(by simpa using hlast : l = [])] at hk1
      simp [lastM] at hk1
    | some m =>
      obtain ⟨l0, rfl⟩ := List.getLast?_eq_some_iff.1 hlast
      rw [lastM_snoc] at hk1
      obtain ⟨m1, u⟩ := m
      dsimp only at hk1
      subst hk1
      have HADD : Hid (addM (l0 ++ [(1, u)]) 1 t = l0 ++ [(1, u ++ t)]) := Lib.hid addM_plain
      have hul : u.length ≤ 1000000 := hm (1, u) (by simp)
      obtain ⟨n, hn⟩ : ∃ n, l0.length = n := ⟨_, rfl⟩
      have hln : (l0 ++ [((1 : Int), u)]).length = n + 1 := by simp [hn]
      rw [hln] at hl HV ⊢
      obtain ⟨b, o, rfl, hcn, hmn, hfr, c0, c1⟩ := rds_front HV.out hn
      dsimp only at c0 c1
      have HF := Lib.hid hfr
      have hlb := block_lt_of_cell c0
      have hcat := catM (a := u) (b := t) rfl (by omega)
      have H0 : Hid (∀ W : World, w.heap.size ≤ W.heap.size → (W.alloc (.cells #[] 26)).ownsRow w.heap.size 26 2 (.slice (some ⟨W.heap.size, 0, none⟩) 0 0) 0 []) := Lib.hid fun W hW => by
        have h1 := World.ownsRow_made (base := w.heap.size) (e := 26) (size := 2) W #[] 0 hW (by decide) (by simp)
        simpa using h1
      have HN := Lib.hid hn
      have HON := Lib.hid (markC_one l0)
      have FIN2 : Hid (∀ (W : World) (v6 : Value), W.ownsRow w.heap.size 26 2 v6 (0 + n + 1) ([] ++ markC l0 ++ [.int .i64 1, .string ⟨(u ++ t).toArray⟩]) → Rds W 2 v6 (l0 ++ [((1 : Int), u ++ t)]).length (markC (l0 ++ [(1, u ++ t)]))) := Lib.hid fun W v6 h => by
        rw [markC_snoc, List.length_append, hn]
        have h2 := Rds.of_own h
        simpa using h2
      have B0 : Hid (Below w.heap.size w w.drew) := Lib.hid (Below.refl _ _).drew
      clear hv hm hln hmn hfr hlast fin HONE
      go_enter Tryz.func16, Tryz.ntmps16
      go_wp2_with fail
      refine add_app c1 HF.out hcn hl hcat ?_
      intro w1 V7 V0 V4 V6 _ _ _ _ _ _ _ _ _ _ _ _ _ _ _ _ _ hca
      go_wp2
      go_ret
      rw [HADD.out]
      exact ⟨_, rfl, FIN2.out _ _ (by simpa using hca.f7 rfl), hca.below⟩
  · have HADD : Hid (addM l k t = l ++ [(k, t)]) := Lib.hid (addM_other hcase)
    have FIN := Lib.hid fin
    obtain ⟨n, hn⟩ : ∃ n, l.length = n := ⟨_, rfl⟩
    have HN := Lib.hid hn.symm
    have H0 : Hid (∀ W : World, w.heap.size ≤ W.heap.size → (W.alloc (.cells #[] 26)).ownsRow w.heap.size 26 2 (.slice (some ⟨W.heap.size, 0, none⟩) 0 0) 0 []) := Lib.hid fun W hW => by
      have h1 := World.ownsRow_made (base := w.heap.size) (e := 26) (size := 2) W #[] 0 hW (by decide) (by simp)
      simpa using h1
    have hfacts : ((k == 1) = false) ∨ ((k == 1) = true ∧ n = 0) ∨ ((k == 1) = true ∧ ∃ (j : Nat) (l0 : List MarkD) (m : MarkD), l = l0 ++ [m] ∧ l0.length = j ∧ n = j + 1 ∧ (m.1 == 1) = false) := by
      by_cases hk : k = 1
      · cases hlast : l.getLast? with
        | none => exact .inr (.inl ⟨by simpa using hk, by rw [← hn, (by simpa using hlast : l = [])]; rfl⟩)
        | some m =>
          obtain ⟨l0, rfl⟩ := List.getLast?_eq_some_iff.1 hlast
          refine .inr (.inr ⟨by simpa using hk, l0.length, l0, m, rfl, rfl, by rw [← hn]; simp, ?_⟩)
          rw [lastM_snoc] at hcase
          simpa using fun e => hcase ⟨hk, e⟩
      · exact .inl (by simpa using hk)
    rw [hn] at hl HV ⊢
    clear hm hv hcase fin
    rcases hfacts with e1 | ⟨e1, rfl⟩ | ⟨e1, j, l0, ⟨m1, m2⟩, hl0, hj, rfl, e3⟩
    rotate_left 2
    · have hf := HV.out
      rw [hl0] at hf
      obtain ⟨b, o, rfl, hcn, hmn, -, c0, -⟩ := rds_front hf hj
      dsimp only at c0 e3
      have hlb := block_lt_of_cell c0
      clear hf hl0 hj hn
      go_enter Tryz.func16, Tryz.ntmps16
      go_wp2_with (first
        | (at_builtin; (refine wpList_append_rds rfl (.tmp 42) (.tmp 43) 23 rfl w.heap.size 26 i9 (.agg #[.int .i64 0, .string ⟨#[]⟩]) 2 24 Tryz.underlying23 ki kj0 kj1 kj2 rfl (by decide) _ 0 [] rfl (H0.out _ (Nat.le_refl _)) _ _ (markC l) rfl (HV.out.alloc _) HONE.out (by unfold maxLen; omega) (by omega) (by simp) ?_; intro v6 w6 ho6 hg6; have HO6 := Lib.hid ho6; have HB6 : Hid (Below w.heap.size w w6) := Lib.hid ((new_ (Below.refl _ _) _).grown hg6 (by simp) (fun g hg => ((H0.out w (Nat.le_refl _)).lt g hg).1)); have hz6 := HB6.out.size; clear ho6 hg6))
        | (at_builtin; (refine wpList_append_own _ rfl (.tmp 44) (.tmp 48) 23 rfl w.heap.size 26 i9 (.agg #[.int .i64 0, .string ⟨#[]⟩]) 2 24 Tryz.underlying23 ki kj0 kj1 kj2 rfl (by decide) _ _ ([] ++ markC l) rfl (own_below HO6.out (new_ (Below.refl _ _) _)) ⟨w6.heap.size, 0, none⟩ 1 1 [.int .i64 k, .string ⟨t.toArray⟩] rfl rfl (cells_at _ _ _ _ rfl) (by simp [Value.oneCell']) (by unfold maxLen; omega) (by omega) (by simp; omega) ?_; intro v7 w7 ho7 hg7 _)))
      go_ret
      rw [HADD.out]
      exact ⟨_, rfl, FIN.out _ _ _ HN.out ho7, (HB6.out.alloc hz6 _).grown hg7 (by simp; omega) (fun g hg => (HO6.out.lt g hg).1)⟩
    all_goals
      clear hn
      go_enter Tryz.func16, Tryz.ntmps16
      go_wp2_with (first
        | (at_builtin; (refine wpList_append_rds rfl (.tmp 42) (.tmp 43) 23 rfl w.heap.size 26 i9 (.agg #[.int .i64 0, .string ⟨#[]⟩]) 2 24 Tryz.underlying23 ki kj0 kj1 kj2 rfl (by decide) _ 0 [] rfl (H0.out _ (Nat.le_refl _)) _ _ (markC l) rfl (HV.out.alloc _) HONE.out (by unfold maxLen; omega) (by omega) (by simp) ?_; intro v6 w6 ho6 hg6; have HO6 := Lib.hid ho6; have HB6 : Hid (Below w.heap.size w w6) := Lib.hid ((new_ (Below.refl _ _) _).grown hg6 (by simp) (fun g hg => ((H0.out w (Nat.le_refl _)).lt g hg).1)); have hz6 := HB6.out.size; clear ho6 hg6))
        | (at_builtin; (refine wpList_append_own _ rfl (.tmp 44) (.tmp 48) 23 rfl w.heap.size 26 i9 (.agg #[.int .i64 0, .string ⟨#[]⟩]) 2 24 Tryz.underlying23 ki kj0 kj1 kj2 rfl (by decide) _ _ ([] ++ markC l) rfl (own_below HO6.out (new_ (Below.refl _ _) _)) ⟨w6.heap.size, 0, none⟩ 1 1 [.int .i64 k, .string ⟨t.toArray⟩] rfl rfl (cells_at _ _ _ _ rfl) (by simp [Value.oneCell']) (by unfold maxLen; omega) (by omega) (by simp; omega) ?_; intro v7 w7 ho7 hg7 _)))
      go_ret
      rw [HADD.out]
      exact ⟨_, rfl, FIN.out _ _ _ HN.out ho7, (HB6.out.alloc hz6 _).grown hg7 (by simp; omega) (fun g hg => (HO6.out.lt g hg).1)⟩
end Go.Proofs.YthkeggmloajapaaGreat
