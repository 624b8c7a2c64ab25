/- The reference of Read: the comments in front of a word. (Printed by gen_reftake2.py.) -/
import Derived.Test.YtignhjfobcnloaaRefA
import Derived.Test.YtignhjfobcnloaaSrcTaker
import Derived.Deep.RegionHeld3
import Derived.Laws.Rows
import Derived.Laws.ResultCell
import Derived.Deep.DrawnRows
namespace Go.Proofs.Ytignhjfobcnloaa
open Go.RowKit
theorem mem_due {n : Nat} {c : ComD} : ∀ {R : List ComD}, c ∈ dueC n R → c.2.2 ≤ n
  | [], h => by simp [dueC] at h
  | a :: R, h => by
    unfold dueC at h
    by_cases ha : a.2.2 ≤ n
    · rw [List.takeWhile_cons_of_pos (by simpa using ha)] at h
      rcases List.mem_cons.1 h with rfl | h
      · exact ha
      · exact mem_due (R := R) h
    · rw [List.takeWhile_cons_of_neg (by simpa using ha)] at h
      cases h
theorem due_at {n : Nat} : ∀ {R : List ComD} {j : Nat}, j < (dueC n R).length → ∃ c, R[j]? = some c ∧ c.2.2 ≤ n ∧ (dueC n R).take (j + 1) = (dueC n R).take j ++ [c] := by
  intro R j hj
  have hp : dueC n R <+: R := List.takeWhile_prefix _
  have h1 : (dueC n R)[j]? = some (dueC n R)[j] := List.getElem?_eq_getElem hj
  refine ⟨(dueC n R)[j], ?_, ?_, by rw [List.take_succ_eq_append_getElem hj]⟩
  · obtain ⟨r, hr⟩ := hp
    conv => lhs; rw [← hr]
    rw [List.getElem?_append_left hj]
    exact h1
  · exact mem_due (List.getElem_mem hj)
theorem due_stop (n : Nat) : ∀ (R : List ComD), R[(dueC n R).length]? = none ∨ ∃ c, R[(dueC n R).length]? = some c ∧ n < c.2.2
  | [] => .inl rfl
  | c :: R => by
    by_cases h : c.2.2 ≤ n
    · have e : dueC n (c :: R) = c :: dueC n R := by unfold dueC; rw [List.takeWhile_cons_of_pos (by simpa using h)]
      rw [e, List.length_cons, List.getElem?_cons_succ]
      exact due_stop n R
    · have e : dueC n (c :: R) = [] := by unfold dueC; rw [List.takeWhile_cons_of_neg (by simpa using h)]
      rw [e]
      exact .inr ⟨c, rfl, by omega⟩
theorem results_row_tmp {P : Program} {fn : Func} {p u : Tmp} {ty : TypeId} (h : fn.results = #[.cell p ty, .tmp u]) (tmps : Array Value) (w : World) (g : Nat) (t : TypeId) (cs : Array Value) (d : TypeDesc)
    (hp : tmps.getD p undef = .pointer (some ⟨g, 0, none⟩)) (hg : Row w g t cs) (hu : P.underlying ty = some d) (hd : (match d with | .struct _ | .array _ _ => true | _ => false) = true) (hi : (P.info? ty).map (·.size) = some cs.size) :
    (results fn tmps).run P w = .ok (.tuple #[.agg cs, tmps.getD u undef]) w := by
  rw [results_cell_tmp h, hp]
  simp [asAddr, Result.andThen, run_loadVar_row w g t ty cs (0, 0) d hg hu hd hi]
theorem comf_snocR (l : List ComF) (c : ComF) : (l ++ [c]).flatMap comfCells = l.flatMap comfCells ++ comfCells c := by simp
theorem comf_one {l : List ComF} : ∀ u ∈ l.flatMap comfCells, u.oneCell' = true := by
  intro u hu
  obtain ⟨c, _, hc⟩ := List.mem_flatMap.1 hu
  simp [comfCells] at hc
  rcases hc with rfl | rfl | rfl | rfl <;> rfl
set_option maxRecDepth 100000 in
set_option maxHeartbeats 4000000 in
/-- a comment appended -/
theorem before_app {W2 : World} {XB GB c : Nat} {A : Option Addr} {l : List ComF} {q : ComF} {rw_ : Array Value} {x0 x6 x7 x8 x9 x13 x14 x15 x16 x17 x18 x19 x20 x21 x22 x23 x24 x25 x26 x27 x28 x29 x30 x31 x32 x33 x34 x35 x36 x37 x38 x39 x40 x41 x42 x43 x44 x45 x46 x47 x48 x49 x50 x51 x52 x53 x54 x55 x56 x57 s1 s2 s3 s4 s10 s11 : Value} {Q : Exit → Act → World → Prop} (hr : Row W2 XB 143 rw_) (h2 : rw_[2]? = some (.slice A l.length c)) (hg : Row W2 GB 148 #[.string ⟨q.1.toArray⟩, .int .i64 q.2.1, .int .i64 q.2.2.1, .int .i64 q.2.2.2])
    (hcf : ComfAt W2 (.slice A l.length c) l) (hyl : l.length ≤ 2000000)
    (hQ : ∀ (w1 : World) (V7 : Value) {V0 V4 V6 x44 x45 x46 x47 x48 x49 x50 x51 x52 x53 : Value}, CA W2 148 4 l.length (l.flatMap comfCells) (comfCells q) true true true true V0 V4 V6 V7 w1 → Q .normal { tmps := #[x0, s1, s2, s3, s4, .pointer (some ⟨XB, 0, none⟩), x6, x7, x8, x9, s10, s11, .pointer (some ⟨GB, 0, none⟩), x13, x14, x15, x16, x17, x18, x19, x20, x21, x22, x23, x24, x25, x26, x27, x28, x29, x30, x31, x32, x33, x34, x35, x36, x37, x38, x39, x40, x41, x42, x43, x44, x45, x46, x47, x48, x49, x50, x51, x52, x53, x54, x55, x56, x57], defers := [] } (w1.setCell ⟨XB, 2, none⟩ V7)) :
    (regC 3 (Try.f97.body.getD .skip)).wp Try.prog Q { tmps := #[x0, s1, s2, s3, s4, .pointer (some ⟨XB, 0, none⟩), x6, x7, x8, x9, s10, s11, .pointer (some ⟨GB, 0, none⟩), x13, x14, x15, x16, x17, x18, x19, x20, x21, x22, x23, x24, x25, x26, x27, x28, x29, x30, x31, x32, x33, x34, x35, x36, x37, x38, x39, x40, x41, x42, x43, x44, x45, x46, x47, x48, x49, x50, x51, x52, x53, x54, x55, x56, x57], defers := [] } W2 := by
  have hl2 := hr.lt
  have hl4 := hg.lt
  simp only [Try.f97, Option.getD_some, regC]
  refine (wpIn_wide (n := 0)).1 (wpIn_region_any (by kernel_rfl) ?_)
  refine wpAnyIn_inv (Inv := fun listed a wq => ∃ (b0 b1 b2 b3 b4 b5 b6 b7 b8 b9 b10 : Bool) (V0 : Value) (V4 : Value) (V6 : Value) (V7 : Value), listed = #[b0, b1, b2, b3, b4, b5, b6, b7, b8, b9, b10] ∧ a = { tmps := #[x0, s1, s2, s3, s4, .pointer (some ⟨XB, 0, none⟩), x6, x7, x8, x9, s10, s11, .pointer (some ⟨GB, 0, none⟩), x13, x14, x15, x16, x17, x18, x19, x20, x21, x22, x23, x24, x25, x26, x27, x28, x29, x30, x31, x32, x33, x34, x35, x36, x37, x38, x39, x40, x41, x42, x43, (bif b0 then V0 else x44), (bif b1 then .pointer (some ⟨XB, 0, none⟩) else x45), (bif b2 then .pointer (some ⟨XB, 2, none⟩) else x46), (bif b3 then .slice A l.length c else x47), (bif b4 then V4 else x48), (bif b5 then .agg #[.string ⟨q.1.toArray⟩, .int .i64 q.2.1, .int .i64 q.2.2.1, .int .i64 q.2.2.2] else x49), (bif b6 then V6 else x50), (bif b7 then V7 else x51), (bif b8 then .pointer (some ⟨XB, 0, none⟩) else x52), (bif b9 then .pointer (some ⟨XB, 2, none⟩) else x53), x54, x55, x56, x57], defers := [] } ∧ (b10 = true → (b0 && b1 && b2 && b3 && b4 && b5 && b6 && b7 && b8 && b9) = true) ∧ (b4 = true → b0 = true) ∧ (b7 = true → (b4 && b6) = true) ∧ (b10 = false → CA W2 148 4 (l.length) (l.flatMap comfCells) (comfCells q) b0 b4 b6 b7 V0 V4 V6 V7 wq) ∧ (b10 = true → ∃ w1, CA W2 148 4 (l.length) (l.flatMap comfCells) (comfCells q) true true true true V0 V4 V6 V7 w1 ∧ wq = w1.setCell ⟨XB, 2, none⟩ V7) ∧ (b9 = true → b8 = true)) (by kernel_rfl) ?_ ?_ ?_ _ _ _ _ ?_ ?_
  rotate_left 2
  rotate_left 1
  · exact ⟨false, false, false, false, false, false, false, false, false, false, false, .nilIface, .nilIface, .nilIface, .nilIface, rfl, rfl, fun h => (by cases h), fun h => (by cases h), fun h => (by cases h), fun _ => CA.start, fun h => (by cases h), fun h => (by cases h)⟩
  · simp
  · rintro listed a wq ⟨b0, b1, b2, b3, b4, b5, b6, b7, b8, b9, b10, V0, V4, V6, V7, rfl, _⟩
    rfl
  · rintro i listed a wq hi ⟨b0, b1, b2, b3, b4, b5, b6, b7, b8, b9, b10, V0, V4, V6, V7, rfl, rfl, hall', h40, h74, hca, hfin, c9_8⟩ hl ha
    match i, hi with
    | 0, _ =>
      have hb : b0 = false := by simpa using hl
      clear ha hl
      subst hb
      obtain rfl : b10 = false := by cases b10 with | false => rfl | true => exact absurd (hall' rfl) (by simp)
      have hc := hca rfl
      obtain rfl : b4 = false := by cases b4 with | false => rfl | true => exact absurd (h40 rfl) (by simp)
      obtain rfl : b7 = false := by cases b7 with | false => rfl | true => exact absurd (h74 rfl) (by simp)
      refine wpOpIn_step rfl fun K' hK => ?_
      go_simp
      exact hK _ _ ⟨true, b1, b2, b3, false, b5, b6, false, b8, b9, false, _, V4, V6, V7, rfl, rfl, fun h => (by cases h), fun _ => rfl, fun h => (by cases h), fun _ => hc.s0, fun h => (by cases h), c9_8⟩
    | 1, _ =>
      have hb : b1 = false := by simpa using hl
      clear ha hl
      subst hb
      obtain rfl : b10 = false := by cases b10 with | false => rfl | true => exact absurd (hall' rfl) (by simp)
      have hc := hca rfl
      refine wpOpIn_step rfl fun K' hK => ?_
      go_simp
      exact hK _ _ ⟨b0, true, b2, b3, b4, b5, b6, b7, b8, b9, false, V0, V4, V6, V7, rfl, rfl, fun h => (by cases h), h40, h74, fun _ => hc, fun h => (by cases h), c9_8⟩
    | 2, _ =>
      have hb : b2 = false := by simpa using hl
      have hd := ha _ rfl
      have d1 : b1 = true := by cases b1 with | true => rfl | false => simp [Region.binds] at hd
      clear hd
      clear ha hl
      subst hb d1
      obtain rfl : b10 = false := by cases b10 with | false => rfl | true => exact absurd (hall' rfl) (by simp)
      have hc := hca rfl
      refine wpOpIn_step rfl fun K' hK => ?_
      go_simp
      exact hK _ _ ⟨b0, true, true, b3, b4, b5, b6, b7, b8, b9, false, V0, V4, V6, V7, rfl, rfl, fun h => (by cases h), h40, h74, fun _ => hc, fun h => (by cases h), c9_8⟩
    | 3, _ =>
      have hb : b3 = false := by simpa using hl
      have hd := ha _ rfl
      have d2 : b2 = true := by cases b2 with | true => rfl | false => simp [Region.binds] at hd
      clear hd
      clear ha hl
      subst hb d2
      obtain rfl : b10 = false := by cases b10 with | false => rfl | true => exact absurd (hall' rfl) (by simp)
      have hc := hca rfl
      have t2 := (hr.below hc.below hl2).cell (i := 2) h2
      refine wpOpIn_step rfl fun K' hK => ?_
      go_simp
      exact hK _ _ ⟨b0, b1, true, true, b4, b5, b6, b7, b8, b9, false, V0, V4, V6, V7, rfl, rfl, fun h => (by cases h), h40, h74, fun _ => hc, fun h => (by cases h), c9_8⟩
    | 4, _ =>
      have hb : b4 = false := by simpa using hl
      have hd := ha _ rfl
      have d0 : b0 = true := by cases b0 with | true => rfl | false => simp [Region.binds] at hd
      have d3 : b3 = true := by cases b3 with | true => rfl | false => simp [Region.binds] at hd
      clear hd
      clear ha hl
      subst hb d0 d3
      obtain rfl : b10 = false := by cases b10 with | false => rfl | true => exact absurd (hall' rfl) (by simp)
      have hc := hca rfl
      obtain rfl : b7 = false := by cases b7 with | false => rfl | true => exact absurd (h74 rfl) (by simp)
      obtain ⟨i0, hi0, hj0, hj1, hj2⟩ := info_parts infoRCom
      obtain ⟨v, w', hrun, hc'⟩ := hc.r4 (P := Try.prog) 63 63 i0 _ 40 Try.underlying63 hi0 hj0 hj1 hj2 rfl (by decide) (hcf) (comf_one) (by omega)
      refine wpOpIn_app rfl rfl (.tmp 44) (.tmp 47) 63 rfl rfl rfl hrun ?_
      exact ⟨true, b1, b2, true, true, b5, b6, false, b8, b9, false, V0, v, V6, V7, rfl, rfl, fun h => (by cases h), fun _ => rfl, fun h => (by cases h), fun _ => hc', fun h => (by cases h), c9_8⟩
    | 5, _ =>
      have hb : b5 = false := by simpa using hl
      clear ha hl
      subst hb
      obtain rfl : b10 = false := by cases b10 with | false => rfl | true => exact absurd (hall' rfl) (by simp)
      have hc := hca rfl
      have t0 := (hg.below hc.below hl4).cell (i := 0) (v := .string ⟨q.1.toArray⟩) rfl; have t1 := (hg.below hc.below hl4).cell (i := 1) (v := .int .i64 q.2.1) rfl; have t2 := (hg.below hc.below hl4).cell (i := 2) (v := .int .i64 q.2.2.1) rfl; have t3 := (hg.below hc.below hl4).cell (i := 3) (v := .int .i64 q.2.2.2) rfl
      refine wpOpIn_step rfl fun K' hK => ?_
      go_simp
      exact hK _ _ ⟨b0, b1, b2, b3, b4, true, b6, b7, b8, b9, false, V0, V4, V6, V7, rfl, rfl, fun h => (by cases h), h40, h74, fun _ => hc, fun h => (by cases h), c9_8⟩
    | 6, _ =>
      have hb : b6 = false := by simpa using hl
      have hd := ha _ rfl
      have d5 : b5 = true := by cases b5 with | true => rfl | false => simp [Region.binds] at hd
      clear hd
      clear ha hl
      subst hb d5
      obtain rfl : b10 = false := by cases b10 with | false => rfl | true => exact absurd (hall' rfl) (by simp)
      have hc := hca rfl
      obtain rfl : b7 = false := by cases b7 with | false => rfl | true => exact absurd (h74 rfl) (by simp)
      refine wpOpIn_step rfl fun K' hK => ?_
      go_simp
      exact hK _ _ ⟨b0, b1, b2, b3, b4, true, true, false, b8, b9, false, V0, V4, _, V7, rfl, rfl, fun h => (by cases h), h40, fun h => (by cases h), fun _ => hc.s6, fun h => (by cases h), c9_8⟩
    | 7, _ =>
      have hb : b7 = false := by simpa using hl
      have hd := ha _ rfl
      have d4 : b4 = true := by cases b4 with | true => rfl | false => simp [Region.binds] at hd
      have d6 : b6 = true := by cases b6 with | true => rfl | false => simp [Region.binds] at hd
      clear hd
      clear ha hl
      subst hb d4 d6
      obtain rfl : b10 = false := by cases b10 with | false => rfl | true => exact absurd (hall' rfl) (by simp)
      have hc := hca rfl
      obtain rfl : b0 = true := h40 rfl
      obtain ⟨i0, hi0, hj0, hj1, hj2⟩ := info_parts infoRCom
      obtain ⟨v, w', hrun, hc'⟩ := hc.r7 (P := Try.prog) 63 63 i0 _ 40 Try.underlying63 hi0 hj0 hj1 hj2 rfl (by decide) (rfl) (by simp [comfCells, Value.oneCell']) (by unfold maxLen; omega) (by omega)
      refine wpOpIn_app rfl rfl (.tmp 48) (.tmp 50) 63 rfl rfl rfl hrun ?_
      exact ⟨true, b1, b2, b3, true, b5, true, true, b8, b9, false, V0, V4, V6, v, rfl, rfl, fun h => (by cases h), fun _ => rfl, fun _ => rfl, fun _ => hc', fun h => (by cases h), c9_8⟩
    | 8, _ =>
      have hb : b8 = false := by simpa using hl
      have hd := ha _ rfl
      have d0 : b0 = true := by cases b0 with | true => rfl | false => simp [Region.binds] at hd
      have d1 : b1 = true := by cases b1 with | true => rfl | false => simp [Region.binds] at hd
      have d2 : b2 = true := by cases b2 with | true => rfl | false => simp [Region.binds] at hd
      have d3 : b3 = true := by cases b3 with | true => rfl | false => simp [Region.binds] at hd
      have d4 : b4 = true := by cases b4 with | true => rfl | false => simp [Region.binds] at hd
      have d5 : b5 = true := by cases b5 with | true => rfl | false => simp [Region.binds] at hd
      have d6 : b6 = true := by cases b6 with | true => rfl | false => simp [Region.binds] at hd
      have d7 : b7 = true := by cases b7 with | true => rfl | false => simp [Region.binds] at hd
      clear hd
      clear ha hl
      subst hb d0 d1 d2 d3 d4 d5 d6 d7
      obtain rfl : b10 = false := by cases b10 with | false => rfl | true => exact absurd (hall' rfl) (by simp)
      have hc := hca rfl
      refine wpOpIn_step rfl fun K' hK => ?_
      go_simp
      exact hK _ _ ⟨true, true, true, true, true, true, true, true, true, b9, false, V0, V4, V6, V7, rfl, rfl, fun h => (by cases h), h40, h74, fun _ => hc, fun h => (by cases h), fun _ => rfl⟩
    | 9, _ =>
      have hb : b9 = false := by simpa using hl
      have hd := ha _ rfl
      have d0 : b0 = true := by cases b0 with | true => rfl | false => simp [Region.binds] at hd
      have d1 : b1 = true := by cases b1 with | true => rfl | false => simp [Region.binds] at hd
      have d2 : b2 = true := by cases b2 with | true => rfl | false => simp [Region.binds] at hd
      have d3 : b3 = true := by cases b3 with | true => rfl | false => simp [Region.binds] at hd
      have d4 : b4 = true := by cases b4 with | true => rfl | false => simp [Region.binds] at hd
      have d5 : b5 = true := by cases b5 with | true => rfl | false => simp [Region.binds] at hd
      have d6 : b6 = true := by cases b6 with | true => rfl | false => simp [Region.binds] at hd
      have d7 : b7 = true := by cases b7 with | true => rfl | false => simp [Region.binds] at hd
      have d8 : b8 = true := by cases b8 with | true => rfl | false => simp [Region.binds] at hd
      clear hd
      clear ha hl
      subst hb d0 d1 d2 d3 d4 d5 d6 d7 d8
      obtain rfl : b10 = false := by cases b10 with | false => rfl | true => exact absurd (hall' rfl) (by simp)
      have hc := hca rfl
      refine wpOpIn_step rfl fun K' hK => ?_
      go_simp
      exact hK _ _ ⟨true, true, true, true, true, true, true, true, true, true, false, V0, V4, V6, V7, rfl, rfl, fun h => (by cases h), h40, h74, fun _ => hc, fun h => (by cases h), fun _ => rfl⟩
    | 10, _ =>
      have hb : b10 = false := by simpa using hl
      have hd := ha _ rfl
      have d0 : b0 = true := by cases b0 with | true => rfl | false => simp [Region.binds] at hd
      have d1 : b1 = true := by cases b1 with | true => rfl | false => simp [Region.binds] at hd
      have d2 : b2 = true := by cases b2 with | true => rfl | false => simp [Region.binds] at hd
      have d3 : b3 = true := by cases b3 with | true => rfl | false => simp [Region.binds] at hd
      have d4 : b4 = true := by cases b4 with | true => rfl | false => simp [Region.binds] at hd
      have d5 : b5 = true := by cases b5 with | true => rfl | false => simp [Region.binds] at hd
      have d6 : b6 = true := by cases b6 with | true => rfl | false => simp [Region.binds] at hd
      have d7 : b7 = true := by cases b7 with | true => rfl | false => simp [Region.binds] at hd
      have d9 : b9 = true := by cases b9 with | true => rfl | false => simp [Region.binds] at hd
      clear hd
      clear ha hl
      subst hb d0 d1 d2 d3 d4 d5 d6 d7 d9
      obtain rfl : b8 = true := c9_8 rfl
      obtain ⟨A', c', rfl, hc'⟩ := own_form ((hca rfl).f7 rfl)
      have hc := hca rfl
      have t2 := (hr.below hc.below hl2).cell (i := 2) h2; have t3 := (hr.below hc.below hl2).free 2
      refine wpOpIn_step rfl fun K' hK => ?_
      go_simp
      exact hK _ _ ⟨true, true, true, true, true, true, true, true, true, true, true, V0, V4, V6, _, rfl, rfl, fun _ => rfl, fun _ => rfl, fun _ => rfl, fun h => (by cases h), fun _ => ⟨_, hc, rfl⟩, fun _ => rfl⟩
    | k + 11, hlt => exact absurd hlt (by show ¬ k + 11 < 11; omega)
  · rintro listed a wq ⟨b0, b1, b2, b3, b4, b5, b6, b7, b8, b9, b10, V0, V4, V6, V7, rfl, rfl, hall', h40, h74, hca, hfin, c9_8⟩ hall
    have hh0 : b0 = true := by simpa using hall 0 (by decide)
    have hh1 : b1 = true := by simpa using hall 1 (by decide)
    have hh2 : b2 = true := by simpa using hall 2 (by decide)
    have hh3 : b3 = true := by simpa using hall 3 (by decide)
    have hh4 : b4 = true := by simpa using hall 4 (by decide)
    have hh5 : b5 = true := by simpa using hall 5 (by decide)
    have hh6 : b6 = true := by simpa using hall 6 (by decide)
    have hh7 : b7 = true := by simpa using hall 7 (by decide)
    have hh8 : b8 = true := by simpa using hall 8 (by decide)
    have hh9 : b9 = true := by simpa using hall 9 (by decide)
    have hh10 : b10 = true := by simpa using hall 10 (by decide)
    clear hall
    subst hh0 hh1 hh2 hh3 hh4 hh5 hh6 hh7 hh8 hh9 hh10
    obtain ⟨w1, hc, rfl⟩ := hfin rfl
    clear hall' h40 h74 hca hfin
    exact hQ w1 V7 hc
set_option maxRecDepth 100000 in
set_option maxHeartbeats 4000000 in
theorem ref_before (w : World) (f wv cv lv : Value) (x : RdS) (d : Int) (cs : List ComD) (file k n : Nat) (h : StR w f wv cv x) (hl : ComsAt w lv cs) (hk : k ≤ cs.length) (hcs : cs.length ≤ 8000) (hco : x.coms.length ≤ 1000000) (_hw8 : x.words.length ≤ 8000) (_hn : n ≤ 1000000) :
    Calls Try.prog 97 #[sV f wv cv d noErr, .int .i64 (file : Nat), lv, .int .i64 (k : Nat), .int .i64 (n : Nat)] w fun e w' =>
      ∃ cv', e = .returned (.tuple #[sV f wv cv' d noErr, .int .i64 ((k + (dueC n (cs.drop k)).length : Nat) : Int)]) ∧ StR w' f wv cv' (addCs x file (dueC n (cs.drop k))) ∧ Below w.heap.size w w' := by
  obtain ⟨⟨A1, c1, rfl⟩, ⟨A2, c2, rfl⟩, A3, c3, rfl⟩ := h.form
  obtain ⟨lA, lc, rfl, hlc, _, hlx⟩ := hl.open_
  obtain ⟨D, hD⟩ : ∃ D, D = dueC n (cs.drop k) := ⟨_, rfl⟩
  have hDl : k + D.length ≤ cs.length := by
    have h1 : D.length ≤ (cs.drop k).length := by rw [hD]; exact (List.takeWhile_prefix _).length_le
    rw [List.length_drop] at h1
    omega
  have hat : ∀ m, k ≤ m → m < k + D.length → ∃ c, cs[m]? = some c ∧ c.2.2 ≤ n ∧ D.take (m - k + 1) = D.take (m - k) ++ [c] := fun m h1 h2 => by
    obtain ⟨c, e1, e2, e3⟩ := due_at (n := n) (R := cs.drop k) (j := m - k) (by rw [← hD]; omega)
    rw [List.getElem?_drop, show k + (m - k) = m by omega] at e1
    exact ⟨c, e1, e2, by rw [hD]; exact e3⟩
  have hst : cs.length = k + D.length ∨ ∃ c, cs[k + D.length]? = some c ∧ n < c.2.2 := by
    rcases due_stop n (cs.drop k) with e | ⟨c, e1, e2⟩
    · rw [← hD, List.getElem?_drop, List.getElem?_eq_none_iff] at e
      exact .inl (by omega)
    · rw [← hD, List.getElem?_drop] at e1
      exact .inr ⟨c, e1, e2⟩
  rw [← hD]
  have HAT := Lib.hid hat
  have HST := Lib.hid hst
  have HH := Lib.hid h
  have HLX := Lib.hid hlx
  clear hat hst h hl hlx hD
  unfold sV noErr
  go_enter Try.func97, Try.ntmps97
  go_wp2
  have hB0 : Below w.heap.size w ((w.alloc (.cells #[.slice A1 x.files.length c1, .slice A2 x.words.length c2, .slice A3 x.coms.length c3, .int .i64 d, .string ⟨#[]⟩, .int .i64 0, .int .i64 0] 143)).alloc (.cells #[.slice none 0 0, .slice none 0 0, .slice none 0 0, .int .i64 0, .string ⟨#[]⟩, .int .i64 0, .int .i64 0] 143)) := new_ (new_ (Below.refl _ _) _) _
  have HB0 := Lib.hid hB0
  have HA3 : Hid (TyB ((w.alloc (.cells #[.slice A1 x.files.length c1, .slice A2 x.words.length c2, .slice A3 x.coms.length c3, .int .i64 d, .string ⟨#[]⟩, .int .i64 0, .int .i64 0] 143)).alloc (.cells #[.slice none 0 0, .slice none 0 0, .slice none 0 0, .int .i64 0, .string ⟨#[]⟩, .int .i64 0, .int .i64 0] 143)) 148 (.slice A3 x.coms.length c3)) := Lib.hid (HH.out.tc.below HB0.out)
  clear hB0
  go_loopw [3] (fun iv wr => ∃ (m : Nat) (A : Option Addr) (c : Nat), k ≤ m ∧ m ≤ k + D.length ∧ iv = .int .i64 m ∧ Row wr w.heap.size 143 #[.slice A1 x.files.length c1, .slice A2 x.words.length c2, .slice A (addCs x file (D.take (m - k))).coms.length c, .int .i64 d, .string ⟨#[]⟩, .int .i64 0, .int .i64 0] ∧ Row wr (w.heap.size + 1) 143 #[.slice none 0 0, .slice none 0 0, .slice none 0 0, .int .i64 0, .string ⟨#[]⟩, .int .i64 0, .int .i64 0] ∧
      ComfAt wr (.slice A (addCs x file (D.take (m - k))).coms.length c) (addCs x file (D.take (m - k))).coms ∧ Below w.heap.size w wr ∧ TyB wr 148 (.slice A (addCs x file (D.take (m - k))).coms.length c)) (fun iv _ => k + D.length - (intOf iv).toNat)
  case atStart => exact ⟨k, A3, c3, Nat.le_refl _, by omega, rfl, by rw [Nat.sub_self, List.take_zero, addCs_nil]; exact (Row.new _ _ _).alloc _, Row.new' _ _ _ (by simp), by rw [Nat.sub_self, List.take_zero, addCs_nil]; exact HH.out.cm.below HB0.out, HB0.out, by rw [Nat.sub_self, List.take_zero, addCs_nil]; exact HA3.out⟩
  case round =>
    obtain ⟨m, A, c, hm1, hm2, rfl, hr, hr2, hcf, hbl, hAb⟩ := hrel
    obtain ⟨y, hy⟩ : ∃ y, addCs x file (D.take (m - k)) = y := ⟨_, rfl⟩
    have hyl : y.coms.length ≤ 1008000 := by
      rw [← hy]
      simp only [addCs, List.length_append, List.length_map]
      have := List.length_take_le (m - k) D
      omega
    rw [hy] at hr hcf hAb
    have HAB := Lib.hid hAb
    clear hAb
    have HY := Lib.hid hy
    clear hy
    have hlr := hr.lt
    by_cases hlt : m < k + D.length
    · obtain ⟨q, hq1, hq2, hq3⟩ := HAT.out m hm1 hlt
      obtain ⟨b, o, rfl, g0, g1, g2, g3⟩ := HLX.out m q hq1
      have hbw : b < w.heap.size := block_lt_of_cell g0
      have k0 := (hbl.cell (p := ⟨b, o + m * 4, none⟩) hbw).trans g0
      have k2 := (hbl.cell (p := ⟨b, o + m * 4 + 2, none⟩) hbw).trans g2
      have k3 := (hbl.cell (p := ⟨b, o + m * 4 + 3, none⟩) hbw).trans g3
      have e1 : decide (m < cs.length) = true := decide_eq_true (by omega)
      have e2 : decide ((q.2.2 : Int) ≤ (n : Int)) = true := decide_eq_true (by omega)
      have i0 : (0 : Int) ≤ (m : Int) := by omega
      have i1 : (m : Int) < (cs.length : Int) := by omega
      have z1 := hr.cell (i := 1) (v := .slice A2 x.words.length c2) rfl
      have z2 := hr.cell (i := 2) (v := .slice A y.coms.length c) rfl
      have HQ1 := Lib.hid hq1
      have HQ3 := Lib.hid hq3
      have HR := Lib.hid hr
      have HR2 := Lib.hid hr2
      have HCF := Lib.hid hcf
      have HBL := Lib.hid hbl
      clear hq1 hq3 hr hr2 hcf hbl g0 g1 g2 g3
      go_wp2
      go_region_held3 (fun w' => w'.cell? ⟨b, o + m * 4, none⟩ = some (.string ⟨q.1.toArray⟩) ∧ w'.cell? ⟨b, o + m * 4 + 2, none⟩ = some (.int .i64 (q.2.1 : Nat)) ∧ w'.cell? ⟨w.heap.size, 1, none⟩ = some (.slice A2 x.words.length c2)) (go_keep) (fail)
      all_goals
        first
          | (obtain ⟨W2, hW2⟩ : ∃ W2, W2 = (wr.alloc (.cells #[.string ⟨q.1.toArray⟩, .int .i64 (file : Nat), .int .i64 (q.2.1 : Nat), .int .i64 (x.words.length : Nat)] 148)).drew := ⟨_, rfl⟩; rw [← hW2])
          | (obtain ⟨W2, hW2⟩ : ∃ W2, W2 = wr.drew.alloc (.cells #[.string ⟨q.1.toArray⟩, .int .i64 (file : Nat), .int .i64 (q.2.1 : Nat), .int .i64 (x.words.length : Nat)] 148) := ⟨_, rfl⟩; rw [← hW2])
        have hb2 : Below wr.heap.size wr W2 := by rw [hW2]; first | exact (new_ (Below.refl _ _) _).drew | exact new_ (Below.refl _ _).drew _
        have hg2 : Row W2 wr.heap.size 148 #[.string ⟨q.1.toArray⟩, .int .i64 (file : Nat), .int .i64 (q.2.1 : Nat), .int .i64 (x.words.length : Nat)] := by rw [hW2]; first | exact (Row.new _ _ _).drew | exact Row.new _ _ _
        have HCF2 := Lib.hid (HCF.out.below hb2)
        have HRB := Lib.hid (HR.out.below hb2 hlr)
        have HR2B := Lib.hid (HR2.out.below hb2 HR2.out.lt)
        have HB2 := Lib.hid (HBL.out.trans (hb2.mono HBL.out.size))
        have HG2 := Lib.hid hg2
        have hl2 := HRB.out.lt
        have hl3 := HR2B.out.lt
        have hl4 := hg2.lt
        clear hW2 hb2 hg2 k0 k2 k3 z1 z2 e1 e2 HCF HR HR2 HBL
        simp only [Exit.then]
        go_wp2
        refine before_app (XB := w.heap.size) (GB := wr.heap.size) (q := (q.1, (file : Int), (q.2.1 : Int), (x.words.length : Int))) HRB.out rfl HG2.out HCF2.out (by omega) ?_
        intro w1 V7 V0 V4 V6
        intros
        rename_i hc
        have ho := hc.f7 rfl
        obtain ⟨A', c', rfl, _⟩ := own_form ho
        have hrow := (HRB.out.below hc.below hl2).set 2 (.slice A' (y.coms.length + 1) c')
        have hrow2 := (HR2B.out.below hc.below hl3).other (p := ⟨w.heap.size, 2, none⟩) (by dsimp only; omega) (.slice A' (y.coms.length + 1) c')
        have hbl2 := (HB2.out.trans (hc.below.mono HB2.out.size)).setCell (p := ⟨w.heap.size, 2, none⟩) (Nat.le_refl _) (.slice A' (y.coms.length + 1) c')
        have hcf2 := Rds.of_own (ho.kept (grown_set w1 w.heap.size 2 (.slice A' (y.coms.length + 1) c')) (.inr fun e => by have := (ho.lt _ e).1; omega))
        have hy2 : (addCs x file (D.take (m + 1 - k))).coms = y.coms ++ [(q.1, (file : Int), (q.2.1 : Int), (x.words.length : Int))] := by
          rw [show m + 1 - k = m - k + 1 by omega, HQ3.out, addCs_snoc, HY.out, ← HY.out]
          rfl
        have hlen : (addCs x file (D.take (m + 1 - k))).coms.length = y.coms.length + 1 := by rw [hy2]; simp
        have HX := Lib.hid (show ∃ (m' : Nat) (A : Option Addr) (c : Nat), k ≤ m' ∧ m' ≤ k + D.length ∧ Value.int .i64 ((m : Int) + 1) = .int .i64 m' ∧ Row (w1.setCell ⟨w.heap.size, 2, none⟩ (.slice A' (y.coms.length + 1) c')) w.heap.size 143 #[.slice A1 x.files.length c1, .slice A2 x.words.length c2, .slice A (addCs x file (D.take (m' - k))).coms.length c, .int .i64 d, .string ⟨#[]⟩, .int .i64 0, .int .i64 0] ∧ Row (w1.setCell ⟨w.heap.size, 2, none⟩ (.slice A' (y.coms.length + 1) c')) (w.heap.size + 1) 143 #[.slice none 0 0, .slice none 0 0, .slice none 0 0, .int .i64 0, .string ⟨#[]⟩, .int .i64 0, .int .i64 0] ∧
          ComfAt (w1.setCell ⟨w.heap.size, 2, none⟩ (.slice A' (y.coms.length + 1) c')) (.slice A (addCs x file (D.take (m' - k))).coms.length c) (addCs x file (D.take (m' - k))).coms ∧ Below w.heap.size w (w1.setCell ⟨w.heap.size, 2, none⟩ (.slice A' (y.coms.length + 1) c')) ∧ TyB (w1.setCell ⟨w.heap.size, 2, none⟩ (.slice A' (y.coms.length + 1) c')) 148 (.slice A (addCs x file (D.take (m' - k))).coms.length c) from
          ⟨m + 1, A', c', by omega, by omega, by go_num, by rw [hlen]; exact hrow, hrow2, by unfold ComfAt; rw [hlen, hy2, comf_snocR]; exact hcf2, hbl2, by rw [hlen]; exact (TyB.of_own ho).store (HRB.out.below hc.below hl2) (by decide) _⟩)
        clear hrow hrow2 hbl2 hcf2 hy2 hlen ho hc HRB HR2B HB2 HG2 HCF2
        generalize w1.setCell ⟨w.heap.size, 2, none⟩ (.slice A' (y.coms.length + 1) c') = W5 at *
        simp only [Exit.then]
        go_wp2
        go_roundw
        case rel => exact HX.out
        case measure => simp [intOf]; omega
    · obtain rfl : m = k + D.length := by omega
      have hfull : D.take (k + D.length - k) = D := by rw [show k + D.length - k = D.length by omega, List.take_length]
      rw [hfull] at HY
      have z0 := hr.cell (i := 0) (v := .slice A1 x.files.length c1) rfl
      have z1 := hr.cell (i := 1) (v := .slice A2 x.words.length c2) rfl
      have z2 := hr.cell (i := 2) (v := .slice A y.coms.length c) rfl
      have z3 := hr.cell (i := 3) (v := .int .i64 d) rfl
      have z4 := hr.cell (i := 4) (v := .string ⟨#[]⟩) rfl
      have z5 := hr.cell (i := 5) (v := .int .i64 0) rfl
      have z6 := hr.cell (i := 6) (v := .int .i64 0) rfl
      have y0 := hr2.cell (i := 0) (v := .slice none 0 0) rfl
      have y1 := hr2.cell (i := 1) (v := .slice none 0 0) rfl
      have y2 := hr2.cell (i := 2) (v := .slice none 0 0) rfl
      have y3 := hr2.cell (i := 3) (v := .int .i64 0) rfl
      have y4 := hr2.cell (i := 4) (v := .string ⟨#[]⟩) rfl
      have y5 := hr2.cell (i := 5) (v := .int .i64 0) rfl
      have y6 := hr2.cell (i := 6) (v := .int .i64 0) rfl
      have fz := hr2.free
      have hlr2 := hr2.lt
      have HR2 := Lib.hid hr2
      have HCF := Lib.hid hcf
      have HBL := Lib.hid hbl
      have HF1 := Lib.hid (HH.out.fl.below hbl)
      have HF2 := Lib.hid (HH.out.wd.below hbl)
      obtain ⟨mm, hmm⟩ : ∃ mm, mm = k + D.length := ⟨_, rfl⟩
      rw [← hmm] at hm1 hm2 hlt ⊢
      have HMM := Lib.hid hmm
      rcases HST.out with hs | ⟨q, hq1, hq2⟩
      all_goals
        clear hr hr2 hcf hbl hfull hmm
      · have e1 : decide (mm < cs.length) = false := decide_eq_false (by have := HMM.out; omega)
        clear hs
        go_wp2
        have HRF := Lib.hid (((((((HR2.out.set 0 (.slice A1 x.files.length c1)).set 1 (.slice A2 x.words.length c2)).set 2 (.slice A y.coms.length c)).set 3 (.int .i64 d)).set 4 (.string ⟨#[]⟩)).set 5 (.int .i64 0)).set 6 (.int .i64 0))
        have HFIN : Hid (∃ cv', Ending.returned (Value.tuple #[.agg #[.slice A1 x.files.length c1, .slice A2 x.words.length c2, .slice A y.coms.length c, .int .i64 d, .string ⟨#[]⟩, .int .i64 0, .int .i64 0], .int .i64 (mm : Nat)]) = .returned (.tuple #[.agg #[.slice A1 x.files.length c1, .slice A2 x.words.length c2, cv', .int .i64 d, .string ⟨#[]⟩, .int .i64 0, .int .i64 0], .int .i64 ((k + D.length : Nat) : Int)]) ∧ StR (((((((wr.setCell ⟨w.heap.size + 1, 0, none⟩ (.slice A1 x.files.length c1)).setCell ⟨w.heap.size + 1, 1, none⟩ (.slice A2 x.words.length c2)).setCell ⟨w.heap.size + 1, 2, none⟩ (.slice A y.coms.length c)).setCell ⟨w.heap.size + 1, 3, none⟩ (.int .i64 d)).setCell ⟨w.heap.size + 1, 4, none⟩ (.string ⟨#[]⟩)).setCell ⟨w.heap.size + 1, 5, none⟩ (.int .i64 0)).setCell ⟨w.heap.size + 1, 6, none⟩ (.int .i64 0)) (.slice A1 x.files.length c1) (.slice A2 x.words.length c2) cv' (addCs x file D) ∧ Below w.heap.size w (((((((wr.setCell ⟨w.heap.size + 1, 0, none⟩ (.slice A1 x.files.length c1)).setCell ⟨w.heap.size + 1, 1, none⟩ (.slice A2 x.words.length c2)).setCell ⟨w.heap.size + 1, 2, none⟩ (.slice A y.coms.length c)).setCell ⟨w.heap.size + 1, 3, none⟩ (.int .i64 d)).setCell ⟨w.heap.size + 1, 4, none⟩ (.string ⟨#[]⟩)).setCell ⟨w.heap.size + 1, 5, none⟩ (.int .i64 0)).setCell ⟨w.heap.size + 1, 6, none⟩ (.int .i64 0))) := Lib.hid (by
          have hb9 : Below w.heap.size w (((((((wr.setCell ⟨w.heap.size + 1, 0, none⟩ (.slice A1 x.files.length c1)).setCell ⟨w.heap.size + 1, 1, none⟩ (.slice A2 x.words.length c2)).setCell ⟨w.heap.size + 1, 2, none⟩ (.slice A y.coms.length c)).setCell ⟨w.heap.size + 1, 3, none⟩ (.int .i64 d)).setCell ⟨w.heap.size + 1, 4, none⟩ (.string ⟨#[]⟩)).setCell ⟨w.heap.size + 1, 5, none⟩ (.int .i64 0)).setCell ⟨w.heap.size + 1, 6, none⟩ (.int .i64 0)) := ((((((HBL.out.setCell (p := ⟨w.heap.size + 1, 0, none⟩) (by dsimp only; omega) _).setCell (p := ⟨w.heap.size + 1, 1, none⟩) (by dsimp only; omega) _).setCell (p := ⟨w.heap.size + 1, 2, none⟩) (by dsimp only; omega) _).setCell (p := ⟨w.heap.size + 1, 3, none⟩) (by dsimp only; omega) _).setCell (p := ⟨w.heap.size + 1, 4, none⟩) (by dsimp only; omega) _).setCell (p := ⟨w.heap.size + 1, 5, none⟩) (by dsimp only; omega) _).setCell (p := ⟨w.heap.size + 1, 6, none⟩) (by dsimp only; omega) _
          refine ⟨_, by rw [HMM.out], ?_, hb9⟩
          rw [HY.out]
          have s0 : StR wr (.slice A1 x.files.length c1) (.slice A2 x.words.length c2) (.slice A y.coms.length c) y := by
            have hyf : y.files = x.files := by rw [← HY.out]; rfl
            have hyw : y.words = x.words := by rw [← HY.out]; rfl
            exact ⟨by rw [hyf]; exact HF1.out, by rw [hyw]; exact HF2.out, HCF.out, HH.out.tf.below HBL.out, HH.out.tw.below HBL.out, HAB.out⟩
          have r0 := HR2.out
          have s1 := s0.store (i := 0) r0 (.slice A1 x.files.length c1)
          have r1 := r0.set 0 (.slice A1 x.files.length c1)
          have s2 := s1.store (i := 1) r1 (.slice A2 x.words.length c2)
          have r2 := r1.set 1 (.slice A2 x.words.length c2)
          have s3 := s2.store (i := 2) r2 (.slice A y.coms.length c)
          have r3 := r2.set 2 (.slice A y.coms.length c)
          have s4 := s3.store (i := 3) r3 (.int .i64 d)
          have r4 := r3.set 3 (.int .i64 d)
          have s5 := s4.store (i := 4) r4 (.string ⟨#[]⟩)
          have r5 := r4.set 4 (.string ⟨#[]⟩)
          have s6 := s5.store (i := 5) r5 (.int .i64 0)
          have r6 := r5.set 5 (.int .i64 0)
          exact s6.store (i := 6) r6 (.int .i64 0))
        have hrf := HRF.out
        have hfin := HFIN.out
        obtain ⟨W9, hW9⟩ : ∃ W9, W9 = (((((((wr.setCell ⟨w.heap.size + 1, 0, none⟩ (.slice A1 x.files.length c1)).setCell ⟨w.heap.size + 1, 1, none⟩ (.slice A2 x.words.length c2)).setCell ⟨w.heap.size + 1, 2, none⟩ (.slice A y.coms.length c)).setCell ⟨w.heap.size + 1, 3, none⟩ (.int .i64 d)).setCell ⟨w.heap.size + 1, 4, none⟩ (.string ⟨#[]⟩)).setCell ⟨w.heap.size + 1, 5, none⟩ (.int .i64 0)).setCell ⟨w.heap.size + 1, 6, none⟩ (.int .i64 0)) := ⟨_, rfl⟩
        rw [← hW9] at hrf hfin ⊢
        clear hW9
        refine bodyPost_ret (v := .tuple #[.agg #[.slice A1 x.files.length c1, .slice A2 x.words.length c2, .slice A y.coms.length c, .int .i64 d, .string ⟨#[]⟩, .int .i64 0, .int .i64 0], .int .i64 (mm : Nat)]) ?_ ?_ ?_
        · exact results_row_tmp Try.results97 _ _ (w.heap.size + 1) _ _ _ rfl hrf Try.underlying143 rfl (by kernel_rfl)
        · rfl
        · exact hfin
      · rw [← HMM.out] at hq1
        obtain ⟨b, o, rfl, g0, g1, g2, g3⟩ := HLX.out mm q hq1
        have k3 := (HBL.out.cell (p := ⟨b, o + mm * 4 + 3, none⟩) (block_lt_of_cell g3)).trans g3
        have e1 : decide (mm < cs.length) = true := decide_eq_true (List.getElem?_eq_some_iff.1 hq1).1
        have e2 : decide (q.2.2 ≤ n) = false := decide_eq_false (by omega)
        have i0 : (0 : Int) ≤ (mm : Int) := by omega
        have i1 : (mm : Int) < (cs.length : Int) := by have := (List.getElem?_eq_some_iff.1 hq1).1; omega
        clear hq1 hq2 g0 g1 g2 g3
        go_wp2
        have HRF := Lib.hid (((((((HR2.out.set 0 (.slice A1 x.files.length c1)).set 1 (.slice A2 x.words.length c2)).set 2 (.slice A y.coms.length c)).set 3 (.int .i64 d)).set 4 (.string ⟨#[]⟩)).set 5 (.int .i64 0)).set 6 (.int .i64 0))
        have HFIN : Hid (∃ cv', Ending.returned (Value.tuple #[.agg #[.slice A1 x.files.length c1, .slice A2 x.words.length c2, .slice A y.coms.length c, .int .i64 d, .string ⟨#[]⟩, .int .i64 0, .int .i64 0], .int .i64 (mm : Nat)]) = .returned (.tuple #[.agg #[.slice A1 x.files.length c1, .slice A2 x.words.length c2, cv', .int .i64 d, .string ⟨#[]⟩, .int .i64 0, .int .i64 0], .int .i64 ((k + D.length : Nat) : Int)]) ∧ StR (((((((wr.setCell ⟨w.heap.size + 1, 0, none⟩ (.slice A1 x.files.length c1)).setCell ⟨w.heap.size + 1, 1, none⟩ (.slice A2 x.words.length c2)).setCell ⟨w.heap.size + 1, 2, none⟩ (.slice A y.coms.length c)).setCell ⟨w.heap.size + 1, 3, none⟩ (.int .i64 d)).setCell ⟨w.heap.size + 1, 4, none⟩ (.string ⟨#[]⟩)).setCell ⟨w.heap.size + 1, 5, none⟩ (.int .i64 0)).setCell ⟨w.heap.size + 1, 6, none⟩ (.int .i64 0)) (.slice A1 x.files.length c1) (.slice A2 x.words.length c2) cv' (addCs x file D) ∧ Below w.heap.size w (((((((wr.setCell ⟨w.heap.size + 1, 0, none⟩ (.slice A1 x.files.length c1)).setCell ⟨w.heap.size + 1, 1, none⟩ (.slice A2 x.words.length c2)).setCell ⟨w.heap.size + 1, 2, none⟩ (.slice A y.coms.length c)).setCell ⟨w.heap.size + 1, 3, none⟩ (.int .i64 d)).setCell ⟨w.heap.size + 1, 4, none⟩ (.string ⟨#[]⟩)).setCell ⟨w.heap.size + 1, 5, none⟩ (.int .i64 0)).setCell ⟨w.heap.size + 1, 6, none⟩ (.int .i64 0))) := Lib.hid (by
          have hb9 : Below w.heap.size w (((((((wr.setCell ⟨w.heap.size + 1, 0, none⟩ (.slice A1 x.files.length c1)).setCell ⟨w.heap.size + 1, 1, none⟩ (.slice A2 x.words.length c2)).setCell ⟨w.heap.size + 1, 2, none⟩ (.slice A y.coms.length c)).setCell ⟨w.heap.size + 1, 3, none⟩ (.int .i64 d)).setCell ⟨w.heap.size + 1, 4, none⟩ (.string ⟨#[]⟩)).setCell ⟨w.heap.size + 1, 5, none⟩ (.int .i64 0)).setCell ⟨w.heap.size + 1, 6, none⟩ (.int .i64 0)) := ((((((HBL.out.setCell (p := ⟨w.heap.size + 1, 0, none⟩) (by dsimp only; omega) _).setCell (p := ⟨w.heap.size + 1, 1, none⟩) (by dsimp only; omega) _).setCell (p := ⟨w.heap.size + 1, 2, none⟩) (by dsimp only; omega) _).setCell (p := ⟨w.heap.size + 1, 3, none⟩) (by dsimp only; omega) _).setCell (p := ⟨w.heap.size + 1, 4, none⟩) (by dsimp only; omega) _).setCell (p := ⟨w.heap.size + 1, 5, none⟩) (by dsimp only; omega) _).setCell (p := ⟨w.heap.size + 1, 6, none⟩) (by dsimp only; omega) _
          refine ⟨_, by rw [HMM.out], ?_, hb9⟩
          rw [HY.out]
          have s0 : StR wr (.slice A1 x.files.length c1) (.slice A2 x.words.length c2) (.slice A y.coms.length c) y := by
            have hyf : y.files = x.files := by rw [← HY.out]; rfl
            have hyw : y.words = x.words := by rw [← HY.out]; rfl
            exact ⟨by rw [hyf]; exact HF1.out, by rw [hyw]; exact HF2.out, HCF.out, HH.out.tf.below HBL.out, HH.out.tw.below HBL.out, HAB.out⟩
          have r0 := HR2.out
          have s1 := s0.store (i := 0) r0 (.slice A1 x.files.length c1)
          have r1 := r0.set 0 (.slice A1 x.files.length c1)
          have s2 := s1.store (i := 1) r1 (.slice A2 x.words.length c2)
          have r2 := r1.set 1 (.slice A2 x.words.length c2)
          have s3 := s2.store (i := 2) r2 (.slice A y.coms.length c)
          have r3 := r2.set 2 (.slice A y.coms.length c)
          have s4 := s3.store (i := 3) r3 (.int .i64 d)
          have r4 := r3.set 3 (.int .i64 d)
          have s5 := s4.store (i := 4) r4 (.string ⟨#[]⟩)
          have r5 := r4.set 4 (.string ⟨#[]⟩)
          have s6 := s5.store (i := 5) r5 (.int .i64 0)
          have r6 := r5.set 5 (.int .i64 0)
          exact s6.store (i := 6) r6 (.int .i64 0))
        have hrf := HRF.out
        have hfin := HFIN.out
        obtain ⟨W9, hW9⟩ : ∃ W9, W9 = (((((((wr.setCell ⟨w.heap.size + 1, 0, none⟩ (.slice A1 x.files.length c1)).setCell ⟨w.heap.size + 1, 1, none⟩ (.slice A2 x.words.length c2)).setCell ⟨w.heap.size + 1, 2, none⟩ (.slice A y.coms.length c)).setCell ⟨w.heap.size + 1, 3, none⟩ (.int .i64 d)).setCell ⟨w.heap.size + 1, 4, none⟩ (.string ⟨#[]⟩)).setCell ⟨w.heap.size + 1, 5, none⟩ (.int .i64 0)).setCell ⟨w.heap.size + 1, 6, none⟩ (.int .i64 0)) := ⟨_, rfl⟩
        rw [← hW9] at hrf hfin ⊢
        clear hW9
        refine bodyPost_ret (v := .tuple #[.agg #[.slice A1 x.files.length c1, .slice A2 x.words.length c2, .slice A y.coms.length c, .int .i64 d, .string ⟨#[]⟩, .int .i64 0, .int .i64 0], .int .i64 (mm : Nat)]) ?_ ?_ ?_
        · exact results_row_tmp Try.results97 _ _ (w.heap.size + 1) _ _ _ rfl hrf Try.underlying143 rfl (by kernel_rfl)
        · rfl
        · exact hfin
end Go.Proofs.Ytignhjfobcnloaa
