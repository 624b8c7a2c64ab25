/- The reference of Read: a word appended; the call of include: two drawn regions. (Printed by gen_reftake3.py.) -/
import Derived.Test.YtignhjfobcnloaaRefTake2
import Derived.Test.YtignhjfobcnloaaTakerA
import Derived.IntWalk
namespace Go.Proofs.Ytignhjfobcnloaa
open Go.RowKit
/-- the box of a state, set -/
def setS (w : World) (g : Nat) (f wv cv : Value) (d : Int) (e : ErrD) : World := ((((((w.setCell ⟨g, 0, none⟩ f).setCell ⟨g, 1, none⟩ wv).setCell ⟨g, 2, none⟩ cv).setCell ⟨g, 3, none⟩ (.int .i64 d)).setCell ⟨g, 4, none⟩ (.string ⟨e.1.toArray⟩)).setCell ⟨g, 5, none⟩ (.int .i64 e.2.1)).setCell ⟨g, 6, none⟩ (.int .i64 e.2.2)
section
variable {w : World} {g : Nat} {f wv cv : Value} {d : Int} {e : ErrD}
theorem setS_row {a0 a1 a2 a3 a4 a5 a6 : Value} (hr : Row w g 143 #[a0, a1, a2, a3, a4, a5, a6]) : Row (setS w g f wv cv d e) g 143 #[f, wv, cv, .int .i64 d, .string ⟨e.1.toArray⟩, .int .i64 e.2.1, .int .i64 e.2.2] := by
  have r1 : Row (w.setCell ⟨g, 0, none⟩ f) g 143 #[f, a1, a2, a3, a4, a5, a6] := hr.set 0 f
  have r2 : Row ((w.setCell ⟨g, 0, none⟩ f).setCell ⟨g, 1, none⟩ wv) g 143 #[f, wv, a2, a3, a4, a5, a6] := r1.set 1 wv
  have r3 : Row (((w.setCell ⟨g, 0, none⟩ f).setCell ⟨g, 1, none⟩ wv).setCell ⟨g, 2, none⟩ cv) g 143 #[f, wv, cv, a3, a4, a5, a6] := r2.set 2 cv
  have r4 : Row ((((w.setCell ⟨g, 0, none⟩ f).setCell ⟨g, 1, none⟩ wv).setCell ⟨g, 2, none⟩ cv).setCell ⟨g, 3, none⟩ (.int .i64 d)) g 143 #[f, wv, cv, .int .i64 d, a4, a5, a6] := r3.set 3 (.int .i64 d)
  have r5 : Row (((((w.setCell ⟨g, 0, none⟩ f).setCell ⟨g, 1, none⟩ wv).setCell ⟨g, 2, none⟩ cv).setCell ⟨g, 3, none⟩ (.int .i64 d)).setCell ⟨g, 4, none⟩ (.string ⟨e.1.toArray⟩)) g 143 #[f, wv, cv, .int .i64 d, .string ⟨e.1.toArray⟩, a5, a6] := r4.set 4 (.string ⟨e.1.toArray⟩)
  have r6 : Row ((((((w.setCell ⟨g, 0, none⟩ f).setCell ⟨g, 1, none⟩ wv).setCell ⟨g, 2, none⟩ cv).setCell ⟨g, 3, none⟩ (.int .i64 d)).setCell ⟨g, 4, none⟩ (.string ⟨e.1.toArray⟩)).setCell ⟨g, 5, none⟩ (.int .i64 e.2.1)) g 143 #[f, wv, cv, .int .i64 d, .string ⟨e.1.toArray⟩, .int .i64 e.2.1, a6] := r5.set 5 (.int .i64 e.2.1)
  exact r6.set 6 (.int .i64 e.2.2)
theorem setS_st {a0 a1 a2 a3 a4 a5 a6 F WV CV : Value} {x : RdS} (h : StR w F WV CV x) (hr : Row w g 143 #[a0, a1, a2, a3, a4, a5, a6]) : StR (setS w g f wv cv d e) F WV CV x := by
  have r1 := hr.set 0 f
  have r2 := r1.set 1 wv
  have r3 := r2.set 2 cv
  have r4 := r3.set 3 (.int .i64 d)
  have r5 := r4.set 4 (.string ⟨e.1.toArray⟩)
  have r6 := r5.set 5 (.int .i64 e.2.1)
  exact ((((((h.store hr f).store r1 wv).store r2 cv).store r3 (.int .i64 d)).store r4 (.string ⟨e.1.toArray⟩)).store r5 (.int .i64 e.2.1)).store r6 (.int .i64 e.2.2)
theorem setS_below {B : Nat} {a : World} (h : Below B a w) (hg : B ≤ g) : Below B a (setS w g f wv cv d e) :=
  ((((((h.setCell (p := ⟨g, 0, none⟩) hg f).setCell (p := ⟨g, 1, none⟩) hg wv).setCell (p := ⟨g, 2, none⟩) hg cv).setCell (p := ⟨g, 3, none⟩) hg (.int .i64 d)).setCell (p := ⟨g, 4, none⟩) hg (.string ⟨e.1.toArray⟩)).setCell (p := ⟨g, 5, none⟩) hg (.int .i64 e.2.1)).setCell (p := ⟨g, 6, none⟩) hg (.int .i64 e.2.2)
theorem setS_other {k : Nat} {t : TypeId} {cs : Array Value} (hr : Row w k t cs) (hk : k ≠ g) : Row (setS w g f wv cv d e) k t cs :=
  ((((((hr.other (p := ⟨g, 0, none⟩) hk f).other (p := ⟨g, 1, none⟩) hk wv).other (p := ⟨g, 2, none⟩) hk cv).other (p := ⟨g, 3, none⟩) hk (.int .i64 d)).other (p := ⟨g, 4, none⟩) hk (.string ⟨e.1.toArray⟩)).other (p := ⟨g, 5, none⟩) hk (.int .i64 e.2.1)).other (p := ⟨g, 6, none⟩) hk (.int .i64 e.2.2)
end
/-- what take and include hand back -/
def IncV (W : World) (r : RdS ⊕ ErrD) (U : Value) (w' : World) : Prop :=
  ∃ f wv cv d e x, U = sV f wv cv d e ∧ StR w' f wv cv x ∧ Below W.heap.size W w' ∧ match r with
    | .inl y => d = y.depth ∧ e = noErr ∧ x = y
    | .inr er => e = er ∧ er.2.2 ≠ 0
theorem IncV.below {W w' : World} {r : RdS ⊕ ErrD} {U : Value} (h : IncV W r U w') : Below W.heap.size W w' := by
  obtain ⟨_, _, _, _, _, _, _, _, hb, _⟩ := h
  exact hb
def IncRes (W : World) (r : RdS ⊕ ErrD) (e : Ending) (w' : World) : Prop := ∃ U, e = .returned U ∧ IncV W r U w'
theorem word_one {l : List WordD} : ∀ u ∈ l.flatMap wordCells, u.oneCell' = true := by
  intro u hu
  obtain ⟨c, _, hc⟩ := List.mem_flatMap.1 hu
  simp [wordCells] at hc
  rcases hc with rfl | rfl | rfl <;> rfl
set_option maxRecDepth 100000 in
set_option maxHeartbeats 4000000 in
/-- a word appended -/
theorem take_word {W2 : World} {XB GB c : Nat} {A : Option Addr} {l : List WordD} {q : WordD} {rw_ : Array Value} {x0 x1 x2 x4 x5 x6 x8 x9 x10 x11 x12 x13 x15 x16 x17 x18 x19 x20 x21 x22 x23 x24 x25 x26 x27 x28 x29 x30 x31 x32 x33 x34 x35 x36 x37 x38 x39 x40 x41 x42 x43 x44 x45 x46 x47 x48 x49 x50 x51 x52 x53 x54 x55 x56 x57 x58 x59 x60 x61 x62 x63 x64 x65 x66 x67 x68 x69 x70 x71 x72 x73 x74 x75 x76 x77 x78 x79 x80 x81 x82 x83 x84 x85 x86 x87 x88 x89 x90 x91 x92 x93 x94 x95 x96 x97 x98 x99 x100 x101 x102 x103 x104 x105 x106 x107 x108 x109 x110 x111 x112 x113 x114 x115 x116 x117 x118 x119 x120 x121 x122 x123 x124 x125 x126 x127 x128 x129 x130 x131 x132 x133 x134 x135 x136 x137 x138 x139 x140 x141 x142 x143 x144 x145 x146 x147 x148 x149 x150 x151 x152 x153 x154 x155 x156 x157 x158 x159 x160 x161 x162 x163 x164 x165 x166 x167 x168 x169 x170 x171 x172 x173 x174 x175 x176 x177 x178 x179 x180 x181 x182 x183 x184 x185 x186 x187 x188 x189 x190 x191 x192 x193 x194 x195 x196 x197 x198 x199 : Value} {Q : Exit → Act → World → Prop} (hr : Row W2 XB 143 rw_) (h2 : rw_[1]? = some (.slice A l.length c)) (hg : Row W2 GB 86 #[.string ⟨q.1.toArray⟩, .int .i64 q.2.2])
    (hcf : WordsAt W2 (.slice A l.length c) l) (hyl : l.length ≤ 2000000)
    (hQ : ∀ (w1 : World) (V7 : Value) {V0 V4 V6 x81 x82 x83 x84 x85 x86 x87 x88 x89 x90 x91 x92 x93 x94 x95 x96 : Value}, CA W2 132 3 l.length (l.flatMap wordCells) (wordCells q) true true true true V0 V4 V6 V7 w1 → Q .normal { tmps := #[x0, x1, x2, .pointer (some ⟨XB, 0, none⟩), x4, x5, x6, .int .i64 q.2.1, x8, x9, x10, x11, x12, x13, .pointer (some ⟨GB, 0, none⟩), x15, x16, x17, x18, x19, x20, x21, x22, x23, x24, x25, x26, x27, x28, x29, x30, x31, x32, x33, x34, x35, x36, x37, x38, x39, x40, x41, x42, x43, x44, x45, x46, x47, x48, x49, x50, x51, x52, x53, x54, x55, x56, x57, x58, x59, x60, x61, x62, x63, x64, x65, x66, x67, x68, x69, x70, x71, x72, x73, x74, x75, x76, x77, x78, x79, x80, x81, x82, x83, x84, x85, x86, x87, x88, x89, x90, x91, x92, x93, x94, x95, x96, x97, x98, x99, x100, x101, x102, x103, x104, x105, x106, x107, x108, x109, x110, x111, x112, x113, x114, x115, x116, x117, x118, x119, x120, x121, x122, x123, x124, x125, x126, x127, x128, x129, x130, x131, x132, x133, x134, x135, x136, x137, x138, x139, x140, x141, x142, x143, x144, x145, x146, x147, x148, x149, x150, x151, x152, x153, x154, x155, x156, x157, x158, x159, x160, x161, x162, x163, x164, x165, x166, x167, x168, x169, x170, x171, x172, x173, x174, x175, x176, x177, x178, x179, x180, x181, x182, x183, x184, x185, x186, x187, x188, x189, x190, x191, x192, x193, x194, x195, x196, x197, x198, x199], defers := [] } (w1.setCell ⟨XB, 1, none⟩ V7)) :
    (regC 15 (Try.f64.body.getD .skip)).wp Try.prog Q { tmps := #[x0, x1, x2, .pointer (some ⟨XB, 0, none⟩), x4, x5, x6, .int .i64 q.2.1, x8, x9, x10, x11, x12, x13, .pointer (some ⟨GB, 0, none⟩), x15, x16, x17, x18, x19, x20, x21, x22, x23, x24, x25, x26, x27, x28, x29, x30, x31, x32, x33, x34, x35, x36, x37, x38, x39, x40, x41, x42, x43, x44, x45, x46, x47, x48, x49, x50, x51, x52, x53, x54, x55, x56, x57, x58, x59, x60, x61, x62, x63, x64, x65, x66, x67, x68, x69, x70, x71, x72, x73, x74, x75, x76, x77, x78, x79, x80, x81, x82, x83, x84, x85, x86, x87, x88, x89, x90, x91, x92, x93, x94, x95, x96, x97, x98, x99, x100, x101, x102, x103, x104, x105, x106, x107, x108, x109, x110, x111, x112, x113, x114, x115, x116, x117, x118, x119, x120, x121, x122, x123, x124, x125, x126, x127, x128, x129, x130, x131, x132, x133, x134, x135, x136, x137, x138, x139, x140, x141, x142, x143, x144, x145, x146, x147, x148, x149, x150, x151, x152, x153, x154, x155, x156, x157, x158, x159, x160, x161, x162, x163, x164, x165, x166, x167, x168, x169, x170, x171, x172, x173, x174, x175, x176, x177, x178, x179, x180, x181, x182, x183, x184, x185, x186, x187, x188, x189, x190, x191, x192, x193, x194, x195, x196, x197, x198, x199], defers := [] } W2 := by
  have hl2 := hr.lt
  have hl4 := hg.lt
  simp only [Try.f64, Option.getD_some, regC]
  refine (wpIn_wide (n := 0)).1 (wpIn_region_any (by kernel_rfl) ?_)
  refine wpAnyIn_inv (Inv := fun listed a wq => ∃ (b0 b1 b2 b3 b4 b5 b6 b7 b8 b9 b10 b11 b12 b13 b14 b15 b16 : Bool) (V0 : Value) (V4 : Value) (V6 : Value) (V7 : Value), listed = #[b0, b1, b2, b3, b4, b5, b6, b7, b8, b9, b10, b11, b12, b13, b14, b15, b16] ∧ a = { tmps := #[x0, x1, x2, .pointer (some ⟨XB, 0, none⟩), x4, x5, x6, .int .i64 q.2.1, x8, x9, x10, x11, x12, x13, .pointer (some ⟨GB, 0, none⟩), x15, x16, x17, x18, x19, x20, x21, x22, x23, x24, x25, x26, x27, x28, x29, x30, x31, x32, x33, x34, x35, x36, x37, x38, x39, x40, x41, x42, x43, x44, x45, x46, x47, x48, x49, x50, x51, x52, x53, x54, x55, x56, x57, x58, x59, x60, x61, x62, x63, x64, x65, x66, x67, x68, x69, x70, x71, x72, x73, x74, x75, x76, x77, x78, x79, x80, (bif b0 then V0 else x81), (bif b1 then .pointer (some ⟨XB, 0, none⟩) else x82), (bif b2 then .pointer (some ⟨XB, 1, none⟩) else x83), (bif b3 then .slice A l.length c else x84), (bif b4 then V4 else x85), (bif b5 then .pointer (some ⟨GB, 0, none⟩) else x86), (bif b6 then .string ⟨q.1.toArray⟩ else x87), (bif b7 then .int .i64 q.2.1 else x88), (bif b8 then .pointer (some ⟨GB, 1, none⟩) else x89), (bif b9 then .int .i64 q.2.2 else x90), (bif b10 then .agg #[.int .i64 q.2.1, .int .i64 q.2.2] else x91), (bif b11 then .agg #[.string ⟨q.1.toArray⟩, .int .i64 q.2.1, .int .i64 q.2.2] else x92), (bif b12 then V6 else x93), (bif b13 then V7 else x94), (bif b14 then .pointer (some ⟨XB, 0, none⟩) else x95), (bif b15 then .pointer (some ⟨XB, 1, none⟩) else x96), x97, x98, x99, x100, x101, x102, x103, x104, x105, x106, x107, x108, x109, x110, x111, x112, x113, x114, x115, x116, x117, x118, x119, x120, x121, x122, x123, x124, x125, x126, x127, x128, x129, x130, x131, x132, x133, x134, x135, x136, x137, x138, x139, x140, x141, x142, x143, x144, x145, x146, x147, x148, x149, x150, x151, x152, x153, x154, x155, x156, x157, x158, x159, x160, x161, x162, x163, x164, x165, x166, x167, x168, x169, x170, x171, x172, x173, x174, x175, x176, x177, x178, x179, x180, x181, x182, x183, x184, x185, x186, x187, x188, x189, x190, x191, x192, x193, x194, x195, x196, x197, x198, x199], defers := [] } ∧ (b16 = true → (b0 && b1 && b2 && b3 && b4 && b5 && b6 && b7 && b8 && b9 && b10 && b11 && b12 && b13 && b14 && b15) = true) ∧ (b4 = true → b0 = true) ∧ (b13 = true → (b4 && b12) = true) ∧ (b16 = false → CA W2 132 3 (l.length) (l.flatMap wordCells) (wordCells q) b0 b4 b12 b13 V0 V4 V6 V7 wq) ∧ (b16 = true → ∃ w1, CA W2 132 3 (l.length) (l.flatMap wordCells) (wordCells q) true true true true V0 V4 V6 V7 w1 ∧ wq = w1.setCell ⟨XB, 1, none⟩ V7) ∧ (b15 = true → b14 = true)) (by kernel_rfl) ?_ ?_ ?_ _ _ _ _ ?_ ?_
  rotate_left 2
  rotate_left 1
  · exact ⟨false, false, false, false, false, false, false, false, false, false, false, false, false, false, false, false, false, .nilIface, .nilIface, .nilIface, .nilIface, rfl, rfl, fun h => (by cases h), fun h => (by cases h), fun h => (by cases h), fun _ => CA.start, fun h => (by cases h), fun h => (by cases h)⟩
  · simp
  · rintro listed a wq ⟨b0, b1, b2, b3, b4, b5, b6, b7, b8, b9, b10, b11, b12, b13, b14, b15, b16, V0, V4, V6, V7, rfl, _⟩
    rfl
  · rintro ii listed a wq hii ⟨b0, b1, b2, b3, b4, b5, b6, b7, b8, b9, b10, b11, b12, b13, b14, b15, b16, V0, V4, V6, V7, rfl, rfl, hall', h40, h74, hca, hfin, c15_14⟩ hl ha
    match ii, hii with
    | 0, _ =>
      have hb : b0 = false := by simpa using hl
      clear ha hl
      subst hb
      obtain rfl : b16 = false := by cases b16 with | false => rfl | true => exact absurd (hall' rfl) (by simp)
      have hc := hca rfl
      obtain rfl : b4 = false := by cases b4 with | false => rfl | true => exact absurd (h40 rfl) (by simp)
      obtain rfl : b13 = false := by cases b13 with | false => rfl | true => exact absurd (h74 rfl) (by simp)
      refine wpOpIn_step rfl fun K' hK => ?_
      go_simp
      exact hK _ _ ⟨true, b1, b2, b3, false, b5, b6, b7, b8, b9, b10, b11, b12, false, b14, b15, false, _, V4, V6, V7, rfl, rfl, fun h => (by cases h), fun _ => rfl, fun h => (by cases h), fun _ => hc.s0, fun h => (by cases h), c15_14⟩
    | 1, _ =>
      have hb : b1 = false := by simpa using hl
      clear ha hl
      subst hb
      obtain rfl : b16 = false := by cases b16 with | false => rfl | true => exact absurd (hall' rfl) (by simp)
      have hc := hca rfl
      refine wpOpIn_step rfl fun K' hK => ?_
      go_simp
      exact hK _ _ ⟨b0, true, b2, b3, b4, b5, b6, b7, b8, b9, b10, b11, b12, b13, b14, b15, false, V0, V4, V6, V7, rfl, rfl, fun h => (by cases h), h40, h74, fun _ => hc, fun h => (by cases h), c15_14⟩
    | 2, _ =>
      have hb : b2 = false := by simpa using hl
      have hd := ha _ rfl
      have d1 : b1 = true := by cases b1 with | true => rfl | false => simp [Region.binds] at hd
      clear hd
      clear ha hl
      subst hb d1
      obtain rfl : b16 = false := by cases b16 with | false => rfl | true => exact absurd (hall' rfl) (by simp)
      have hc := hca rfl
      refine wpOpIn_step rfl fun K' hK => ?_
      go_simp
      exact hK _ _ ⟨b0, true, true, b3, b4, b5, b6, b7, b8, b9, b10, b11, b12, b13, b14, b15, false, V0, V4, V6, V7, rfl, rfl, fun h => (by cases h), h40, h74, fun _ => hc, fun h => (by cases h), c15_14⟩
    | 3, _ =>
      have hb : b3 = false := by simpa using hl
      have hd := ha _ rfl
      have d2 : b2 = true := by cases b2 with | true => rfl | false => simp [Region.binds] at hd
      clear hd
      clear ha hl
      subst hb d2
      obtain rfl : b16 = false := by cases b16 with | false => rfl | true => exact absurd (hall' rfl) (by simp)
      have hc := hca rfl
      have t2 := (hr.below hc.below hl2).cell (i := 1) h2
      refine wpOpIn_step rfl fun K' hK => ?_
      go_simp
      exact hK _ _ ⟨b0, b1, true, true, b4, b5, b6, b7, b8, b9, b10, b11, b12, b13, b14, b15, false, V0, V4, V6, V7, rfl, rfl, fun h => (by cases h), h40, h74, fun _ => hc, fun h => (by cases h), c15_14⟩
    | 4, _ =>
      have hb : b4 = false := by simpa using hl
      have hd := ha _ rfl
      have d0 : b0 = true := by cases b0 with | true => rfl | false => simp [Region.binds] at hd
      have d3 : b3 = true := by cases b3 with | true => rfl | false => simp [Region.binds] at hd
      clear hd
      clear ha hl
      subst hb d0 d3
      obtain rfl : b16 = false := by cases b16 with | false => rfl | true => exact absurd (hall' rfl) (by simp)
      have hc := hca rfl
      obtain rfl : b13 = false := by cases b13 with | false => rfl | true => exact absurd (h74 rfl) (by simp)
      obtain ⟨i0, hi0, hj0, hj1, hj2⟩ := info_parts infoRWord
      obtain ⟨v, w', hrun, hc'⟩ := hc.r4 (P := Try.prog) 62 62 i0 _ 32 Try.underlying62 hi0 hj0 hj1 hj2 rfl (by decide) (hcf) (word_one) (by omega)
      refine wpOpIn_app rfl rfl (.tmp 81) (.tmp 84) 62 rfl rfl rfl hrun ?_
      exact ⟨true, b1, b2, true, true, b5, b6, b7, b8, b9, b10, b11, b12, false, b14, b15, false, V0, v, V6, V7, rfl, rfl, fun h => (by cases h), fun _ => rfl, fun h => (by cases h), fun _ => hc', fun h => (by cases h), c15_14⟩
    | 5, _ =>
      have hb : b5 = false := by simpa using hl
      clear ha hl
      subst hb
      obtain rfl : b16 = false := by cases b16 with | false => rfl | true => exact absurd (hall' rfl) (by simp)
      have hc := hca rfl
      refine wpOpIn_step rfl fun K' hK => ?_
      go_simp
      exact hK _ _ ⟨b0, b1, b2, b3, b4, true, b6, b7, b8, b9, b10, b11, b12, b13, b14, b15, false, V0, V4, V6, V7, rfl, rfl, fun h => (by cases h), h40, h74, fun _ => hc, fun h => (by cases h), c15_14⟩
    | 6, _ =>
      have hb : b6 = false := by simpa using hl
      have hd := ha _ rfl
      have d5 : b5 = true := by cases b5 with | true => rfl | false => simp [Region.binds] at hd
      clear hd
      clear ha hl
      subst hb d5
      obtain rfl : b16 = false := by cases b16 with | false => rfl | true => exact absurd (hall' rfl) (by simp)
      have hc := hca rfl
      have t0 := (hg.below hc.below hl4).cell (i := 0) (v := .string ⟨q.1.toArray⟩) rfl
      refine wpOpIn_step rfl fun K' hK => ?_
      go_simp
      exact hK _ _ ⟨b0, b1, b2, b3, b4, true, true, b7, b8, b9, b10, b11, b12, b13, b14, b15, false, V0, V4, V6, V7, rfl, rfl, fun h => (by cases h), h40, h74, fun _ => hc, fun h => (by cases h), c15_14⟩
    | 7, _ =>
      have hb : b7 = false := by simpa using hl
      clear ha hl
      subst hb
      obtain rfl : b16 = false := by cases b16 with | false => rfl | true => exact absurd (hall' rfl) (by simp)
      have hc := hca rfl
      refine wpOpIn_step rfl fun K' hK => ?_
      go_simp
      exact hK _ _ ⟨b0, b1, b2, b3, b4, b5, b6, true, b8, b9, b10, b11, b12, b13, b14, b15, false, V0, V4, V6, V7, rfl, rfl, fun h => (by cases h), h40, h74, fun _ => hc, fun h => (by cases h), c15_14⟩
    | 8, _ =>
      have hb : b8 = false := by simpa using hl
      clear ha hl
      subst hb
      obtain rfl : b16 = false := by cases b16 with | false => rfl | true => exact absurd (hall' rfl) (by simp)
      have hc := hca rfl
      refine wpOpIn_step rfl fun K' hK => ?_
      go_simp
      exact hK _ _ ⟨b0, b1, b2, b3, b4, b5, b6, b7, true, b9, b10, b11, b12, b13, b14, b15, false, V0, V4, V6, V7, rfl, rfl, fun h => (by cases h), h40, h74, fun _ => hc, fun h => (by cases h), c15_14⟩
    | 9, _ =>
      have hb : b9 = false := by simpa using hl
      have hd := ha _ rfl
      have d8 : b8 = true := by cases b8 with | true => rfl | false => simp [Region.binds] at hd
      clear hd
      clear ha hl
      subst hb d8
      obtain rfl : b16 = false := by cases b16 with | false => rfl | true => exact absurd (hall' rfl) (by simp)
      have hc := hca rfl
      have t1 := (hg.below hc.below hl4).cell (i := 1) (v := .int .i64 q.2.2) rfl
      refine wpOpIn_step rfl fun K' hK => ?_
      go_simp
      exact hK _ _ ⟨b0, b1, b2, b3, b4, b5, b6, b7, true, true, b10, b11, b12, b13, b14, b15, false, V0, V4, V6, V7, rfl, rfl, fun h => (by cases h), h40, h74, fun _ => hc, fun h => (by cases h), c15_14⟩
    | 10, _ =>
      have hb : b10 = false := by simpa using hl
      have hd := ha _ rfl
      have d7 : b7 = true := by cases b7 with | true => rfl | false => simp [Region.binds] at hd
      have d9 : b9 = true := by cases b9 with | true => rfl | false => simp [Region.binds] at hd
      clear hd
      clear ha hl
      subst hb d7 d9
      obtain rfl : b16 = false := by cases b16 with | false => rfl | true => exact absurd (hall' rfl) (by simp)
      have hc := hca rfl
      refine wpOpIn_step rfl fun K' hK => ?_
      go_simp
      exact hK _ _ ⟨b0, b1, b2, b3, b4, b5, b6, true, b8, true, true, b11, b12, b13, b14, b15, false, V0, V4, V6, V7, rfl, rfl, fun h => (by cases h), h40, h74, fun _ => hc, fun h => (by cases h), c15_14⟩
    | 11, _ =>
      have hb : b11 = false := by simpa using hl
      have hd := ha _ rfl
      have d6 : b6 = true := by cases b6 with | true => rfl | false => simp [Region.binds] at hd
      have d10 : b10 = true := by cases b10 with | true => rfl | false => simp [Region.binds] at hd
      clear hd
      clear ha hl
      subst hb d6 d10
      obtain rfl : b16 = false := by cases b16 with | false => rfl | true => exact absurd (hall' rfl) (by simp)
      have hc := hca rfl
      refine wpOpIn_step rfl fun K' hK => ?_
      go_simp
      exact hK _ _ ⟨b0, b1, b2, b3, b4, b5, true, b7, b8, b9, true, true, b12, b13, b14, b15, false, V0, V4, V6, V7, rfl, rfl, fun h => (by cases h), h40, h74, fun _ => hc, fun h => (by cases h), c15_14⟩
    | 12, _ =>
      have hb : b12 = false := by simpa using hl
      have hd := ha _ rfl
      have d11 : b11 = true := by cases b11 with | true => rfl | false => simp [Region.binds] at hd
      clear hd
      clear ha hl
      subst hb d11
      obtain rfl : b16 = false := by cases b16 with | false => rfl | true => exact absurd (hall' rfl) (by simp)
      have hc := hca rfl
      obtain rfl : b13 = false := by cases b13 with | false => rfl | true => exact absurd (h74 rfl) (by simp)
      refine wpOpIn_step rfl fun K' hK => ?_
      go_simp
      exact hK _ _ ⟨b0, b1, b2, b3, b4, b5, b6, b7, b8, b9, b10, true, true, false, b14, b15, false, V0, V4, _, V7, rfl, rfl, fun h => (by cases h), h40, fun h => (by cases h), fun _ => hc.s6, fun h => (by cases h), c15_14⟩
    | 13, _ =>
      have hb : b13 = false := by simpa using hl
      have hd := ha _ rfl
      have d4 : b4 = true := by cases b4 with | true => rfl | false => simp [Region.binds] at hd
      have d12 : b12 = true := by cases b12 with | true => rfl | false => simp [Region.binds] at hd
      clear hd
      clear ha hl
      subst hb d4 d12
      obtain rfl : b16 = false := by cases b16 with | false => rfl | true => exact absurd (hall' rfl) (by simp)
      have hc := hca rfl
      obtain rfl : b0 = true := h40 rfl
      obtain ⟨i0, hi0, hj0, hj1, hj2⟩ := info_parts infoRWord
      obtain ⟨v, w', hrun, hc'⟩ := hc.r7 (P := Try.prog) 62 62 i0 _ 32 Try.underlying62 hi0 hj0 hj1 hj2 rfl (by decide) (rfl) (by simp [wordCells, Value.oneCell']) (by unfold maxLen; omega) (by omega)
      refine wpOpIn_app rfl rfl (.tmp 85) (.tmp 93) 62 rfl rfl rfl hrun ?_
      exact ⟨true, b1, b2, b3, true, b5, b6, b7, b8, b9, b10, b11, true, true, b14, b15, false, V0, V4, V6, v, rfl, rfl, fun h => (by cases h), fun _ => rfl, fun _ => rfl, fun _ => hc', fun h => (by cases h), c15_14⟩
    | 14, _ =>
      have hb : b14 = false := by simpa using hl
      have hd := ha _ rfl
      have d0 : b0 = true := by cases b0 with | true => rfl | false => simp [Region.binds] at hd
      have d1 : b1 = true := by cases b1 with | true => rfl | false => simp [Region.binds] at hd
      have d2 : b2 = true := by cases b2 with | true => rfl | false => simp [Region.binds] at hd
      have d3 : b3 = true := by cases b3 with | true => rfl | false => simp [Region.binds] at hd
      have d4 : b4 = true := by cases b4 with | true => rfl | false => simp [Region.binds] at hd
      have d5 : b5 = true := by cases b5 with | true => rfl | false => simp [Region.binds] at hd
      have d6 : b6 = true := by cases b6 with | true => rfl | false => simp [Region.binds] at hd
      have d7 : b7 = true := by cases b7 with | true => rfl | false => simp [Region.binds] at hd
      have d8 : b8 = true := by cases b8 with | true => rfl | false => simp [Region.binds] at hd
      have d9 : b9 = true := by cases b9 with | true => rfl | false => simp [Region.binds] at hd
      have d10 : b10 = true := by cases b10 with | true => rfl | false => simp [Region.binds] at hd
      have d11 : b11 = true := by cases b11 with | true => rfl | false => simp [Region.binds] at hd
      have d12 : b12 = true := by cases b12 with | true => rfl | false => simp [Region.binds] at hd
      have d13 : b13 = true := by cases b13 with | true => rfl | false => simp [Region.binds] at hd
      clear hd
      clear ha hl
      subst hb d0 d1 d2 d3 d4 d5 d6 d7 d8 d9 d10 d11 d12 d13
      obtain rfl : b16 = false := by cases b16 with | false => rfl | true => exact absurd (hall' rfl) (by simp)
      have hc := hca rfl
      refine wpOpIn_step rfl fun K' hK => ?_
      go_simp
      exact hK _ _ ⟨true, true, true, true, true, true, true, true, true, true, true, true, true, true, true, b15, false, V0, V4, V6, V7, rfl, rfl, fun h => (by cases h), h40, h74, fun _ => hc, fun h => (by cases h), fun _ => rfl⟩
    | 15, _ =>
      have hb : b15 = false := by simpa using hl
      have hd := ha _ rfl
      have d0 : b0 = true := by cases b0 with | true => rfl | false => simp [Region.binds] at hd
      have d1 : b1 = true := by cases b1 with | true => rfl | false => simp [Region.binds] at hd
      have d2 : b2 = true := by cases b2 with | true => rfl | false => simp [Region.binds] at hd
      have d3 : b3 = true := by cases b3 with | true => rfl | false => simp [Region.binds] at hd
      have d4 : b4 = true := by cases b4 with | true => rfl | false => simp [Region.binds] at hd
      have d5 : b5 = true := by cases b5 with | true => rfl | false => simp [Region.binds] at hd
      have d6 : b6 = true := by cases b6 with | true => rfl | false => simp [Region.binds] at hd
      have d7 : b7 = true := by cases b7 with | true => rfl | false => simp [Region.binds] at hd
      have d8 : b8 = true := by cases b8 with | true => rfl | false => simp [Region.binds] at hd
      have d9 : b9 = true := by cases b9 with | true => rfl | false => simp [Region.binds] at hd
      have d10 : b10 = true := by cases b10 with | true => rfl | false => simp [Region.binds] at hd
      have d11 : b11 = true := by cases b11 with | true => rfl | false => simp [Region.binds] at hd
      have d12 : b12 = true := by cases b12 with | true => rfl | false => simp [Region.binds] at hd
      have d13 : b13 = true := by cases b13 with | true => rfl | false => simp [Region.binds] at hd
      have d14 : b14 = true := by cases b14 with | true => rfl | false => simp [Region.binds] at hd
      clear hd
      clear ha hl
      subst hb d0 d1 d2 d3 d4 d5 d6 d7 d8 d9 d10 d11 d12 d13 d14
      obtain rfl : b16 = false := by cases b16 with | false => rfl | true => exact absurd (hall' rfl) (by simp)
      have hc := hca rfl
      refine wpOpIn_step rfl fun K' hK => ?_
      go_simp
      exact hK _ _ ⟨true, true, true, true, true, true, true, true, true, true, true, true, true, true, true, true, false, V0, V4, V6, V7, rfl, rfl, fun h => (by cases h), h40, h74, fun _ => hc, fun h => (by cases h), fun _ => rfl⟩
    | 16, _ =>
      have hb : b16 = false := by simpa using hl
      have hd := ha _ rfl
      have d0 : b0 = true := by cases b0 with | true => rfl | false => simp [Region.binds] at hd
      have d1 : b1 = true := by cases b1 with | true => rfl | false => simp [Region.binds] at hd
      have d2 : b2 = true := by cases b2 with | true => rfl | false => simp [Region.binds] at hd
      have d3 : b3 = true := by cases b3 with | true => rfl | false => simp [Region.binds] at hd
      have d4 : b4 = true := by cases b4 with | true => rfl | false => simp [Region.binds] at hd
      have d5 : b5 = true := by cases b5 with | true => rfl | false => simp [Region.binds] at hd
      have d6 : b6 = true := by cases b6 with | true => rfl | false => simp [Region.binds] at hd
      have d7 : b7 = true := by cases b7 with | true => rfl | false => simp [Region.binds] at hd
      have d8 : b8 = true := by cases b8 with | true => rfl | false => simp [Region.binds] at hd
      have d9 : b9 = true := by cases b9 with | true => rfl | false => simp [Region.binds] at hd
      have d10 : b10 = true := by cases b10 with | true => rfl | false => simp [Region.binds] at hd
      have d11 : b11 = true := by cases b11 with | true => rfl | false => simp [Region.binds] at hd
      have d12 : b12 = true := by cases b12 with | true => rfl | false => simp [Region.binds] at hd
      have d13 : b13 = true := by cases b13 with | true => rfl | false => simp [Region.binds] at hd
      have d15 : b15 = true := by cases b15 with | true => rfl | false => simp [Region.binds] at hd
      clear hd
      clear ha hl
      subst hb d0 d1 d2 d3 d4 d5 d6 d7 d8 d9 d10 d11 d12 d13 d15
      obtain rfl : b14 = true := c15_14 rfl
      obtain ⟨A', c', rfl, hc'⟩ := own_form ((hca rfl).f7 rfl)
      have hc := hca rfl
      have t2 := (hr.below hc.below hl2).cell (i := 1) h2; have t3 := (hr.below hc.below hl2).free 1
      refine wpOpIn_step rfl fun K' hK => ?_
      go_simp
      exact hK _ _ ⟨true, true, true, true, true, true, true, true, true, true, true, true, true, true, true, true, true, V0, V4, V6, _, rfl, rfl, fun _ => rfl, fun _ => rfl, fun _ => rfl, fun h => (by cases h), fun _ => ⟨_, hc, rfl⟩, fun _ => rfl⟩
    | k + 17, hlt => exact absurd hlt (by show ¬ k + 17 < 17; omega)
  · rintro listed a wq ⟨b0, b1, b2, b3, b4, b5, b6, b7, b8, b9, b10, b11, b12, b13, b14, b15, b16, V0, V4, V6, V7, rfl, rfl, hall', h40, h74, hca, hfin, c15_14⟩ hall
    have hh0 : b0 = true := by simpa using hall 0 (by decide)
    have hh1 : b1 = true := by simpa using hall 1 (by decide)
    have hh2 : b2 = true := by simpa using hall 2 (by decide)
    have hh3 : b3 = true := by simpa using hall 3 (by decide)
    have hh4 : b4 = true := by simpa using hall 4 (by decide)
    have hh5 : b5 = true := by simpa using hall 5 (by decide)
    have hh6 : b6 = true := by simpa using hall 6 (by decide)
    have hh7 : b7 = true := by simpa using hall 7 (by decide)
    have hh8 : b8 = true := by simpa using hall 8 (by decide)
    have hh9 : b9 = true := by simpa using hall 9 (by decide)
    have hh10 : b10 = true := by simpa using hall 10 (by decide)
    have hh11 : b11 = true := by simpa using hall 11 (by decide)
    have hh12 : b12 = true := by simpa using hall 12 (by decide)
    have hh13 : b13 = true := by simpa using hall 13 (by decide)
    have hh14 : b14 = true := by simpa using hall 14 (by decide)
    have hh15 : b15 = true := by simpa using hall 15 (by decide)
    have hh16 : b16 = true := by simpa using hall 16 (by decide)
    clear hall
    subst hh0 hh1 hh2 hh3 hh4 hh5 hh6 hh7 hh8 hh9 hh10 hh11 hh12 hh13 hh14 hh15 hh16
    obtain ⟨w1, hc, rfl⟩ := hfin rfl
    clear hall' h40 h74 hca hfin
    exact hQ w1 V7 hc
set_option maxRecDepth 100000 in
set_option maxHeartbeats 4000000 in
/-- the call of include -/
theorem take_call {W2 : World} {XB GB c i : Nat} {A : Option Addr} {ws : List TokD} {b : TokD} {f wv cv : Value} {x : RdS} {r : RdS ⊕ ErrD} {p : Nat} {s1 s2 : Value} {t0 : List UInt8} {x0 x4 x5 x6 x7 x9 x10 x11 x12 x15 x16 x17 x18 x19 x20 x21 x22 x23 x24 x25 x26 x27 x28 x29 x30 x31 x32 x33 x34 x35 x36 x37 x38 x39 x40 x41 x42 x43 x44 x45 x46 x47 x48 x49 x50 x51 x52 x53 x54 x55 x56 x57 x58 x59 x60 x61 x62 x63 x64 x65 x66 x67 x68 x69 x70 x71 x72 x73 x74 x75 x76 x77 x78 x79 x80 x81 x82 x83 x84 x85 x86 x87 x88 x89 x90 x91 x92 x93 x94 x95 x96 x97 x98 x99 x100 x101 x102 x103 x104 x105 x106 x107 x108 x109 x110 x111 x112 x113 x114 x115 x116 x117 x118 x119 x120 x121 x122 x123 x124 x125 x126 x127 x128 x129 x130 x131 x132 x133 x134 x135 x136 x137 x138 x139 x140 x141 x142 x143 x144 x145 x146 x147 x148 x149 x150 x151 x152 x153 x154 x155 x156 x157 x158 x159 x160 x161 x162 x163 x164 x165 x166 x167 x168 x169 x170 x171 x172 x173 x174 x175 x176 x177 x178 x179 x180 x181 x182 x183 x184 x185 x186 x187 x188 x189 x190 x191 x192 x193 x194 x195 x196 x197 x198 x199 : Value} {Q : Exit → Act → World → Prop} (hr : Row W2 XB 143 #[f, wv, cv, .int .i64 x.depth, .string ⟨#[]⟩, .int .i64 0, .int .i64 0]) (hg : Row W2 GB 86 #[.string ⟨t0.toArray⟩, .int .i64 (p : Nat)]) (hws : ToksAt W2 (.slice A ws.length c) ws) (hb : ws[i + 1]? = some b) (hi : ws.length ≤ 1000000)
    (hc : ∀ W, Below W2.heap.size W2 W → Calls Try.prog 100 #[sV f wv cv x.depth noErr, s1, s2, .int .i64 (p : Nat), .agg #[.string ⟨b.1.toArray⟩, .int .i64 (b.2 : Nat)]] W (IncRes W r))
    (hQ : ∀ (w1 : World) (F WV CV : Value) (d : Int) (e : ErrD) {x173 x174 x175 x176 x177 x178 x179 x180 x181 x182 x183 : Value}, IncV W2.drew r (sV F WV CV d e) w1 → Q .normal { tmps := #[x0, s1, s2, .pointer (some ⟨XB, 0, none⟩), x4, x5, x6, x7, .slice A ws.length c, x9, x10, x11, x12, .int .i64 (i : Nat), .pointer (some ⟨GB, 0, none⟩), x15, x16, x17, x18, x19, x20, x21, x22, x23, x24, x25, x26, x27, x28, x29, x30, x31, x32, x33, x34, x35, x36, x37, x38, x39, x40, x41, x42, x43, x44, x45, x46, x47, x48, x49, x50, x51, x52, x53, x54, x55, x56, x57, x58, x59, x60, x61, x62, x63, x64, x65, x66, x67, x68, x69, x70, x71, x72, x73, x74, x75, x76, x77, x78, x79, x80, x81, x82, x83, x84, x85, x86, x87, x88, x89, x90, x91, x92, x93, x94, x95, x96, x97, x98, x99, x100, x101, x102, x103, x104, x105, x106, x107, x108, x109, x110, x111, x112, x113, x114, x115, x116, x117, x118, x119, x120, x121, x122, x123, x124, x125, x126, x127, x128, x129, x130, x131, x132, x133, x134, x135, x136, x137, x138, x139, x140, x141, x142, x143, x144, x145, x146, x147, x148, x149, x150, x151, x152, x153, x154, x155, x156, x157, x158, x159, x160, x161, x162, x163, x164, x165, x166, x167, x168, x169, x170, x171, x172, x173, x174, x175, x176, x177, x178, x179, x180, x181, x182, x183, x184, x185, x186, x187, x188, x189, x190, x191, x192, x193, x194, x195, x196, x197, x198, x199], defers := [] } (setS w1 XB F WV CV d e)) :
    (regC 31 (Try.f64.body.getD .skip)).wp Try.prog Q { tmps := #[x0, s1, s2, .pointer (some ⟨XB, 0, none⟩), x4, x5, x6, x7, .slice A ws.length c, x9, x10, x11, x12, .int .i64 (i : Nat), .pointer (some ⟨GB, 0, none⟩), x15, x16, x17, x18, x19, x20, x21, x22, x23, x24, x25, x26, x27, x28, x29, x30, x31, x32, x33, x34, x35, x36, x37, x38, x39, x40, x41, x42, x43, x44, x45, x46, x47, x48, x49, x50, x51, x52, x53, x54, x55, x56, x57, x58, x59, x60, x61, x62, x63, x64, x65, x66, x67, x68, x69, x70, x71, x72, x73, x74, x75, x76, x77, x78, x79, x80, x81, x82, x83, x84, x85, x86, x87, x88, x89, x90, x91, x92, x93, x94, x95, x96, x97, x98, x99, x100, x101, x102, x103, x104, x105, x106, x107, x108, x109, x110, x111, x112, x113, x114, x115, x116, x117, x118, x119, x120, x121, x122, x123, x124, x125, x126, x127, x128, x129, x130, x131, x132, x133, x134, x135, x136, x137, x138, x139, x140, x141, x142, x143, x144, x145, x146, x147, x148, x149, x150, x151, x152, x153, x154, x155, x156, x157, x158, x159, x160, x161, x162, x163, x164, x165, x166, x167, x168, x169, x170, x171, x172, x173, x174, x175, x176, x177, x178, x179, x180, x181, x182, x183, x184, x185, x186, x187, x188, x189, x190, x191, x192, x193, x194, x195, x196, x197, x198, x199], defers := [] } W2 := by
  have hl2 := hr.lt
  have hl4 := hg.lt
  obtain ⟨A', c', hv, _, _, hx⟩ := hws.open_
  obtain ⟨bb, oo, rfl, g0, g1⟩ := hx _ _ hb
  obtain ⟨rfl, rfl⟩ := (by simpa using hv : A = some ⟨bb, oo, none⟩ ∧ c = c')
  have HC := Lib.hid hc
  have i1 : ((i : Int) + 1) < (ws.length : Int) := by have := (List.getElem?_eq_some_iff.1 hb).1; omega
  have i0 : (0 : Int) ≤ (i : Int) + 1 := by omega
  have hwr : IntKind.i64.wrap ((i : Int) + 1) = (i : Int) + 1 := IntWalk.i64_in _ (by omega)
  have htn : ((i : Int) + 1).toNat = i + 1 := by omega
  clear hx hv hc hb
  simp only [Try.f64, Option.getD_some, regC]
  refine (wpIn_wide (n := 0)).1 (wpIn_region_any (by kernel_rfl) ?_)
  refine wpAnyIn_inv (Inv := fun listed a wq => ∃ (b0 b1 b2 b3 b4 b5 b6 b7 b8 b9 b10 b11 : Bool) (U : Value), listed = #[b0, b1, b2, b3, b4, b5, b6, b7, b8, b9, b10, b11] ∧ a = { tmps := #[x0, s1, s2, .pointer (some ⟨XB, 0, none⟩), x4, x5, x6, x7, .slice (some ⟨bb, oo, none⟩) ws.length c, x9, x10, x11, x12, .int .i64 (i : Nat), .pointer (some ⟨GB, 0, none⟩), x15, x16, x17, x18, x19, x20, x21, x22, x23, x24, x25, x26, x27, x28, x29, x30, x31, x32, x33, x34, x35, x36, x37, x38, x39, x40, x41, x42, x43, x44, x45, x46, x47, x48, x49, x50, x51, x52, x53, x54, x55, x56, x57, x58, x59, x60, x61, x62, x63, x64, x65, x66, x67, x68, x69, x70, x71, x72, x73, x74, x75, x76, x77, x78, x79, x80, x81, x82, x83, x84, x85, x86, x87, x88, x89, x90, x91, x92, x93, x94, x95, x96, x97, x98, x99, x100, x101, x102, x103, x104, x105, x106, x107, x108, x109, x110, x111, x112, x113, x114, x115, x116, x117, x118, x119, x120, x121, x122, x123, x124, x125, x126, x127, x128, x129, x130, x131, x132, x133, x134, x135, x136, x137, x138, x139, x140, x141, x142, x143, x144, x145, x146, x147, x148, x149, x150, x151, x152, x153, x154, x155, x156, x157, x158, x159, x160, x161, x162, x163, x164, x165, x166, x167, x168, x169, x170, x171, x172, (bif b0 then .agg #[f, wv, cv, .int .i64 x.depth, .string ⟨#[]⟩, .int .i64 0, .int .i64 0] else x173), (bif b1 then s1 else x174), (bif b2 then s2 else x175), (bif b3 then .pointer (some ⟨GB, 1, none⟩) else x176), (bif b4 then .int .i64 (p : Nat) else x177), (bif b5 then .slice (some ⟨bb, oo, none⟩) ws.length c else x178), (bif b6 then .int .i64 (i : Nat) else x179), (bif b7 then .int .i64 ((i : Int) + 1) else x180), (bif b8 then .pointer (some ⟨bb, oo + (i + 1) * 2, none⟩) else x181), (bif b9 then .agg #[.string ⟨b.1.toArray⟩, .int .i64 (b.2 : Nat)] else x182), (bif b10 then U else x183), x184, x185, x186, x187, x188, x189, x190, x191, x192, x193, x194, x195, x196, x197, x198, x199], defers := [] } ∧ (b11 = true → (b0 && b1 && b2 && b3 && b4 && b5 && b6 && b7 && b8 && b9 && b10) = true) ∧ (b10 = false → wq = W2.drew) ∧ (b10 = true → b11 = false → IncV W2.drew r U wq) ∧ (b11 = true → ∃ F WV CV d e w1, U = sV F WV CV d e ∧ IncV W2.drew r U w1 ∧ wq = setS w1 XB F WV CV d e)) (by kernel_rfl) ?_ ?_ ?_ _ _ _ _ ?_ ?_
  rotate_left 2
  rotate_left 1
  · exact ⟨false, false, false, false, false, false, false, false, false, false, false, false, .nilIface, rfl, rfl, fun h => (by cases h), fun _ => rfl, fun h => (by cases h), fun h => (by cases h)⟩
  · simp
  · rintro listed a wq ⟨b0, b1, b2, b3, b4, b5, b6, b7, b8, b9, b10, b11, U, rfl, _⟩
    rfl
  · rintro ii listed a wq hii ⟨b0, b1, b2, b3, b4, b5, b6, b7, b8, b9, b10, b11, U, rfl, rfl, hall', hw, hres, hfin⟩ hl ha
    match ii, hii with
    | 0, _ =>
      have hb : b0 = false := by simpa using hl
      clear ha hl
      subst hb
      obtain rfl : b11 = false := by cases b11 with | false => rfl | true => exact absurd (hall' rfl) (by simp)
      have hbw : Below W2.heap.size W2 wq := by cases b10 with | false => exact (hw rfl) ▸ (Below.refl _ _).drew | true => exact (Below.refl W2.heap.size W2).drew.trans (hres rfl rfl).below
      have q0 := (hr.below hbw hl2).cell (i := 0) (v := f) rfl; have q1 := (hr.below hbw hl2).cell (i := 1) (v := wv) rfl; have q2 := (hr.below hbw hl2).cell (i := 2) (v := cv) rfl; have q3 := (hr.below hbw hl2).cell (i := 3) (v := .int .i64 x.depth) rfl; have q4 := (hr.below hbw hl2).cell (i := 4) (v := .string ⟨#[]⟩) rfl; have q5 := (hr.below hbw hl2).cell (i := 5) (v := .int .i64 0) rfl; have q6 := (hr.below hbw hl2).cell (i := 6) (v := .int .i64 0) rfl
      refine wpOpIn_step rfl fun K' hK => ?_
      go_simp
      exact hK _ _ ⟨true, b1, b2, b3, b4, b5, b6, b7, b8, b9, b10, false, U, rfl, rfl, fun h => (by cases h), hw, hres, fun h => (by cases h)⟩
    | 1, _ =>
      have hb : b1 = false := by simpa using hl
      clear ha hl
      subst hb
      obtain rfl : b11 = false := by cases b11 with | false => rfl | true => exact absurd (hall' rfl) (by simp)
      refine wpOpIn_step rfl fun K' hK => ?_
      go_simp
      exact hK _ _ ⟨b0, true, b2, b3, b4, b5, b6, b7, b8, b9, b10, false, U, rfl, rfl, fun h => (by cases h), hw, hres, fun h => (by cases h)⟩
    | 2, _ =>
      have hb : b2 = false := by simpa using hl
      clear ha hl
      subst hb
      obtain rfl : b11 = false := by cases b11 with | false => rfl | true => exact absurd (hall' rfl) (by simp)
      refine wpOpIn_step rfl fun K' hK => ?_
      go_simp
      exact hK _ _ ⟨b0, b1, true, b3, b4, b5, b6, b7, b8, b9, b10, false, U, rfl, rfl, fun h => (by cases h), hw, hres, fun h => (by cases h)⟩
    | 3, _ =>
      have hb : b3 = false := by simpa using hl
      clear ha hl
      subst hb
      obtain rfl : b11 = false := by cases b11 with | false => rfl | true => exact absurd (hall' rfl) (by simp)
      refine wpOpIn_step rfl fun K' hK => ?_
      go_simp
      exact hK _ _ ⟨b0, b1, b2, true, b4, b5, b6, b7, b8, b9, b10, false, U, rfl, rfl, fun h => (by cases h), hw, hres, fun h => (by cases h)⟩
    | 4, _ =>
      have hb : b4 = false := by simpa using hl
      have hd := ha _ rfl
      have d3 : b3 = true := by cases b3 with | true => rfl | false => simp [Region.binds] at hd
      clear hd
      clear ha hl
      subst hb d3
      obtain rfl : b11 = false := by cases b11 with | false => rfl | true => exact absurd (hall' rfl) (by simp)
      have hbw : Below W2.heap.size W2 wq := by cases b10 with | false => exact (hw rfl) ▸ (Below.refl _ _).drew | true => exact (Below.refl W2.heap.size W2).drew.trans (hres rfl rfl).below
      have q1 := (hg.below hbw hl4).cell (i := 1) (v := .int .i64 (p : Nat)) rfl
      refine wpOpIn_step rfl fun K' hK => ?_
      go_simp
      exact hK _ _ ⟨b0, b1, b2, true, true, b5, b6, b7, b8, b9, b10, false, U, rfl, rfl, fun h => (by cases h), hw, hres, fun h => (by cases h)⟩
    | 5, _ =>
      have hb : b5 = false := by simpa using hl
      clear ha hl
      subst hb
      obtain rfl : b11 = false := by cases b11 with | false => rfl | true => exact absurd (hall' rfl) (by simp)
      refine wpOpIn_step rfl fun K' hK => ?_
      go_simp
      exact hK _ _ ⟨b0, b1, b2, b3, b4, true, b6, b7, b8, b9, b10, false, U, rfl, rfl, fun h => (by cases h), hw, hres, fun h => (by cases h)⟩
    | 6, _ =>
      have hb : b6 = false := by simpa using hl
      clear ha hl
      subst hb
      obtain rfl : b11 = false := by cases b11 with | false => rfl | true => exact absurd (hall' rfl) (by simp)
      refine wpOpIn_step rfl fun K' hK => ?_
      go_simp
      exact hK _ _ ⟨b0, b1, b2, b3, b4, b5, true, b7, b8, b9, b10, false, U, rfl, rfl, fun h => (by cases h), hw, hres, fun h => (by cases h)⟩
    | 7, _ =>
      have hb : b7 = false := by simpa using hl
      have hd := ha _ rfl
      have d6 : b6 = true := by cases b6 with | true => rfl | false => simp [Region.binds] at hd
      clear hd
      clear ha hl
      subst hb d6
      obtain rfl : b11 = false := by cases b11 with | false => rfl | true => exact absurd (hall' rfl) (by simp)
      refine wpOpIn_step rfl fun K' hK => ?_
      go_simp
      exact hK _ _ ⟨b0, b1, b2, b3, b4, b5, true, true, b8, b9, b10, false, U, rfl, rfl, fun h => (by cases h), hw, hres, fun h => (by cases h)⟩
    | 8, _ =>
      have hb : b8 = false := by simpa using hl
      have hd := ha _ rfl
      have d5 : b5 = true := by cases b5 with | true => rfl | false => simp [Region.binds] at hd
      have d7 : b7 = true := by cases b7 with | true => rfl | false => simp [Region.binds] at hd
      clear hd
      clear ha hl
      subst hb d5 d7
      obtain rfl : b11 = false := by cases b11 with | false => rfl | true => exact absurd (hall' rfl) (by simp)
      refine wpOpIn_step rfl fun K' hK => ?_
      go_simp
      exact hK _ _ ⟨b0, b1, b2, b3, b4, true, b6, true, true, b9, b10, false, U, rfl, rfl, fun h => (by cases h), hw, hres, fun h => (by cases h)⟩
    | 9, _ =>
      have hb : b9 = false := by simpa using hl
      have hd := ha _ rfl
      have d8 : b8 = true := by cases b8 with | true => rfl | false => simp [Region.binds] at hd
      clear hd
      clear ha hl
      subst hb d8
      obtain rfl : b11 = false := by cases b11 with | false => rfl | true => exact absurd (hall' rfl) (by simp)
      have hbw : Below W2.heap.size W2 wq := by cases b10 with | false => exact (hw rfl) ▸ (Below.refl _ _).drew | true => exact (Below.refl W2.heap.size W2).drew.trans (hres rfl rfl).below
      have q0 := (hbw.cell (p := ⟨bb, oo + (i + 1) * 2, none⟩) (block_lt_of_cell g0)).trans g0; have q1 := (hbw.cell (p := ⟨bb, oo + (i + 1) * 2 + 1, none⟩) (block_lt_of_cell g1)).trans g1
      refine wpOpIn_step rfl fun K' hK => ?_
      go_simp
      exact hK _ _ ⟨b0, b1, b2, b3, b4, b5, b6, b7, true, true, b10, false, U, rfl, rfl, fun h => (by cases h), hw, hres, fun h => (by cases h)⟩
    | 10, _ =>
      have hb : b10 = false := by simpa using hl
      have hd := ha _ rfl
      have d0 : b0 = true := by cases b0 with | true => rfl | false => simp [Region.binds] at hd
      have d1 : b1 = true := by cases b1 with | true => rfl | false => simp [Region.binds] at hd
      have d2 : b2 = true := by cases b2 with | true => rfl | false => simp [Region.binds] at hd
      have d4 : b4 = true := by cases b4 with | true => rfl | false => simp [Region.binds] at hd
      have d9 : b9 = true := by cases b9 with | true => rfl | false => simp [Region.binds] at hd
      clear hd
      clear ha hl
      subst hb d0 d1 d2 d4 d9
      obtain rfl : b11 = false := by cases b11 with | false => rfl | true => exact absurd (hall' rfl) (by simp)
      obtain rfl := hw rfl
      refine wpOpIn_step rfl fun K' hK => ?_
      go_simp
      refine ⟨trivial, rfl, (callsIn_wide.2 (HC.out _ (Below.refl _ _).drew)).mono ?_⟩
      rintro e w1 ⟨U, rfl, hU⟩
      exact hK _ _ ⟨true, true, true, b3, true, b5, b6, b7, b8, true, true, false, _, rfl, rfl, fun h => (by cases h), fun h => (by cases h), fun _ _ => hU, fun h => (by cases h)⟩
    | 11, _ =>
      have hb : b11 = false := by simpa using hl
      have hd := ha _ rfl
      have d0 : b0 = true := by cases b0 with | true => rfl | false => simp [Region.binds] at hd
      have d1 : b1 = true := by cases b1 with | true => rfl | false => simp [Region.binds] at hd
      have d2 : b2 = true := by cases b2 with | true => rfl | false => simp [Region.binds] at hd
      have d3 : b3 = true := by cases b3 with | true => rfl | false => simp [Region.binds] at hd
      have d4 : b4 = true := by cases b4 with | true => rfl | false => simp [Region.binds] at hd
      have d5 : b5 = true := by cases b5 with | true => rfl | false => simp [Region.binds] at hd
      have d6 : b6 = true := by cases b6 with | true => rfl | false => simp [Region.binds] at hd
      have d7 : b7 = true := by cases b7 with | true => rfl | false => simp [Region.binds] at hd
      have d8 : b8 = true := by cases b8 with | true => rfl | false => simp [Region.binds] at hd
      have d9 : b9 = true := by cases b9 with | true => rfl | false => simp [Region.binds] at hd
      have d10 : b10 = true := by cases b10 with | true => rfl | false => simp [Region.binds] at hd
      clear hd
      clear ha hl
      subst hb d0 d1 d2 d3 d4 d5 d6 d7 d8 d9 d10
      obtain ⟨F, WV, CV, d, e, x', rfl, hst, hbl, hm⟩ := hres rfl rfl
      obtain ⟨⟨A1, c1, rfl⟩, ⟨A2, c2, rfl⟩, A3, c3, rfl⟩ := hst.form
      have hrow := hr.below ((Below.refl W2.heap.size W2).drew.trans hbl) hl2
      have q0 := hrow.cell (i := 0) (v := f) rfl; have q1 := hrow.cell (i := 1) (v := wv) rfl; have q2 := hrow.cell (i := 2) (v := cv) rfl; have q3 := hrow.cell (i := 3) (v := .int .i64 x.depth) rfl; have q4 := hrow.cell (i := 4) (v := .string ⟨#[]⟩) rfl; have q5 := hrow.cell (i := 5) (v := .int .i64 0) rfl; have q6 := hrow.cell (i := 6) (v := .int .i64 0) rfl; have qf := hrow.free
      refine wpOpIn_step rfl fun K' hK => ?_
      simp only [sV]
      go_simp
      exact hK _ _ ⟨true, true, true, true, true, true, true, true, true, true, true, true, _, rfl, rfl, fun _ => rfl, fun h => (by cases h), fun _ h => (by cases h), fun _ => ⟨_, _, _, _, _, _, rfl, ⟨_, _, _, _, _, _, rfl, hst, hbl, hm⟩, rfl⟩⟩
    | k + 12, hlt => exact absurd hlt (by show ¬ k + 12 < 12; omega)
  · rintro listed a wq ⟨b0, b1, b2, b3, b4, b5, b6, b7, b8, b9, b10, b11, U, rfl, rfl, hall', hw, hres, hfin⟩ hall
    have hh0 : b0 = true := by simpa using hall 0 (by decide)
    have hh1 : b1 = true := by simpa using hall 1 (by decide)
    have hh2 : b2 = true := by simpa using hall 2 (by decide)
    have hh3 : b3 = true := by simpa using hall 3 (by decide)
    have hh4 : b4 = true := by simpa using hall 4 (by decide)
    have hh5 : b5 = true := by simpa using hall 5 (by decide)
    have hh6 : b6 = true := by simpa using hall 6 (by decide)
    have hh7 : b7 = true := by simpa using hall 7 (by decide)
    have hh8 : b8 = true := by simpa using hall 8 (by decide)
    have hh9 : b9 = true := by simpa using hall 9 (by decide)
    have hh10 : b10 = true := by simpa using hall 10 (by decide)
    have hh11 : b11 = true := by simpa using hall 11 (by decide)
    clear hall
    subst hh0 hh1 hh2 hh3 hh4 hh5 hh6 hh7 hh8 hh9 hh10 hh11
    obtain ⟨F, WV, CV, d, e, w1, rfl, hU, rfl⟩ := hfin rfl
    exact hQ w1 F WV CV d e hU
end Go.Proofs.Ytignhjfobcnloaa
