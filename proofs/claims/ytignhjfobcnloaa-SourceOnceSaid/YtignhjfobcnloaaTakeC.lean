/- take's append of its own name. (Printed by gen_take12.py.) The taker's method take: what lies ahead of its loop. Read of any files, with its deferred call that recovers. -/
import Derived.Test.YtignhjfobcnloaaTakeB
import Derived.Defers
import Derived.Recover
import Derived.Deep.RegionHeld3
import Derived.Deep.DrawnRows
section
namespace Go.Proofs.Ytignhjfobcnloaa
open Go.RowKit
attribute [local go_sem] Oper.semAt_some
/-- behind the append of a name -/
def ApF (B : Nat) (W : World) (vf : Value) (x : RdS) (y : List UInt8) (U : Value) (w : World) : Prop := ∃ g cap, U = .slice (some ⟨g, 0, none⟩) (x.files.length + 1) cap ∧ w.ownsRow B 9 1 U (x.files.length + 1) (x.files.map strV ++ [strV y]) ∧
  (W.drew.alloc (.cells #[.string ⟨y.toArray⟩] 9)).grownBy w vf.ownBlock ∧ (vf.ownBlock = some g ∨ g = (W.drew.alloc (.cells #[.string ⟨y.toArray⟩] 9)).heap.size)
/-- what the append leaves -/
structure TkF (B T M XB NB FB : Nat) (fm vf' vw vc : Value) (x : RdS) (name : List UInt8) (W W4 : World) : Prop where
  ta : TakAt B W4 T M fm (openF x name) vf' vw vc
  kp : KpT B T W W4
  xr : Row W4 XB 134 #[.pointer (some ⟨T, 0, none⟩)]
  nr : Row W4 NB 9 #[.string ⟨name.toArray⟩]
  fr : Row W4 FB 3 #[.int .i64 (x.files.length : Nat)]
  nf : vf'.ownBlock ≠ some NB
set_option maxRecDepth 100000 in
set_option maxHeartbeats 4000000 in
theorem take_append {B T M XB NB FB : Nat} {fm vf vw vc : Value} {x : RdS} {name : List UInt8} {W : World} {u0 u1 u5 u6 u7 u8 u9 u10 u11 u12 u13 u14 u15 u16 u17 u18 u19 u20 u21 u22 u23 u24 u25 u26 u27 u28 u29 u30 u31 u32 u33 u34 u35 u36 u37 u38 u39 u40 u41 u42 u43 u44 u45 u46 u47 u48 u49 u50 u51 u52 u53 u54 u55 u56 u57 u58 u59 u60 u61 u62 u63 u64 u65 u66 u67 u68 u69 u70 u71 u72 u73 u74 u75 u76 u77 u78 u79 u80 u81 u82 u83 u84 u85 u86 u87 u88 u89 u90 u91 u92 u93 u94 u95 u96 u97 u98 u99 u100 u101 u102 u103 u104 u105 u106 u107 u108 u109 u110 u111 u112 u113 u114 u115 u116 u117 u118 u119 u120 u121 u122 u123 u124 u125 u126 u127 u128 u129 u130 u131 u132 u133 u134 u135 u136 u137 u138 u139 u140 u141 u142 u143 u144 u145 u146 u147 u148 u149 u150 u151 u152 u153 u154 u155 u156 u157 u158 u159 u160 u161 u162 u163 u164 u165 u166 u167 u168 u169 u170 u171 u172 u173 u174 u175 u176 u177 u178 : Value} {Q : Exit → Act → World → Prop} (h : TakAtS B W T M fm x (x.files ++ [name]) vf vw vc)
    (hx : Row W XB 134 #[.pointer (some ⟨T, 0, none⟩)]) (hn : Row W NB 9 #[.string ⟨name.toArray⟩]) (hf : Row W FB 3 #[.int .i64 (x.files.length : Nat)]) (hnv : vf.ownBlock ≠ some NB) (hl : x.files.length < 40)
    (hQ : ∀ (vf' : Value) (W4 : World) {u0 u1 u5 u6 u7 u8 u9 u10 u11 u12 u13 u14 u15 u16 u17 u18 u19 u20 u21 u22 u23 u24 u25 u26 u27 u28 u29 u30 u31 u32 u33 u34 u35 u36 u37 u38 u39 u40 u41 u42 u43 u44 u45 u46 u47 u48 u49 u50 u51 u52 u53 u54 u55 u56 u57 u58 u59 u60 u61 u62 u63 u64 u65 u66 u67 u68 u69 u70 u71 u72 u73 u74 u75 u76 u77 u78 u79 u80 u81 u82 u83 u84 u85 u86 u87 u88 u89 u90 u91 u92 u93 u94 u95 u96 u97 u98 u99 u100 u101 u102 u103 u104 u105 u106 u107 u108 u109 u110 u111 u112 u113 u114 u115 u116 u117 u118 u119 u120 u121 u122 u123 u124 u125 u126 u127 u128 u129 u130 u131 u132 u133 u134 u135 u136 u137 u138 u139 u140 u141 u142 u143 u144 u145 u146 u147 u148 u149 u150 u151 u152 u153 u154 u155 u156 u157 u158 u159 u160 u161 u162 u163 u164 u165 u166 u167 u168 u169 u170 u171 u172 u173 u174 u175 u176 u177 u178 : Value}, TkF B T M XB NB FB fm vf' vw vc x name W W4 → wpFn 63 Try.prog (tailC 4 takeC) Q { tmps := #[u0, u1, .pointer (some ⟨XB, 0, none⟩), .pointer (some ⟨NB, 0, none⟩), .pointer (some ⟨FB, 0, none⟩), u5, u6, u7, u8, u9, u10, u11, u12, u13, u14, u15, u16, u17, u18, u19, u20, u21, u22, u23, u24, u25, u26, u27, u28, u29, u30, u31, u32, u33, u34, u35, u36, u37, u38, u39, u40, u41, u42, u43, u44, u45, u46, u47, u48, u49, u50, u51, u52, u53, u54, u55, u56, u57, u58, u59, u60, u61, u62, u63, u64, u65, u66, u67, u68, u69, u70, u71, u72, u73, u74, u75, u76, u77, u78, u79, u80, u81, u82, u83, u84, u85, u86, u87, u88, u89, u90, u91, u92, u93, u94, u95, u96, u97, u98, u99, u100, u101, u102, u103, u104, u105, u106, u107, u108, u109, u110, u111, u112, u113, u114, u115, u116, u117, u118, u119, u120, u121, u122, u123, u124, u125, u126, u127, u128, u129, u130, u131, u132, u133, u134, u135, u136, u137, u138, u139, u140, u141, u142, u143, u144, u145, u146, u147, u148, u149, u150, u151, u152, u153, u154, u155, u156, u157, u158, u159, u160, u161, u162, u163, u164, u165, u166, u167, u168, u169, u170, u171, u172, u173, u174, u175, u176, u177, u178], defers := [] } W4) :
    wpFn 63 Try.prog (tailC 3 takeC) Q { tmps := #[u0, u1, .pointer (some ⟨XB, 0, none⟩), .pointer (some ⟨NB, 0, none⟩), .pointer (some ⟨FB, 0, none⟩), u5, u6, u7, u8, u9, u10, u11, u12, u13, u14, u15, u16, u17, u18, u19, u20, u21, u22, u23, u24, u25, u26, u27, u28, u29, u30, u31, u32, u33, u34, u35, u36, u37, u38, u39, u40, u41, u42, u43, u44, u45, u46, u47, u48, u49, u50, u51, u52, u53, u54, u55, u56, u57, u58, u59, u60, u61, u62, u63, u64, u65, u66, u67, u68, u69, u70, u71, u72, u73, u74, u75, u76, u77, u78, u79, u80, u81, u82, u83, u84, u85, u86, u87, u88, u89, u90, u91, u92, u93, u94, u95, u96, u97, u98, u99, u100, u101, u102, u103, u104, u105, u106, u107, u108, u109, u110, u111, u112, u113, u114, u115, u116, u117, u118, u119, u120, u121, u122, u123, u124, u125, u126, u127, u128, u129, u130, u131, u132, u133, u134, u135, u136, u137, u138, u139, u140, u141, u142, u143, u144, u145, u146, u147, u148, u149, u150, u151, u152, u153, u154, u155, u156, u157, u158, u159, u160, u161, u162, u163, u164, u165, u166, u167, u168, u169, u170, u171, u172, u173, u174, u175, u176, u177, u178], defers := [] } W := by
  obtain ⟨fA, fc, rfl, hfc⟩ := own_form h.fo
  have HQ := Lib.hid hQ
  have HFO : Hid (W.drew.ownsRow B 9 1 (.slice fA x.files.length fc) x.files.length (x.files.map strV)) := Lib.hid (own_below h.fo (Below.refl _ _).drew)
  have HNV : Hid (some NB ≠ (Value.slice fA x.files.length fc).ownBlock) := Lib.hid hnv.symm
  have HH := Lib.hid h
  have hlo := h.lo
  have hTl := h.row.lt
  have hnl := hn.lt
  have hr0 := h.row
  clear hQ hnv h
  simp only [takeC, tailC, Try.f63, Option.getD_some] at HQ ⊢
  refine wpFn_seq (wpFn_of 3 ?_)
  refine wpIn_region_any (by kernel_rfl) ?_
  refine wpAnyIn_inv (Inv := fun listed a w => ∃ (b0 b1 b2 b3 b4 b5 b6 b7 b8 b9 b10 b11 b12 : Bool) (U : Value), listed = #[b0, b1, b2, b3, b4, b5, b6, b7, b8, b9, b10, b11, b12] ∧ a = { tmps := #[u0, u1, .pointer (some ⟨XB, 0, none⟩), .pointer (some ⟨NB, 0, none⟩), .pointer (some ⟨FB, 0, none⟩), u5, u6, u7, u8, u9, u10, u11, u12, u13, u14, u15, u16, u17, u18, u19, u20, u21, u22, u23, u24, u25, (bif b0 then .pointer (some ⟨T, 0, none⟩) else u26), (bif b1 then .pointer (some ⟨T, 0, none⟩) else u27), (bif b2 then .pointer (some ⟨T, 0, none⟩) else u28), (bif b3 then .pointer (some ⟨T, 2, none⟩) else u29), (bif b4 then .pointer (some ⟨T, 2, none⟩) else u30), (bif b5 then .slice fA x.files.length fc else u31), (bif b6 then .string ⟨name.toArray⟩ else u32), (bif b7 then .slice (some ⟨W.heap.size, 0, none⟩) 1 1 else u33), (bif b8 then U else u34), (bif b9 then .pointer (some ⟨T, 0, none⟩) else u35), (bif b10 then .pointer (some ⟨T, 2, none⟩) else u36), (bif b11 then .pointer (some ⟨T, 2, none⟩) else u37), u38, u39, u40, u41, u42, u43, u44, u45, u46, u47, u48, u49, u50, u51, u52, u53, u54, u55, u56, u57, u58, u59, u60, u61, u62, u63, u64, u65, u66, u67, u68, u69, u70, u71, u72, u73, u74, u75, u76, u77, u78, u79, u80, u81, u82, u83, u84, u85, u86, u87, u88, u89, u90, u91, u92, u93, u94, u95, u96, u97, u98, u99, u100, u101, u102, u103, u104, u105, u106, u107, u108, u109, u110, u111, u112, u113, u114, u115, u116, u117, u118, u119, u120, u121, u122, u123, u124, u125, u126, u127, u128, u129, u130, u131, u132, u133, u134, u135, u136, u137, u138, u139, u140, u141, u142, u143, u144, u145, u146, u147, u148, u149, u150, u151, u152, u153, u154, u155, u156, u157, u158, u159, u160, u161, u162, u163, u164, u165, u166, u167, u168, u169, u170, u171, u172, u173, u174, u175, u176, u177, u178], defers := [] } ∧ (b12 = true → (b0 && b1 && b2 && b3 && b4 && b5 && b6 && b7 && b8 && b9 && b10 && b11) = true) ∧ (b8 = true → b7 = true) ∧ (b11 = true → b10 = true) ∧ (b10 = true → b9 = true) ∧ (b12 = false → Row w XB 134 #[.pointer (some ⟨T, 0, none⟩)] ∧ Row w T 136 #[fm, .map (some M), .slice fA x.files.length fc, vw, vc, .int .i64 x.depth] ∧ Row w NB 9 #[.string ⟨name.toArray⟩]) ∧ (b7 = false → w = W.drew) ∧ (b7 = true → b8 = false → w = W.drew.alloc (.cells #[.string ⟨name.toArray⟩] 9)) ∧ (b8 = true → b12 = false → ApF B W (.slice fA x.files.length fc) x name U w) ∧ (b12 = true → ∃ wz, ApF B W (.slice fA x.files.length fc) x name U wz ∧ w = wz.setCell ⟨T, 2, none⟩ U)) (by kernel_rfl) ?_ ?_ ?_ _ _ _ _ ?_ ?_
  · rintro listed a w ⟨b0, b1, b2, b3, b4, b5, b6, b7, b8, b9, b10, b11, b12, U, rfl, _⟩
    rfl
  · rintro i listed a w hi ⟨b0, b1, b2, b3, b4, b5, b6, b7, b8, b9, b10, b11, b12, U, rfl, rfl, h12, h8, c11, c10, hrows, hp7, hp78, hp8, hp12⟩ hl2 ha
    have hl := hl2
    clear hl2
    match i, hi with
    | 0, _ =>
      have hb : b0 = false := by simpa using hl
      clear ha hl
      subst hb
      have hb12 : b12 = false := by cases b12 with | false => rfl | true => exact absurd (h12 rfl) (by simp)
      subst hb12
      have rows := hrows rfl
      have x0 := rows.1.cell (i := 0) (v := .pointer (some ⟨T, 0, none⟩)) rfl
      refine wpOpIn_step rfl fun K' hK => ?_
      go_simp
      exact hK _ _ ⟨true, b1, b2, b3, b4, b5, b6, b7, b8, b9, b10, b11, false, U, rfl, rfl, fun h => (by cases h), h8, c11, c10, fun _ => rows, hp7, hp78, hp8, fun h => (by cases h)⟩
    | 1, _ =>
      have hb : b1 = false := by simpa using hl
      clear ha hl
      subst hb
      have hb12 : b12 = false := by cases b12 with | false => rfl | true => exact absurd (h12 rfl) (by simp)
      subst hb12
      have rows := hrows rfl
      have x0 := rows.1.cell (i := 0) (v := .pointer (some ⟨T, 0, none⟩)) rfl
      refine wpOpIn_step rfl fun K' hK => ?_
      go_simp
      exact hK _ _ ⟨b0, true, b2, b3, b4, b5, b6, b7, b8, b9, b10, b11, false, U, rfl, rfl, fun h => (by cases h), h8, c11, c10, fun _ => rows, hp7, hp78, hp8, fun h => (by cases h)⟩
    | 2, _ =>
      have hb : b2 = false := by simpa using hl
      have hd := ha _ rfl
      have d1 : b1 = true := by cases b1 with | true => rfl | false => simp [Region.binds] at hd
      clear hd
      clear ha hl
      subst hb d1
      have hb12 : b12 = false := by cases b12 with | false => rfl | true => exact absurd (h12 rfl) (by simp)
      subst hb12
      have rows := hrows rfl
      refine wpOpIn_step rfl fun K' hK => ?_
      go_simp
      exact hK _ _ ⟨b0, true, true, b3, b4, b5, b6, b7, b8, b9, b10, b11, false, U, rfl, rfl, fun h => (by cases h), h8, c11, c10, fun _ => rows, hp7, hp78, hp8, fun h => (by cases h)⟩
    | 3, _ =>
      have hb : b3 = false := by simpa using hl
      have hd := ha _ rfl
      have d2 : b2 = true := by cases b2 with | true => rfl | false => simp [Region.binds] at hd
      clear hd
      clear ha hl
      subst hb d2
      have hb12 : b12 = false := by cases b12 with | false => rfl | true => exact absurd (h12 rfl) (by simp)
      subst hb12
      have rows := hrows rfl
      refine wpOpIn_step rfl fun K' hK => ?_
      go_simp
      exact hK _ _ ⟨b0, b1, true, true, b4, b5, b6, b7, b8, b9, b10, b11, false, U, rfl, rfl, fun h => (by cases h), h8, c11, c10, fun _ => rows, hp7, hp78, hp8, fun h => (by cases h)⟩
    | 4, _ =>
      have hb : b4 = false := by simpa using hl
      have hd := ha _ rfl
      have d3 : b3 = true := by cases b3 with | true => rfl | false => simp [Region.binds] at hd
      clear hd
      clear ha hl
      subst hb d3
      have hb12 : b12 = false := by cases b12 with | false => rfl | true => exact absurd (h12 rfl) (by simp)
      subst hb12
      have rows := hrows rfl
      refine wpOpIn_step rfl fun K' hK => ?_
      go_simp
      exact hK _ _ ⟨b0, b1, b2, true, true, b5, b6, b7, b8, b9, b10, b11, false, U, rfl, rfl, fun h => (by cases h), h8, c11, c10, fun _ => rows, hp7, hp78, hp8, fun h => (by cases h)⟩
    | 5, _ =>
      have hb : b5 = false := by simpa using hl
      have hd := ha _ rfl
      have d4 : b4 = true := by cases b4 with | true => rfl | false => simp [Region.binds] at hd
      clear hd
      clear ha hl
      subst hb d4
      have hb12 : b12 = false := by cases b12 with | false => rfl | true => exact absurd (h12 rfl) (by simp)
      subst hb12
      have rows := hrows rfl
      have t4 := rows.2.1.cell (i := 2) (v := .slice fA x.files.length fc) rfl
      refine wpOpIn_step rfl fun K' hK => ?_
      go_simp
      exact hK _ _ ⟨b0, b1, b2, b3, true, true, b6, b7, b8, b9, b10, b11, false, U, rfl, rfl, fun h => (by cases h), h8, c11, c10, fun _ => rows, hp7, hp78, hp8, fun h => (by cases h)⟩
    | 6, _ =>
      have hb : b6 = false := by simpa using hl
      clear ha hl
      subst hb
      have hb12 : b12 = false := by cases b12 with | false => rfl | true => exact absurd (h12 rfl) (by simp)
      subst hb12
      have rows := hrows rfl
      have z0 := rows.2.2.cell (i := 0) (v := .string ⟨name.toArray⟩) rfl
      refine wpOpIn_step rfl fun K' hK => ?_
      go_simp
      exact hK _ _ ⟨b0, b1, b2, b3, b4, b5, true, b7, b8, b9, b10, b11, false, U, rfl, rfl, fun h => (by cases h), h8, c11, c10, fun _ => rows, hp7, hp78, hp8, fun h => (by cases h)⟩
    | 7, _ =>
      have hb : b7 = false := by simpa using hl
      have hd := ha _ rfl
      have d6 : b6 = true := by cases b6 with | true => rfl | false => simp [Region.binds] at hd
      clear hd
      clear ha hl
      subst hb d6
      have hb12 : b12 = false := by cases b12 with | false => rfl | true => exact absurd (h12 rfl) (by simp)
      subst hb12
      have rows := hrows rfl
      have hb8 : b8 = false := by cases b8 with | false => rfl | true => exact absurd (h8 rfl) (by simp)
      subst hb8
      obtain rfl := hp7 rfl
      refine wpOpIn_step rfl fun K' hK => ?_
      go_simp
      exact hK _ _ ⟨b0, b1, b2, b3, b4, b5, true, true, false, b9, b10, b11, false, U, rfl, rfl, fun h => (by cases h), fun _ => rfl, c11, c10, fun _ => ⟨rows.1.alloc _, rows.2.1.alloc _, rows.2.2.alloc _⟩, fun h => (by cases h), fun _ _ => rfl, fun h => (by cases h), fun h => (by cases h)⟩
    | 8, _ =>
      have hb : b8 = false := by simpa using hl
      have hd := ha _ rfl
      have d5 : b5 = true := by cases b5 with | true => rfl | false => simp [Region.binds] at hd
      have d7 : b7 = true := by cases b7 with | true => rfl | false => simp [Region.binds] at hd
      clear hd
      clear ha hl
      subst hb d5 d7
      have hb12 : b12 = false := by cases b12 with | false => rfl | true => exact absurd (h12 rfl) (by simp)
      subst hb12
      have rows := hrows rfl
      obtain rfl := hp78 rfl rfl
      obtain ⟨i0, hi0, hj0, hj1, hj2⟩ := info_parts infoStr
      obtain ⟨g, cap, wz, hrun, ho, hgr, hat, _⟩ := run_append_lies (P := Try.prog) (w := W.drew.alloc (.cells #[.string ⟨name.toArray⟩] 9)) 22 22 B 9 i0 _ 1 16 Try.underlying22 hi0 hj0 hj1 hj2 rfl (by decide) (.slice fA x.files.length fc) x.files.length (x.files.map strV) (own_alloc' HFO.out _) ⟨W.heap.size, 0, none⟩ 1 1 [strV name] rfl (cells_of' _ _ _ _ rfl rfl) (by simp [strV, Value.oneCell']) (by decide) (by unfold maxLen; omega) (by omega) (by simp; omega) _ rfl
      refine wpOpIn_append rfl rfl (.tmp 31) (.tmp 33) 22 rfl rfl rfl hrun ?_
      have ne : ∀ (k : Nat) (cs : Array Value) (e : TypeId), Row (W.drew.alloc (.cells #[.string ⟨name.toArray⟩] 9)) k e cs → e ≠ 9 → some k ≠ (Value.slice fA x.files.length fc).ownBlock := fun k cs e hk he e2 => by
        obtain ⟨_, c', h2⟩ := own_obj (own_alloc' HFO.out (.cells #[.string ⟨name.toArray⟩] 9)) e2.symm
        exact he (cells_inj hk h2).2.1
      refine ⟨b0, b1, b2, b3, b4, true, b6, true, true, b9, b10, b11, false, _, rfl, rfl, fun h => (by cases h), fun _ => rfl, c11, c10, fun _ => ⟨rows.1.grown hgr (ne _ _ _ rows.1 (by decide)), rows.2.1.grown hgr (ne _ _ _ rows.2.1 (by decide)), rows.2.2.grown hgr (HNV.out)⟩, fun h => (by cases h), fun _ h => (by cases h), fun _ _ => ⟨g, cap, rfl, ho, hgr, hat⟩, fun h => (by cases h)⟩
    | 9, _ =>
      have hb : b9 = false := by simpa using hl
      have hd := ha _ rfl
      have d0 : b0 = true := by cases b0 with | true => rfl | false => simp [Region.binds] at hd
      have d1 : b1 = true := by cases b1 with | true => rfl | false => simp [Region.binds] at hd
      have d2 : b2 = true := by cases b2 with | true => rfl | false => simp [Region.binds] at hd
      have d3 : b3 = true := by cases b3 with | true => rfl | false => simp [Region.binds] at hd
      have d4 : b4 = true := by cases b4 with | true => rfl | false => simp [Region.binds] at hd
      have d5 : b5 = true := by cases b5 with | true => rfl | false => simp [Region.binds] at hd
      have d6 : b6 = true := by cases b6 with | true => rfl | false => simp [Region.binds] at hd
      have d7 : b7 = true := by cases b7 with | true => rfl | false => simp [Region.binds] at hd
      have d8 : b8 = true := by cases b8 with | true => rfl | false => simp [Region.binds] at hd
      clear hd
      clear ha hl
      subst hb d0 d1 d2 d3 d4 d5 d6 d7 d8
      have hb12 : b12 = false := by cases b12 with | false => rfl | true => exact absurd (h12 rfl) (by simp)
      subst hb12
      have rows := hrows rfl
      refine wpOpIn_step rfl fun K' hK => ?_
      go_simp
      exact hK _ _ ⟨true, true, true, true, true, true, true, true, true, true, b10, b11, false, U, rfl, rfl, fun h => (by cases h), h8, c11, fun _ => rfl, fun _ => rows, hp7, hp78, hp8, fun h => (by cases h)⟩
    | 10, _ =>
      have hb : b10 = false := by simpa using hl
      have hd := ha _ rfl
      have d9 : b9 = true := by cases b9 with | true => rfl | false => simp [Region.binds] at hd
      clear hd
      clear ha hl
      subst hb d9
      have hb12 : b12 = false := by cases b12 with | false => rfl | true => exact absurd (h12 rfl) (by simp)
      subst hb12
      have rows := hrows rfl
      refine wpOpIn_step rfl fun K' hK => ?_
      go_simp
      exact hK _ _ ⟨b0, b1, b2, b3, b4, b5, b6, b7, b8, true, true, b11, false, U, rfl, rfl, fun h => (by cases h), h8, fun _ => rfl, fun _ => rfl, fun _ => rows, hp7, hp78, hp8, fun h => (by cases h)⟩
    | 11, _ =>
      have hb : b11 = false := by simpa using hl
      have hd := ha _ rfl
      have d10 : b10 = true := by cases b10 with | true => rfl | false => simp [Region.binds] at hd
      clear hd
      clear ha hl
      subst hb d10
      obtain rfl := c10 rfl
      have hb12 : b12 = false := by cases b12 with | false => rfl | true => exact absurd (h12 rfl) (by simp)
      subst hb12
      have rows := hrows rfl
      refine wpOpIn_step rfl fun K' hK => ?_
      go_simp
      exact hK _ _ ⟨b0, b1, b2, b3, b4, b5, b6, b7, b8, true, true, true, false, U, rfl, rfl, fun h => (by cases h), h8, fun _ => rfl, fun _ => rfl, fun _ => rows, hp7, hp78, hp8, fun h => (by cases h)⟩
    | 12, _ =>
      have hb : b12 = false := by simpa using hl
      have hd := ha _ rfl
      have d11 : b11 = true := by cases b11 with | true => rfl | false => simp [Region.binds] at hd
      have d0 : b0 = true := by cases b0 with | true => rfl | false => simp [Region.binds] at hd
      have d1 : b1 = true := by cases b1 with | true => rfl | false => simp [Region.binds] at hd
      have d2 : b2 = true := by cases b2 with | true => rfl | false => simp [Region.binds] at hd
      have d3 : b3 = true := by cases b3 with | true => rfl | false => simp [Region.binds] at hd
      have d4 : b4 = true := by cases b4 with | true => rfl | false => simp [Region.binds] at hd
      have d5 : b5 = true := by cases b5 with | true => rfl | false => simp [Region.binds] at hd
      have d6 : b6 = true := by cases b6 with | true => rfl | false => simp [Region.binds] at hd
      have d7 : b7 = true := by cases b7 with | true => rfl | false => simp [Region.binds] at hd
      have d8 : b8 = true := by cases b8 with | true => rfl | false => simp [Region.binds] at hd
      clear hd
      clear ha hl
      subst hb d11 d0 d1 d2 d3 d4 d5 d6 d7 d8
      obtain rfl := c11 rfl
      obtain rfl := c10 rfl
      have rows := hrows rfl
      obtain ⟨g, cap, rfl, ho, hgr, hat⟩ := hp8 rfl rfl
      clear hp7 hp78 hp8 hp12
      have t4 := rows.2.1.cell (i := 2) (v := .slice fA x.files.length fc) rfl; have t5 := rows.2.1.free 2
      refine wpOpIn_step rfl fun K' hK => ?_
      go_simp
      exact hK _ _ ⟨true, true, true, true, true, true, true, true, true, true, true, true, true, _, rfl, rfl, fun _ => rfl, h8, fun _ => rfl, fun _ => rfl, fun h => (by cases h), fun h => (by cases h), fun _ h => (by cases h), fun _ h => (by cases h), fun _ => ⟨_, ⟨g, cap, rfl, ho, hgr, hat⟩, rfl⟩⟩
    | k + 13, hlt => exact absurd hlt (by show ¬ k + 13 < 13; omega)
  · rintro listed a w ⟨b0, b1, b2, b3, b4, b5, b6, b7, b8, b9, b10, b11, b12, U, rfl, rfl, h12, h8, c11, c10, hrows, hp7, hp78, hp8, hp12⟩ hall
    have hbb : b12 = true := by simpa using hall 12 (by decide)
    obtain ⟨wz, ⟨g, cap, rfl, ho, hgr, hat⟩, rfl⟩ := hp12 hbb
    clear hall h12 h8 c11 c10 hrows hp7 hp78 hp8 hp12
    have hb : Below W.heap.size W (W.drew.alloc (.cells #[.string ⟨name.toArray⟩] 9)) := new_ (Below.refl _ _).drew _
    obtain ⟨hT4, hK4⟩ := tak_fileS HH.out hb hgr ho hat
    have ne : ∀ (k : Nat) (cs : Array Value) (e : TypeId), Row (W.drew.alloc (.cells #[.string ⟨name.toArray⟩] 9)) k e cs → e ≠ 9 → some k ≠ (Value.slice fA x.files.length fc).ownBlock := fun k cs e hk he e2 => by
      obtain ⟨_, c', h2⟩ := own_obj (own_alloc' HFO.out (.cells #[.string ⟨name.toArray⟩] 9)) e2.symm
      exact he (cells_inj hk h2).2.1
    have hr1 := (hr0.below hb hTl).grown hgr (ne _ _ _ (hr0.below hb hTl) (by decide))
    have hx1 := (hx.below hb hx.lt).grown hgr (ne _ _ _ (hx.below hb hx.lt) (by decide))
    have hf1 := (hf.below hb hf.lt).grown hgr (ne _ _ _ (hf.below hb hf.lt) (by decide))
    have hn1 := (hn.below hb hn.lt).grown hgr HNV.out
    refine HQ.out _ _ ⟨hT4, hK4, hx1.other (row_ne hx1 hr1 (by decide)) _, hn1.other (row_ne hn1 hr1 (by decide)) _, hf1.other (row_ne hf1 hr1 (by decide)) _, fun e => ?_⟩
    obtain rfl : g = NB := by simpa [Value.ownBlock] using e
    rcases hat with e | e
    · exact HNV.out e.symm
    · simp at e; omega
  · refine ⟨false, false, false, false, false, false, false, false, false, false, false, false, false, .pointer none, rfl, rfl, ?_, ?_, ?_, ?_, ?_, ?_, ?_, ?_, ?_⟩
    · intro h; cases h
    · intro h; cases h
    · intro h; cases h
    · intro h; cases h
    · exact fun _ => ⟨hx, hr0, hn⟩
    · exact fun _ => rfl
    · intro h; cases h
    · intro h; cases h
    · intro h; cases h
  · simp
end Go.Proofs.Ytignhjfobcnloaa
end
section
namespace Go.Proofs.Ytignhjfobcnloaa
open Go.RowKit
attribute [local go_sem] Oper.semAt_some
theorem own_alloc {w : World} {b n s : Nat} {e : TypeId} {v : Value} {xs : List Value} (h : w.ownsRow b e s v n xs) (o : Obj) : (w.alloc o).ownsRow b e s v n xs := own_below h (new_ (Below.refl _ _) o)
theorem own_drew' {w : World} {base : Nat} {e : TypeId} {size n : Nat} {v : Value} {xs : List Value} (h : w.ownsRow base e size v n xs) : w.drew.ownsRow base e size v n xs := h
set_option maxRecDepth 100000 in
set_option maxHeartbeats 4000000 in
theorem take_pre {f B : Nat} {fm : Value} {fs : List UInt8 → Option (List UInt8)} (TK : TakeOk f B fm fs) (w : World) (T M : Nat) (x : RdS) (vf vw vc : Value) (name : List UInt8) (hF : FilesAt B w fm fs) (h : TakAt B w T M fm x vf vw vc) (ok : OkR x) (hco : x.coms.length ≤ 8000 * x.files.length)
    (hn : name.length ≤ maxLen) (_hnm : name ∉ x.files) (_hfs : (fs name).isSome = true) (h40 : x.files.length < 40) (hfu : 41 ≤ f + 1 + x.files.length) :
    Calls Try.prog 63 #[.pointer (some ⟨T, 0, none⟩), .string ⟨name.toArray⟩] w (TakePost B T M fm w (takeS fs (f + 1) x name)) := by
  have HF := Lib.hid hF
  have HT := Lib.hid h
  have hlt := h.row.lt
  have hml := h.set.lt
  have hlo := h.lo
  have hBz : B ≤ w.heap.size := by omega
  obtain ⟨W1, hW1⟩ : ∃ W1, W1 = (w.alloc (.cells #[.pointer (some ⟨T, 0, none⟩)] 134)).alloc (.cells #[.string ⟨name.toArray⟩] 9) := ⟨_, rfl⟩
  have hb1 : Below w.heap.size w W1 := by rw [hW1]; exact new_ (new_ (Below.refl _ _) _) _
  have hX : Row W1 w.heap.size 134 #[.pointer (some ⟨T, 0, none⟩)] := by rw [hW1]; exact (Row.new _ _ _).alloc _
  have hNB : Row W1 (w.heap.size + 1) 9 #[.string ⟨name.toArray⟩] := by rw [hW1]; exact Row.new' _ _ _ (by simp)
  have hT1 := h.below hb1
  have hz1 : W1.heap.size = w.heap.size + 2 := by rw [hW1]; simp
  have HW1 := Lib.hid hW1
  have HZ1 := Lib.hid hz1
  clear hW1 hz1
  have x0 := hX.cell (i := 0) (v := .pointer (some ⟨T, 0, none⟩)) rfl
  have n0 := hNB.cell (i := 0) (v := .string ⟨name.toArray⟩) rfl
  have t1 := hT1.row.cell (i := 1) (v := .map (some M)) rfl
  obtain ⟨W2, hput, hset2, hg2⟩ := (hT1.set.below (Below.refl W1.heap.size W1).drew).put name hn (by unfold maxLen; omega)
  have HT1 := Lib.hid hT1
  have HXR := Lib.hid hX
  have HNR := Lib.hid hNB
  have HB1 := Lib.hid hb1
  clear hT1 hX hNB hb1
  refine (callsIn_wide (n := 3)).1 ?_
  refine calls_of_wpFn 3 Try.func63 rfl (wpFn_mono (Q := postT Try.prog Try.f63 _) ?_ fun _ _ _ => postT_body)
  simp only [Try.ntmps63, List.size_toArray, List.length_cons, List.length_nil, Nat.reduceAdd, Nat.reduceSub, Array.replicate_succ, Array.replicate_zero, List.push_toArray, List.append_toArray, List.nil_append, List.cons_append]
  refine wpFn_seq (wpFn_of 3 ?_)
  gi_wp2
  rw [← HW1.out]
  have hmo : Try.prog.follows .mixedOrders = true := by kernel_rfl
  refine wpFn_seq (wpFn_of 3 (wpIn_wide.2 ?_))
  go_region
  obtain ⟨hTS, hKT⟩ := tak_name (HT1.out.below (Below.refl _ _).drew) hg2 hset2
  obtain ⟨fA, fc, rfl, hfc⟩ := own_form hTS.fo
  have hX2 := (HXR.out.drew).grown hg2 (by simp; exact fun e => setM_row (HT1.out.set.below (Below.refl _ _).drew) HXR.out.drew e.symm)
  have hN2 := (HNR.out.drew).grown hg2 (by simp; exact fun e => setM_row (HT1.out.set.below (Below.refl _ _).drew) HNR.out.drew e.symm)
  have hsz2 : W1.heap.size ≤ W2.heap.size := hg2.size
  clear x0 n0 t1 hput hset2 hg2
  obtain ⟨W3, hW3⟩ : ∃ W3, W3 = W2.alloc (.cells #[.int .i64 x.files.length] 3) := ⟨_, rfl⟩
  have HW3 := Lib.hid hW3
  have hb3 : Below W2.heap.size W2 W3 := by rw [hW3]; exact new_ (Below.refl _ _) _
  have hTS3 := hTS.below hb3
  have hX3 := hX2.below hb3 hX2.lt
  have hN3 := hN2.below hb3 hN2.lt
  have hF3 : Row W3 W2.heap.size 3 #[.int .i64 x.files.length] := by rw [hW3]; exact Row.new _ _ _
  have HZ3 : Hid (W3.heap.size = W2.heap.size + 1) := Lib.hid (by rw [hW3]; simp)
  clear hW3
  have x2 := hX2.cell (i := 0) (v := .pointer (some ⟨T, 0, none⟩)) rfl
  have t2 := hTS.row.cell (i := 2) (v := .slice fA x.files.length fc) rfl
  have HX2 := Lib.hid hX2
  have HTS := Lib.hid hTS
  clear hX2 hN2 hTS
  simp only [Exit.then]
  refine wpFn_seq (wpFn_of 3 ?_)
  gi_wp2
  rw [← HW3.out]
  have hw1 := HB1.out.size
  have hBz3 : B ≤ W3.heap.size := by have := hb3.size; omega
  have hK3 : KpT B T w W3 := (KpT.of_below HB1.out hBz).trans ((KpT.of_below (Below.refl _ _).drew (by have := HB1.out.size; omega)).trans (hKT.trans (KpT.of_below hb3 (by omega))))
  have hnv : (Value.slice fA x.files.length fc).ownBlock ≠ some (w.heap.size + 1) := fun e => by have := (HT.out.fo.lt _ e).2; omega
  refine take_append hTS3 hX3 hN3 hF3 hnv h40 ?_
  intro vf' W4
  intros
  rename_i h4
  have hk4 := hK3.trans h4.kp
  have HH : TkH f B T M w.heap.size (w.heap.size + 1) W2.heap.size fm fs x name w W4 vf' vw vc :=
    ⟨TK, HF.out.below hk4.below_of, h4.ta, hk4, KeepN.taker HT.out HF.out.lf hk4, h4.xr, h4.nr, h4.fr, Nat.le_refl _, by omega, by have := HB1.out.size; omega, h4.nf, hBz, ok, hco, h40, hfu, hn⟩
  refine take_strip HH ?_
  intro v1 v2 WB w6
  intros
  rename_i ha
  exact take_rest HH ha
/-- take's contract, whatever the fuel -/
theorem take_ok (B : Nat) (fm : Value) (fs : List UInt8 → Option (List UInt8)) : ∀ f, TakeOk f B fm fs := by
  intro f
  induction f with
  | zero => intro w T M x vf vw vc name hF h ok hco hn hnm hfs h40 hfu; omega
  | succ f ih => exact fun w T M x vf vw vc name hF h ok hco hn hnm hfs h40 hfu => take_pre ih w T M x vf vw vc name hF h ok hco hn hnm hfs h40 (by omega)
end Go.Proofs.Ytignhjfobcnloaa
end
section
namespace Go.Proofs.Ytignhjfobcnloaa
open Go.RowKit
theorem assertFound (W : World) (v : Value) : (Instr.typeAssert (.iface 138 v) 20 138 true).run Try.prog W = .ok (.tuple #[v, .bool true]) W := by kernel_rfl
/-- behind the closure that recovers -/
def CaughtQ (R : World → Prop) : Exit → Act → World → Prop
  | .normal, act, w' | .ret, act, w' => act.defers = [] ∧ R w'
  | _, _, _ => False
def CaughtR (w : World) (a b c B : Nat) (er : ErrD) (w' : World) : Prop := Row w' a 54 #[.slice none 0 0, .slice none 0 0, .slice none 0 0] ∧ Row w' b 56 #[.string ⟨er.1.toArray⟩, .int .i64 er.2.1] ∧ Row w' c 46 #[.int .i64 er.2.2] ∧ Below B w w'

set_option maxRecDepth 100000 in
set_option maxHeartbeats 4000000 in
theorem caught (w : World) (a b c B : Nat) (er : ErrD) (u0 u1 u2 z0 z1 z2 : Value) (ha : Row w a 54 #[u0, u1, u2]) (hb : Row w b 56 #[z0, z1]) (hc : Row w c 46 #[z2]) (h1 : B ≤ a) (h2 : B ≤ b) (h3 : B ≤ c) (hab : a ≠ b) (hac : a ≠ c) (hbc : b ≠ c) :
    CallsD Try.prog 62 #[.pointer (some ⟨a, 0, none⟩), .pointer (some ⟨b, 0, none⟩), .pointer (some ⟨c, 0, none⟩)] (.panicking [{ v := .iface 138 (foundV er), recovered := false }]) w fun e u' w' =>
      e = .returned (.tuple #[]) ∧ u' = .panicking [{ v := .iface 138 (foundV er), recovered := true }] ∧ CaughtR w a b c B er w' := by
  refine callsD_of_wpS Try.func62 rfl fun c₀ cs hu => ?_
  simp only [Try.ntmps62, List.size_toArray, List.length_cons, List.length_nil, Nat.reduceAdd, Nat.reduceSub, Array.replicate_succ, Array.replicate_zero, List.push_toArray, List.append_toArray, List.nil_append, List.cons_append]
  apply wpS_seq
  apply wpS_region
  simp [wpOpsS, go_sem, recoverD, hu, Exit.thenS]
  refine wpS_of_wp (Code.wp_mono (Q := CaughtQ (CaughtR w a b c B er)) ?_ ?_)
  · intro e a' w' h
    cases e with
    | normal => exact ⟨h.1, _, rfl, _, results_none rfl _ _ _, rfl, rfl, h.2⟩
    | ret => exact ⟨h.1, _, rfl, _, results_none rfl _ _ _, rfl, rfl, h.2⟩
    | panic ch => exact h.elim
    | exit id => exact h.elim
    | goto l => exact h.elim
    | outgrown => exact h.elim
  have HA := Lib.hid ha
  have HB := Lib.hid hb
  have HC := Lib.hid hc
  have HU := Lib.hid hu
  have a0 := ha.cell (i := 0) (v := u0) rfl
  have a1 := ha.cell (i := 1) (v := u1) rfl
  have a2 := ha.cell (i := 2) (v := u2) rfl
  have b0 := hb.cell (i := 0) (v := z0) rfl
  have b1 := hb.cell (i := 1) (v := z1) rfl
  have c0 := hc.cell (i := 0) (v := z2) rfl
  have fa0 := ha.free 0
  have fa1 := ha.free 1
  have fa2 := ha.free 2
  have fb0 := hb.free 0
  have fb1 := hb.free 1
  have fc0 := hc.free 0
  have la := ha.lt
  have lb := hb.lt
  have lc := hc.lt
  clear ha hb hc hu
  have hta := assertFound
  simp only [foundV]
  go_wp2
  obtain ⟨W1, hW1⟩ : ∃ W1, W1 = w.alloc (.cells #[.string ⟨er.1.toArray⟩, .int .i64 er.2.1, .int .i64 er.2.2] 138) := ⟨_, rfl⟩
  have hb1 : Below w.heap.size w W1 := by rw [hW1]; exact new_ (Below.refl _ _) _
  have hg : Row W1 w.heap.size 138 #[.string ⟨er.1.toArray⟩, .int .i64 er.2.1, .int .i64 er.2.2] := by rw [hW1]; exact Row.new _ _ _
  rw [← hW1]
  have g0 := hg.cell (i := 0) (v := .string ⟨er.1.toArray⟩) rfl
  have g1 := hg.cell (i := 1) (v := .int .i64 er.2.1) rfl
  have g2 := hg.cell (i := 2) (v := .int .i64 er.2.2) rfl
  have ka0 := (HA.out.below hb1 la).cell (i := 0) (v := u0) rfl
  have ka1 := (HA.out.below hb1 la).cell (i := 1) (v := u1) rfl
  have ka2 := (HA.out.below hb1 la).cell (i := 2) (v := u2) rfl
  have kb0 := (HB.out.below hb1 lb).cell (i := 0) (v := z0) rfl
  have kb1 := (HB.out.below hb1 lb).cell (i := 1) (v := z1) rfl
  have kc0 := (HC.out.below hb1 lc).cell (i := 0) (v := z2) rfl
  have ea0 := (HA.out.below hb1 la).free 0
  have ea1 := (HA.out.below hb1 la).free 1
  have ea2 := (HA.out.below hb1 la).free 2
  have eb0 := (HB.out.below hb1 lb).free 0
  have eb1 := (HB.out.below hb1 lb).free 1
  have ec0 := (HC.out.below hb1 lc).free 0
  have RA := Lib.hid (HA.out.below hb1 la)
  have RB := Lib.hid (HB.out.below hb1 lb)
  have RC := Lib.hid (HC.out.below hb1 lc)
  have HB1 := Lib.hid hb1
  generalize w.heap.size = gw at *
  clear hW1 hb1 hg a0 a1 a2 b0 b1 c0 fa0 fa1 fa2 fb0 fb1 fc0 HA HB HC HU
  have na : a ≠ gw := by omega
  have nb : b ≠ gw := by omega
  have nc : c ≠ gw := by omega
  have hba : b ≠ a := fun e => hab e.symm
  have hca : c ≠ a := fun e => hac e.symm
  have hcb : c ≠ b := fun e => hbc e.symm
  go_region_held3 (fun w' => w'.cell? ⟨gw, 0, none⟩ = some (.string ⟨er.1.toArray⟩) ∧ w'.cell? ⟨gw, 1, none⟩ = some (.int .i64 er.2.1) ∧ w'.cell? ⟨gw, 2, none⟩ = some (.int .i64 er.2.2)) (go_keep) (fail)
  have qa := (((((RA.out.set 0 (.slice none 0 0)).set 1 (.slice none 0 0)).set 2 (.slice none 0 0)).other (p := ⟨b, 0, none⟩) hab (.string ⟨er.1.toArray⟩)).other (p := ⟨b, 1, none⟩) hab (.int .i64 er.2.1)).other (p := ⟨c, 0, none⟩) hac (.int .i64 er.2.2)
  have qb := (((((RB.out.other (p := ⟨a, 0, none⟩) hba (.slice none 0 0)).other (p := ⟨a, 1, none⟩) hba (.slice none 0 0)).other (p := ⟨a, 2, none⟩) hba (.slice none 0 0)).set 0 (.string ⟨er.1.toArray⟩)).set 1 (.int .i64 er.2.1)).other (p := ⟨c, 0, none⟩) hbc (.int .i64 er.2.2)
  have qc := (((((RC.out.other (p := ⟨a, 0, none⟩) hca (.slice none 0 0)).other (p := ⟨a, 1, none⟩) hca (.slice none 0 0)).other (p := ⟨a, 2, none⟩) hca (.slice none 0 0)).other (p := ⟨b, 0, none⟩) hcb (.string ⟨er.1.toArray⟩)).other (p := ⟨b, 1, none⟩) hcb (.int .i64 er.2.1)).set 0 (.int .i64 er.2.2)
  refine ⟨rfl, qa.drew, qb.drew, qc.drew, ?_⟩
  have hB0 : B ≤ gw := by omega
  exact (((((((HB1.out.mono hB0).setCell (p := ⟨a, 0, none⟩) h1 _).setCell (p := ⟨a, 1, none⟩) h1 _).setCell (p := ⟨a, 2, none⟩) h1 _).setCell (p := ⟨b, 0, none⟩) h2 _).setCell (p := ⟨b, 1, none⟩) h2 _).setCell (p := ⟨c, 0, none⟩) h3 _).drew
theorem uncaught (w : World) (a b c : Nat) :
    CallsD Try.prog 62 #[.pointer (some ⟨a, 0, none⟩), .pointer (some ⟨b, 0, none⟩), .pointer (some ⟨c, 0, none⟩)] .returning w fun e u' w' => e = .returned (.tuple #[]) ∧ u' = .returning ∧ w' = w := by
  refine callsD_of_wpS Try.func62 rfl fun c₀ cs hu => ?_
  simp only [Try.ntmps62, List.size_toArray, List.length_cons, List.length_nil, Nat.reduceAdd, Nat.reduceSub, Array.replicate_succ, Array.replicate_zero, List.push_toArray, List.append_toArray, List.nil_append, List.cons_append]
  apply wpS_seq
  apply wpS_region
  simp [wpOpsS, go_sem, recoverD, hu, Exit.thenS]
  refine wpS_of_wp (Code.wp_mono (Q := CaughtQ (· = w)) ?_ ?_)
  · intro e a' w' h
    cases e with
    | normal => exact ⟨h.1, _, (by cases c₀; simp_all), _, results_none rfl _ _ _, rfl, rfl, h.2⟩
    | ret => exact ⟨h.1, _, (by cases c₀; simp_all), _, results_none rfl _ _ _, rfl, rfl, h.2⟩
    | panic ch => exact h.elim
    | exit id => exact h.elim
    | goto l => exact h.elim
    | outgrown => exact h.elim
  clear hu
  go_wp2
  exact ⟨rfl, rfl⟩
theorem FilesAt.up {B B' : Nat} {w w' : World} {fm : Value} {fs : List UInt8 → Option (List UInt8)} (h : FilesAt B w fm fs) (hB : B ≤ B') (hb : Below B w w') : FilesAt B' w' fm fs :=
  ⟨fun b e => Nat.lt_of_lt_of_le (h.low b e) hB, h.own, fun w2 h2 s hs => h.look w2 (fun k hk => (h2 k (by omega)).trans (hb.block k hk)) s hs, h.size, fun w2 h2 => h.mx w2 fun k hk => (h2 k (by omega)).trans (hb.block k hk)⟩
/-- what Read returns -/
def ReadPost (w : World) (r : RdS ⊕ ErrD) (e : Ending) (w' : World) : Prop := match r with
  | .inl y => ∃ vf vw vc, e = .returned (.tuple #[.agg #[vf, vw, vc], .agg #[.string ⟨#[]⟩, .int .i64 0], .int .i64 0]) ∧ w'.ownsRow w.heap.size 9 1 vf y.files.length (y.files.map strV) ∧ w'.ownsRow w.heap.size 95 3 vw y.words.length (y.words.flatMap wordCells) ∧ w'.ownsRow w.heap.size 91 4 vc y.coms.length (y.coms.flatMap comfCells) ∧ Below w.heap.size w w'
  | .inr x => e = .returned (.tuple #[.agg #[.slice none 0 0, .slice none 0 0, .slice none 0 0], .agg #[.string ⟨x.1.toArray⟩, .int .i64 x.2.1], .int .i64 x.2.2]) ∧ Below w.heap.size w w'
set_option maxRecDepth 100000 in
set_option maxHeartbeats 4000000 in
theorem read_any (w : World) (mb : Option Nat) (fs : List UInt8 → Option (List UInt8)) (main : List UInt8) (hF : FilesAt w.heap.size w (.map mb) fs) (hn : main.length ≤ maxLen) :
    Calls Try.prog 32 #[.map mb, .string ⟨main.toArray⟩] w (ReadPost w (readS fs main)) := by
  have hmf : ∀ (fn : Fn) (first cap : Array Value) (w : World), (Instr.makeFunc fn first cap).run Try.prog w = .ok (.func fn first cap) w := fun _ _ _ _ => rfl
  have hmm := @run_makeMap Try.prog
  obtain ⟨W3, hW3⟩ : ∃ W3, W3 = ((w.alloc (.cells #[.slice none 0 0, .slice none 0 0, .slice none 0 0] 54)).alloc (.cells #[.string ⟨#[]⟩, .int .i64 0] 56)).alloc (.cells #[.int .i64 0] 46) := ⟨_, rfl⟩
  have hz3 : W3.heap.size = w.heap.size + 1 + 1 + 1 := by rw [hW3]; simp
  have hb3 : Below w.heap.size w W3 := by rw [hW3]; exact new_ (new_ (new_ (Below.refl _ _) _) _) _
  obtain ⟨W5, hW5⟩ : ∃ W5, W5 = (W3.alloc (.map #[] 0)).alloc (.cells #[.map mb, .map (some (w.heap.size + 1 + 1 + 1)), .slice none 0 0, .slice none 0 0, .slice none 0 0, .int .i64 0] 136) := ⟨_, rfl⟩
  have hb5 : Below W3.heap.size W3 W5 := by rw [hW5]; exact new_ (new_ (Below.refl _ _) _) _
  have hr5 : Row W5 (w.heap.size + 1 + 1 + 1 + 1) 136 #[.map mb, .map (some (w.heap.size + 1 + 1 + 1)), .slice none 0 0, .slice none 0 0, .slice none 0 0, .int .i64 0] := by rw [hW5]; exact Row.new' _ _ _ (by simp [hz3])
  have hs5 : SetM W5 (w.heap.size + 1 + 1 + 1) [] := by rw [hW5, ← hz3]; exact (SetM.new W3).below (new_ (Below.refl _ _) _)
  have ra : Row W5 w.heap.size 54 #[.slice none 0 0, .slice none 0 0, .slice none 0 0] := Row.below (by rw [hW3]; exact ((Row.new _ _ _).alloc _).alloc _) hb5 (by omega)
  have rb : Row W5 (w.heap.size + 1) 56 #[.string ⟨#[]⟩, .int .i64 0] := Row.below (by rw [hW3]; exact (Row.new' _ _ _ (by simp)).alloc _) hb5 (by omega)
  have rc : Row W5 (w.heap.size + 1 + 1) 46 #[.int .i64 0] := Row.below (by rw [hW3]; exact Row.new' _ _ _ (by simp)) hb5 (by omega)
  have hB5 : Below w.heap.size w W5 := hb3.trans (hb5.mono (by omega))
  have l1 := (hF.look W5 (fun k hk => hB5.block k hk) main hn).1
  have HTA : Hid (TakAt (w.heap.size + 1 + 1 + 1) W5 (w.heap.size + 1 + 1 + 1 + 1) (w.heap.size + 1 + 1 + 1) (.map mb) ⟨[], [], [], 0⟩ (.slice none 0 0) (.slice none 0 0) (.slice none 0 0)) := Lib.hid ⟨hr5, World.ownsRow_nil _ _ _ _, World.ownsRow_nil _ _ _ _, World.ownsRow_nil _ _ _ _, hs5, by omega, by omega⟩
  have HF5 : Hid (FilesAt (w.heap.size + 1 + 1 + 1) W5 (.map mb) fs) := Lib.hid (hF.up (by omega) hB5)
  have HB5 := Lib.hid hB5
  have HRA := Lib.hid ra
  have HRB := Lib.hid rb
  have HRC := Lib.hid rc
  clear hb3 hb5 hr5 hs5 ra rb rc hB5 hF hz3
  subst hW5
  subst hW3
  cases hfs : fs main with
  | none =>
    have HR : Hid (readS fs main = .inr (main, 0, 44)) := Lib.hid (by unfold readS; rw [hfs])
    rw [hfs] at l1
    clear hfs
    go_enter_defers Try.func32, Try.ntmps32
    go_wp2
    rw [HR.out]
    refine leaves_cons (f := 62) (args := #[.pointer (some ⟨w.heap.size, 0, none⟩), .pointer (some ⟨w.heap.size + 1, 0, none⟩), .pointer (some ⟨w.heap.size + 1 + 1, 0, none⟩)]) (by simp) (by simp [go_sem]) ?_
    refine (uncaught _ _ _ _).mono ?_
    rintro e u' w'' ⟨rfl, rfl, rfl⟩
    refine ⟨.tuple #[.agg #[.slice none 0 0, .slice none 0 0, .slice none 0 0], .agg #[.string ⟨main.toArray⟩, .int .i64 0], .int .i64 44], by simp [results, Try.results32, go_sem], rfl, ?_⟩
    exact new_ (new_ (new_ (new_ (new_ (Below.refl _ _) _) _) _) _) _
  | some text =>
    have HR : Hid (readS fs main = takeS fs 41 ⟨[], [], [], 0⟩ main) := Lib.hid (by unfold readS; rw [hfs])
    have HTK := Lib.hid (take_ok (w.heap.size + 1 + 1 + 1) (.map mb) fs 41 _ (w.heap.size + 1 + 1 + 1 + 1) (w.heap.size + 1 + 1 + 1) ⟨[], [], [], 0⟩ _ _ _ main HF5.out HTA.out ⟨by simp, by simp, by simp⟩ (by simp) hn (by simp) (by rw [hfs]; rfl) (by simp) (by simp))
    rw [hfs] at l1
    clear hfs
    cases htk : takeS fs 41 ⟨[], [], [], 0⟩ main with
    | inr er =>
      rw [htk] at HR HTK
      clear htk
      go_enter_defers Try.func32, Try.ntmps32
      go_wp2_with (go_at_call 63; (refine HTK.out.mono ?_; rintro e w1 ⟨rfl, hb1, hkn⟩))
      rw [HR.out]
      have ra1 := HRA.out.below hb1 (by omega)
      have rb1 := HRB.out.below hb1 (by omega)
      have rc1 := HRC.out.below hb1 (by omega)
      refine leaves_cons (f := 62) (args := #[.pointer (some ⟨w.heap.size, 0, none⟩), .pointer (some ⟨w.heap.size + 1, 0, none⟩), .pointer (some ⟨w.heap.size + 1 + 1, 0, none⟩)]) (by simp) (by simp [go_sem]) ?_
      refine (caught w1 w.heap.size (w.heap.size + 1) (w.heap.size + 1 + 1) w.heap.size er _ _ _ _ _ _ ra1 rb1 rc1 (Nat.le_refl _) (by omega) (by omega) (by omega) (by omega) (by omega)).mono ?_
      rintro e u' w'' ⟨rfl, rfl, qa, qb, qc, hbw⟩
      have a0 := qa.cell (i := 0) (v := .slice none 0 0) rfl
      have a1 := qa.cell (i := 1) (v := .slice none 0 0) rfl
      have a2 := qa.cell (i := 2) (v := .slice none 0 0) rfl
      have b0 := qb.cell (i := 0) (v := .string ⟨er.1.toArray⟩) rfl
      have b1 := qb.cell (i := 1) (v := .int .i64 er.2.1) rfl
      have c0 := qc.cell (i := 0) (v := .int .i64 er.2.2) rfl
      refine ⟨.tuple #[.agg #[.slice none 0 0, .slice none 0 0, .slice none 0 0], .agg #[.string ⟨er.1.toArray⟩, .int .i64 er.2.1], .int .i64 er.2.2], by simp [results, Try.results32, go_sem, a0, a1, a2, b0, b1, c0], rfl, ?_⟩
      exact (HB5.out.trans (hb1.mono (by omega))).trans hbw
    | inl y =>
      rw [htk] at HR HTK
      clear htk
      go_enter_defers Try.func32, Try.ntmps32
      go_wp2_with (go_at_call 63; (refine HTK.out.mono ?_; rintro e w1 ⟨rfl, vf, vw, vc, ht, hk⟩; have t2 := ht.row.cell (i := 2) (v := vf) rfl; have t3 := ht.row.cell (i := 3) (v := vw) rfl; have t4 := ht.row.cell (i := 4) (v := vc) rfl; have ra1 := HRA.out.below hk.below_of (by omega); have rb1 := HRB.out.below hk.below_of (by omega); have rc1 := HRC.out.below hk.below_of (by omega); have a0 := ra1.cell (i := 0) (v := .slice none 0 0) rfl; have a1 := ra1.cell (i := 1) (v := .slice none 0 0) rfl; have a2 := ra1.cell (i := 2) (v := .slice none 0 0) rfl; have b0 := rb1.cell (i := 0) (v := .string ⟨#[]⟩) rfl; have b1 := rb1.cell (i := 1) (v := .int .i64 0) rfl; have c0 := rc1.cell (i := 0) (v := .int .i64 0) rfl; have fa := ra1.free; have fb := rb1.free; have fc := rc1.free; have HT := Lib.hid ht; have HK := Lib.hid hk; have HRA1 := Lib.hid ra1; have HRB1 := Lib.hid rb1; have HRC1 := Lib.hid rc1; obtain ⟨fA, fc', rfl, _⟩ := own_form HT.out.fo; obtain ⟨wA, wc', rfl, _⟩ := own_form HT.out.wo; obtain ⟨cA, cc', rfl, _⟩ := own_form HT.out.co; clear ht hk ra1 rb1 rc1))
      rw [HR.out]
      refine leaves_cons (f := 62) (args := #[.pointer (some ⟨w.heap.size, 0, none⟩), .pointer (some ⟨w.heap.size + 1, 0, none⟩), .pointer (some ⟨w.heap.size + 1 + 1, 0, none⟩)]) (by simp) (by simp [go_sem]) ?_
      refine (uncaught _ _ _ _).mono ?_
      rintro e u' w'' ⟨rfl, rfl, rfl⟩
      have n1 : w.heap.size ≠ w.heap.size + 1 := by omega
      have n2 : w.heap.size ≠ w.heap.size + 1 + 1 := by omega
      have n3 : w.heap.size + 1 ≠ w.heap.size := by omega
      have n4 : w.heap.size + 1 ≠ w.heap.size + 1 + 1 := by omega
      have n5 : w.heap.size + 1 + 1 ≠ w.heap.size := by omega
      have n6 : w.heap.size + 1 + 1 ≠ w.heap.size + 1 := by omega
      have qa := (((((HRA1.out.set 0 (.slice fA y.files.length fc')).set 1 (.slice wA y.words.length wc')).set 2 (.slice cA y.coms.length cc')).other (p := ⟨w.heap.size + 1, 0, none⟩) n1 (.string ⟨#[]⟩)).other (p := ⟨w.heap.size + 1, 1, none⟩) n1 (.int .i64 0)).other (p := ⟨w.heap.size + 1 + 1, 0, none⟩) n2 (.int .i64 0)
      have qb := (((((HRB1.out.other (p := ⟨w.heap.size, 0, none⟩) n3 (.slice fA y.files.length fc')).other (p := ⟨w.heap.size, 1, none⟩) n3 (.slice wA y.words.length wc')).other (p := ⟨w.heap.size, 2, none⟩) n3 (.slice cA y.coms.length cc')).set 0 (.string ⟨#[]⟩)).set 1 (.int .i64 0)).other (p := ⟨w.heap.size + 1 + 1, 0, none⟩) n4 (.int .i64 0)
      have qc := (((((HRC1.out.other (p := ⟨w.heap.size, 0, none⟩) n5 (.slice fA y.files.length fc')).other (p := ⟨w.heap.size, 1, none⟩) n5 (.slice wA y.words.length wc')).other (p := ⟨w.heap.size, 2, none⟩) n5 (.slice cA y.coms.length cc')).other (p := ⟨w.heap.size + 1, 0, none⟩) n6 (.string ⟨#[]⟩)).other (p := ⟨w.heap.size + 1, 1, none⟩) n6 (.int .i64 0)).set 0 (.int .i64 0)
      obtain ⟨W9, hW9⟩ : ∃ W9, W9 = (((((w1.setCell ⟨w.heap.size, 0, none⟩ (.slice fA y.files.length fc')).setCell ⟨w.heap.size, 1, none⟩ (.slice wA y.words.length wc')).setCell ⟨w.heap.size, 2, none⟩ (.slice cA y.coms.length cc')).setCell ⟨w.heap.size + 1, 0, none⟩ (.string ⟨#[]⟩)).setCell ⟨w.heap.size + 1, 1, none⟩ (.int .i64 0)).setCell ⟨w.heap.size + 1 + 1, 0, none⟩ (.int .i64 0) := ⟨_, rfl⟩
      have hblk : ∀ k, w.heap.size + 1 + 1 + 1 ≤ k → W9.heap[k]? = w1.heap[k]? := fun k hk => by
        rw [hW9, Below.heap_setCell _ _ _ _ (by dsimp only; omega), Below.heap_setCell _ _ _ _ (by dsimp only; omega), Below.heap_setCell _ _ _ _ (by dsimp only; omega), Below.heap_setCell _ _ _ _ (by dsimp only; omega), Below.heap_setCell _ _ _ _ (by dsimp only; omega), Below.heap_setCell _ _ _ _ (by dsimp only; omega)]
      have hbw : Below w.heap.size w W9 := by
        rw [hW9]
        exact ((((((HB5.out.trans (HK.out.below_of.mono (by omega))).setCell (p := ⟨w.heap.size, 0, none⟩) (Nat.le_refl _) _).setCell (p := ⟨w.heap.size, 1, none⟩) (Nat.le_refl _) _).setCell (p := ⟨w.heap.size, 2, none⟩) (Nat.le_refl _) _).setCell (p := ⟨w.heap.size + 1, 0, none⟩) (by dsimp only; omega) _).setCell (p := ⟨w.heap.size + 1, 1, none⟩) (by dsimp only; omega) _).setCell (p := ⟨w.heap.size + 1 + 1, 0, none⟩) (by dsimp only; omega) _
      have ho : ∀ {e : TypeId} {s n : Nat} {v : Value} {xs : List Value}, w1.ownsRow (w.heap.size + 1 + 1 + 1) e s v n xs → W9.ownsRow w.heap.size e s v n xs := fun h =>
        own_lower (own_same h fun k o e hk => (hblk k (own_obj h e).1).trans hk) (by omega)
      rw [← hW9] at qa qb qc ⊢
      clear hW9 hblk
      have a0 := qa.cell (i := 0) (v := .slice fA y.files.length fc') rfl
      have a1 := qa.cell (i := 1) (v := .slice wA y.words.length wc') rfl
      have a2 := qa.cell (i := 2) (v := .slice cA y.coms.length cc') rfl
      have b0 := qb.cell (i := 0) (v := .string ⟨#[]⟩) rfl
      have b1 := qb.cell (i := 1) (v := .int .i64 0) rfl
      have c0 := qc.cell (i := 0) (v := .int .i64 0) rfl
      refine ⟨.tuple #[.agg #[.slice fA y.files.length fc', .slice wA y.words.length wc', .slice cA y.coms.length cc'], .agg #[.string ⟨#[]⟩, .int .i64 0], .int .i64 0], by simp [results, Try.results32, go_sem, a0, a1, a2, b0, b1, c0], _, _, _, rfl, ho HT.out.fo, ho HT.out.wo, ho HT.out.co, hbw⟩
end Go.Proofs.Ytignhjfobcnloaa
end
