/- take's append of its own name. (Printed by gen_take12.py.) -/
import Derived.Test.YtignhjfobcnloaaTakeB
namespace Go.Proofs.Ytignhjfobcnloaa
open Go.RowKit
attribute [local go_sem] Oper.semAt_some
/-- behind the append of a name -/
def ApF (B : Nat) (W : World) (vf : Value) (x : RdS) (y : List UInt8) (U : Value) (w : World) : Prop := ∃ g cap, U = .slice (some ⟨g, 0, none⟩) (x.files.length + 1) cap ∧ w.ownsRow B 9 1 U (x.files.length + 1) (x.files.map strV ++ [strV y]) ∧
  (W.drew.alloc (.cells #[.string ⟨y.toArray⟩] 9)).grownBy w vf.ownBlock ∧ (vf.ownBlock = some g ∨ g = (W.drew.alloc (.cells #[.string ⟨y.toArray⟩] 9)).heap.size)
/-- what the append leaves -/
structure TkF (B T M XB NB FB : Nat) (fm vf' vw vc : Value) (x : RdS) (name : List UInt8) (W W4 : World) : Prop where
  ta : TakAt B W4 T M fm (openF x name) vf' vw vc
  kp : KpT B T W W4
  xr : Row W4 XB 134 #[.pointer (some ⟨T, 0, none⟩)]
  nr : Row W4 NB 9 #[.string ⟨name.toArray⟩]
  fr : Row W4 FB 3 #[.int .i64 (x.files.length : Nat)]
  nf : vf'.ownBlock ≠ some NB
set_option maxRecDepth 100000 in
set_option maxHeartbeats 4000000 in
theorem take_append {B T M XB NB FB : Nat} {fm vf vw vc : Value} {x : RdS} {name : List UInt8} {W : World} {u0 u1 u5 u6 u7 u8 u9 u10 u11 u12 u13 u14 u15 u16 u17 u18 u19 u20 u21 u22 u23 u24 u25 u26 u27 u28 u29 u30 u31 u32 u33 u34 u35 u36 u37 u38 u39 u40 u41 u42 u43 u44 u45 u46 u47 u48 u49 u50 u51 u52 u53 u54 u55 u56 u57 u58 u59 u60 u61 u62 u63 u64 u65 u66 u67 u68 u69 u70 u71 u72 u73 u74 u75 u76 u77 u78 u79 u80 u81 u82 u83 u84 u85 u86 u87 u88 u89 u90 u91 u92 u93 u94 u95 u96 u97 u98 u99 u100 u101 u102 u103 u104 u105 u106 u107 u108 u109 u110 u111 u112 u113 u114 u115 u116 u117 u118 u119 u120 u121 u122 u123 u124 u125 u126 u127 u128 u129 u130 u131 u132 u133 u134 u135 u136 u137 u138 u139 u140 u141 u142 u143 u144 u145 u146 u147 u148 u149 u150 u151 u152 u153 u154 u155 u156 u157 u158 u159 u160 u161 u162 u163 u164 u165 u166 u167 u168 u169 u170 u171 u172 u173 u174 u175 u176 u177 u178 : Value} {Q : Exit → Act → World → Prop} (h : TakAtS B W T M fm x (x.files ++ [name]) vf vw vc)
    (hx : Row W XB 134 #[.pointer (some ⟨T, 0, none⟩)]) (hn : Row W NB 9 #[.string ⟨name.toArray⟩]) (hf : Row W FB 3 #[.int .i64 (x.files.length : Nat)]) (hnv : vf.ownBlock ≠ some NB) (hl : x.files.length < 40)
    (hQ : ∀ (vf' : Value) (W4 : World) {u0 u1 u5 u6 u7 u8 u9 u10 u11 u12 u13 u14 u15 u16 u17 u18 u19 u20 u21 u22 u23 u24 u25 u26 u27 u28 u29 u30 u31 u32 u33 u34 u35 u36 u37 u38 u39 u40 u41 u42 u43 u44 u45 u46 u47 u48 u49 u50 u51 u52 u53 u54 u55 u56 u57 u58 u59 u60 u61 u62 u63 u64 u65 u66 u67 u68 u69 u70 u71 u72 u73 u74 u75 u76 u77 u78 u79 u80 u81 u82 u83 u84 u85 u86 u87 u88 u89 u90 u91 u92 u93 u94 u95 u96 u97 u98 u99 u100 u101 u102 u103 u104 u105 u106 u107 u108 u109 u110 u111 u112 u113 u114 u115 u116 u117 u118 u119 u120 u121 u122 u123 u124 u125 u126 u127 u128 u129 u130 u131 u132 u133 u134 u135 u136 u137 u138 u139 u140 u141 u142 u143 u144 u145 u146 u147 u148 u149 u150 u151 u152 u153 u154 u155 u156 u157 u158 u159 u160 u161 u162 u163 u164 u165 u166 u167 u168 u169 u170 u171 u172 u173 u174 u175 u176 u177 u178 : Value}, TkF B T M XB NB FB fm vf' vw vc x name W W4 → wpFn 63 Try.prog (tailC 4 takeC) Q { tmps := #[u0, u1, .pointer (some ⟨XB, 0, none⟩), .pointer (some ⟨NB, 0, none⟩), .pointer (some ⟨FB, 0, none⟩), u5, u6, u7, u8, u9, u10, u11, u12, u13, u14, u15, u16, u17, u18, u19, u20, u21, u22, u23, u24, u25, u26, u27, u28, u29, u30, u31, u32, u33, u34, u35, u36, u37, u38, u39, u40, u41, u42, u43, u44, u45, u46, u47, u48, u49, u50, u51, u52, u53, u54, u55, u56, u57, u58, u59, u60, u61, u62, u63, u64, u65, u66, u67, u68, u69, u70, u71, u72, u73, u74, u75, u76, u77, u78, u79, u80, u81, u82, u83, u84, u85, u86, u87, u88, u89, u90, u91, u92, u93, u94, u95, u96, u97, u98, u99, u100, u101, u102, u103, u104, u105, u106, u107, u108, u109, u110, u111, u112, u113, u114, u115, u116, u117, u118, u119, u120, u121, u122, u123, u124, u125, u126, u127, u128, u129, u130, u131, u132, u133, u134, u135, u136, u137, u138, u139, u140, u141, u142, u143, u144, u145, u146, u147, u148, u149, u150, u151, u152, u153, u154, u155, u156, u157, u158, u159, u160, u161, u162, u163, u164, u165, u166, u167, u168, u169, u170, u171, u172, u173, u174, u175, u176, u177, u178], defers := [] } W4) :
    wpFn 63 Try.prog (tailC 3 takeC) Q { tmps := #[u0, u1, .pointer (some ⟨XB, 0, none⟩), .pointer (some ⟨NB, 0, none⟩), .pointer (some ⟨FB, 0, none⟩), u5, u6, u7, u8, u9, u10, u11, u12, u13, u14, u15, u16, u17, u18, u19, u20, u21, u22, u23, u24, u25, u26, u27, u28, u29, u30, u31, u32, u33, u34, u35, u36, u37, u38, u39, u40, u41, u42, u43, u44, u45, u46, u47, u48, u49, u50, u51, u52, u53, u54, u55, u56, u57, u58, u59, u60, u61, u62, u63, u64, u65, u66, u67, u68, u69, u70, u71, u72, u73, u74, u75, u76, u77, u78, u79, u80, u81, u82, u83, u84, u85, u86, u87, u88, u89, u90, u91, u92, u93, u94, u95, u96, u97, u98, u99, u100, u101, u102, u103, u104, u105, u106, u107, u108, u109, u110, u111, u112, u113, u114, u115, u116, u117, u118, u119, u120, u121, u122, u123, u124, u125, u126, u127, u128, u129, u130, u131, u132, u133, u134, u135, u136, u137, u138, u139, u140, u141, u142, u143, u144, u145, u146, u147, u148, u149, u150, u151, u152, u153, u154, u155, u156, u157, u158, u159, u160, u161, u162, u163, u164, u165, u166, u167, u168, u169, u170, u171, u172, u173, u174, u175, u176, u177, u178], defers := [] } W := by
  obtain ⟨fA, fc, rfl, hfc⟩ := own_form h.fo
  have HQ := Lib.hid hQ
  have HFO : Hid (W.drew.ownsRow B 9 1 (.slice fA x.files.length fc) x.files.length (x.files.map strV)) := Lib.hid (own_below h.fo (Below.refl _ _).drew)
  have HNV : Hid (some NB ≠ (Value.slice fA x.files.length fc).ownBlock) := Lib.hid hnv.symm
  have HH := Lib.hid h
  have hlo := h.lo
  have hTl := h.row.lt
  have hnl := hn.lt
  have hr0 := h.row
  clear hQ hnv h
  simp only [takeC, tailC, Try.f63, Option.getD_some] at HQ ⊢
  refine wpFn_seq (wpFn_of 3 ?_)
  refine wpIn_region_any (by kernel_rfl) ?_
  refine wpAnyIn_inv (Inv := fun listed a w => ∃ (b0 b1 b2 b3 b4 b5 b6 b7 b8 b9 b10 b11 b12 : Bool) (U : Value), listed = #[b0, b1, b2, b3, b4, b5, b6, b7, b8, b9, b10, b11, b12] ∧ a = { tmps := #[u0, u1, .pointer (some ⟨XB, 0, none⟩), .pointer (some ⟨NB, 0, none⟩), .pointer (some ⟨FB, 0, none⟩), u5, u6, u7, u8, u9, u10, u11, u12, u13, u14, u15, u16, u17, u18, u19, u20, u21, u22, u23, u24, u25, (bif b0 then .pointer (some ⟨T, 0, none⟩) else u26), (bif b1 then .pointer (some ⟨T, 0, none⟩) else u27), (bif b2 then .pointer (some ⟨T, 0, none⟩) else u28), (bif b3 then .pointer (some ⟨T, 2, none⟩) else u29), (bif b4 then .pointer (some ⟨T, 2, none⟩) else u30), (bif b5 then .slice fA x.files.length fc else u31), (bif b6 then .string ⟨name.toArray⟩ else u32), (bif b7 then .slice (some ⟨W.heap.size, 0, none⟩) 1 1 else u33), (bif b8 then U else u34), (bif b9 then .pointer (some ⟨T, 0, none⟩) else u35), (bif b10 then .pointer (some ⟨T, 2, none⟩) else u36), (bif b11 then .pointer (some ⟨T, 2, none⟩) else u37), u38, u39, u40, u41, u42, u43, u44, u45, u46, u47, u48, u49, u50, u51, u52, u53, u54, u55, u56, u57, u58, u59, u60, u61, u62, u63, u64, u65, u66, u67, u68, u69, u70, u71, u72, u73, u74, u75, u76, u77, u78, u79, u80, u81, u82, u83, u84, u85, u86, u87, u88, u89, u90, u91, u92, u93, u94, u95, u96, u97, u98, u99, u100, u101, u102, u103, u104, u105, u106, u107, u108, u109, u110, u111, u112, u113, u114, u115, u116, u117, u118, u119, u120, u121, u122, u123, u124, u125, u126, u127, u128, u129, u130, u131, u132, u133, u134, u135, u136, u137, u138, u139, u140, u141, u142, u143, u144, u145, u146, u147, u148, u149, u150, u151, u152, u153, u154, u155, u156, u157, u158, u159, u160, u161, u162, u163, u164, u165, u166, u167, u168, u169, u170, u171, u172, u173, u174, u175, u176, u177, u178], defers := [] } ∧ (b12 = true → (b0 && b1 && b2 && b3 && b4 && b5 && b6 && b7 && b8 && b9 && b10 && b11) = true) ∧ (b8 = true → b7 = true) ∧ (b11 = true → b10 = true) ∧ (b10 = true → b9 = true) ∧ (b12 = false → Row w XB 134 #[.pointer (some ⟨T, 0, none⟩)] ∧ Row w T 136 #[fm, .map (some M), .slice fA x.files.length fc, vw, vc, .int .i64 x.depth] ∧ Row w NB 9 #[.string ⟨name.toArray⟩]) ∧ (b7 = false → w = W.drew) ∧ (b7 = true → b8 = false → w = W.drew.alloc (.cells #[.string ⟨name.toArray⟩] 9)) ∧ (b8 = true → b12 = false → ApF B W (.slice fA x.files.length fc) x name U w) ∧ (b12 = true → ∃ wz, ApF B W (.slice fA x.files.length fc) x name U wz ∧ w = wz.setCell ⟨T, 2, none⟩ U)) (by kernel_rfl) ?_ ?_ ?_ _ _ _ _ ?_ ?_
  · rintro listed a w ⟨b0, b1, b2, b3, b4, b5, b6, b7, b8, b9, b10, b11, b12, U, rfl, _⟩
    rfl
  · rintro i listed a w hi ⟨b0, b1, b2, b3, b4, b5, b6, b7, b8, b9, b10, b11, b12, U, rfl, rfl, h12, h8, c11, c10, hrows, hp7, hp78, hp8, hp12⟩ hl2 ha
    have hl := hl2
    clear hl2
    match i, hi with
    | 0, _ =>
      have hb : b0 = false := by simpa using hl
      clear ha hl
      subst hb
      have hb12 : b12 = false := by cases b12 with | false => rfl | true => exact absurd (h12 rfl) (by simp)
      subst hb12
      have rows := hrows rfl
      have x0 := rows.1.cell (i := 0) (v := .pointer (some ⟨T, 0, none⟩)) rfl
      refine wpOpIn_step rfl fun K' hK => ?_
      go_simp
      exact hK _ _ ⟨true, b1, b2, b3, b4, b5, b6, b7, b8, b9, b10, b11, false, U, rfl, rfl, fun h => (by cases h), h8, c11, c10, fun _ => rows, hp7, hp78, hp8, fun h => (by cases h)⟩
    | 1, _ =>
      have hb : b1 = false := by simpa using hl
      clear ha hl
      subst hb
      have hb12 : b12 = false := by cases b12 with | false => rfl | true => exact absurd (h12 rfl) (by simp)
      subst hb12
      have rows := hrows rfl
      have x0 := rows.1.cell (i := 0) (v := .pointer (some ⟨T, 0, none⟩)) rfl
      refine wpOpIn_step rfl fun K' hK => ?_
      go_simp
      exact hK _ _ ⟨b0, true, b2, b3, b4, b5, b6, b7, b8, b9, b10, b11, false, U, rfl, rfl, fun h => (by cases h), h8, c11, c10, fun _ => rows, hp7, hp78, hp8, fun h => (by cases h)⟩
    | 2, _ =>
      have hb : b2 = false := by simpa using hl
      have hd := ha _ rfl
      have d1 : b1 = true := by cases b1 with | true => rfl | false => simp [Region.binds] at hd
      clear hd
      clear ha hl
      subst hb d1
      have hb12 : b12 = false := by cases b12 with | false => rfl | true => exact absurd (h12 rfl) (by simp)
      subst hb12
      have rows := hrows rfl
      refine wpOpIn_step rfl fun K' hK => ?_
      go_simp
      exact hK _ _ ⟨b0, true, true, b3, b4, b5, b6, b7, b8, b9, b10, b11, false, U, rfl, rfl, fun h => (by cases h), h8, c11, c10, fun _ => rows, hp7, hp78, hp8, fun h => (by cases h)⟩
    | 3, _ =>
      have hb : b3 = false := by simpa using hl
      have hd := ha _ rfl
      have d2 : b2 = true := by cases b2 with | true => rfl | false => simp [Region.binds] at hd
      clear hd
      clear ha hl
      subst hb d2
      have hb12 : b12 = false := by cases b12 with | false => rfl | true => exact absurd (h12 rfl) (by simp)
      subst hb12
      have rows := hrows rfl
      refine wpOpIn_step rfl fun K' hK => ?_
      go_simp
      exact hK _ _ ⟨b0, b1, true, true, b4, b5, b6, b7, b8, b9, b10, b11, false, U, rfl, rfl, fun h => (by cases h), h8, c11, c10, fun _ => rows, hp7, hp78, hp8, fun h => (by cases h)⟩
    | 4, _ =>
      have hb : b4 = false := by simpa using hl
      have hd := ha _ rfl
      have d3 : b3 = true := by cases b3 with | true => rfl | false => simp [Region.binds] at hd
      clear hd
      clear ha hl
      subst hb d3
      have hb12 : b12 = false := by cases b12 with | false => rfl | true => exact absurd (h12 rfl) (by simp)
      subst hb12
      have rows := hrows rfl
      refine wpOpIn_step rfl fun K' hK => ?_
      go_simp
      exact hK _ _ ⟨b0, b1, b2, true, true, b5, b6, b7, b8, b9, b10, b11, false, U, rfl, rfl, fun h => (by cases h), h8, c11, c10, fun _ => rows, hp7, hp78, hp8, fun h => (by cases h)⟩
    | 5, _ =>
      have hb : b5 = false := by simpa using hl
      have hd := ha _ rfl
      have d4 : b4 = true := by cases b4 with | true => rfl | false => simp [Region.binds] at hd
      clear hd
      clear ha hl
      subst hb d4
      have hb12 : b12 = false := by cases b12 with | false => rfl | true => exact absurd (h12 rfl) (by simp)
      subst hb12
      have rows := hrows rfl
      have t4 := rows.2.1.cell (i := 2) (v := .slice fA x.files.length fc) rfl
      refine wpOpIn_step rfl fun K' hK => ?_
      go_simp
      exact hK _ _ ⟨b0, b1, b2, b3, true, true, b6, b7, b8, b9, b10, b11, false, U, rfl, rfl, fun h => (by cases h), h8, c11, c10, fun _ => rows, hp7, hp78, hp8, fun h => (by cases h)⟩
    | 6, _ =>
      have hb : b6 = false := by simpa using hl
      clear ha hl
      subst hb
      have hb12 : b12 = false := by cases b12 with | false => rfl | true => exact absurd (h12 rfl) (by simp)
      subst hb12
      have rows := hrows rfl
      have z0 := rows.2.2.cell (i := 0) (v := .string ⟨name.toArray⟩) rfl
      refine wpOpIn_step rfl fun K' hK => ?_
      go_simp
      exact hK _ _ ⟨b0, b1, b2, b3, b4, b5, true, b7, b8, b9, b10, b11, false, U, rfl, rfl, fun h => (by cases h), h8, c11, c10, fun _ => rows, hp7, hp78, hp8, fun h => (by cases h)⟩
    | 7, _ =>
      have hb : b7 = false := by simpa using hl
      have hd := ha _ rfl
      have d6 : b6 = true := by cases b6 with | true => rfl | false => simp [Region.binds] at hd
      clear hd
      clear ha hl
      subst hb d6
      have hb12 : b12 = false := by cases b12 with | false => rfl | true => exact absurd (h12 rfl) (by simp)
      subst hb12
      have rows := hrows rfl
      have hb8 : b8 = false := by cases b8 with | false => rfl | true => exact absurd (h8 rfl) (by simp)
      subst hb8
      obtain rfl := hp7 rfl
      refine wpOpIn_step rfl fun K' hK => ?_
      go_simp
      exact hK _ _ ⟨b0, b1, b2, b3, b4, b5, true, true, false, b9, b10, b11, false, U, rfl, rfl, fun h => (by cases h), fun _ => rfl, c11, c10, fun _ => ⟨rows.1.alloc _, rows.2.1.alloc _, rows.2.2.alloc _⟩, fun h => (by cases h), fun _ _ => rfl, fun h => (by cases h), fun h => (by cases h)⟩
    | 8, _ =>
      have hb : b8 = false := by simpa using hl
      have hd := ha _ rfl
      have d5 : b5 = true := by cases b5 with | true => rfl | false => simp [Region.binds] at hd
      have d7 : b7 = true := by cases b7 with | true => rfl | false => simp [Region.binds] at hd
      clear hd
      clear ha hl
      subst hb d5 d7
      have hb12 : b12 = false := by cases b12 with | false => rfl | true => exact absurd (h12 rfl) (by simp)
      subst hb12
      have rows := hrows rfl
      obtain rfl := hp78 rfl rfl
      obtain ⟨i0, hi0, hj0, hj1, hj2⟩ := info_parts infoStr
      obtain ⟨g, cap, wz, hrun, ho, hgr, hat, _⟩ := run_append_lies (P := Try.prog) (w := W.drew.alloc (.cells #[.string ⟨name.toArray⟩] 9)) 22 22 B 9 i0 _ 1 16 Try.underlying22 hi0 hj0 hj1 hj2 rfl (by decide) (.slice fA x.files.length fc) x.files.length (x.files.map strV) (own_alloc' HFO.out _) ⟨W.heap.size, 0, none⟩ 1 1 [strV name] rfl (cells_of' _ _ _ _ rfl rfl) (by simp [strV, Value.oneCell']) (by decide) (by unfold maxLen; omega) (by omega) (by simp; omega) _ rfl
      refine wpOpIn_append rfl rfl (.tmp 31) (.tmp 33) 22 rfl rfl rfl hrun ?_
      have ne : ∀ (k : Nat) (cs : Array Value) (e : TypeId), Row (W.drew.alloc (.cells #[.string ⟨name.toArray⟩] 9)) k e cs → e ≠ 9 → some k ≠ (Value.slice fA x.files.length fc).ownBlock := fun k cs e hk he e2 => by
        obtain ⟨_, c', h2⟩ := own_obj (own_alloc' HFO.out (.cells #[.string ⟨name.toArray⟩] 9)) e2.symm
        exact he (cells_inj hk h2).2.1
      refine ⟨b0, b1, b2, b3, b4, true, b6, true, true, b9, b10, b11, false, _, rfl, rfl, fun h => (by cases h), fun _ => rfl, c11, c10, fun _ => ⟨rows.1.grown hgr (ne _ _ _ rows.1 (by decide)), rows.2.1.grown hgr (ne _ _ _ rows.2.1 (by decide)), rows.2.2.grown hgr (HNV.out)⟩, fun h => (by cases h), fun _ h => (by cases h), fun _ _ => ⟨g, cap, rfl, ho, hgr, hat⟩, fun h => (by cases h)⟩
    | 9, _ =>
      have hb : b9 = false := by simpa using hl
      have hd := ha _ rfl
      have d0 : b0 = true := by cases b0 with | true => rfl | false => simp [Region.binds] at hd
      have d1 : b1 = true := by cases b1 with | true => rfl | false => simp [Region.binds] at hd
      have d2 : b2 = true := by cases b2 with | true => rfl | false => simp [Region.binds] at hd
      have d3 : b3 = true := by cases b3 with | true => rfl | false => simp [Region.binds] at hd
      have d4 : b4 = true := by cases b4 with | true => rfl | false => simp [Region.binds] at hd
      have d5 : b5 = true := by cases b5 with | true => rfl | false => simp [Region.binds] at hd
      have d6 : b6 = true := by cases b6 with | true => rfl | false => simp [Region.binds] at hd
      have d7 : b7 = true := by cases b7 with | true => rfl | false => simp [Region.binds] at hd
      have d8 : b8 = true := by cases b8 with | true => rfl | false => simp [Region.binds] at hd
      clear hd
      clear ha hl
      subst hb d0 d1 d2 d3 d4 d5 d6 d7 d8
      have hb12 : b12 = false := by cases b12 with | false => rfl | true => exact absurd (h12 rfl) (by simp)
      subst hb12
      have rows := hrows rfl
      refine wpOpIn_step rfl fun K' hK => ?_
      go_simp
      exact hK _ _ ⟨true, true, true, true, true, true, true, true, true, true, b10, b11, false, U, rfl, rfl, fun h => (by cases h), h8, c11, fun _ => rfl, fun _ => rows, hp7, hp78, hp8, fun h => (by cases h)⟩
    | 10, _ =>
      have hb : b10 = false := by simpa using hl
      have hd := ha _ rfl
      have d9 : b9 = true := by cases b9 with | true => rfl | false => simp [Region.binds] at hd
      clear hd
      clear ha hl
      subst hb d9
      have hb12 : b12 = false := by cases b12 with | false => rfl | true => exact absurd (h12 rfl) (by simp)
      subst hb12
      have rows := hrows rfl
      refine wpOpIn_step rfl fun K' hK => ?_
      go_simp
      exact hK _ _ ⟨b0, b1, b2, b3, b4, b5, b6, b7, b8, true, true, b11, false, U, rfl, rfl, fun h => (by cases h), h8, fun _ => rfl, fun _ => rfl, fun _ => rows, hp7, hp78, hp8, fun h => (by cases h)⟩
    | 11, _ =>
      have hb : b11 = false := by simpa using hl
      have hd := ha _ rfl
      have d10 : b10 = true := by cases b10 with | true => rfl | false => simp [Region.binds] at hd
      clear hd
      clear ha hl
      subst hb d10
      obtain rfl := c10 rfl
      have hb12 : b12 = false := by cases b12 with | false => rfl | true => exact absurd (h12 rfl) (by simp)
      subst hb12
      have rows := hrows rfl
      refine wpOpIn_step rfl fun K' hK => ?_
      go_simp
      exact hK _ _ ⟨b0, b1, b2, b3, b4, b5, b6, b7, b8, true, true, true, false, U, rfl, rfl, fun h => (by cases h), h8, fun _ => rfl, fun _ => rfl, fun _ => rows, hp7, hp78, hp8, fun h => (by cases h)⟩
    | 12, _ =>
      have hb : b12 = false := by simpa using hl
      have hd := ha _ rfl
      have d11 : b11 = true := by cases b11 with | true => rfl | false => simp [Region.binds] at hd
      have d0 : b0 = true := by cases b0 with | true => rfl | false => simp [Region.binds] at hd
      have d1 : b1 = true := by cases b1 with | true => rfl | false => simp [Region.binds] at hd
      have d2 : b2 = true := by cases b2 with | true => rfl | false => simp [Region.binds] at hd
      have d3 : b3 = true := by cases b3 with | true => rfl | false => simp [Region.binds] at hd
      have d4 : b4 = true := by cases b4 with | true => rfl | false => simp [Region.binds] at hd
      have d5 : b5 = true := by cases b5 with | true => rfl | false => simp [Region.binds] at hd
      have d6 : b6 = true := by cases b6 with | true => rfl | false => simp [Region.binds] at hd
      have d7 : b7 = true := by cases b7 with | true => rfl | false => simp [Region.binds] at hd
      have d8 : b8 = true := by cases b8 with | true => rfl | false => simp [Region.binds] at hd
      clear hd
      clear ha hl
      subst hb d11 d0 d1 d2 d3 d4 d5 d6 d7 d8
      obtain rfl := c11 rfl
      obtain rfl := c10 rfl
      have rows := hrows rfl
      obtain ⟨g, cap, rfl, ho, hgr, hat⟩ := hp8 rfl rfl
      clear hp7 hp78 hp8 hp12
      have t4 := rows.2.1.cell (i := 2) (v := .slice fA x.files.length fc) rfl; have t5 := rows.2.1.free 2
      refine wpOpIn_step rfl fun K' hK => ?_
      go_simp
      exact hK _ _ ⟨true, true, true, true, true, true, true, true, true, true, true, true, true, _, rfl, rfl, fun _ => rfl, h8, fun _ => rfl, fun _ => rfl, fun h => (by cases h), fun h => (by cases h), fun _ h => (by cases h), fun _ h => (by cases h), fun _ => ⟨_, ⟨g, cap, rfl, ho, hgr, hat⟩, rfl⟩⟩
    | k + 13, hlt => exact absurd hlt (by show ¬ k + 13 < 13; omega)
  · rintro listed a w ⟨b0, b1, b2, b3, b4, b5, b6, b7, b8, b9, b10, b11, b12, U, rfl, rfl, h12, h8, c11, c10, hrows, hp7, hp78, hp8, hp12⟩ hall
    have hbb : b12 = true := by simpa using hall 12 (by decide)
    obtain ⟨wz, ⟨g, cap, rfl, ho, hgr, hat⟩, rfl⟩ := hp12 hbb
    clear hall h12 h8 c11 c10 hrows hp7 hp78 hp8 hp12
    have hb : Below W.heap.size W (W.drew.alloc (.cells #[.string ⟨name.toArray⟩] 9)) := new_ (Below.refl _ _).drew _
    obtain ⟨hT4, hK4⟩ := tak_fileS HH.out hb hgr ho hat
    have ne : ∀ (k : Nat) (cs : Array Value) (e : TypeId), Row (W.drew.alloc (.cells #[.string ⟨name.toArray⟩] 9)) k e cs → e ≠ 9 → some k ≠ (Value.slice fA x.files.length fc).ownBlock := fun k cs e hk he e2 => by
      obtain ⟨_, c', h2⟩ := own_obj (own_alloc' HFO.out (.cells #[.string ⟨name.toArray⟩] 9)) e2.symm
      exact he (cells_inj hk h2).2.1
    have hr1 := (hr0.below hb hTl).grown hgr (ne _ _ _ (hr0.below hb hTl) (by decide))
    have hx1 := (hx.below hb hx.lt).grown hgr (ne _ _ _ (hx.below hb hx.lt) (by decide))
    have hf1 := (hf.below hb hf.lt).grown hgr (ne _ _ _ (hf.below hb hf.lt) (by decide))
    have hn1 := (hn.below hb hn.lt).grown hgr HNV.out
    refine HQ.out _ _ ⟨hT4, hK4, hx1.other (row_ne hx1 hr1 (by decide)) _, hn1.other (row_ne hn1 hr1 (by decide)) _, hf1.other (row_ne hf1 hr1 (by decide)) _, fun e => ?_⟩
    obtain rfl : g = NB := by simpa [Value.ownBlock] using e
    rcases hat with e | e
    · exact HNV.out e.symm
    · simp at e; omega
  · refine ⟨false, false, false, false, false, false, false, false, false, false, false, false, false, .pointer none, rfl, rfl, ?_, ?_, ?_, ?_, ?_, ?_, ?_, ?_, ?_⟩
    · intro h; cases h
    · intro h; cases h
    · intro h; cases h
    · intro h; cases h
    · exact fun _ => ⟨hx, hr0, hn⟩
    · exact fun _ => rfl
    · intro h; cases h
    · intro h; cases h
    · intro h; cases h
  · simp
end Go.Proofs.Ytignhjfobcnloaa
