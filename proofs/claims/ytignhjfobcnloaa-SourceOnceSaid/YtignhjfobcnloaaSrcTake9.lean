/- take behind the append of its name: the call of Strip. (Printed by gen_take9.py.) -/
import Derived.Test.YtignhjfobcnloaaSrcTake8
import Derived.Test.YtignhjfobcnloaaSrcFn
import Derived.Laws.EntriesVeiled
namespace Go.Proofs.Ytignhjfobcnloaa
open Go.RowKit
set_option maxRecDepth 100000 in
theorem merged_any (w : World) (A1 A2 : Option Addr) (n1 n2 c1 c2 : Nat) : Calls Try.prog 91 #[.slice A1 n1 c1, .slice A2 n2 c2] w fun e w' => e = .returned (.func (.func 121) #[] #[.pointer (some ⟨w.heap.size + 1, 0, none⟩), .pointer (some ⟨w.heap.size, 0, none⟩)]) ∧ w' = (w.alloc (.cells #[.slice A1 n1 c1] 80)).alloc (.cells #[.slice A2 n2 c2] 52) := by
  have hmf : ∀ (fn : Fn) (first cap : Array Value) (w : World), (Instr.makeFunc fn first cap).run Try.prog w = .ok (.func fn first cap) w := fun _ _ _ _ => rfl
  go_enter Try.func91, Try.ntmps91
  go_wp2
  go_ret
  exact ⟨rfl, rfl⟩
/-- what lies in memory behind the append of the name -/
structure TkH (f B T M XB NB FB : Nat) (fm : Value) (fs : List UInt8 → Option (List UInt8)) (x : RdS) (name : List UInt8) (w W : World) (vf vw vc : Value) : Prop where
  tk : TakeOk f B fm fs
  hF : FilesAt B W fm fs
  ta : TakAt B W T M fm (openF x name) vf vw vc
  kp : KpT B T w W
  kn : KeepN M w W
  xr : Row W XB 134 #[.pointer (some ⟨T, 0, none⟩)]
  nr : Row W NB 9 #[.string ⟨name.toArray⟩]
  fr : Row W FB 3 #[.int .i64 (x.files.length : Nat)]
  xl : w.heap.size ≤ XB
  nl : w.heap.size ≤ NB
  fl : w.heap.size ≤ FB
  nf : vf.ownBlock ≠ some NB
  bw : B ≤ w.heap.size
  ok : OkR x
  co : x.coms.length ≤ 8000 * x.files.length
  l40 : x.files.length < 40
  fu : 41 ≤ f + 1 + x.files.length
  nlen : name.length ≤ maxLen
attribute [local go_sem] Oper.semAt_some
/-- behind the call of Strip -/
def After5 (W5 : World) (sl : List TokD × List ComD × Nat × Int) (v1 v2 : Value) (WB : Nat) (w : World) : Prop :=
  Below W5.heap.size W5 w ∧ w.ownsRow W5.heap.size 86 2 v1 sl.1.length (sl.1.flatMap tokCells) ∧ w.ownsRow W5.heap.size 91 4 v2 sl.2.1.length (sl.2.1.flatMap comCells) ∧ Row w WB 80 #[v1] ∧ W5.heap.size ≤ WB
set_option maxRecDepth 100000 in
set_option maxHeartbeats 4000000 in
theorem take_strip {f B T M XB NB FB : Nat} {fm : Value} {fs : List UInt8 → Option (List UInt8)} {x : RdS} {name : List UInt8} {w W4 : World} {vf vw vc : Value} {u0 u1 u5 u6 u7 u8 u9 u10 u11 u12 u13 u14 u15 u16 u17 u18 u19 u20 u21 u22 u23 u24 u25 u26 u27 u28 u29 u30 u31 u32 u33 u34 u35 u36 u37 u38 u39 u40 u41 u42 u43 u44 u45 u46 u47 u48 u49 u50 u51 u52 u53 u54 u55 u56 u57 u58 u59 u60 u61 u62 u63 u64 u65 u66 u67 u68 u69 u70 u71 u72 u73 u74 u75 u76 u77 u78 u79 u80 u81 u82 u83 u84 u85 u86 u87 u88 u89 u90 u91 u92 u93 u94 u95 u96 u97 u98 u99 u100 u101 u102 u103 u104 u105 u106 u107 u108 u109 u110 u111 u112 u113 u114 u115 u116 u117 u118 u119 u120 u121 u122 u123 u124 u125 u126 u127 u128 u129 u130 u131 u132 u133 u134 u135 u136 u137 u138 u139 u140 u141 u142 u143 u144 u145 u146 u147 u148 u149 u150 u151 u152 u153 u154 u155 u156 u157 u158 u159 u160 u161 u162 u163 u164 u165 u166 u167 u168 u169 u170 u171 u172 u173 u174 u175 u176 u177 u178 : Value} {Q : Exit → Act → World → Prop} (h : TkH f B T M XB NB FB fm fs x name w W4 vf vw vc)
    (hQ : ∀ (v1 v2 : Value) (WB : Nat) (w6 : World) {u0 u1 u10 u11 u12 u13 u14 u15 u16 u17 u18 u19 u20 u21 u22 u23 u24 u25 u26 u27 u28 u29 u30 u31 u32 u33 u34 u35 u36 u37 u39 u40 u41 u42 u43 u44 u45 u46 u47 u48 u49 u50 u51 u52 u53 u54 u55 u56 u57 u58 u59 u60 u61 u62 u63 u64 u65 u66 u67 u68 u69 u70 u71 u72 u73 u74 u75 u76 u77 u78 u79 u80 u81 u82 u83 u84 u85 u86 u87 u88 u89 u90 u91 u92 u93 u94 u95 u96 u97 u98 u99 u100 u101 u102 u103 u104 u105 u106 u107 u108 u109 u110 u111 u112 u113 u114 u115 u116 u117 u118 u119 u120 u121 u122 u123 u124 u125 u126 u127 u128 u129 u130 u131 u132 u133 u134 u135 u136 u137 u138 u139 u140 u141 u142 u143 u144 u145 u146 u147 u148 u149 u150 u151 u152 u153 u154 u155 u156 u157 u158 u159 u160 u161 u162 u163 u164 u165 u166 u167 u168 u169 u170 u171 u172 u173 u174 u175 u176 u177 u178 : Value}, After5 (W4.alloc (.cells #[.func (.func 90) #[] #[.pointer (some ⟨NB, 0, none⟩)]] 180)) (stripS ((fs name).getD [])) v1 v2 WB w6 →
      wpFn 63 Try.prog (tailC 6 takeC) Q { tmps := #[u0, u1, .pointer (some ⟨XB, 0, none⟩), .pointer (some ⟨NB, 0, none⟩), .pointer (some ⟨FB, 0, none⟩), .pointer (some ⟨W4.heap.size, 0, none⟩), .pointer (some ⟨WB, 0, none⟩), v2, .int .i64 (stripS ((fs name).getD [])).2.2.1, .int .i64 (stripS ((fs name).getD [])).2.2.2, u10, u11, u12, u13, u14, u15, u16, u17, u18, u19, u20, u21, u22, u23, u24, u25, u26, u27, u28, u29, u30, u31, u32, u33, u34, u35, u36, u37, .func (.func 90) #[] #[.pointer (some ⟨NB, 0, none⟩)], u39, u40, u41, u42, u43, u44, u45, u46, u47, u48, u49, u50, u51, u52, u53, u54, u55, u56, u57, u58, u59, u60, u61, u62, u63, u64, u65, u66, u67, u68, u69, u70, u71, u72, u73, u74, u75, u76, u77, u78, u79, u80, u81, u82, u83, u84, u85, u86, u87, u88, u89, u90, u91, u92, u93, u94, u95, u96, u97, u98, u99, u100, u101, u102, u103, u104, u105, u106, u107, u108, u109, u110, u111, u112, u113, u114, u115, u116, u117, u118, u119, u120, u121, u122, u123, u124, u125, u126, u127, u128, u129, u130, u131, u132, u133, u134, u135, u136, u137, u138, u139, u140, u141, u142, u143, u144, u145, u146, u147, u148, u149, u150, u151, u152, u153, u154, u155, u156, u157, u158, u159, u160, u161, u162, u163, u164, u165, u166, u167, u168, u169, u170, u171, u172, u173, u174, u175, u176, u177, u178], defers := [] } w6) :
    wpFn 63 Try.prog (tailC 4 takeC) Q { tmps := #[u0, u1, .pointer (some ⟨XB, 0, none⟩), .pointer (some ⟨NB, 0, none⟩), .pointer (some ⟨FB, 0, none⟩), u5, u6, u7, u8, u9, u10, u11, u12, u13, u14, u15, u16, u17, u18, u19, u20, u21, u22, u23, u24, u25, u26, u27, u28, u29, u30, u31, u32, u33, u34, u35, u36, u37, u38, u39, u40, u41, u42, u43, u44, u45, u46, u47, u48, u49, u50, u51, u52, u53, u54, u55, u56, u57, u58, u59, u60, u61, u62, u63, u64, u65, u66, u67, u68, u69, u70, u71, u72, u73, u74, u75, u76, u77, u78, u79, u80, u81, u82, u83, u84, u85, u86, u87, u88, u89, u90, u91, u92, u93, u94, u95, u96, u97, u98, u99, u100, u101, u102, u103, u104, u105, u106, u107, u108, u109, u110, u111, u112, u113, u114, u115, u116, u117, u118, u119, u120, u121, u122, u123, u124, u125, u126, u127, u128, u129, u130, u131, u132, u133, u134, u135, u136, u137, u138, u139, u140, u141, u142, u143, u144, u145, u146, u147, u148, u149, u150, u151, u152, u153, u154, u155, u156, u157, u158, u159, u160, u161, u162, u163, u164, u165, u166, u167, u168, u169, u170, u171, u172, u173, u174, u175, u176, u177, u178], defers := [] } W4 := by
  have hmf : ∀ (fn : Fn) (first cap : Array Value) (w : World), (Instr.makeFunc fn first cap).run Try.prog w = .ok (.func fn first cap) w := fun _ _ _ _ => rfl
  have HQ := Lib.hid hQ
  clear hQ
  simp only [takeC, tailC, Try.f63, Option.getD_some] at HQ ⊢
  refine wpFn_seq (wpFn_of 3 ?_)
  gi_wp2
  obtain ⟨W5, hW5⟩ : ∃ W5, W5 = W4.alloc (.cells #[.func (.func 90) #[] #[.pointer (some ⟨NB, 0, none⟩)]] 180) := ⟨_, rfl⟩
  have hb5 : Below W4.heap.size W4 W5 := by rw [hW5]; exact new_ (Below.refl _ _) _
  have hF5 := h.hF.below (hb5.mono (by have := h.ta.lo; have := h.ta.row.lt; omega))
  have ht5 := h.ta.below hb5
  have hx5 := h.xr.below hb5 h.xr.lt
  have hn5 := h.nr.below hb5 h.nr.lt
  have hnl := h.nlen
  have hB5 : B ≤ W5.heap.size := by have := ht5.lo; have := ht5.row.lt; omega
  rw [← hW5] at HQ ⊢
  clear hW5 hb5 h
  refine wpFn_seq (wpFn_of 3 ?_)
  refine wpIn_region_any (by kernel_rfl) ?_
  refine wpAnyIn_inv (Inv := fun listed a w => ∃ (b0 b1 b2 b3 b4 b5 b6 b7 b8 b9 b10 b11 b12 b13 b14 b15 b16 : Bool) (v1 v2 : Value) (WB : Nat), listed = #[b0, b1, b2, b3, b4, b5, b6, b7, b8, b9, b10, b11, b12, b13, b14, b15, b16] ∧ a = { tmps := #[u0, u1, .pointer (some ⟨XB, 0, none⟩), .pointer (some ⟨NB, 0, none⟩), .pointer (some ⟨FB, 0, none⟩), .pointer (some ⟨W4.heap.size, 0, none⟩), (bif b12 then .pointer (some ⟨WB, 0, none⟩) else u6), (bif b14 then v2 else u7), (bif b15 then .int .i64 (stripS ((fs name).getD [])).2.2.1 else u8), (bif b16 then .int .i64 (stripS ((fs name).getD [])).2.2.2 else u9), u10, u11, u12, u13, u14, u15, u16, u17, u18, u19, u20, u21, u22, u23, u24, u25, u26, u27, u28, u29, u30, u31, u32, u33, u34, u35, u36, u37, .func (.func 90) #[] #[.pointer (some ⟨NB, 0, none⟩)], (bif b7 then .tuple #[v1, v2, .int .i64 (stripS ((fs name).getD [])).2.2.1, .int .i64 (stripS ((fs name).getD [])).2.2.2] else u39), (bif b0 then .pointer (some ⟨T, 0, none⟩) else u40), (bif b1 then .pointer (some ⟨T, 0, none⟩) else u41), (bif b2 then .pointer (some ⟨T, 0, none⟩) else u42), (bif b3 then fm else u43), (bif b4 then .string ⟨name.toArray⟩ else u44), (bif b5 then .string ⟨((fs name).getD []).toArray⟩ else u45), (bif b6 then .tuple #[v1, v2, .int .i64 (stripS ((fs name).getD [])).2.2.1, .int .i64 (stripS ((fs name).getD [])).2.2.2] else u46), (bif b8 then v1 else u47), (bif b9 then v2 else u48), (bif b10 then .int .i64 (stripS ((fs name).getD [])).2.2.1 else u49), (bif b11 then .int .i64 (stripS ((fs name).getD [])).2.2.2 else u50), u51, u52, u53, u54, u55, u56, u57, u58, u59, u60, u61, u62, u63, u64, u65, u66, u67, u68, u69, u70, u71, u72, u73, u74, u75, u76, u77, u78, u79, u80, u81, u82, u83, u84, u85, u86, u87, u88, u89, u90, u91, u92, u93, u94, u95, u96, u97, u98, u99, u100, u101, u102, u103, u104, u105, u106, u107, u108, u109, u110, u111, u112, u113, u114, u115, u116, u117, u118, u119, u120, u121, u122, u123, u124, u125, u126, u127, u128, u129, u130, u131, u132, u133, u134, u135, u136, u137, u138, u139, u140, u141, u142, u143, u144, u145, u146, u147, u148, u149, u150, u151, u152, u153, u154, u155, u156, u157, u158, u159, u160, u161, u162, u163, u164, u165, u166, u167, u168, u169, u170, u171, u172, u173, u174, u175, u176, u177, u178], defers := [] } ∧ Below W5.heap.size W5 w ∧ (b6 = true → w.ownsRow W5.heap.size 86 2 v1 (stripS ((fs name).getD [])).1.length ((stripS ((fs name).getD [])).1.flatMap tokCells) ∧ w.ownsRow W5.heap.size 91 4 v2 (stripS ((fs name).getD [])).2.1.length ((stripS ((fs name).getD [])).2.1.flatMap comCells)) ∧ (b12 = true → Row w WB 80 #[bif b13 then v1 else .slice none 0 0] ∧ W5.heap.size ≤ WB) ∧ (b13 = true → b12 = true) ∧ (b13 = true → b6 = true) ∧ (b6 = false → b7 = false ∧ b8 = false ∧ b9 = false ∧ b14 = false)) (by kernel_rfl) ?_ ?_ ?_ _ _ _ _ ?_ ?_
  · rintro listed a w ⟨b0, b1, b2, b3, b4, b5, b6, b7, b8, b9, b10, b11, b12, b13, b14, b15, b16, v1, v2, WB, rfl, _⟩
    rfl
  · rintro i listed a w hi ⟨b0, b1, b2, b3, b4, b5, b6, b7, b8, b9, b10, b11, b12, b13, b14, b15, b16, v1, v2, WB, rfl, rfl, hbel, h6, h12, h1312, h136, h6f⟩ hl ha
    match i, hi with
    | 0, _ =>
      have hb : b0 = false := by simpa using hl
      clear ha hl
      subst hb
      have x0 := (hx5.below hbel hx5.lt).cell (i := 0) (v := .pointer (some ⟨T, 0, none⟩)) rfl
      have H6 := Lib.hid h6
      have H12 := Lib.hid h12
      have H1312 := Lib.hid h1312
      have H136 := Lib.hid h136
      have H6F := Lib.hid h6f
      clear h6 h12 h1312 h136 h6f
      refine wpOpIn_step rfl fun K' hK => ?_
      go_simp
      exact hK _ _ ⟨true, b1, b2, b3, b4, b5, b6, b7, b8, b9, b10, b11, b12, b13, b14, b15, b16, v1, v2, WB, rfl, rfl, hbel, H6.out, H12.out, H1312.out, H136.out, H6F.out⟩
    | 1, _ =>
      have hb : b1 = false := by simpa using hl
      have hd := ha _ rfl
      have d0 : b0 = true := by cases b0 with | true => rfl | false => simp [Region.binds] at hd
      clear hd
      clear ha hl
      subst hb d0
      have H6 := Lib.hid h6
      have H12 := Lib.hid h12
      have H1312 := Lib.hid h1312
      have H136 := Lib.hid h136
      have H6F := Lib.hid h6f
      clear h6 h12 h1312 h136 h6f
      refine wpOpIn_step rfl fun K' hK => ?_
      go_simp
      exact hK _ _ ⟨true, true, b2, b3, b4, b5, b6, b7, b8, b9, b10, b11, b12, b13, b14, b15, b16, v1, v2, WB, rfl, rfl, hbel, H6.out, H12.out, H1312.out, H136.out, H6F.out⟩
    | 2, _ =>
      have hb : b2 = false := by simpa using hl
      have hd := ha _ rfl
      have d1 : b1 = true := by cases b1 with | true => rfl | false => simp [Region.binds] at hd
      clear hd
      clear ha hl
      subst hb d1
      have H6 := Lib.hid h6
      have H12 := Lib.hid h12
      have H1312 := Lib.hid h1312
      have H136 := Lib.hid h136
      have H6F := Lib.hid h6f
      clear h6 h12 h1312 h136 h6f
      refine wpOpIn_step rfl fun K' hK => ?_
      go_simp
      exact hK _ _ ⟨b0, true, true, b3, b4, b5, b6, b7, b8, b9, b10, b11, b12, b13, b14, b15, b16, v1, v2, WB, rfl, rfl, hbel, H6.out, H12.out, H1312.out, H136.out, H6F.out⟩
    | 3, _ =>
      have hb : b3 = false := by simpa using hl
      have hd := ha _ rfl
      have d2 : b2 = true := by cases b2 with | true => rfl | false => simp [Region.binds] at hd
      clear hd
      clear ha hl
      subst hb d2
      have t0 := (ht5.row.below hbel ht5.row.lt).cell (i := 0) (v := fm) rfl
      have H6 := Lib.hid h6
      have H12 := Lib.hid h12
      have H1312 := Lib.hid h1312
      have H136 := Lib.hid h136
      have H6F := Lib.hid h6f
      clear h6 h12 h1312 h136 h6f
      refine wpOpIn_step rfl fun K' hK => ?_
      go_simp
      exact hK _ _ ⟨b0, b1, true, true, b4, b5, b6, b7, b8, b9, b10, b11, b12, b13, b14, b15, b16, v1, v2, WB, rfl, rfl, hbel, H6.out, H12.out, H1312.out, H136.out, H6F.out⟩
    | 4, _ =>
      have hb : b4 = false := by simpa using hl
      clear ha hl
      subst hb
      have n0 := (hn5.below hbel hn5.lt).cell (i := 0) (v := .string ⟨name.toArray⟩) rfl
      have H6 := Lib.hid h6
      have H12 := Lib.hid h12
      have H1312 := Lib.hid h1312
      have H136 := Lib.hid h136
      have H6F := Lib.hid h6f
      clear h6 h12 h1312 h136 h6f
      refine wpOpIn_step rfl fun K' hK => ?_
      go_simp
      exact hK _ _ ⟨b0, b1, b2, b3, true, b5, b6, b7, b8, b9, b10, b11, b12, b13, b14, b15, b16, v1, v2, WB, rfl, rfl, hbel, H6.out, H12.out, H1312.out, H136.out, H6F.out⟩
    | 5, _ =>
      have hb : b5 = false := by simpa using hl
      have hd := ha _ rfl
      have d3 : b3 = true := by cases b3 with | true => rfl | false => simp [Region.binds] at hd
      have d4 : b4 = true := by cases b4 with | true => rfl | false => simp [Region.binds] at hd
      clear hd
      clear ha hl
      subst hb d3 d4
      have l0 := (hF5.look w (fun k hk => hbel.block k (by omega)) name hnl).2
      have H6 := Lib.hid h6
      have H12 := Lib.hid h12
      have H1312 := Lib.hid h1312
      have H136 := Lib.hid h136
      have H6F := Lib.hid h6f
      clear h6 h12 h1312 h136 h6f
      refine wpOpIn_step rfl fun K' hK => ?_
      go_simp
      exact hK _ _ ⟨b0, b1, b2, true, true, true, b6, b7, b8, b9, b10, b11, b12, b13, b14, b15, b16, v1, v2, WB, rfl, rfl, hbel, H6.out, H12.out, H1312.out, H136.out, H6F.out⟩
    | 6, _ =>
      have hb : b6 = false := by simpa using hl
      have hd := ha _ rfl
      have d5 : b5 = true := by cases b5 with | true => rfl | false => simp [Region.binds] at hd
      clear hd
      clear ha hl
      subst hb d5
      have hb13 : b13 = false := by cases b13 with | false => rfl | true => exact absurd (h136 rfl) (by simp)
      subst hb13
      obtain ⟨q7, q8, q9, q14⟩ := h6f rfl
      subst q7 q8 q9 q14
      have H6 := Lib.hid h6
      have H12 := Lib.hid h12
      have H1312 := Lib.hid h1312
      have H136 := Lib.hid h136
      have H6F := Lib.hid h6f
      clear h6 h12 h1312 h136 h6f
      refine wpOpIn_step rfl fun K' hK => ?_
      go_simp
      refine ⟨trivial, (callsIn_wide.2 (strip_own w ((fs name).getD []) (hF5.mx w fun k hk => hbel.block k (by omega)))).mono ?_⟩
      rintro e w1 ⟨y1, y2, rfl, ho1, ho2, hb1⟩
      exact hK _ _ ⟨b0, b1, b2, b3, b4, true, true, false, false, false, b10, b11, b12, false, false, b15, b16, y1, y2, WB, rfl, rfl, hbel.trans (hb1.mono hbel.size), fun _ => ⟨own_lower ho1 hbel.size, own_lower ho2 hbel.size⟩, fun h => ⟨(H12.out h).1.below hb1 (H12.out h).1.lt, (H12.out h).2⟩, fun h => (by cases h), fun h => (by cases h), fun h => (by cases h)⟩
    | 7, _ =>
      have hb : b7 = false := by simpa using hl
      have hd := ha _ rfl
      have d6 : b6 = true := by cases b6 with | true => rfl | false => simp [Region.binds] at hd
      clear hd
      clear ha hl
      subst hb d6
      have H6 := Lib.hid h6
      have H12 := Lib.hid h12
      have H1312 := Lib.hid h1312
      have H136 := Lib.hid h136
      have H6F := Lib.hid h6f
      clear h6 h12 h1312 h136 h6f
      refine wpOpIn_step rfl fun K' hK => ?_
      go_simp
      exact hK _ _ ⟨b0, b1, b2, b3, b4, b5, true, true, b8, b9, b10, b11, b12, b13, b14, b15, b16, v1, v2, WB, rfl, rfl, hbel, H6.out, H12.out, H1312.out, H136.out, fun h => (by cases h)⟩
    | 8, _ =>
      have hb : b8 = false := by simpa using hl
      have hd := ha _ rfl
      have d7 : b7 = true := by cases b7 with | true => rfl | false => simp [Region.binds] at hd
      clear hd
      clear ha hl
      subst hb d7
      obtain rfl : b6 = true := by cases b6 with | true => rfl | false => exact absurd (h6f rfl).1 (by simp)
      have H6 := Lib.hid h6
      have H12 := Lib.hid h12
      have H1312 := Lib.hid h1312
      have H136 := Lib.hid h136
      have H6F := Lib.hid h6f
      clear h6 h12 h1312 h136 h6f
      refine wpOpIn_step rfl fun K' hK => ?_
      go_simp
      exact hK _ _ ⟨b0, b1, b2, b3, b4, b5, true, true, true, b9, b10, b11, b12, b13, b14, b15, b16, v1, v2, WB, rfl, rfl, hbel, H6.out, H12.out, H1312.out, H136.out, fun h => (by cases h)⟩
    | 9, _ =>
      have hb : b9 = false := by simpa using hl
      have hd := ha _ rfl
      have d7 : b7 = true := by cases b7 with | true => rfl | false => simp [Region.binds] at hd
      clear hd
      clear ha hl
      subst hb d7
      obtain rfl : b6 = true := by cases b6 with | true => rfl | false => exact absurd (h6f rfl).1 (by simp)
      have H6 := Lib.hid h6
      have H12 := Lib.hid h12
      have H1312 := Lib.hid h1312
      have H136 := Lib.hid h136
      have H6F := Lib.hid h6f
      clear h6 h12 h1312 h136 h6f
      refine wpOpIn_step rfl fun K' hK => ?_
      go_simp
      exact hK _ _ ⟨b0, b1, b2, b3, b4, b5, true, true, b8, true, b10, b11, b12, b13, b14, b15, b16, v1, v2, WB, rfl, rfl, hbel, H6.out, H12.out, H1312.out, H136.out, fun h => (by cases h)⟩
    | 10, _ =>
      have hb : b10 = false := by simpa using hl
      have hd := ha _ rfl
      have d7 : b7 = true := by cases b7 with | true => rfl | false => simp [Region.binds] at hd
      clear hd
      clear ha hl
      subst hb d7
      have H6 := Lib.hid h6
      have H12 := Lib.hid h12
      have H1312 := Lib.hid h1312
      have H136 := Lib.hid h136
      have H6F := Lib.hid h6f
      clear h6 h12 h1312 h136 h6f
      refine wpOpIn_step rfl fun K' hK => ?_
      go_simp
      exact hK _ _ ⟨b0, b1, b2, b3, b4, b5, b6, true, b8, b9, true, b11, b12, b13, b14, b15, b16, v1, v2, WB, rfl, rfl, hbel, H6.out, H12.out, H1312.out, H136.out, H6F.out⟩
    | 11, _ =>
      have hb : b11 = false := by simpa using hl
      have hd := ha _ rfl
      have d7 : b7 = true := by cases b7 with | true => rfl | false => simp [Region.binds] at hd
      clear hd
      clear ha hl
      subst hb d7
      have H6 := Lib.hid h6
      have H12 := Lib.hid h12
      have H1312 := Lib.hid h1312
      have H136 := Lib.hid h136
      have H6F := Lib.hid h6f
      clear h6 h12 h1312 h136 h6f
      refine wpOpIn_step rfl fun K' hK => ?_
      go_simp
      exact hK _ _ ⟨b0, b1, b2, b3, b4, b5, b6, true, b8, b9, b10, true, b12, b13, b14, b15, b16, v1, v2, WB, rfl, rfl, hbel, H6.out, H12.out, H1312.out, H136.out, H6F.out⟩
    | 12, _ =>
      have hb : b12 = false := by simpa using hl
      clear ha hl
      subst hb
      have hb13 : b13 = false := by cases b13 with | false => rfl | true => exact absurd (h1312 rfl) (by simp)
      subst hb13
      have H6 := Lib.hid h6
      have H12 := Lib.hid h12
      have H1312 := Lib.hid h1312
      have H136 := Lib.hid h136
      have H6F := Lib.hid h6f
      clear h6 h12 h1312 h136 h6f
      refine wpOpIn_step rfl fun K' hK => ?_
      go_simp
      exact hK _ _ ⟨b0, b1, b2, b3, b4, b5, b6, b7, b8, b9, b10, b11, true, false, b14, b15, b16, v1, v2, w.heap.size, rfl, rfl, new_ hbel _, fun h => ⟨own_alloc' (H6.out h).1 _, own_alloc' (H6.out h).2 _⟩, fun _ => ⟨Row.new _ _ _, hbel.size⟩, fun h => (by cases h), fun h => (by cases h), H6F.out⟩
    | 13, _ =>
      have hb : b13 = false := by simpa using hl
      have hd := ha _ rfl
      have d12 : b12 = true := by cases b12 with | true => rfl | false => simp [Region.binds] at hd
      have d8 : b8 = true := by cases b8 with | true => rfl | false => simp [Region.binds] at hd
      have d6 : b6 = true := by cases b6 with | true => rfl | false => simp [Region.binds] at hd
      clear hd
      clear ha hl
      subst hb d12 d8 d6
      obtain ⟨hrw, hwb⟩ := h12 rfl
      obtain ⟨ho1, ho2⟩ := h6 rfl
      obtain ⟨A1, c1, rfl, hc1⟩ := own_form ho1
      have z0 := hrw.cell (i := 0) (v := .slice none 0 0) rfl
      have z1 := hrw.free 0
      have H6 := Lib.hid h6
      have H12 := Lib.hid h12
      have H1312 := Lib.hid h1312
      have H136 := Lib.hid h136
      have H6F := Lib.hid h6f
      clear h6 h12 h1312 h136 h6f
      refine wpOpIn_step rfl fun K' hK => ?_
      go_simp
      exact hK _ _ ⟨b0, b1, b2, b3, b4, b5, true, b7, true, b9, b10, b11, true, true, b14, b15, b16, _, v2, WB, rfl, rfl, hbel.setCell (p := ⟨WB, 0, none⟩) hwb _, fun _ => ⟨ho1.kept (grown_set _ _ _ _) (.inr fun e => own_far ho1 hrw (by decide) e), ho2.kept (grown_set _ _ _ _) (.inr fun e => own_far ho2 hrw (by decide) e)⟩, fun _ => ⟨hrw.same1 _, hwb⟩, fun _ => rfl, fun _ => rfl, fun h => (by cases h)⟩
    | 14, _ =>
      have hb : b14 = false := by simpa using hl
      have hd := ha _ rfl
      have d9 : b9 = true := by cases b9 with | true => rfl | false => simp [Region.binds] at hd
      have d13 : b13 = true := by cases b13 with | true => rfl | false => simp [Region.binds] at hd
      have d12 : b12 = true := by cases b12 with | true => rfl | false => simp [Region.binds] at hd
      clear hd
      clear ha hl
      subst hb d9 d13 d12
      obtain rfl : b6 = true := h136 rfl
      have H6 := Lib.hid h6
      have H12 := Lib.hid h12
      have H1312 := Lib.hid h1312
      have H136 := Lib.hid h136
      have H6F := Lib.hid h6f
      clear h6 h12 h1312 h136 h6f
      refine wpOpIn_step rfl fun K' hK => ?_
      go_simp
      exact hK _ _ ⟨b0, b1, b2, b3, b4, b5, true, b7, b8, true, b10, b11, true, true, true, b15, b16, v1, v2, WB, rfl, rfl, hbel, H6.out, H12.out, H1312.out, H136.out, fun h => (by cases h)⟩
    | 15, _ =>
      have hb : b15 = false := by simpa using hl
      have hd := ha _ rfl
      have d10 : b10 = true := by cases b10 with | true => rfl | false => simp [Region.binds] at hd
      have d14 : b14 = true := by cases b14 with | true => rfl | false => simp [Region.binds] at hd
      clear hd
      clear ha hl
      subst hb d10 d14
      have H6 := Lib.hid h6
      have H12 := Lib.hid h12
      have H1312 := Lib.hid h1312
      have H136 := Lib.hid h136
      have H6F := Lib.hid h6f
      clear h6 h12 h1312 h136 h6f
      refine wpOpIn_step rfl fun K' hK => ?_
      go_simp
      exact hK _ _ ⟨b0, b1, b2, b3, b4, b5, b6, b7, b8, b9, true, b11, b12, b13, true, true, b16, v1, v2, WB, rfl, rfl, hbel, H6.out, H12.out, H1312.out, H136.out, H6F.out⟩
    | 16, _ =>
      have hb : b16 = false := by simpa using hl
      have hd := ha _ rfl
      have d11 : b11 = true := by cases b11 with | true => rfl | false => simp [Region.binds] at hd
      have d15 : b15 = true := by cases b15 with | true => rfl | false => simp [Region.binds] at hd
      clear hd
      clear ha hl
      subst hb d11 d15
      have H6 := Lib.hid h6
      have H12 := Lib.hid h12
      have H1312 := Lib.hid h1312
      have H136 := Lib.hid h136
      have H6F := Lib.hid h6f
      clear h6 h12 h1312 h136 h6f
      refine wpOpIn_step rfl fun K' hK => ?_
      go_simp
      exact hK _ _ ⟨b0, b1, b2, b3, b4, b5, b6, b7, b8, b9, b10, true, b12, b13, b14, true, true, v1, v2, WB, rfl, rfl, hbel, H6.out, H12.out, H1312.out, H136.out, H6F.out⟩
    | k + 17, hlt => exact absurd hlt (by show ¬ k + 17 < 17; omega)
  · rintro listed a w6 ⟨b0, b1, b2, b3, b4, b5, b6, b7, b8, b9, b10, b11, b12, b13, b14, b15, b16, v1, v2, WB, rfl, rfl, hbel, h6, h12, h1312, h136, h6f⟩ hall
    have h0' : b0 = true := by simpa using hall 0 (by decide)
    have h1' : b1 = true := by simpa using hall 1 (by decide)
    have h2' : b2 = true := by simpa using hall 2 (by decide)
    have h3' : b3 = true := by simpa using hall 3 (by decide)
    have h4' : b4 = true := by simpa using hall 4 (by decide)
    have h5' : b5 = true := by simpa using hall 5 (by decide)
    have h6' : b6 = true := by simpa using hall 6 (by decide)
    have h7' : b7 = true := by simpa using hall 7 (by decide)
    have h8' : b8 = true := by simpa using hall 8 (by decide)
    have h9' : b9 = true := by simpa using hall 9 (by decide)
    have h10' : b10 = true := by simpa using hall 10 (by decide)
    have h11' : b11 = true := by simpa using hall 11 (by decide)
    have h12' : b12 = true := by simpa using hall 12 (by decide)
    have h13' : b13 = true := by simpa using hall 13 (by decide)
    have h14' : b14 = true := by simpa using hall 14 (by decide)
    have h15' : b15 = true := by simpa using hall 15 (by decide)
    have h16' : b16 = true := by simpa using hall 16 (by decide)
    clear hall
    subst h0' h1' h2' h3' h4' h5' h6' h7' h8' h9' h10' h11' h12' h13' h14' h15' h16'
    exact HQ.out v1 v2 WB w6 ⟨hbel, (h6 rfl).1, (h6 rfl).2, (h12 rfl).1, (h12 rfl).2⟩
  · refine ⟨false, false, false, false, false, false, false, false, false, false, false, false, false, false, false, false, false, .nilIface, .nilIface, 0, rfl, rfl, (Below.refl _ _).drew, ?_, ?_, ?_, ?_, fun _ => ⟨rfl, rfl, rfl, rfl⟩⟩
    · intro h; cases h
    · intro h; cases h
    · intro h; cases h
    · intro h; cases h
  · simp
end Go.Proofs.Ytignhjfobcnloaa
