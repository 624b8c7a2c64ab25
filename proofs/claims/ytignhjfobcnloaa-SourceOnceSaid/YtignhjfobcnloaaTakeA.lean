/- The rounds of take's loop: words with a fault. (Printed by gen_take2.py.) The rounds of take's loop: an include command's first word. (Printed by gen_take2.py.) The rounds of take's loop: an include command begins. (Printed by gen_take2.py.) The rounds of take's loop: a word that is added. (Printed by gen_take2.py.) -/
import Derived.Test.YtignhjfobcnloaaSrcTake2
section
namespace Go.Proofs.Ytignhjfobcnloaa
open Go.RowKit
attribute [local go_sem] Oper.semAt_some
set_option maxRecDepth 100000 in
set_option maxHeartbeats 4000000 in
theorem round_close {B D T M CB XN XB NB FB LB WB PB file base : Nat} {fm vf vw vc cmd wv : Value} {name : List UInt8} {ws : List TokD} {s : RunD} {t : TokD} {W : World} {u0 u1 u7 u8 u9 u13 u14 u15 u16 u17 u18 u19 u20 u21 u22 u23 u24 u25 u26 u27 u28 u29 u30 u31 u32 u33 u34 u35 u36 u37 u38 u39 u40 u41 u42 u43 u44 u45 u46 u47 u48 u49 u50 u51 u52 u53 u54 u55 u56 u57 u58 u59 u60 u61 u62 u63 u64 u65 u66 u67 u68 u69 u70 u71 u72 u73 u74 u75 u76 u77 u78 u79 u80 u81 u82 u83 u84 u85 u86 u87 u88 u89 u90 u91 u92 u93 u94 u95 u96 u97 u98 u99 u100 u101 u102 u103 u104 u105 u106 u107 u108 u109 u110 u111 u112 u113 u114 u115 u116 u117 u118 u119 u120 u121 u122 u123 u124 u125 u126 u127 u128 u129 u130 u131 u132 u133 u134 u135 u136 u137 u138 u139 u140 u141 u142 u143 u144 u145 u146 u147 u148 u149 u150 u151 u152 u153 u154 u155 u156 u157 u158 u159 u160 u161 u162 u163 u164 u165 u166 u167 u168 u169 u170 u171 u172 u173 u174 u175 u176 u177 u178 : Value} (l : Nat) (h : RdH B D T M CB XN XB NB FB LB WB file base fm vf vw vc cmd wv name ws s W) (hp : Row W PB 186 #[.string ⟨t.1.toArray⟩, .int .i64 (t.2 : Nat), .pointer none]) (hs : s.2.1 = []) (ht : t.1 = [36, 93]) :
    roundC.wpIn (Fence.wide.inRound l) 1 Try.prog (roundQ B D T M CB XN fm (.inr (name, (t.2 : Nat), 41)) W) { tmps := #[u0, u1, .pointer (some ⟨XB, 0, none⟩), .pointer (some ⟨NB, 0, none⟩), .pointer (some ⟨FB, 0, none⟩), .pointer (some ⟨LB, 0, none⟩), .pointer (some ⟨WB, 0, none⟩), u7, u8, u9, .pointer (some ⟨CB, 0, none⟩), .pointer (some ⟨XN, 0, none⟩), .pointer (some ⟨PB, 0, none⟩), u13, u14, u15, u16, u17, u18, u19, u20, u21, u22, u23, u24, u25, u26, u27, u28, u29, u30, u31, u32, u33, u34, u35, u36, u37, u38, u39, u40, u41, u42, u43, u44, u45, u46, u47, u48, u49, u50, u51, u52, u53, u54, u55, u56, u57, u58, u59, u60, u61, u62, u63, u64, u65, u66, u67, u68, u69, u70, u71, u72, u73, u74, u75, u76, u77, u78, u79, u80, u81, u82, u83, u84, u85, u86, u87, u88, u89, u90, u91, u92, u93, u94, u95, u96, u97, u98, u99, u100, u101, u102, u103, u104, u105, u106, u107, u108, u109, u110, u111, u112, u113, u114, u115, u116, u117, u118, u119, u120, u121, u122, u123, u124, u125, u126, u127, u128, u129, u130, u131, u132, u133, u134, u135, u136, u137, u138, u139, u140, u141, u142, u143, u144, u145, u146, u147, u148, u149, u150, u151, u152, u153, u154, u155, u156, u157, u158, u159, u160, u161, u162, u163, u164, u165, u166, u167, u168, u169, u170, u171, u172, u173, u174, u175, u176, u177, u178], defers := [] } W := by
  obtain ⟨hm, hx, hn, hf, hl, hw, hwo, hnf, hnw, hds, hnm, hmx, hwl, hok, hsl, htl⟩ := h
  have ne_XN_XB : XN ≠ XB := row_ne hm.nb hx (by decide)
  have ne_XB_XN : XB ≠ XN := fun e => ne_XN_XB e.symm
  have ne_XN_NB : XN ≠ NB := row_ne hm.nb hn (by decide)
  have ne_NB_XN : NB ≠ XN := fun e => ne_XN_NB e.symm
  have ne_XN_LB : XN ≠ LB := row_ne hm.nb hl (by decide)
  have ne_LB_XN : LB ≠ XN := fun e => ne_XN_LB e.symm
  have ne_XN_WB : XN ≠ WB := row_ne hm.nb hw (by decide)
  have ne_WB_XN : WB ≠ XN := fun e => ne_XN_WB e.symm
  have ne_XN_CB : XN ≠ CB := row_ne hm.nb hm.cb (by decide)
  have ne_CB_XN : CB ≠ XN := fun e => ne_XN_CB e.symm
  have ne_CB_XB : CB ≠ XB := row_ne hm.cb hx (by decide)
  have ne_XB_CB : XB ≠ CB := fun e => ne_CB_XB e.symm
  have ne_CB_NB : CB ≠ NB := row_ne hm.cb hn (by decide)
  have ne_NB_CB : NB ≠ CB := fun e => ne_CB_NB e.symm
  have ne_CB_FB : CB ≠ FB := row_ne hm.cb hf (by decide)
  have ne_FB_CB : FB ≠ CB := fun e => ne_CB_FB e.symm
  have ne_CB_LB : CB ≠ LB := row_ne hm.cb hl (by decide)
  have ne_LB_CB : LB ≠ CB := fun e => ne_CB_LB e.symm
  have ne_XN_FB : XN ≠ FB := fun e => hnf e.symm
  have ne_CB_WB : CB ≠ WB := fun e => hnw e.symm
  have lt_XB := hx.lt
  have lt_NB := hn.lt
  have lt_FB := hf.lt
  have lt_LB := hl.lt
  have lt_WB := hw.lt
  have lt_CB := hm.cb.lt
  have lt_XN := hm.nb.lt
  have lt_PB := hp.lt
  have x0 := hx.cell (i := 0) (v := .pointer (some ⟨T, 0, none⟩)) rfl
  have n0 := hn.cell (i := 0) (v := .string ⟨name.toArray⟩) rfl
  have f0 := hf.cell (i := 0) (v := .int .i64 (file : Nat)) rfl
  have l0 := hl.cell (i := 0) (v := .func (.func 90) #[] #[.pointer (some ⟨NB, 0, none⟩)]) rfl
  have w0 := hw.cell (i := 0) (v := wv) rfl
  have q0 := hp.cell (i := 0) (v := .string ⟨t.1.toArray⟩) rfl
  have q1 := hp.cell (i := 1) (v := .int .i64 (t.2 : Nat)) rfl
  have q2 := hp.cell (i := 2) (v := .pointer none) rfl
  obtain ⟨y, c, k⟩ := s
  obtain rfl : c = [] := hs
  have hb0 : (0 : Int) ≤ (k : Int) := by omega
  have hb1 : (k : Int) ≤ 8000 := by dsimp only at hsl; omega
  have c0 := hm.cb.cell (i := 0) (v := cmd) rfl
  have k0 := hm.nb.cell (i := 0) (v := .int .i64 (k : Nat)) rfl
  have k1 := hm.nb.free 0
  have c1 := hm.cb.free 0
  obtain ⟨cA, cc, rfl, hcc⟩ := own_form hm.own
  obtain ⟨i0, hi, hj0, hj1, hj2⟩ := info_parts infoTok
  have HX : Hid (TkM B D T M CB XN fm (y, [], k + 1) vf vw vc (.slice cA ([] : List TokD).length cc) (W.setCell ⟨XN, 0, none⟩ (.int .i64 ((k : Int) + 1))) ∧ KpS B (rootsK T CB XN) W (W.setCell ⟨XN, 0, none⟩ (.int .i64 ((k : Int) + 1)))) := Lib.hid (hm.next (k + 1))
  have HM := Lib.hid hm
  have HW2 : Hid (TkM B D T M CB XN fm (y, [], k + 1) vf vw vc (.slice cA ([] : List TokD).length cc) ((W.setCell ⟨XN, 0, none⟩ (.int .i64 ((k : Int) + 1))).alloc (.cells #[.string ⟨t.1.toArray⟩, .int .i64 (t.2 : Nat)] 86)) ∧ KpS B (rootsK T CB XN) W ((W.setCell ⟨XN, 0, none⟩ (.int .i64 ((k : Int) + 1))).alloc (.cells #[.string ⟨t.1.toArray⟩, .int .i64 (t.2 : Nat)] 86))) := Lib.hid ⟨HX.out.1.below (new_ (Below.refl _ _) _), HX.out.2.trans (KpS.of_below HX.out.1.rooted (new_ (Below.refl _ _) _) HX.out.1.size)⟩
  have HS := Lib.hid hm.size
  clear hm
  simp only [roundC, takeC, tailC, Try.f63, Option.getD_some]
  have e1 : (t.1 == [36, 93]) = true := by simpa using ht
  clear ht
  gi_wp2_with (first
    | (refine ⟨trivial, ?_⟩; gi_at_call 90; (refine ((callsIn_wide.2 (fail_any _ NB name _ _ (((hn.other (by exact ne_NB_XN) _).alloc _).cell (i := 0) rfl))).inRound l).mono ?_; rintro e w3 ⟨rfl, rfl⟩)))
  exact ⟨rfl, _, rfl, rfl, HW2.out.2.below_of, HM.out.keepN HW2.out.2⟩
set_option maxRecDepth 100000 in
set_option maxHeartbeats 4000000 in
theorem round_shut {B D T M CB XN XB NB FB LB WB PB file base : Nat} {fm vf vw vc cmd wv : Value} {name : List UInt8} {ws : List TokD} {s : RunD} {t : TokD} {W : World} {u0 u1 u7 u8 u9 u13 u14 u15 u16 u17 u18 u19 u20 u21 u22 u23 u24 u25 u26 u27 u28 u29 u30 u31 u32 u33 u34 u35 u36 u37 u38 u39 u40 u41 u42 u43 u44 u45 u46 u47 u48 u49 u50 u51 u52 u53 u54 u55 u56 u57 u58 u59 u60 u61 u62 u63 u64 u65 u66 u67 u68 u69 u70 u71 u72 u73 u74 u75 u76 u77 u78 u79 u80 u81 u82 u83 u84 u85 u86 u87 u88 u89 u90 u91 u92 u93 u94 u95 u96 u97 u98 u99 u100 u101 u102 u103 u104 u105 u106 u107 u108 u109 u110 u111 u112 u113 u114 u115 u116 u117 u118 u119 u120 u121 u122 u123 u124 u125 u126 u127 u128 u129 u130 u131 u132 u133 u134 u135 u136 u137 u138 u139 u140 u141 u142 u143 u144 u145 u146 u147 u148 u149 u150 u151 u152 u153 u154 u155 u156 u157 u158 u159 u160 u161 u162 u163 u164 u165 u166 u167 u168 u169 u170 u171 u172 u173 u174 u175 u176 u177 u178 : Value} (l : Nat) (h : RdH B D T M CB XN XB NB FB LB WB file base fm vf vw vc cmd wv name ws s W) (hp : Row W PB 186 #[.string ⟨t.1.toArray⟩, .int .i64 (t.2 : Nat), .pointer none]) (hs : s.2.1 = []) (ht : t.1 = [36, 91]) (hbt : betweenS s.1 = false) :
    roundC.wpIn (Fence.wide.inRound l) 1 Try.prog (roundQ B D T M CB XN fm (.inr (name, (t.2 : Nat), 43)) W) { tmps := #[u0, u1, .pointer (some ⟨XB, 0, none⟩), .pointer (some ⟨NB, 0, none⟩), .pointer (some ⟨FB, 0, none⟩), .pointer (some ⟨LB, 0, none⟩), .pointer (some ⟨WB, 0, none⟩), u7, u8, u9, .pointer (some ⟨CB, 0, none⟩), .pointer (some ⟨XN, 0, none⟩), .pointer (some ⟨PB, 0, none⟩), u13, u14, u15, u16, u17, u18, u19, u20, u21, u22, u23, u24, u25, u26, u27, u28, u29, u30, u31, u32, u33, u34, u35, u36, u37, u38, u39, u40, u41, u42, u43, u44, u45, u46, u47, u48, u49, u50, u51, u52, u53, u54, u55, u56, u57, u58, u59, u60, u61, u62, u63, u64, u65, u66, u67, u68, u69, u70, u71, u72, u73, u74, u75, u76, u77, u78, u79, u80, u81, u82, u83, u84, u85, u86, u87, u88, u89, u90, u91, u92, u93, u94, u95, u96, u97, u98, u99, u100, u101, u102, u103, u104, u105, u106, u107, u108, u109, u110, u111, u112, u113, u114, u115, u116, u117, u118, u119, u120, u121, u122, u123, u124, u125, u126, u127, u128, u129, u130, u131, u132, u133, u134, u135, u136, u137, u138, u139, u140, u141, u142, u143, u144, u145, u146, u147, u148, u149, u150, u151, u152, u153, u154, u155, u156, u157, u158, u159, u160, u161, u162, u163, u164, u165, u166, u167, u168, u169, u170, u171, u172, u173, u174, u175, u176, u177, u178], defers := [] } W := by
  obtain ⟨hm, hx, hn, hf, hl, hw, hwo, hnf, hnw, hds, hnm, hmx, hwl, hok, hsl, htl⟩ := h
  have ne_XN_XB : XN ≠ XB := row_ne hm.nb hx (by decide)
  have ne_XB_XN : XB ≠ XN := fun e => ne_XN_XB e.symm
  have ne_XN_NB : XN ≠ NB := row_ne hm.nb hn (by decide)
  have ne_NB_XN : NB ≠ XN := fun e => ne_XN_NB e.symm
  have ne_XN_LB : XN ≠ LB := row_ne hm.nb hl (by decide)
  have ne_LB_XN : LB ≠ XN := fun e => ne_XN_LB e.symm
  have ne_XN_WB : XN ≠ WB := row_ne hm.nb hw (by decide)
  have ne_WB_XN : WB ≠ XN := fun e => ne_XN_WB e.symm
  have ne_XN_CB : XN ≠ CB := row_ne hm.nb hm.cb (by decide)
  have ne_CB_XN : CB ≠ XN := fun e => ne_XN_CB e.symm
  have ne_CB_XB : CB ≠ XB := row_ne hm.cb hx (by decide)
  have ne_XB_CB : XB ≠ CB := fun e => ne_CB_XB e.symm
  have ne_CB_NB : CB ≠ NB := row_ne hm.cb hn (by decide)
  have ne_NB_CB : NB ≠ CB := fun e => ne_CB_NB e.symm
  have ne_CB_FB : CB ≠ FB := row_ne hm.cb hf (by decide)
  have ne_FB_CB : FB ≠ CB := fun e => ne_CB_FB e.symm
  have ne_CB_LB : CB ≠ LB := row_ne hm.cb hl (by decide)
  have ne_LB_CB : LB ≠ CB := fun e => ne_CB_LB e.symm
  have ne_XN_FB : XN ≠ FB := fun e => hnf e.symm
  have ne_CB_WB : CB ≠ WB := fun e => hnw e.symm
  have lt_XB := hx.lt
  have lt_NB := hn.lt
  have lt_FB := hf.lt
  have lt_LB := hl.lt
  have lt_WB := hw.lt
  have lt_CB := hm.cb.lt
  have lt_XN := hm.nb.lt
  have lt_PB := hp.lt
  have x0 := hx.cell (i := 0) (v := .pointer (some ⟨T, 0, none⟩)) rfl
  have n0 := hn.cell (i := 0) (v := .string ⟨name.toArray⟩) rfl
  have f0 := hf.cell (i := 0) (v := .int .i64 (file : Nat)) rfl
  have l0 := hl.cell (i := 0) (v := .func (.func 90) #[] #[.pointer (some ⟨NB, 0, none⟩)]) rfl
  have w0 := hw.cell (i := 0) (v := wv) rfl
  have q0 := hp.cell (i := 0) (v := .string ⟨t.1.toArray⟩) rfl
  have q1 := hp.cell (i := 1) (v := .int .i64 (t.2 : Nat)) rfl
  have q2 := hp.cell (i := 2) (v := .pointer none) rfl
  obtain ⟨y, c, k⟩ := s
  obtain rfl : c = [] := hs
  have hb0 : (0 : Int) ≤ (k : Int) := by omega
  have hb1 : (k : Int) ≤ 8000 := by dsimp only at hsl; omega
  have c0 := hm.cb.cell (i := 0) (v := cmd) rfl
  have k0 := hm.nb.cell (i := 0) (v := .int .i64 (k : Nat)) rfl
  have k1 := hm.nb.free 0
  have c1 := hm.cb.free 0
  obtain ⟨cA, cc, rfl, hcc⟩ := own_form hm.own
  obtain ⟨i0, hi, hj0, hj1, hj2⟩ := info_parts infoTok
  have HX : Hid (TkM B D T M CB XN fm (y, [], k + 1) vf vw vc (.slice cA ([] : List TokD).length cc) (W.setCell ⟨XN, 0, none⟩ (.int .i64 ((k : Int) + 1))) ∧ KpS B (rootsK T CB XN) W (W.setCell ⟨XN, 0, none⟩ (.int .i64 ((k : Int) + 1)))) := Lib.hid (hm.next (k + 1))
  have HM := Lib.hid hm
  have HW2 : Hid (TkM B D T M CB XN fm (y, [], k + 1) vf vw vc (.slice cA ([] : List TokD).length cc) ((W.setCell ⟨XN, 0, none⟩ (.int .i64 ((k : Int) + 1))).alloc (.cells #[.string ⟨t.1.toArray⟩, .int .i64 (t.2 : Nat)] 86)) ∧ KpS B (rootsK T CB XN) W ((W.setCell ⟨XN, 0, none⟩ (.int .i64 ((k : Int) + 1))).alloc (.cells #[.string ⟨t.1.toArray⟩, .int .i64 (t.2 : Nat)] 86))) := Lib.hid ⟨HX.out.1.below (new_ (Below.refl _ _) _), HX.out.2.trans (KpS.of_below HX.out.1.rooted (new_ (Below.refl _ _) _) HX.out.1.size)⟩
  have HS := Lib.hid hm.size
  clear hm
  simp only [roundC, takeC, tailC, Try.f63, Option.getD_some]
  have HOK := Lib.hid hok
  have e1 : (t.1 == [36, 93]) = false := by rw [ht]; rfl
  have e2 : (t.1 == [36, 91]) = true := by simpa using ht
  clear ht
  have HBT := Lib.hid hbt
  clear hbt
  gi_wp2_with (first
    | (refine ⟨trivial, ?_⟩; gi_at_call 93; (refine ((callsIn_wide.2 (between_any _ B T M fm vf vw vc y HW2.out.1.tak HOK.out.wl (by have := HOK.out.wl; have := HOK.out.dl; omega))).inRound l).mono ?_; rw [HBT.out]; rintro e w3 ⟨rfl, rfl⟩))
    | (refine ⟨trivial, ?_⟩; gi_at_call 90; (refine ((callsIn_wide.2 (fail_any _ NB name _ _ (((hn.other (by exact ne_NB_XN) _).alloc _).cell (i := 0) rfl))).inRound l).mono ?_; rintro e w3 ⟨rfl, rfl⟩))
    | fail)
  exact ⟨rfl, _, rfl, rfl, HW2.out.2.below_of, HM.out.keepN HW2.out.2⟩
set_option maxRecDepth 100000 in
set_option maxHeartbeats 4000000 in
theorem round_few {B D T M CB XN XB NB FB LB WB PB file base : Nat} {fm vf vw vc cmd wv : Value} {name : List UInt8} {ws : List TokD} {s : RunD} {t : TokD} {W : World} {u0 u1 u7 u8 u9 u13 u14 u15 u16 u17 u18 u19 u20 u21 u22 u23 u24 u25 u26 u27 u28 u29 u30 u31 u32 u33 u34 u35 u36 u37 u38 u39 u40 u41 u42 u43 u44 u45 u46 u47 u48 u49 u50 u51 u52 u53 u54 u55 u56 u57 u58 u59 u60 u61 u62 u63 u64 u65 u66 u67 u68 u69 u70 u71 u72 u73 u74 u75 u76 u77 u78 u79 u80 u81 u82 u83 u84 u85 u86 u87 u88 u89 u90 u91 u92 u93 u94 u95 u96 u97 u98 u99 u100 u101 u102 u103 u104 u105 u106 u107 u108 u109 u110 u111 u112 u113 u114 u115 u116 u117 u118 u119 u120 u121 u122 u123 u124 u125 u126 u127 u128 u129 u130 u131 u132 u133 u134 u135 u136 u137 u138 u139 u140 u141 u142 u143 u144 u145 u146 u147 u148 u149 u150 u151 u152 u153 u154 u155 u156 u157 u158 u159 u160 u161 u162 u163 u164 u165 u166 u167 u168 u169 u170 u171 u172 u173 u174 u175 u176 u177 u178 : Value} (l : Nat) (h : RdH B D T M CB XN XB NB FB LB WB file base fm vf vw vc cmd wv name ws s W) (hp : Row W PB 186 #[.string ⟨t.1.toArray⟩, .int .i64 (t.2 : Nat), .pointer none]) (hs : s.2.1 = []) (ht : t.1 = [36, 91]) (hbt : betweenS s.1 = true) (hfw : ws.length < s.2.2 + 3) :
    roundC.wpIn (Fence.wide.inRound l) 1 Try.prog (roundQ B D T M CB XN fm (.inr (name, (t.2 : Nat), 40)) W) { tmps := #[u0, u1, .pointer (some ⟨XB, 0, none⟩), .pointer (some ⟨NB, 0, none⟩), .pointer (some ⟨FB, 0, none⟩), .pointer (some ⟨LB, 0, none⟩), .pointer (some ⟨WB, 0, none⟩), u7, u8, u9, .pointer (some ⟨CB, 0, none⟩), .pointer (some ⟨XN, 0, none⟩), .pointer (some ⟨PB, 0, none⟩), u13, u14, u15, u16, u17, u18, u19, u20, u21, u22, u23, u24, u25, u26, u27, u28, u29, u30, u31, u32, u33, u34, u35, u36, u37, u38, u39, u40, u41, u42, u43, u44, u45, u46, u47, u48, u49, u50, u51, u52, u53, u54, u55, u56, u57, u58, u59, u60, u61, u62, u63, u64, u65, u66, u67, u68, u69, u70, u71, u72, u73, u74, u75, u76, u77, u78, u79, u80, u81, u82, u83, u84, u85, u86, u87, u88, u89, u90, u91, u92, u93, u94, u95, u96, u97, u98, u99, u100, u101, u102, u103, u104, u105, u106, u107, u108, u109, u110, u111, u112, u113, u114, u115, u116, u117, u118, u119, u120, u121, u122, u123, u124, u125, u126, u127, u128, u129, u130, u131, u132, u133, u134, u135, u136, u137, u138, u139, u140, u141, u142, u143, u144, u145, u146, u147, u148, u149, u150, u151, u152, u153, u154, u155, u156, u157, u158, u159, u160, u161, u162, u163, u164, u165, u166, u167, u168, u169, u170, u171, u172, u173, u174, u175, u176, u177, u178], defers := [] } W := by
  obtain ⟨hm, hx, hn, hf, hl, hw, hwo, hnf, hnw, hds, hnm, hmx, hwl, hok, hsl, htl⟩ := h
  have ne_XN_XB : XN ≠ XB := row_ne hm.nb hx (by decide)
  have ne_XB_XN : XB ≠ XN := fun e => ne_XN_XB e.symm
  have ne_XN_NB : XN ≠ NB := row_ne hm.nb hn (by decide)
  have ne_NB_XN : NB ≠ XN := fun e => ne_XN_NB e.symm
  have ne_XN_LB : XN ≠ LB := row_ne hm.nb hl (by decide)
  have ne_LB_XN : LB ≠ XN := fun e => ne_XN_LB e.symm
  have ne_XN_WB : XN ≠ WB := row_ne hm.nb hw (by decide)
  have ne_WB_XN : WB ≠ XN := fun e => ne_XN_WB e.symm
  have ne_XN_CB : XN ≠ CB := row_ne hm.nb hm.cb (by decide)
  have ne_CB_XN : CB ≠ XN := fun e => ne_XN_CB e.symm
  have ne_CB_XB : CB ≠ XB := row_ne hm.cb hx (by decide)
  have ne_XB_CB : XB ≠ CB := fun e => ne_CB_XB e.symm
  have ne_CB_NB : CB ≠ NB := row_ne hm.cb hn (by decide)
  have ne_NB_CB : NB ≠ CB := fun e => ne_CB_NB e.symm
  have ne_CB_FB : CB ≠ FB := row_ne hm.cb hf (by decide)
  have ne_FB_CB : FB ≠ CB := fun e => ne_CB_FB e.symm
  have ne_CB_LB : CB ≠ LB := row_ne hm.cb hl (by decide)
  have ne_LB_CB : LB ≠ CB := fun e => ne_CB_LB e.symm
  have ne_XN_FB : XN ≠ FB := fun e => hnf e.symm
  have ne_CB_WB : CB ≠ WB := fun e => hnw e.symm
  have lt_XB := hx.lt
  have lt_NB := hn.lt
  have lt_FB := hf.lt
  have lt_LB := hl.lt
  have lt_WB := hw.lt
  have lt_CB := hm.cb.lt
  have lt_XN := hm.nb.lt
  have lt_PB := hp.lt
  have x0 := hx.cell (i := 0) (v := .pointer (some ⟨T, 0, none⟩)) rfl
  have n0 := hn.cell (i := 0) (v := .string ⟨name.toArray⟩) rfl
  have f0 := hf.cell (i := 0) (v := .int .i64 (file : Nat)) rfl
  have l0 := hl.cell (i := 0) (v := .func (.func 90) #[] #[.pointer (some ⟨NB, 0, none⟩)]) rfl
  have w0 := hw.cell (i := 0) (v := wv) rfl
  have q0 := hp.cell (i := 0) (v := .string ⟨t.1.toArray⟩) rfl
  have q1 := hp.cell (i := 1) (v := .int .i64 (t.2 : Nat)) rfl
  have q2 := hp.cell (i := 2) (v := .pointer none) rfl
  obtain ⟨y, c, k⟩ := s
  obtain rfl : c = [] := hs
  have hb0 : (0 : Int) ≤ (k : Int) := by omega
  have hb1 : (k : Int) ≤ 8000 := by dsimp only at hsl; omega
  have c0 := hm.cb.cell (i := 0) (v := cmd) rfl
  have k0 := hm.nb.cell (i := 0) (v := .int .i64 (k : Nat)) rfl
  have k1 := hm.nb.free 0
  have c1 := hm.cb.free 0
  obtain ⟨cA, cc, rfl, hcc⟩ := own_form hm.own
  obtain ⟨i0, hi, hj0, hj1, hj2⟩ := info_parts infoTok
  have HX : Hid (TkM B D T M CB XN fm (y, [], k + 1) vf vw vc (.slice cA ([] : List TokD).length cc) (W.setCell ⟨XN, 0, none⟩ (.int .i64 ((k : Int) + 1))) ∧ KpS B (rootsK T CB XN) W (W.setCell ⟨XN, 0, none⟩ (.int .i64 ((k : Int) + 1)))) := Lib.hid (hm.next (k + 1))
  have HM := Lib.hid hm
  have HW2 : Hid (TkM B D T M CB XN fm (y, [], k + 1) vf vw vc (.slice cA ([] : List TokD).length cc) ((W.setCell ⟨XN, 0, none⟩ (.int .i64 ((k : Int) + 1))).alloc (.cells #[.string ⟨t.1.toArray⟩, .int .i64 (t.2 : Nat)] 86)) ∧ KpS B (rootsK T CB XN) W ((W.setCell ⟨XN, 0, none⟩ (.int .i64 ((k : Int) + 1))).alloc (.cells #[.string ⟨t.1.toArray⟩, .int .i64 (t.2 : Nat)] 86))) := Lib.hid ⟨HX.out.1.below (new_ (Below.refl _ _) _), HX.out.2.trans (KpS.of_below HX.out.1.rooted (new_ (Below.refl _ _) _) HX.out.1.size)⟩
  have HS := Lib.hid hm.size
  clear hm
  simp only [roundC, takeC, tailC, Try.f63, Option.getD_some]
  have HOK := Lib.hid hok
  have e1 : (t.1 == [36, 93]) = false := by rw [ht]; rfl
  have e2 : (t.1 == [36, 91]) = true := by simpa using ht
  clear ht
  have HBT := Lib.hid hbt
  obtain ⟨wA, wc, rfl, hwc⟩ := own_form hwo
  have hfw2 : (ws.length : Int) - ((k : Int) + 1) < 2 := by dsimp only at hfw; omega
  have e3 : decide ((ws.length : Int) - ((k : Int) + 1) < 2) = true := decide_eq_true hfw2
  have hwl0 : (0 : Int) ≤ (ws.length : Int) := by omega
  have hwl8 : (ws.length : Int) ≤ 8000 := by omega
  clear hbt hfw hfw2
  gi_wp2_with (first
    | (refine ⟨trivial, ?_⟩; gi_at_call 93; (refine ((callsIn_wide.2 (between_any _ B T M fm vf vw vc y HW2.out.1.tak HOK.out.wl (by have := HOK.out.wl; have := HOK.out.dl; omega))).inRound l).mono ?_; rw [HBT.out]; rintro e w3 ⟨rfl, rfl⟩))
    | (refine ⟨trivial, ?_⟩; gi_at_call 90; (refine ((callsIn_wide.2 (fail_any _ NB name _ _ (((hn.other (by exact ne_NB_XN) _).alloc _).cell (i := 0) rfl))).inRound l).mono ?_; rintro e w3 ⟨rfl, rfl⟩))
    | fail)
  exact ⟨rfl, _, rfl, rfl, HW2.out.2.below_of, HM.out.keepN HW2.out.2⟩
end Go.Proofs.Ytignhjfobcnloaa
end
section
namespace Go.Proofs.Ytignhjfobcnloaa
open Go.RowKit
attribute [local go_sem] Oper.semAt_some
theorem mx_round {W : World} {XN : Nat} {v : Value} {o : Obj} (h : MaxAt W) (hn : XN ≠ 0) : MaxAt ((W.setCell ⟨XN, 0, none⟩ v).alloc o) := by
  obtain ⟨m, hm⟩ := h
  refine MaxAt.below ⟨m, ?_⟩ (new_ (Below.refl _ _) o)
  exact (World.cell?_of_block (Below.heap_setCell _ _ _ _ (by exact fun e => hn e.symm))).trans hm
set_option maxRecDepth 100000 in
set_option maxHeartbeats 4000000 in
theorem round_bad {B D T M CB XN XB NB FB LB WB PB file base : Nat} {fm vf vw vc cmd wv : Value} {name : List UInt8} {ws : List TokD} {s : RunD} {t : TokD} {W : World} {u0 u1 u7 u8 u9 u13 u14 u15 u16 u17 u18 u19 u20 u21 u22 u23 u24 u25 u26 u27 u28 u29 u30 u31 u32 u33 u34 u35 u36 u37 u38 u39 u40 u41 u42 u43 u44 u45 u46 u47 u48 u49 u50 u51 u52 u53 u54 u55 u56 u57 u58 u59 u60 u61 u62 u63 u64 u65 u66 u67 u68 u69 u70 u71 u72 u73 u74 u75 u76 u77 u78 u79 u80 u81 u82 u83 u84 u85 u86 u87 u88 u89 u90 u91 u92 u93 u94 u95 u96 u97 u98 u99 u100 u101 u102 u103 u104 u105 u106 u107 u108 u109 u110 u111 u112 u113 u114 u115 u116 u117 u118 u119 u120 u121 u122 u123 u124 u125 u126 u127 u128 u129 u130 u131 u132 u133 u134 u135 u136 u137 u138 u139 u140 u141 u142 u143 u144 u145 u146 u147 u148 u149 u150 u151 u152 u153 u154 u155 u156 u157 u158 u159 u160 u161 u162 u163 u164 u165 u166 u167 u168 u169 u170 u171 u172 u173 u174 u175 u176 u177 u178 : Value} (l : Nat) (h : RdH B D T M CB XN XB NB FB LB WB file base fm vf vw vc cmd wv name ws s W) (hp : Row W PB 186 #[.string ⟨t.1.toArray⟩, .int .i64 (t.2 : Nat), .pointer none]) {a b : TokD} (hs : s.2.1 = []) (ht : t.1 = [36, 91]) (hbt : betweenS s.1 = true) (ha : ws[s.2.2 + 1]? = some a) (hb' : ws[s.2.2 + 2]? = some b) (hc : (36 : UInt8) ∈ a.1) (hmxn : XN ≠ 0) :
    roundC.wpIn (Fence.wide.inRound l) 1 Try.prog (roundQ B D T M CB XN fm (.inr (name, (t.2 : Nat), 43)) W) { tmps := #[u0, u1, .pointer (some ⟨XB, 0, none⟩), .pointer (some ⟨NB, 0, none⟩), .pointer (some ⟨FB, 0, none⟩), .pointer (some ⟨LB, 0, none⟩), .pointer (some ⟨WB, 0, none⟩), u7, u8, u9, .pointer (some ⟨CB, 0, none⟩), .pointer (some ⟨XN, 0, none⟩), .pointer (some ⟨PB, 0, none⟩), u13, u14, u15, u16, u17, u18, u19, u20, u21, u22, u23, u24, u25, u26, u27, u28, u29, u30, u31, u32, u33, u34, u35, u36, u37, u38, u39, u40, u41, u42, u43, u44, u45, u46, u47, u48, u49, u50, u51, u52, u53, u54, u55, u56, u57, u58, u59, u60, u61, u62, u63, u64, u65, u66, u67, u68, u69, u70, u71, u72, u73, u74, u75, u76, u77, u78, u79, u80, u81, u82, u83, u84, u85, u86, u87, u88, u89, u90, u91, u92, u93, u94, u95, u96, u97, u98, u99, u100, u101, u102, u103, u104, u105, u106, u107, u108, u109, u110, u111, u112, u113, u114, u115, u116, u117, u118, u119, u120, u121, u122, u123, u124, u125, u126, u127, u128, u129, u130, u131, u132, u133, u134, u135, u136, u137, u138, u139, u140, u141, u142, u143, u144, u145, u146, u147, u148, u149, u150, u151, u152, u153, u154, u155, u156, u157, u158, u159, u160, u161, u162, u163, u164, u165, u166, u167, u168, u169, u170, u171, u172, u173, u174, u175, u176, u177, u178], defers := [] } W := by
  obtain ⟨hm, hx, hn, hf, hl, hw, hwo, hnf, hnw, hds, hnm, hmx, hwl, hok, hsl, htl⟩ := h
  have ne_XN_XB : XN ≠ XB := row_ne hm.nb hx (by decide)
  have ne_XB_XN : XB ≠ XN := fun e => ne_XN_XB e.symm
  have ne_XN_NB : XN ≠ NB := row_ne hm.nb hn (by decide)
  have ne_NB_XN : NB ≠ XN := fun e => ne_XN_NB e.symm
  have ne_XN_LB : XN ≠ LB := row_ne hm.nb hl (by decide)
  have ne_LB_XN : LB ≠ XN := fun e => ne_XN_LB e.symm
  have ne_XN_WB : XN ≠ WB := row_ne hm.nb hw (by decide)
  have ne_WB_XN : WB ≠ XN := fun e => ne_XN_WB e.symm
  have ne_XN_CB : XN ≠ CB := row_ne hm.nb hm.cb (by decide)
  have ne_CB_XN : CB ≠ XN := fun e => ne_XN_CB e.symm
  have ne_CB_XB : CB ≠ XB := row_ne hm.cb hx (by decide)
  have ne_XB_CB : XB ≠ CB := fun e => ne_CB_XB e.symm
  have ne_CB_NB : CB ≠ NB := row_ne hm.cb hn (by decide)
  have ne_NB_CB : NB ≠ CB := fun e => ne_CB_NB e.symm
  have ne_CB_FB : CB ≠ FB := row_ne hm.cb hf (by decide)
  have ne_FB_CB : FB ≠ CB := fun e => ne_CB_FB e.symm
  have ne_CB_LB : CB ≠ LB := row_ne hm.cb hl (by decide)
  have ne_LB_CB : LB ≠ CB := fun e => ne_CB_LB e.symm
  have ne_XN_FB : XN ≠ FB := fun e => hnf e.symm
  have ne_CB_WB : CB ≠ WB := fun e => hnw e.symm
  have lt_XB := hx.lt
  have lt_NB := hn.lt
  have lt_FB := hf.lt
  have lt_LB := hl.lt
  have lt_WB := hw.lt
  have lt_CB := hm.cb.lt
  have lt_XN := hm.nb.lt
  have lt_PB := hp.lt
  have x0 := hx.cell (i := 0) (v := .pointer (some ⟨T, 0, none⟩)) rfl
  have n0 := hn.cell (i := 0) (v := .string ⟨name.toArray⟩) rfl
  have f0 := hf.cell (i := 0) (v := .int .i64 (file : Nat)) rfl
  have l0 := hl.cell (i := 0) (v := .func (.func 90) #[] #[.pointer (some ⟨NB, 0, none⟩)]) rfl
  have w0 := hw.cell (i := 0) (v := wv) rfl
  have q0 := hp.cell (i := 0) (v := .string ⟨t.1.toArray⟩) rfl
  have q1 := hp.cell (i := 1) (v := .int .i64 (t.2 : Nat)) rfl
  have q2 := hp.cell (i := 2) (v := .pointer none) rfl
  obtain ⟨y, c, k⟩ := s
  obtain rfl : c = [] := hs
  have hb0 : (0 : Int) ≤ (k : Int) := by omega
  have hb1 : (k : Int) ≤ 8000 := by dsimp only at hsl; omega
  have c0 := hm.cb.cell (i := 0) (v := cmd) rfl
  have k0 := hm.nb.cell (i := 0) (v := .int .i64 (k : Nat)) rfl
  have k1 := hm.nb.free 0
  have c1 := hm.cb.free 0
  obtain ⟨cA, cc, rfl, hcc⟩ := own_form hm.own
  obtain ⟨i0, hi, hj0, hj1, hj2⟩ := info_parts infoTok
  have HX : Hid (TkM B D T M CB XN fm (y, [], k + 1) vf vw vc (.slice cA ([] : List TokD).length cc) (W.setCell ⟨XN, 0, none⟩ (.int .i64 ((k : Int) + 1))) ∧ KpS B (rootsK T CB XN) W (W.setCell ⟨XN, 0, none⟩ (.int .i64 ((k : Int) + 1)))) := Lib.hid (hm.next (k + 1))
  have HM := Lib.hid hm
  have HW2 : Hid (TkM B D T M CB XN fm (y, [], k + 1) vf vw vc (.slice cA ([] : List TokD).length cc) ((W.setCell ⟨XN, 0, none⟩ (.int .i64 ((k : Int) + 1))).alloc (.cells #[.string ⟨t.1.toArray⟩, .int .i64 (t.2 : Nat)] 86)) ∧ KpS B (rootsK T CB XN) W ((W.setCell ⟨XN, 0, none⟩ (.int .i64 ((k : Int) + 1))).alloc (.cells #[.string ⟨t.1.toArray⟩, .int .i64 (t.2 : Nat)] 86))) := Lib.hid ⟨HX.out.1.below (new_ (Below.refl _ _) _), HX.out.2.trans (KpS.of_below HX.out.1.rooted (new_ (Below.refl _ _) _) HX.out.1.size)⟩
  have HS := Lib.hid hm.size
  clear hm
  simp only [roundC, takeC, tailC, Try.f63, Option.getD_some]
  have HOK := Lib.hid hok
  have e1 : (t.1 == [36, 93]) = false := by rw [ht]; rfl
  have e2 : (t.1 == [36, 91]) = true := by simpa using ht
  clear ht
  have HBT := Lib.hid hbt
  obtain ⟨wA, wc, hwv, hwc, hwm, hwx⟩ := ToksAt.open_ (Rds.of_own hwo)
  obtain ⟨bA, oA, rfl, a0, _⟩ := hwx _ _ ha
  obtain ⟨bB, oB, hAB, b0, _⟩ := hwx _ _ hb'
  obtain ⟨rfl, rfl⟩ := (by simpa using hAB : bA = bB ∧ oA = oB)
  subst hwv
  have ltA : bA < W.heap.size := lt_of_block (own_obj hwo rfl).2.choose_spec
  have ne_bA_XN : bA ≠ XN := fun e => by
    obtain ⟨_, cw, hcw⟩ := own_obj (k := bA) hwo rfl
    rw [e] at hcw
    exact absurd (cells_inj hcw HM.out.nb).2.1 (by decide)
  have ne_XN_bA : XN ≠ bA := fun e => ne_bA_XN e.symm
  have b1 : W.cell? ⟨bA, oA + (k + 1 + 1) * 2, none⟩ = some (.string ⟨b.1.toArray⟩) := b0
  clear b0
  have hal : a.1.length ≤ 40000 := htl a (List.mem_of_getElem? ha)
  have hlk := (List.getElem?_eq_some_iff.1 hb').1
  have e3 : decide ((ws.length : Int) - ((k : Int) + 1) < 2) = false := decide_eq_false (by dsimp only at hlk; omega)
  have hwl0 : (0 : Int) ≤ (ws.length : Int) := by omega
  have hwl8 : (ws.length : Int) ≤ 8000 := by omega
  have HMX : Hid (MaxAt ((W.setCell ⟨XN, 0, none⟩ (.int .i64 ((k : Int) + 1))).alloc (.cells #[.string ⟨t.1.toArray⟩, .int .i64 (t.2 : Nat)] 86))) := Lib.hid (mx_round hmx (by exact hmxn))
  clear hbt hwx hAB hmx
  have HCT := Lib.hid (decide_eq_true hc)
  clear hc
  gi_wp2_with (first
    | (refine ⟨trivial, ?_⟩; gi_at_call 93; (refine ((callsIn_wide.2 (between_any _ B T M fm vf vw vc y HW2.out.1.tak HOK.out.wl (by have := HOK.out.wl; have := HOK.out.dl; omega))).inRound l).mono ?_; rw [HBT.out]; rintro e w3 ⟨rfl, rfl⟩))
    | (refine ⟨trivial, ?_⟩; gi_at_call 35; (refine ((callsIn_wide.2 (contains_one _ a.1 36 HMX.out hal)).inRound l).mono ?_; rw [HCT.out]; rintro e w3 ⟨rfl, rfl⟩))
    | (refine ⟨trivial, ?_⟩; gi_at_call 90; (refine ((callsIn_wide.2 (fail_any _ NB name _ _ (((hn.other (by exact ne_NB_XN) _).alloc _).cell (i := 0) rfl))).inRound l).mono ?_; rintro e w3 ⟨rfl, rfl⟩))
    | fail)
  exact ⟨rfl, _, rfl, rfl, HW2.out.2.below_of, HM.out.keepN HW2.out.2⟩
set_option maxRecDepth 100000 in
set_option maxHeartbeats 4000000 in
theorem round_bad2 {B D T M CB XN XB NB FB LB WB PB file base : Nat} {fm vf vw vc cmd wv : Value} {name : List UInt8} {ws : List TokD} {s : RunD} {t : TokD} {W : World} {u0 u1 u7 u8 u9 u13 u14 u15 u16 u17 u18 u19 u20 u21 u22 u23 u24 u25 u26 u27 u28 u29 u30 u31 u32 u33 u34 u35 u36 u37 u38 u39 u40 u41 u42 u43 u44 u45 u46 u47 u48 u49 u50 u51 u52 u53 u54 u55 u56 u57 u58 u59 u60 u61 u62 u63 u64 u65 u66 u67 u68 u69 u70 u71 u72 u73 u74 u75 u76 u77 u78 u79 u80 u81 u82 u83 u84 u85 u86 u87 u88 u89 u90 u91 u92 u93 u94 u95 u96 u97 u98 u99 u100 u101 u102 u103 u104 u105 u106 u107 u108 u109 u110 u111 u112 u113 u114 u115 u116 u117 u118 u119 u120 u121 u122 u123 u124 u125 u126 u127 u128 u129 u130 u131 u132 u133 u134 u135 u136 u137 u138 u139 u140 u141 u142 u143 u144 u145 u146 u147 u148 u149 u150 u151 u152 u153 u154 u155 u156 u157 u158 u159 u160 u161 u162 u163 u164 u165 u166 u167 u168 u169 u170 u171 u172 u173 u174 u175 u176 u177 u178 : Value} (l : Nat) (h : RdH B D T M CB XN XB NB FB LB WB file base fm vf vw vc cmd wv name ws s W) (hp : Row W PB 186 #[.string ⟨t.1.toArray⟩, .int .i64 (t.2 : Nat), .pointer none]) {a b : TokD} (hs : s.2.1 = []) (ht : t.1 = [36, 91]) (hbt : betweenS s.1 = true) (ha : ws[s.2.2 + 1]? = some a) (hb' : ws[s.2.2 + 2]? = some b) (hc : (36 : UInt8) ∉ a.1) (hbc : b.1 ≠ [36, 93]) (hmxn : XN ≠ 0) :
    roundC.wpIn (Fence.wide.inRound l) 1 Try.prog (roundQ B D T M CB XN fm (.inr (name, (t.2 : Nat), 43)) W) { tmps := #[u0, u1, .pointer (some ⟨XB, 0, none⟩), .pointer (some ⟨NB, 0, none⟩), .pointer (some ⟨FB, 0, none⟩), .pointer (some ⟨LB, 0, none⟩), .pointer (some ⟨WB, 0, none⟩), u7, u8, u9, .pointer (some ⟨CB, 0, none⟩), .pointer (some ⟨XN, 0, none⟩), .pointer (some ⟨PB, 0, none⟩), u13, u14, u15, u16, u17, u18, u19, u20, u21, u22, u23, u24, u25, u26, u27, u28, u29, u30, u31, u32, u33, u34, u35, u36, u37, u38, u39, u40, u41, u42, u43, u44, u45, u46, u47, u48, u49, u50, u51, u52, u53, u54, u55, u56, u57, u58, u59, u60, u61, u62, u63, u64, u65, u66, u67, u68, u69, u70, u71, u72, u73, u74, u75, u76, u77, u78, u79, u80, u81, u82, u83, u84, u85, u86, u87, u88, u89, u90, u91, u92, u93, u94, u95, u96, u97, u98, u99, u100, u101, u102, u103, u104, u105, u106, u107, u108, u109, u110, u111, u112, u113, u114, u115, u116, u117, u118, u119, u120, u121, u122, u123, u124, u125, u126, u127, u128, u129, u130, u131, u132, u133, u134, u135, u136, u137, u138, u139, u140, u141, u142, u143, u144, u145, u146, u147, u148, u149, u150, u151, u152, u153, u154, u155, u156, u157, u158, u159, u160, u161, u162, u163, u164, u165, u166, u167, u168, u169, u170, u171, u172, u173, u174, u175, u176, u177, u178], defers := [] } W := by
  obtain ⟨hm, hx, hn, hf, hl, hw, hwo, hnf, hnw, hds, hnm, hmx, hwl, hok, hsl, htl⟩ := h
  have ne_XN_XB : XN ≠ XB := row_ne hm.nb hx (by decide)
  have ne_XB_XN : XB ≠ XN := fun e => ne_XN_XB e.symm
  have ne_XN_NB : XN ≠ NB := row_ne hm.nb hn (by decide)
  have ne_NB_XN : NB ≠ XN := fun e => ne_XN_NB e.symm
  have ne_XN_LB : XN ≠ LB := row_ne hm.nb hl (by decide)
  have ne_LB_XN : LB ≠ XN := fun e => ne_XN_LB e.symm
  have ne_XN_WB : XN ≠ WB := row_ne hm.nb hw (by decide)
  have ne_WB_XN : WB ≠ XN := fun e => ne_XN_WB e.symm
  have ne_XN_CB : XN ≠ CB := row_ne hm.nb hm.cb (by decide)
  have ne_CB_XN : CB ≠ XN := fun e => ne_XN_CB e.symm
  have ne_CB_XB : CB ≠ XB := row_ne hm.cb hx (by decide)
  have ne_XB_CB : XB ≠ CB := fun e => ne_CB_XB e.symm
  have ne_CB_NB : CB ≠ NB := row_ne hm.cb hn (by decide)
  have ne_NB_CB : NB ≠ CB := fun e => ne_CB_NB e.symm
  have ne_CB_FB : CB ≠ FB := row_ne hm.cb hf (by decide)
  have ne_FB_CB : FB ≠ CB := fun e => ne_CB_FB e.symm
  have ne_CB_LB : CB ≠ LB := row_ne hm.cb hl (by decide)
  have ne_LB_CB : LB ≠ CB := fun e => ne_CB_LB e.symm
  have ne_XN_FB : XN ≠ FB := fun e => hnf e.symm
  have ne_CB_WB : CB ≠ WB := fun e => hnw e.symm
  have lt_XB := hx.lt
  have lt_NB := hn.lt
  have lt_FB := hf.lt
  have lt_LB := hl.lt
  have lt_WB := hw.lt
  have lt_CB := hm.cb.lt
  have lt_XN := hm.nb.lt
  have lt_PB := hp.lt
  have x0 := hx.cell (i := 0) (v := .pointer (some ⟨T, 0, none⟩)) rfl
  have n0 := hn.cell (i := 0) (v := .string ⟨name.toArray⟩) rfl
  have f0 := hf.cell (i := 0) (v := .int .i64 (file : Nat)) rfl
  have l0 := hl.cell (i := 0) (v := .func (.func 90) #[] #[.pointer (some ⟨NB, 0, none⟩)]) rfl
  have w0 := hw.cell (i := 0) (v := wv) rfl
  have q0 := hp.cell (i := 0) (v := .string ⟨t.1.toArray⟩) rfl
  have q1 := hp.cell (i := 1) (v := .int .i64 (t.2 : Nat)) rfl
  have q2 := hp.cell (i := 2) (v := .pointer none) rfl
  obtain ⟨y, c, k⟩ := s
  obtain rfl : c = [] := hs
  have hb0 : (0 : Int) ≤ (k : Int) := by omega
  have hb1 : (k : Int) ≤ 8000 := by dsimp only at hsl; omega
  have c0 := hm.cb.cell (i := 0) (v := cmd) rfl
  have k0 := hm.nb.cell (i := 0) (v := .int .i64 (k : Nat)) rfl
  have k1 := hm.nb.free 0
  have c1 := hm.cb.free 0
  obtain ⟨cA, cc, rfl, hcc⟩ := own_form hm.own
  obtain ⟨i0, hi, hj0, hj1, hj2⟩ := info_parts infoTok
  have HX : Hid (TkM B D T M CB XN fm (y, [], k + 1) vf vw vc (.slice cA ([] : List TokD).length cc) (W.setCell ⟨XN, 0, none⟩ (.int .i64 ((k : Int) + 1))) ∧ KpS B (rootsK T CB XN) W (W.setCell ⟨XN, 0, none⟩ (.int .i64 ((k : Int) + 1)))) := Lib.hid (hm.next (k + 1))
  have HM := Lib.hid hm
  have HW2 : Hid (TkM B D T M CB XN fm (y, [], k + 1) vf vw vc (.slice cA ([] : List TokD).length cc) ((W.setCell ⟨XN, 0, none⟩ (.int .i64 ((k : Int) + 1))).alloc (.cells #[.string ⟨t.1.toArray⟩, .int .i64 (t.2 : Nat)] 86)) ∧ KpS B (rootsK T CB XN) W ((W.setCell ⟨XN, 0, none⟩ (.int .i64 ((k : Int) + 1))).alloc (.cells #[.string ⟨t.1.toArray⟩, .int .i64 (t.2 : Nat)] 86))) := Lib.hid ⟨HX.out.1.below (new_ (Below.refl _ _) _), HX.out.2.trans (KpS.of_below HX.out.1.rooted (new_ (Below.refl _ _) _) HX.out.1.size)⟩
  have HS := Lib.hid hm.size
  clear hm
  simp only [roundC, takeC, tailC, Try.f63, Option.getD_some]
  have HOK := Lib.hid hok
  have e1 : (t.1 == [36, 93]) = false := by rw [ht]; rfl
  have e2 : (t.1 == [36, 91]) = true := by simpa using ht
  clear ht
  have HBT := Lib.hid hbt
  obtain ⟨wA, wc, hwv, hwc, hwm, hwx⟩ := ToksAt.open_ (Rds.of_own hwo)
  obtain ⟨bA, oA, rfl, a0, _⟩ := hwx _ _ ha
  obtain ⟨bB, oB, hAB, b0, _⟩ := hwx _ _ hb'
  obtain ⟨rfl, rfl⟩ := (by simpa using hAB : bA = bB ∧ oA = oB)
  subst hwv
  have ltA : bA < W.heap.size := lt_of_block (own_obj hwo rfl).2.choose_spec
  have ne_bA_XN : bA ≠ XN := fun e => by
    obtain ⟨_, cw, hcw⟩ := own_obj (k := bA) hwo rfl
    rw [e] at hcw
    exact absurd (cells_inj hcw HM.out.nb).2.1 (by decide)
  have ne_XN_bA : XN ≠ bA := fun e => ne_bA_XN e.symm
  have b1 : W.cell? ⟨bA, oA + (k + 1 + 1) * 2, none⟩ = some (.string ⟨b.1.toArray⟩) := b0
  clear b0
  have hal : a.1.length ≤ 40000 := htl a (List.mem_of_getElem? ha)
  have hlk := (List.getElem?_eq_some_iff.1 hb').1
  have e3 : decide ((ws.length : Int) - ((k : Int) + 1) < 2) = false := decide_eq_false (by dsimp only at hlk; omega)
  have hwl0 : (0 : Int) ≤ (ws.length : Int) := by omega
  have hwl8 : (ws.length : Int) ≤ 8000 := by omega
  have HMX : Hid (MaxAt ((W.setCell ⟨XN, 0, none⟩ (.int .i64 ((k : Int) + 1))).alloc (.cells #[.string ⟨t.1.toArray⟩, .int .i64 (t.2 : Nat)] 86))) := Lib.hid (mx_round hmx (by exact hmxn))
  clear hbt hwx hAB hmx
  have HCT := Lib.hid (decide_eq_false hc)
  have e4 : (b.1 == [36, 93]) = false := by simpa using hbc
  clear hc hbc
  gi_wp2_with (first
    | (refine ⟨trivial, ?_⟩; gi_at_call 93; (refine ((callsIn_wide.2 (between_any _ B T M fm vf vw vc y HW2.out.1.tak HOK.out.wl (by have := HOK.out.wl; have := HOK.out.dl; omega))).inRound l).mono ?_; rw [HBT.out]; rintro e w3 ⟨rfl, rfl⟩))
    | (refine ⟨trivial, ?_⟩; gi_at_call 35; (refine ((callsIn_wide.2 (contains_one _ a.1 36 HMX.out hal)).inRound l).mono ?_; rw [HCT.out]; rintro e w3 ⟨rfl, rfl⟩))
    | (refine ⟨trivial, ?_⟩; gi_at_call 90; (refine ((callsIn_wide.2 (fail_any _ NB name _ _ (((hn.other (by exact ne_NB_XN) _).alloc _).cell (i := 0) rfl))).inRound l).mono ?_; rintro e w3 ⟨rfl, rfl⟩))
    | fail)
  exact ⟨rfl, _, rfl, rfl, HW2.out.2.below_of, HM.out.keepN HW2.out.2⟩
end Go.Proofs.Ytignhjfobcnloaa
end
section
namespace Go.Proofs.Ytignhjfobcnloaa
open Go.RowKit
attribute [local go_sem] Oper.semAt_some
set_option maxRecDepth 100000 in
set_option maxHeartbeats 4000000 in
theorem round_open {B D T M CB XN XB NB FB LB WB PB file base : Nat} {fm vf vw vc cmd wv : Value} {name : List UInt8} {ws : List TokD} {s : RunD} {t : TokD} {W : World} {u0 u1 u7 u8 u9 u13 u14 u15 u16 u17 u18 u19 u20 u21 u22 u23 u24 u25 u26 u27 u28 u29 u30 u31 u32 u33 u34 u35 u36 u37 u38 u39 u40 u41 u42 u43 u44 u45 u46 u47 u48 u49 u50 u51 u52 u53 u54 u55 u56 u57 u58 u59 u60 u61 u62 u63 u64 u65 u66 u67 u68 u69 u70 u71 u72 u73 u74 u75 u76 u77 u78 u79 u80 u81 u82 u83 u84 u85 u86 u87 u88 u89 u90 u91 u92 u93 u94 u95 u96 u97 u98 u99 u100 u101 u102 u103 u104 u105 u106 u107 u108 u109 u110 u111 u112 u113 u114 u115 u116 u117 u118 u119 u120 u121 u122 u123 u124 u125 u126 u127 u128 u129 u130 u131 u132 u133 u134 u135 u136 u137 u138 u139 u140 u141 u142 u143 u144 u145 u146 u147 u148 u149 u150 u151 u152 u153 u154 u155 u156 u157 u158 u159 u160 u161 u162 u163 u164 u165 u166 u167 u168 u169 u170 u171 u172 u173 u174 u175 u176 u177 u178 : Value} (l : Nat) (h : RdH B D T M CB XN XB NB FB LB WB file base fm vf vw vc cmd wv name ws s W) (hp : Row W PB 186 #[.string ⟨t.1.toArray⟩, .int .i64 (t.2 : Nat), .pointer none]) {a b : TokD} (hs : s.2.1 = []) (ht : t.1 = [36, 91]) (hbt : betweenS s.1 = true) (ha : ws[s.2.2 + 1]? = some a) (hb' : ws[s.2.2 + 2]? = some b) (hc : (36 : UInt8) ∉ a.1) (hbc : b.1 = [36, 93]) (hmxn : XN ≠ 0) :
    roundC.wpIn (Fence.wide.inRound l) 1 Try.prog (roundQ B D T M CB XN fm (.inl (s.1, [t], s.2.2 + 1)) W) { tmps := #[u0, u1, .pointer (some ⟨XB, 0, none⟩), .pointer (some ⟨NB, 0, none⟩), .pointer (some ⟨FB, 0, none⟩), .pointer (some ⟨LB, 0, none⟩), .pointer (some ⟨WB, 0, none⟩), u7, u8, u9, .pointer (some ⟨CB, 0, none⟩), .pointer (some ⟨XN, 0, none⟩), .pointer (some ⟨PB, 0, none⟩), u13, u14, u15, u16, u17, u18, u19, u20, u21, u22, u23, u24, u25, u26, u27, u28, u29, u30, u31, u32, u33, u34, u35, u36, u37, u38, u39, u40, u41, u42, u43, u44, u45, u46, u47, u48, u49, u50, u51, u52, u53, u54, u55, u56, u57, u58, u59, u60, u61, u62, u63, u64, u65, u66, u67, u68, u69, u70, u71, u72, u73, u74, u75, u76, u77, u78, u79, u80, u81, u82, u83, u84, u85, u86, u87, u88, u89, u90, u91, u92, u93, u94, u95, u96, u97, u98, u99, u100, u101, u102, u103, u104, u105, u106, u107, u108, u109, u110, u111, u112, u113, u114, u115, u116, u117, u118, u119, u120, u121, u122, u123, u124, u125, u126, u127, u128, u129, u130, u131, u132, u133, u134, u135, u136, u137, u138, u139, u140, u141, u142, u143, u144, u145, u146, u147, u148, u149, u150, u151, u152, u153, u154, u155, u156, u157, u158, u159, u160, u161, u162, u163, u164, u165, u166, u167, u168, u169, u170, u171, u172, u173, u174, u175, u176, u177, u178], defers := [] } W := by
  obtain ⟨hm, hx, hn, hf, hl, hw, hwo, hnf, hnw, hds, hnm, hmx, hwl, hok, hsl, htl⟩ := h
  have ne_XN_XB : XN ≠ XB := row_ne hm.nb hx (by decide)
  have ne_XB_XN : XB ≠ XN := fun e => ne_XN_XB e.symm
  have ne_XN_NB : XN ≠ NB := row_ne hm.nb hn (by decide)
  have ne_NB_XN : NB ≠ XN := fun e => ne_XN_NB e.symm
  have ne_XN_LB : XN ≠ LB := row_ne hm.nb hl (by decide)
  have ne_LB_XN : LB ≠ XN := fun e => ne_XN_LB e.symm
  have ne_XN_WB : XN ≠ WB := row_ne hm.nb hw (by decide)
  have ne_WB_XN : WB ≠ XN := fun e => ne_XN_WB e.symm
  have ne_XN_CB : XN ≠ CB := row_ne hm.nb hm.cb (by decide)
  have ne_CB_XN : CB ≠ XN := fun e => ne_XN_CB e.symm
  have ne_CB_XB : CB ≠ XB := row_ne hm.cb hx (by decide)
  have ne_XB_CB : XB ≠ CB := fun e => ne_CB_XB e.symm
  have ne_CB_NB : CB ≠ NB := row_ne hm.cb hn (by decide)
  have ne_NB_CB : NB ≠ CB := fun e => ne_CB_NB e.symm
  have ne_CB_FB : CB ≠ FB := row_ne hm.cb hf (by decide)
  have ne_FB_CB : FB ≠ CB := fun e => ne_CB_FB e.symm
  have ne_CB_LB : CB ≠ LB := row_ne hm.cb hl (by decide)
  have ne_LB_CB : LB ≠ CB := fun e => ne_CB_LB e.symm
  have ne_XN_FB : XN ≠ FB := fun e => hnf e.symm
  have ne_CB_WB : CB ≠ WB := fun e => hnw e.symm
  have lt_XB := hx.lt
  have lt_NB := hn.lt
  have lt_FB := hf.lt
  have lt_LB := hl.lt
  have lt_WB := hw.lt
  have lt_CB := hm.cb.lt
  have lt_XN := hm.nb.lt
  have lt_PB := hp.lt
  have x0 := hx.cell (i := 0) (v := .pointer (some ⟨T, 0, none⟩)) rfl
  have n0 := hn.cell (i := 0) (v := .string ⟨name.toArray⟩) rfl
  have f0 := hf.cell (i := 0) (v := .int .i64 (file : Nat)) rfl
  have l0 := hl.cell (i := 0) (v := .func (.func 90) #[] #[.pointer (some ⟨NB, 0, none⟩)]) rfl
  have w0 := hw.cell (i := 0) (v := wv) rfl
  have q0 := hp.cell (i := 0) (v := .string ⟨t.1.toArray⟩) rfl
  have q1 := hp.cell (i := 1) (v := .int .i64 (t.2 : Nat)) rfl
  have q2 := hp.cell (i := 2) (v := .pointer none) rfl
  obtain ⟨y, c, k⟩ := s
  obtain rfl : c = [] := hs
  have hb0 : (0 : Int) ≤ (k : Int) := by omega
  have hb1 : (k : Int) ≤ 8000 := by dsimp only at hsl; omega
  have c0 := hm.cb.cell (i := 0) (v := cmd) rfl
  have k0 := hm.nb.cell (i := 0) (v := .int .i64 (k : Nat)) rfl
  have k1 := hm.nb.free 0
  have c1 := hm.cb.free 0
  obtain ⟨cA, cc, rfl, hcc⟩ := own_form hm.own
  obtain ⟨i0, hi, hj0, hj1, hj2⟩ := info_parts infoTok
  have HX : Hid (TkM B D T M CB XN fm (y, [], k + 1) vf vw vc (.slice cA ([] : List TokD).length cc) (W.setCell ⟨XN, 0, none⟩ (.int .i64 ((k : Int) + 1))) ∧ KpS B (rootsK T CB XN) W (W.setCell ⟨XN, 0, none⟩ (.int .i64 ((k : Int) + 1)))) := Lib.hid (hm.next (k + 1))
  have HM := Lib.hid hm
  have HW2 : Hid (TkM B D T M CB XN fm (y, [], k + 1) vf vw vc (.slice cA ([] : List TokD).length cc) ((W.setCell ⟨XN, 0, none⟩ (.int .i64 ((k : Int) + 1))).alloc (.cells #[.string ⟨t.1.toArray⟩, .int .i64 (t.2 : Nat)] 86)) ∧ KpS B (rootsK T CB XN) W ((W.setCell ⟨XN, 0, none⟩ (.int .i64 ((k : Int) + 1))).alloc (.cells #[.string ⟨t.1.toArray⟩, .int .i64 (t.2 : Nat)] 86))) := Lib.hid ⟨HX.out.1.below (new_ (Below.refl _ _) _), HX.out.2.trans (KpS.of_below HX.out.1.rooted (new_ (Below.refl _ _) _) HX.out.1.size)⟩
  have HS := Lib.hid hm.size
  clear hm
  simp only [roundC, takeC, tailC, Try.f63, Option.getD_some]
  have HOK := Lib.hid hok
  have e1 : (t.1 == [36, 93]) = false := by rw [ht]; rfl
  have e2 : (t.1 == [36, 91]) = true := by simpa using ht
  clear ht
  have HBT := Lib.hid hbt
  obtain ⟨wA, wc, hwv, hwc, hwm, hwx⟩ := ToksAt.open_ (Rds.of_own hwo)
  obtain ⟨bA, oA, rfl, a0, _⟩ := hwx _ _ ha
  obtain ⟨bB, oB, hAB, b0, _⟩ := hwx _ _ hb'
  obtain ⟨rfl, rfl⟩ := (by simpa using hAB : bA = bB ∧ oA = oB)
  subst hwv
  have ltA : bA < W.heap.size := lt_of_block (own_obj hwo rfl).2.choose_spec
  have ne_bA_XN : bA ≠ XN := fun e => by
    obtain ⟨_, cw, hcw⟩ := own_obj (k := bA) hwo rfl
    rw [e] at hcw
    exact absurd (cells_inj hcw HM.out.nb).2.1 (by decide)
  have ne_XN_bA : XN ≠ bA := fun e => ne_bA_XN e.symm
  have b1 : W.cell? ⟨bA, oA + (k + 1 + 1) * 2, none⟩ = some (.string ⟨b.1.toArray⟩) := b0
  clear b0
  have hal : a.1.length ≤ 40000 := htl a (List.mem_of_getElem? ha)
  have hlk := (List.getElem?_eq_some_iff.1 hb').1
  have e3 : decide ((ws.length : Int) - ((k : Int) + 1) < 2) = false := decide_eq_false (by dsimp only at hlk; omega)
  have hwl0 : (0 : Int) ≤ (ws.length : Int) := by omega
  have hwl8 : (ws.length : Int) ≤ 8000 := by omega
  have HMX : Hid (MaxAt ((W.setCell ⟨XN, 0, none⟩ (.int .i64 ((k : Int) + 1))).alloc (.cells #[.string ⟨t.1.toArray⟩, .int .i64 (t.2 : Nat)] 86))) := Lib.hid (mx_round hmx (by exact hmxn))
  clear hbt hwx hAB hmx
  have HCT := Lib.hid (decide_eq_false hc)
  have e4 : (b.1 == [36, 93]) = true := by simpa using hbc
  clear hc hbc
  gi_wp2_with (first
    | (refine ⟨trivial, ?_⟩; gi_at_call 93; (refine ((callsIn_wide.2 (between_any _ B T M fm vf vw vc y HW2.out.1.tak HOK.out.wl (by have := HOK.out.wl; have := HOK.out.dl; omega))).inRound l).mono ?_; rw [HBT.out]; rintro e w3 ⟨rfl, rfl⟩))
    | (refine ⟨trivial, ?_⟩; gi_at_call 35; (refine ((callsIn_wide.2 (contains_one _ a.1 36 HMX.out hal)).inRound l).mono ?_; rw [HCT.out]; rintro e w3 ⟨rfl, rfl⟩))
    | (gi_at_builtin; refine wpListIn_append_new _ rfl _ _ 80 rfl D 86 i0 (.agg #[.string ⟨#[]⟩, .int .i64 0]) 2 24 Try.underlying80 hi hj0 hj1 hj2 rfl (by decide) _ _ _ rfl (own_alloc' (own_alloc' HX.out.1.own _) _) ⟨W.heap.size + 1, 0, none⟩ 1 1 (tokCells t) rfl rfl (cells_of' _ _ _ _ rfl (by simp)) (by simp [tokCells, Value.oneCell']) (by simp [maxLen]) (by simp) (by simp; omega) ?_; intro v' w1 hown' hgrow hnew; have CM := Lib.hid (HX.out.1.cmd_ (l := [] ++ [t]) (new_ (new_ (Below.refl _ _) _) _) hgrow (by rw [tok_snoc]; exact hown') hnew); have cbr := HX.out.1.cb_grown (new_ (new_ (Below.refl _ _) _) _) hgrow; have cb1 := cbr.cell (i := 0) (v := .slice cA ([] : List TokD).length cc) rfl; have fb1 := cbr.free 0; obtain ⟨g', cap', rfl⟩ := ownsRow_succ hown'; clear cbr hown' hgrow hnew)
    | fail)
  exact ⟨_, _, _, _, _, rfl, CM.out.1, HX.out.2.trans CM.out.2⟩
end Go.Proofs.Ytignhjfobcnloaa
end
section
namespace Go.Proofs.Ytignhjfobcnloaa
open Go.RowKit
attribute [local go_sem] Oper.semAt_some
set_option maxRecDepth 100000 in
set_option maxHeartbeats 4000000 in
theorem round_full {B D T M CB XN XB NB FB LB WB PB file base : Nat} {fm vf vw vc cmd wv : Value} {name : List UInt8} {ws : List TokD} {s : RunD} {t : TokD} {W : World} {u0 u1 u7 u8 u9 u13 u14 u15 u16 u17 u18 u19 u20 u21 u22 u23 u24 u25 u26 u27 u28 u29 u30 u31 u32 u33 u34 u35 u36 u37 u38 u39 u40 u41 u42 u43 u44 u45 u46 u47 u48 u49 u50 u51 u52 u53 u54 u55 u56 u57 u58 u59 u60 u61 u62 u63 u64 u65 u66 u67 u68 u69 u70 u71 u72 u73 u74 u75 u76 u77 u78 u79 u80 u81 u82 u83 u84 u85 u86 u87 u88 u89 u90 u91 u92 u93 u94 u95 u96 u97 u98 u99 u100 u101 u102 u103 u104 u105 u106 u107 u108 u109 u110 u111 u112 u113 u114 u115 u116 u117 u118 u119 u120 u121 u122 u123 u124 u125 u126 u127 u128 u129 u130 u131 u132 u133 u134 u135 u136 u137 u138 u139 u140 u141 u142 u143 u144 u145 u146 u147 u148 u149 u150 u151 u152 u153 u154 u155 u156 u157 u158 u159 u160 u161 u162 u163 u164 u165 u166 u167 u168 u169 u170 u171 u172 u173 u174 u175 u176 u177 u178 : Value} (l : Nat) (h : RdH B D T M CB XN XB NB FB LB WB file base fm vf vw vc cmd wv name ws s W) (hp : Row W PB 186 #[.string ⟨t.1.toArray⟩, .int .i64 (t.2 : Nat), .pointer none]) (hs : s.2.1 = []) (hn1 : t.1 ≠ [36, 93]) (hn2 : t.1 ≠ [36, 91]) (hwf : 8000 ≤ s.1.words.length) :
    roundC.wpIn (Fence.wide.inRound l) 1 Try.prog (roundQ B D T M CB XN fm (.inr (name, (t.2 : Nat), 8)) W) { tmps := #[u0, u1, .pointer (some ⟨XB, 0, none⟩), .pointer (some ⟨NB, 0, none⟩), .pointer (some ⟨FB, 0, none⟩), .pointer (some ⟨LB, 0, none⟩), .pointer (some ⟨WB, 0, none⟩), u7, u8, u9, .pointer (some ⟨CB, 0, none⟩), .pointer (some ⟨XN, 0, none⟩), .pointer (some ⟨PB, 0, none⟩), u13, u14, u15, u16, u17, u18, u19, u20, u21, u22, u23, u24, u25, u26, u27, u28, u29, u30, u31, u32, u33, u34, u35, u36, u37, u38, u39, u40, u41, u42, u43, u44, u45, u46, u47, u48, u49, u50, u51, u52, u53, u54, u55, u56, u57, u58, u59, u60, u61, u62, u63, u64, u65, u66, u67, u68, u69, u70, u71, u72, u73, u74, u75, u76, u77, u78, u79, u80, u81, u82, u83, u84, u85, u86, u87, u88, u89, u90, u91, u92, u93, u94, u95, u96, u97, u98, u99, u100, u101, u102, u103, u104, u105, u106, u107, u108, u109, u110, u111, u112, u113, u114, u115, u116, u117, u118, u119, u120, u121, u122, u123, u124, u125, u126, u127, u128, u129, u130, u131, u132, u133, u134, u135, u136, u137, u138, u139, u140, u141, u142, u143, u144, u145, u146, u147, u148, u149, u150, u151, u152, u153, u154, u155, u156, u157, u158, u159, u160, u161, u162, u163, u164, u165, u166, u167, u168, u169, u170, u171, u172, u173, u174, u175, u176, u177, u178], defers := [] } W := by
  obtain ⟨hm, hx, hn, hf, hl, hw, hwo, hnf, hnw, hds, hnm, hmx, hwl, hok, hsl, htl⟩ := h
  have ne_XN_XB : XN ≠ XB := row_ne hm.nb hx (by decide)
  have ne_XB_XN : XB ≠ XN := fun e => ne_XN_XB e.symm
  have ne_XN_NB : XN ≠ NB := row_ne hm.nb hn (by decide)
  have ne_NB_XN : NB ≠ XN := fun e => ne_XN_NB e.symm
  have ne_XN_LB : XN ≠ LB := row_ne hm.nb hl (by decide)
  have ne_LB_XN : LB ≠ XN := fun e => ne_XN_LB e.symm
  have ne_XN_WB : XN ≠ WB := row_ne hm.nb hw (by decide)
  have ne_WB_XN : WB ≠ XN := fun e => ne_XN_WB e.symm
  have ne_XN_CB : XN ≠ CB := row_ne hm.nb hm.cb (by decide)
  have ne_CB_XN : CB ≠ XN := fun e => ne_XN_CB e.symm
  have ne_CB_XB : CB ≠ XB := row_ne hm.cb hx (by decide)
  have ne_XB_CB : XB ≠ CB := fun e => ne_CB_XB e.symm
  have ne_CB_NB : CB ≠ NB := row_ne hm.cb hn (by decide)
  have ne_NB_CB : NB ≠ CB := fun e => ne_CB_NB e.symm
  have ne_CB_FB : CB ≠ FB := row_ne hm.cb hf (by decide)
  have ne_FB_CB : FB ≠ CB := fun e => ne_CB_FB e.symm
  have ne_CB_LB : CB ≠ LB := row_ne hm.cb hl (by decide)
  have ne_LB_CB : LB ≠ CB := fun e => ne_CB_LB e.symm
  have ne_XN_FB : XN ≠ FB := fun e => hnf e.symm
  have ne_CB_WB : CB ≠ WB := fun e => hnw e.symm
  have lt_XB := hx.lt
  have lt_NB := hn.lt
  have lt_FB := hf.lt
  have lt_LB := hl.lt
  have lt_WB := hw.lt
  have lt_CB := hm.cb.lt
  have lt_XN := hm.nb.lt
  have lt_PB := hp.lt
  have x0 := hx.cell (i := 0) (v := .pointer (some ⟨T, 0, none⟩)) rfl
  have n0 := hn.cell (i := 0) (v := .string ⟨name.toArray⟩) rfl
  have f0 := hf.cell (i := 0) (v := .int .i64 (file : Nat)) rfl
  have l0 := hl.cell (i := 0) (v := .func (.func 90) #[] #[.pointer (some ⟨NB, 0, none⟩)]) rfl
  have w0 := hw.cell (i := 0) (v := wv) rfl
  have q0 := hp.cell (i := 0) (v := .string ⟨t.1.toArray⟩) rfl
  have q1 := hp.cell (i := 1) (v := .int .i64 (t.2 : Nat)) rfl
  have q2 := hp.cell (i := 2) (v := .pointer none) rfl
  obtain ⟨y, c, k⟩ := s
  obtain rfl : c = [] := hs
  have hb0 : (0 : Int) ≤ (k : Int) := by omega
  have hb1 : (k : Int) ≤ 8000 := by dsimp only at hsl; omega
  have c0 := hm.cb.cell (i := 0) (v := cmd) rfl
  have k0 := hm.nb.cell (i := 0) (v := .int .i64 (k : Nat)) rfl
  have k1 := hm.nb.free 0
  have c1 := hm.cb.free 0
  obtain ⟨cA, cc, rfl, hcc⟩ := own_form hm.own
  obtain ⟨i0, hi, hj0, hj1, hj2⟩ := info_parts infoTok
  have HX : Hid (TkM B D T M CB XN fm (y, [], k + 1) vf vw vc (.slice cA ([] : List TokD).length cc) (W.setCell ⟨XN, 0, none⟩ (.int .i64 ((k : Int) + 1))) ∧ KpS B (rootsK T CB XN) W (W.setCell ⟨XN, 0, none⟩ (.int .i64 ((k : Int) + 1)))) := Lib.hid (hm.next (k + 1))
  have HM := Lib.hid hm
  have HW2 : Hid (TkM B D T M CB XN fm (y, [], k + 1) vf vw vc (.slice cA ([] : List TokD).length cc) ((W.setCell ⟨XN, 0, none⟩ (.int .i64 ((k : Int) + 1))).alloc (.cells #[.string ⟨t.1.toArray⟩, .int .i64 (t.2 : Nat)] 86)) ∧ KpS B (rootsK T CB XN) W ((W.setCell ⟨XN, 0, none⟩ (.int .i64 ((k : Int) + 1))).alloc (.cells #[.string ⟨t.1.toArray⟩, .int .i64 (t.2 : Nat)] 86))) := Lib.hid ⟨HX.out.1.below (new_ (Below.refl _ _) _), HX.out.2.trans (KpS.of_below HX.out.1.rooted (new_ (Below.refl _ _) _) HX.out.1.size)⟩
  have HS := Lib.hid hm.size
  clear hm
  simp only [roundC, takeC, tailC, Try.f63, Option.getD_some]
  have HOK := Lib.hid hok
  have e1 : (t.1 == [36, 93]) = false := by simpa using hn1
  have e2 : (t.1 == [36, 91]) = false := by simpa using hn2
  clear hn1 hn2
  obtain ⟨vA, vcc, rfl, hvc⟩ := own_form HM.out.tak.wo
  have t3 := HM.out.tak.row.cell (i := 3) (v := .slice vA y.words.length vcc) rfl
  have ltT := HM.out.tak.row.lt
  have ne_XN_T : XN ≠ T := row_ne HM.out.nb HM.out.tak.row (by decide)
  have ne_T_XN : T ≠ XN := fun e => ne_XN_T e.symm
  have e3 : decide ((8000 : Int) ≤ (y.words.length : Int)) = true := decide_eq_true (by dsimp only at hwf; omega)
  clear hwf
  gi_wp2_with (first
    | (refine ⟨trivial, ?_⟩; gi_at_call 90; (refine ((callsIn_wide.2 (fail_any _ NB name _ _ (((hn.other (by exact ne_NB_XN) _).alloc _).cell (i := 0) rfl))).inRound l).mono ?_; rintro e w3 ⟨rfl, rfl⟩))
    | fail)
  exact ⟨rfl, _, rfl, rfl, HW2.out.2.below_of, HM.out.keepN HW2.out.2⟩
set_option maxRecDepth 100000 in
set_option maxHeartbeats 4000000 in
theorem round_add {B D T M CB XN XB NB FB LB WB PB file base : Nat} {fm vf vw vc cmd wv : Value} {name : List UInt8} {ws : List TokD} {s : RunD} {t : TokD} {W : World} {u0 u1 u7 u8 u9 u13 u14 u15 u16 u17 u18 u19 u20 u21 u22 u23 u24 u25 u26 u27 u28 u29 u30 u31 u32 u33 u34 u35 u36 u37 u38 u39 u40 u41 u42 u43 u44 u45 u46 u47 u48 u49 u50 u51 u52 u53 u54 u55 u56 u57 u58 u59 u60 u61 u62 u63 u64 u65 u66 u67 u68 u69 u70 u71 u72 u73 u74 u75 u76 u77 u78 u79 u80 u81 u82 u83 u84 u85 u86 u87 u88 u89 u90 u91 u92 u93 u94 u95 u96 u97 u98 u99 u100 u101 u102 u103 u104 u105 u106 u107 u108 u109 u110 u111 u112 u113 u114 u115 u116 u117 u118 u119 u120 u121 u122 u123 u124 u125 u126 u127 u128 u129 u130 u131 u132 u133 u134 u135 u136 u137 u138 u139 u140 u141 u142 u143 u144 u145 u146 u147 u148 u149 u150 u151 u152 u153 u154 u155 u156 u157 u158 u159 u160 u161 u162 u163 u164 u165 u166 u167 u168 u169 u170 u171 u172 u173 u174 u175 u176 u177 u178 : Value} (l : Nat) (h : RdH B D T M CB XN XB NB FB LB WB file base fm vf vw vc cmd wv name ws s W) (hp : Row W PB 186 #[.string ⟨t.1.toArray⟩, .int .i64 (t.2 : Nat), .pointer none]) (hs : s.2.1 = []) (hn1 : t.1 ≠ [36, 93]) (hn2 : t.1 ≠ [36, 91]) (hwd : s.1.words.length < 8000) :
    roundC.wpIn (Fence.wide.inRound l) 1 Try.prog (roundQ B D T M CB XN fm (.inl (addW s.1 file t, [], s.2.2 + 1)) W) { tmps := #[u0, u1, .pointer (some ⟨XB, 0, none⟩), .pointer (some ⟨NB, 0, none⟩), .pointer (some ⟨FB, 0, none⟩), .pointer (some ⟨LB, 0, none⟩), .pointer (some ⟨WB, 0, none⟩), u7, u8, u9, .pointer (some ⟨CB, 0, none⟩), .pointer (some ⟨XN, 0, none⟩), .pointer (some ⟨PB, 0, none⟩), u13, u14, u15, u16, u17, u18, u19, u20, u21, u22, u23, u24, u25, u26, u27, u28, u29, u30, u31, u32, u33, u34, u35, u36, u37, u38, u39, u40, u41, u42, u43, u44, u45, u46, u47, u48, u49, u50, u51, u52, u53, u54, u55, u56, u57, u58, u59, u60, u61, u62, u63, u64, u65, u66, u67, u68, u69, u70, u71, u72, u73, u74, u75, u76, u77, u78, u79, u80, u81, u82, u83, u84, u85, u86, u87, u88, u89, u90, u91, u92, u93, u94, u95, u96, u97, u98, u99, u100, u101, u102, u103, u104, u105, u106, u107, u108, u109, u110, u111, u112, u113, u114, u115, u116, u117, u118, u119, u120, u121, u122, u123, u124, u125, u126, u127, u128, u129, u130, u131, u132, u133, u134, u135, u136, u137, u138, u139, u140, u141, u142, u143, u144, u145, u146, u147, u148, u149, u150, u151, u152, u153, u154, u155, u156, u157, u158, u159, u160, u161, u162, u163, u164, u165, u166, u167, u168, u169, u170, u171, u172, u173, u174, u175, u176, u177, u178], defers := [] } W := by
  obtain ⟨hm, hx, hn, hf, hl, hw, hwo, hnf, hnw, hds, hnm, hmx, hwl, hok, hsl, htl⟩ := h
  have ne_XN_XB : XN ≠ XB := row_ne hm.nb hx (by decide)
  have ne_XB_XN : XB ≠ XN := fun e => ne_XN_XB e.symm
  have ne_XN_NB : XN ≠ NB := row_ne hm.nb hn (by decide)
  have ne_NB_XN : NB ≠ XN := fun e => ne_XN_NB e.symm
  have ne_XN_LB : XN ≠ LB := row_ne hm.nb hl (by decide)
  have ne_LB_XN : LB ≠ XN := fun e => ne_XN_LB e.symm
  have ne_XN_WB : XN ≠ WB := row_ne hm.nb hw (by decide)
  have ne_WB_XN : WB ≠ XN := fun e => ne_XN_WB e.symm
  have ne_XN_CB : XN ≠ CB := row_ne hm.nb hm.cb (by decide)
  have ne_CB_XN : CB ≠ XN := fun e => ne_XN_CB e.symm
  have ne_CB_XB : CB ≠ XB := row_ne hm.cb hx (by decide)
  have ne_XB_CB : XB ≠ CB := fun e => ne_CB_XB e.symm
  have ne_CB_NB : CB ≠ NB := row_ne hm.cb hn (by decide)
  have ne_NB_CB : NB ≠ CB := fun e => ne_CB_NB e.symm
  have ne_CB_FB : CB ≠ FB := row_ne hm.cb hf (by decide)
  have ne_FB_CB : FB ≠ CB := fun e => ne_CB_FB e.symm
  have ne_CB_LB : CB ≠ LB := row_ne hm.cb hl (by decide)
  have ne_LB_CB : LB ≠ CB := fun e => ne_CB_LB e.symm
  have ne_XN_FB : XN ≠ FB := fun e => hnf e.symm
  have ne_CB_WB : CB ≠ WB := fun e => hnw e.symm
  have lt_XB := hx.lt
  have lt_NB := hn.lt
  have lt_FB := hf.lt
  have lt_LB := hl.lt
  have lt_WB := hw.lt
  have lt_CB := hm.cb.lt
  have lt_XN := hm.nb.lt
  have lt_PB := hp.lt
  have x0 := hx.cell (i := 0) (v := .pointer (some ⟨T, 0, none⟩)) rfl
  have n0 := hn.cell (i := 0) (v := .string ⟨name.toArray⟩) rfl
  have f0 := hf.cell (i := 0) (v := .int .i64 (file : Nat)) rfl
  have l0 := hl.cell (i := 0) (v := .func (.func 90) #[] #[.pointer (some ⟨NB, 0, none⟩)]) rfl
  have w0 := hw.cell (i := 0) (v := wv) rfl
  have q0 := hp.cell (i := 0) (v := .string ⟨t.1.toArray⟩) rfl
  have q1 := hp.cell (i := 1) (v := .int .i64 (t.2 : Nat)) rfl
  have q2 := hp.cell (i := 2) (v := .pointer none) rfl
  obtain ⟨y, c, k⟩ := s
  obtain rfl : c = [] := hs
  have hb0 : (0 : Int) ≤ (k : Int) := by omega
  have hb1 : (k : Int) ≤ 8000 := by dsimp only at hsl; omega
  have c0 := hm.cb.cell (i := 0) (v := cmd) rfl
  have k0 := hm.nb.cell (i := 0) (v := .int .i64 (k : Nat)) rfl
  have k1 := hm.nb.free 0
  have c1 := hm.cb.free 0
  obtain ⟨cA, cc, rfl, hcc⟩ := own_form hm.own
  obtain ⟨i0, hi, hj0, hj1, hj2⟩ := info_parts infoTok
  have HX : Hid (TkM B D T M CB XN fm (y, [], k + 1) vf vw vc (.slice cA ([] : List TokD).length cc) (W.setCell ⟨XN, 0, none⟩ (.int .i64 ((k : Int) + 1))) ∧ KpS B (rootsK T CB XN) W (W.setCell ⟨XN, 0, none⟩ (.int .i64 ((k : Int) + 1)))) := Lib.hid (hm.next (k + 1))
  have HM := Lib.hid hm
  have HW2 : Hid (TkM B D T M CB XN fm (y, [], k + 1) vf vw vc (.slice cA ([] : List TokD).length cc) ((W.setCell ⟨XN, 0, none⟩ (.int .i64 ((k : Int) + 1))).alloc (.cells #[.string ⟨t.1.toArray⟩, .int .i64 (t.2 : Nat)] 86)) ∧ KpS B (rootsK T CB XN) W ((W.setCell ⟨XN, 0, none⟩ (.int .i64 ((k : Int) + 1))).alloc (.cells #[.string ⟨t.1.toArray⟩, .int .i64 (t.2 : Nat)] 86))) := Lib.hid ⟨HX.out.1.below (new_ (Below.refl _ _) _), HX.out.2.trans (KpS.of_below HX.out.1.rooted (new_ (Below.refl _ _) _) HX.out.1.size)⟩
  have HS := Lib.hid hm.size
  clear hm
  simp only [roundC, takeC, tailC, Try.f63, Option.getD_some]
  have HOK := Lib.hid hok
  have e1 : (t.1 == [36, 93]) = false := by simpa using hn1
  have e2 : (t.1 == [36, 91]) = false := by simpa using hn2
  clear hn1 hn2
  obtain ⟨vA, vcc, rfl, hvc⟩ := own_form HM.out.tak.wo
  have t3 := HM.out.tak.row.cell (i := 3) (v := .slice vA y.words.length vcc) rfl
  have ltT := HM.out.tak.row.lt
  have ne_XN_T : XN ≠ T := row_ne HM.out.nb HM.out.tak.row (by decide)
  have ne_T_XN : T ≠ XN := fun e => ne_XN_T e.symm
  have e3 : decide ((8000 : Int) ≤ (y.words.length : Int)) = false := decide_eq_false (by dsimp only at hwd; omega)
  gi_wp2_with (first
    | (refine ⟨trivial, ?_⟩; gi_at_call 94; (refine ((callsIn_wide.2 (add_any _ B T M fm _ _ _ y file t HW2.out.1.tak hwd (by have := HOK.out.wl; have := HOK.out.dl; omega))).inRound l).mono ?_; rintro e w3 ⟨rfl, vw3, ht3, hk3⟩; have C3 := Lib.hid (HW2.out.1.taker hk3 ht3); clear ht3 hk3))
    | fail)
  exact ⟨_, _, _, _, _, rfl, C3.out.1, HW2.out.2.trans C3.out.2⟩
end Go.Proofs.Ytignhjfobcnloaa
end
