/- The rounds of take's loop: words of an include command. (Printed by gen_take2.py.) -/
import Derived.Test.YtignhjfobcnloaaSrcTake1
namespace Go.Proofs.Ytignhjfobcnloaa
open Go.RowKit
attribute [local go_sem] Oper.semAt_some
/-- take's loop: the code of a round -/
noncomputable def takeC : Code := (Try.f63.body).getD .skip
def tailC : Nat → Code → Code
  | 0, c => c
  | n + 1, .seq _ y => tailC n y
  | _ + 1, c => c
noncomputable def roundC : Code := match tailC 10 takeC with
  | .block _ (.rangeFunc _ _ _ b) => b
  | c => c
/-- what a round leaves -/
def RdN (B D T M CB XN : Nat) (fm : Value) (r : RunD ⊕ ErrD) (W W' : World) : Prop := ∃ t vf vw vc cmd, r = .inl t ∧ TkM B D T M CB XN fm t vf vw vc cmd W' ∧ KpS B (rootsK T CB XN) W W'
def RdE (B M : Nat) (r : RunD ⊕ ErrD) (ch : List PanicEntry) (W W' : World) : Prop := ∃ e, r = .inr e ∧ ch = foundP e ∧ Below B W W' ∧ KeepN M W W'
def roundQ (B D T M CB XN : Nat) (fm : Value) (r : RunD ⊕ ErrD) (W : World) : Exit → Act → World → Prop
  | .normal, _, W' => RdN B D T M CB XN fm r W W'
  | .panic ch, a, W' => a.defers = [] ∧ RdE B M r ch W W'
  | _, _, _ => False
/-- memory at a round -/
structure RdH (B D T M CB XN XB NB FB LB WB file base : Nat) (fm vf vw vc cmd wv : Value) (name : List UInt8) (ws : List TokD) (s : RunD) (W : World) : Prop where
  m : TkM B D T M CB XN fm s vf vw vc cmd W
  x : Row W XB 134 #[.pointer (some ⟨T, 0, none⟩)]
  n : Row W NB 9 #[.string ⟨name.toArray⟩]
  f : Row W FB 3 #[.int .i64 (file : Nat)]
  l : Row W LB 180 #[.func (.func 90) #[] #[.pointer (some ⟨NB, 0, none⟩)]]
  w : Row W WB 80 #[wv]
  wo : W.ownsRow base 86 2 wv ws.length (ws.flatMap tokCells)
  nf : FB ≠ XN
  nw : WB ≠ CB
  ds : D ≤ W.heap.size
  nm : ¬ mineR (rootsK T CB XN) W NB
  mx : MaxAt W
  wl : ws.length ≤ 8000
  ok : OkR s.1
  sl : s.2.2 < ws.length
  tl : ∀ x ∈ ws, x.1.length ≤ 40000
theorem row_ne {W : World} {g g' : Nat} {t t' : TypeId} {cs cs' : Array Value} (h : Row W g t cs) (k : Row W g' t' cs') (ht : t ≠ t') : g ≠ g' := by
  rintro rfl
  exact ht (cells_inj h k).2.1
theorem own_alloc' {w : World} {b n s : Nat} {e : TypeId} {v : Value} {xs : List Value} (h : w.ownsRow b e s v n xs) (o : Obj) : (w.alloc o).ownsRow b e s v n xs := own_below h (new_ (Below.refl _ _) o)
theorem TkM.row_grown {B D T M CB XN : Nat} {fm : Value} {s : RunD} {vf vw vc cmd : Value} {W W1 w1 : World} (h : TkM B D T M CB XN fm s vf vw vc cmd W) (hb : Below W.heap.size W W1) (hgrow : W1.grownBy w1 cmd.ownBlock) {g : Nat} {t : TypeId} {cs : Array Value} (hr : Row W g t cs) (ht : t ≠ 86) : Row w1 g t cs := by
  have h1 := hr.below hb hr.lt
  refine h1.grown hgrow fun e => ?_
  obtain ⟨_, c', h2⟩ := own_obj (h.below hb).own e.symm
  exact absurd (cells_inj h1 h2).2.1 ht
theorem TkM.cb_grown {B D T M CB XN : Nat} {fm : Value} {s : RunD} {vf vw vc cmd : Value} {W W1 w1 : World} (h : TkM B D T M CB XN fm s vf vw vc cmd W) (hb : Below W.heap.size W W1) (hgrow : W1.grownBy w1 cmd.ownBlock) : Row w1 CB 80 #[cmd] := by
  have h1 := h.below hb
  refine h1.cb.grown hgrow fun e => ?_
  obtain ⟨_, c', h2⟩ := own_obj h1.own e.symm
  exact absurd (cells_inj h1.cb h2).2.1 (by decide)
theorem tok_snoc (l : List TokD) (t : TokD) : (l ++ [t]).flatMap tokCells = l.flatMap tokCells ++ tokCells t := by simp
set_option maxRecDepth 100000 in
set_option maxHeartbeats 4000000 in
theorem round_second {B D T M CB XN XB NB FB LB WB PB file base : Nat} {fm vf vw vc cmd wv : Value} {name : List UInt8} {ws : List TokD} {s : RunD} {t : TokD} {W : World} {u0 u1 u7 u8 u9 u13 u14 u15 u16 u17 u18 u19 u20 u21 u22 u23 u24 u25 u26 u27 u28 u29 u30 u31 u32 u33 u34 u35 u36 u37 u38 u39 u40 u41 u42 u43 u44 u45 u46 u47 u48 u49 u50 u51 u52 u53 u54 u55 u56 u57 u58 u59 u60 u61 u62 u63 u64 u65 u66 u67 u68 u69 u70 u71 u72 u73 u74 u75 u76 u77 u78 u79 u80 u81 u82 u83 u84 u85 u86 u87 u88 u89 u90 u91 u92 u93 u94 u95 u96 u97 u98 u99 u100 u101 u102 u103 u104 u105 u106 u107 u108 u109 u110 u111 u112 u113 u114 u115 u116 u117 u118 u119 u120 u121 u122 u123 u124 u125 u126 u127 u128 u129 u130 u131 u132 u133 u134 u135 u136 u137 u138 u139 u140 u141 u142 u143 u144 u145 u146 u147 u148 u149 u150 u151 u152 u153 u154 u155 u156 u157 u158 u159 u160 u161 u162 u163 u164 u165 u166 u167 u168 u169 u170 u171 u172 u173 u174 u175 u176 u177 u178 : Value} (l : Nat) (h : RdH B D T M CB XN XB NB FB LB WB file base fm vf vw vc cmd wv name ws s W) (hp : Row W PB 186 #[.string ⟨t.1.toArray⟩, .int .i64 (t.2 : Nat), .pointer none]) {a : TokD} (hs : s.2.1 = [a]) :
    roundC.wpIn (Fence.wide.inRound l) 1 Try.prog (roundQ B D T M CB XN fm (.inl (s.1, [a, t], s.2.2 + 1)) W) { tmps := #[u0, u1, .pointer (some ⟨XB, 0, none⟩), .pointer (some ⟨NB, 0, none⟩), .pointer (some ⟨FB, 0, none⟩), .pointer (some ⟨LB, 0, none⟩), .pointer (some ⟨WB, 0, none⟩), u7, u8, u9, .pointer (some ⟨CB, 0, none⟩), .pointer (some ⟨XN, 0, none⟩), .pointer (some ⟨PB, 0, none⟩), u13, u14, u15, u16, u17, u18, u19, u20, u21, u22, u23, u24, u25, u26, u27, u28, u29, u30, u31, u32, u33, u34, u35, u36, u37, u38, u39, u40, u41, u42, u43, u44, u45, u46, u47, u48, u49, u50, u51, u52, u53, u54, u55, u56, u57, u58, u59, u60, u61, u62, u63, u64, u65, u66, u67, u68, u69, u70, u71, u72, u73, u74, u75, u76, u77, u78, u79, u80, u81, u82, u83, u84, u85, u86, u87, u88, u89, u90, u91, u92, u93, u94, u95, u96, u97, u98, u99, u100, u101, u102, u103, u104, u105, u106, u107, u108, u109, u110, u111, u112, u113, u114, u115, u116, u117, u118, u119, u120, u121, u122, u123, u124, u125, u126, u127, u128, u129, u130, u131, u132, u133, u134, u135, u136, u137, u138, u139, u140, u141, u142, u143, u144, u145, u146, u147, u148, u149, u150, u151, u152, u153, u154, u155, u156, u157, u158, u159, u160, u161, u162, u163, u164, u165, u166, u167, u168, u169, u170, u171, u172, u173, u174, u175, u176, u177, u178], defers := [] } W := by
  obtain ⟨hm, hx, hn, hf, hl, hw, hwo, hnf, hnw, hds, hnm, hmx, hwl, hok, hsl, htl⟩ := h
  have ne_XN_XB : XN ≠ XB := row_ne hm.nb hx (by decide)
  have ne_XB_XN : XB ≠ XN := fun e => ne_XN_XB e.symm
  have ne_XN_NB : XN ≠ NB := row_ne hm.nb hn (by decide)
  have ne_NB_XN : NB ≠ XN := fun e => ne_XN_NB e.symm
  have ne_XN_LB : XN ≠ LB := row_ne hm.nb hl (by decide)
  have ne_LB_XN : LB ≠ XN := fun e => ne_XN_LB e.symm
  have ne_XN_WB : XN ≠ WB := row_ne hm.nb hw (by decide)
  have ne_WB_XN : WB ≠ XN := fun e => ne_XN_WB e.symm
  have ne_XN_CB : XN ≠ CB := row_ne hm.nb hm.cb (by decide)
  have ne_CB_XN : CB ≠ XN := fun e => ne_XN_CB e.symm
  have ne_CB_XB : CB ≠ XB := row_ne hm.cb hx (by decide)
  have ne_XB_CB : XB ≠ CB := fun e => ne_CB_XB e.symm
  have ne_CB_NB : CB ≠ NB := row_ne hm.cb hn (by decide)
  have ne_NB_CB : NB ≠ CB := fun e => ne_CB_NB e.symm
  have ne_CB_FB : CB ≠ FB := row_ne hm.cb hf (by decide)
  have ne_FB_CB : FB ≠ CB := fun e => ne_CB_FB e.symm
  have ne_CB_LB : CB ≠ LB := row_ne hm.cb hl (by decide)
  have ne_LB_CB : LB ≠ CB := fun e => ne_CB_LB e.symm
  have ne_XN_FB : XN ≠ FB := fun e => hnf e.symm
  have ne_CB_WB : CB ≠ WB := fun e => hnw e.symm
  have lt_XB := hx.lt
  have lt_NB := hn.lt
  have lt_FB := hf.lt
  have lt_LB := hl.lt
  have lt_WB := hw.lt
  have lt_CB := hm.cb.lt
  have lt_XN := hm.nb.lt
  have lt_PB := hp.lt
  have x0 := hx.cell (i := 0) (v := .pointer (some ⟨T, 0, none⟩)) rfl
  have n0 := hn.cell (i := 0) (v := .string ⟨name.toArray⟩) rfl
  have f0 := hf.cell (i := 0) (v := .int .i64 (file : Nat)) rfl
  have l0 := hl.cell (i := 0) (v := .func (.func 90) #[] #[.pointer (some ⟨NB, 0, none⟩)]) rfl
  have w0 := hw.cell (i := 0) (v := wv) rfl
  have q0 := hp.cell (i := 0) (v := .string ⟨t.1.toArray⟩) rfl
  have q1 := hp.cell (i := 1) (v := .int .i64 (t.2 : Nat)) rfl
  have q2 := hp.cell (i := 2) (v := .pointer none) rfl
  obtain ⟨y, c, k⟩ := s
  obtain rfl : c = [a] := hs
  have hb0 : (0 : Int) ≤ (k : Int) := by omega
  have hb1 : (k : Int) ≤ 8000 := by dsimp only at hsl; omega
  have c0 := hm.cb.cell (i := 0) (v := cmd) rfl
  have k0 := hm.nb.cell (i := 0) (v := .int .i64 (k : Nat)) rfl
  have k1 := hm.nb.free 0
  have c1 := hm.cb.free 0
  obtain ⟨cA, cc, rfl, hcc⟩ := own_form hm.own
  obtain ⟨i0, hi, hj0, hj1, hj2⟩ := info_parts infoTok
  have HX : Hid (TkM B D T M CB XN fm (y, [a], k + 1) vf vw vc (.slice cA [a].length cc) (W.setCell ⟨XN, 0, none⟩ (.int .i64 ((k : Int) + 1))) ∧ KpS B (rootsK T CB XN) W (W.setCell ⟨XN, 0, none⟩ (.int .i64 ((k : Int) + 1)))) := Lib.hid (hm.next (k + 1))
  have HM := Lib.hid hm
  have HS := Lib.hid hm.size
  clear hm
  simp only [roundC, takeC, tailC, Try.f63, Option.getD_some]
  gi_wp2_with (gi_at_builtin; go_loud (refine wpListIn_append_new _ rfl _ _ 80 rfl D 86 i0 (.agg #[.string ⟨#[]⟩, .int .i64 0]) 2 24 Try.underlying80 hi hj0 hj1 hj2 rfl (by decide) _ _ _ rfl (own_alloc' (own_alloc' HX.out.1.own _) _) ⟨W.heap.size + 1, 0, none⟩ 1 1 (tokCells t) rfl rfl (cells_of' _ _ _ _ rfl (by simp)) (by simp [tokCells, Value.oneCell']) (by simp [maxLen]) (by simp) (by simp; omega) ?_; intro v' w1 hown' hgrow hnew; have CM := Lib.hid (HX.out.1.cmd_ (l := [a] ++ [t]) (new_ (new_ (Below.refl _ _) _) _) hgrow (by rw [tok_snoc]; exact hown') hnew); have cbr := HX.out.1.cb_grown (new_ (new_ (Below.refl _ _) _) _) hgrow; have cb1 := cbr.cell (i := 0) (v := .slice cA [a].length cc) rfl; have fb1 := cbr.free 0; obtain ⟨g', cap', rfl⟩ := ownsRow_succ hown'; have x1 := (HX.out.1.row_grown (new_ (new_ (Below.refl _ _) _) _) hgrow (hx.other (by exact ne_XB_XN) _) (by decide)).cell (i := 0) (v := .pointer (some ⟨T, 0, none⟩)) rfl; have l1 := (HX.out.1.row_grown (new_ (new_ (Below.refl _ _) _) _) hgrow (hl.other (by exact ne_LB_XN) _) (by decide)).cell (i := 0) (v := .func (.func 90) #[] #[.pointer (some ⟨NB, 0, none⟩)]) rfl; clear cbr hown' hgrow hnew))
  exact ⟨_, _, _, _, _, rfl, CM.out.1, HX.out.2.trans CM.out.2⟩
def incR (r0 : RdS ⊕ ErrD) (n : Nat) : RunD ⊕ ErrD := match r0 with
  | .inl z => .inl (z, [], n)
  | .inr e => .inr e
theorem KpS.below_of {B0 : Nat} {R : Nat → Prop} {W W' : World} (h : KpS B0 R W W') : Below B0 W W' := ⟨h.1.os, h.1.tape, h.1.output, h.1.size, h.1.low⟩
theorem TkM.keepN {B D T M CB NB : Nat} {fm : Value} {s : RunD} {vf vw vc cmd : Value} {W W' : World} (h : TkM B D T M CB NB fm s vf vw vc cmd W) (hk : KpS B (rootsK T CB NB) W W') : KeepN M W W' := by
  refine ⟨hk.1.size, fun k o hM ho hc => ?_⟩
  by_cases hB : k < B
  · exact (hk.1.low k hB).trans ho
  · by_cases hl : (∃ r, o = .loop r) ∨ ∃ d, o = .deferred d
    · exact hk.2 k o hl ho
    · refine hk.1.keep k o (fun hm => ?_) (fun r e => hl (.inl ⟨r, e⟩)) (fun d e => hl (.inr ⟨d, e⟩)) ho
      rcases h.mine_cells hm with h1 | h1 | ⟨c, e, h1⟩
      · exact hB h1
      · exact hM h1
      · rw [ho] at h1
        cases h1
        simp [Obj.isCells] at hc
set_option maxRecDepth 100000 in
set_option maxHeartbeats 4000000 in
theorem round_third {B D T M CB XN XB NB FB LB WB PB file base : Nat} {fm vf vw vc cmd wv : Value} {name : List UInt8} {ws : List TokD} {s : RunD} {t : TokD} {W : World} {u0 u1 u7 u8 u9 u13 u14 u15 u16 u17 u18 u19 u20 u21 u22 u23 u24 u25 u26 u27 u28 u29 u30 u31 u32 u33 u34 u35 u36 u37 u38 u39 u40 u41 u42 u43 u44 u45 u46 u47 u48 u49 u50 u51 u52 u53 u54 u55 u56 u57 u58 u59 u60 u61 u62 u63 u64 u65 u66 u67 u68 u69 u70 u71 u72 u73 u74 u75 u76 u77 u78 u79 u80 u81 u82 u83 u84 u85 u86 u87 u88 u89 u90 u91 u92 u93 u94 u95 u96 u97 u98 u99 u100 u101 u102 u103 u104 u105 u106 u107 u108 u109 u110 u111 u112 u113 u114 u115 u116 u117 u118 u119 u120 u121 u122 u123 u124 u125 u126 u127 u128 u129 u130 u131 u132 u133 u134 u135 u136 u137 u138 u139 u140 u141 u142 u143 u144 u145 u146 u147 u148 u149 u150 u151 u152 u153 u154 u155 u156 u157 u158 u159 u160 u161 u162 u163 u164 u165 u166 u167 u168 u169 u170 u171 u172 u173 u174 u175 u176 u177 u178 : Value} (l : Nat) (h : RdH B D T M CB XN XB NB FB LB WB file base fm vf vw vc cmd wv name ws s W) (hp : Row W PB 186 #[.string ⟨t.1.toArray⟩, .int .i64 (t.2 : Nat), .pointer none]) {f : Nat} {fs : List UInt8 → Option (List UInt8)} (TK : TakeOk f B fm fs) (hF : FilesAt B W fm fs) {a b : TokD} {r0 : RdS ⊕ ErrD} (hs : s.2.1 = [a, b]) (hr0 : incS fs name (takeS fs f) s.1 a b = r0) (hco : s.1.coms.length ≤ 8000 * s.1.files.length) (hbl : b.1.length ≤ 40000) (hfu : 41 ≤ f + s.1.files.length) :
    roundC.wpIn (Fence.wide.inRound l) 1 Try.prog (roundQ B D T M CB XN fm (incR r0 (s.2.2 + 1)) W) { tmps := #[u0, u1, .pointer (some ⟨XB, 0, none⟩), .pointer (some ⟨NB, 0, none⟩), .pointer (some ⟨FB, 0, none⟩), .pointer (some ⟨LB, 0, none⟩), .pointer (some ⟨WB, 0, none⟩), u7, u8, u9, .pointer (some ⟨CB, 0, none⟩), .pointer (some ⟨XN, 0, none⟩), .pointer (some ⟨PB, 0, none⟩), u13, u14, u15, u16, u17, u18, u19, u20, u21, u22, u23, u24, u25, u26, u27, u28, u29, u30, u31, u32, u33, u34, u35, u36, u37, u38, u39, u40, u41, u42, u43, u44, u45, u46, u47, u48, u49, u50, u51, u52, u53, u54, u55, u56, u57, u58, u59, u60, u61, u62, u63, u64, u65, u66, u67, u68, u69, u70, u71, u72, u73, u74, u75, u76, u77, u78, u79, u80, u81, u82, u83, u84, u85, u86, u87, u88, u89, u90, u91, u92, u93, u94, u95, u96, u97, u98, u99, u100, u101, u102, u103, u104, u105, u106, u107, u108, u109, u110, u111, u112, u113, u114, u115, u116, u117, u118, u119, u120, u121, u122, u123, u124, u125, u126, u127, u128, u129, u130, u131, u132, u133, u134, u135, u136, u137, u138, u139, u140, u141, u142, u143, u144, u145, u146, u147, u148, u149, u150, u151, u152, u153, u154, u155, u156, u157, u158, u159, u160, u161, u162, u163, u164, u165, u166, u167, u168, u169, u170, u171, u172, u173, u174, u175, u176, u177, u178], defers := [] } W := by
  obtain ⟨hm, hx, hn, hf, hl, hw, hwo, hnf, hnw, hds, hnm, hmx, hwl, hok, hsl, htl⟩ := h
  have ne_XN_XB : XN ≠ XB := row_ne hm.nb hx (by decide)
  have ne_XB_XN : XB ≠ XN := fun e => ne_XN_XB e.symm
  have ne_XN_NB : XN ≠ NB := row_ne hm.nb hn (by decide)
  have ne_NB_XN : NB ≠ XN := fun e => ne_XN_NB e.symm
  have ne_XN_LB : XN ≠ LB := row_ne hm.nb hl (by decide)
  have ne_LB_XN : LB ≠ XN := fun e => ne_XN_LB e.symm
  have ne_XN_WB : XN ≠ WB := row_ne hm.nb hw (by decide)
  have ne_WB_XN : WB ≠ XN := fun e => ne_XN_WB e.symm
  have ne_XN_CB : XN ≠ CB := row_ne hm.nb hm.cb (by decide)
  have ne_CB_XN : CB ≠ XN := fun e => ne_XN_CB e.symm
  have ne_CB_XB : CB ≠ XB := row_ne hm.cb hx (by decide)
  have ne_XB_CB : XB ≠ CB := fun e => ne_CB_XB e.symm
  have ne_CB_NB : CB ≠ NB := row_ne hm.cb hn (by decide)
  have ne_NB_CB : NB ≠ CB := fun e => ne_CB_NB e.symm
  have ne_CB_FB : CB ≠ FB := row_ne hm.cb hf (by decide)
  have ne_FB_CB : FB ≠ CB := fun e => ne_CB_FB e.symm
  have ne_CB_LB : CB ≠ LB := row_ne hm.cb hl (by decide)
  have ne_LB_CB : LB ≠ CB := fun e => ne_CB_LB e.symm
  have ne_XN_FB : XN ≠ FB := fun e => hnf e.symm
  have ne_CB_WB : CB ≠ WB := fun e => hnw e.symm
  have lt_XB := hx.lt
  have lt_NB := hn.lt
  have lt_FB := hf.lt
  have lt_LB := hl.lt
  have lt_WB := hw.lt
  have lt_CB := hm.cb.lt
  have lt_XN := hm.nb.lt
  have lt_PB := hp.lt
  have x0 := hx.cell (i := 0) (v := .pointer (some ⟨T, 0, none⟩)) rfl
  have n0 := hn.cell (i := 0) (v := .string ⟨name.toArray⟩) rfl
  have f0 := hf.cell (i := 0) (v := .int .i64 (file : Nat)) rfl
  have l0 := hl.cell (i := 0) (v := .func (.func 90) #[] #[.pointer (some ⟨NB, 0, none⟩)]) rfl
  have w0 := hw.cell (i := 0) (v := wv) rfl
  have q0 := hp.cell (i := 0) (v := .string ⟨t.1.toArray⟩) rfl
  have q1 := hp.cell (i := 1) (v := .int .i64 (t.2 : Nat)) rfl
  have q2 := hp.cell (i := 2) (v := .pointer none) rfl
  obtain ⟨y, c, k⟩ := s
  obtain rfl : c = [a, b] := hs
  have hb0 : (0 : Int) ≤ (k : Int) := by omega
  have hb1 : (k : Int) ≤ 8000 := by dsimp only at hsl; omega
  have c0 := hm.cb.cell (i := 0) (v := cmd) rfl
  have k0 := hm.nb.cell (i := 0) (v := .int .i64 (k : Nat)) rfl
  have k1 := hm.nb.free 0
  have c1 := hm.cb.free 0
  obtain ⟨cA, cc, rfl, hcc⟩ := own_form hm.own
  obtain ⟨i0, hi, hj0, hj1, hj2⟩ := info_parts infoTok
  have HX : Hid (TkM B D T M CB XN fm (y, [a, b], k + 1) vf vw vc (.slice cA ([a, b] : List TokD).length cc) (W.setCell ⟨XN, 0, none⟩ (.int .i64 ((k : Int) + 1))) ∧ KpS B (rootsK T CB XN) W (W.setCell ⟨XN, 0, none⟩ (.int .i64 ((k : Int) + 1)))) := Lib.hid (hm.next (k + 1))
  have HM := Lib.hid hm
  have HS := Lib.hid hm.size
  clear hm
  simp only [roundC, takeC, tailC, Try.f63, Option.getD_some]
  have HTK := Lib.hid TK
  have HFF := Lib.hid hF
  have HOK := Lib.hid hok
  have HN := Lib.hid (show ∀ W', KpS B (rootsK T CB XN) W W' → Row W' NB 9 #[.string ⟨name.toArray⟩] from fun W' hk => hk.1.keep _ _ hnm (by simp) (by simp) hn)
  have HR0 := Lib.hid hr0
  clear TK hF hr0 hn n0
  cases r0 with
  | inl z =>
    gi_wp2_with (first
      | (gi_at_builtin; refine wpListIn_append_new _ rfl _ _ 80 rfl D 86 i0 (.agg #[.string ⟨#[]⟩, .int .i64 0]) 2 24 Try.underlying80 hi hj0 hj1 hj2 rfl (by decide) _ _ _ rfl (own_alloc' (own_alloc' HX.out.1.own _) _) ⟨W.heap.size + 1, 0, none⟩ 1 1 (tokCells t) rfl rfl (cells_of' _ _ _ _ rfl (by simp)) (by simp [tokCells, Value.oneCell']) (by simp [maxLen]) (by simp) (by simp; omega) ?_; intro v' w1 hown' hgrow hnew; have CM := Lib.hid (HX.out.1.cmd_ (l := [a, b] ++ [t]) (new_ (new_ (Below.refl _ _) _) _) hgrow (by rw [tok_snoc]; exact hown') hnew); have cbr := HX.out.1.cb_grown (new_ (new_ (Below.refl _ _) _) _) hgrow; have cb1 := cbr.cell (i := 0) (v := .slice cA ([a, b] : List TokD).length cc) rfl; have fb1 := cbr.free 0; obtain ⟨g', cap', rfl⟩ := ownsRow_succ hown'; have x1 := (HX.out.1.row_grown (new_ (new_ (Below.refl _ _) _) _) hgrow (hx.other (by exact ne_XB_XN) _) (by decide)).cell (i := 0) (v := .pointer (some ⟨T, 0, none⟩)) rfl; have l1 := (HX.out.1.row_grown (new_ (new_ (Below.refl _ _) _) _) hgrow (hl.other (by exact ne_LB_XN) _) (by decide)).cell (i := 0) (v := .func (.func 90) #[] #[.pointer (some ⟨NB, 0, none⟩)]) rfl; clear cbr hown' hgrow hnew)
      | (refine ⟨trivial, ?_⟩; gi_at_call 92; go_loud (refine ((callsIn_wide.2 (include_any HTK.out _ T M NB y _ _ _ _ name a b t (HFF.out.below (HX.out.2.trans CM.out.2).below_of) CM.out.1.tak HOK.out hco (HN.out _ (HX.out.2.trans CM.out.2)) (Rds.of_own CM.out.1.own) (by unfold maxLen; omega) hfu)).inRound l).mono ?_; rw [HR0.out]; rintro e w3 ⟨rfl, vf3, vw3, vc3, ht3, hk3⟩; have C3 := Lib.hid (CM.out.1.taker hk3 ht3); have cb3 := C3.out.1.cb.cell (i := 0) rfl; have fb3 := C3.out.1.cb.free 0; clear ht3 hk3)))
    have C4 := C3.out.1.cmd_ (l := []) (u := .slice none 0 0) (Below.refl _ _) ⟨rfl, rfl, rfl, Nat.le_refl _, fun _ _ _ => rfl⟩ (World.ownsRow_nil _ _ _ _) (by simp [Value.ownBlock])
    exact ⟨_, _, _, _, _, rfl, C4.1, HX.out.2.trans (CM.out.2.trans (C3.out.2.trans C4.2))⟩
  | inr e0 =>
    gi_wp2_with (first
      | (gi_at_builtin; refine wpListIn_append_new _ rfl _ _ 80 rfl D 86 i0 (.agg #[.string ⟨#[]⟩, .int .i64 0]) 2 24 Try.underlying80 hi hj0 hj1 hj2 rfl (by decide) _ _ _ rfl (own_alloc' (own_alloc' HX.out.1.own _) _) ⟨W.heap.size + 1, 0, none⟩ 1 1 (tokCells t) rfl rfl (cells_of' _ _ _ _ rfl (by simp)) (by simp [tokCells, Value.oneCell']) (by simp [maxLen]) (by simp) (by simp; omega) ?_; intro v' w1 hown' hgrow hnew; have CM := Lib.hid (HX.out.1.cmd_ (l := [a, b] ++ [t]) (new_ (new_ (Below.refl _ _) _) _) hgrow (by rw [tok_snoc]; exact hown') hnew); have cbr := HX.out.1.cb_grown (new_ (new_ (Below.refl _ _) _) _) hgrow; have cb1 := cbr.cell (i := 0) (v := .slice cA ([a, b] : List TokD).length cc) rfl; have fb1 := cbr.free 0; obtain ⟨g', cap', rfl⟩ := ownsRow_succ hown'; have x1 := (HX.out.1.row_grown (new_ (new_ (Below.refl _ _) _) _) hgrow (hx.other (by exact ne_XB_XN) _) (by decide)).cell (i := 0) (v := .pointer (some ⟨T, 0, none⟩)) rfl; have l1 := (HX.out.1.row_grown (new_ (new_ (Below.refl _ _) _) _) hgrow (hl.other (by exact ne_LB_XN) _) (by decide)).cell (i := 0) (v := .func (.func 90) #[] #[.pointer (some ⟨NB, 0, none⟩)]) rfl; clear cbr hown' hgrow hnew)
      | (refine ⟨trivial, ?_⟩; gi_at_call 92; go_loud (refine ((callsIn_wide.2 (include_any HTK.out _ T M NB y _ _ _ _ name a b t (HFF.out.below (HX.out.2.trans CM.out.2).below_of) CM.out.1.tak HOK.out hco (HN.out _ (HX.out.2.trans CM.out.2)) (Rds.of_own CM.out.1.own) (by unfold maxLen; omega) hfu)).inRound l).mono ?_; rw [HR0.out]; rintro e w3 ⟨rfl, hb3, hk3⟩)))
    exact ⟨rfl, e0, rfl, rfl, (HX.out.2.trans CM.out.2).below_of.trans hb3, (HM.out.keepN (HX.out.2.trans CM.out.2)).trans hk3⟩
theorem index_one (a : UInt8) : ∀ (l : List UInt8), -1 ≤ Lib.index l [a] ∧ decide (0 ≤ Lib.index l [a]) = decide (a ∈ l) := by
  intro l
  induction l with
  | nil => exact ⟨by simp [Lib.index], by simp [Lib.index]⟩
  | cons x l ih =>
    obtain ⟨h1, h2⟩ := ih
    unfold Lib.index
    have hp : List.isPrefixOf [a] (x :: l) = (a == x) := by simp [List.isPrefixOf]
    rw [hp]
    by_cases hc : a = x
    · subst hc; simp
    · have hc2 : (a == x) = false := by simpa using hc
      rw [if_neg (by rw [hc2]; simp)]
      have e1 : decide (a ∈ x :: l) = decide (a ∈ l) := decide_eq_decide.2 (by simp [hc])
      rw [e1, ← h2]
      by_cases h3 : Lib.index l [a] = -1
      · simp [h3]
      · have : (Lib.index l [a] == -1) = false := by simpa using h3
        rw [this]
        simp
        omega
theorem contains_one (w : World) (s : List UInt8) (a : UInt8) (hM : MaxAt w) (hs : s.length ≤ 40000) :
    Calls Try.prog 35 #[.string ⟨s.toArray⟩, .string ⟨#[a]⟩] w fun e w' => e = .returned (.bool (decide (a ∈ s))) ∧ w = w' := by
  obtain ⟨m, hm⟩ := hM
  refine (Try.strings_Contains ⟨s.toArray⟩ ⟨#[a]⟩ m w (by simp [ByteArray.size]; omega) hm).mono ?_
  rintro e w' ⟨he, hw⟩
  exact ⟨by rw [he, ← (index_one a s).2]; rfl, hw.symm⟩
end Go.Proofs.Ytignhjfobcnloaa
