/- The round of take's loop over a comment. (Printed by gen_take7.py.) -/
import Derived.Test.YtignhjfobcnloaaSrcTake2
import Derived.Test.YtignhjfobcnloaaRoundInv
import Derived.TacticsInMore
namespace Go.Proofs.Ytignhjfobcnloaa
open Go.RowKit
attribute [local go_sem] Oper.semAt_some
theorem infoComF : (Try.prog.info? 91).map (fun i => (i.zero, i.size, i.bytes)) = some (some (.agg #[.string ⟨#[]⟩, .int .i64 0, .int .i64 0, .int .i64 0]), 4, 40) := by kernel_rfl
structure TakTwo (B T M : Nat) (fm vf vw vc : Value) (x : RdS) (W : World) : Prop where
  tak : TakAt B W T M fm x vf vw vc
  co : W.drew.ownsRow B 91 4 vc x.coms.length (x.coms.flatMap comfCells)
  size : B ≤ W.heap.size + 1
/-- behind the append of a comment -/
def ApC (B : Nat) (W2 : World) (vc : Value) (x : RdS) (y : ComF) (U : Value) (w : World) : Prop := ∃ g cap, U = .slice (some ⟨g, 0, none⟩) (x.coms.length + 1) cap ∧ w.ownsRow B 91 4 U (x.coms.length + 1) (x.coms.flatMap comfCells ++ comfCells y) ∧
  (W2.drew.alloc (.cells (comfCells y).toArray 91)).grownBy w vc.ownBlock ∧ (vc.ownBlock = some g ∨ g = (W2.drew.alloc (.cells (comfCells y).toArray 91)).heap.size)
theorem wpOpIn_append {F : Fence} {n : Nat} {P : Program} {ops : Array Oper} {Q : Exit → Act → World → Prop} {i : Nat} {o : Oper} {a : Act} {w w' : World} {K : Act → World → Prop} {v u v' : Value} (ho : ops[i]? = some o) (hg : o.guard = none) (s x : Operand) (t : TypeId)
    (hop : o.op = Op.call { callee := Callee.builtin Builtin.append, args := #[s, x], argTypes := #[t, t] }) (hs : a.eval s = v) (hx : a.eval x = u) (hrun : (Builtin.append_ #[t, t] o.type #[v, u]).run P w = .ok v' w') (hK : K (a.put o.dst v') w') : wpOpIn F n P ops Q i K a w := by
  have hw : Region.wanted o (yielded ops a.tmps) = true := by simp [Region.wanted, hg]
  unfold wpOpIn
  rw [ho]
  simp only [hw, if_true]
  unfold Oper.wpIn
  constructor
  · simp [Oper.about, hop, resolve, Target.leads, Sem.run_pure]
  · rw [Oper.semAt_plain F _ _ (by rw [hop]; intro c hc'; cases hc')]
    simp [execOp, hop, resolve, invoke, builtin, hs, hx, hrun, Result.andThen]
    exact hK
set_option maxRecDepth 100000 in
set_option maxHeartbeats 4000000 in
theorem round_com {B D T M CB XN XB NB FB LB WB PB file qb qo : Nat} {fm vf vw vc cmd : Value} {s : RunD} {c : ComD} {W : World} {u0 u1 u7 u8 u9 u13 u14 u15 u16 u17 u18 u19 u20 u21 u22 u23 u24 u25 u26 u27 u28 u29 u30 u31 u32 u33 u34 u35 u36 u37 u38 u39 u40 u41 u42 u43 u44 u45 u46 u47 u48 u49 u50 u51 u52 u53 u54 u55 u56 u57 u58 u59 _u60 u61 u62 u63 u64 u65 u66 u67 u68 u69 u70 u71 u72 u73 u74 u75 u76 u77 u78 u79 u80 u81 u82 u83 u84 u85 u86 u87 u88 u89 u90 u91 u92 u93 u94 u95 u96 u97 u98 u99 u100 u101 u102 u103 u104 u105 u106 u107 u108 u109 u110 u111 u112 u113 u114 u115 u116 u117 u118 u119 u120 u121 u122 u123 u124 u125 u126 u127 u128 u129 u130 u131 u132 u133 u134 u135 u136 u137 u138 u139 u140 u141 u142 u143 u144 u145 u146 u147 u148 u149 u150 u151 u152 u153 u154 u155 u156 u157 u158 u159 u160 u161 u162 u163 u164 u165 u166 u167 u168 u169 u170 u171 u172 u173 u174 u175 u176 u177 u178 : Value} (l : Nat)
    (hm : TkM B D T M CB XN fm s vf vw vc cmd W) (hx : Row W XB 134 #[.pointer (some ⟨T, 0, none⟩)]) (hf : Row W FB 3 #[.int .i64 (file : Nat)])
    (hp : Row W PB 186 #[.string ⟨#[]⟩, .int .i64 0, .pointer (some ⟨qb, qo, none⟩)])
    (q0 : W.cell? ⟨qb, qo, none⟩ = some (.string ⟨c.1.toArray⟩)) (q1 : W.cell? ⟨qb, qo + 1, none⟩ = some (.int .i64 0)) (q2 : W.cell? ⟨qb, qo + 2, none⟩ = some (.int .i64 (c.2.1 : Nat))) (q3 : W.cell? ⟨qb, qo + 3, none⟩ = some (.int .i64 (c.2.2 : Nat)))
    (hcl : s.1.coms.length ≤ 1000000) (_hF : 1000000 ≤ 1000000) :
    roundC.wpIn (Fence.wide.inRound l) 1 Try.prog (roundQ B D T M CB XN fm (.inl (addC s.1 file c, s.2)) W) { tmps := #[u0, u1, .pointer (some ⟨XB, 0, none⟩), .pointer (some ⟨NB, 0, none⟩), .pointer (some ⟨FB, 0, none⟩), .pointer (some ⟨LB, 0, none⟩), .pointer (some ⟨WB, 0, none⟩), u7, u8, u9, .pointer (some ⟨CB, 0, none⟩), .pointer (some ⟨XN, 0, none⟩), .pointer (some ⟨PB, 0, none⟩), u13, u14, u15, u16, u17, u18, u19, u20, u21, u22, u23, u24, u25, u26, u27, u28, u29, u30, u31, u32, u33, u34, u35, u36, u37, u38, u39, u40, u41, u42, u43, u44, u45, u46, u47, u48, u49, u50, u51, u52, u53, u54, u55, u56, u57, u58, u59, .agg #[.string ⟨#[]⟩, .int .i64 0, .pointer (some ⟨qb, qo, none⟩)], u61, u62, u63, u64, u65, u66, u67, u68, u69, u70, u71, u72, u73, u74, u75, u76, u77, u78, u79, u80, u81, u82, u83, u84, u85, u86, u87, u88, u89, u90, u91, u92, u93, u94, u95, u96, u97, u98, u99, u100, u101, u102, u103, u104, u105, u106, u107, u108, u109, u110, u111, u112, u113, u114, u115, u116, u117, u118, u119, u120, u121, u122, u123, u124, u125, u126, u127, u128, u129, u130, u131, u132, u133, u134, u135, u136, u137, u138, u139, u140, u141, u142, u143, u144, u145, u146, u147, u148, u149, u150, u151, u152, u153, u154, u155, u156, u157, u158, u159, u160, u161, u162, u163, u164, u165, u166, u167, u168, u169, u170, u171, u172, u173, u174, u175, u176, u177, u178], defers := [] } W := by
  have p0 := hp.cell (i := 0) (v := .string ⟨#[]⟩) rfl
  have p1 := hp.cell (i := 1) (v := .int .i64 0) rfl
  have p2 := hp.cell (i := 2) (v := .pointer (some ⟨qb, qo, none⟩)) rfl
  obtain ⟨vA, vcc, rfl, hvc⟩ := own_form hm.tak.wo
  obtain ⟨cA2, ccc, rfl, hcc⟩ := own_form hm.tak.co
  have HM := Lib.hid hm
  have hT := hm.tak.row.lt
  clear hm
  simp only [roundC, takeC, tailC, Try.f63, Option.getD_some]
  gi_wp2
  refine wpIn_region_any (by kernel_rfl) ?_
  refine wpAnyIn_inv (Inv := fun listed a w => ∃ (b0 b1 b2 b3 b4 b5 b6 b7 b8 b9 b10 b11 : Bool) (x61 x62 x63 x64 x65 x66 x67 : Value), listed = #[b0, b1, b2, b3, b4, b5, b6, b7, b8, b9, b10, b11] ∧ a = { tmps := #[u0, u1, .pointer (some ⟨XB, 0, none⟩), .pointer (some ⟨NB, 0, none⟩), .pointer (some ⟨FB, 0, none⟩), .pointer (some ⟨LB, 0, none⟩), .pointer (some ⟨WB, 0, none⟩), u7, u8, u9, .pointer (some ⟨CB, 0, none⟩), .pointer (some ⟨XN, 0, none⟩), .pointer (some ⟨PB, 0, none⟩), .pointer (some ⟨W.heap.size, 0, none⟩), u14, u15, u16, u17, u18, u19, u20, u21, u22, u23, u24, u25, u26, u27, u28, u29, u30, u31, u32, u33, u34, u35, u36, u37, u38, u39, u40, u41, u42, u43, u44, u45, u46, u47, u48, u49, u50, u51, u52, u53, u54, u55, u56, u57, u58, u59, .agg #[.string ⟨#[]⟩, .int .i64 0, .pointer (some ⟨qb, qo, none⟩)], x61, x62, x63, x64, x65, x66, x67, (bif b0 then .int .i64 (file : Nat) else u68), (bif b1 then .pointer (some ⟨T, 0, none⟩) else u69), (bif b2 then .pointer (some ⟨T, 0, none⟩) else u70), (bif b3 then .pointer (some ⟨T, 2, none⟩) else u71), (bif b4 then .pointer (some ⟨T, 3, none⟩) else u72), (bif b5 then .slice vA s.1.words.length vcc else u73), (bif b6 then .int .i64 (s.1.words.length : Nat) else u74), (bif b7 then .pointer (some ⟨W.heap.size, 1, none⟩) else u75), (bif b8 then .pointer (some ⟨W.heap.size, 1, none⟩) else u76), (bif b10 then .pointer (some ⟨W.heap.size, 3, none⟩) else u77), u78, u79, u80, u81, u82, u83, u84, u85, u86, u87, u88, u89, u90, u91, u92, u93, u94, u95, u96, u97, u98, u99, u100, u101, u102, u103, u104, u105, u106, u107, u108, u109, u110, u111, u112, u113, u114, u115, u116, u117, u118, u119, u120, u121, u122, u123, u124, u125, u126, u127, u128, u129, u130, u131, u132, u133, u134, u135, u136, u137, u138, u139, u140, u141, u142, u143, u144, u145, u146, u147, u148, u149, u150, u151, u152, u153, u154, u155, u156, u157, u158, u159, u160, u161, u162, u163, u164, u165, u166, u167, u168, u169, u170, u171, u172, u173, u174, u175, u176, u177, u178], defers := [] } ∧ Row w W.heap.size 91 #[.string ⟨c.1.toArray⟩, .int .i64 (bif b9 then ((file : Nat) : Int) else 0), .int .i64 (c.2.1 : Nat), .int .i64 (bif b11 then ((s.1.words.length : Nat) : Int) else (c.2.2 : Nat))] ∧ Below W.heap.size W w) (by kernel_rfl) ?_ ?_ ?_ _ _ _ _ ?_ ?_
  · rintro listed a w ⟨b0, b1, b2, b3, b4, b5, b6, b7, b8, b9, b10, b11, x61, x62, x63, x64, x65, x66, x67, rfl, _⟩
    rfl
  · rintro i listed a w hi ⟨b0, b1, b2, b3, b4, b5, b6, b7, b8, b9, b10, b11, x61, x62, x63, x64, x65, x66, x67, rfl, rfl, hrow, hbel⟩ hl ha
    match i, hi with
    | 0, _ =>
      have hb : b0 = false := by simpa using hl
      clear ha hl
      subst hb
      have f0 := (hf.below hbel hf.lt).cell (i := 0) (v := .int .i64 (file : Nat)) rfl
      refine wpOpIn_step rfl fun K' hK => ?_
      go_simp
      exact hK _ _ ⟨true, b1, b2, b3, b4, b5, b6, b7, b8, b9, b10, b11, x61, x62, x63, x64, x65, x66, x67, rfl, rfl, hrow, hbel⟩
    | 1, _ =>
      have hb : b1 = false := by simpa using hl
      clear ha hl
      subst hb
      have x0 := (hx.below hbel hx.lt).cell (i := 0) (v := .pointer (some ⟨T, 0, none⟩)) rfl
      refine wpOpIn_step rfl fun K' hK => ?_
      go_simp
      exact hK _ _ ⟨b0, true, b2, b3, b4, b5, b6, b7, b8, b9, b10, b11, x61, x62, x63, x64, x65, x66, x67, rfl, rfl, hrow, hbel⟩
    | 2, _ =>
      have hb : b2 = false := by simpa using hl
      have hd := ha _ rfl
      have d1 : b1 = true := by cases b1 with | true => rfl | false => simp [Region.binds] at hd
      clear hd
      clear ha hl
      subst hb d1
      refine wpOpIn_step rfl fun K' hK => ?_
      go_simp
      exact hK _ _ ⟨b0, true, true, b3, b4, b5, b6, b7, b8, b9, b10, b11, x61, x62, x63, x64, x65, x66, x67, rfl, rfl, hrow, hbel⟩
    | 3, _ =>
      have hb : b3 = false := by simpa using hl
      have hd := ha _ rfl
      have d2 : b2 = true := by cases b2 with | true => rfl | false => simp [Region.binds] at hd
      clear hd
      clear ha hl
      subst hb d2
      refine wpOpIn_step rfl fun K' hK => ?_
      go_simp
      exact hK _ _ ⟨b0, b1, true, true, b4, b5, b6, b7, b8, b9, b10, b11, x61, x62, x63, x64, x65, x66, x67, rfl, rfl, hrow, hbel⟩
    | 4, _ =>
      have hb : b4 = false := by simpa using hl
      have hd := ha _ rfl
      have d3 : b3 = true := by cases b3 with | true => rfl | false => simp [Region.binds] at hd
      clear hd
      clear ha hl
      subst hb d3
      refine wpOpIn_step rfl fun K' hK => ?_
      go_simp
      exact hK _ _ ⟨b0, b1, b2, true, true, b5, b6, b7, b8, b9, b10, b11, x61, x62, x63, x64, x65, x66, x67, rfl, rfl, hrow, hbel⟩
    | 5, _ =>
      have hb : b5 = false := by simpa using hl
      have hd := ha _ rfl
      have d4 : b4 = true := by cases b4 with | true => rfl | false => simp [Region.binds] at hd
      clear hd
      clear ha hl
      subst hb d4
      have t3 := (HM.out.tak.row.below hbel HM.out.tak.row.lt).cell (i := 3) (v := .slice vA s.1.words.length vcc) rfl
      refine wpOpIn_step rfl fun K' hK => ?_
      go_simp
      exact hK _ _ ⟨b0, b1, b2, b3, true, true, b6, b7, b8, b9, b10, b11, x61, x62, x63, x64, x65, x66, x67, rfl, rfl, hrow, hbel⟩
    | 6, _ =>
      have hb : b6 = false := by simpa using hl
      have hd := ha _ rfl
      have d5 : b5 = true := by cases b5 with | true => rfl | false => simp [Region.binds] at hd
      clear hd
      clear ha hl
      subst hb d5
      refine wpOpIn_step rfl fun K' hK => ?_
      go_simp
      exact hK _ _ ⟨b0, b1, b2, b3, b4, true, true, b7, b8, b9, b10, b11, x61, x62, x63, x64, x65, x66, x67, rfl, rfl, hrow, hbel⟩
    | 7, _ =>
      have hb : b7 = false := by simpa using hl
      have hd := ha _ rfl
      have d0 : b0 = true := by cases b0 with | true => rfl | false => simp [Region.binds] at hd
      clear hd
      clear ha hl
      subst hb d0
      refine wpOpIn_step rfl fun K' hK => ?_
      go_simp
      exact hK _ _ ⟨true, b1, b2, b3, b4, b5, b6, true, b8, b9, b10, b11, x61, x62, x63, x64, x65, x66, x67, rfl, rfl, hrow, hbel⟩
    | 8, _ =>
      have hb : b8 = false := by simpa using hl
      have hd := ha _ rfl
      have d7 : b7 = true := by cases b7 with | true => rfl | false => simp [Region.binds] at hd
      clear hd
      clear ha hl
      subst hb d7
      refine wpOpIn_step rfl fun K' hK => ?_
      go_simp
      exact hK _ _ ⟨b0, b1, b2, b3, b4, b5, b6, true, true, b9, b10, b11, x61, x62, x63, x64, x65, x66, x67, rfl, rfl, hrow, hbel⟩
    | 9, _ =>
      have hb : b9 = false := by simpa using hl
      have hd := ha _ rfl
      have d8 : b8 = true := by cases b8 with | true => rfl | false => simp [Region.binds] at hd
      have d0 : b0 = true := by cases b0 with | true => rfl | false => simp [Region.binds] at hd
      clear hd
      clear ha hl
      subst hb d8 d0
      have z1 := hrow.cell (i := 1) rfl; have z2 := hrow.free 1
      refine wpOpIn_step rfl fun K' hK => ?_
      go_simp
      exact hK _ _ ⟨true, b1, b2, b3, b4, b5, b6, b7, true, true, b10, b11, x61, x62, x63, x64, x65, x66, x67, rfl, rfl, hrow.set 1 _, hbel.setCell (p := ⟨W.heap.size, 1, none⟩) (Nat.le_refl _) _⟩
    | 10, _ =>
      have hb : b10 = false := by simpa using hl
      have hd := ha _ rfl
      have d0 : b0 = true := by cases b0 with | true => rfl | false => simp [Region.binds] at hd
      have d1 : b1 = true := by cases b1 with | true => rfl | false => simp [Region.binds] at hd
      have d2 : b2 = true := by cases b2 with | true => rfl | false => simp [Region.binds] at hd
      have d3 : b3 = true := by cases b3 with | true => rfl | false => simp [Region.binds] at hd
      have d4 : b4 = true := by cases b4 with | true => rfl | false => simp [Region.binds] at hd
      have d5 : b5 = true := by cases b5 with | true => rfl | false => simp [Region.binds] at hd
      have d6 : b6 = true := by cases b6 with | true => rfl | false => simp [Region.binds] at hd
      have d7 : b7 = true := by cases b7 with | true => rfl | false => simp [Region.binds] at hd
      have d8 : b8 = true := by cases b8 with | true => rfl | false => simp [Region.binds] at hd
      have d9 : b9 = true := by cases b9 with | true => rfl | false => simp [Region.binds] at hd
      clear hd
      clear ha hl
      subst hb d0 d1 d2 d3 d4 d5 d6 d7 d8 d9
      refine wpOpIn_step rfl fun K' hK => ?_
      go_simp
      exact hK _ _ ⟨true, true, true, true, true, true, true, true, true, true, true, b11, x61, x62, x63, x64, x65, x66, x67, rfl, rfl, hrow, hbel⟩
    | 11, _ =>
      have hb : b11 = false := by simpa using hl
      have hd := ha _ rfl
      have d10 : b10 = true := by cases b10 with | true => rfl | false => simp [Region.binds] at hd
      have d6 : b6 = true := by cases b6 with | true => rfl | false => simp [Region.binds] at hd
      have d9 : b9 = true := by cases b9 with | true => rfl | false => simp [Region.binds] at hd
      clear hd
      clear ha hl
      subst hb d10 d6 d9
      have z1 := hrow.cell (i := 3) rfl; have z2 := hrow.free 3
      refine wpOpIn_step rfl fun K' hK => ?_
      go_simp
      exact hK _ _ ⟨b0, b1, b2, b3, b4, b5, true, b7, b8, true, true, true, x61, x62, x63, x64, x65, x66, x67, rfl, rfl, hrow.set 3 _, hbel.setCell (p := ⟨W.heap.size, 3, none⟩) (Nat.le_refl _) _⟩
    | k + 12, hlt => exact absurd hlt (by show ¬ k + 12 < 12; omega)
  · rintro listed a W2 ⟨b0, b1, b2, b3, b4, b5, b6, b7, b8, b9, b10, b11, x61, x62, x63, x64, x65, x66, x67, rfl, rfl, hrow, hbel⟩ hall
    have h0 : b0 = true := by simpa using hall 0 (by decide)
    have h1 : b1 = true := by simpa using hall 1 (by decide)
    have h2 : b2 = true := by simpa using hall 2 (by decide)
    have h3 : b3 = true := by simpa using hall 3 (by decide)
    have h4 : b4 = true := by simpa using hall 4 (by decide)
    have h5 : b5 = true := by simpa using hall 5 (by decide)
    have h6 : b6 = true := by simpa using hall 6 (by decide)
    have h7 : b7 = true := by simpa using hall 7 (by decide)
    have h8 : b8 = true := by simpa using hall 8 (by decide)
    have h9 : b9 = true := by simpa using hall 9 (by decide)
    have h10 : b10 = true := by simpa using hall 10 (by decide)
    have h11 : b11 = true := by simpa using hall 11 (by decide)
    clear hall
    subst h0 h1 h2 h3 h4 h5 h6 h7 h8 h9 h10 h11
    simp only [cond_true] at hrow ⊢
    have HT2 : Hid (TakTwo B T M fm vf (.slice vA s.1.words.length vcc) (.slice cA2 s.1.coms.length ccc) s.1 W2) := Lib.hid ⟨HM.out.tak.below hbel, own_below HM.out.tak.co hbel.drew, by have := HM.out.size; have := hbel.size; omega⟩
    have HNC : Hid (some W.heap.size ≠ (Value.slice cA2 s.1.coms.length ccc).ownBlock) := Lib.hid (fun e => by have := (HM.out.tak.co.lt _ e.symm).2; omega)
    have HB2 := Lib.hid hbel
    have hz2 : W.heap.size + 1 ≤ W2.heap.size := hrow.lt
    have hx2 := hx.below hbel hx.lt
    clear hbel p0 p1 p2 q0 q1 q2 q3
    simp only [Exit.then]
    gi_wp2
    refine wpIn_region_any (by kernel_rfl) ?_
    refine wpAnyIn_inv (Inv := fun listed a w => ∃ (b0 b1 b2 b3 b4 b5 b6 b7 b8 b9 b10 b11 b12 : Bool) (x61 x62 x63 x64 x65 x66 x67 x68 x69 x70 x71 x72 x73 x74 x75 x76 x77 U : Value), listed = #[b0, b1, b2, b3, b4, b5, b6, b7, b8, b9, b10, b11, b12] ∧ a = { tmps := #[u0, u1, .pointer (some ⟨XB, 0, none⟩), .pointer (some ⟨NB, 0, none⟩), .pointer (some ⟨FB, 0, none⟩), .pointer (some ⟨LB, 0, none⟩), .pointer (some ⟨WB, 0, none⟩), u7, u8, u9, .pointer (some ⟨CB, 0, none⟩), .pointer (some ⟨XN, 0, none⟩), .pointer (some ⟨PB, 0, none⟩), .pointer (some ⟨W.heap.size, 0, none⟩), u14, u15, u16, u17, u18, u19, u20, u21, u22, u23, u24, u25, u26, u27, u28, u29, u30, u31, u32, u33, u34, u35, u36, u37, u38, u39, u40, u41, u42, u43, u44, u45, u46, u47, u48, u49, u50, u51, u52, u53, u54, u55, u56, u57, u58, u59, .agg #[.string ⟨#[]⟩, .int .i64 0, .pointer (some ⟨qb, qo, none⟩)], x61, x62, x63, x64, x65, x66, x67, x68, x69, x70, x71, x72, x73, x74, x75, x76, x77, (bif b0 then .pointer (some ⟨T, 0, none⟩) else u78), (bif b1 then .pointer (some ⟨T, 0, none⟩) else u79), (bif b2 then .pointer (some ⟨T, 0, none⟩) else u80), (bif b3 then .pointer (some ⟨T, 2, none⟩) else u81), (bif b4 then .pointer (some ⟨T, 4, none⟩) else u82), (bif b5 then .slice cA2 s.1.coms.length ccc else u83), (bif b6 then .agg #[.string ⟨c.1.toArray⟩, .int .i64 (file : Nat), .int .i64 (c.2.1 : Nat), .int .i64 (s.1.words.length : Nat)] else u84), (bif b7 then .slice (some ⟨W2.heap.size, 0, none⟩) 1 1 else u85), (bif b8 then U else u86), (bif b9 then .pointer (some ⟨T, 0, none⟩) else u87), (bif b10 then .pointer (some ⟨T, 2, none⟩) else u88), (bif b11 then .pointer (some ⟨T, 4, none⟩) else u89), u90, u91, u92, u93, u94, u95, u96, u97, u98, u99, u100, u101, u102, u103, u104, u105, u106, u107, u108, u109, u110, u111, u112, u113, u114, u115, u116, u117, u118, u119, u120, u121, u122, u123, u124, u125, u126, u127, u128, u129, u130, u131, u132, u133, u134, u135, u136, u137, u138, u139, u140, u141, u142, u143, u144, u145, u146, u147, u148, u149, u150, u151, u152, u153, u154, u155, u156, u157, u158, u159, u160, u161, u162, u163, u164, u165, u166, u167, u168, u169, u170, u171, u172, u173, u174, u175, u176, u177, u178], defers := [] } ∧ (b12 = true → (b0 && b1 && b2 && b3 && b4 && b5 && b6 && b7 && b8 && b9 && b10 && b11) = true) ∧ (b8 = true → b7 = true) ∧ (b11 = true → b10 = true) ∧ (b10 = true → b9 = true) ∧ (b12 = false → Row w XB 134 #[.pointer (some ⟨T, 0, none⟩)] ∧ Row w T 136 #[fm, .map (some M), vf, .slice vA s.1.words.length vcc, .slice cA2 s.1.coms.length ccc, .int .i64 s.1.depth] ∧ Row w W.heap.size 91 #[.string ⟨c.1.toArray⟩, .int .i64 (file : Nat), .int .i64 (c.2.1 : Nat), .int .i64 (s.1.words.length : Nat)]) ∧ (b7 = false → w = W2.drew) ∧ (b7 = true → b8 = false → w = W2.drew.alloc (.cells #[.string ⟨c.1.toArray⟩, .int .i64 (file : Nat), .int .i64 (c.2.1 : Nat), .int .i64 (s.1.words.length : Nat)] 91)) ∧ (b8 = true → b12 = false → ApC B W2 (.slice cA2 s.1.coms.length ccc) s.1 (c.1, (file : Int), (c.2.1 : Int), (s.1.words.length : Int)) U w) ∧ (b12 = true → ∃ wz, ApC B W2 (.slice cA2 s.1.coms.length ccc) s.1 (c.1, (file : Int), (c.2.1 : Int), (s.1.words.length : Int)) U wz ∧ w = wz.setCell ⟨T, 4, none⟩ U)) (by kernel_rfl) ?_ ?_ ?_ _ _ _ _ ?_ ?_
    rotate_left 2
    rotate_left 1
    · refine ⟨false, false, false, false, false, false, false, false, false, false, false, false, false, _, _, _, _, _, _, _, _, _, _, _, _, _, _, _, _, _, .pointer none, rfl, rfl, ?_, ?_, ?_, ?_, ?_, ?_, ?_, ?_, ?_⟩
      · intro h; cases h
      · intro h; cases h
      · intro h; cases h
      · intro h; cases h
      · exact fun _ => ⟨hx2, HT2.out.tak.row, hrow⟩
      · exact fun _ => rfl
      · intro h; cases h
      · intro h; cases h
      · intro h; cases h
    · simp
    · rintro listed a w ⟨b0, b1, b2, b3, b4, b5, b6, b7, b8, b9, b10, b11, b12, x61, x62, x63, x64, x65, x66, x67, x68, x69, x70, x71, x72, x73, x74, x75, x76, x77, U, rfl, _⟩
      rfl
    · rintro i listed a w hi ⟨b0, b1, b2, b3, b4, b5, b6, b7, b8, b9, b10, b11, b12, x61, x62, x63, x64, x65, x66, x67, x68, x69, x70, x71, x72, x73, x74, x75, x76, x77, U, rfl, rfl, h12, h8, c11, c10, hrows, hp7, hp78, hp8, hp12⟩ hl ha
      match i, hi with
      | 0, _ =>
        have hb : b0 = false := by simpa using hl
        clear ha hl
        subst hb
        have hb12 : b12 = false := by cases b12 with | false => rfl | true => exact absurd (h12 rfl) (by simp)
        subst hb12
        have rows := hrows rfl
        have x0 := rows.1.cell (i := 0) (v := .pointer (some ⟨T, 0, none⟩)) rfl
        refine wpOpIn_step rfl fun K' hK => ?_
        go_simp
        exact hK _ _ ⟨true, b1, b2, b3, b4, b5, b6, b7, b8, b9, b10, b11, false, x61, x62, x63, x64, x65, x66, x67, x68, x69, x70, x71, x72, x73, x74, x75, x76, x77, U, rfl, rfl, fun h => (by cases h), h8, c11, c10, fun _ => rows, hp7, hp78, hp8, fun h => (by cases h)⟩
        | 1, _ =>
        have hb : b1 = false := by simpa using hl
        clear ha hl
        subst hb
        have hb12 : b12 = false := by cases b12 with | false => rfl | true => exact absurd (h12 rfl) (by simp)
        subst hb12
        have rows := hrows rfl
        have x0 := rows.1.cell (i := 0) (v := .pointer (some ⟨T, 0, none⟩)) rfl
        refine wpOpIn_step rfl fun K' hK => ?_
        go_simp
        exact hK _ _ ⟨b0, true, b2, b3, b4, b5, b6, b7, b8, b9, b10, b11, false, x61, x62, x63, x64, x65, x66, x67, x68, x69, x70, x71, x72, x73, x74, x75, x76, x77, U, rfl, rfl, fun h => (by cases h), h8, c11, c10, fun _ => rows, hp7, hp78, hp8, fun h => (by cases h)⟩
        | 2, _ =>
        have hb : b2 = false := by simpa using hl
        have hd := ha _ rfl
        have d1 : b1 = true := by cases b1 with | true => rfl | false => simp [Region.binds] at hd
        clear hd
        clear ha hl
        subst hb d1
        have hb12 : b12 = false := by cases b12 with | false => rfl | true => exact absurd (h12 rfl) (by simp)
        subst hb12
        have rows := hrows rfl
        refine wpOpIn_step rfl fun K' hK => ?_
        go_simp
        exact hK _ _ ⟨b0, true, true, b3, b4, b5, b6, b7, b8, b9, b10, b11, false, x61, x62, x63, x64, x65, x66, x67, x68, x69, x70, x71, x72, x73, x74, x75, x76, x77, U, rfl, rfl, fun h => (by cases h), h8, c11, c10, fun _ => rows, hp7, hp78, hp8, fun h => (by cases h)⟩
        | 3, _ =>
        have hb : b3 = false := by simpa using hl
        have hd := ha _ rfl
        have d2 : b2 = true := by cases b2 with | true => rfl | false => simp [Region.binds] at hd
        clear hd
        clear ha hl
        subst hb d2
        have hb12 : b12 = false := by cases b12 with | false => rfl | true => exact absurd (h12 rfl) (by simp)
        subst hb12
        have rows := hrows rfl
        refine wpOpIn_step rfl fun K' hK => ?_
        go_simp
        exact hK _ _ ⟨b0, b1, true, true, b4, b5, b6, b7, b8, b9, b10, b11, false, x61, x62, x63, x64, x65, x66, x67, x68, x69, x70, x71, x72, x73, x74, x75, x76, x77, U, rfl, rfl, fun h => (by cases h), h8, c11, c10, fun _ => rows, hp7, hp78, hp8, fun h => (by cases h)⟩
        | 4, _ =>
        have hb : b4 = false := by simpa using hl
        have hd := ha _ rfl
        have d3 : b3 = true := by cases b3 with | true => rfl | false => simp [Region.binds] at hd
        clear hd
        clear ha hl
        subst hb d3
        have hb12 : b12 = false := by cases b12 with | false => rfl | true => exact absurd (h12 rfl) (by simp)
        subst hb12
        have rows := hrows rfl
        refine wpOpIn_step rfl fun K' hK => ?_
        go_simp
        exact hK _ _ ⟨b0, b1, b2, true, true, b5, b6, b7, b8, b9, b10, b11, false, x61, x62, x63, x64, x65, x66, x67, x68, x69, x70, x71, x72, x73, x74, x75, x76, x77, U, rfl, rfl, fun h => (by cases h), h8, c11, c10, fun _ => rows, hp7, hp78, hp8, fun h => (by cases h)⟩
        | 5, _ =>
        have hb : b5 = false := by simpa using hl
        have hd := ha _ rfl
        have d4 : b4 = true := by cases b4 with | true => rfl | false => simp [Region.binds] at hd
        clear hd
        clear ha hl
        subst hb d4
        have hb12 : b12 = false := by cases b12 with | false => rfl | true => exact absurd (h12 rfl) (by simp)
        subst hb12
        have rows := hrows rfl
        have t4 := rows.2.1.cell (i := 4) (v := .slice cA2 s.1.coms.length ccc) rfl
        refine wpOpIn_step rfl fun K' hK => ?_
        go_simp
        exact hK _ _ ⟨b0, b1, b2, b3, true, true, b6, b7, b8, b9, b10, b11, false, x61, x62, x63, x64, x65, x66, x67, x68, x69, x70, x71, x72, x73, x74, x75, x76, x77, U, rfl, rfl, fun h => (by cases h), h8, c11, c10, fun _ => rows, hp7, hp78, hp8, fun h => (by cases h)⟩
        | 6, _ =>
        have hb : b6 = false := by simpa using hl
        clear ha hl
        subst hb
        have hb12 : b12 = false := by cases b12 with | false => rfl | true => exact absurd (h12 rfl) (by simp)
        subst hb12
        have rows := hrows rfl
        have z0 := rows.2.2.cell (i := 0) (v := .string ⟨c.1.toArray⟩) rfl; have z1 := rows.2.2.cell (i := 1) (v := .int .i64 (file : Nat)) rfl; have z2 := rows.2.2.cell (i := 2) (v := .int .i64 (c.2.1 : Nat)) rfl; have z3 := rows.2.2.cell (i := 3) (v := .int .i64 (s.1.words.length : Nat)) rfl
        refine wpOpIn_step rfl fun K' hK => ?_
        go_simp
        exact hK _ _ ⟨b0, b1, b2, b3, b4, b5, true, b7, b8, b9, b10, b11, false, x61, x62, x63, x64, x65, x66, x67, x68, x69, x70, x71, x72, x73, x74, x75, x76, x77, U, rfl, rfl, fun h => (by cases h), h8, c11, c10, fun _ => rows, hp7, hp78, hp8, fun h => (by cases h)⟩
        | 7, _ =>
        have hb : b7 = false := by simpa using hl
        have hd := ha _ rfl
        have d6 : b6 = true := by cases b6 with | true => rfl | false => simp [Region.binds] at hd
        clear hd
        clear ha hl
        subst hb d6
        have hb12 : b12 = false := by cases b12 with | false => rfl | true => exact absurd (h12 rfl) (by simp)
        subst hb12
        have rows := hrows rfl
        have hb8 : b8 = false := by cases b8 with | false => rfl | true => exact absurd (h8 rfl) (by simp)
        subst hb8
        obtain rfl := hp7 rfl
        refine wpOpIn_step rfl fun K' hK => ?_
        go_simp
        exact hK _ _ ⟨b0, b1, b2, b3, b4, b5, true, true, false, b9, b10, b11, false, x61, x62, x63, x64, x65, x66, x67, x68, x69, x70, x71, x72, x73, x74, x75, x76, x77, U, rfl, rfl, fun h => (by cases h), fun _ => rfl, c11, c10, fun _ => ⟨rows.1.alloc _, rows.2.1.alloc _, rows.2.2.alloc _⟩, fun h => (by cases h), fun _ _ => rfl, fun h => (by cases h), fun h => (by cases h)⟩
        | 8, _ =>
        have hb : b8 = false := by simpa using hl
        have hd := ha _ rfl
        have d5 : b5 = true := by cases b5 with | true => rfl | false => simp [Region.binds] at hd
        have d7 : b7 = true := by cases b7 with | true => rfl | false => simp [Region.binds] at hd
        clear hd
        clear ha hl
        subst hb d5 d7
        have hb12 : b12 = false := by cases b12 with | false => rfl | true => exact absurd (h12 rfl) (by simp)
        subst hb12
        have rows := hrows rfl
        obtain rfl := hp78 rfl rfl
        obtain ⟨i0, hi0, hj0, hj1, hj2⟩ := info_parts infoComF
        obtain ⟨g, cap, wz, hrun, ho, hgr, hat, _⟩ := run_append_lies (P := Try.prog) (w := W2.drew.alloc (.cells #[.string ⟨c.1.toArray⟩, .int .i64 (file : Nat), .int .i64 (c.2.1 : Nat), .int .i64 (s.1.words.length : Nat)] 91)) 52 52 B 91 i0 _ 4 40 Try.underlying52 hi0 hj0 hj1 hj2 rfl (by decide) (.slice cA2 s.1.coms.length ccc) s.1.coms.length (s.1.coms.flatMap comfCells) (own_alloc' (HT2.out.co) _) ⟨W2.heap.size, 0, none⟩ 1 1 (comfCells (c.1, (file : Int), (c.2.1 : Int), (s.1.words.length : Int))) rfl (cells_of' _ _ _ _ rfl rfl) (by simp [comfCells, Value.oneCell']) (by decide) (by unfold maxLen; omega) (by omega) (by simp; exact HT2.out.size) _ rfl
        refine wpOpIn_append rfl rfl (.tmp 83) (.tmp 85) 52 rfl rfl rfl hrun ?_
        have ne : ∀ (k : Nat) (cs : Array Value) (e : TypeId), Row (W2.drew.alloc (.cells #[.string ⟨c.1.toArray⟩, .int .i64 (file : Nat), .int .i64 (c.2.1 : Nat), .int .i64 (s.1.words.length : Nat)] 91)) k e cs → e ≠ 91 → some k ≠ (Value.slice cA2 s.1.coms.length ccc).ownBlock := fun k cs e hk he e2 => by
          obtain ⟨_, c', h2⟩ := own_obj (own_alloc' HT2.out.co (.cells #[.string ⟨c.1.toArray⟩, .int .i64 (file : Nat), .int .i64 (c.2.1 : Nat), .int .i64 (s.1.words.length : Nat)] 91)) e2.symm
          exact he (cells_inj hk h2).2.1
        refine ⟨b0, b1, b2, b3, b4, true, b6, true, true, b9, b10, b11, false, x61, x62, x63, x64, x65, x66, x67, x68, x69, x70, x71, x72, x73, x74, x75, x76, x77, _, rfl, rfl, fun h => (by cases h), fun _ => rfl, c11, c10, fun _ => ⟨rows.1.grown hgr (ne _ _ _ rows.1 (by decide)), rows.2.1.grown hgr (ne _ _ _ rows.2.1 (by decide)), rows.2.2.grown hgr (HNC.out)⟩, fun h => (by cases h), fun _ h => (by cases h), fun _ _ => ⟨g, cap, rfl, ho, hgr, hat⟩, fun h => (by cases h)⟩
        | 9, _ =>
        have hb : b9 = false := by simpa using hl
        have hd := ha _ rfl
        have d0 : b0 = true := by cases b0 with | true => rfl | false => simp [Region.binds] at hd
        have d1 : b1 = true := by cases b1 with | true => rfl | false => simp [Region.binds] at hd
        have d2 : b2 = true := by cases b2 with | true => rfl | false => simp [Region.binds] at hd
        have d3 : b3 = true := by cases b3 with | true => rfl | false => simp [Region.binds] at hd
        have d4 : b4 = true := by cases b4 with | true => rfl | false => simp [Region.binds] at hd
        have d5 : b5 = true := by cases b5 with | true => rfl | false => simp [Region.binds] at hd
        have d6 : b6 = true := by cases b6 with | true => rfl | false => simp [Region.binds] at hd
        have d7 : b7 = true := by cases b7 with | true => rfl | false => simp [Region.binds] at hd
        have d8 : b8 = true := by cases b8 with | true => rfl | false => simp [Region.binds] at hd
        clear hd
        clear ha hl
        subst hb d0 d1 d2 d3 d4 d5 d6 d7 d8
        have hb12 : b12 = false := by cases b12 with | false => rfl | true => exact absurd (h12 rfl) (by simp)
        subst hb12
        have rows := hrows rfl
        refine wpOpIn_step rfl fun K' hK => ?_
        go_simp
        exact hK _ _ ⟨true, true, true, true, true, true, true, true, true, true, b10, b11, false, x61, x62, x63, x64, x65, x66, x67, x68, x69, x70, x71, x72, x73, x74, x75, x76, x77, U, rfl, rfl, fun h => (by cases h), h8, c11, fun _ => rfl, fun _ => rows, hp7, hp78, hp8, fun h => (by cases h)⟩
        | 10, _ =>
        have hb : b10 = false := by simpa using hl
        have hd := ha _ rfl
        have d9 : b9 = true := by cases b9 with | true => rfl | false => simp [Region.binds] at hd
        clear hd
        clear ha hl
        subst hb d9
        have hb12 : b12 = false := by cases b12 with | false => rfl | true => exact absurd (h12 rfl) (by simp)
        subst hb12
        have rows := hrows rfl
        refine wpOpIn_step rfl fun K' hK => ?_
        go_simp
        exact hK _ _ ⟨b0, b1, b2, b3, b4, b5, b6, b7, b8, true, true, b11, false, x61, x62, x63, x64, x65, x66, x67, x68, x69, x70, x71, x72, x73, x74, x75, x76, x77, U, rfl, rfl, fun h => (by cases h), h8, fun _ => rfl, fun _ => rfl, fun _ => rows, hp7, hp78, hp8, fun h => (by cases h)⟩
        | 11, _ =>
        have hb : b11 = false := by simpa using hl
        have hd := ha _ rfl
        have d10 : b10 = true := by cases b10 with | true => rfl | false => simp [Region.binds] at hd
        clear hd
        clear ha hl
        subst hb d10
        obtain rfl := c10 rfl
        have hb12 : b12 = false := by cases b12 with | false => rfl | true => exact absurd (h12 rfl) (by simp)
        subst hb12
        have rows := hrows rfl
        refine wpOpIn_step rfl fun K' hK => ?_
        go_simp
        exact hK _ _ ⟨b0, b1, b2, b3, b4, b5, b6, b7, b8, true, true, true, false, x61, x62, x63, x64, x65, x66, x67, x68, x69, x70, x71, x72, x73, x74, x75, x76, x77, U, rfl, rfl, fun h => (by cases h), h8, fun _ => rfl, fun _ => rfl, fun _ => rows, hp7, hp78, hp8, fun h => (by cases h)⟩
        | 12, _ =>
        have hb : b12 = false := by simpa using hl
        have hd := ha _ rfl
        have d11 : b11 = true := by cases b11 with | true => rfl | false => simp [Region.binds] at hd
        have d0 : b0 = true := by cases b0 with | true => rfl | false => simp [Region.binds] at hd
        have d1 : b1 = true := by cases b1 with | true => rfl | false => simp [Region.binds] at hd
        have d2 : b2 = true := by cases b2 with | true => rfl | false => simp [Region.binds] at hd
        have d3 : b3 = true := by cases b3 with | true => rfl | false => simp [Region.binds] at hd
        have d4 : b4 = true := by cases b4 with | true => rfl | false => simp [Region.binds] at hd
        have d5 : b5 = true := by cases b5 with | true => rfl | false => simp [Region.binds] at hd
        have d6 : b6 = true := by cases b6 with | true => rfl | false => simp [Region.binds] at hd
        have d7 : b7 = true := by cases b7 with | true => rfl | false => simp [Region.binds] at hd
        have d8 : b8 = true := by cases b8 with | true => rfl | false => simp [Region.binds] at hd
        clear hd
        clear ha hl
        subst hb d11 d0 d1 d2 d3 d4 d5 d6 d7 d8
        obtain rfl := c11 rfl
        obtain rfl := c10 rfl
        have rows := hrows rfl
        obtain ⟨g, cap, rfl, ho, hgr, hat⟩ := hp8 rfl rfl
        clear hp7 hp78 hp8 hp12
        have t4 := rows.2.1.cell (i := 4) (v := .slice cA2 s.1.coms.length ccc) rfl; have t5 := rows.2.1.free 4
        refine wpOpIn_step rfl fun K' hK => ?_
        go_simp
        exact hK _ _ ⟨true, true, true, true, true, true, true, true, true, true, true, true, true, x61, x62, x63, x64, x65, x66, x67, x68, x69, x70, x71, x72, x73, x74, x75, x76, x77, _, rfl, rfl, fun _ => rfl, h8, fun _ => rfl, fun _ => rfl, fun h => (by cases h), fun h => (by cases h), fun _ h => (by cases h), fun _ h => (by cases h), fun _ => ⟨_, ⟨g, cap, rfl, ho, hgr, hat⟩, rfl⟩⟩
        | k + 13, hlt => exact absurd hlt (by show ¬ k + 13 < 13; omega)
    · rintro listed a w ⟨b0, b1, b2, b3, b4, b5, b6, b7, b8, b9, b10, b11, b12, x61, x62, x63, x64, x65, x66, x67, x68, x69, x70, x71, x72, x73, x74, x75, x76, x77, U, rfl, rfl, h12, h8, c11, c10, hrows, hp7, hp78, hp8, hp12⟩ hall
      have hbb : b12 = true := by simpa using hall 12 (by decide)
      obtain ⟨wz, ⟨g, cap, rfl, ho, hgr, hat⟩, rfl⟩ := hp12 hbb
      clear hall h12 h8 c11 c10 hrows hp7 hp78 hp8 hp12
      have TC := tak_com (W1 := W2.drew.alloc (.cells #[.string ⟨c.1.toArray⟩, .int .i64 (file : Nat), .int .i64 (c.2.1 : Nat), .int .i64 (s.1.words.length : Nat)] 91)) (y := (c.1, (file : Int), (c.2.1 : Int), (s.1.words.length : Int))) HT2.out.tak (new_ (Below.refl _ _).drew _) hgr ho (by simpa using hat)
      have C2 := (HM.out.below HB2.out).taker TC.2 TC.1
      have HC := Lib.hid C2
      clear C2 TC hat
      simp only [Exit.then]
      gi_wp2
      exact ⟨_, _, _, _, _, rfl, HC.out.1, (KpS.of_below HM.out.rooted HB2.out HM.out.size).trans HC.out.2⟩
  · exact ⟨false, false, false, false, false, false, false, false, false, false, false, false, _, _, _, _, _, _, _, rfl, rfl, Row.new _ _ _, new_ (Below.refl _ _).drew _⟩
  · simp
end Go.Proofs.Ytignhjfobcnloaa
