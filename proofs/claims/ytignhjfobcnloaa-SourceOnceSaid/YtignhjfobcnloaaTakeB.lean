/- take's loop over the words and comments of a file. (Printed by gen_take10.py.) take behind the call of Strip, and take whole. (Printed by gen_take10.py.) -/
import Derived.Test.YtignhjfobcnloaaSrcTake9
import Derived.Test.YtignhjfobcnloaaPlainB
section
namespace Go.Proofs.Ytignhjfobcnloaa
open Go.RowKit
theorem strip_le {text : List UInt8} (h : (stripS text).2.2.2 = 0) {w : TokD} (hw : w ∈ (stripS text).1) : w.2 ≤ 40000 ∧ w.1.length ≤ 40000 := by
  have hl : text.length ≤ 40000 := by
    apply Decidable.byContradiction
    intro hn
    have h2 := (strip_good h).1
    rw [scanS_big (by omega)] at h2
    simp at h2
  obtain ⟨h1, h2⟩ := strip_stand h hw
  have h3 := h2.length_le
  rw [List.length_drop] at h3
  exact ⟨by omega, by omega⟩
theorem comP_form (v : Value) (k : Nat) : ∃ p, comP v k = .pointer p := by
  unfold comP
  split
  · exact ⟨_, rfl⟩
  · exact ⟨_, rfl⟩
/-- at a piece -/
def TkAx (B T M CB XN : Nat) (fm cv : Value) (w : World) (f : RunD → PieceD → RunD ⊕ ErrD) (s0 : RunD) (ps : List PieceD) (fr : Nat → Value → Array Value) (pre : List PieceI) (x : PieceI) (a : Act) (W : World) : Prop :=
  ∃ PB, a = { tmps := fr PB (pieceV cv x), defers := [] } ∧ Row W PB 186 (pieceC cv x) ∧ TkI B T M CB XN fm w f s0 ps pre W
theorem TkAx.stable {B T M CB XN : Nat} {fm cv : Value} {w : World} {f : RunD → PieceD → RunD ⊕ ErrD} {s0 : RunD} {ps : List PieceD} {fr : Nat → Value → Array Value} (hR : Rooted (rootsK T CB XN) w) (hM : M < w.heap.size) (hB : B ≤ w.heap.size) (pre : List PieceI) (x : PieceI) (a : Act) :
    Stable (okCall (· = 3)) w.heap.size (fun (_ : Unit) W => TkAx B T M CB XN fm cv w f s0 ps fr pre x a W) := by
  rintro _ A A' ⟨PB, h1, h2, h3⟩ ht
  refine ⟨PB, h1, h2.turn ht (.inr ?_), TkI.stable hR hM hB _ _ _ h3 ht⟩
  rintro (h | ⟨_, _, _, h, h2⟩)
  · simp [Obj.isCells] at h
  · cases h; exact absurd h2 (by decide)
theorem takeS_loop {fs : List UInt8 → Option (List UInt8)} {f : Nat} {x : RdS} {name : List UInt8} (hz : (stripS ((fs name).getD [])).2.2.2 = 0) :
    takeS fs (f + 1) x name = match runR (stepR (incS fs name (takeS fs f)) name x.files.length (stripS ((fs name).getD [])).1) (openF x name, [], 0) (mergeS (stripS ((fs name).getD [])).1 (stripS ((fs name).getD [])).2.1) with
      | .inl s => .inl s.1
      | .inr e => .inr e := by
  conv => lhs; unfold takeS
  rw [if_neg (by rw [hz]; simp)]
  cases runR (stepR (incS fs name (takeS fs f)) name x.files.length (stripS ((fs name).getD [])).1) (openF x name, [], 0) (mergeS (stripS ((fs name).getD [])).1 (stripS ((fs name).getD [])).2.1) <;> rfl
attribute [local go_sem] Oper.semAt_some
set_option maxRecDepth 100000 in
set_option maxHeartbeats 4000000 in
theorem take_loop {f B T M XB NB FB LB WB CB XN CC WC base : Nat} {fm : Value} {fs : List UInt8 → Option (List UInt8)} {x : RdS} {name : List UInt8} {w W : World} {vf vw vc v1 v2 : Value} {u0 u1 u7 u8 u9 u12 u13 u14 u15 u16 u17 u18 u19 u20 u21 u22 u23 u24 u25 u26 u27 u28 u29 u30 u31 u32 u33 u34 u35 u36 u37 u38 u39 u40 u41 u42 u43 u44 u45 u46 u47 u48 u49 u50 u51 u52 u53 u54 u55 u56 u57 u58 u60 u61 u62 u63 u64 u65 u66 u67 u68 u69 u70 u71 u72 u73 u74 u75 u76 u77 u78 u79 u80 u81 u82 u83 u84 u85 u86 u87 u88 u89 u90 u91 u92 u93 u94 u95 u96 u97 u98 u99 u100 u101 u102 u103 u104 u105 u106 u107 u108 u109 u110 u111 u112 u113 u114 u115 u116 u117 u118 u119 u120 u121 u122 u123 u124 u125 u126 u127 u128 u129 u130 u131 u132 u133 u134 u135 u136 u137 u138 u139 u140 u141 u142 u143 u144 u145 u146 u147 u148 u149 u150 u151 u152 u153 u154 u155 u156 u157 u158 u159 u160 u161 u162 u163 u164 u165 u166 u167 u168 u169 u170 u171 u172 u173 u174 u175 u176 u177 u178 : Value} (TK : TakeOk f B fm fs) (hF : FilesAt B W fm fs) (hz : (stripS ((fs name).getD [])).2.2.2 = 0)
    (hm : TkM B W.heap.size T M CB XN fm (openF x name, [], 0) vf vw vc (.slice none 0 0) W)
    (hC : TkC B T CB XN XB NB FB LB WB x.files.length base v1 v2 name (stripS ((fs name).getD [])).1 (stripS ((fs name).getD [])).2.1 W) (rcc : Row W CC 52 #[v2]) (rwc : Row W WC 80 #[v1]) (fcc : ¬ mineR (rootsK T CB XN) W CC)
    (hok : OkR x) (h40 : x.files.length < 40) (hfu : 41 ≤ f + 1 + x.files.length) (hco : x.coms.length ≤ 8000 * x.files.length) (hkp : KpT B T w W) (hkn : KeepN M w W) (hCB : w.heap.size ≤ CB) (hXN : w.heap.size ≤ XN) :
    wpFn 63 Try.prog (tailC 10 takeC) (postT Try.prog Try.f63 (TakePost B T M fm w (takeS fs (f + 1) x name))) { tmps := #[u0, u1, .pointer (some ⟨XB, 0, none⟩), .pointer (some ⟨NB, 0, none⟩), .pointer (some ⟨FB, 0, none⟩), .pointer (some ⟨LB, 0, none⟩), .pointer (some ⟨WB, 0, none⟩), u7, u8, u9, .pointer (some ⟨CB, 0, none⟩), .pointer (some ⟨XN, 0, none⟩), u12, u13, u14, u15, u16, u17, u18, u19, u20, u21, u22, u23, u24, u25, u26, u27, u28, u29, u30, u31, u32, u33, u34, u35, u36, u37, u38, u39, u40, u41, u42, u43, u44, u45, u46, u47, u48, u49, u50, u51, u52, u53, u54, u55, u56, u57, u58, .func (.func 121) #[] #[.pointer (some ⟨CC, 0, none⟩), .pointer (some ⟨WC, 0, none⟩)], u60, u61, u62, u63, u64, u65, u66, u67, u68, u69, u70, u71, u72, u73, u74, u75, u76, u77, u78, u79, u80, u81, u82, u83, u84, u85, u86, u87, u88, u89, u90, u91, u92, u93, u94, u95, u96, u97, u98, u99, u100, u101, u102, u103, u104, u105, u106, u107, u108, u109, u110, u111, u112, u113, u114, u115, u116, u117, u118, u119, u120, u121, u122, u123, u124, u125, u126, u127, u128, u129, u130, u131, u132, u133, u134, u135, u136, u137, u138, u139, u140, u141, u142, u143, u144, u145, u146, u147, u148, u149, u150, u151, u152, u153, u154, u155, u156, u157, u158, u159, u160, u161, u162, u163, u164, u165, u166, u167, u168, u169, u170, u171, u172, u173, u174, u175, u176, u177, u178], defers := [] } W := by
  have hsl := strip_len ((fs name).getD [])
  have hle : ∀ t ∈ (stripS ((fs name).getD [])).1, t.2 ≤ 40000 ∧ t.1.length ≤ 40000 := fun t ht => strip_le hz ht
  rw [takeS_loop hz]
  obtain ⟨ws, hws⟩ : ∃ ws, (stripS ((fs name).getD [])).1 = ws := ⟨_, rfl⟩
  obtain ⟨cs, hcs⟩ : ∃ cs, (stripS ((fs name).getD [])).2.1 = cs := ⟨_, rfl⟩
  rw [hws, hcs] at hC hsl ⊢
  rw [hws] at hle
  clear hws hcs hz
  have hR := hm.rooted
  have hM := hm.tak.set.lt
  have hB := hm.size
  have h0 : TkI B T M CB XN fm W (stepR (incS fs name (takeS fs f)) name x.files.length ws) (openF x name, [], 0) (mergeS ws cs) [] W := ⟨_, _, _, _, _, rfl, hm, KpS.refl _⟩
  have hsz : w.heap.size ≤ W.heap.size := hkn.1
  simp only [takeC, tailC, Try.f63, Option.getD_some]
  refine wpFn_block ?_
  refine range_law_p (n := 3) Try.func63 (by omega) (gf := 121) (lb := #[.pointer (some ⟨CC, 0, none⟩), .pointer (some ⟨WC, 0, none⟩)]) rfl (enters_of Try.func121 (by kernel_rfl) rfl)
    (merged_seq 2 (by omega) (handsR (B0 := B) (R := rootsK T CB XN)) W CC WC rcc rwc ⟨rcc.lt, hR, fcc⟩ hC.co (fun g e => ⟨(hC.co.lt g e).2, hR, hC.far g (.inr (.inr (.inr (.inr (.inr (.inr e))))))⟩) hC.wo (fun g e => ⟨(hC.wo.lt g e).2, hR, hC.far g (.inr (.inr (.inr (.inr (.inr (.inl e))))))⟩)
      (fun X K g u hK hs => handsR_set hR X K g u hK hs) (fun t ht => by have := (hle t ht).1; omega) (by omega) (by omega) hB)
    KpR.trans (fun X l r r' hle' hl => KpR.loop hl (by omega)) (Below.refl _ _) (fun p => by cases p <;> rfl)
    (TkI B T M CB XN fm W (stepR (incS fs name (takeS fs f)) name x.files.length ws) (openF x name, [], 0) (mergeS ws cs)) (fun _ _ _ => False) (TkP B M W (stepR (incS fs name (takeS fs f)) name x.files.length ws) (openF x name, [], 0) (mergeS ws cs))
    (TkI.stable hR hM hB) (fun c => by rintro _ _ _ h _; exact h.elim) (fun pre W1 h => h.hands) h0
    (TkAx B T M CB XN fm v2 W (stepR (incS fs name (takeS fs f)) name x.files.length ws) (openF x name, [], 0) (mergeS ws cs) (fun PB vv => #[u0, u1, .pointer (some ⟨XB, 0, none⟩), .pointer (some ⟨NB, 0, none⟩), .pointer (some ⟨FB, 0, none⟩), .pointer (some ⟨LB, 0, none⟩), .pointer (some ⟨WB, 0, none⟩), u7, u8, u9, .pointer (some ⟨CB, 0, none⟩), .pointer (some ⟨XN, 0, none⟩), .pointer (some ⟨PB, 0, none⟩), u13, u14, u15, u16, u17, u18, u19, u20, u21, u22, u23, u24, u25, u26, u27, u28, u29, u30, u31, u32, u33, u34, u35, u36, u37, u38, u39, u40, u41, u42, u43, u44, u45, u46, u47, u48, u49, u50, u51, u52, u53, u54, u55, u56, u57, u58, .func (.func 121) #[] #[.pointer (some ⟨CC, 0, none⟩), .pointer (some ⟨WC, 0, none⟩)], vv, u61, u62, u63, u64, u65, u66, u67, u68, u69, u70, u71, u72, u73, u74, u75, u76, u77, u78, u79, u80, u81, u82, u83, u84, u85, u86, u87, u88, u89, u90, u91, u92, u93, u94, u95, u96, u97, u98, u99, u100, u101, u102, u103, u104, u105, u106, u107, u108, u109, u110, u111, u112, u113, u114, u115, u116, u117, u118, u119, u120, u121, u122, u123, u124, u125, u126, u127, u128, u129, u130, u131, u132, u133, u134, u135, u136, u137, u138, u139, u140, u141, u142, u143, u144, u145, u146, u147, u148, u149, u150, u151, u152, u153, u154, u155, u156, u157, u158, u159, u160, u161, u162, u163, u164, u165, u166, u167, u168, u169, u170, u171, u172, u173, u174, u175, u176, u177, u178])) (TkAx.stable hR hM hB) ?assign ?body ?done ?stop ?pan
  case assign =>
    intro l pre p W' K hI hpre hK
    have hI2 : TkI B T M CB XN fm W (stepR (incS fs name (takeS fs f)) name x.files.length ws) (openF x name, [], 0) (mergeS ws cs) pre W' := hI
    have hr2 := hI.hands.1
    have hB2 : B ≤ W'.heap.size := by obtain ⟨_, _, _, _, _, _, hm', _⟩ := hI; exact hm'.size
    have HST : Hid (∀ o, TkI B T M CB XN fm W (stepR (incS fs name (takeS fs f)) name x.files.length ws) (openF x name, [], 0) (mergeS ws cs) pre (W'.alloc o)) := Lib.hid (fun o => TkI.stable hR hM hB _ _ _ hI (Turn.grow (new_ (Below.refl _ _) _)))
    have HK := Lib.hid hK
    have HB2 := Lib.hid hB2
    have HR2 := Lib.hid hr2
    clear hK hI hI2 hpre hC hm h0 TK hF hr2 hB2
    cases p with
    | inl t =>
      simp only [encM]
      gi_wp2
      exact HK.out _ _ ((KeepsOthers.alloc _ _).from _) (KpR.of_below HR2.out ((Below.refl _ _).alloc (Nat.le_refl _) _) HB2.out) ⟨W'.heap.size, rfl, Row.new _ _ _, HST.out _⟩
    | inr k =>
      obtain ⟨q, hq⟩ := comP_form v2 k
      have HQ := Lib.hid hq
      simp only [encM]
      rw [hq]
      clear hq
      gi_wp2
      exact HK.out _ _ ((KeepsOthers.alloc _ _).from _) (KpR.of_below HR2.out ((Below.refl _ _).alloc (Nat.le_refl _) _) HB2.out) ⟨W'.heap.size, by simp only [pieceV]; rw [HQ.out], by simp only [pieceC]; rw [HQ.out]; exact Row.new _ _ _, HST.out _⟩
  case body =>
    rintro l pre p a' W' ⟨PB, rfl, hp, hI⟩ hpre
    obtain ⟨s, vf', vw', vc', cmd, hr, hm', hk⟩ := hI
    exact round_all l TK hF rfl hM hB hC hok h40 hfu hco hsl.1 hsl.2 (fun t ht => (hle t ht).2) hpre ⟨s, vf', vw', vc', cmd, hr, hm', hk⟩ hp (hm.keepN hk)
  case done =>
    rintro D W' hD ⟨s, vf', vw', vc', cmd, hr, hm', hk⟩ hK
    rw [pieces_all] at hr
    rw [hr]
    have T0 := Turn.putObj (ok := okCall (· = 3)) (B := W.heap.size) (.deferred none) hK hD (.inl rfl)
    have hmt := hm'.turn T0 (hR _ (.inl rfl)) hM (hR _ (.inr (.inl rfl))) (hR _ (.inr (.inr rfl)))
    refine ⟨by simp, .inl ⟨_, _, rfl, run_takeDeferred hK, ?_⟩⟩
    refine ⟨.tuple #[], by simp [results, go_sem], rfl, vf', vw', vc', hmt.tak, KpT.of_rounds hkp (hk.turn T0 hR (Nat.le_refl _) hB) hm hmt hCB hXN⟩
  case stop =>
    rintro D c pre W' hD h
    exact h.elim
  case pan =>
    rintro D ch pre W' hD ⟨e, he, rfl, hb, hkn'⟩ hK
    rw [he]
    refine .inr ⟨D, _, rfl, run_takeDeferred hK, rfl, ?_, ?_⟩
    · exact (hkp.below_of.trans hb).trans ⟨rfl, rfl, rfl, by simp, fun k hk => World.putObj_heap_other (by omega)⟩
    · exact ⟨by have := (hkn.trans hkn').1; simpa using this, fun k o hM' ho hc => (World.putObj_heap_other (by have := (Array.getElem?_eq_some_iff.1 ho).1; omega)).trans ((hkn.trans hkn').2 k o hM' ho hc)⟩
end Go.Proofs.Ytignhjfobcnloaa
end
section
namespace Go.Proofs.Ytignhjfobcnloaa
open Go.RowKit
attribute [local go_sem] Oper.semAt_some
theorem takT_pt : ¬ takT 134 := by unfold takT; decide
theorem TakAt.mine_lt {B T M : Nat} {W : World} {fm vf vw vc : Value} {x : RdS} (h : TakAt B W T M fm x vf vw vc) (lf : ∀ k, fm.ownBlock = some k ∨ fm = .map (some k) → k < B) {k : Nat} (hm : mineC T #[fm, .map (some M), vf, vw, vc, .int .i64 x.depth] k) : k < W.heap.size := by
  rcases h.mine_obj lf hm with h1 | ⟨_, ⟨c', e', h1, h2⟩ | rfl⟩
  · have := h.lo; have := h.row.lt; omega
  · exact (Array.getElem?_eq_some_iff.1 h1).1
  · exact h.set.lt
theorem TakAt.not_str {B T M : Nat} {W : World} {fm vf vw vc : Value} {x : RdS} (h : TakAt B W T M fm x vf vw vc) (lf : ∀ k, fm.ownBlock = some k ∨ fm = .map (some k) → k < B) {k : Nat} {c : Array Value} (h0 : B ≤ k) (hk : Row W k 9 c) (hf : vf.ownBlock ≠ some k) : ¬ mineC T #[fm, .map (some M), vf, vw, vc, .int .i64 x.depth] k := by
  rintro (rfl | ⟨v, hv, hvk⟩)
  · exact absurd (cells_inj hk h.row).2.1 (by decide)
  · simp only [List.mem_cons, List.not_mem_nil, or_false] at hv
    rcases hv with rfl | rfl | rfl | rfl | rfl | rfl
    · have := lf k hvk; omega
    · rcases hvk with hvk | hvk
      · cases hvk
      · obtain rfl : M = k := by simpa using hvk
        exact setM_row h.set hk rfl
    · rcases hvk with hvk | hvk
      · exact hf hvk
      · exact absurd hvk (own_notmap h.fo _)
    · rcases hvk with hvk | hvk
      · obtain ⟨_, c', h2⟩ := own_obj h.wo hvk
        exact absurd (cells_inj hk h2).2.1 (by decide)
      · exact absurd hvk (own_notmap h.wo _)
    · rcases hvk with hvk | hvk
      · obtain ⟨_, c', h2⟩ := own_obj h.co hvk
        exact absurd (cells_inj hk h2).2.1 (by decide)
      · exact absurd hvk (own_notmap h.co _)
    · rcases hvk with hvk | hvk <;> cases hvk
set_option maxRecDepth 100000 in
set_option maxHeartbeats 4000000 in
theorem take_rest {f B T M XB NB FB WB : Nat} {fm : Value} {fs : List UInt8 → Option (List UInt8)} {x : RdS} {name : List UInt8} {w W4 w6 : World} {vf vw vc v1 v2 : Value} {u0 u1 u10 u11 u12 u13 u14 u15 u16 u17 u18 u19 u20 u21 u22 u23 u24 u25 u26 u27 u28 u29 u30 u31 u32 u33 u34 u35 u36 u37 u39 u40 u41 u42 u43 u44 u45 u46 u47 u48 u49 u50 u51 u52 u53 u54 u55 u56 u57 u58 u59 u60 u61 u62 u63 u64 u65 u66 u67 u68 u69 u70 u71 u72 u73 u74 u75 u76 u77 u78 u79 u80 u81 u82 u83 u84 u85 u86 u87 u88 u89 u90 u91 u92 u93 u94 u95 u96 u97 u98 u99 u100 u101 u102 u103 u104 u105 u106 u107 u108 u109 u110 u111 u112 u113 u114 u115 u116 u117 u118 u119 u120 u121 u122 u123 u124 u125 u126 u127 u128 u129 u130 u131 u132 u133 u134 u135 u136 u137 u138 u139 u140 u141 u142 u143 u144 u145 u146 u147 u148 u149 u150 u151 u152 u153 u154 u155 u156 u157 u158 u159 u160 u161 u162 u163 u164 u165 u166 u167 u168 u169 u170 u171 u172 u173 u174 u175 u176 u177 u178 : Value} (h : TkH f B T M XB NB FB fm fs x name w W4 vf vw vc)
    (ha : After5 (W4.alloc (.cells #[.func (.func 90) #[] #[.pointer (some ⟨NB, 0, none⟩)]] 180)) (stripS ((fs name).getD [])) v1 v2 WB w6) :
    wpFn 63 Try.prog (tailC 6 takeC) (postT Try.prog Try.f63 (TakePost B T M fm w (takeS fs (f + 1) x name))) { tmps := #[u0, u1, .pointer (some ⟨XB, 0, none⟩), .pointer (some ⟨NB, 0, none⟩), .pointer (some ⟨FB, 0, none⟩), .pointer (some ⟨W4.heap.size, 0, none⟩), .pointer (some ⟨WB, 0, none⟩), v2, .int .i64 (stripS ((fs name).getD [])).2.2.1, .int .i64 (stripS ((fs name).getD [])).2.2.2, u10, u11, u12, u13, u14, u15, u16, u17, u18, u19, u20, u21, u22, u23, u24, u25, u26, u27, u28, u29, u30, u31, u32, u33, u34, u35, u36, u37, .func (.func 90) #[] #[.pointer (some ⟨NB, 0, none⟩)], u39, u40, u41, u42, u43, u44, u45, u46, u47, u48, u49, u50, u51, u52, u53, u54, u55, u56, u57, u58, u59, u60, u61, u62, u63, u64, u65, u66, u67, u68, u69, u70, u71, u72, u73, u74, u75, u76, u77, u78, u79, u80, u81, u82, u83, u84, u85, u86, u87, u88, u89, u90, u91, u92, u93, u94, u95, u96, u97, u98, u99, u100, u101, u102, u103, u104, u105, u106, u107, u108, u109, u110, u111, u112, u113, u114, u115, u116, u117, u118, u119, u120, u121, u122, u123, u124, u125, u126, u127, u128, u129, u130, u131, u132, u133, u134, u135, u136, u137, u138, u139, u140, u141, u142, u143, u144, u145, u146, u147, u148, u149, u150, u151, u152, u153, u154, u155, u156, u157, u158, u159, u160, u161, u162, u163, u164, u165, u166, u167, u168, u169, u170, u171, u172, u173, u174, u175, u176, u177, u178], defers := [] } w6 := by
  obtain ⟨hb, ho1, ho2, hwb, hwl⟩ := ha
  have hb4 : Below W4.heap.size W4 w6 := then_ (new_ (Below.refl _ _) _) hb
  have hl6 : Row w6 W4.heap.size 180 #[.func (.func 90) #[] #[.pointer (some ⟨NB, 0, none⟩)]] := (Row.new _ _ _).below hb (by simp)
  have hn6 := h.nr.below hb4 h.nr.lt
  have hz5 : (W4.alloc (.cells #[.func (.func 90) #[] #[.pointer (some ⟨NB, 0, none⟩)]] 180)).heap.size = W4.heap.size + 1 := by simp
  rw [hz5] at ho1 ho2 hwl
  have hz6 : W4.heap.size + 1 ≤ w6.heap.size := by have := hb.size; omega
  clear hz5 hb
  have l0 := hl6.cell (i := 0) (v := .func (.func 90) #[] #[.pointer (some ⟨NB, 0, none⟩)]) rfl
  have n0 := hn6.cell (i := 0) (v := .string ⟨name.toArray⟩) rfl
  have hBW4 : B ≤ W4.heap.size := by have := h.ta.lo; have := h.ta.row.lt; omega
  by_cases hz : (stripS ((fs name).getD [])).2.2.2 = 0
  · have HLF := Lib.hid h.hF.lf
    obtain ⟨A1, c1, rfl, hc1⟩ := own_form ho1
    obtain ⟨A2, c2, rfl, hc2⟩ := own_form ho2
    obtain ⟨W10, hW10⟩ : ∃ W10, W10 = ((((w6.alloc (.cells #[.slice none 0 0] 80)).alloc (.cells #[.int .i64 0] 3)).alloc (.cells #[.slice A1 (stripS ((fs name).getD [])).1.length c1] 80)).alloc (.cells #[.slice A2 (stripS ((fs name).getD [])).2.1.length c2] 52)) := ⟨_, rfl⟩
    have hb10 : Below w6.heap.size w6 W10 := by rw [hW10]; exact new_ (new_ (new_ (new_ (Below.refl _ _) _) _) _) _
    have hz10 : W10.heap.size = w6.heap.size + 4 := by rw [hW10]; simp
    have rCB : Row W10 w6.heap.size 80 #[.slice none 0 0] := by rw [hW10]; exact (((Row.new _ _ _).alloc _).alloc _).alloc _
    have rXN : Row W10 (w6.heap.size + 1) 3 #[.int .i64 0] := by rw [hW10]; exact ((Row.new' _ _ _ (by simp)).alloc _).alloc _
    have rWC : Row W10 (w6.heap.size + 1 + 1) 80 #[.slice A1 (stripS ((fs name).getD [])).1.length c1] := by rw [hW10]; exact (Row.new' _ _ _ (by simp)).alloc _
    have rCC : Row W10 (w6.heap.size + 1 + 1 + 1) 52 #[.slice A2 (stripS ((fs name).getD [])).2.1.length c2] := by rw [hW10]; exact Row.new' _ _ _ (by simp)
    have hb410 : Below W4.heap.size W4 W10 := then_ hb4 hb10
    have hmk : TkM B W10.heap.size T M w6.heap.size (w6.heap.size + 1) fm (openF x name, [], 0) vf vw vc (.slice none 0 0) W10 := ⟨h.ta.below hb410, rCB, World.ownsRow_nil _ _ _ _, rXN, HLF.out, by omega, by omega, by omega⟩
    have hfar : ∀ k, k ≠ w6.heap.size → k ≠ w6.heap.size + 1 → ¬ mineC T #[fm, .map (some M), vf, vw, vc, .int .i64 x.depth] k → ¬ mineR (rootsK T w6.heap.size (w6.heap.size + 1)) W10 k := by
      intro k e1 e2 e3 hk
      rcases hmk.mine hk with h1 | ⟨_, _, _, _, h1 | h1 | h1⟩
      · exact e3 h1
      · exact e1 h1
      · exact e2 h1
      · cases h1
    have hge : ∀ k, W4.heap.size ≤ k → ¬ mineC T #[fm, .map (some M), vf, vw, vc, .int .i64 x.depth] k := fun k hk hm => by have : k < W4.heap.size := h.ta.mine_lt HLF.out hm; omega
    have hxl := h.xr.lt
    have hnl := h.nr.lt
    have hfl := h.fr.lt
    have hbw := h.bw
    have hwl6 := hwb.lt
    have hC : TkC B T w6.heap.size (w6.heap.size + 1) XB NB FB W4.heap.size WB x.files.length (W4.heap.size + 1) (.slice A1 (stripS ((fs name).getD [])).1.length c1) (.slice A2 (stripS ((fs name).getD [])).2.1.length c2) name (stripS ((fs name).getD [])).1 (stripS ((fs name).getD [])).2.1 W10 := by
      refine ⟨h.xr.below hb410 hxl, h.nr.below hb410 hnl, h.fr.below hb410 hfl, hl6.below hb10 hl6.lt, hwb.below hb10 hwl6, own_below ho1 hb10, own_below ho2 hb10, ?_, by omega, by omega, ?_⟩
      · rintro k (rfl | rfl | rfl | rfl | rfl | e | e)
        · exact hfar _ (by omega) (by omega) (h.ta.not_mine HLF.out (by have := h.xl; omega) h.xr takT_pt)
        · exact hfar _ (by omega) (by omega) (h.ta.not_str HLF.out (by have := h.nl; omega) h.nr h.nf)
        · exact hfar _ (by omega) (by omega) (h.ta.not_mine HLF.out (by have := h.fl; omega) h.fr takT_int)
        · exact hfar _ (by omega) (by omega) (hge _ (Nat.le_refl _))
        · exact hfar _ (by omega) (by omega) (hge _ (by omega))
        · have h1 := ho1.lt k e
          exact hfar _ (by omega) (by omega) (hge _ (by omega))
        · have h1 := ho2.lt k e
          exact hfar _ (by omega) (by omega) (hge _ (by omega))
      · obtain ⟨m, hm⟩ := h.hF.mx W4 (fun _ _ => rfl)
        have h1 := block_lt_of_cell hm
        dsimp only at h1
        omega
    have HFC := Lib.hid (hfar (w6.heap.size + 1 + 1 + 1) (by omega) (by omega) (hge _ (by omega)))
    have HF10 := Lib.hid (h.hF.below (hb410.mono hBW4))
    have HKP := Lib.hid (h.kp.trans (KpT.of_below hb410 hBW4))
    have HKN := Lib.hid (h.kn.trans (KeepN.below hb410))
    have HH := Lib.hid h
    have HMK := Lib.hid hmk
    have HC := Lib.hid hC
    have HRC := Lib.hid rCC
    have HRW := Lib.hid rWC
    have HW10 := Lib.hid hW10
    have HZ := Lib.hid hz
    have hz' : ((stripS ((fs name).getD [])).2.2.2 != 0) = false := by simpa using hz
    have hw0 := hwb.cell (i := 0) (v := .slice A1 (stripS ((fs name).getD [])).1.length c1) rfl
    have hsz0 : w.heap.size ≤ w6.heap.size := by have := h.kn.1; omega
    clear hW10 hb10 hz10 rCB rXN rWC rCC hb410 hmk hfar hge hC hz ho1 ho2 h hwb hb4 hl6 hn6 hc1 hc2
    simp only [takeC, tailC, Try.f63, Option.getD_some]
    refine wpFn_seq (wpFn_of 3 ?_)
    gi_wp2
    (try simp only [Exit.then])
    refine wpFn_seq (wpFn_of 3 ?_)
    gi_wp2
    (try simp only [Exit.then])
    refine wpFn_seq (wpFn_of 3 ?_)
    gi_wp2
    (try simp only [Exit.then])
    refine wpFn_seq (wpFn_of 3 ?_)
    gi_wp2_with (refine ⟨trivial, ?_⟩; gi_at_call 91; (refine (callsIn_wide.2 (merged_any _ _ _ _ _ _ _)).mono ?_; rintro e w1 ⟨rfl, rfl⟩))
    (try simp only [Exit.then])
    rw [← HW10.out]
    exact take_loop HH.out.tk HF10.out HZ.out HMK.out HC.out HRC.out HRW.out HFC.out HH.out.ok HH.out.l40 HH.out.fu HH.out.co HKP.out HKN.out hsz0 (by omega)
  · have HR : Hid (takeS fs (f + 1) x name = .inr (name, (stripS ((fs name).getD [])).2.2.1, (stripS ((fs name).getD [])).2.2.2)) := Lib.hid (by unfold takeS; rw [if_pos hz])
    have hz' : ((stripS ((fs name).getD [])).2.2.2 != 0) = true := by simpa using hz
    clear hz
    generalize (stripS ((fs name).getD [])).2.2.2 = z at *
    generalize ((stripS ((fs name).getD [])).2.2.1 : Int) = p at *
    have HB := Lib.hid (hb4.mono hBW4)
    have HK := Lib.hid (h.kn.trans (KeepN.below hb4))
    have HKP := Lib.hid h.kp.below_of
    clear ho1 ho2 hwb hwl hb4 h hl6 hn6
    simp only [takeC, tailC, Try.f63, Option.getD_some]
    refine wpFn_seq (wpFn_of 3 ?_)
    gi_wp2_with (refine ⟨trivial, ?_⟩; gi_at_call 90; (refine (callsIn_wide.2 (fail_any _ NB name _ _ n0)).mono ?_; rintro e w1 ⟨rfl, rfl⟩))
    rw [HR.out]
    exact .inl ⟨rfl, rfl, HKP.out.trans HB.out, HK.out⟩
end Go.Proofs.Ytignhjfobcnloaa
end
