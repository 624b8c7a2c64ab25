/- All rounds of take's loop. (Printed by gen_take8.py.) -/
import Derived.Test.YtignhjfobcnloaaTakeA
import Derived.Test.YtignhjfobcnloaaSrcTake7
namespace Go.Proofs.Ytignhjfobcnloaa
open Go.RowKit
/-- the words of a command are words of the file, two at most -/
theorem run_word2 {inc : RdS → TokD → TokD → RdS ⊕ ErrD} {name : List UInt8} {file : Nat} {ws : List TokD} : ∀ (l : List PieceD) (s t : RunD), (∀ w, .inl w ∈ l → w ∈ ws) → (∀ w ∈ s.2.1, w ∈ ws) → s.2.1.length ≤ 2 → runR (stepR inc name file ws) s l = .inl t → (∀ w ∈ t.2.1, w ∈ ws) ∧ t.2.1.length ≤ 2 := by
  intro l
  induction l with
  | nil => intro s t _ h1 h2 h; simp [runR] at h; subst h; exact ⟨h1, h2⟩
  | cons p l ih =>
    intro s t hl h1 h2 h
    unfold runR at h
    split at h
    · cases h
    · rename_i u hu
      obtain ⟨x, cmd, next⟩ := s
      have key : (∀ w ∈ u.2.1, w ∈ ws) ∧ u.2.1.length ≤ 2 := by
        cases p with
        | inr c => simp [stepR] at hu; subst hu; exact ⟨h1, h2⟩
        | inl w =>
          have hw := hl w (List.mem_cons_self ..)
          match cmd, hu, h1 with
          | [], hu, _ =>
            simp only [stepR] at hu
            split at hu
            · cases hu
            · split at hu
              · cases hu; exact ⟨by simpa using hw, by simp⟩
              · cases hu; exact ⟨by simp, by simp⟩
          | [a], hu, h1 => simp [stepR] at hu; subst hu; exact ⟨by simp at h1 ⊢; exact ⟨h1, hw⟩, by simp⟩
          | a :: b :: r, hu, _ =>
            simp only [stepR] at hu
            split at hu
            · cases hu; exact ⟨by simp, by simp⟩
            · cases hu
      exact ih u t (fun w hw => hl w (List.mem_cons_of_mem _ hw)) key.1 key.2 h
theorem mem_mergeS : ∀ (ws : List TokD) (cs : List ComD) (w : TokD), .inl w ∈ mergeS ws cs → w ∈ ws
  | [], cs, w, h => by simp [mergeS] at h
  | a :: ws, cs, w, h => by
    rw [mergeS] at h
    rcases List.mem_append.1 h with h | h
    · simp at h
    · rcases List.mem_cons.1 h with h | h
      · cases h; exact List.mem_cons_self ..
      · exact List.mem_cons_of_mem _ (mem_mergeS ws _ w h)
/-- the value of a piece; its cells -/
def pieceV (cv : Value) : PieceI → Value
  | .inl t => .agg #[.string ⟨t.1.toArray⟩, .int .i64 (t.2 : Nat), .pointer none]
  | .inr k => .agg #[.string ⟨#[]⟩, .int .i64 0, comP cv k]
def pieceC (cv : Value) : PieceI → Array Value
  | .inl t => #[.string ⟨t.1.toArray⟩, .int .i64 (t.2 : Nat), .pointer none]
  | .inr k => #[.string ⟨#[]⟩, .int .i64 0, comP cv k]
/-- memory where the loop begins -/
structure TkC (B T CB XN XB NB FB LB WB file base : Nat) (wv cv : Value) (name : List UInt8) (ws : List TokD) (cs : List ComD) (w : World) : Prop where
  x : Row w XB 134 #[.pointer (some ⟨T, 0, none⟩)]
  n : Row w NB 9 #[.string ⟨name.toArray⟩]
  f : Row w FB 3 #[.int .i64 (file : Nat)]
  l : Row w LB 180 #[.func (.func 90) #[] #[.pointer (some ⟨NB, 0, none⟩)]]
  wb : Row w WB 80 #[wv]
  wo : w.ownsRow base 86 2 wv ws.length (ws.flatMap tokCells)
  co : w.ownsRow base 91 4 cv cs.length (cs.flatMap comCells)
  far : ∀ k, k = XB ∨ k = NB ∨ k = FB ∨ k = LB ∨ k = WB ∨ wv.ownBlock = some k ∨ cv.ownBlock = some k → ¬ mineR (rootsK T CB XN) w k
  nf : FB ≠ XN
  nw : WB ≠ CB
  nx : XN ≠ 0
theorem TkC.keep {B T CB XN XB NB FB LB WB file base : Nat} {wv cv : Value} {name : List UInt8} {ws : List TokD} {cs : List ComD} {w W : World} (h : TkC B T CB XN XB NB FB LB WB file base wv cv name ws cs w) (hk : KpS B (rootsK T CB XN) w W) :
    Row W XB 134 #[.pointer (some ⟨T, 0, none⟩)] ∧ Row W NB 9 #[.string ⟨name.toArray⟩] ∧ Row W FB 3 #[.int .i64 (file : Nat)] ∧ Row W LB 180 #[.func (.func 90) #[] #[.pointer (some ⟨NB, 0, none⟩)]] ∧
      Row W WB 80 #[wv] ∧ W.ownsRow base 86 2 wv ws.length (ws.flatMap tokCells) ∧ W.ownsRow base 91 4 cv cs.length (cs.flatMap comCells) ∧ ¬ mineR (rootsK T CB XN) W NB := by
  have kr : ∀ {k : Nat} {t : TypeId} {c : Array Value}, ¬ mineR (rootsK T CB XN) w k → Row w k t c → Row W k t c := fun hm hr => hk.1.keep _ _ hm (by simp) (by simp) hr
  have ko : ∀ {b s n : Nat} {e : TypeId} {v : Value} {xs : List Value}, (∀ k, v.ownBlock = some k → ¬ mineR (rootsK T CB XN) w k) → w.ownsRow b e s v n xs → W.ownsRow b e s v n xs := fun hm ho => own_same ho fun k o e hh => by
    obtain ⟨_, c, h2⟩ := own_obj ho e
    rw [h2] at hh
    cases hh
    exact hk.1.keep _ _ (hm k e) (by simp) (by simp) h2
  refine ⟨kr (h.far _ (.inl rfl)) h.x, kr (h.far _ (.inr (.inl rfl))) h.n, kr (h.far _ (.inr (.inr (.inl rfl)))) h.f, kr (h.far _ (.inr (.inr (.inr (.inl rfl))))) h.l, kr (h.far _ (.inr (.inr (.inr (.inr (.inl rfl)))))) h.wb,
    ko (fun k e => h.far k (.inr (.inr (.inr (.inr (.inr (.inl e))))))) h.wo, ko (fun k e => h.far k (.inr (.inr (.inr (.inr (.inr (.inr e))))))) h.co, fun hm => ?_⟩
  rcases hk.1.mine _ hm with e | e
  · exact h.far _ (.inr (.inl rfl)) e
  · have := h.n.lt; omega
/-- what leaves by a panic -/
def TkP (B M : Nat) (w : World) (f : RunD → PieceD → RunD ⊕ ErrD) (s0 : RunD) (ps : List PieceD) (ch : List PanicEntry) (_ : List PieceI) (W : World) : Prop :=
  ∃ e, runR f s0 ps = .inr e ∧ ch = foundP e ∧ Below B w W ∧ KeepN M w W
theorem ownPost_of {B D T M CB XN : Nat} {fm : Value} {w W : World} {f : RunD → PieceD → RunD ⊕ ErrD} {s0 s : RunD} {ps : List PieceD} {p : PieceD} {pre : List PieceI} {x : PieceI} {vf vw vc cmd : Value} (hD : D = w.heap.size) (hM : M < D) (hB : B ≤ D)
    (hm : TkM B D T M CB XN fm s vf vw vc cmd W) (hk : KpS B (rootsK T CB XN) w W) (hkn : KeepN M w W) (hr : runR f s0 (ps.take pre.length) = .inl s) (hp : ps.take (pre ++ [x]).length = ps.take pre.length ++ [p]) (hpp : ps.take pre.length ++ [p] <+: ps) :
    ∀ e a W', roundQ B D T M CB XN fm (f s p) W e a W' → ownPostP D (KpR B (rootsK T CB XN)) (TkI B T M CB XN fm w f s0 ps) (fun _ _ _ => False) (TkP B M w f s0 ps) (pre ++ [x]) W e a W' := by
  subst hD
  rintro e a W' h
  cases e with
  | normal =>
    obtain ⟨t, vf', vw', vc', cmd', h1, h2, h3⟩ := h
    exact ⟨hm.keeps h3 hM hB, h3.1, t, vf', vw', vc', cmd', by rw [hp, runR_snoc hr, h1], h2, hk.trans h3⟩
  | panic ch =>
    obtain ⟨h0, e, h1, h2, h3, h4⟩ := h
    exact ⟨h0, ⟨h4.1, fun k o hk0 ho hc => h4.2 k o (by omega) ho hc⟩, e, runR_bad hpp hr h1, h2, hk.below_of.trans h3, hkn.trans h4⟩
  | exit i => exact h.elim
  | goto i => exact h.elim
  | ret => exact h.elim
  | outgrown => exact h.elim
/-- a round, whatever the piece -/
theorem round_all {f B D T M CB XN XB NB FB LB WB PB base : Nat} {fm wv cv : Value} {fs : List UInt8 → Option (List UInt8)} {name : List UInt8} {ws : List TokD} {cs : List ComD} {x0 : RdS} {w W : World} {u0 u1 u7 u8 u9 u13 u14 u15 u16 u17 u18 u19 u20 u21 u22 u23 u24 u25 u26 u27 u28 u29 u30 u31 u32 u33 u34 u35 u36 u37 u38 u39 u40 u41 u42 u43 u44 u45 u46 u47 u48 u49 u50 u51 u52 u53 u54 u55 u56 u57 u58 u59 u61 u62 u63 u64 u65 u66 u67 u68 u69 u70 u71 u72 u73 u74 u75 u76 u77 u78 u79 u80 u81 u82 u83 u84 u85 u86 u87 u88 u89 u90 u91 u92 u93 u94 u95 u96 u97 u98 u99 u100 u101 u102 u103 u104 u105 u106 u107 u108 u109 u110 u111 u112 u113 u114 u115 u116 u117 u118 u119 u120 u121 u122 u123 u124 u125 u126 u127 u128 u129 u130 u131 u132 u133 u134 u135 u136 u137 u138 u139 u140 u141 u142 u143 u144 u145 u146 u147 u148 u149 u150 u151 u152 u153 u154 u155 u156 u157 u158 u159 u160 u161 u162 u163 u164 u165 u166 u167 u168 u169 u170 u171 u172 u173 u174 u175 u176 u177 u178 : Value} (l : Nat) (TK : TakeOk f B fm fs) (hF : FilesAt B w fm fs) (hD : D = w.heap.size) (hM : M < D) (hB : B ≤ D)
    (hC : TkC B T CB XN XB NB FB LB WB x0.files.length base wv cv name ws cs w) (hok : OkR x0) (h40 : x0.files.length < 40) (hfu : 41 ≤ f + 1 + x0.files.length) (hco : x0.coms.length ≤ 8000 * x0.files.length) (hwl : ws.length ≤ 8000) (hcl : cs.length ≤ 8000) (htl : ∀ t ∈ ws, t.1.length ≤ 40000)
    {pre : List PieceI} {x : PieceI} (hpre : pre ++ [x] <+: mergeI ws 0 cs) (hI : TkI B T M CB XN fm w (stepR (incS fs name (takeS fs f)) name x0.files.length ws) (openF x0 name, [], 0) (mergeS ws cs) pre W) (hp : Row W PB 186 (pieceC cv x)) (hkn : KeepN M w W) :
    roundC.wpIn (Fence.wide.inRound l) 1 Try.prog (ownPostP D (KpR B (rootsK T CB XN)) (TkI B T M CB XN fm w (stepR (incS fs name (takeS fs f)) name x0.files.length ws) (openF x0 name, [], 0) (mergeS ws cs)) (fun _ _ _ => False) (TkP B M w (stepR (incS fs name (takeS fs f)) name x0.files.length ws) (openF x0 name, [], 0) (mergeS ws cs)) (pre ++ [x]) W) { tmps := #[u0, u1, .pointer (some ⟨XB, 0, none⟩), .pointer (some ⟨NB, 0, none⟩), .pointer (some ⟨FB, 0, none⟩), .pointer (some ⟨LB, 0, none⟩), .pointer (some ⟨WB, 0, none⟩), u7, u8, u9, .pointer (some ⟨CB, 0, none⟩), .pointer (some ⟨XN, 0, none⟩), .pointer (some ⟨PB, 0, none⟩), u13, u14, u15, u16, u17, u18, u19, u20, u21, u22, u23, u24, u25, u26, u27, u28, u29, u30, u31, u32, u33, u34, u35, u36, u37, u38, u39, u40, u41, u42, u43, u44, u45, u46, u47, u48, u49, u50, u51, u52, u53, u54, u55, u56, u57, u58, u59, pieceV cv x, u61, u62, u63, u64, u65, u66, u67, u68, u69, u70, u71, u72, u73, u74, u75, u76, u77, u78, u79, u80, u81, u82, u83, u84, u85, u86, u87, u88, u89, u90, u91, u92, u93, u94, u95, u96, u97, u98, u99, u100, u101, u102, u103, u104, u105, u106, u107, u108, u109, u110, u111, u112, u113, u114, u115, u116, u117, u118, u119, u120, u121, u122, u123, u124, u125, u126, u127, u128, u129, u130, u131, u132, u133, u134, u135, u136, u137, u138, u139, u140, u141, u142, u143, u144, u145, u146, u147, u148, u149, u150, u151, u152, u153, u154, u155, u156, u157, u158, u159, u160, u161, u162, u163, u164, u165, u166, u167, u168, u169, u170, u171, u172, u173, u174, u175, u176, u177, u178], defers := [] } W := by
  obtain ⟨s, vf, vw, vc, cmd, hr, hm, hk⟩ := hI
  obtain ⟨p, hpx, hp1, hp2⟩ := pieces_at hpre
  subst hD
  have fin := ownPost_of rfl hM hB hm hk hkn hr hp1 hp2
  obtain ⟨hx, hn, hf, hl, hw, hwo, hco', hnm⟩ := hC.keep hk
  have hmid := run_mid hcl hok h40 hco (List.take_prefix _ _) hr
  obtain ⟨ok, hcs, hfs, hnx, hnl⟩ := hmid
  have hfl : x0.files.length + 1 ≤ s.1.files.length := by have := hfs.length_le; simpa using this
  refine wpIn_mono ?_ fin
  cases x with
  | inr k =>
    cases hck : cs[k]? with
    | none => simp [pieceOf, hck] at hpx
    | some c =>
      obtain rfl : p = .inr c := by simpa [pieceOf, hck] using hpx.symm
      obtain ⟨A, cc, rfl, hcc, _, hcx⟩ := ComsAt.open_ (Rds.of_own hco')
      obtain ⟨qb, qo, rfl, q0, q1, q2, q3⟩ := hcx _ _ hck
      have := ok.fl
      exact round_com (_u60 := undef) l hm hx hf hp q0 q1 q2 q3 (by omega) (Nat.le_refl _)
  | inl t =>
    obtain rfl : p = .inl t := by simpa [pieceOf] using hpx.symm
    have hlt : s.2.2 < ws.length := by
      have h1 := nwrd_le hp2
      rw [nwrd_snoc_w, nwrd_merge] at h1
      omega
    obtain ⟨hcm, hc2⟩ := run_word2 _ _ _ (fun w hw => mem_mergeS ws cs w ((List.take_prefix _ _).subset hw)) (by simp) (by simp) hr
    have H : RdH B w.heap.size T M CB XN XB NB FB LB WB x0.files.length base fm vf vw vc cmd wv name ws s W := ⟨hm, hx, hn, hf, hl, hw, hwo, hC.nf, hC.nw, hk.1.size, hnm, hF.mx W fun k hk' => hk.1.low k hk', hwl, ok, hlt, htl⟩
    obtain ⟨y, cmdl, n⟩ := s
    dsimp only at hlt ok hcs hfs hnx hnl hfl hcm hc2
    rcases cmdl with _ | ⟨a, _ | ⟨b, _ | ⟨c, r⟩⟩⟩
    · skip
      have hs : stepR (incS fs name (takeS fs f)) name x0.files.length ws (y, [], n) (.inl t) = match wrongW ws y t n with | some (p, z) => .inr (name, p, z) | none => if t.1 = [36, 91] then .inl (y, [t], n + 1) else .inl (addW y x0.files.length t, [], n + 1) := rfl
      by_cases h1 : t.1 = [36, 93]
      · have e : wrongW ws y t n = some ((t.2 : Int), 41) := by unfold wrongW; rw [if_pos h1]
        rw [hs, e]
        exact round_close l H hp rfl h1
      · by_cases h2 : t.1 = [36, 91]
        · cases hb : betweenS y with
          | false =>
            have e : wrongW ws y t n = some ((t.2 : Int), 43) := by unfold wrongW; rw [if_neg h1, if_pos h2, if_pos hb]
            rw [hs, e]
            exact round_shut l H hp rfl h2 hb
          | true =>
            have hbn : ¬ betweenS y = false := by rw [hb]; simp
            by_cases h3 : ws.length < n + 3
            · have e : wrongW ws y t n = some ((t.2 : Int), 40) := by
                unfold wrongW
                rw [if_neg h1, if_pos h2, if_neg hbn, List.getElem?_eq_none (show ws.length ≤ n + 2 by omega)]
                cases ws[n + 1]? <;> rfl
              rw [hs, e]
              exact round_few l H hp rfl h2 hb h3
            · obtain ⟨a, ha⟩ : ∃ a, ws[n + 1]? = some a := ⟨_, List.getElem?_eq_getElem (by omega)⟩
              obtain ⟨b, hb'⟩ : ∃ b, ws[n + 2]? = some b := ⟨_, List.getElem?_eq_getElem (by omega)⟩
              have e : wrongW ws y t n = if (36 : UInt8) ∈ a.1 ∨ b.1 ≠ [36, 93] then some ((t.2 : Int), 43) else none := by
                unfold wrongW
                rw [if_neg h1, if_pos h2, if_neg hbn, ha, hb']
              by_cases h4 : (36 : UInt8) ∈ a.1
              · rw [hs, e, if_pos (.inl h4)]
                exact round_bad l H hp rfl h2 hb ha hb' h4 hC.nx
              · by_cases h5 : b.1 = [36, 93]
                · rw [hs, e, if_neg (fun h => h.elim h4 fun h => h h5)]
                  dsimp only
                  rw [if_pos h2]
                  exact round_open l H hp rfl h2 hb ha hb' h4 h5 hC.nx
                · rw [hs, e, if_pos (.inr h5)]
                  exact round_bad2 l H hp rfl h2 hb ha hb' h4 h5 hC.nx
        · by_cases h6 : 8000 ≤ y.words.length
          · have e : wrongW ws y t n = some ((t.2 : Int), 8) := by unfold wrongW; rw [if_neg h1, if_neg h2, if_pos h6]
            rw [hs, e]
            exact round_full l H hp rfl h1 h2 h6
          · have e : wrongW ws y t n = none := by unfold wrongW; rw [if_neg h1, if_neg h2, if_neg h6]
            rw [hs, e]
            dsimp only
            rw [if_neg h2]
            exact round_add l H hp rfl h1 h2 (Nat.lt_of_not_le h6)
    · exact round_second l H hp rfl
    · have hbl := htl b (hcm b (by simp))
      have e : stepR (incS fs name (takeS fs f)) name x0.files.length ws (y, [a, b], n) (.inl t) = incR (incS fs name (takeS fs f) y a b) (n + 1) := by
        show (match incS fs name (takeS fs f) y a b with | .inl y => .inl (y, [], n + 1) | .inr e => .inr e) = incR _ _
        unfold incR
        cases incS fs name (takeS fs f) y a b <;> rfl
      rw [e]
      exact round_third l H hp TK (hF.below hk.below_of) rfl rfl (by dsimp only; omega) hbl (by dsimp only; omega)
    · simp at hc2
end Go.Proofs.Ytignhjfobcnloaa
