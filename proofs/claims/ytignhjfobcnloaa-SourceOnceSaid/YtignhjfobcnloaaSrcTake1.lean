/- Between two rounds of take: the pieces so far, and what lies in memory. -/
import Derived.Test.YtignhjfobcnloaaSrcRound
import Derived.Test.YtignhjfobcnloaaTakerA
namespace Go.Proofs.Ytignhjfobcnloaa
open Go.RowKit
theorem pieces_at {ws : List TokD} {cs : List ComD} {pre : List PieceI} {x : PieceI} (h : pre ++ [x] <+: mergeI ws 0 cs) : ∃ p, pieceOf cs x = some p ∧ (mergeS ws cs).take (pre ++ [x]).length = (mergeS ws cs).take pre.length ++ [p] ∧ (mergeS ws cs).take pre.length ++ [p] <+: mergeS ws cs := by
  have hm := mergeI_pieces ws 0 cs cs rfl
  obtain ⟨r, hr⟩ := h
  have h1 : ((mergeI ws 0 cs).map (pieceOf cs))[pre.length]? = some (pieceOf cs x) := by
    rw [← hr, List.getElem?_map, List.append_assoc, List.getElem?_append_right (Nat.le_refl _)]
    simp
  rw [hm, List.getElem?_map] at h1
  cases hq : (mergeS ws cs)[pre.length]? with
  | none => rw [hq] at h1; cases h1
  | some p =>
    rw [hq] at h1
    have hp : pieceOf cs x = some p := by simpa using h1.symm
    have h2 : (mergeS ws cs).take (pre.length + 1) = (mergeS ws cs).take pre.length ++ [p] := by rw [List.take_add_one, hq]; rfl
    exact ⟨p, hp, by rw [List.length_append, List.length_singleton, h2], by rw [← h2]; exact List.take_prefix _ _⟩
theorem pieces_all {ws : List TokD} {cs : List ComD} : (mergeS ws cs).take (mergeI ws 0 cs).length = mergeS ws cs := by
  have h := congrArg List.length (mergeI_pieces ws 0 cs cs rfl)
  rw [List.length_map, List.length_map] at h
  rw [h, List.take_length]
/-- loops and deferred calls stay -/
def KpL (W W' : World) : Prop := ∀ (k : Nat) (o : Obj), (∃ r, o = .loop r) ∨ (∃ d, o = .deferred d) → W.heap[k]? = some o → W'.heap[k]? = some o
/-- as KpR, loops and deferred calls stay too -/
def KpS (B0 : Nat) (R : Nat → Prop) (W W' : World) : Prop := KpR B0 R W W' ∧ KpL W W'
section
variable {B0 : Nat} {R : Nat → Prop} {W W' W'' : World}
theorem KpS.refl (W : World) : KpS B0 R W W := ⟨KpR.refl W, fun _ _ _ h => h⟩
theorem KpS.trans (h : KpS B0 R W W') (k : KpS B0 R W' W'') : KpS B0 R W W'' := ⟨h.1.trans k.1, fun i o ho hi => k.2 i o ho (h.2 i o ho hi)⟩
theorem KpS.of_below (hR : Rooted R W) (hb : Below W.heap.size W W') (h0 : B0 ≤ W.heap.size) : KpS B0 R W W' :=
  ⟨KpR.of_below hR hb h0, fun k _ _ ho => (hb.block k (Array.getElem?_eq_some_iff.1 ho).1).trans ho⟩
theorem KpS.store {g i : Nat} {t : TypeId} {cs : Array Value} {u : Value} (hg : R g) (hr : Row W g t cs) (h0 : B0 ≤ g) (hu : ∀ k, u.ownBlock = some k ∨ u = .map (some k) → mineR R W k ∨ W.heap.size ≤ k) : KpS B0 R W (W.setCell ⟨g, i, none⟩ u) :=
  ⟨KpR.store hg hr h0 hu, fun k o ho hk => (Below.heap_setCell _ _ _ _ (by
    dsimp only
    rintro rfl
    unfold Row at hr
    rw [hr] at hk
    cases hk
    rcases ho with ⟨_, ho⟩ | ⟨_, ho⟩ <;> cases ho)).trans hk⟩
theorem KpS.turn {ok : Obj → Prop} {D : Nat} {w : World} (h : KpS B0 R w W) (ht : Turn ok D W W') (hR : Rooted R w) (hD : w.heap.size ≤ D) (hB : B0 ≤ w.heap.size) : KpS B0 R w W' := by
  have old : ∀ k, k < w.heap.size → W'.heap[k]? = W.heap[k]? := fun k hk => by
    have hlt : k < W.heap.size := Nat.lt_of_lt_of_le hk h.1.size
    rw [ht.block k _ (Array.getElem?_eq_getElem hlt) (.inl (by omega)), Array.getElem?_eq_getElem hlt]
  refine ⟨⟨ht.os.trans h.1.os, ht.tape.trans h.1.tape, ht.output.trans h.1.output, Nat.le_trans h.1.size ht.size, fun k hk => (old k (by omega)).trans (h.1.low k hk), fun k hm => h.1.mine k ?_, fun k o hm h1 h2 ho => (old k (Array.getElem?_eq_some_iff.1 ho).1).trans (h.1.keep k o hm h1 h2 ho)⟩,
    fun k o ho hk => (old k (Array.getElem?_eq_some_iff.1 hk).1).trans (h.2 k o ho hk)⟩
  rcases hm with hm | ⟨g, cs, t, fr, v, hg, hh, hv⟩
  · exact .inl hm
  · exact .inr ⟨g, cs, t, fr, v, hg, (old g (hR g hg)).symm.trans hh, hv⟩
end
/-- the roots of a round: the taker, the box of the command, the box of the count -/
def rootsK (T CB NB : Nat) (r : Nat) : Prop := r = T ∨ r = CB ∨ r = NB
/-- memory between two rounds -/
structure TkM (B D T M CB NB : Nat) (fm : Value) (s : RunD) (vf vw vc cmd : Value) (W : World) : Prop where
  tak : TakAt B W T M fm s.1 vf vw vc
  cb : Row W CB 80 #[cmd]
  own : W.ownsRow D 86 2 cmd s.2.1.length (s.2.1.flatMap tokCells)
  nb : Row W NB 3 #[.int .i64 (s.2.2 : Nat)]
  lf : ∀ k, fm.ownBlock = some k ∨ fm = .map (some k) → k < B
  lc : B ≤ CB
  ln : B ≤ NB
  ld : B ≤ D
section
variable {B D T M CB NB : Nat} {fm : Value} {s : RunD} {vf vw vc cmd : Value} {W W' : World}
theorem TkM.below (h : TkM B D T M CB NB fm s vf vw vc cmd W) (hb : Below W.heap.size W W') : TkM B D T M CB NB fm s vf vw vc cmd W' :=
  ⟨h.tak.below hb, h.cb.below hb h.cb.lt, own_below h.own hb, h.nb.below hb h.nb.lt, h.lf, h.lc, h.ln, h.ld⟩
theorem TkM.rooted (h : TkM B D T M CB NB fm s vf vw vc cmd W) : Rooted (rootsK T CB NB) W := by
  rintro r (rfl | rfl | rfl)
  · exact h.tak.row.lt
  · exact h.cb.lt
  · exact h.nb.lt
theorem TkM.size (h : TkM B D T M CB NB fm s vf vw vc cmd W) : B ≤ W.heap.size := by have := h.nb.lt; have := h.ln; omega
/-- what hangs on the roots -/
theorem TkM.mine (h : TkM B D T M CB NB fm s vf vw vc cmd W) {k : Nat} (hk : mineR (rootsK T CB NB) W k) :
    mineC T #[fm, .map (some M), vf, vw, vc, .int .i64 s.1.depth] k ∨ (B ≤ k ∧ ∃ c e, W.heap[k]? = some (.cells c e (0, 0)) ∧ (k = CB ∨ k = NB ∨ cmd.ownBlock = some k)) := by
  rcases hk with (rfl | rfl | rfl) | ⟨g, cs, t, fr, v, hg, hh, hv, hvk⟩
  · exact .inl (.inl rfl)
  · exact .inr ⟨h.lc, _, _, h.cb, .inl rfl⟩
  · exact .inr ⟨h.ln, _, _, h.nb, .inr (.inl rfl)⟩
  · rcases hg with rfl | rfl | rfl
    · obtain ⟨rfl, _⟩ := cells_inj h.tak.row hh
      exact .inl (.inr ⟨v, hv, hvk⟩)
    · obtain ⟨rfl, _⟩ := cells_inj h.cb hh
      obtain rfl : v = cmd := by simpa using hv
      rcases hvk with hvk | hvk
      · obtain ⟨h1, c, h2⟩ := own_obj h.own hvk
        exact .inr ⟨Nat.le_trans h.ld h1, c, _, h2, .inr (.inr hvk)⟩
      · exact absurd hvk (own_notmap h.own _)
    · obtain ⟨rfl, _⟩ := cells_inj h.nb hh
      obtain rfl : v = .int .i64 (s.2.2 : Nat) := by simpa using hv
      rcases hvk with hvk | hvk <;> cases hvk
theorem TkM.mine_lt (h : TkM B D T M CB NB fm s vf vw vc cmd W) {k : Nat} (hk : mineR (rootsK T CB NB) W k) : k < W.heap.size := by
  rcases h.mine hk with hk | ⟨_, c, e, h1, _⟩
  · rcases h.tak.mine_obj h.lf hk with h1 | ⟨_, ⟨c, e, h1, _⟩ | rfl⟩
    · have := h.size; omega
    · exact lt_of_block h1
    · exact h.tak.set.lt
  · exact lt_of_block h1
/-- a block of no cells that hangs on the roots -/
theorem TkM.mine_cells (h : TkM B D T M CB NB fm s vf vw vc cmd W) {k : Nat} (hk : mineR (rootsK T CB NB) W k) : k < B ∨ k = M ∨ ∃ c e, W.heap[k]? = some (.cells c e (0, 0)) := by
  rcases h.mine hk with hk | ⟨_, c, e, h1, _⟩
  · rcases h.tak.mine_obj h.lf hk with h1 | ⟨_, ⟨c, e, h1, _⟩ | rfl⟩
    · exact .inl h1
    · exact .inr (.inr ⟨c, e, h1⟩)
    · exact .inr (.inl rfl)
  · exact .inr (.inr ⟨c, e, h1⟩)
theorem TkM.keeps (h : TkM B D T M CB NB fm s vf vw vc cmd W) (hk : KpS B (rootsK T CB NB) W W') {D0 : Nat} (hM : M < D0) (hB : B ≤ D0) : KeepsFrom D0 W W' := by
  refine ⟨hk.1.size, fun k o h0 ho hc => ?_⟩
  by_cases hl : (∃ r, o = .loop r) ∨ ∃ d, o = .deferred d
  · exact hk.2 k o hl ho
  · refine hk.1.keep k o (fun hm => ?_) (fun r e => hl (.inl ⟨r, e⟩)) (fun d e => hl (.inr ⟨d, e⟩)) ho
    rcases h.mine_cells hm with h1 | rfl | ⟨c, e, h1⟩
    · omega
    · omega
    · rw [ho] at h1
      cases h1
      simp [Obj.isCells] at hc
/-- the taker turned -/
theorem TkM.taker {y : RdS} {vf' vw' vc' : Value} (h : TkM B D T M CB NB fm s vf vw vc cmd W) (hk : KpT B T W W') (ht : TakAt B W' T M fm y vf' vw' vc') : TkM B D T M CB NB fm (y, s.2) vf' vw' vc' cmd W' ∧ KpS B (rootsK T CB NB) W W' := by
  have hC := h.tak.not_mine h.lf h.lc h.cb takT_box
  have hN := h.tak.not_mine h.lf h.ln h.nb takT_int
  obtain ⟨c1, r1, o1, f1⟩ := hk.row _ h.tak.row
  refine ⟨⟨ht, f1 _ _ hC h.cb, own_same h.own fun k o e ho => ?_, f1 _ _ hN h.nb, h.lf, h.lc, h.ln, h.ld⟩, KpR.of_taker (.inl rfl) h.tak.row hk h.rooted ?_, fun k o hl ho => ?_⟩
  · obtain ⟨h1, c, h2⟩ := own_obj h.own e
    exact f1 _ _ (h.tak.not_mine h.lf (Nat.le_trans h.ld h1) h2 takT_tok) ho
  · rintro r (rfl | rfl | rfl) hne
    · exact absurd rfl hne
    · exact hC
    · exact hN
  · by_cases hm : mineC T #[fm, .map (some M), vf, vw, vc, .int .i64 s.1.depth] k
    · rcases h.tak.mine_obj h.lf hm with h1 | ⟨_, ⟨c', e', h1, h2⟩ | rfl⟩
      · exact (hk.low k h1).trans ho
      · rw [ho] at h1
        cases h1
        rcases hl with ⟨_, hl⟩ | ⟨_, hl⟩ <;> cases hl
      · obtain ⟨es, cl, h1⟩ := h.tak.set.obj
        rw [ho] at h1
        cases h1
        rcases hl with ⟨_, hl⟩ | ⟨_, hl⟩ <;> cases hl
    · exact f1 k o hm ho
/-- the command set -/
theorem TkM.cmd_ {W1 w1 : World} {u : Value} {l : List TokD} (h : TkM B D T M CB NB fm s vf vw vc cmd W) (hb : Below W.heap.size W W1) (hgrow : W1.grownBy w1 cmd.ownBlock) (hown : w1.ownsRow D 86 2 u l.length (l.flatMap tokCells))
    (hat : ∀ k, u.ownBlock = some k → cmd.ownBlock = some k ∨ W1.heap.size ≤ k) : TkM B D T M CB NB fm (s.1, l, s.2.2) vf vw vc u (w1.setCell ⟨CB, 0, none⟩ u) ∧ KpS B (rootsK T CB NB) W (w1.setCell ⟨CB, 0, none⟩ u) := by
  have h1 := h.below hb
  have hsz := hgrow.size
  have ne : ∀ (k : Nat) (c : Array Value) (e : TypeId) (fr : Nat × Nat), W1.heap[k]? = some (.cells c e fr) → e ≠ 86 → some k ≠ cmd.ownBlock := fun k c e fr hk he e2 => by
    obtain ⟨_, c', h2⟩ := own_obj h1.own e2.symm
    obtain ⟨_, rfl, _⟩ := cells_inj hk h2
    exact he rfl
  have hC : Row w1 CB 80 #[cmd] := h1.cb.grown hgrow (ne _ _ _ _ h1.cb (by decide))
  have hN : Row w1 NB 3 #[.int .i64 (s.2.2 : Nat)] := h1.nb.grown hgrow (ne _ _ _ _ h1.nb (by decide))
  have hT := h1.tak.row.grown hgrow (ne _ _ _ _ h1.tak.row (by decide))
  have hS := h1.tak.set.kept hgrow (setM_far h1.tak.set h1.own)
  have cbn : ∀ (k : Nat) (c : Array Value) (e : TypeId) (fr : Nat × Nat), w1.heap[k]? = some (.cells c e fr) → e ≠ 80 → k ≠ CB := fun k c e fr hk he e2 => by
    subst e2
    obtain ⟨_, rfl, _⟩ := cells_inj hk hC
    exact he rfl
  have hS2 : SetM (w1.setCell ⟨CB, 0, none⟩ u) M s.1.files := hS.kept (grown_set _ _ _ _) (by simp; exact setM_row hS hC)
  have own2 : ∀ {e : TypeId} {b size n : Nat} {v : Value} {xs : List Value}, W1.ownsRow b e size v n xs → e ≠ 86 → e ≠ 80 → (w1.setCell ⟨CB, 0, none⟩ u).ownsRow b e size v n xs := fun ho he he2 => by
    have h3 := ho.kept hgrow (own_two ho h1.own he)
    exact h3.kept (grown_set _ _ _ _) (.inr fun e => own_far h3 hC he2 e)
  have hR1 : Rooted (rootsK T CB NB) W1 := h1.rooted
  have hq : ∀ k, cmd.ownBlock = some k → mineR (rootsK T CB NB) W1 k := fun k hk => .inr ⟨CB, _, _, _, cmd, .inr (.inl rfl), h1.cb, by simp, .inl hk⟩
  refine ⟨⟨⟨hT.other (by dsimp only; exact cbn _ _ _ _ hT (by decide)) _, own2 h1.tak.fo (by decide) (by decide), own2 h1.tak.wo (by decide) (by decide), own2 h1.tak.co (by decide) (by decide), hS2, h.tak.lo, h.tak.lm⟩, hC.same1 u,
    hown.kept (grown_set _ _ _ _) (.inr fun e => own_far hown hC (by decide) e), hN.other (by dsimp only; exact cbn _ _ _ _ hN (by decide)) _, h.lf, h.lc, h.ln, h.ld⟩, (KpS.of_below h.rooted hb h.size).trans ⟨⟨hgrow.os, hgrow.tape, hgrow.output, by simp [World.setCell]; exact hsz, fun k hk => ?_, fun k hk => ?_, fun k o hm _ _ ho => ?_⟩, fun k o hl ho => ?_⟩⟩
  · refine (Below.heap_setCell _ _ _ _ (by dsimp only; have := h.lc; omega)).trans (hgrow.block k (by have := h1.size; omega) fun e => ?_)
    have := (own_obj h1.own e.symm).1
    have := h.ld
    omega
  · rcases hk with hk | ⟨g, cs, t, fr, v, hg, hh, hv, hvk⟩
    · exact .inl (.inl hk)
    · by_cases e : g = CB
      · subst e
        obtain ⟨rfl, _⟩ := cells_inj (hC.same1 u) hh
        obtain rfl : v = u := by simpa using hv
        rcases hvk with hvk | hvk
        · rcases hat k hvk with e | e
          · exact .inl (hq k e)
          · exact .inr e
        · exact absurd hvk (own_notmap hown _)
      · rw [Below.heap_setCell _ _ _ _ (by dsimp only; exact e)] at hh
        have hx : W1.heap[g]? = some (.cells cs t fr) := by
          rcases hg with rfl | rfl | rfl
          · exact (hgrow.block _ h1.tak.row.lt (ne _ _ _ _ h1.tak.row (by decide))).symm.trans hh
          · exact absurd rfl e
          · exact (hgrow.block _ h1.nb.lt (ne _ _ _ _ h1.nb (by decide))).symm.trans hh
        exact .inl (.inr ⟨g, cs, t, fr, v, hg, hx, hv, hvk⟩)
  · exact (Below.heap_setCell _ _ _ _ (by dsimp only; exact fun e => hm (.inl (.inr (.inl e))))).trans ((hgrow.block k (Array.getElem?_eq_some_iff.1 ho).1 fun e => hm (hq k e.symm)).trans ho)
  · have hnc : ∀ c e fr, o ≠ .cells c e fr := by
      rintro c e fr rfl
      rcases hl with ⟨_, hl⟩ | ⟨_, hl⟩ <;> cases hl
    refine (Below.heap_setCell _ _ _ _ (by
      dsimp only
      rintro rfl
      rw [h1.cb] at ho
      exact hnc _ _ _ (by simpa using ho.symm))).trans ((hgrow.block k (Array.getElem?_eq_some_iff.1 ho).1 fun e => ?_).trans ho)
    obtain ⟨_, c', h2⟩ := own_obj h1.own e.symm
    rw [h2] at ho
    exact hnc _ _ _ (by simpa using ho.symm)
/-- the count set -/
theorem TkM.next (h : TkM B D T M CB NB fm s vf vw vc cmd W) (n : Nat) : TkM B D T M CB NB fm (s.1, s.2.1, n) vf vw vc cmd (W.setCell ⟨NB, 0, none⟩ (.int .i64 (n : Nat))) ∧ KpS B (rootsK T CB NB) W (W.setCell ⟨NB, 0, none⟩ (.int .i64 (n : Nat))) := by
  have cbn : ∀ (k : Nat) (c : Array Value) (e : TypeId) (fr : Nat × Nat), W.heap[k]? = some (.cells c e fr) → e ≠ 3 → k ≠ NB := fun k c e fr hk he e2 => by
    subst e2
    obtain ⟨_, rfl, _⟩ := cells_inj hk h.nb
    exact he rfl
  have own2 : ∀ {e : TypeId} {b size n' : Nat} {v : Value} {xs : List Value}, W.ownsRow b e size v n' xs → e ≠ 3 → (W.setCell ⟨NB, 0, none⟩ (.int .i64 (n : Nat))).ownsRow b e size v n' xs := fun ho he =>
    ho.kept (grown_set _ _ _ _) (.inr fun e => own_far ho h.nb he e)
  exact ⟨⟨⟨h.tak.row.other (by dsimp only; exact cbn _ _ _ _ h.tak.row (by decide)) _, own2 h.tak.fo (by decide), own2 h.tak.wo (by decide), own2 h.tak.co (by decide), h.tak.set.kept (grown_set _ _ _ _) (by simp; exact setM_row h.tak.set h.nb), h.tak.lo, h.tak.lm⟩,
    h.cb.other (by dsimp only; exact cbn _ _ _ _ h.cb (by decide)) _, own2 h.own (by decide), h.nb.same1 _, h.lf, h.lc, h.ln, h.ld⟩, KpS.store (.inr (.inr rfl)) h.nb h.ln (by simp [Value.ownBlock])⟩
theorem TkM.turn {D0 : Nat} (h : TkM B D T M CB NB fm s vf vw vc cmd W) (ht : Turn (okCall (· = 3)) D0 W W') (hT : T < D0) (hM : M < D0) (hC : CB < D0) (hN : NB < D0) : TkM B D T M CB NB fm s vf vw vc cmd W' := by
  have no : ∀ e : TypeId, e ≠ 3 → ∀ c, ¬ okCall (· = 3) (.cells c e (0, 0)) := by
    rintro e he c (h | ⟨_, _, _, h, h2⟩)
    · simp [Obj.isCells] at h
    · cases h; exact he h2
  exact ⟨⟨h.tak.row.turn ht (.inl hT), own_turn h.tak.fo ht (no _ (by decide)), own_turn h.tak.wo ht (no _ (by decide)), own_turn h.tak.co ht (no _ (by decide)), h.tak.set.same fun o ho => ht.block _ _ ho (.inl hM), h.tak.lo, h.tak.lm⟩,
    h.cb.turn ht (.inl hC), own_turn h.own ht (no _ (by decide)), h.nb.turn ht (.inl hN), h.lf, h.lc, h.ln, h.ld⟩
end
/-- between two rounds -/
def TkI (B T M CB NB : Nat) (fm : Value) (w : World) (f : RunD → PieceD → RunD ⊕ ErrD) (s0 : RunD) (ps : List PieceD) (pre : List PieceI) (W : World) : Prop :=
  ∃ s vf vw vc cmd, runR f s0 (ps.take pre.length) = .inl s ∧ TkM B w.heap.size T M CB NB fm s vf vw vc cmd W ∧ KpS B (rootsK T CB NB) w W
theorem TkI.stable {B T M CB NB : Nat} {fm : Value} {w : World} {f : RunD → PieceD → RunD ⊕ ErrD} {s0 : RunD} {ps : List PieceD} (hR : Rooted (rootsK T CB NB) w) (hM : M < w.heap.size) (hB : B ≤ w.heap.size) : Stable (okCall (· = 3)) w.heap.size (TkI B T M CB NB fm w f s0 ps) := by
  rintro pre A A' ⟨s, vf, vw, vc, cmd, hr, hm, hk⟩ ht
  exact ⟨s, vf, vw, vc, cmd, hr, hm.turn ht (hR _ (.inl rfl)) hM (hR _ (.inr (.inl rfl))) (hR _ (.inr (.inr rfl))), hk.turn ht hR (Nat.le_refl _) hB⟩
theorem TkI.hands {B T M CB NB : Nat} {fm : Value} {w W : World} {f : RunD → PieceD → RunD ⊕ ErrD} {s0 : RunD} {ps : List PieceD} {pre : List PieceI} (h : TkI B T M CB NB fm w f s0 ps pre W) : Rooted (rootsK T CB NB) W ∧ ∀ k, mineR (rootsK T CB NB) W k → k < W.heap.size := by
  obtain ⟨s, vf, vw, vc, cmd, _, hm, _⟩ := h
  exact ⟨hm.rooted, fun k hk => hm.mine_lt hk⟩
/-- what take leaves, from what its rounds leave -/
theorem KpT.of_rounds {B D D' T M CB NB : Nat} {fm : Value} {s s' : RunD} {vf vw vc vf' vw' vc' cmd : Value} {w W0 W : World} (hk : KpT B T w W0) (hs : KpS B (rootsK T CB NB) W0 W) (h0 : TkM B D T M CB NB fm s vf vw vc (.slice none 0 0) W0) (h : TkM B D' T M CB NB fm s' vf' vw' vc' cmd W)
    (hC : w.heap.size ≤ CB) (hN : w.heap.size ≤ NB) : KpT B T w W := by
  refine ⟨hs.1.os.trans hk.os, hs.1.tape.trans hk.tape, hs.1.output.trans hk.output, Nat.le_trans hk.size hs.1.size, fun k hl => (hs.1.low k hl).trans (hk.low k hl), fun cs hr => ?_⟩
  obtain ⟨c1, r1, o1, f1⟩ := hk.row cs hr
  obtain ⟨rfl, _⟩ := cells_inj r1 h0.tak.row
  have key : ∀ k, mineR (rootsK T CB NB) W0 k → mineC T cs k ∨ w.heap.size ≤ k := fun k hm => by
    rcases h0.mine hm with h1 | ⟨_, _, _, _, rfl | rfl | h1⟩
    · exact o1 k h1
    · exact .inr hC
    · exact .inr hN
    · cases h1
  refine ⟨_, h.tak.row, fun k hm => ?_, fun k o hn ho => ?_⟩
  · have hm2 : mineR (rootsK T CB NB) W k := by
      rcases hm with rfl | ⟨v, hv, hvk⟩
      · exact .inl (.inl rfl)
      · exact .inr ⟨T, _, _, _, v, .inl rfl, h.tak.row, hv, hvk⟩
    rcases hs.1.mine k hm2 with e | e
    · exact key k e
    · exact .inr (Nat.le_trans hk.size e)
  · have hlt := (Array.getElem?_eq_some_iff.1 ho).1
    have h2 := f1 k o hn ho
    by_cases hl : (∃ r, o = .loop r) ∨ ∃ d, o = .deferred d
    · exact hs.2 k o hl h2
    · refine hs.1.keep k o (fun hm => ?_) (fun r e => hl (.inl ⟨r, e⟩)) (fun d e => hl (.inr ⟨d, e⟩)) h2
      rcases key k hm with e | e
      · exact hn e
      · omega
end Go.Proofs.Ytignhjfobcnloaa
