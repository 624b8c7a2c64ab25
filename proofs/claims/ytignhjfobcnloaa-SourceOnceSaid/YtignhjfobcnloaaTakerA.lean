/- What hangs on the taker, and what is kept beside it. The taker's method include, over a contract of take. The taker while its set of names is ahead of its files. -/
import Derived.Test.YtignhjfobcnloaaSrcTaker2
import Derived.Test.YtignhjfobcnloaaSrcPlain2
import Derived.Test.YtignhjfobcnloaaStripA
section
namespace Go.Proofs.Ytignhjfobcnloaa
open Go.RowKit
theorem cells_inj {W : World} {g : Nat} {c c' : Array Value} {t t' : TypeId} {fr fr' : Nat × Nat} (h : W.heap[g]? = some (.cells c t fr)) (k : W.heap[g]? = some (.cells c' t' fr')) : c = c' ∧ t = t' ∧ fr = fr' := by
  have := h.symm.trans k
  simpa using this
theorem own_obj {w : World} {base : Nat} {e : TypeId} {size n k : Nat} {v : Value} {xs : List Value} (h : w.ownsRow base e size v n xs) (hk : v.ownBlock = some k) : base ≤ k ∧ ∃ c, w.heap[k]? = some (.cells c e (0, 0)) := by
  rcases h.2 with ⟨rfl, _⟩ | ⟨g, cap, cur, rfl, hg, hh, _⟩
  · cases hk
  · obtain rfl : g = k := by simpa [Value.ownBlock] using hk
    exact ⟨hg, _, hh⟩
theorem own_notmap {w : World} {base : Nat} {e : TypeId} {size n : Nat} {v : Value} {xs : List Value} (h : w.ownsRow base e size v n xs) (b : Option Nat) : v ≠ .map b := by
  rcases h.2 with ⟨rfl, _⟩ | ⟨g, cap, cur, rfl, hg, hh, _⟩ <;> simp
/-- a row of the call's own whose block stays -/
theorem own_same {w w' : World} {base : Nat} {e : TypeId} {size n : Nat} {v : Value} {xs : List Value} (h : w.ownsRow base e size v n xs) (hs : ∀ k o, v.ownBlock = some k → w.heap[k]? = some o → w'.heap[k]? = some o) : w'.ownsRow base e size v n xs := by
  refine ⟨h.1, ?_⟩
  rcases h.2 with hn | ⟨g, cap, cur, rfl, hg, hh, r⟩
  · exact .inl hn
  · exact .inr ⟨g, cap, cur, rfl, hg, hs g _ rfl hh, r⟩
theorem SetM.obj {w : World} {b : Nat} {l : List (List UInt8)} (h : SetM w b l) : ∃ es c, w.heap[b]? = some (.map es c) := by
  obtain ⟨m, _, es, clock, ho, _⟩ := h
  exact ⟨_, _, ho⟩
theorem SetM.same {w w' : World} {b : Nat} {l : List (List UInt8)} (h : SetM w b l) (hs : ∀ o, w.heap[b]? = some o → w'.heap[b]? = some o) : SetM w' b l := by
  obtain ⟨m, h1, es, clock, ho, h2⟩ := h
  exact ⟨m, h1, es, clock, hs _ ho, h2⟩
/-- the types of what hangs on a taker -/
def takT (e : TypeId) : Prop := e = 136 ∨ e = 9 ∨ e = 95 ∨ e = 91
/-- what hangs on the taker T -/
theorem TakAt.mine_obj {B : Nat} {w : World} {T M : Nat} {fm : Value} {x : RdS} {vf vw vc : Value} (h : TakAt B w T M fm x vf vw vc) (hF : ∀ k, fm.ownBlock = some k ∨ fm = .map (some k) → k < B) {k : Nat}
    (hk : mineC T #[fm, .map (some M), vf, vw, vc, .int .i64 x.depth] k) : k < B ∨ B ≤ k ∧ ((∃ c e, w.heap[k]? = some (.cells c e (0, 0)) ∧ takT e) ∨ k = M) := by
  rcases hk with rfl | ⟨v, hv, hk⟩
  · exact .inr ⟨h.lo, .inl ⟨_, _, h.row, .inl rfl⟩⟩
  · simp only [List.mem_cons, List.not_mem_nil, or_false] at hv
    rcases hv with rfl | rfl | rfl | rfl | rfl | rfl
    · exact .inl (hF k hk)
    · rcases hk with hk | hk
      · cases hk
      · obtain rfl : M = k := by simpa using hk
        exact .inr ⟨h.lm, .inr rfl⟩
    · rcases hk with hk | hk
      · obtain ⟨h1, c, h2⟩ := own_obj h.fo hk
        exact .inr ⟨h1, .inl ⟨c, _, h2, .inr (.inl rfl)⟩⟩
      · exact absurd hk (own_notmap h.fo _)
    · rcases hk with hk | hk
      · obtain ⟨h1, c, h2⟩ := own_obj h.wo hk
        exact .inr ⟨h1, .inl ⟨c, _, h2, .inr (.inr (.inl rfl))⟩⟩
      · exact absurd hk (own_notmap h.wo _)
    · rcases hk with hk | hk
      · obtain ⟨h1, c, h2⟩ := own_obj h.co hk
        exact .inr ⟨h1, .inl ⟨c, _, h2, .inr (.inr (.inr rfl))⟩⟩
      · exact absurd hk (own_notmap h.co _)
    · rcases hk with hk | hk <;> cases hk
/-- a block of cells of another type does not hang on the taker -/
theorem TakAt.not_mine {B T M : Nat} {W : World} {fm vf vw vc : Value} {x : RdS} (h : TakAt B W T M fm x vf vw vc) (lf : ∀ k, fm.ownBlock = some k ∨ fm = .map (some k) → k < B) {k : Nat} {c : Array Value} {e : TypeId} {fr : Nat × Nat} (h0 : B ≤ k) (hk : W.heap[k]? = some (.cells c e fr)) (he : ¬ takT e) : ¬ mineC T #[fm, .map (some M), vf, vw, vc, .int .i64 x.depth] k := by
  intro hm
  rcases h.mine_obj lf hm with h1 | ⟨_, ⟨c', e', h1, h2⟩ | rfl⟩
  · omega
  · obtain ⟨_, rfl, _⟩ := cells_inj hk h1
    exact he h2
  · obtain ⟨es, cl, h1⟩ := h.set.obj
    rw [hk] at h1
    cases h1
theorem takT_box : ¬ takT 80 := by unfold takT; decide
theorem takT_int : ¬ takT 3 := by unfold takT; decide
theorem takT_tok : ¬ takT 86 := by unfold takT; decide
/-- whatever is no cells stays, but for the set -/
def KeepN (M : Nat) (W W' : World) : Prop := W.heap.size ≤ W'.heap.size ∧ ∀ (k : Nat) (o : Obj), k ≠ M → W.heap[k]? = some o → o.isCells = false → W'.heap[k]? = some o
theorem KeepN.refl {M : Nat} (W : World) : KeepN M W W := ⟨Nat.le_refl _, fun _ _ _ h _ => h⟩
theorem KeepN.trans {M : Nat} {A B C : World} (h : KeepN M A B) (k : KeepN M B C) : KeepN M A C := ⟨Nat.le_trans h.1 k.1, fun i o hi ho hc => k.2 i o hi (h.2 i o hi ho hc) hc⟩
theorem KeepN.below {M : Nat} {W W' : World} (hb : Below W.heap.size W W') : KeepN M W W' := ⟨hb.size, fun k _ _ ho _ => (hb.block k (Array.getElem?_eq_some_iff.1 ho).1).trans ho⟩
theorem KeepN.taker {B T M : Nat} {W W' : World} {fm vf vw vc : Value} {x : RdS} (h : TakAt B W T M fm x vf vw vc) (lf : ∀ k, fm.ownBlock = some k ∨ fm = .map (some k) → k < B) (hk : KpT B T W W') : KeepN M W W' := by
  obtain ⟨c1, _, _, f1⟩ := hk.row _ h.row
  refine ⟨hk.size, fun k o hM ho hc => ?_⟩
  by_cases hm : mineC T #[fm, .map (some M), vf, vw, vc, .int .i64 x.depth] k
  · rcases h.mine_obj lf hm with h1 | ⟨_, ⟨c', e', h1, h2⟩ | rfl⟩
    · exact (hk.low k h1).trans ho
    · rw [ho] at h1
      cases h1
      simp [Obj.isCells] at hc
    · exact absurd rfl hM
  · exact f1 k o hm ho
end Go.Proofs.Ytignhjfobcnloaa
end
section
namespace Go.Proofs.Ytignhjfobcnloaa
open Go.RowKit
/-- the map value fm reads as the files fs; its block lies below B -/
structure FilesAt (B : Nat) (w : World) (fm : Value) (fs : List UInt8 → Option (List UInt8)) : Prop where
  low : ∀ b, fm = .map (some b) → b < B
  own : fm.ownBlock = none
  look : ∀ w', (∀ k, k < B → w'.heap[k]? = w.heap[k]?) → ∀ s : List UInt8, s.length ≤ maxLen →
    (Instr.lookup 70 fm (.string ⟨s.toArray⟩) true).run Try.prog w' = .ok (.tuple #[.string ⟨((fs s).getD []).toArray⟩, .bool (fs s).isSome]) w' ∧
    (Instr.lookup 70 fm (.string ⟨s.toArray⟩) false).run Try.prog w' = .ok (.string ⟨((fs s).getD []).toArray⟩) w'
  size : ∀ s t, fs s = some t → t.length ≤ maxLen
  mx : ∀ w', (∀ k, k < B → w'.heap[k]? = w.heap[k]?) → MaxAt w'
theorem FilesAt.below {B : Nat} {w w' : World} {fm : Value} {fs : List UInt8 → Option (List UInt8)} (h : FilesAt B w fm fs) (hb : Below B w w') : FilesAt B w' fm fs :=
  ⟨h.low, h.own, fun w2 h2 s hs => h.look w2 (fun k hk => (h2 k hk).trans (hb.block k hk)) s hs, h.size, fun w2 h2 => h.mx w2 fun k hk => (h2 k hk).trans (hb.block k hk)⟩
theorem FilesAt.lf {B : Nat} {w : World} {fm : Value} {fs : List UInt8 → Option (List UInt8)} (h : FilesAt B w fm fs) : ∀ k, fm.ownBlock = some k ∨ fm = .map (some k) → k < B := fun k hk => by
  rcases hk with hk | hk
  · rw [h.own] at hk; cases hk
  · exact h.low k hk
/-- what take and include leave -/
def TakePost (B T M : Nat) (fm : Value) (w : World) (r : RdS ⊕ ErrD) (e : Ending) (w' : World) : Prop := match r with
  | .inl y => e = .returned (.tuple #[]) ∧ ∃ vf vw vc, TakAt B w' T M fm y vf vw vc ∧ KpT B T w w'
  | .inr x => e = .panicked (foundP x) ∧ Below B w w' ∧ KeepN M w w'
/-- take's contract at some fuel -/
def TakeOk (f : Nat) (B : Nat) (fm : Value) (fs : List UInt8 → Option (List UInt8)) : Prop :=
  ∀ (w : World) (T M : Nat) (x : RdS) (vf vw vc : Value) (name : List UInt8), FilesAt B w fm fs → TakAt B w T M fm x vf vw vc → OkR x → x.coms.length ≤ 8000 * x.files.length → name.length ≤ maxLen → name ∉ x.files → (fs name).isSome = true → x.files.length < 40 → 41 ≤ f + x.files.length →
    Calls Try.prog 63 #[.pointer (some ⟨T, 0, none⟩), .string ⟨name.toArray⟩] w (TakePost B T M fm w (takeS fs f x name))
set_option maxRecDepth 100000 in
set_option maxHeartbeats 4000000 in
theorem include_any {f B : Nat} {fm : Value} {fs : List UInt8 → Option (List UInt8)} (TK : TakeOk f B fm fs) (w : World) (T M NB : Nat) (x : RdS) (vf vw vc cv : Value) (name : List UInt8) (a b c : TokD)
    (hF : FilesAt B w fm fs) (h : TakAt B w T M fm x vf vw vc) (ok : OkR x) (hco : x.coms.length ≤ 8000 * x.files.length) (hN : Row w NB 9 #[.string ⟨name.toArray⟩]) (hc : Rds w 2 cv 3 ([a, b, c].flatMap tokCells)) (hb : b.1.length ≤ maxLen) (hfu : 41 ≤ f + x.files.length) :
    Calls Try.prog 92 #[.pointer (some ⟨T, 0, none⟩), cv, .func (.func 90) #[] #[.pointer (some ⟨NB, 0, none⟩)]] w (TakePost B T M fm w (incS fs name (takeS fs f) x a b)) := by
  obtain ⟨A, cc, rfl, hcc, _, hx⟩ := ToksAt.open_ (l := [a, b, c]) hc
  obtain ⟨cb, co, rfl, a0, a1⟩ := hx 0 a rfl
  obtain ⟨cb', co', e0, b0, b1⟩ := hx 1 b rfl
  obtain ⟨rfl, rfl⟩ := (by simpa using e0 : cb = cb' ∧ co = co')
  obtain ⟨fA, fc, rfl, hfc⟩ := own_form h.fo
  have hlf := ok.fl
  have c0 := h.row.cell (i := 0) (v := fm) rfl
  have c1 := h.row.cell (i := 1) (v := .map (some M)) rfl
  have c2 := h.row.cell (i := 2) (v := .slice fA x.files.length fc) rfl
  have l1 := h.set.look b.1 hb
  have l2 := (hF.look w (fun _ _ => rfl) b.1 hb).1
  have cn := hN.cell (i := 0) (v := .string ⟨name.toArray⟩) rfl
  have HT := Lib.hid h
  have HF := Lib.hid hF
  have HTK := Lib.hid TK
  have HOK := Lib.hid ok
  have a00 : w.cell? ⟨cb, co, none⟩ = some (.string ⟨a.1.toArray⟩) := by simpa using a0
  have a01 : w.cell? ⟨cb, co + 1, none⟩ = some (.int .i64 (a.2 : Nat)) := by simpa using a1
  have b00 : w.cell? ⟨cb, co + 2, none⟩ = some (.string ⟨b.1.toArray⟩) := by simpa using b0
  have b01 : w.cell? ⟨cb, co + 2 + 1, none⟩ = some (.int .i64 (b.2 : Nat)) := by simpa using b1
  clear hx e0 a0 a1 b0 b1 hF TK hc hN h
  by_cases hm : b.1 ∈ x.files
  · have e1 : decide (b.1 ∈ x.files) = true := decide_eq_true hm
    rw [e1] at l1
    have HR : Hid (incS fs name (takeS fs f) x a b = .inl x) := Lib.hid (by unfold incS; rw [if_pos hm])
    clear hm
    go_enter Try.func92, Try.ntmps92
    go_wp2
    go_end0
    rw [HR.out]
    exact ⟨rfl, _, _, _, HT.out, KpT.refl _⟩
  · have e1 : decide (b.1 ∈ x.files) = false := decide_eq_false hm
    rw [e1] at l1
    cases hfs : fs b.1 with
    | none =>
      have HR : Hid (incS fs name (takeS fs f) x a b = .inr (name, b.2, 44)) := Lib.hid (by unfold incS; rw [if_neg hm, hfs])
      rw [hfs] at l2
      clear hm hfs
      go_enter Try.func92, Try.ntmps92
      go_wp2_with (go_at_call 90; (refine (fail_any _ NB name _ _ cn).mono ?_; rintro e w1 ⟨rfl, rfl⟩))
      rw [HR.out]
      exact ⟨rfl, rfl, Below.refl _ _, KeepN.refl _⟩
    | some text =>
      rw [hfs] at l2
      by_cases h40 : 40 ≤ x.files.length
      · have e3 : decide ((40 : Int) ≤ (x.files.length : Int)) = true := decide_eq_true (by omega)
        have HR : Hid (incS fs name (takeS fs f) x a b = .inr (name, a.2, 8)) := Lib.hid (by unfold incS; rw [if_neg hm, hfs]; simp only [if_pos h40])
        clear hm hfs
        go_enter Try.func92, Try.ntmps92
        go_wp2_with (go_at_call 90; (refine (fail_any _ NB name _ _ cn).mono ?_; rintro e w1 ⟨rfl, rfl⟩))
        rw [HR.out]
        exact ⟨rfl, rfl, Below.refl _ _, KeepN.refl _⟩
      · have e3 : decide ((40 : Int) ≤ (x.files.length : Int)) = false := decide_eq_false (by omega)
        have HTK2 := Lib.hid (HTK.out w T M x _ _ _ b.1 HF.out HT.out HOK.out hco hb hm (by rw [hfs]; rfl) (by omega) hfu)
        have hts := HF.out.size _ _ hfs
        unfold maxLen at hts
        have HMO : Hid (∀ y, takeS fs f x b.1 = .inl y → OkR y) := Lib.hid (fun y hy => (takeS_more fs f x y b.1 hy).1 (by omega) HOK.out)
        cases htk : takeS fs f x b.1 with
        | inr er =>
          have HR : Hid (incS fs name (takeS fs f) x a b = .inr er) := Lib.hid (by unfold incS; rw [if_neg hm, hfs]; simp only [if_neg h40, htk])
          rw [htk] at HTK2
          clear hm hfs htk
          go_enter Try.func92, Try.ntmps92
          go_wp2_with (go_at_call 63; (refine HTK2.out.mono ?_; rintro e w1 ⟨rfl, hb1, hkn⟩))
          rw [HR.out]
          exact ⟨rfl, rfl, hb1, hkn⟩
        | inl y =>
          have HYO := Lib.hid (HMO.out y htk)
          rw [htk] at HTK2
          obtain ⟨bt, hbt⟩ : ∃ bt, betweenS y = bt := ⟨_, rfl⟩
          have HR : Hid (incS fs name (takeS fs f) x a b = if bt then .inl y else .inr (b.1, text.length, 43)) := Lib.hid (by unfold incS; rw [if_neg hm, hfs]; simp only [if_neg h40, htk, hbt])
          have HBT := Lib.hid hbt
          clear hm hfs htk hbt
          cases bt
          all_goals
            go_enter Try.func92, Try.ntmps92
            go_wp2_with (first
              | (go_at_call 63; (refine HTK2.out.mono ?_; rintro e w1 ⟨rfl, vf1, vw1, vc1, ht1, hk1⟩; have HT1 := Lib.hid ht1; have HK1 := Lib.hid hk1; clear ht1 hk1))
              | (go_at_call 93; (refine (between_any _ _ _ _ _ _ _ _ y HT1.out HYO.out.wl (by have := HYO.out.wl; have := HYO.out.dl; omega)).mono ?_; rw [HBT.out]; rintro e w2 ⟨rfl, rfl⟩)))
            first
              | (go_end0; rw [HR.out]; exact ⟨rfl, _, _, _, HT1.out, HK1.out⟩)
              | (rw [HR.out]; exact ⟨rfl, rfl, HK1.out.below_of, KeepN.taker HT.out HF.out.lf HK1.out⟩)
end Go.Proofs.Ytignhjfobcnloaa
end
section
namespace Go.Proofs.Ytignhjfobcnloaa
open Go.RowKit
/-- as TakAt, the set of names apart -/
structure TakAtS (B : Nat) (w : World) (T M : Nat) (fm : Value) (x : RdS) (S : List (List UInt8)) (vf vw vc : Value) : Prop where
  row : Row w T 136 #[fm, .map (some M), vf, vw, vc, .int .i64 x.depth]
  fo : w.ownsRow B 9 1 vf x.files.length (x.files.map strV)
  wo : w.ownsRow B 95 3 vw x.words.length (x.words.flatMap wordCells)
  co : w.ownsRow B 91 4 vc x.coms.length (x.coms.flatMap comfCells)
  set : SetM w M S
  lo : B ≤ T
  lm : B ≤ M
theorem TakAtS.below {B : Nat} {w w' : World} {T M : Nat} {fm : Value} {x : RdS} {S : List (List UInt8)} {vf vw vc : Value} (h : TakAtS B w T M fm x S vf vw vc) (hb : Below w.heap.size w w') : TakAtS B w' T M fm x S vf vw vc :=
  ⟨h.row.below hb h.row.lt, own_below h.fo hb, own_below h.wo hb, own_below h.co hb, h.set.below hb, h.lo, h.lm⟩
theorem tak_putS {B : Nat} {W W1 w1 : World} {T M : Nat} {fm vf vw vc v u : Value} {x : RdS} {e : TypeId} {size n i : Nat} {xs : List Value} {S : List (List UInt8)} (h : TakAtS B W T M fm x S vf vw vc) (hb : Below W.heap.size W W1) (ho : W.ownsRow B e size v n xs) (het : e ≠ 136)
    (hv : v ∈ [vf, vw, vc]) (hgrow : W1.grownBy w1 v.ownBlock) (hu : ∀ k, u.ownBlock = some k → v.ownBlock = some k ∨ k = W1.heap.size) (hum : ∀ k, u ≠ .map k) :
    TakPut B W (w1.setCell ⟨T, i, none⟩ u) T (#[fm, .map (some M), vf, vw, vc, .int .i64 x.depth].setIfInBounds i u) e M S w1 u := by
  have h1 := h.below hb
  have ho1 := own_below ho hb
  have hT1 : some T ≠ v.ownBlock := fun e => own_far ho1 h1.row het e.symm
  have hr1 := h1.row.grown hgrow hT1
  have hz : B ≤ W1.heap.size := Nat.le_trans h1.lo (Nat.le_of_lt h1.row.lt)
  have hmem : v ∈ (#[fm, .map (some M), vf, vw, vc, .int .i64 x.depth] : Array Value).toList := by
    simp at hv ⊢
    rcases hv with rfl | rfl | rfl <;> simp
  have hG : KpT B T W1 w1 := by
    cases hq : v.ownBlock with
    | none => rw [hq] at hgrow; exact ⟨hgrow.os, hgrow.tape, hgrow.output, hgrow.size, fun k hk => hgrow.block k (by omega) (by simp), fun cs hr => ⟨cs, hr.grown hgrow (by simp), fun _ h => .inl h, fun k o _ ho => (hgrow.block k (Array.getElem?_eq_some_iff.1 ho).1 (by simp)).trans ho⟩⟩
    | some q =>
      rw [hq] at hgrow
      exact KpT.grown hgrow h1.row (.inr ⟨v, hmem, .inl hq⟩) (fun e => hT1 (by rw [hq, e])) ((ho1.lt q hq).1) hz
  have hS : KpT B T w1 (w1.setCell ⟨T, i, none⟩ u) ∨ True := .inr trivial
  refine ⟨hr1.set i u, ?_, fun e' s n' v' xs' h' hne hnt => ?_, fun s n' xs' h' => ?_, ?_⟩
  · -- the store says where the new slice lies: in the old one's block, or in a new one
    have hK1 : KpT B T W W1 := KpT.of_below hb (Nat.le_trans h.lo (Nat.le_of_lt h.row.lt))
    refine hK1.trans ⟨hgrow.os, hgrow.tape, hgrow.output, by have := hgrow.size; simp [World.setCell]; exact this, fun k hk => (Below.heap_setCell _ _ _ _ (by dsimp only; have := h.lo; omega)).trans (hG.low k hk), fun cs hr => ?_⟩
    obtain ⟨c1, r1, o1, f1⟩ := hG.row cs hr
    obtain rfl : c1 = #[fm, .map (some M), vf, vw, vc, .int .i64 x.depth] := by have := r1.symm.trans hr1; simpa using this
    obtain rfl : cs = #[fm, .map (some M), vf, vw, vc, .int .i64 x.depth] := by have := hr.symm.trans h1.row; simpa using this
    refine ⟨_, hr1.set i u, fun k hk => ?_, fun k o hk ho => (Below.heap_setCell _ _ _ _ (by dsimp only; exact fun e => hk (.inl e))).trans (f1 k o hk ho)⟩
    rcases hk with rfl | ⟨y, hy, hyk⟩
    · exact .inl (.inl rfl)
    · rw [Array.toList_setIfInBounds] at hy
      rcases List.mem_or_eq_of_mem_set hy with hy | rfl
      · exact .inl (.inr ⟨y, hy, hyk⟩)
      · rcases hyk with hyk | hyk
        · rcases hu k hyk with e | e
          · exact .inl (.inr ⟨v, hmem, .inl e⟩)
          · exact .inr (by omega)
        · exact absurd hyk (hum _)
  · have hk := (own_below h' hb).kept hgrow (own_two (own_below h' hb) ho1 hne)
    exact hk.kept (grown_set _ _ _ _) (.inr fun e => own_far hk hr1 hnt e)
  · exact h'.kept (grown_set _ _ _ _) (.inr fun e => own_far h' hr1 het e)
  · exact ((h.set.below hb).kept hgrow (setM_far (h.set.below hb) ho1)).kept (grown_set _ _ _ _) (by simp; exact setM_row ((h.set.below hb).kept hgrow (setM_far (h.set.below hb) ho1)) hr1)
/-- a name laid into the set -/
theorem tak_name {B : Nat} {W W2 : World} {T M : Nat} {fm vf vw vc : Value} {x : RdS} {S : List (List UInt8)} (h : TakAt B W T M fm x vf vw vc) (hg : W.grownBy W2 (some M)) (hs : SetM W2 M S) : TakAtS B W2 T M fm x S vf vw vc ∧ KpT B T W W2 :=
  ⟨⟨h.row.grown hg (by simp; exact fun e => setM_row h.set h.row e.symm), h.fo.kept hg (.inr fun e => setM_far h.set h.fo e.symm), h.wo.kept hg (.inr fun e => setM_far h.set h.wo e.symm), h.co.kept hg (.inr fun e => setM_far h.set h.co e.symm), hs, h.lo, h.lm⟩,
    KpT.grown hg h.row (.inr ⟨.map (some M), by simp, .inr rfl⟩) (setM_row h.set h.row) h.lm (Nat.le_trans h.lo (Nat.le_of_lt h.row.lt))⟩
/-- its name appended -/
theorem tak_fileS {B : Nat} {W W1 w1 : World} {T M : Nat} {fm vf vw vc : Value} {x : RdS} {y : List UInt8} {g cap : Nat} (h : TakAtS B W T M fm x (x.files ++ [y]) vf vw vc) (hb : Below W.heap.size W W1) (hgrow : W1.grownBy w1 vf.ownBlock)
    (hown : w1.ownsRow B 9 1 (.slice (some ⟨g, 0, none⟩) (x.files.length + 1) cap) (x.files.length + 1) (x.files.map strV ++ [strV y])) (hat : vf.ownBlock = some g ∨ g = W1.heap.size) :
    TakAt B (w1.setCell ⟨T, 2, none⟩ (.slice (some ⟨g, 0, none⟩) (x.files.length + 1) cap)) T M fm { x with files := x.files ++ [y] } (.slice (some ⟨g, 0, none⟩) (x.files.length + 1) cap) vw vc ∧ KpT B T W (w1.setCell ⟨T, 2, none⟩ (.slice (some ⟨g, 0, none⟩) (x.files.length + 1) cap)) := by
  have P := tak_putS (i := 2) (u := .slice (some ⟨g, 0, none⟩) (x.files.length + 1) cap) h hb h.fo (by decide) (by simp) hgrow (fun k hk => by
    obtain rfl : g = k := by simpa [Value.ownBlock] using hk
    exact hat) (by simp)
  exact ⟨⟨P.row, by rw [List.map_append, List.length_append]; exact P.own _ _ _ hown, P.others _ _ _ _ _ h.wo (by decide) (by decide), P.others _ _ _ _ _ h.co (by decide) (by decide), P.set, h.lo, h.lm⟩, P.kp⟩
end Go.Proofs.Ytignhjfobcnloaa
end
