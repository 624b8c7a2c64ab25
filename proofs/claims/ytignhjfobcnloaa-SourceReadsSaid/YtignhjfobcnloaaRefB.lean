/- The reference of Read: include, over a contract of take. The reference of Read: take. The reference of Read: all of it. -/
import Derived.Test.YtignhjfobcnloaaRefTake3
import Derived.Test.YtignhjfobcnloaaPlainB
import Derived.Deep.CutRange
section
namespace Go.Proofs.Ytignhjfobcnloaa
open Go.RowKit
/-- the reference's take at some fuel -/
def TakeR (f B : Nat) (fm : Value) (fs : List UInt8 → Option (List UInt8)) : Prop :=
  ∀ (w : World) (fv wv cv : Value) (x : RdS) (name : List UInt8), FilesAt B w fm fs → B ≤ w.heap.size → StR w fv wv cv x → OkR x → x.coms.length ≤ 8000 * x.files.length → name.length ≤ maxLen → x.files.length < 40 → 41 ≤ f + x.files.length →
    Calls Try.prog 64 #[sV fv wv cv x.depth noErr, fm, .string ⟨name.toArray⟩] w (IncRes w (takeS fs f x name))
def incEnd (rt : RdS ⊕ ErrD) (nm : List UInt8) (n : Nat) : RdS ⊕ ErrD := match rt with
  | .inr e => .inr e
  | .inl y => if betweenS y then .inl y else .inr (nm, (n : Int), 43)
theorem end_S {W w : World} {fn : Func} {p RB : Nat} {tmps : Array Value} {r : RdS ⊕ ErrD} {F WV CV : Value} {d : Int} {e : ErrD} {x' : RdS} {a0 a1 a2 a3 a4 a5 a6 : Value} (hres : fn.results = #[.cell p 143]) (hp : tmps.getD p undef = .pointer (some ⟨RB, 0, none⟩)) (hr : Row w RB 143 #[a0, a1, a2, a3, a4, a5, a6])
    (hst : StR w F WV CV x') (hb : Below W.heap.size W w) (hge : W.heap.size ≤ RB) (hm : match r with | .inl y => d = y.depth ∧ e = noErr ∧ x' = y | .inr er => e = er ∧ er.2.2 ≠ 0) :
    bodyPost Try.prog fn (IncRes W r) .ret { tmps := tmps, defers := [] } (setS w RB F WV CV d e) := by
  refine bodyPost_ret (v := sV F WV CV d e) ?_ ?_ ?_
  · exact results_cell_row hres tmps _ RB _ _ (0, 0) _ hp (setS_row hr) Try.underlying143 rfl (by kernel_rfl)
  · rfl
  · exact ⟨_, rfl, F, WV, CV, d, e, x', rfl, setS_st hst hr, setS_below hb hge, hm⟩
set_option maxRecDepth 100000 in
set_option maxHeartbeats 4000000 in
theorem ref_include {f B : Nat} {fm : Value} {fs : List UInt8 → Option (List UInt8)} (TK : TakeR f B fm fs) (w : World) (fv wv cv : Value) (x : RdS) (name : List UInt8) (a b : TokD) (hF : FilesAt B w fm fs) (hB : B ≤ w.heap.size) (h : StR w fv wv cv x) (ok : OkR x) (hco : x.coms.length ≤ 8000 * x.files.length) (hbl : b.1.length ≤ maxLen) (hfu : 41 ≤ f + x.files.length) :
    Calls Try.prog 100 #[sV fv wv cv x.depth noErr, fm, .string ⟨name.toArray⟩, .int .i64 (a.2 : Nat), .agg #[.string ⟨b.1.toArray⟩, .int .i64 (b.2 : Nat)]] w (IncRes w (incS fs name (takeS fs f) x a b)) := by
  obtain ⟨⟨A1, c1, rfl⟩, ⟨A2, c2, rfl⟩, A3, c3, rfl⟩ := h.form
  have hfl := ok.fl
  obtain ⟨W1, hW1⟩ : ∃ W1, W1 = ((w.alloc (.cells #[.slice A1 x.files.length c1, .slice A2 x.words.length c2, .slice A3 x.coms.length c3, .int .i64 x.depth, .string ⟨#[]⟩, .int .i64 0, .int .i64 0] 143)).alloc (.cells #[.string ⟨b.1.toArray⟩, .int .i64 (b.2 : Nat)] 86)).alloc (.cells #[.slice none 0 0, .slice none 0 0, .slice none 0 0, .int .i64 0, .string ⟨#[]⟩, .int .i64 0, .int .i64 0] 143) := ⟨_, rfl⟩
  have hb1 : Below w.heap.size w W1 := by rw [hW1]; exact new_ (new_ (new_ (Below.refl _ _) _) _) _
  have rX : Row W1 w.heap.size 143 #[.slice A1 x.files.length c1, .slice A2 x.words.length c2, .slice A3 x.coms.length c3, .int .i64 x.depth, .string ⟨#[]⟩, .int .i64 0, .int .i64 0] := by rw [hW1]; exact ((Row.new _ _ _).alloc _).alloc _
  have rT : Row W1 (w.heap.size + 1) 86 #[.string ⟨b.1.toArray⟩, .int .i64 (b.2 : Nat)] := by rw [hW1]; exact (Row.new' _ _ _ (by simp)).alloc _
  have rR : Row W1 (w.heap.size + 1 + 1) 143 #[.slice none 0 0, .slice none 0 0, .slice none 0 0, .int .i64 0, .string ⟨#[]⟩, .int .i64 0, .int .i64 0] := by rw [hW1]; exact Row.new' _ _ _ (by simp)
  have HB1 := Lib.hid hb1
  have HW1 := Lib.hid hW1
  have HX := Lib.hid rX
  have HT := Lib.hid rT
  have HR := Lib.hid rR
  have HH := Lib.hid h
  have HF := Lib.hid hF
  have HTK := Lib.hid TK
  clear hb1 hW1 rX rT rR h hF TK
  obtain ⟨bt, hbt⟩ : ∃ bt, decide (b.1 ∈ x.files) = bt := ⟨_, rfl⟩
  have HBT := Lib.hid hbt
  obtain ⟨r, hr⟩ : ∃ r, incS fs name (takeS fs f) x a b = r := ⟨_, rfl⟩
  rw [hr]
  have HRR := Lib.hid hr
  clear hr hbt
  unfold sV noErr
  go_enter Try.func100, Try.ntmps100
  go_wp2_with fail
  rw [← HW1.out]
  refine (ref_taken W1 (.slice A1 x.files.length c1) (.slice A2 x.words.length c2) (.slice A3 x.coms.length c3) x.depth noErr x.files b.1 (HH.out.fl.below HB1.out) (by omega)).mono ?_
  rw [HBT.out]
  rintro e w2 ⟨rfl, hb2⟩
  have rx2 := HX.out.below hb2 HX.out.lt
  have rt2 := HT.out.below hb2 HT.out.lt
  have rr2 := HR.out.below hb2 HR.out.lt
  have q0 := rx2.cell (i := 0) (v := .slice A1 x.files.length c1) rfl
  have q1 := rx2.cell (i := 1) (v := .slice A2 x.words.length c2) rfl
  have q2 := rx2.cell (i := 2) (v := .slice A3 x.coms.length c3) rfl
  have q3 := rx2.cell (i := 3) (v := .int .i64 x.depth) rfl
  have q4 := rx2.cell (i := 4) (v := .string ⟨#[]⟩) rfl
  have q5 := rx2.cell (i := 5) (v := .int .i64 0) rfl
  have q6 := rx2.cell (i := 6) (v := .int .i64 0) rfl
  have t0 := rt2.cell (i := 0) (v := .string ⟨b.1.toArray⟩) rfl
  have t1 := rt2.cell (i := 1) (v := .int .i64 (b.2 : Nat)) rfl
  have y0 := rr2.cell (i := 0) (v := .slice none 0 0) rfl
  have y1 := rr2.cell (i := 1) (v := .slice none 0 0) rfl
  have y2 := rr2.cell (i := 2) (v := .slice none 0 0) rfl
  have y3 := rr2.cell (i := 3) (v := .int .i64 0) rfl
  have y4 := rr2.cell (i := 4) (v := .string ⟨#[]⟩) rfl
  have y5 := rr2.cell (i := 5) (v := .int .i64 0) rfl
  have y6 := rr2.cell (i := 6) (v := .int .i64 0) rfl
  have fr := rr2.free
  have HB2 := Lib.hid (then_ HB1.out hb2)
  have HX2 := Lib.hid rx2
  have HT2 := Lib.hid rt2
  have HR2 := Lib.hid rr2
  have hl1 := rx2.lt
  have hl2 := rt2.lt
  have hl3 := rr2.lt
  clear rx2 rt2 rr2 hb2
  cases bt with
  | true =>
    have hin : b.1 ∈ x.files := of_decide_eq_true HBT.out
    have HQ : Hid (r = .inl x) := Lib.hid (by rw [← HRR.out]; unfold incS; rw [if_pos hin])
    clear hin
    go_wp2
    rw [HQ.out]
    exact end_S (F := .slice A1 x.files.length c1) (WV := .slice A2 x.words.length c2) (CV := .slice A3 x.coms.length c3) (d := x.depth) (e := noErr) (x' := x) Try.results100 rfl HR2.out (HH.out.below HB2.out) HB2.out (by omega) ⟨rfl, rfl, rfl⟩
  | false =>
    have hin : b.1 ∉ x.files := of_decide_eq_false HBT.out
    have l2 := (HF.out.look w2 (fun k hk => HB2.out.block k (by omega)) b.1 hbl).1
    cases hfs : fs b.1 with
    | none =>
      have HQ : Hid (r = .inr (name, b.2, 44)) := Lib.hid (by rw [← HRR.out]; unfold incS; rw [if_neg hin, hfs])
      rw [hfs] at l2
      clear hin hfs
      go_wp2_with fail
      refine (ref_fail w2 _ _ _ x (HH.out.below HB2.out) x.depth name (b.2 : Nat) 44).mono ?_
      rintro e w3 ⟨rfl, hb3⟩
      simp only [sV]
      clear q0 q1 q2 q3 q4 q5 q6 t0 t1 y0 y1 y2 y3 y4 y5 y6 fr l2
      have rx3 := HX2.out.below hb3 HX2.out.lt
      have rt3 := HT2.out.below hb3 HT2.out.lt
      have rr3 := HR2.out.below hb3 HR2.out.lt
      have t0 := rt3.cell (i := 0) (v := .string ⟨b.1.toArray⟩) rfl
      have t1 := rt3.cell (i := 1) (v := .int .i64 (b.2 : Nat)) rfl
      have y0 := rr3.cell (i := 0) (v := .slice none 0 0) rfl
      have y1 := rr3.cell (i := 1) (v := .slice none 0 0) rfl
      have y2 := rr3.cell (i := 2) (v := .slice none 0 0) rfl
      have y3 := rr3.cell (i := 3) (v := .int .i64 0) rfl
      have y4 := rr3.cell (i := 4) (v := .string ⟨#[]⟩) rfl
      have y5 := rr3.cell (i := 5) (v := .int .i64 0) rfl
      have y6 := rr3.cell (i := 6) (v := .int .i64 0) rfl
      have fr := rr3.free
      have HB3 := Lib.hid (then_ HB2.out hb3)
      have HR3 := Lib.hid rr3
      clear rx3 rt3 rr3 hb3
      go_wp2
      rw [HQ.out]
      exact end_S (F := .slice A1 x.files.length c1) (WV := .slice A2 x.words.length c2) (CV := .slice A3 x.coms.length c3) (d := x.depth) (e := (name, (b.2 : Nat), 44)) (x' := x) Try.results100 rfl HR3.out (HH.out.below HB3.out) HB3.out (by omega) ⟨rfl, by simp⟩
    | some text =>
      rw [hfs] at l2
      by_cases h40 : 40 ≤ x.files.length
      · have HQ : Hid (r = .inr (name, a.2, 8)) := Lib.hid (by rw [← HRR.out]; unfold incS; rw [if_neg hin, hfs]; simp only [if_pos h40])
        have e40 : decide (40 ≤ x.files.length) = true := decide_eq_true h40
        have e41 : decide ((40 : Int) ≤ (x.files.length : Int)) = true := decide_eq_true (by omega)
        clear hin hfs
        go_wp2_with fail
        refine (ref_fail w2 _ _ _ x (HH.out.below HB2.out) x.depth name (a.2 : Nat) 8).mono ?_
        rintro e w3 ⟨rfl, hb3⟩
        simp only [sV]
        clear q0 q1 q2 q3 q4 q5 q6 t0 t1 y0 y1 y2 y3 y4 y5 y6 fr l2
        have rx3 := HX2.out.below hb3 HX2.out.lt
        have rt3 := HT2.out.below hb3 HT2.out.lt
        have rr3 := HR2.out.below hb3 HR2.out.lt
        have t0 := rt3.cell (i := 0) (v := .string ⟨b.1.toArray⟩) rfl
        have t1 := rt3.cell (i := 1) (v := .int .i64 (b.2 : Nat)) rfl
        have y0 := rr3.cell (i := 0) (v := .slice none 0 0) rfl
        have y1 := rr3.cell (i := 1) (v := .slice none 0 0) rfl
        have y2 := rr3.cell (i := 2) (v := .slice none 0 0) rfl
        have y3 := rr3.cell (i := 3) (v := .int .i64 0) rfl
        have y4 := rr3.cell (i := 4) (v := .string ⟨#[]⟩) rfl
        have y5 := rr3.cell (i := 5) (v := .int .i64 0) rfl
        have y6 := rr3.cell (i := 6) (v := .int .i64 0) rfl
        have fr := rr3.free
        have HB3 := Lib.hid (then_ HB2.out hb3)
        have HR3 := Lib.hid rr3
        clear rx3 rt3 rr3 hb3
        go_wp2
        rw [HQ.out]
        exact end_S (F := .slice A1 x.files.length c1) (WV := .slice A2 x.words.length c2) (CV := .slice A3 x.coms.length c3) (d := x.depth) (e := (name, (a.2 : Nat), 8)) (x' := x) Try.results100 rfl HR3.out (HH.out.below HB3.out) HB3.out (by omega) ⟨rfl, by simp⟩
      · have e40 : decide (40 ≤ x.files.length) = false := decide_eq_false h40
        have e41 : decide ((40 : Int) ≤ (x.files.length : Int)) = false := decide_eq_false (by omega)
        have HTC := Lib.hid (HTK.out w2 _ _ _ x b.1 (HF.out.below (HB2.out.mono hB)) (by have := HB2.out.size; omega) (HH.out.below HB2.out) ok hco hbl (by omega) hfu)
        have htx := HF.out.size _ _ hfs
        unfold maxLen at htx
        have HMO : Hid (∀ y, takeS fs f x b.1 = .inl y → OkR y) := Lib.hid (fun y hy => (takeS_more fs f x y b.1 hy).1 (by omega) ok)
        obtain ⟨rt, hrt⟩ : ∃ rt, takeS fs f x b.1 = rt := ⟨_, rfl⟩
        rw [hrt] at HTC HMO
        have HQ : Hid (r = incEnd rt b.1 text.length) := Lib.hid (by rw [← HRR.out]; unfold incS; rw [if_neg hin, hfs]; simp only [if_neg h40, hrt]; cases rt <;> rfl)
        clear hin hfs hrt h40
        go_wp2_with fail
        refine HTC.out.mono ?_
        rintro e w3 ⟨U, rfl, F, WV, CV, d3, e3, x3, rfl, hst3, hb3, hm3⟩
        obtain ⟨⟨D1, d1, rfl⟩, ⟨D2, d2, rfl⟩, D3, d3', rfl⟩ := hst3.form
        simp only [sV]
        clear q0 q1 q2 q3 q4 q5 q6 t0 t1 y0 y1 y2 y3 y4 y5 y6 fr l2
        have rx3 := HX2.out.below hb3 HX2.out.lt
        have rt3 := HT2.out.below hb3 HT2.out.lt
        have rr3 := HR2.out.below hb3 HR2.out.lt
        have t0 := rt3.cell (i := 0) (v := .string ⟨b.1.toArray⟩) rfl
        have t1 := rt3.cell (i := 1) (v := .int .i64 (b.2 : Nat)) rfl
        have y0 := rr3.cell (i := 0) (v := .slice none 0 0) rfl
        have y1 := rr3.cell (i := 1) (v := .slice none 0 0) rfl
        have y2 := rr3.cell (i := 2) (v := .slice none 0 0) rfl
        have y3 := rr3.cell (i := 3) (v := .int .i64 0) rfl
        have y4 := rr3.cell (i := 4) (v := .string ⟨#[]⟩) rfl
        have y5 := rr3.cell (i := 5) (v := .int .i64 0) rfl
        have y6 := rr3.cell (i := 6) (v := .int .i64 0) rfl
        have fr := rr3.free
        have HB3 := Lib.hid (then_ HB2.out hb3)
        have q0 := rx3.cell (i := 0) (v := .slice A1 x.files.length c1) rfl
        have q1 := rx3.cell (i := 1) (v := .slice A2 x.words.length c2) rfl
        have q2 := rx3.cell (i := 2) (v := .slice A3 x.coms.length c3) rfl
        have q3 := rx3.cell (i := 3) (v := .int .i64 x.depth) rfl
        have q4 := rx3.cell (i := 4) (v := .string ⟨#[]⟩) rfl
        have q5 := rx3.cell (i := 5) (v := .int .i64 0) rfl
        have q6 := rx3.cell (i := 6) (v := .int .i64 0) rfl
        have fq := rx3.free
        have HX3 := Lib.hid rx3
        have HT3 := Lib.hid rt3
        have HR3 := Lib.hid rr3
        have HS3 := Lib.hid hst3
        clear rx3 rt3 rr3 hb3 hst3
        cases rt with
        | inr er =>
          obtain ⟨rfl, hne⟩ := hm3
          have ez : (e3.2.2 == 0) = false := by simpa using hne
          have HNE := Lib.hid hne
          clear hne
          have hst4 := setS_st (f := .slice D1 x3.files.length d1) (wv := .slice D2 x3.words.length d2) (cv := .slice D3 x3.coms.length d3') (d := d3) (e := e3) HS3.out HX3.out
          have hr4 := setS_other (f := .slice D1 x3.files.length d1) (wv := .slice D2 x3.words.length d2) (cv := .slice D3 x3.coms.length d3') (d := d3) (e := e3) HR3.out (show w.heap.size + 1 + 1 ≠ w.heap.size by omega)
          have hb4 := setS_below (g := w.heap.size) (f := .slice D1 x3.files.length d1) (wv := .slice D2 x3.words.length d2) (cv := .slice D3 x3.coms.length d3') (d := d3) (e := e3) HB3.out (Nat.le_refl _)
          have HS4 := Lib.hid hst4
          have HR4 := Lib.hid hr4
          have HB4 := Lib.hid hb4
          clear hst4 hr4 hb4
          go_wp2
          rw [HQ.out]
          exact end_S (w := setS w3 w.heap.size (.slice D1 x3.files.length d1) (.slice D2 x3.words.length d2) (.slice D3 x3.coms.length d3') d3 e3) (F := .slice D1 x3.files.length d1) (WV := .slice D2 x3.words.length d2) (CV := .slice D3 x3.coms.length d3') (d := d3) (e := e3) (x' := x3) Try.results100 rfl HR4.out HS4.out HB4.out (by omega) ⟨rfl, HNE.out⟩
        | inl y =>
          obtain ⟨rfl, rfl, rfl⟩ := hm3
          have hst4 := setS_st (f := .slice D1 x3.files.length d1) (wv := .slice D2 x3.words.length d2) (cv := .slice D3 x3.coms.length d3') (d := x3.depth) (e := noErr) HS3.out HX3.out
          have hx4 := setS_row (f := .slice D1 x3.files.length d1) (wv := .slice D2 x3.words.length d2) (cv := .slice D3 x3.coms.length d3') (d := x3.depth) (e := noErr) HX3.out
          have ht4 := setS_other (f := .slice D1 x3.files.length d1) (wv := .slice D2 x3.words.length d2) (cv := .slice D3 x3.coms.length d3') (d := x3.depth) (e := noErr) HT3.out (show w.heap.size + 1 ≠ w.heap.size by omega)
          have hr4 := setS_other (f := .slice D1 x3.files.length d1) (wv := .slice D2 x3.words.length d2) (cv := .slice D3 x3.coms.length d3') (d := x3.depth) (e := noErr) HR3.out (show w.heap.size + 1 + 1 ≠ w.heap.size by omega)
          have hb4 := setS_below (g := w.heap.size) (f := .slice D1 x3.files.length d1) (wv := .slice D2 x3.words.length d2) (cv := .slice D3 x3.coms.length d3') (d := x3.depth) (e := noErr) HB3.out (Nat.le_refl _)
          have HS4 := Lib.hid hst4
          have HX4 := Lib.hid hx4
          have HT4 := Lib.hid ht4
          have HR4 := Lib.hid hr4
          have HB4 := Lib.hid hb4
          clear hst4 hx4 ht4 hr4 hb4
          obtain ⟨b5, hb5⟩ : ∃ b5, betweenS x3 = b5 := ⟨_, rfl⟩
          have HB5 := Lib.hid hb5
          clear hb5
          simp only [noErr]
          go_wp2_with fail
          refine (ref_between (setS w3 w.heap.size (.slice D1 x3.files.length d1) (.slice D2 x3.words.length d2) (.slice D3 x3.coms.length d3') x3.depth noErr) (.slice D1 x3.files.length d1) (.slice D2 x3.words.length d2) (.slice D3 x3.coms.length d3') x3 noErr HS4.out.wd (HMO.out _ rfl)).mono ?_
          rw [HB5.out]
          rintro e w5 ⟨rfl, hb5⟩
          clear q0 q1 q2 q3 q4 q5 q6 fq t0 t1 y0 y1 y2 y3 y4 y5 y6 fr
          have rx5 := HX4.out.below hb5 HX4.out.lt
          have rt5 := HT4.out.below hb5 HT4.out.lt
          have rr5 := HR4.out.below hb5 HR4.out.lt
          have t0 := rt5.cell (i := 0) (v := .string ⟨b.1.toArray⟩) rfl
          have t1 := rt5.cell (i := 1) (v := .int .i64 (b.2 : Nat)) rfl
          have y0 := rr5.cell (i := 0) (v := .slice none 0 0) rfl
          have y1 := rr5.cell (i := 1) (v := .slice none 0 0) rfl
          have y2 := rr5.cell (i := 2) (v := .slice none 0 0) rfl
          have y3 := rr5.cell (i := 3) (v := .int .i64 0) rfl
          have y4 := rr5.cell (i := 4) (v := .string ⟨#[]⟩) rfl
          have y5 := rr5.cell (i := 5) (v := .int .i64 0) rfl
          have y6 := rr5.cell (i := 6) (v := .int .i64 0) rfl
          have fr := rr5.free
          have HBW5 := Lib.hid (then_ HB4.out hb5)
          have q0 := rx5.cell (i := 0) (v := .slice D1 x3.files.length d1) rfl
          have q1 := rx5.cell (i := 1) (v := .slice D2 x3.words.length d2) rfl
          have q2 := rx5.cell (i := 2) (v := .slice D3 x3.coms.length d3') rfl
          have q3 := rx5.cell (i := 3) (v := .int .i64 x3.depth) rfl
          have q4 := rx5.cell (i := 4) (v := .string ⟨#[]⟩) rfl
          have q5 := rx5.cell (i := 5) (v := .int .i64 0) rfl
          have q6 := rx5.cell (i := 6) (v := .int .i64 0) rfl
          have HR5 := Lib.hid rr5
          have HS5 := Lib.hid (HS4.out.below hb5)
          have HT5 := Lib.hid rt5
          have HX5 := Lib.hid rx5
          clear rx5 rt5 rr5 hb5
          cases b5 with
          | true =>
            go_wp2
            rw [HQ.out]
            have hie : incEnd (.inl x3) b.1 text.length = .inl x3 := by simp [incEnd, HB5.out]
            rw [hie]
            exact end_S (F := .slice D1 x3.files.length d1) (WV := .slice D2 x3.words.length d2) (CV := .slice D3 x3.coms.length d3') (d := x3.depth) (e := noErr) (x' := x3) Try.results100 rfl HR5.out HS5.out HBW5.out (by omega) ⟨rfl, rfl, rfl⟩
          | false =>
            go_wp2_with fail
            refine (ref_fail w5 _ _ _ x3 HS5.out x3.depth b.1 (text.length : Nat) 43).mono ?_
            rintro e w6 ⟨rfl, hb6⟩
            simp only [sV]
            clear q0 q1 q2 q3 q4 q5 q6 t0 t1 y0 y1 y2 y3 y4 y5 y6 fr
            have rx6 := HX5.out.below hb6 HX5.out.lt
            have rt6 := HT5.out.below hb6 HT5.out.lt
            have rr6 := HR5.out.below hb6 HR5.out.lt
            have t0 := rt6.cell (i := 0) (v := .string ⟨b.1.toArray⟩) rfl
            have t1 := rt6.cell (i := 1) (v := .int .i64 (b.2 : Nat)) rfl
            have y0 := rr6.cell (i := 0) (v := .slice none 0 0) rfl
            have y1 := rr6.cell (i := 1) (v := .slice none 0 0) rfl
            have y2 := rr6.cell (i := 2) (v := .slice none 0 0) rfl
            have y3 := rr6.cell (i := 3) (v := .int .i64 0) rfl
            have y4 := rr6.cell (i := 4) (v := .string ⟨#[]⟩) rfl
            have y5 := rr6.cell (i := 5) (v := .int .i64 0) rfl
            have y6 := rr6.cell (i := 6) (v := .int .i64 0) rfl
            have fr := rr6.free
            have HBW6 := Lib.hid (then_ HBW5.out hb6)
            have HR6 := Lib.hid rr6
            have HS6 := Lib.hid (HS5.out.below hb6)
            clear rx6 rt6 rr6 hb6
            go_wp2
            rw [HQ.out]
            have hie : incEnd (.inl x3) b.1 text.length = .inr (b.1, (text.length : Int), 43) := by simp [incEnd, HB5.out]
            rw [hie]
            exact end_S (F := .slice D1 x3.files.length d1) (WV := .slice D2 x3.words.length d2) (CV := .slice D3 x3.coms.length d3') (d := x3.depth) (e := (b.1, (text.length : Int), 43)) (x' := x3) Try.results100 rfl HR6.out HS6.out HBW6.out (by omega) ⟨rfl, by simp⟩
end Go.Proofs.Ytignhjfobcnloaa
end
section
namespace Go.Proofs.Ytignhjfobcnloaa
open Go.RowKit
theorem drop_takeWhileR {α : Type} (p : α → Bool) : ∀ (l : List α), l.drop (l.takeWhile p).length = l.dropWhile p := by
  intro l
  induction l with
  | nil => rfl
  | cons x l ih =>
    by_cases h : p x = true
    · rw [List.takeWhile_cons_of_pos h, List.dropWhile_cons_of_pos h]; simpa using ih
    · rw [List.takeWhile_cons_of_neg h, List.dropWhile_cons_of_neg h]; rfl
theorem strip_leR {text : List UInt8} (h : (stripS text).2.2.2 = 0) {w : TokD} (hw : w ∈ (stripS text).1) : w.2 ≤ 40000 ∧ w.1.length ≤ 40000 := by
  have hl : text.length ≤ 40000 := by
    apply Decidable.byContradiction
    intro hn
    have h2 := (strip_good h).1
    rw [scanS_big (by omega)] at h2
    simp at h2
  obtain ⟨h1, h2⟩ := strip_stand h hw
  have h3 := h2.length_le
  rw [List.length_drop] at h3
  exact ⟨by omega, by omega⟩
theorem takeS_loopR {fs : List UInt8 → Option (List UInt8)} {f : Nat} {x : RdS} {name : List UInt8} (hz : (stripS ((fs name).getD [])).2.2.2 = 0) :
    takeS fs (f + 1) x name = match runR (stepR (incS fs name (takeS fs f)) name x.files.length (stripS ((fs name).getD [])).1) (openF x name, [], 0) (mergeS (stripS ((fs name).getD [])).1 (stripS ((fs name).getD [])).2.1) with
      | .inl s => .inl s.1
      | .inr e => .inr e := by
  conv => lhs; unfold takeS
  rw [if_neg (by rw [hz]; simp)]
  cases runR (stepR (incS fs name (takeS fs f)) name x.files.length (stripS ((fs name).getD [])).1) (openF x name, [], 0) (mergeS (stripS ((fs name).getD [])).1 (stripS ((fs name).getD [])).2.1) <;> rfl
theorem toks_cell {w : World} {tb tO n d : Nat} {ws : List TokD} {j : Nat} {a : TokD} (h : ToksAt w (.slice (some ⟨tb, tO, none⟩) n d) ws) (ha : ws[j]? = some a) : w.cell? ⟨tb, tO + j * 2, none⟩ = some (.string ⟨a.1.toArray⟩) ∧ w.cell? ⟨tb, tO + j * 2 + 1, none⟩ = some (.int .i64 (a.2 : Nat)) := by
  obtain ⟨A', c', hv, _, _, hxx⟩ := h.open_
  obtain ⟨b, o, hA, g0, g1⟩ := hxx j a ha
  have e : A' = some ⟨tb, tO, none⟩ := by
    injection hv with h1
    exact h1.symm
  rw [e] at hA
  injection hA with hA
  injection hA with h1 h2
  subst h1 h2
  exact ⟨g0, g1⟩
theorem sV_inj {f wv cv f' wv' cv' : Value} {d d' : Int} {e e' : ErrD} (h : sV f wv cv d e = sV f' wv' cv' d' e') : f = f' ∧ wv = wv' ∧ cv = cv' ∧ d = d' ∧ e = e' := by
  obtain ⟨a, b, c⟩ := e
  obtain ⟨a', b', c'⟩ := e'
  simpa [sV] using h
def outR (r : RunD ⊕ ErrD) : RdS ⊕ ErrD := match r with
  | .inl s => .inl s.1
  | .inr e => .inr e
theorem takeS_outR {fs : List UInt8 → Option (List UInt8)} {f : Nat} {x : RdS} {name : List UInt8} (hz : (stripS ((fs name).getD [])).2.2.2 = 0) :
    takeS fs (f + 1) x name = outR (runAt (incS fs name (takeS fs f)) name x.files.length (stripS ((fs name).getD [])).1 (openF x name) [] 0 (stripS ((fs name).getD [])).2.1) := by
  rw [takeS_loopR hz]
  unfold runAt outR
  rw [List.drop_zero]
  all_goals cases runR (stepR (incS fs name (takeS fs f)) name x.files.length (stripS ((fs name).getD [])).1) (openF x name, [], 0) (mergeS (stripS ((fs name).getD [])).1 (stripS ((fs name).getD [])).2.1) <;> rfl
/-- whatever lay ahead stays, but for the block g -/
structure FrX (g : Nat) (W W' : World) : Prop where
  os : W'.os = W.os
  tape : W'.tape = W.tape
  output : W'.output = W.output
  size : W.heap.size ≤ W'.heap.size
  block : ∀ k, k ≠ g → k < W.heap.size → W'.heap[k]? = W.heap[k]?
section
variable {g : Nat} {W W' W'' : World}
theorem FrX.refl (W : World) : FrX g W W := ⟨rfl, rfl, rfl, Nat.le_refl _, fun _ _ _ => rfl⟩
theorem FrX.trans (h : FrX g W W') (k : FrX g W' W'') : FrX g W W'' := ⟨k.os.trans h.os, k.tape.trans h.tape, k.output.trans h.output, Nat.le_trans h.size k.size, fun i hi hl => (k.block i hi (Nat.lt_of_lt_of_le hl h.size)).trans (h.block i hi hl)⟩
theorem FrX.of_below (h : Below W.heap.size W W') : FrX g W W' := ⟨h.os, h.tape, h.output, h.size, fun k _ hl => h.block k hl⟩
theorem FrX.set (W : World) (i : Nat) (u : Value) : FrX g W (W.setCell ⟨g, i, none⟩ u) := ⟨rfl, rfl, rfl, by simp [World.setCell], fun k hk _ => Below.heap_setCell _ _ _ _ (by dsimp only; exact hk)⟩
theorem FrX.setS (W : World) (f wv cv : Value) (d : Int) (e : ErrD) : FrX g W (setS W g f wv cv d e) :=
  (((((((FrX.refl W).trans (FrX.set _ 0 f)).trans (FrX.set _ 1 wv)).trans (FrX.set _ 2 cv)).trans (FrX.set _ 3 _)).trans (FrX.set _ 4 _)).trans (FrX.set _ 5 _)).trans (FrX.set _ 6 _)
theorem FrX.below {B : Nat} {a : World} (h : FrX g W W') (hb : Below B a W) (hg : B ≤ g) (hB : B ≤ W.heap.size) : Below B a W' :=
  hb.trans ⟨h.os, h.tape, h.output, h.size, fun k hk => h.block k (by omega) (by omega)⟩
theorem FrX.row {k : Nat} {t : TypeId} {cs : Array Value} (h : FrX g W W') (hr : Row W k t cs) (hk : k ≠ g) : Row W' k t cs := (h.block k hk hr.lt).trans hr
theorem FrX.own {base n s : Nat} {e : TypeId} {v : Value} {xs : List Value} (h : FrX g W W') (ho : W.ownsRow base e s v n xs) (hg : g < base) : W'.ownsRow base e s v n xs :=
  own_same ho fun k o e hk => (h.block k (by have := (own_obj ho e).1; omega) (Array.getElem?_eq_some_iff.1 hk).1).trans hk
theorem FrX.tyb {E t : TypeId} {v : Value} {cs : Array Value} (h : FrX g W W') (ht : TyB W E v) (hr : Row W g t cs) (he : t ≠ E) : TyB W' E v := fun k e => by
  obtain ⟨c, fr, hg⟩ := ht k e
  exact ⟨c, fr, (h.block k (ht.ne hr he k e) (Array.getElem?_eq_some_iff.1 hg).1).trans hg⟩
theorem FrX.rds {E t : TypeId} {size n : Nat} {v : Value} {xs : List Value} {cs : Array Value} (h : FrX g W W') (hd : Rds W size v n xs) (ht : TyB W E v) (hr : Row W g t cs) (he : t ≠ E) : Rds W' size v n xs :=
  hd.same fun k _ e o => by
    obtain ⟨c, fr, hg⟩ := ht k e
    unfold World.cell?
    rw [h.block k (ht.ne hr he k e) (Array.getElem?_eq_some_iff.1 hg).1]
theorem FrX.st {f wv cv : Value} {x : RdS} {cs : Array Value} (h : FrX g W W') (hs : StR W f wv cv x) (hr : Row W g 143 cs) : StR W' f wv cv x :=
  ⟨h.rds hs.fl hs.tf hr (by decide), h.rds hs.wd hs.tw hr (by decide), h.rds hs.cm hs.tc hr (by decide), h.tyb hs.tf hr (by decide), h.tyb hs.tw hr (by decide), h.tyb hs.tc hr (by decide)⟩
end
theorem strs_one {l : List (List UInt8)} : ∀ u ∈ l.map strV, u.oneCell' = true := by
  intro u hu
  obtain ⟨s, _, rfl⟩ := List.mem_map.1 hu
  rfl
theorem ref_name {w W1 w2 w3 : World} {cs cs' : Array Value} {name : List UInt8} {V2 : Value} {n : Nat} {xs : List Value} (hX : Row W1 w.heap.size 143 cs) (hR : Row W1 (w.heap.size + 1) 143 cs') (hb : Below w.heap.size w W1) (hz : W1.heap.size = w.heap.size + 2)
    (hg2 : (W1.alloc (.cells #[] 9)).grownBy w2 (Value.slice (some ⟨w.heap.size + 1 + 1, 0, none⟩) 0 0).ownBlock) (ho2 : w2.ownsRow (w.heap.size + 1 + 1) 9 1 V2 n xs) (hg3 : (w2.alloc (.cells #[.string ⟨name.toArray⟩] 9)).grownBy w3 V2.ownBlock) :
    Row w3 w.heap.size 143 cs ∧ Row w3 (w.heap.size + 1) 143 cs' ∧ Below w.heap.size w w3 := by
  refine ⟨(((hX.alloc _).grown hg2 (by simp [Value.ownBlock]; omega)).alloc _).grown hg3 (fun e => by have := (ho2.lt _ e.symm).1; omega),
    (((hR.alloc _).grown hg2 (by simp [Value.ownBlock])).alloc _).grown hg3 (fun e => by have := (ho2.lt _ e.symm).1; omega), ?_⟩
  have g1 : Below w.heap.size w w2 := (hb.alloc (by omega) (.cells #[] 9)).grown hg2 (by simp; omega) (by simp [Value.ownBlock]; omega)
  exact (g1.alloc g1.size (.cells #[.string ⟨name.toArray⟩] 9)).grown hg3 (by have := g1.size; simp; omega) (fun k hk => by have := (ho2.lt _ hk).1; omega)
theorem due_all {n : Nat} : ∀ {R : List ComD}, (∀ c ∈ R, c.2.2 ≤ n) → dueC n R = R
  | [], _ => rfl
  | c :: R, h => by
    unfold dueC
    rw [List.takeWhile_cons_of_pos (by simpa using h c (List.mem_cons_self ..))]
    exact congrArg _ (due_all (R := R) fun a ha => h a (List.mem_cons_of_mem _ ha))
/-- between two rounds without an error -/
structure TkL (fs : List UInt8 → Option (List UInt8)) (f : Nat) (name : List UInt8) (x : RdS) (ws : List TokD) (cs : List ComD) (R0 : RunD ⊕ ErrD) (i k : Nat) (y : RdS) : Prop where
  il : i ≤ ws.length
  kl : k ≤ cs.length
  run : runAt (incS fs name (takeS fs f)) name x.files.length ws y [] i (cs.drop k) = R0
  ok : OkR y
  cl : y.coms.length + (cs.length - k) ≤ 8000 * y.files.length
  fp : x.files ++ [name] <+: y.files
section
variable {fs : List UInt8 → Option (List UInt8)} {f : Nat} {name : List UInt8} {x : RdS} {ws : List TokD} {cs : List ComD} {R0 : RunD ⊕ ErrD} {i k : Nat} {y : RdS} {t a b : TokD}
theorem TkL.due (h : TkL fs f name x ws cs R0 i k y) (n : Nat) : k + (dueC n (cs.drop k)).length ≤ cs.length := by
  have h1 : (dueC n (cs.drop k)).length ≤ (cs.drop k).length := (List.takeWhile_prefix _).length_le
  rw [List.length_drop] at h1
  have := h.kl
  omega
theorem left_drop (n k : Nat) (cs : List ComD) : leftC n (cs.drop k) = cs.drop (k + (dueC n (cs.drop k)).length) := by
  have h2 : (cs.drop k).drop (dueC n (cs.drop k)).length = leftC n (cs.drop k) := drop_takeWhileR _ _
  rw [← h2, List.drop_drop]
theorem addCs_ok {x : RdS} (h : OkR x) (file : Nat) (l : List ComD) : OkR (addCs x file l) := ⟨h.fl, h.wl, h.dl⟩
theorem addCs_len (x : RdS) (file : Nat) (l : List ComD) : (addCs x file l).coms.length = x.coms.length + l.length := by simp [addCs]
theorem tk_wrong (h : TkL fs f name x ws cs R0 i k y) (hO : OrdC ws cs) (ht : ws[i]? = some t) {e : Int × Int} (he : wrongW ws (addCs y x.files.length (dueC i (cs.drop k))) t i = some e) : outR R0 = .inr (name, e.1, e.2) := by
  rw [← h.run, runAt_wrong ht (fun c hc => (hO.1 c (List.mem_of_mem_drop hc)).2 i t ht) he]
  rfl
theorem tk_word (h : TkL fs f name x ws cs R0 i k y) (hO : OrdC ws cs) (ht : ws[i]? = some t) (h1 : t.1 ≠ [36, 93]) (h2 : t.1 ≠ [36, 91]) (h8 : y.words.length < 8000) :
    TkL fs f name x ws cs R0 (i + 1) (k + (dueC i (cs.drop k)).length) (addW (addCs y x.files.length (dueC i (cs.drop k))) x.files.length t) := by
  have hil := (List.getElem?_eq_some_iff.1 ht).1
  refine ⟨by omega, h.due i, ?_, ⟨h.ok.fl, ?_, ?_⟩, ?_, h.fp⟩
  · rw [← h.run, runAt_word ht (fun c hc => (hO.1 c (List.mem_of_mem_drop hc)).2 i t ht) (by
      unfold wrongW
      rw [if_neg h1, if_neg h2, if_neg (by show ¬ 8000 ≤ y.words.length; omega)]) h2, left_drop]
  · show (y.words ++ [_]).length ≤ 8000
    simp
    omega
  · have h3 := h.ok.dl
    have h4 := depthW_le t.1
    show -(((y.words ++ [_]).length : Nat) : Int) ≤ y.depth + depthW t.1 ∧ y.depth + depthW t.1 ≤ (((y.words ++ [_]).length : Nat) : Int)
    simp
    omega
  · show (addCs y x.files.length (dueC i (cs.drop k))).coms.length + _ ≤ 8000 * y.files.length
    rw [addCs_len]
    have := h.cl
    have := h.due i
    omega
theorem tk_inc (h : TkL fs f name x ws cs R0 i k y) (hO : OrdC ws cs) (ht : ws[i]? = some t) (ha : ws[i + 1]? = some a) (hb : ws[i + 2]? = some b) (h1 : t.1 = [36, 91]) (hbt : betweenS y = true) (hp : (36 : UInt8) ∉ a.1) (hb1 : b.1 = [36, 93]) {k1 k2 : Nat} {y1 y2 : RdS}
    (e1 : k + (dueC i (cs.drop k)).length = k1) (e2 : k1 + (dueC (i + 2) (cs.drop k1)).length = k2) (e3 : addCs y x.files.length (dueC i (cs.drop k)) = y1) (e4 : addCs y1 x.files.length (dueC (i + 2) (cs.drop k1)) = y2) :
    OkR y2 ∧ y2.files = y.files ∧ y2.depth = y.depth ∧ y2.coms.length ≤ 8000 * y2.files.length ∧ (∀ e, incS fs name (takeS fs f) y2 t a = .inr e → outR R0 = .inr e) ∧ ∀ z, incS fs name (takeS fs f) y2 t a = .inl z → TkL fs f name x ws cs R0 (i + 3) k2 z := by
  have hk1 : k1 ≤ cs.length := by rw [← e1]; exact h.due i
  have hk2 : k2 ≤ cs.length := by
    have h1 : (dueC (i + 2) (cs.drop k1)).length ≤ (cs.drop k1).length := (List.takeWhile_prefix _).length_le
    rw [List.length_drop] at h1
    omega
  have hil := (List.getElem?_eq_some_iff.1 hb).1
  have ok1 : OkR y1 := e3 ▸ addCs_ok h.ok _ _
  have ok2 : OkR y2 := e4 ▸ addCs_ok ok1 _ _
  have f2 : y2.files = y.files := by rw [← e4, ← e3]; rfl
  have d2 : y2.depth = y.depth := by rw [← e4, ← e3]; rfl
  have c2 : y2.coms.length + (cs.length - k2) ≤ 8000 * y2.files.length := by
    rw [f2, ← e4, addCs_len, ← e3, addCs_len]
    have := h.cl
    omega
  have key : ∀ r, incS fs name (takeS fs f) y2 t a = r → R0 = match r with | .inl z => runAt (incS fs name (takeS fs f)) name x.files.length ws z [] (i + 3) (cs.drop k2) | .inr e => .inr e := fun r hr => by
    rw [← h.run, runAt_inc ht ha hb (fun c hc => (hO.1 c (List.mem_of_mem_drop hc)).2) (by
      unfold wrongW
      rw [if_neg (by rw [h1]; decide), if_pos h1, e3, if_neg (by rw [show betweenS y1 = betweenS y by rw [← e3]; rfl, hbt]; decide), ha, hb]
      simp only
      rw [if_neg (by rw [not_or]; exact ⟨hp, fun hn => hn hb1⟩)]) h1, left_drop, e1, left_drop, e2, e3, e4, hr]
    cases r <;> rfl
  refine ⟨ok2, f2, d2, by omega, fun e he => ?_, fun z hz => ?_⟩
  · rw [key _ he]; rfl
  · have hm := incS_more fs f name y2 t a z hz
    refine ⟨by omega, hk2, (key _ hz).symm, hm.ok ok2, ?_, ?_⟩
    · have := hm.cl
      omega
    · have := h.fp
      rw [← f2] at this
      exact this.trans hm.fs
end
/-- between two rounds: no error, the rest to come; or an error -/
def TkS (fs : List UInt8 → Option (List UInt8)) (f : Nat) (name : List UInt8) (x : RdS) (ws : List TokD) (cs : List ComD) (R0 : RunD ⊕ ErrD) (i k : Nat) (d : Int) (e : ErrD) (y : RdS) : Prop :=
  (e = noErr ∧ d = y.depth ∧ TkL fs f name x ws cs R0 i k y) ∨ (outR R0 = .inr e ∧ e.2.2 ≠ 0)
/-- memory between two rounds -/
def TkRel (fs : List UInt8 → Option (List UInt8)) (f : Nat) (name : List UInt8) (x : RdS) (ws : List TokD) (cs : List ComD) (R0 : RunD ⊕ ErrD) (base : Nat) (v1 v2 : Value) (w : World) (kv iv : Value) (wr : World) : Prop :=
  ∃ (i k : Nat) (F WV CV : Value) (d : Int) (e : ErrD) (y : RdS), iv = .int .i64 (i : Nat) ∧ kv = .int .i64 (k : Nat) ∧ Row wr w.heap.size 143 #[F, WV, CV, .int .i64 d, .string ⟨e.1.toArray⟩, .int .i64 e.2.1, .int .i64 e.2.2] ∧ Row wr (w.heap.size + 1) 143 #[.slice none 0 0, .slice none 0 0, .slice none 0 0, .int .i64 0, .string ⟨#[]⟩, .int .i64 0, .int .i64 0] ∧ StR wr F WV CV y ∧
    wr.ownsRow base 86 2 v1 ws.length (ws.flatMap tokCells) ∧ wr.ownsRow base 148 4 v2 cs.length (cs.flatMap comCells) ∧ Below w.heap.size w wr ∧ TkS fs f name x ws cs R0 i k d e y
set_option maxRecDepth 100000 in
set_option maxHeartbeats 8000000 in
theorem ref_take_step {f B : Nat} {fm : Value} {fs : List UInt8 → Option (List UInt8)} (TK : TakeR f B fm fs) : TakeR (f + 1) B fm fs := by
  intro w fv wv cv x name hF hB h ok hco hn h40 hfu
  obtain ⟨⟨A1, c1, rfl⟩, ⟨A2, c2, rfl⟩, A3, c3, rfl⟩ := h.form
  obtain ⟨W1, hW1⟩ : ∃ W1, W1 = (w.alloc (.cells #[.slice A1 x.files.length c1, .slice A2 x.words.length c2, .slice A3 x.coms.length c3, .int .i64 x.depth, .string ⟨#[]⟩, .int .i64 0, .int .i64 0] 143)).alloc (.cells #[.slice none 0 0, .slice none 0 0, .slice none 0 0, .int .i64 0, .string ⟨#[]⟩, .int .i64 0, .int .i64 0] 143) := ⟨_, rfl⟩
  have hb1 : Below w.heap.size w W1 := by rw [hW1]; exact new_ (new_ (Below.refl _ _) _) _
  have hz1 : W1.heap.size = w.heap.size + 2 := by rw [hW1]; simp
  have rX : Row W1 w.heap.size 143 #[.slice A1 x.files.length c1, .slice A2 x.words.length c2, .slice A3 x.coms.length c3, .int .i64 x.depth, .string ⟨#[]⟩, .int .i64 0, .int .i64 0] := by rw [hW1]; exact (Row.new _ _ _).alloc _
  have rR : Row W1 (w.heap.size + 1) 143 #[.slice none 0 0, .slice none 0 0, .slice none 0 0, .int .i64 0, .string ⟨#[]⟩, .int .i64 0, .int .i64 0] := by rw [hW1]; exact Row.new' _ _ _ (by simp)
  have HB1 := Lib.hid hb1
  have HW1 := Lib.hid hW1
  have HX := Lib.hid rX
  have HR := Lib.hid rR
  have HH := Lib.hid h
  have HS1 := Lib.hid (h.below hb1)
  have HF := Lib.hid hF
  have HTK := Lib.hid TK
  have HZ1 := Lib.hid hz1
  have x0 := rX.cell (i := 0) (v := .slice A1 x.files.length c1) rfl
  have fx := rX.free 0
  have lX := rX.lt
  obtain ⟨i0, hi, hj0, hj1, hj2⟩ := info_parts infoStr
  have HE0 : Hid ((W1.alloc (.cells #[] 9)).ownsRow (w.heap.size + 1 + 1) 9 1 (.slice (some ⟨w.heap.size + 1 + 1, 0, none⟩) 0 0) 0 []) := Lib.hid (by rw [show w.heap.size + 1 + 1 = W1.heap.size by omega]; have h1 := World.ownsRow_made (base := W1.heap.size) (e := 9) (size := 1) W1 #[] 0 (Nat.le_refl _) (by decide) (by simp); simpa using h1)
  have HFL : Hid (Rds (W1.alloc (.cells #[] 9)) 1 (.slice A1 x.files.length c1) x.files.length (x.files.map strV)) := Lib.hid ((HS1.out.fl.below (new_ (Below.refl _ _) _)))
  obtain ⟨r, hr⟩ : ∃ r, takeS fs (f + 1) x name = r := ⟨_, rfl⟩
  rw [hr]
  have HRR := Lib.hid hr
  clear hb1 rX rR h hF TK hz1 x0 fx lX HW1 hr
  subst hW1
  unfold sV noErr
  go_enter Try.func64, Try.ntmps64
  go_wp2_with (first
    | (at_builtin; (refine wpList_append_rds rfl (.tmp 19) (.tmp 22) 22 rfl (w.heap.size + 1 + 1) 9 i0 (.string ⟨#[]⟩) 1 16 Try.underlying22 hi hj0 hj1 hj2 rfl (by decide) (.slice (some ⟨w.heap.size + 1 + 1, 0, none⟩) 0 0) 0 [] (by rfl) HE0.out (.slice A1 x.files.length c1) x.files.length (x.files.map strV) (by rfl) HFL.out strs_one (by unfold maxLen; omega) (by omega) (by simp) ?_; intro v2 w2 ho2 hg2; rw [Nat.zero_add, List.nil_append] at ho2; have HO2 := Lib.hid ho2; have HG2 := Lib.hid hg2; have hz2 := hg2.size; obtain ⟨VA, vc, rfl, _⟩ := own_form ho2; clear ho2 hg2))
    | (at_builtin; (refine wpList_append_own _ rfl (.tmp 23) (.tmp 25) 22 rfl (w.heap.size + 1 + 1) 9 i0 (.string ⟨#[]⟩) 1 16 Try.underlying22 hi hj0 hj1 hj2 rfl (by decide) (.slice VA x.files.length vc) x.files.length (x.files.map strV) (by rfl) (ca_own_alloc HO2.out _) ⟨w2.heap.size, 0, none⟩ 1 1 [strV name] rfl rfl (cells_of' _ _ _ _ rfl rfl) (by simp [strV, Value.oneCell']) (by unfold maxLen; omega) (by omega) (by simp at hz2; simp; omega) ?_; intro v3 w3 ho3 hg3 _; obtain ⟨V3, vc3, rfl, _⟩ := own_form ho3; have hz3 := hg3.size; have HO3 := Lib.hid ho3; have HG3 := Lib.hid hg3; obtain ⟨rx3, rr3, hb3⟩ := ref_name HX.out HR.out HB1.out HZ1.out HG2.out HO2.out hg3; have HX3 := Lib.hid rx3; have HR3 := Lib.hid rr3; have HB3 := Lib.hid hb3; have x0 := rx3.cell (i := 0) (v := .slice A1 x.files.length c1) rfl; have fx := rx3.free 0; have lk := (HF.out.look (w3.setCell ⟨w.heap.size, 0, none⟩ (.slice V3 (x.files.length + 1) vc3)) (fun k hk => (Below.heap_setCell _ _ _ _ (by dsimp only; omega)).trans (HB3.out.block k (by omega))) name hn).2; clear ho3 hg3 rx3 rr3 hb3))
    | fail)
  have hx4 := (HX3.out.set 0 (.slice V3 (x.files.length + 1) vc3))
  have hr4 := HR3.out.other (p := ⟨w.heap.size, 0, none⟩) (by dsimp only; omega) (.slice V3 (x.files.length + 1) vc3)
  have hb4 := HB3.out.setCell (p := ⟨w.heap.size, 0, none⟩) (Nat.le_refl _) (.slice V3 (x.files.length + 1) vc3)
  have ho4 : (w3.setCell ⟨w.heap.size, 0, none⟩ (.slice V3 (x.files.length + 1) vc3)).ownsRow (w.heap.size + 1 + 1) 9 1 (.slice V3 (x.files.length + 1) vc3) (x.files.length + 1) (x.files.map strV ++ [strV name]) := HO3.out.kept (grown_set _ _ _ _) (.inr fun e => by have := (HO3.out.lt _ e).1; omega)
  have hs4 : StR (w3.setCell ⟨w.heap.size, 0, none⟩ (.slice V3 (x.files.length + 1) vc3)) (.slice V3 (x.files.length + 1) vc3) (.slice A2 x.words.length c2) (.slice A3 x.coms.length c3) (openF x name) := by
    have h0 := HH.out.below hb4
    exact ⟨by have h5 := Rds.of_own ho4; show Rds _ 1 _ (x.files ++ [name]).length ((x.files ++ [name]).map strV); rw [List.map_append, List.length_append]; exact h5, h0.wd, h0.cm, TyB.of_own ho4, h0.tw, h0.tc⟩
  obtain ⟨W4, hW4⟩ : ∃ W4, W4 = w3.setCell ⟨w.heap.size, 0, none⟩ (.slice V3 (x.files.length + 1) vc3) := ⟨_, rfl⟩
  rw [← hW4] at hx4 hr4 hb4 hs4 ⊢
  have HX4 := Lib.hid hx4
  have HR4 := Lib.hid hr4
  have HB4 := Lib.hid hb4
  have HS4 := Lib.hid hs4
  clear hx4 hr4 hb4 ho4 hs4 hW4 lk x0 fx HX3 HR3 HB3 HO3 HG3 HO2 HG2 HE0 HFL HX HR hz2 hz3
  refine (ref_strip_own W4 ((fs name).getD [])).mono ?_
  rintro e w5 ⟨v1, v2, rfl, ho1, ho2, hb5⟩
  have HO1 := Lib.hid ho1
  have HO2 := Lib.hid ho2
  have hx5 := HX4.out.below hb5 HX4.out.lt
  have hr5 := HR4.out.below hb5 HR4.out.lt
  have HX5 := Lib.hid hx5
  have HR5 := Lib.hid hr5
  have HB5 := Lib.hid (then_ HB4.out hb5)
  have HS5 := Lib.hid (HS4.out.below hb5)
  have HL4 : Hid (w.heap.size + 1 < W4.heap.size) := Lib.hid HR4.out.lt
  obtain ⟨B1, d1, rfl, _⟩ := own_form ho1
  obtain ⟨B2, d2, rfl, _⟩ := own_form ho2
  have q0 := hx5.cell (i := 0) (v := .slice V3 (x.files.length + 1) vc3) rfl
  have q1 := hx5.cell (i := 1) (v := .slice A2 x.words.length c2) rfl
  have q2 := hx5.cell (i := 2) (v := .slice A3 x.coms.length c3) rfl
  have q3 := hx5.cell (i := 3) (v := .int .i64 x.depth) rfl
  have q4 := hx5.cell (i := 4) (v := .string ⟨#[]⟩) rfl
  have q5 := hx5.cell (i := 5) (v := .int .i64 0) rfl
  have q6 := hx5.cell (i := 6) (v := .int .i64 0) rfl
  have lx := hx5.lt
  have lr := hr5.lt
  clear ho1 ho2 hb5 hx5 hr5 HX4 HR4 HB4 HS4
  by_cases hz : (stripS ((fs name).getD [])).2.2.2 = 0
  · have hle : ∀ t ∈ (stripS ((fs name).getD [])).1, t.2 ≤ 40000 ∧ t.1.length ≤ 40000 := fun t ht => strip_leR hz ht
    have hord := strip_ord ((fs name).getD [])
    have hsl := strip_len ((fs name).getD [])
    have hro := takeS_outR (fs := fs) (f := f) (x := x) hz
    have ez : ((stripS ((fs name).getD [])).2.2.2 != 0) = false := by simpa using hz
    have ho1 := HO1.out
    have ho2 := HO2.out
    obtain ⟨ws, hws⟩ : ∃ ws, (stripS ((fs name).getD [])).1 = ws := ⟨_, rfl⟩
    obtain ⟨cs, hcs⟩ : ∃ cs, (stripS ((fs name).getD [])).2.1 = cs := ⟨_, rfl⟩
    rw [hws] at hle hord hsl hro ho1 ⊢
    rw [hcs] at hord hsl hro ho2 ⊢
    obtain ⟨R0, hR0⟩ : ∃ R0, runAt (incS fs name (takeS fs f)) name x.files.length ws (openF x name) [] 0 cs = R0 := ⟨_, rfl⟩
    rw [hR0] at hro
    obtain ⟨hw8, hc8⟩ := hsl
    have HREL := Lib.hid (show TkRel fs f name x ws cs R0 W4.heap.size (.slice B1 ws.length d1) (.slice B2 cs.length d2) w (.int .i64 (0 : Nat)) (.int .i64 (0 : Nat)) w5 from
      ⟨0, 0, _, _, _, x.depth, noErr, openF x name, rfl, rfl, HX5.out, HR5.out, HS5.out, ho1, ho2, HB5.out, .inl ⟨rfl, rfl, ⟨Nat.zero_le _, Nat.zero_le _, by rw [List.drop_zero]; exact hR0, openF_more name h40 ok, by simp [openF]; omega, List.prefix_rfl⟩⟩⟩)
    have HRO : Hid (r = outR R0) := Lib.hid (by rw [← HRR.out]; exact hro)
    have HLE := Lib.hid hle
    have HORD := Lib.hid hord
    clear hle hord hro ho1 ho2 hws hcs hR0 hz HO1 HO2 HX5 HR5 HS5 HB5 q0 q1 q2 q3 q4 q5 q6
    go_wp2_with fail
    go_loopw [12, 13] (TkRel fs f name x ws cs R0 W4.heap.size (.slice B1 ws.length d1) (.slice B2 cs.length d2) w) (fun _ iv _ => ws.length - (intOf iv).toNat)
    case atStart => exact HREL.out
    case round =>
      obtain ⟨i, k, F, WV, CV, d, e, y, rfl, rfl, hx, hr, hst, ho1, ho2, hbl, hS⟩ := hrel
      obtain ⟨⟨D1, d1', rfl⟩, ⟨D2, d2', rfl⟩, D3, d3', rfl⟩ := hst.form
      have q0 := hx.cell (i := 0) (v := .slice D1 y.files.length d1') rfl
      have q1 := hx.cell (i := 1) (v := .slice D2 y.words.length d2') rfl
      have q2 := hx.cell (i := 2) (v := .slice D3 y.coms.length d3') rfl
      have q3 := hx.cell (i := 3) (v := .int .i64 d) rfl
      have q4 := hx.cell (i := 4) (v := .string ⟨e.1.toArray⟩) rfl
      have q5 := hx.cell (i := 5) (v := .int .i64 e.2.1) rfl
      have q6 := hx.cell (i := 6) (v := .int .i64 e.2.2) rfl
      have lx := hx.lt
      have lr := hr.lt
      have HX := Lib.hid hx
      have HR := Lib.hid hr
      have HST := Lib.hid hst
      have HO1 := Lib.hid ho1
      have HO2 := Lib.hid ho2
      have HBL := Lib.hid hbl
      clear hx hr hst ho1 ho2 hbl
      rcases hS with ⟨rfl, rfl, htk⟩ | ⟨hro, hne⟩
      · have HTL := Lib.hid htk
        have hil := htk.il
        have hkl := htk.kl
        have hcom := htk.cl
        have hyl := htk.ok.wl
        have hyf := htk.ok.fl
        have hrun2 := Lib.hid htk.run
        clear htk
        by_cases hlt : i < ws.length
        · obtain ⟨t, ht⟩ : ∃ t, ws[i]? = some t := ⟨_, List.getElem?_eq_getElem hlt⟩
          obtain ⟨y1, hy1⟩ : ∃ y1, addCs y x.files.length (dueC i (cs.drop k)) = y1 := ⟨_, rfl⟩
          obtain ⟨k1, hk1⟩ : ∃ k1, k + (dueC i (cs.drop k)).length = k1 := ⟨_, rfl⟩
          have hleft : leftC i (cs.drop k) = cs.drop k1 := by rw [left_drop, hk1]
          have hk1l : k1 ≤ cs.length := by
            have : (dueC i (cs.drop k)).length ≤ (cs.drop k).length := (List.takeWhile_prefix _).length_le
            rw [List.length_drop] at this
            omega
          have HY1 := Lib.hid hy1
          have HK1 := Lib.hid hk1
          have HLEFT := Lib.hid hleft
          have HT := Lib.hid ht
          clear hleft
          go_wp2_with fail
          refine (ref_before wr _ _ _ (.slice B2 cs.length d2) y y.depth cs x.files.length k i HST.out (Rds.of_own HO2.out) hkl hc8 (by omega) hyl (by omega)).mono ?_
          rw [hy1, hk1]
          clear hy1 hk1
          rintro e9 w9 ⟨cv9, rfl, hst9, hb9⟩
          have hyf1 : y1.files = y.files := by rw [← HY1.out]; rfl
          have hyw1 : y1.words = y.words := by rw [← HY1.out]; rfl
          have hyd1 : y1.depth = y.depth := by rw [← HY1.out]; rfl
          obtain ⟨_, _, D9, d9, rfl⟩ := hst9.form
          simp only [sV, noErr]
          clear q0 q1 q2 q3 q4 q5 q6
          have ho19 := own_below HO1.out hb9
          obtain ⟨A', c', hv, _, _, hxx⟩ := ToksAt.open_ (Rds.of_own ho19)
          obtain ⟨tb, tO, rfl, g0, g1⟩ := hxx i t ht
          obtain ⟨rfl, _⟩ := (by simpa using hv : B1 = some ⟨tb, tO, none⟩ ∧ d1 = c')
          have hx9 := HX.out.below hb9 lx
          have hr9 := HR.out.below hb9 lr
          have htb : tb ≠ w.heap.size := fun e => own_far ho19 hx9 (by decide) (by rw [← e]; rfl)
          have q0 := hx9.cell (i := 0) (v := .slice D1 y.files.length d1') rfl
          have q1 := hx9.cell (i := 1) (v := .slice D2 y.words.length d2') rfl
          have q2 := hx9.cell (i := 2) (v := .slice D3 y.coms.length d3') rfl
          have q3 := hx9.cell (i := 3) (v := .int .i64 y.depth) rfl
          have q4 := hx9.cell (i := 4) (v := .string ⟨#[]⟩) rfl
          have q5 := hx9.cell (i := 5) (v := .int .i64 0) rfl
          have q6 := hx9.cell (i := 6) (v := .int .i64 0) rfl
          have fq := hx9.free
          have lx9 := hx9.lt
          have lr9 := hr9.lt
          have hltb : tb < w9.heap.size := block_lt_of_cell g0
          have i0' : (0 : Int) ≤ (i : Int) := by omega
          have i1' : (i : Int) < (ws.length : Int) := by omega
          go_upto_region 12 with fail
          obtain ⟨W9, hW9⟩ : ∃ W9, W9 = (((((((w9.setCell ⟨w.heap.size, 0, none⟩ (.slice D1 y.files.length d1')).setCell ⟨w.heap.size, 1, none⟩ (.slice D2 y.words.length d2')).setCell ⟨w.heap.size, 2, none⟩ (.slice D9 y1.coms.length d9)).setCell ⟨w.heap.size, 3, none⟩ (.int .i64 y.depth)).setCell ⟨w.heap.size, 4, none⟩ (.string ⟨#[]⟩)).setCell ⟨w.heap.size, 5, none⟩ (.int .i64 0)).setCell ⟨w.heap.size, 6, none⟩ (.int .i64 0)).alloc (.cells #[.string ⟨t.1.toArray⟩, .int .i64 (t.2 : Nat)] 86) := ⟨_, rfl⟩
          rw [← hW9]
          have fr9 : FrX w.heap.size w9 W9 := by rw [hW9]; exact (FrX.setS w9 (.slice D1 y.files.length d1') (.slice D2 y.words.length d2') (.slice D9 y1.coms.length d9) y.depth noErr).trans (FrX.of_below (new_ (Below.refl _ _) _))
          have hxA : Row W9 w.heap.size 143 #[.slice D1 y.files.length d1', .slice D2 y.words.length d2', .slice D9 y1.coms.length d9, .int .i64 y.depth, .string ⟨#[]⟩, .int .i64 0, .int .i64 0] := by rw [hW9]; exact (setS_row (f := .slice D1 y.files.length d1') (wv := .slice D2 y.words.length d2') (cv := .slice D9 y1.coms.length d9) (d := y.depth) (e := noErr) hx9).alloc _
          have hrA := fr9.row hr9 (by omega)
          have htA : Row W9 w9.heap.size 86 #[.string ⟨t.1.toArray⟩, .int .i64 (t.2 : Nat)] := by rw [hW9]; exact Row.new' _ _ _ (by simp [World.setCell])
          have hsA := fr9.st hst9 hx9
          have hoA1 := fr9.own ho19 (by have := HL4.out; omega)
          have hoA2 := fr9.own (own_below HO2.out hb9) (by have := HL4.out; omega)
          have hbA := fr9.below (then_ HBL.out hb9) (Nat.le_refl _) (by omega)
          have HXA := Lib.hid hxA
          have HRA := Lib.hid hrA
          have HTA := Lib.hid htA
          have HSA := Lib.hid hsA
          have HOA1 := Lib.hid hoA1
          have HOA2 := Lib.hid hoA2
          have HBA := Lib.hid hbA
          have HYW := Lib.hid hyw1
          have HYF := Lib.hid hyf1
          have HYD := Lib.hid hyd1
          have hgt : w.heap.size + 1 < w9.heap.size := lr9
          clear hx9 hr9 hst9 ho19 hb9 fr9 hxA hrA htA hsA hoA1 hoA2 hbA hW9 hxx q0 q1 q2 q3 q4 q5 q6 fq g0 g1 hyw1 hyf1 hyd1 lx lr lx9 lr9 hltb HX HR HST HO1 HO2 HBL htb
          generalize w9.heap.size = GT at *
          clear w9
          have q0 := HXA.out.cell (i := 0) (v := .slice D1 y.files.length d1') rfl
          have q1 := HXA.out.cell (i := 1) (v := .slice D2 y.words.length d2') rfl
          have q2 := HXA.out.cell (i := 2) (v := .slice D9 y1.coms.length d9) rfl
          have q3 := HXA.out.cell (i := 3) (v := .int .i64 y.depth) rfl
          have q4 := HXA.out.cell (i := 4) (v := .string ⟨#[]⟩) rfl
          have q5 := HXA.out.cell (i := 5) (v := .int .i64 0) rfl
          have q6 := HXA.out.cell (i := 6) (v := .int .i64 0) rfl
          have fq := HXA.out.free
          have lx := HXA.out.lt
          have lt := HTA.out.lt
          have p0 := HTA.out.cell (i := 0) (v := .string ⟨t.1.toArray⟩) rfl
          have p1 := HTA.out.cell (i := 1) (v := .int .i64 (t.2 : Nat)) rfl
          by_cases h1 : t.1 = [36, 93]
          · have n1 : (t.1 == [36, 93]) = true := by simpa using h1
            have HQ : Hid (r = .inr (name, (t.2 : Int), 41)) := Lib.hid (by rw [HRO.out]; exact tk_wrong HTL.out HORD.out HT.out (e := ((t.2 : Int), 41)) (by unfold wrongW; rw [if_pos h1]))
            clear h1
            go_wp2_with fail
            refine (ref_fail W9 _ _ _ y1 HSA.out y.depth name (t.2 : Nat) 41).mono ?_
            rintro ef wf ⟨rfl, hbf⟩
            simp only [sV]
            have hr0 := HRA.out.below hbf HRA.out.lt
            have z0 := hr0.cell (i := 0) (v := .slice none 0 0) rfl
            have z1 := hr0.cell (i := 1) (v := .slice none 0 0) rfl
            have z2 := hr0.cell (i := 2) (v := .slice none 0 0) rfl
            have z3 := hr0.cell (i := 3) (v := .int .i64 0) rfl
            have z4 := hr0.cell (i := 4) (v := .string ⟨#[]⟩) rfl
            have z5 := hr0.cell (i := 5) (v := .int .i64 0) rfl
            have z6 := hr0.cell (i := 6) (v := .int .i64 0) rfl
            have frf := hr0.free
            have lrf := hr0.lt
            have HRF := Lib.hid hr0
            have HSF := Lib.hid (HSA.out.below hbf)
            have HBF := Lib.hid (then_ HBA.out hbf)
            clear hr0 hbf q0 q1 q2 q3 q4 q5 q6 fq p0 p1 lx lt
            go_wp2
            rw [HQ.out]
            exact end_S (F := .slice D1 y.files.length d1') (WV := .slice D2 y.words.length d2') (CV := .slice D9 y1.coms.length d9) (d := y.depth) (e := (name, (t.2 : Nat), 41)) (x' := y1) Try.results64 rfl HRF.out HSF.out HBF.out (by omega) ⟨rfl, by simp⟩
          have n1 : (t.1 == [36, 93]) = false := by simpa using h1
          have HN1 := Lib.hid h1
          clear h1
          by_cases h2 : t.1 = [36, 91]
          · have n2 : (t.1 == [36, 91]) = true := by simpa using h2
            have HN2 := Lib.hid h2
            clear h2
            obtain ⟨bt, hbt⟩ : ∃ bt, betweenS y = bt := ⟨_, rfl⟩
            have HBT := Lib.hid hbt
            clear hbt
            go_wp2_with fail
            refine (ref_between W9 _ (.slice D2 y.words.length d2') _ y noErr (by have h0 := HSA.out.wd; rw [HYW.out] at h0; exact h0) HTL.out.ok).mono ?_
            rw [HBT.out]
            rintro e10 w10 ⟨rfl, hb10⟩
            clear q0 q1 q2 q3 q4 q5 q6 fq p0 p1 lx lt
            have hxn := HXA.out.below hb10 HXA.out.lt
            have htn := HTA.out.below hb10 HTA.out.lt
            have hrn := HRA.out.below hb10 HRA.out.lt
            replace HXA := Lib.hid hxn
            replace HTA := Lib.hid htn
            replace HRA := Lib.hid hrn
            replace HSA := Lib.hid (HSA.out.below hb10)
            replace HBA := Lib.hid (then_ HBA.out hb10)
            replace HOA1 := Lib.hid (own_below HOA1.out hb10)
            replace HOA2 := Lib.hid (own_below HOA2.out hb10)
            clear hxn htn hrn hb10
            have q0 := HXA.out.cell (i := 0) (v := .slice D1 y.files.length d1') rfl
            have q1 := HXA.out.cell (i := 1) (v := .slice D2 y.words.length d2') rfl
            have q2 := HXA.out.cell (i := 2) (v := .slice D9 y1.coms.length d9) rfl
            have q3 := HXA.out.cell (i := 3) (v := .int .i64 y.depth) rfl
            have q4 := HXA.out.cell (i := 4) (v := .string ⟨#[]⟩) rfl
            have q5 := HXA.out.cell (i := 5) (v := .int .i64 0) rfl
            have q6 := HXA.out.cell (i := 6) (v := .int .i64 0) rfl
            have fq := HXA.out.free
            have lx := HXA.out.lt
            have lt := HTA.out.lt
            have p0 := HTA.out.cell (i := 0) (v := .string ⟨t.1.toArray⟩) rfl
            have p1 := HTA.out.cell (i := 1) (v := .int .i64 (t.2 : Nat)) rfl
            cases bt with
            | false =>
              have HQ : Hid (r = .inr (name, (t.2 : Int), 43)) := Lib.hid (by rw [HRO.out]; exact tk_wrong HTL.out HORD.out HT.out (e := ((t.2 : Int), 43)) (by unfold wrongW; rw [if_neg HN1.out, if_pos HN2.out, if_pos (show betweenS (addCs y x.files.length (dueC i (cs.drop k))) = false from HBT.out)]))
              go_wp2_with fail
              refine (ref_fail w10 _ _ _ y1 HSA.out y.depth name (t.2 : Nat) 43).mono ?_
              rintro ef wf ⟨rfl, hbf⟩
              simp only [sV]
              have hr0 := HRA.out.below hbf HRA.out.lt
              have z0 := hr0.cell (i := 0) (v := .slice none 0 0) rfl
              have z1 := hr0.cell (i := 1) (v := .slice none 0 0) rfl
              have z2 := hr0.cell (i := 2) (v := .slice none 0 0) rfl
              have z3 := hr0.cell (i := 3) (v := .int .i64 0) rfl
              have z4 := hr0.cell (i := 4) (v := .string ⟨#[]⟩) rfl
              have z5 := hr0.cell (i := 5) (v := .int .i64 0) rfl
              have z6 := hr0.cell (i := 6) (v := .int .i64 0) rfl
              have frf := hr0.free
              have lrf := hr0.lt
              have HRF := Lib.hid hr0
              have HSF := Lib.hid (HSA.out.below hbf)
              have HBF := Lib.hid (then_ HBA.out hbf)
              clear hr0 hbf q0 q1 q2 q3 q4 q5 q6 fq p0 p1 lx lt
              go_wp2
              rw [HQ.out]
              exact end_S (F := .slice D1 y.files.length d1') (WV := .slice D2 y.words.length d2') (CV := .slice D9 y1.coms.length d9) (d := y.depth) (e := (name, (t.2 : Nat), 43)) (x' := y1) Try.results64 rfl HRF.out HSF.out HBF.out (by omega) ⟨rfl, by simp⟩
            | true =>
              by_cases h3 : i + 2 < ws.length
              · obtain ⟨a, ha⟩ : ∃ a, ws[i + 1]? = some a := ⟨_, List.getElem?_eq_getElem (by omega)⟩
                obtain ⟨b, hb⟩ : ∃ b, ws[i + 2]? = some b := ⟨_, List.getElem?_eq_getElem h3⟩
                have HA := Lib.hid ha
                have HB := Lib.hid hb
                have hal := (HLE.out a (List.mem_of_getElem? ha)).2
                have e3 : decide ((ws.length : Int) ≤ (i : Int) + 2) = false := decide_eq_false (by omega)
                obtain ⟨a0, a1⟩ := toks_cell (Rds.of_own HOA1.out) ha
                obtain ⟨b0, b1⟩ := toks_cell (Rds.of_own HOA1.out) hb
                obtain ⟨pb, hpb⟩ : ∃ pb, decide ((36 : UInt8) ∉ a.1) = pb := ⟨_, rfl⟩
                have HPB := Lib.hid hpb
                have j0 : (0 : Int) ≤ (i : Int) + 1 := by omega
                have j1 : (i : Int) + 1 < (ws.length : Int) := by omega
                have j2 : (i : Int) + 2 < (ws.length : Int) := by omega
                clear ha hb hpb
                go_wp2_with fail
                refine (ref_plain w10 a.1 hal).mono ?_
                rw [HPB.out]
                rintro e11 w11 ⟨rfl, rfl⟩
                cases pb with
                | false =>
                  have HQ : Hid (r = .inr (name, (t.2 : Int), 43)) := Lib.hid (by
                    rw [HRO.out]
                    exact tk_wrong HTL.out HORD.out HT.out (e := ((t.2 : Int), 43)) (by
                      unfold wrongW
                      rw [if_neg HN1.out, if_pos HN2.out, if_neg (by rw [show betweenS (addCs y x.files.length (dueC i (cs.drop k))) = true from HBT.out]; decide), HA.out, HB.out]
                      simp only
                      rw [if_pos (.inl (by have := of_decide_eq_false HPB.out; simpa using this))]))
                  clear a0 a1 b0 b1
                  go_wp2_with fail
                  refine (ref_fail w10 _ _ _ y1 HSA.out y.depth name (t.2 : Nat) 43).mono ?_
                  rintro ef wf ⟨rfl, hbf⟩
                  simp only [sV]
                  have hr0 := HRA.out.below hbf HRA.out.lt
                  have z0 := hr0.cell (i := 0) (v := .slice none 0 0) rfl
                  have z1 := hr0.cell (i := 1) (v := .slice none 0 0) rfl
                  have z2 := hr0.cell (i := 2) (v := .slice none 0 0) rfl
                  have z3 := hr0.cell (i := 3) (v := .int .i64 0) rfl
                  have z4 := hr0.cell (i := 4) (v := .string ⟨#[]⟩) rfl
                  have z5 := hr0.cell (i := 5) (v := .int .i64 0) rfl
                  have z6 := hr0.cell (i := 6) (v := .int .i64 0) rfl
                  have frf := hr0.free
                  have lrf := hr0.lt
                  have HRF := Lib.hid hr0
                  have HSF := Lib.hid (HSA.out.below hbf)
                  have HBF := Lib.hid (then_ HBA.out hbf)
                  clear hr0 hbf q0 q1 q2 q3 q4 q5 q6 fq p0 p1 lx lt
                  go_wp2
                  rw [HQ.out]
                  exact end_S (F := .slice D1 y.files.length d1') (WV := .slice D2 y.words.length d2') (CV := .slice D9 y1.coms.length d9) (d := y.depth) (e := (name, (t.2 : Nat), 43)) (x' := y1) Try.results64 rfl HRF.out HSF.out HBF.out (by omega) ⟨rfl, by simp⟩
                | true =>
                  by_cases h4 : b.1 = [36, 93]
                  · have n4 : (b.1 == [36, 93]) = true := by simpa using h4
                    have HN4 := Lib.hid h4
                    clear h4
                    go_wp2_with fail
                    refine (ref_before w10 _ _ _ (.slice B2 cs.length d2) y1 y.depth cs x.files.length k1 (i + 2) HSA.out (Rds.of_own HOA2.out) hk1l hc8 (by have := HTL.out.cl; rw [← HY1.out, addCs_len]; have := HTL.out.due i; omega) (by rw [HYW.out]; exact hyl) (by omega)).mono ?_
                    obtain ⟨y2, hy2⟩ : ∃ y2, addCs y1 x.files.length (dueC (i + 2) (cs.drop k1)) = y2 := ⟨_, rfl⟩
                    obtain ⟨k2, hk2⟩ : ∃ k2, k1 + (dueC (i + 2) (cs.drop k1)).length = k2 := ⟨_, rfl⟩
                    have HY2 := Lib.hid hy2
                    have HK2 := Lib.hid hk2
                    rw [hy2, hk2]
                    clear hy2 hk2
                    rintro e12 w12 ⟨cv12, rfl, hst12, hb12⟩
                    obtain ⟨_, _, D11, d11, rfl⟩ := hst12.form
                    simp only [sV, noErr]
                    have hx12 := HXA.out.below hb12 HXA.out.lt
                    have ht12 := HTA.out.below hb12 HTA.out.lt
                    have hr12 := HRA.out.below hb12 HRA.out.lt
                    have ho12 := own_below HOA1.out hb12
                    have hc12 := own_below HOA2.out hb12
                    have hbb12 := then_ HBA.out hb12
                    clear q0 q1 q2 q3 q4 q5 q6 fq p0 p1 lx lt a0 a1 b0 b1 hb12 HXA HTA HRA HSA HOA1 HOA2 HBA
                    have q0 := hx12.cell (i := 0) (v := .slice D1 y.files.length d1') rfl
                    have q1 := hx12.cell (i := 1) (v := .slice D2 y.words.length d2') rfl
                    have q2 := hx12.cell (i := 2) (v := .slice D9 y1.coms.length d9) rfl
                    have q3 := hx12.cell (i := 3) (v := .int .i64 y.depth) rfl
                    have q4 := hx12.cell (i := 4) (v := .string ⟨#[]⟩) rfl
                    have q5 := hx12.cell (i := 5) (v := .int .i64 0) rfl
                    have q6 := hx12.cell (i := 6) (v := .int .i64 0) rfl
                    have fq := hx12.free
                    have lx := hx12.lt
                    have HX12 := Lib.hid hx12
                    have HT12 := Lib.hid ht12
                    have HR12 := Lib.hid hr12
                    have HO12 := Lib.hid ho12
                    have HC12 := Lib.hid hc12
                    have HB12 := Lib.hid hbb12
                    have HS12 := Lib.hid hst12
                    clear hx12 ht12 hr12 ho12 hc12 hbb12 hst12
                    go_upto_region 31 with fail
                    obtain ⟨W13, hW13⟩ : ∃ W13, W13 = ((((((w12.setCell ⟨w.heap.size, 0, none⟩ (.slice D1 y.files.length d1')).setCell ⟨w.heap.size, 1, none⟩ (.slice D2 y.words.length d2')).setCell ⟨w.heap.size, 2, none⟩ (.slice D11 y2.coms.length d11)).setCell ⟨w.heap.size, 3, none⟩ (.int .i64 y.depth)).setCell ⟨w.heap.size, 4, none⟩ (.string ⟨#[]⟩)).setCell ⟨w.heap.size, 5, none⟩ (.int .i64 0)).setCell ⟨w.heap.size, 6, none⟩ (.int .i64 0) := ⟨_, rfl⟩
                    rw [← hW13]
                    have fr13 : FrX w.heap.size w12 W13 := by rw [hW13]; exact FrX.setS w12 (.slice D1 y.files.length d1') (.slice D2 y.words.length d2') (.slice D11 y2.coms.length d11) y.depth noErr
                    have hx13 : Row W13 w.heap.size 143 #[.slice D1 y.files.length d1', .slice D2 y.words.length d2', .slice D11 y2.coms.length d11, .int .i64 y.depth, .string ⟨#[]⟩, .int .i64 0, .int .i64 0] := by rw [hW13]; exact setS_row (f := .slice D1 y.files.length d1') (wv := .slice D2 y.words.length d2') (cv := .slice D11 y2.coms.length d11) (d := y.depth) (e := noErr) HX12.out
                    have ht13 := fr13.row HT12.out (by omega)
                    have hr13 := fr13.row HR12.out (by omega)
                    have hs13 := fr13.st HS12.out HX12.out
                    have ho13 := fr13.own HO12.out (by have := HL4.out; omega)
                    have hc13 := fr13.own HC12.out (by have := HL4.out; omega)
                    have hb13 := fr13.below HB12.out (Nat.le_refl _) (by have := HB12.out.size; omega)
                    obtain ⟨ok2, f2, dd2, c2', her, hin⟩ := tk_inc HTL.out HORD.out HT.out HA.out HB.out HN2.out HBT.out (of_decide_eq_true HPB.out) HN4.out HK1.out HK2.out HY1.out HY2.out
                    obtain ⟨ri, hri⟩ : ∃ ri, incS fs name (takeS fs f) y2 t a = ri := ⟨_, rfl⟩
                    rw [hri] at her hin
                    have hfl2 : 41 ≤ f + y2.files.length := by
                      have h0 := HTL.out.fp.length_le
                      rw [f2]
                      simp at h0
                      omega
                    have hcall : ∀ W, Below W13.heap.size W13 W → Calls Try.prog 100 #[sV (.slice D1 y.files.length d1') (.slice D2 y.words.length d2') (.slice D11 y2.coms.length d11) y.depth noErr, fm, .string ⟨name.toArray⟩, .int .i64 (t.2 : Nat), .agg #[.string ⟨a.1.toArray⟩, .int .i64 (a.2 : Nat)]] W (IncRes W ri) := fun W hW => by
                      have h0 := ref_include HTK.out W (.slice D1 y.files.length d1') (.slice D2 y.words.length d2') (.slice D11 y2.coms.length d11) y2 name t a (HF.out.below ((then_ hb13 hW).mono hB)) (by have := (then_ hb13 hW).size; omega) (hs13.below hW) ok2 c2' (by unfold maxLen; omega) hfl2
                      rw [hri, dd2] at h0
                      exact h0
                    have HX13 := Lib.hid hx13
                    have HR13 := Lib.hid hr13
                    have HO13 := Lib.hid ho13
                    have HC13 := Lib.hid hc13
                    have HB13 := Lib.hid hb13
                    have HER := Lib.hid her
                    have HIN := Lib.hid hin
                    clear fr13 hr13 hs13 hc13 hb13 her hin hri ok2 f2 dd2 c2' hW13 q0 q1 q2 q3 q4 q5 q6 fq lx HX12 HT12 HR12 HO12 HC12 HB12 HS12
                    refine take_call (XB := w.heap.size) (GB := GT) (ws := ws) (b := a) (x := y) (r := ri) (p := t.2) (t0 := t.1) hx13 ht13 (Rds.of_own ho13) HA.out (by omega) hcall ?_
                    intro w14 F14 WV14 CV14 d14 e14
                    intros
                    rename_i hU
                    obtain ⟨F', WV', CV', d', e', x', hUe, hst14, hbl14, hm⟩ := hU
                    obtain ⟨rfl, rfl, rfl, rfl, rfl⟩ := sV_inj hUe
                    have hbl14' : Below W13.heap.size W13 w14 := (Below.refl _ _).drew.trans hbl14
                    have hx14 := HX13.out.below hbl14' HX13.out.lt
                    obtain ⟨W15, hW15⟩ : ∃ W15, W15 = setS w14 w.heap.size F14 WV14 CV14 d14 e14 := ⟨_, rfl⟩
                    rw [← hW15]
                    have fr15 : FrX w.heap.size w14 W15 := by rw [hW15]; exact FrX.setS w14 F14 WV14 CV14 d14 e14
                    have hx15 : Row W15 w.heap.size 143 #[F14, WV14, CV14, .int .i64 d14, .string ⟨e14.1.toArray⟩, .int .i64 e14.2.1, .int .i64 e14.2.2] := by rw [hW15]; exact setS_row hx14
                    have HX15 := Lib.hid hx15
                    have HR15 := Lib.hid (fr15.row (HR13.out.below hbl14' HR13.out.lt) (by omega))
                    have HS15 := Lib.hid (fr15.st hst14 hx14)
                    have HO15 := Lib.hid (fr15.own (own_below HO13.out hbl14') (by have := HL4.out; omega))
                    have HC15 := Lib.hid (fr15.own (own_below HC13.out hbl14') (by have := HL4.out; omega))
                    have HB15 := Lib.hid (fr15.below (then_ HB13.out hbl14') (Nat.le_refl _) (by have := hx14.lt; omega))
                    have HS : Hid (TkS fs f name x ws cs R0 (i + 3) k2 d14 e14 x') := Lib.hid (by
                      cases ri with
                      | inl z =>
                        obtain ⟨e1, e2, e3⟩ := hm
                        subst e3
                        exact .inl ⟨e2, e1, HIN.out _ rfl⟩
                      | inr er =>
                        obtain ⟨e1, e2⟩ := hm
                        subst e1
                        exact .inr ⟨HER.out _ rfl, e2⟩)
                    clear hx13 ht13 ho13 hcall hm hst14 hbl14 hbl14' hx14 hW15 fr15 hx15 hUe
                    simp only [Exit.then]
                    go_wp2
                    go_roundw
                    case rel => exact ⟨i + 3, k2, F14, WV14, CV14, d14, e14, x', congrArg (Value.int .i64) (by omega), rfl, HX15.out, HR15.out, HS15.out, HO15.out, HC15.out, HB15.out, HS.out⟩
                    case measure => simp [intOf]; omega
                  · have n4 : (b.1 == [36, 93]) = false := by simpa using h4
                    have HQ : Hid (r = .inr (name, (t.2 : Int), 43)) := Lib.hid (by
                      rw [HRO.out]
                      exact tk_wrong HTL.out HORD.out HT.out (e := ((t.2 : Int), 43)) (by
                        unfold wrongW
                        rw [if_neg HN1.out, if_pos HN2.out, if_neg (by rw [show betweenS (addCs y x.files.length (dueC i (cs.drop k))) = true from HBT.out]; decide), HA.out, HB.out]
                        simp only
                        rw [if_pos (.inr h4)]))
                    clear h4
                    go_wp2_with fail
                    refine (ref_fail w10 _ _ _ y1 HSA.out y.depth name (t.2 : Nat) 43).mono ?_
                    rintro ef wf ⟨rfl, hbf⟩
                    simp only [sV]
                    have hr0 := HRA.out.below hbf HRA.out.lt
                    have z0 := hr0.cell (i := 0) (v := .slice none 0 0) rfl
                    have z1 := hr0.cell (i := 1) (v := .slice none 0 0) rfl
                    have z2 := hr0.cell (i := 2) (v := .slice none 0 0) rfl
                    have z3 := hr0.cell (i := 3) (v := .int .i64 0) rfl
                    have z4 := hr0.cell (i := 4) (v := .string ⟨#[]⟩) rfl
                    have z5 := hr0.cell (i := 5) (v := .int .i64 0) rfl
                    have z6 := hr0.cell (i := 6) (v := .int .i64 0) rfl
                    have frf := hr0.free
                    have lrf := hr0.lt
                    have HRF := Lib.hid hr0
                    have HSF := Lib.hid (HSA.out.below hbf)
                    have HBF := Lib.hid (then_ HBA.out hbf)
                    clear hr0 hbf q0 q1 q2 q3 q4 q5 q6 fq p0 p1 lx lt
                    go_wp2
                    rw [HQ.out]
                    exact end_S (F := .slice D1 y.files.length d1') (WV := .slice D2 y.words.length d2') (CV := .slice D9 y1.coms.length d9) (d := y.depth) (e := (name, (t.2 : Nat), 43)) (x' := y1) Try.results64 rfl HRF.out HSF.out HBF.out (by omega) ⟨rfl, by simp⟩
              · have e3 : decide ((ws.length : Int) ≤ (i : Int) + 2) = true := decide_eq_true (by omega)
                have HQ : Hid (r = .inr (name, (t.2 : Int), 40)) := Lib.hid (by
                  rw [HRO.out]
                  exact tk_wrong HTL.out HORD.out HT.out (e := ((t.2 : Int), 40)) (by
                    unfold wrongW
                    rw [if_neg HN1.out, if_pos HN2.out, if_neg (by rw [show betweenS (addCs y x.files.length (dueC i (cs.drop k))) = true from HBT.out]; decide)]
                    rw [show ws[i + 2]? = none from List.getElem?_eq_none (by omega)]
                    cases ws[i + 1]? <;> rfl))
                go_wp2_with fail
                refine (ref_fail w10 _ _ _ y1 HSA.out y.depth name (t.2 : Nat) 40).mono ?_
                rintro ef wf ⟨rfl, hbf⟩
                simp only [sV]
                have hr0 := HRA.out.below hbf HRA.out.lt
                have z0 := hr0.cell (i := 0) (v := .slice none 0 0) rfl
                have z1 := hr0.cell (i := 1) (v := .slice none 0 0) rfl
                have z2 := hr0.cell (i := 2) (v := .slice none 0 0) rfl
                have z3 := hr0.cell (i := 3) (v := .int .i64 0) rfl
                have z4 := hr0.cell (i := 4) (v := .string ⟨#[]⟩) rfl
                have z5 := hr0.cell (i := 5) (v := .int .i64 0) rfl
                have z6 := hr0.cell (i := 6) (v := .int .i64 0) rfl
                have frf := hr0.free
                have lrf := hr0.lt
                have HRF := Lib.hid hr0
                have HSF := Lib.hid (HSA.out.below hbf)
                have HBF := Lib.hid (then_ HBA.out hbf)
                clear hr0 hbf q0 q1 q2 q3 q4 q5 q6 fq p0 p1 lx lt
                go_wp2
                rw [HQ.out]
                exact end_S (F := .slice D1 y.files.length d1') (WV := .slice D2 y.words.length d2') (CV := .slice D9 y1.coms.length d9) (d := y.depth) (e := (name, (t.2 : Nat), 40)) (x' := y1) Try.results64 rfl HRF.out HSF.out HBF.out (by omega) ⟨rfl, by simp⟩
          · have n2 : (t.1 == [36, 91]) = false := by simpa using h2
            have HN2 := Lib.hid h2
            clear h2
            by_cases h8 : 8000 ≤ y.words.length
            · have e8 : decide ((8000 : Int) ≤ (y.words.length : Int)) = true := decide_eq_true (by omega)
              have HQ : Hid (r = .inr (name, (t.2 : Int), 8)) := Lib.hid (by rw [HRO.out]; exact tk_wrong HTL.out HORD.out HT.out (e := ((t.2 : Int), 8)) (by unfold wrongW; rw [if_neg HN1.out, if_neg HN2.out, if_pos (show 8000 ≤ (addCs y x.files.length (dueC i (cs.drop k))).words.length from h8)]))
              go_wp2_with fail
              refine (ref_fail W9 _ _ _ y1 HSA.out y.depth name (t.2 : Nat) 8).mono ?_
              rintro ef wf ⟨rfl, hbf⟩
              simp only [sV]
              have hr0 := HRA.out.below hbf HRA.out.lt
              have z0 := hr0.cell (i := 0) (v := .slice none 0 0) rfl
              have z1 := hr0.cell (i := 1) (v := .slice none 0 0) rfl
              have z2 := hr0.cell (i := 2) (v := .slice none 0 0) rfl
              have z3 := hr0.cell (i := 3) (v := .int .i64 0) rfl
              have z4 := hr0.cell (i := 4) (v := .string ⟨#[]⟩) rfl
              have z5 := hr0.cell (i := 5) (v := .int .i64 0) rfl
              have z6 := hr0.cell (i := 6) (v := .int .i64 0) rfl
              have frf := hr0.free
              have lrf := hr0.lt
              have HRF := Lib.hid hr0
              have HSF := Lib.hid (HSA.out.below hbf)
              have HBF := Lib.hid (then_ HBA.out hbf)
              clear hr0 hbf q0 q1 q2 q3 q4 q5 q6 fq p0 p1 lx lt
              go_wp2
              rw [HQ.out]
              exact end_S (F := .slice D1 y.files.length d1') (WV := .slice D2 y.words.length d2') (CV := .slice D9 y1.coms.length d9) (d := y.depth) (e := (name, (t.2 : Nat), 8)) (x' := y1) Try.results64 rfl HRF.out HSF.out HBF.out (by omega) ⟨rfl, by simp⟩
            · have e8 : decide ((8000 : Int) ≤ (y.words.length : Int)) = false := decide_eq_false (by omega)
              go_upto_region 15 with fail
              refine take_word (XB := w.heap.size) (GB := GT) (l := y.words) (q := (t.1, (x.files.length : Int), (t.2 : Int))) HXA.out rfl HTA.out (by have h0 := HSA.out.wd; rw [HYW.out] at h0; exact h0) (by omega) ?_
              intro w10 V7 V0 V4 V6
              intros
              rename_i hc
              have ho := hc.f7 rfl
              obtain ⟨A', c', rfl, _⟩ := own_form ho
              have hx10 := HXA.out.below hc.below lx
              have ht10 := HTA.out.below hc.below lt
              have hr10 := HRA.out.below hc.below HRA.out.lt
              have fr0 : FrX w.heap.size W9 (w10.setCell ⟨w.heap.size, 1, none⟩ (.slice A' (y.words.length + 1) c')) := (FrX.of_below hc.below).trans (FrX.set w10 1 _)
              have ho' : (w10.setCell ⟨w.heap.size, 1, none⟩ (.slice A' (y.words.length + 1) c')).ownsRow W9.heap.size 132 3 (.slice A' (y.words.length + 1) c') (y.words.length + 1) (y.words.flatMap wordCells ++ wordCells (t.1, (x.files.length : Int), (t.2 : Int))) := ho.kept (grown_set _ _ _ _) (.inr fun e => by have := (ho.lt _ e).1; omega)
              have hx11 := hx10.set 1 (.slice A' (y.words.length + 1) c')
              have hs1 := (HSA.out.below hc.below).store (i := 1) hx10 (.slice A' (y.words.length + 1) c')
              have hsB : StR (w10.setCell ⟨w.heap.size, 1, none⟩ (.slice A' (y.words.length + 1) c')) (.slice D1 y.files.length d1') (.slice A' (y.words.length + 1) c') (.slice D9 y1.coms.length d9) (addW y1 x.files.length t) :=
                ⟨hs1.fl, by
                  show Rds _ 3 _ (y1.words ++ [_]).length ((y1.words ++ [_]).flatMap wordCells)
                  rw [HYW.out, List.flatMap_append, List.length_append]
                  simpa using Rds.of_own ho', hs1.cm, hs1.tf, TyB.of_own ho', hs1.tc⟩
              have hrB := fr0.row HRA.out (by omega)
              have htB := ht10.other (p := ⟨w.heap.size, 1, none⟩) (by dsimp only; omega) (.slice A' (y.words.length + 1) c')
              have hoB1 := fr0.own HOA1.out (by have := HL4.out; omega)
              have hoB2 := fr0.own HOA2.out (by have := HL4.out; omega)
              have hbB := fr0.below HBA.out (Nat.le_refl _) (by omega)
              obtain ⟨W11, hW11⟩ : ∃ W11, W11 = w10.setCell ⟨w.heap.size, 1, none⟩ (.slice A' (y.words.length + 1) c') := ⟨_, rfl⟩
              rw [← hW11] at hx11 hsB hrB htB hoB1 hoB2 hbB ⊢
              have HXB := Lib.hid (show Row W11 w.heap.size 143 #[.slice D1 y.files.length d1', .slice A' (y.words.length + 1) c', .slice D9 y1.coms.length d9, .int .i64 y.depth, .string ⟨#[]⟩, .int .i64 0, .int .i64 0] from hx11)
              have HSB := Lib.hid hsB
              have HRB := Lib.hid hrB
              have HOB1 := Lib.hid hoB1
              have HOB2 := Lib.hid hoB2
              have HBB := Lib.hid hbB
              have p0' := htB.cell (i := 0) (v := .string ⟨t.1.toArray⟩) rfl
              have q3' := HXB.out.cell (i := 3) (v := .int .i64 y.depth) rfl
              have fq' := HXB.out.free
              have lx' := HXB.out.lt
              have hd1 : -8000 ≤ y.depth := by have := HTL.out.ok.dl; omega
              have hd2 : y.depth ≤ 8000 := by have := HTL.out.ok.dl; omega
              have hw := tk_word HTL.out HORD.out HT.out HN1.out HN2.out (by omega)
              rw [HY1.out, HK1.out] at hw
              have HW := Lib.hid hw
              clear hx10 ht10 hr10 fr0 ho' ho hx11 hs1 hsB hrB htB hoB1 hoB2 hbB hc hw hW11 q0 q1 q2 q3 q4 q5 q6 fq p0 p1 lx lt HXA HTA HRA HSA HOA1 HOA2 HBA
              by_cases s1 : t.1 = [36, 123]
              · have m1 : (t.1 == [36, 123]) = true := by simpa using s1
                have HDE : Hid (y.depth + 1 = (addW y1 x.files.length t).depth) := Lib.hid (by show y.depth + 1 = y1.depth + depthW t.1; rw [HYD.out]; unfold depthW; rw [if_pos s1])
                clear s1
                try clear s2
                simp only [Exit.then]
                go_wp2
                go_roundw
                case rel => exact ⟨i + 1, k1, _, _, _, y.depth + 1, noErr, addW y1 x.files.length t, by go_num, rfl, HXB.out.set 3 (.int .i64 (y.depth + 1)), (FrX.set W11 3 (.int .i64 (y.depth + 1))).row HRB.out (by omega), HSB.out.store HXB.out (.int .i64 (y.depth + 1)), (FrX.set W11 3 (.int .i64 (y.depth + 1))).own HOB1.out (by have := HL4.out; omega), (FrX.set W11 3 (.int .i64 (y.depth + 1))).own HOB2.out (by have := HL4.out; omega), (FrX.set W11 3 (.int .i64 (y.depth + 1))).below HBB.out (Nat.le_refl _) (by omega), .inl ⟨rfl, HDE.out, HW.out⟩⟩
                case measure => simp [intOf]; omega
              have m1 : (t.1 == [36, 123]) = false := by simpa using s1
              by_cases s2 : t.1 = [36, 125]
              · have m2 : (t.1 == [36, 125]) = true := by simpa using s2
                have HDE : Hid (y.depth - 1 = (addW y1 x.files.length t).depth) := Lib.hid (by show y.depth - 1 = y1.depth + depthW t.1; rw [HYD.out]; unfold depthW; rw [if_neg s1, if_pos s2]; omega)
                clear s1
                try clear s2
                simp only [Exit.then]
                go_wp2
                go_roundw
                case rel => exact ⟨i + 1, k1, _, _, _, y.depth - 1, noErr, addW y1 x.files.length t, by go_num, rfl, HXB.out.set 3 (.int .i64 (y.depth - 1)), (FrX.set W11 3 (.int .i64 (y.depth - 1))).row HRB.out (by omega), HSB.out.store HXB.out (.int .i64 (y.depth - 1)), (FrX.set W11 3 (.int .i64 (y.depth - 1))).own HOB1.out (by have := HL4.out; omega), (FrX.set W11 3 (.int .i64 (y.depth - 1))).own HOB2.out (by have := HL4.out; omega), (FrX.set W11 3 (.int .i64 (y.depth - 1))).below HBB.out (Nat.le_refl _) (by omega), .inl ⟨rfl, HDE.out, HW.out⟩⟩
                case measure => simp [intOf]; omega
              have m2 : (t.1 == [36, 125]) = false := by simpa using s2
              have HDE : Hid (y.depth = (addW y1 x.files.length t).depth) := Lib.hid (by show y.depth = y1.depth + depthW t.1; rw [HYD.out]; unfold depthW; rw [if_neg s1, if_neg s2]; omega)
              clear s1
              try clear s2
              simp only [Exit.then]
              go_wp2
              go_roundw
              case rel => exact ⟨i + 1, k1, _, _, _, y.depth, noErr, addW y1 x.files.length t, by go_num, rfl, HXB.out, HRB.out, HSB.out, HOB1.out, HOB2.out, HBB.out, .inl ⟨rfl, HDE.out, HW.out⟩⟩
              case measure => simp [intOf]; omega
        · obtain rfl : i = ws.length := by omega
          have hdue : dueC ws.length (cs.drop k) = cs.drop k := due_all fun c hc => (HORD.out.1 c (List.mem_of_mem_drop hc)).1
          have hre := runAt_end (inc := incS fs name (takeS fs f)) (name := name) (file := x.files.length) (ws := ws) (x := y) (R := cs.drop k) (cmd := [])
          have HQ : Hid (r = .inl (addCs y x.files.length (cs.drop k))) := Lib.hid (by rw [HRO.out, ← hrun2.out, hre]; rfl)
          have HDUE := Lib.hid hdue
          clear hre hdue
          go_wp2_with fail
          refine (ref_before wr _ _ _ (.slice B2 cs.length d2) y y.depth cs x.files.length k ws.length HST.out (Rds.of_own HO2.out) hkl hc8 (by omega) hyl (by omega)).mono ?_
          rw [HDUE.out]
          rintro e9 w9 ⟨cv9, rfl, hst9, hb9⟩
          obtain ⟨_, _, D9, d9, rfl⟩ := hst9.form
          simp only [sV, noErr]
          clear q0 q1 q2 q3 q4 q5 q6
          have hx9 := HX.out.below hb9 lx
          have hr9 := HR.out.below hb9 lr
          have q0 := hx9.cell (i := 0) (v := .slice D1 y.files.length d1') rfl
          have q1 := hx9.cell (i := 1) (v := .slice D2 y.words.length d2') rfl
          have q2 := hx9.cell (i := 2) (v := .slice D3 y.coms.length d3') rfl
          have q3 := hx9.cell (i := 3) (v := .int .i64 y.depth) rfl
          have q4 := hx9.cell (i := 4) (v := .string ⟨#[]⟩) rfl
          have q5 := hx9.cell (i := 5) (v := .int .i64 0) rfl
          have q6 := hx9.cell (i := 6) (v := .int .i64 0) rfl
          have fq := hx9.free
          have y0 := hr9.cell (i := 0) (v := .slice none 0 0) rfl
          have y1 := hr9.cell (i := 1) (v := .slice none 0 0) rfl
          have y2 := hr9.cell (i := 2) (v := .slice none 0 0) rfl
          have y3 := hr9.cell (i := 3) (v := .int .i64 0) rfl
          have y4 := hr9.cell (i := 4) (v := .string ⟨#[]⟩) rfl
          have y5 := hr9.cell (i := 5) (v := .int .i64 0) rfl
          have y6 := hr9.cell (i := 6) (v := .int .i64 0) rfl
          have fr := hr9.free
          have lx9 := hx9.lt
          have lr9 := hr9.lt
          have hne1 : w.heap.size + 1 ≠ w.heap.size := by omega
          have HX9 := Lib.hid hx9
          have HR9 := Lib.hid hr9
          have HST9 := Lib.hid hst9
          have HB9 := Lib.hid (then_ HBL.out hb9)
          clear hx9 hr9 hst9 hb9
          go_wp2
          rw [HQ.out]
          exact end_S (w := setS w9 w.heap.size (.slice D1 y.files.length d1') (.slice D2 y.words.length d2') (.slice D9 (addCs y x.files.length (cs.drop k)).coms.length d9) y.depth noErr) (F := .slice D1 y.files.length d1') (WV := .slice D2 y.words.length d2') (CV := .slice D9 (addCs y x.files.length (cs.drop k)).coms.length d9) (d := y.depth) (e := noErr) (x' := addCs y x.files.length (cs.drop k)) Try.results64 rfl (setS_other HR9.out hne1) (setS_st HST9.out HX9.out) (setS_below HB9.out (Nat.le_refl _)) (by omega) ⟨rfl, rfl, rfl⟩
      · have ez2 : (e.2.2 == 0) = false := by simpa using hne
        have HNE := Lib.hid hne
        have HQ : Hid (r = .inr e) := Lib.hid (by rw [HRO.out, hro])
        have y0 := HR.out.cell (i := 0) (v := .slice none 0 0) rfl
        have y1 := HR.out.cell (i := 1) (v := .slice none 0 0) rfl
        have y2 := HR.out.cell (i := 2) (v := .slice none 0 0) rfl
        have y3 := HR.out.cell (i := 3) (v := .int .i64 0) rfl
        have y4 := HR.out.cell (i := 4) (v := .string ⟨#[]⟩) rfl
        have y5 := HR.out.cell (i := 5) (v := .int .i64 0) rfl
        have y6 := HR.out.cell (i := 6) (v := .int .i64 0) rfl
        have fr := HR.out.free
        clear hne hro
        by_cases hlt : i < ws.length
        all_goals
          go_wp2
          rw [HQ.out]
          exact end_S (F := .slice D1 y.files.length d1') (WV := .slice D2 y.words.length d2') (CV := .slice D3 y.coms.length d3') (d := d) (e := e) (x' := y) Try.results64 rfl HR.out HST.out HBL.out (by omega) ⟨rfl, HNE.out⟩
  · have HQ : Hid (r = .inr (name, (stripS ((fs name).getD [])).2.2.1, (stripS ((fs name).getD [])).2.2.2)) := Lib.hid (by rw [← HRR.out]; unfold takeS; rw [if_pos hz])
    have ez : ((stripS ((fs name).getD [])).2.2.2 != 0) = true := by simpa using hz
    have HZ := Lib.hid hz
    clear hz
    go_wp2_with fail
    refine (ref_fail w5 _ _ _ (openF x name) HS5.out x.depth name ((stripS ((fs name).getD [])).2.2.1 : Nat) (stripS ((fs name).getD [])).2.2.2).mono ?_
    rintro e w6 ⟨rfl, hb6⟩
    simp only [sV]
    have hr6 := HR5.out.below hb6 HR5.out.lt
    have y0 := hr6.cell (i := 0) (v := .slice none 0 0) rfl
    have y1 := hr6.cell (i := 1) (v := .slice none 0 0) rfl
    have y2 := hr6.cell (i := 2) (v := .slice none 0 0) rfl
    have y3 := hr6.cell (i := 3) (v := .int .i64 0) rfl
    have y4 := hr6.cell (i := 4) (v := .string ⟨#[]⟩) rfl
    have y5 := hr6.cell (i := 5) (v := .int .i64 0) rfl
    have y6 := hr6.cell (i := 6) (v := .int .i64 0) rfl
    have fr := hr6.free
    have HR6 := Lib.hid hr6
    have HS6 := Lib.hid (HS5.out.below hb6)
    have HB6 := Lib.hid (then_ HB5.out hb6)
    clear hr6 hb6 q0 q1 q2 q3 q4 q5 q6
    go_wp2
    rw [HQ.out]
    exact end_S (F := .slice V3 (x.files.length + 1) vc3) (WV := .slice A2 x.words.length c2) (CV := .slice A3 x.coms.length c3) (d := x.depth) (e := (name, ((stripS ((fs name).getD [])).2.2.1 : Nat), (stripS ((fs name).getD [])).2.2.2)) (x' := openF x name) Try.results64 rfl HR6.out HS6.out HB6.out (by omega) ⟨rfl, HZ.out⟩
end Go.Proofs.Ytignhjfobcnloaa
end
section
namespace Go.Proofs.Ytignhjfobcnloaa
open Go.RowKit
attribute [local go_sem ↓] Go.wp_at_zero Go.wp_at_succ
theorem take_R {B : Nat} {fm : Value} {fs : List UInt8 → Option (List UInt8)} : ∀ f, TakeR f B fm fs
  | 0 => fun _ _ _ _ _ _ _ _ _ _ _ _ h40 hfu => absurd hfu (by omega)
  | f + 1 => ref_take_step (take_R f)
/-- what the reference's Read returns -/
def RReadPost (w : World) (r : RdS ⊕ ErrD) (e : Ending) (w' : World) : Prop := match r with
  | .inl y => ∃ vf vw vc, e = .returned (.tuple #[.agg #[vf, vw, vc], .agg #[.string ⟨#[]⟩, .int .i64 0], .int .i64 0]) ∧ Strs w' vf y.files ∧ WordsAt w' vw y.words ∧ ComfAt w' vc y.coms ∧ Below w.heap.size w w'
  | .inr x => e = .returned (.tuple #[.agg #[.slice none 0 0, .slice none 0 0, .slice none 0 0], .agg #[.string ⟨x.1.toArray⟩, .int .i64 x.2.1], .int .i64 x.2.2]) ∧ Below w.heap.size w w'
theorem StR.storeT {w : World} {f wv cv : Value} {x : RdS} {g i : Nat} {t : TypeId} {cs : Array Value} (h : StR w f wv cv x) (hr : Row w g t cs) (h1 : t ≠ 9) (h2 : t ≠ 132) (h3 : t ≠ 148) (u : Value) : StR (w.setCell ⟨g, i, none⟩ u) f wv cv x :=
  ⟨Rds.store h.fl h.tf hr h1 u, Rds.store h.wd h.tw hr h2 u, Rds.store h.cm h.tc hr h3 u, h.tf.store hr h1 u, h.tw.store hr h2 u, h.tc.store hr h3 u⟩
set_option maxRecDepth 100000 in
set_option maxHeartbeats 4000000 in
theorem ref_read (w : World) (mb : Option Nat) (fs : List UInt8 → Option (List UInt8)) (main : List UInt8) (hF : FilesAt w.heap.size w (.map mb) fs) (hn : main.length ≤ maxLen) :
    Calls Try.prog 33 #[.map mb, .string ⟨main.toArray⟩] w (RReadPost w (readS fs main)) := by
  obtain ⟨W2, hW2⟩ : ∃ W2, W2 = (w.alloc (.cells #[.slice none 0 0, .slice none 0 0, .slice none 0 0] 65)).alloc (.cells #[.string ⟨#[]⟩, .int .i64 0] 59) := ⟨_, rfl⟩
  have hb2 : Below w.heap.size w W2 := by rw [hW2]; exact new_ (new_ (Below.refl _ _) _) _
  have hz2 : W2.heap.size = w.heap.size + 1 + 1 := by rw [hW2]; simp
  have hu2 : Row W2 w.heap.size 65 #[.slice none 0 0, .slice none 0 0, .slice none 0 0] := by rw [hW2]; exact (Row.new _ _ _).alloc _
  have hf2 : Row W2 (w.heap.size + 1) 59 #[.string ⟨#[]⟩, .int .i64 0] := by rw [hW2]; exact Row.new' _ _ _ (by simp)
  have l1 := (hF.look W2 (fun k hk => hb2.block k hk) main hn).1
  have HF := Lib.hid hF
  have HB2 := Lib.hid hb2
  have HZ2 := Lib.hid hz2
  have HU2 := Lib.hid hu2
  have HF2 := Lib.hid hf2
  have HW2 := Lib.hid hW2
  clear hF hb2 hz2 hu2 hf2
  rw [hW2] at l1
  clear hW2
  cases hfs : fs main with
  | none =>
    have HR : Hid (readS fs main = .inr (main, 0, 44)) := Lib.hid (by unfold readS; rw [hfs])
    rw [hfs] at l1
    clear hfs
    go_enter Try.func33, Try.ntmps33
    go_wp2
    rw [HR.out]
    exact bodyPost_ret (v := .tuple #[.agg #[.slice none 0 0, .slice none 0 0, .slice none 0 0], .agg #[.string ⟨main.toArray⟩, .int .i64 0], .int .i64 44]) (by simp [results, Try.results33, go_sem]) rfl ⟨rfl, new_ (new_ (Below.refl _ _) _) _⟩
  | some text =>
    have HR : Hid (readS fs main = takeS fs 41 ⟨[], [], [], 0⟩ main) := Lib.hid (by unfold readS; rw [hfs])
    rw [hfs] at l1
    clear hfs
    have HTK := Lib.hid (take_R (B := w.heap.size) (fm := .map mb) (fs := fs) 41 W2 (.slice none 0 0) (.slice none 0 0) (.slice none 0 0) ⟨[], [], [], 0⟩ main (HF.out.below HB2.out) HB2.out.size ⟨Rds.nil_, Rds.nil_, Rds.nil_, TyB.nil, TyB.nil, TyB.nil⟩ ⟨by simp, by simp, by simp⟩ (by simp) hn (by simp) (by simp))
    go_enter Try.func33, Try.ntmps33
    go_wp2_with fail
    rw [← HW2.out]
    refine HTK.out.mono ?_
    rintro e w3 ⟨U, rfl, F, WV, CV, d, er, x', rfl, hst, hb3, hm⟩
    obtain ⟨⟨A1, c1, rfl⟩, ⟨A2, c2, rfl⟩, A3, c3, rfl⟩ := hst.form
    simp only [sV]
    clear l1
    have hu3 := HU2.out.below hb3 HU2.out.lt
    have hf3 := HF2.out.below hb3 HF2.out.lt
    have HU3 := Lib.hid hu3
    have HF3 := Lib.hid hf3
    have HB3 := Lib.hid (then_ HB2.out hb3)
    have HS3 := Lib.hid hst
    have lu := hf3.lt
    clear hu3 hf3 hb3 hst
    cases hr : takeS fs 41 ⟨[], [], [], 0⟩ main with
    | inr er' =>
      rw [hr] at hm HR
      clear hr
      obtain ⟨rfl, hne⟩ := hm
      have ez : (er.2.2 != 0) = true := by simpa using hne
      have HNE := Lib.hid hne
      clear hne
      have u0 := HU3.out.cell (i := 0) (v := .slice none 0 0) rfl
      have u1 := HU3.out.cell (i := 1) (v := .slice none 0 0) rfl
      have u2 := HU3.out.cell (i := 2) (v := .slice none 0 0) rfl
      have f0 := HF3.out.cell (i := 0) (v := .string ⟨#[]⟩) rfl
      have f1 := HF3.out.cell (i := 1) (v := .int .i64 0) rfl
      have fu := HU3.out.free
      have ff := HF3.out.free
      have lu0 := HU3.out.lt
      go_upto_region 6 with fail
      clear u0 u1 u2 f0 f1 fu ff
      obtain ⟨W4, hW4⟩ : ∃ W4, W4 = w3.alloc (.cells #[.slice A1 x'.files.length c1, .slice A2 x'.words.length c2, .slice A3 x'.coms.length c3, .int .i64 d, .string ⟨er.1.toArray⟩, .int .i64 er.2.1, .int .i64 er.2.2] 143) := ⟨_, rfl⟩
      rw [← hW4]
      have hg : Row W4 w3.heap.size 143 #[.slice A1 x'.files.length c1, .slice A2 x'.words.length c2, .slice A3 x'.coms.length c3, .int .i64 d, .string ⟨er.1.toArray⟩, .int .i64 er.2.1, .int .i64 er.2.2] := by rw [hW4]; exact Row.new _ _ _
      have hu4 : Row W4 w.heap.size 65 #[.slice none 0 0, .slice none 0 0, .slice none 0 0] := by rw [hW4]; exact HU3.out.alloc _
      have hf4 : Row W4 (w.heap.size + 1) 59 #[.string ⟨#[]⟩, .int .i64 0] := by rw [hW4]; exact HF3.out.alloc _
      have HB4 : Hid (Below w.heap.size w W4) := Lib.hid (by rw [hW4]; exact new_ HB3.out _)
      have g4 := hg.cell (i := 4) (v := .string ⟨er.1.toArray⟩) rfl
      have g5 := hg.cell (i := 5) (v := .int .i64 er.2.1) rfl
      have g6 := hg.cell (i := 6) (v := .int .i64 er.2.2) rfl
      have u0 := hu4.cell (i := 0) (v := .slice none 0 0) rfl
      have u1 := hu4.cell (i := 1) (v := .slice none 0 0) rfl
      have u2 := hu4.cell (i := 2) (v := .slice none 0 0) rfl
      have fu0 := hu4.free 0
      have fu1 := hu4.free 1
      have fu2 := hu4.free 2
      have f0 := hf4.cell (i := 0) (v := .string ⟨#[]⟩) rfl
      have f1 := hf4.cell (i := 1) (v := .int .i64 0) rfl
      have ff0 := hf4.free 0
      have ff1 := hf4.free 1
      have lg := hg.lt
      have lu4 := hu4.lt
      have lf4 := hf4.lt
      have HU4 := Lib.hid hu4
      have HF4 := Lib.hid hf4
      clear hg hu4 hf4 hW4
      generalize w3.heap.size = gw at *
      generalize hgu : w.heap.size = gu at *
      have n1 : gu ≠ gw := by omega
      have n2 : gu + 1 ≠ gw := by omega
      have n3 : gu + 1 ≠ gu := by omega
      have n4 : gu ≠ gu + 1 := by omega
      go_region_held3 (fun w' => w'.cell? ⟨gw, 4, none⟩ = some (.string ⟨er.1.toArray⟩) ∧ w'.cell? ⟨gw, 5, none⟩ = some (.int .i64 er.2.1) ∧ w'.cell? ⟨gw, 6, none⟩ = some (.int .i64 er.2.2)) (go_keep) (fail)
      go_wp2
      have qa := (((((HU4.out.set 0 (.slice none 0 0)).set 1 (.slice none 0 0)).set 2 (.slice none 0 0)).other (p := ⟨gu + 1, 0, none⟩) n4 (.string ⟨er.1.toArray⟩)).other (p := ⟨gu + 1, 1, none⟩) n4 (.int .i64 er.2.1))
      have qb := ((((HF4.out.other (p := ⟨gu, 0, none⟩) n3 (.slice none 0 0)).other (p := ⟨gu, 1, none⟩) n3 (.slice none 0 0)).other (p := ⟨gu, 2, none⟩) n3 (.slice none 0 0)).set 0 (.string ⟨er.1.toArray⟩)).set 1 (.int .i64 er.2.1)
      have hbw := ((((HB4.out.setCell (p := ⟨gu, 0, none⟩) (Nat.le_refl _) (.slice none 0 0)).setCell (p := ⟨gu, 1, none⟩) (Nat.le_refl _) (.slice none 0 0)).setCell (p := ⟨gu, 2, none⟩) (Nat.le_refl _) (.slice none 0 0)).setCell (p := ⟨gu + 1, 0, none⟩) (Nat.le_succ _) (.string ⟨er.1.toArray⟩)).setCell (p := ⟨gu + 1, 1, none⟩) (Nat.le_succ _) (.int .i64 er.2.1)
      obtain ⟨W9, hW9⟩ : ∃ W9, W9 = ((((W4.setCell ⟨gu, 0, none⟩ (.slice none 0 0)).setCell ⟨gu, 1, none⟩ (.slice none 0 0)).setCell ⟨gu, 2, none⟩ (.slice none 0 0)).setCell ⟨gu + 1, 0, none⟩ (.string ⟨er.1.toArray⟩)).setCell ⟨gu + 1, 1, none⟩ (.int .i64 er.2.1) := ⟨_, rfl⟩
      rw [← hW9] at qa qb hbw ⊢
      have a0 := qa.cell (i := 0) (v := .slice none 0 0) rfl
      have a1 := qa.cell (i := 1) (v := .slice none 0 0) rfl
      have a2 := qa.cell (i := 2) (v := .slice none 0 0) rfl
      have b0 := qb.cell (i := 0) (v := .string ⟨er.1.toArray⟩) rfl
      have b1 := qb.cell (i := 1) (v := .int .i64 er.2.1) rfl
      rw [HR.out]
      exact bodyPost_ret (v := .tuple #[.agg #[.slice none 0 0, .slice none 0 0, .slice none 0 0], .agg #[.string ⟨er.1.toArray⟩, .int .i64 er.2.1], .int .i64 er.2.2]) (by simp [results, Try.results33, go_sem, a0, a1, a2, b0, b1]) rfl ⟨rfl, by rw [hgu]; exact hbw.drew⟩
    | inl y =>
      rw [hr] at hm HR
      clear hr
      obtain ⟨rfl, rfl, rfl⟩ := hm
      simp only [noErr]
      have u0 := HU3.out.cell (i := 0) (v := .slice none 0 0) rfl
      have u1 := HU3.out.cell (i := 1) (v := .slice none 0 0) rfl
      have u2 := HU3.out.cell (i := 2) (v := .slice none 0 0) rfl
      have f0 := HF3.out.cell (i := 0) (v := .string ⟨#[]⟩) rfl
      have f1 := HF3.out.cell (i := 1) (v := .int .i64 0) rfl
      have fu := HU3.out.free
      have ff := HF3.out.free
      have lu0 := HU3.out.lt
      go_wp2
      have n3 : w.heap.size + 1 ≠ w.heap.size := by omega
      have n4 : w.heap.size ≠ w.heap.size + 1 := by omega
      have r0 := HU3.out
      have r1 := r0.set 0 (.slice A1 x'.files.length c1)
      have r2 := r1.set 1 (.slice A2 x'.words.length c2)
      have r3 := r2.set 2 (.slice A3 x'.coms.length c3)
      have r4 := r3.other (p := ⟨w.heap.size + 1, 0, none⟩) n4 (.string ⟨#[]⟩)
      have r5 := r4.other (p := ⟨w.heap.size + 1, 1, none⟩) n4 (.int .i64 0)
      have k1 := HF3.out.other (p := ⟨w.heap.size, 0, none⟩) n3 (.slice A1 x'.files.length c1)
      have k2 := k1.other (p := ⟨w.heap.size, 1, none⟩) n3 (.slice A2 x'.words.length c2)
      have k3 := k2.other (p := ⟨w.heap.size, 2, none⟩) n3 (.slice A3 x'.coms.length c3)
      have k4 := k3.set 0 (.string ⟨#[]⟩)
      have k5 := k4.set 1 (.int .i64 0)
      have s5 := ((((HS3.out.storeT (i := 0) r0 (by decide) (by decide) (by decide) (.slice A1 x'.files.length c1)).storeT (i := 1) r1 (by decide) (by decide) (by decide) (.slice A2 x'.words.length c2)).storeT (i := 2) r2 (by decide) (by decide) (by decide) (.slice A3 x'.coms.length c3)).storeT (i := 0) k3 (by decide) (by decide) (by decide) (.string ⟨#[]⟩)).storeT (i := 1) k4 (by decide) (by decide) (by decide) (.int .i64 0)
      have hbw := ((((HB3.out.setCell (p := ⟨w.heap.size, 0, none⟩) (Nat.le_refl _) (.slice A1 x'.files.length c1)).setCell (p := ⟨w.heap.size, 1, none⟩) (Nat.le_refl _) (.slice A2 x'.words.length c2)).setCell (p := ⟨w.heap.size, 2, none⟩) (Nat.le_refl _) (.slice A3 x'.coms.length c3)).setCell (p := ⟨w.heap.size + 1, 0, none⟩) (Nat.le_succ _) (.string ⟨#[]⟩)).setCell (p := ⟨w.heap.size + 1, 1, none⟩) (Nat.le_succ _) (.int .i64 0)
      obtain ⟨W9, hW9⟩ : ∃ W9, W9 = ((((w3.setCell ⟨w.heap.size, 0, none⟩ (.slice A1 x'.files.length c1)).setCell ⟨w.heap.size, 1, none⟩ (.slice A2 x'.words.length c2)).setCell ⟨w.heap.size, 2, none⟩ (.slice A3 x'.coms.length c3)).setCell ⟨w.heap.size + 1, 0, none⟩ (.string ⟨#[]⟩)).setCell ⟨w.heap.size + 1, 1, none⟩ (.int .i64 0) := ⟨_, rfl⟩
      rw [← hW9] at r5 k5 s5 hbw ⊢
      have q5 := r5.alloc (.cells #[.slice A1 x'.files.length c1, .slice A2 x'.words.length c2, .slice A3 x'.coms.length c3, .int .i64 x'.depth, .string ⟨#[]⟩, .int .i64 0, .int .i64 0] 143)
      have j5 := k5.alloc (.cells #[.slice A1 x'.files.length c1, .slice A2 x'.words.length c2, .slice A3 x'.coms.length c3, .int .i64 x'.depth, .string ⟨#[]⟩, .int .i64 0, .int .i64 0] 143)
      have s6 := s5.below (new_ (Below.refl _ _) (.cells #[.slice A1 x'.files.length c1, .slice A2 x'.words.length c2, .slice A3 x'.coms.length c3, .int .i64 x'.depth, .string ⟨#[]⟩, .int .i64 0, .int .i64 0] 143))
      have a0 := q5.cell (i := 0) (v := .slice A1 x'.files.length c1) rfl
      have a1 := q5.cell (i := 1) (v := .slice A2 x'.words.length c2) rfl
      have a2 := q5.cell (i := 2) (v := .slice A3 x'.coms.length c3) rfl
      have b0 := j5.cell (i := 0) (v := .string ⟨#[]⟩) rfl
      have b1 := j5.cell (i := 1) (v := .int .i64 0) rfl
      rw [HR.out]
      refine bodyPost_ret (v := .tuple #[.agg #[.slice A1 x'.files.length c1, .slice A2 x'.words.length c2, .slice A3 x'.coms.length c3], .agg #[.string ⟨#[]⟩, .int .i64 0], .int .i64 0]) ?_ rfl ⟨_, _, _, rfl, s6.fl, s6.wd, s6.cm, new_ hbw _⟩
      simp [results, Try.results33, go_sem, a0, a1, a2, b0, b1]
end Go.Proofs.Ytignhjfobcnloaa
end
