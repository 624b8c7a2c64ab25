/- same: two units that read as the same lists; what Read and the reference's Read return, as one view. SourceReads: Read of any files, Texts and Locate of what it returns. -/
import Derived.Test.YtignhjfobcnloaaTakeC
import Derived.Test.YtignhjfobcnloaaRefB
import Derived.Test.YtignhjfobcnloaaLawUnits
import Derived.Test.YtignhjfobcnloaaFewA
section
namespace Go.Proofs.Ytignhjfobcnloaa
open Go.RowKit
attribute [local go_sem ↓] Go.wp_at_zero Go.wp_at_succ
theorem heldRWord : Try.prog.stoodInHeld 132 = false := by kernel_rfl
theorem equal_rwords (w : World) (v1 v2 : Value) (l : List WordD) (h1 : WordsAt w v1 l) (h2 : WordsAt w v2 l) :
    Calls Try.prog 65 #[v1, v2] w fun e w' => e = .returned (.bool true) ∧ Below w.heap.size w w' := by
  obtain ⟨A1, c1, rfl, hc1, hm1, hx1⟩ := h1.open_
  obtain ⟨A2, c2, rfl, hc2, hm2, hx2⟩ := h2.open_
  unfold maxLen at hm1 hm2
  have hh := heldRWord
  go_enter Try.func65, Try.ntmps65
  go_wp2
  go_loopw [13] (fun i wr => ∃ k n : Nat, k ≤ l.length ∧ i = .int .i64 k ∧ wr = w.drewN n) (fun i _ => l.length - (intOf i).toNat)
  case atStart => exact ⟨0, 0, Nat.zero_le _, rfl, rfl⟩
  case round =>
    obtain ⟨k, n, hk, rfl, rfl⟩ := hrel
    by_cases hlt : k < l.length
    · obtain ⟨y, hy⟩ : ∃ y, l[k]? = some y := ⟨_, List.getElem?_eq_getElem hlt⟩
      obtain ⟨b1, o1, rfl, s1, s2, s3⟩ := hx1 k y hy
      obtain ⟨b2, o2, rfl, r1, r2, r3⟩ := hx2 k y hy
      clear hx1 hx2 hy
      go_wp2
      go_region
      go_wp2
      go_roundw
      case rel => exact ⟨k + 1, n + 1, by omega, by go_num, rfl⟩
      case measure => simp [intOf]; omega
    · go_wp2
      go_ret
      exact ⟨rfl, below_drewN (Below.refl _ _) n⟩
theorem equal_rcomf (w : World) (v1 v2 : Value) (l : List ComF) (h1 : ComfAt w v1 l) (h2 : ComfAt w v2 l) :
    Calls Try.prog 66 #[v1, v2] w fun e w' => e = .returned (.bool true) ∧ Below w.heap.size w w' := by
  obtain ⟨A1, c1, rfl, hc1, hm1, hx1⟩ := h1.open_
  obtain ⟨A2, c2, rfl, hc2, hm2, hx2⟩ := h2.open_
  unfold maxLen at hm1 hm2
  have hh := heldRCom
  go_enter Try.func66, Try.ntmps66
  go_wp2
  go_loopw [13] (fun i wr => ∃ k n : Nat, k ≤ l.length ∧ i = .int .i64 k ∧ wr = w.drewN n) (fun i _ => l.length - (intOf i).toNat)
  case atStart => exact ⟨0, 0, Nat.zero_le _, rfl, rfl⟩
  case round =>
    obtain ⟨k, n, hk, rfl, rfl⟩ := hrel
    by_cases hlt : k < l.length
    · obtain ⟨y, hy⟩ : ∃ y, l[k]? = some y := ⟨_, List.getElem?_eq_getElem hlt⟩
      obtain ⟨b1, o1, rfl, s1, s2, s3, s4⟩ := hx1 k y hy
      obtain ⟨b2, o2, rfl, r1, r2, r3, r4⟩ := hx2 k y hy
      clear hx1 hx2 hy
      go_wp2
      go_region
      go_wp2
      go_roundw
      case rel => exact ⟨k + 1, n + 1, by omega, by go_num, rfl⟩
      case measure => simp [intOf]; omega
    · go_wp2
      go_ret
      exact ⟨rfl, below_drewN (Below.refl _ _) n⟩
/-- a unit's three slices read as the lists of x -/
structure UnitAt (w : World) (f wv cv : Value) (x : RdS) : Prop where
  fl : Strs w f x.files
  wd : WordsAt w wv x.words
  cm : ComfAt w cv x.coms
theorem UnitAt.below {w w' : World} {f wv cv : Value} {x : RdS} (h : UnitAt w f wv cv x) (hb : Below w.heap.size w w') : UnitAt w' f wv cv x := ⟨h.fl.below hb, h.wd.below hb, h.cm.below hb⟩
theorem UnitAt.form {w : World} {f wv cv : Value} {x : RdS} (h : UnitAt w f wv cv x) : (∃ A c, f = .slice A x.files.length c) ∧ (∃ A c, wv = .slice A x.words.length c) ∧ ∃ A c, cv = .slice A x.coms.length c := by
  obtain ⟨A1, c1, rfl, _⟩ := h.fl
  obtain ⟨A2, c2, rfl, _⟩ := h.wd
  obtain ⟨A3, c3, rfl, _⟩ := h.cm
  exact ⟨⟨_, _, rfl⟩, ⟨_, _, rfl⟩, _, _, rfl⟩
set_option maxRecDepth 100000 in
theorem same_any (w : World) (f1 w1 c1 f2 w2 c2 : Value) (x : RdS) (h1 : UnitAt w f1 w1 c1 x) (h2 : UnitAt w f2 w2 c2 x) :
    Calls Try.prog 34 #[.agg #[f1, w1, c1], .agg #[f2, w2, c2]] w fun e w' => e = .returned (.bool true) ∧ Below w.heap.size w w' := by
  obtain ⟨⟨A1, a1, rfl⟩, ⟨B1, b1, rfl⟩, C1, d1, rfl⟩ := h1.form
  obtain ⟨⟨A2, a2, rfl⟩, ⟨B2, b2, rfl⟩, C2, d2, rfl⟩ := h2.form
  obtain ⟨W2, hW2⟩ : ∃ W2, W2 = (w.alloc (.cells #[.slice A1 x.files.length a1, .slice B1 x.words.length b1, .slice C1 x.coms.length d1] 65)).alloc (.cells #[.slice A2 x.files.length a2, .slice B2 x.words.length b2, .slice C2 x.coms.length d2] 65) := ⟨_, rfl⟩
  have hb : Below w.heap.size w W2 := by rw [hW2]; exact new_ (new_ (Below.refl _ _) _) _
  have r1 : Row W2 w.heap.size 65 #[.slice A1 x.files.length a1, .slice B1 x.words.length b1, .slice C1 x.coms.length d1] := by rw [hW2]; exact (Row.new _ _ _).alloc _
  have r2 : Row W2 (w.heap.size + 1) 65 #[.slice A2 x.files.length a2, .slice B2 x.words.length b2, .slice C2 x.coms.length d2] := by rw [hW2]; exact Row.new' _ _ _ (by simp)
  have H1 := Lib.hid (h1.below hb)
  have H2 := Lib.hid (h2.below hb)
  have HB := Lib.hid hb
  have R1 := Lib.hid r1
  have R2 := Lib.hid r2
  have HW := Lib.hid hW2
  clear h1 h2 hb r1 r2 hW2
  go_enter Try.func34, Try.ntmps34
  go_wp2_with fail
  rw [← HW.out]
  refine (equal_str_same W2 _ _ x.files H1.out.fl H2.out.fl).mono ?_
  rintro e w3 ⟨rfl, hb3⟩
  have q1 := (R1.out.below hb3 R1.out.lt).cell (i := 1) (v := .slice B1 x.words.length b1) rfl
  have q2 := (R2.out.below hb3 R2.out.lt).cell (i := 1) (v := .slice B2 x.words.length b2) rfl
  have HB3 := Lib.hid hb3
  clear hb3
  go_wp2_with fail
  refine (equal_rwords w3 _ _ x.words (H1.out.below HB3.out).wd (H2.out.below HB3.out).wd).mono ?_
  rintro e w4 ⟨rfl, hb4⟩
  clear q1 q2
  have hb4' := then_ HB3.out hb4
  have q1 := (R1.out.below hb4' R1.out.lt).cell (i := 2) (v := .slice C1 x.coms.length d1) rfl
  have q2 := (R2.out.below hb4' R2.out.lt).cell (i := 2) (v := .slice C2 x.coms.length d2) rfl
  have HB4 := Lib.hid hb4'
  clear hb4 hb4'
  go_wp2_with fail
  refine (equal_rcomf w4 _ _ x.coms (H1.out.below HB4.out).cm (H2.out.below HB4.out).cm).mono ?_
  rintro e w5 ⟨rfl, hb5⟩
  have HB5 := Lib.hid (then_ HB.out (then_ HB4.out hb5))
  clear hb5 q1 q2
  go_wp2
  go_ret
  exact ⟨rfl, HB5.out⟩
/-- what both return: the unit, the error's file, its place, its code -/
def outV : RdS ⊕ ErrD → RdS × List UInt8 × Int × Int
  | .inl y => (y, [], 0, 0)
  | .inr x => (⟨[], [], [], 0⟩, x.1, x.2.1, x.2.2)
def ReadView (w : World) (o : RdS × List UInt8 × Int × Int) (e : Ending) (w' : World) : Prop :=
  ∃ vf vw vc, e = .returned (.tuple #[.agg #[vf, vw, vc], .agg #[.string ⟨o.2.1.toArray⟩, .int .i64 o.2.2.1], .int .i64 o.2.2.2]) ∧ UnitAt w' vf vw vc o.1 ∧ Below w.heap.size w w'
theorem read_view (w : World) (mb : Option Nat) (fs : List UInt8 → Option (List UInt8)) (main : List UInt8) (hF : FilesAt w.heap.size w (.map mb) fs) (hn : main.length ≤ maxLen) :
    Calls Try.prog 32 #[.map mb, .string ⟨main.toArray⟩] w (ReadView w (outV (readS fs main))) := by
  refine (read_any w mb fs main hF hn).mono ?_
  intro e w' h
  cases hr : readS fs main with
  | inl y =>
    rw [hr] at h
    obtain ⟨vf, vw, vc, he, h1, h2, h3, hb⟩ := h
    exact ⟨vf, vw, vc, he, ⟨strs_of_own h1 rfl, Rds.of_own h2, Rds.of_own h3⟩, hb⟩
  | inr x =>
    rw [hr] at h
    exact ⟨_, _, _, h.1, ⟨Rds.nil_, Rds.nil_, Rds.nil_⟩, h.2⟩
theorem ref_read_view (w : World) (mb : Option Nat) (fs : List UInt8 → Option (List UInt8)) (main : List UInt8) (hF : FilesAt w.heap.size w (.map mb) fs) (hn : main.length ≤ maxLen) :
    Calls Try.prog 33 #[.map mb, .string ⟨main.toArray⟩] w (ReadView w (outV (readS fs main))) := by
  refine (ref_read w mb fs main hF hn).mono ?_
  intro e w' h
  cases hr : readS fs main with
  | inl y =>
    rw [hr] at h
    obtain ⟨vf, vw, vc, he, h1, h2, h3, hb⟩ := h
    exact ⟨vf, vw, vc, he, ⟨h1, h2, h3⟩, hb⟩
  | inr x =>
    rw [hr] at h
    exact ⟨_, _, _, h.1, ⟨Rds.nil_, Rds.nil_, Rds.nil_⟩, h.2⟩
theorem out_small {fs : List UInt8 → Option (List UInt8)} {main : List UInt8} {o : RdS × List UInt8 × Int × Int} (h : outV (readS fs main) = o) : o.1.files.length ≤ 40 ∧ o.1.words.length ≤ 8000 ∧ o.1.coms.length ≤ 320000 := by
  subst h
  cases hr : readS fs main with
  | inr x => simp [outV]
  | inl y =>
    have h1 := (readS_once hr).2.2.1
    show y.files.length ≤ 40 ∧ y.words.length ≤ 8000 ∧ y.coms.length ≤ 320000
    refine ⟨h1.fl, h1.wl, ?_⟩
    unfold readS at hr
    split at hr
    · cases hr
    · have h2 := (takeS_more fs 41 _ _ _ hr).2.1
      have h3 := h1.fl
      simp at h2
      omega
end Go.Proofs.Ytignhjfobcnloaa
end
section
namespace Go.Proofs.Ytignhjfobcnloaa
open Go.RowKit
attribute [local go_sem ↓] Go.wp_at_zero Go.wp_at_succ
set_option maxRecDepth 100000 in
set_option maxHeartbeats 8000000 in
theorem law_reads (w : World) (mb : Option Nat) (fs : List UInt8 → Option (List UInt8)) (main : List UInt8) (k : Int) (hF : FilesAt w.heap.size w (.map mb) fs) (hfew : Calls Try.prog 31 #[.map mb] w (FewPost w fs)) (hM : MaxAt w) (hn : main.length ≤ maxLen) :
    Calls Try.prog 6 #[.map mb, .string ⟨main.toArray⟩, .int .i64 k] w fun e w' => e = .returned (.bool true) ∧ Below w.heap.size w w' := by
  have HF := Lib.hid hF
  have HN := Lib.hid hn
  have HM := Lib.hid hM
  have HFEW := Lib.hid hfew
  obtain ⟨⟨y, s, p, z⟩, ho⟩ : ∃ o, outV (readS fs main) = o := ⟨_, rfl⟩
  obtain ⟨n1, n2, n3⟩ := out_small ho
  have HO := Lib.hid ho
  obtain ⟨⟨⟨g, q⟩, c⟩, hl⟩ : ∃ r, locS y.files y.words k = r := ⟨_, rfl⟩
  have HL := Lib.hid hl
  clear hF hn hM hfew ho hl
  dsimp only at n1 n2 n3
  go_enter Try.func6, Try.ntmps6
  go_wp2_with fail
  refine HFEW.out.mono ?_
  rintro e w1 ⟨b, rfl, -, hb1⟩
  have HB1 := Lib.hid hb1
  have hs1 := hb1.size
  clear hb1
  cases b with
  | false =>
    go_wp2_with (go_at_call 25; refine (awake02 _ (HM.out.below HB1.out)).mono ?_; rintro e w2 ⟨rfl, hb2⟩)
    go_ret
    exact ⟨rfl, then_ HB1.out hb2⟩
  | true =>
    go_wp2_with fail
    refine (read_view w1 mb fs main (HF.out.up hs1 HB1.out) HN.out).mono ?_
    rw [HO.out]
    rintro e w2 ⟨vf, vw, vc, rfl, hu, hb2⟩
    obtain ⟨⟨A1, a1, rfl⟩, ⟨A2, a2, rfl⟩, A3, a3, rfl⟩ := hu.form
    have HU2 := Lib.hid hu
    have HB2 := Lib.hid (then_ HB1.out hb2)
    clear hu hb2
    dsimp only
    go_wp2_with fail
    obtain ⟨W3, hW3⟩ : ∃ W3, W3 = (w2.alloc (.cells #[.slice A1 y.files.length a1, .slice A2 y.words.length a2, .slice A3 y.coms.length a3] 54)).alloc (.cells #[.string ⟨s.toArray⟩, .int .i64 p] 56) := ⟨_, rfl⟩
    rw [← hW3]
    have hb3 : Below w2.heap.size w2 W3 := by rw [hW3]; exact new_ (new_ (Below.refl _ _) _) _
    have RU := Lib.hid (show Row W3 w2.heap.size 54 #[.slice A1 y.files.length a1, .slice A2 y.words.length a2, .slice A3 y.coms.length a3] by rw [hW3]; exact (Row.new _ _ _).alloc _)
    have RF := Lib.hid (show Row W3 (w2.heap.size + 1) 56 #[.string ⟨s.toArray⟩, .int .i64 p] by rw [hW3]; exact Row.new' _ _ _ (by simp))
    have HU3 := Lib.hid (HU2.out.below hb3)
    have HB3 := Lib.hid (then_ HB2.out hb3)
    have hs3 := HB3.out.size
    have hg12 : w2.heap.size < w2.heap.size + 1 := Nat.lt_succ_self _
    clear hW3 hb3 HU2 HB2
    generalize hgf : w2.heap.size + 1 = gf at *
    generalize w2.heap.size = gu at *
    clear w2
    refine (ref_read_view W3 mb fs main (HF.out.up hs3 HB3.out) HN.out).mono ?_
    rw [HO.out]
    rintro e w4 ⟨vf, vw, vc, rfl, hu, hb4⟩
    obtain ⟨⟨E1, e1, rfl⟩, ⟨E2, e2, rfl⟩, E3, e3, rfl⟩ := hu.form
    have RU4 := Lib.hid (RU.out.below hb4 RU.out.lt)
    have RF4 := Lib.hid (RF.out.below hb4 RF.out.lt)
    have HU4 := Lib.hid (HU3.out.below hb4)
    have HV4 := Lib.hid hu
    have HB4 := Lib.hid (then_ HB3.out hb4)
    have lu4 := RU4.out.lt
    have lf4 := RF4.out.lt
    clear hu hb4 RU RF HU3 HB3
    dsimp only
    go_upto_region 5 with fail
    obtain ⟨W5, hW5⟩ : ∃ W5, W5 = (w4.alloc (.cells #[.slice E1 y.files.length e1, .slice E2 y.words.length e2, .slice E3 y.coms.length e3] 65)).alloc (.cells #[.string ⟨s.toArray⟩, .int .i64 p] 59) := ⟨_, rfl⟩
    rw [← hW5]
    have hb5 : Below w4.heap.size w4 W5 := by rw [hW5]; exact new_ (new_ (Below.refl _ _) _) _
    have RV5 := Lib.hid (show Row W5 w4.heap.size 65 #[.slice E1 y.files.length e1, .slice E2 y.words.length e2, .slice E3 y.coms.length e3] by rw [hW5]; exact (Row.new _ _ _).alloc _)
    have RG5 := Lib.hid (show Row W5 (w4.heap.size + 1) 59 #[.string ⟨s.toArray⟩, .int .i64 p] by rw [hW5]; exact Row.new' _ _ _ (by simp))
    have RU5 := Lib.hid (RU4.out.below hb5 RU4.out.lt)
    have RF5 := Lib.hid (RF4.out.below hb5 RF4.out.lt)
    have HU5 := Lib.hid (HU4.out.below hb5)
    have HV5 := Lib.hid (HV4.out.below hb5)
    have HB5 := Lib.hid (then_ HB4.out hb5)
    clear hW5 hb5 RU4 RF4 HU4 HV4 HB4
    generalize w4.heap.size + 1 = gw at *
    generalize w4.heap.size = gv at *
    have HX := Lib.hid (show Below W5.heap.size W5 W5.drew from (Below.refl _ _).drew)
    have u0 := (RU5.out.below HX.out RU5.out.lt).cell (i := 0) (v := .slice A1 y.files.length a1) rfl
    have u1 := (RU5.out.below HX.out RU5.out.lt).cell (i := 1) (v := .slice A2 y.words.length a2) rfl
    have u2 := (RU5.out.below HX.out RU5.out.lt).cell (i := 2) (v := .slice A3 y.coms.length a3) rfl
    have v0 := (RV5.out.below HX.out RV5.out.lt).cell (i := 0) (v := .slice E1 y.files.length e1) rfl
    have v1 := (RV5.out.below HX.out RV5.out.lt).cell (i := 1) (v := .slice E2 y.words.length e2) rfl
    have v2 := (RV5.out.below HX.out RV5.out.lt).cell (i := 2) (v := .slice E3 y.coms.length e3) rfl
    have f0 := (RF5.out.below HX.out RF5.out.lt).cell (i := 0) (v := .string ⟨s.toArray⟩) rfl
    have f1 := (RF5.out.below HX.out RF5.out.lt).cell (i := 1) (v := .int .i64 p) rfl
    have g0 := (RG5.out.below HX.out RG5.out.lt).cell (i := 0) (v := .string ⟨s.toArray⟩) rfl
    have g1 := (RG5.out.below HX.out RG5.out.lt).cell (i := 1) (v := .int .i64 p) rfl
    have s1 : (s == s) = true := by simp
    have s2 : (p == p) = true := by simp
    have s3 : (z == z) = true := by simp
    have hh := heldFault
    clear lu4 lf4
    go_region_held3 (fun w' => w'.cell? ⟨gu, 0, none⟩ = some (.slice A1 y.files.length a1) ∧ w'.cell? ⟨gu, 1, none⟩ = some (.slice A2 y.words.length a2) ∧ w'.cell? ⟨gu, 2, none⟩ = some (.slice A3 y.coms.length a3) ∧ w'.cell? ⟨gv, 0, none⟩ = some (.slice E1 y.files.length e1) ∧ w'.cell? ⟨gv, 1, none⟩ = some (.slice E2 y.words.length e2) ∧ w'.cell? ⟨gv, 2, none⟩ = some (.slice E3 y.coms.length e3) ∧ w'.cell? ⟨gf, 0, none⟩ = some (.string ⟨s.toArray⟩) ∧ w'.cell? ⟨gf, 1, none⟩ = some (.int .i64 p) ∧ w'.cell? ⟨gw, 0, none⟩ = some (.string ⟨s.toArray⟩) ∧ w'.cell? ⟨gw, 1, none⟩ = some (.int .i64 p)) (exact ⟨u0, u1, u2, v0, v1, v2, f0, f1, g0, g1⟩)
      (first
        | (go_at_call 28; (refine (unit_any _ _ _ _ y.words y.coms y.files (HU5.out.below HX.out).fl (HU5.out.below HX.out).wd (HU5.out.below HX.out).cm (by omega) (by omega)).mono ?_; rintro e w6 ⟨wv6, cv6, rfl, hw6, hc6, hb6⟩; clear u0 u1 u2 v0 v1 v2 f0 f1 g0 g1; have HT6 := Lib.hid (show UnitAt w6 (.slice A1 y.files.length a1) wv6 cv6 y from ⟨((HU5.out.below HX.out).below hb6).fl, hw6, hc6⟩); have HX := Lib.hid (then_ HX.out hb6); clear hb6 hw6 hc6; have u0 := (RU5.out.below HX.out RU5.out.lt).cell (i := 0) (v := .slice A1 y.files.length a1) rfl; have u1 := (RU5.out.below HX.out RU5.out.lt).cell (i := 1) (v := .slice A2 y.words.length a2) rfl; have u2 := (RU5.out.below HX.out RU5.out.lt).cell (i := 2) (v := .slice A3 y.coms.length a3) rfl; have v0 := (RV5.out.below HX.out RV5.out.lt).cell (i := 0) (v := .slice E1 y.files.length e1) rfl; have v1 := (RV5.out.below HX.out RV5.out.lt).cell (i := 1) (v := .slice E2 y.words.length e2) rfl; have v2 := (RV5.out.below HX.out RV5.out.lt).cell (i := 2) (v := .slice E3 y.coms.length e3) rfl; have f0 := (RF5.out.below HX.out RF5.out.lt).cell (i := 0) (v := .string ⟨s.toArray⟩) rfl; have f1 := (RF5.out.below HX.out RF5.out.lt).cell (i := 1) (v := .int .i64 p) rfl; have g0 := (RG5.out.below HX.out RG5.out.lt).cell (i := 0) (v := .string ⟨s.toArray⟩) rfl; have g1 := (RG5.out.below HX.out RG5.out.lt).cell (i := 1) (v := .int .i64 p) rfl))
        | (go_at_call 34; (refine (same_any _ _ _ _ _ _ _ y HT6.out (HV5.out.below HX.out)).mono ?_; rintro e w7 ⟨rfl, hb7⟩; clear u0 u1 u2 v0 v1 v2 f0 f1 g0 g1; have HX := Lib.hid (then_ HX.out hb7); clear hb7; have u0 := (RU5.out.below HX.out RU5.out.lt).cell (i := 0) (v := .slice A1 y.files.length a1) rfl; have u1 := (RU5.out.below HX.out RU5.out.lt).cell (i := 1) (v := .slice A2 y.words.length a2) rfl; have u2 := (RU5.out.below HX.out RU5.out.lt).cell (i := 2) (v := .slice A3 y.coms.length a3) rfl; have v0 := (RV5.out.below HX.out RV5.out.lt).cell (i := 0) (v := .slice E1 y.files.length e1) rfl; have v1 := (RV5.out.below HX.out RV5.out.lt).cell (i := 1) (v := .slice E2 y.words.length e2) rfl; have v2 := (RV5.out.below HX.out RV5.out.lt).cell (i := 2) (v := .slice E3 y.coms.length e3) rfl; have f0 := (RF5.out.below HX.out RF5.out.lt).cell (i := 0) (v := .string ⟨s.toArray⟩) rfl; have f1 := (RF5.out.below HX.out RF5.out.lt).cell (i := 1) (v := .int .i64 p) rfl; have g0 := (RG5.out.below HX.out RG5.out.lt).cell (i := 0) (v := .string ⟨s.toArray⟩) rfl; have g1 := (RG5.out.below HX.out RG5.out.lt).cell (i := 1) (v := .int .i64 p) rfl)))
    clear f0 f1 g0 g1
    have RU7 := Lib.hid (RU5.out.below HX.out RU5.out.lt)
    have RV7 := Lib.hid (RV5.out.below HX.out RV5.out.lt)
    have HU7 := Lib.hid (HU5.out.below HX.out)
    have HV7 := Lib.hid (HV5.out.below HX.out)
    have HB7 := Lib.hid (then_ HB5.out HX.out)
    clear HX HU5 HV5 HB5 RU5 RV5 RF5 RG5 HT6 hh s1 s2
    go_wp2_with fail
    refine (locate_any _ _ _ _ y.files y.words k HU7.out.fl HU7.out.wd _ HL.out).mono ?_
    rintro e w8 ⟨rfl, hb8⟩
    unfold locV
    dsimp only
    clear u0 u1 u2 v0 v1 v2
    have RU8 := Lib.hid (RU7.out.below hb8 RU7.out.lt)
    have RV8 := Lib.hid (RV7.out.below hb8 RV7.out.lt)
    have HU8 := Lib.hid (HU7.out.below hb8)
    have HV8 := Lib.hid (HV7.out.below hb8)
    have HB8 := Lib.hid (then_ HB7.out hb8)
    clear hb8 RU7 RV7 HU7 HV7 HB7
    go_upto_region 8 with fail
    obtain ⟨W9, hW9⟩ : ∃ W9, W9 = w8.alloc (.cells #[.string ⟨g.toArray⟩, .int .i64 q] 56) := ⟨_, rfl⟩
    rw [← hW9]
    have hb9 : Below w8.heap.size w8 W9 := by rw [hW9]; exact new_ (Below.refl _ _) _
    have RL0 := Lib.hid (show Row W9 w8.heap.size 56 #[.string ⟨g.toArray⟩, .int .i64 q] by rw [hW9]; exact Row.new _ _ _)
    have RU0 := Lib.hid (RU8.out.below hb9 RU8.out.lt)
    have RV0 := Lib.hid (RV8.out.below hb9 RV8.out.lt)
    have HU0 := Lib.hid (HU8.out.below hb9)
    have HV0 := Lib.hid (HV8.out.below hb9)
    have HB0 := Lib.hid (then_ HB8.out hb9)
    have v0 := RV0.out.cell (i := 0) (v := .slice E1 y.files.length e1) rfl
    have v1 := RV0.out.cell (i := 1) (v := .slice E2 y.words.length e2) rfl
    have v2 := RV0.out.cell (i := 2) (v := .slice E3 y.coms.length e3) rfl
    clear hW9 hb9 RU8 RV8 HU8 HV8 HB8
    generalize w8.heap.size = gl at *
    clear w8
    go_wp2_with fail
    refine (ref_locate _ _ _ _ y.files y.words k HV0.out.fl HV0.out.wd _ HL.out).mono ?_
    rintro e w10 ⟨rfl, hb10⟩
    unfold locV
    dsimp only
    clear v0 v1 v2
    have RU8 := Lib.hid (RU0.out.below hb10 RU0.out.lt)
    have RV8 := Lib.hid (RV0.out.below hb10 RV0.out.lt)
    have RL8 := Lib.hid (RL0.out.below hb10 RL0.out.lt)
    have HU8 := Lib.hid (HU0.out.below hb10)
    have HV8 := Lib.hid (HV0.out.below hb10)
    have HB8 := Lib.hid (then_ HB0.out hb10)
    clear hb10 RU0 RV0 RL0 HU0 HV0 HB0
    go_upto_region 9 with fail
    obtain ⟨W11, hW11⟩ : ∃ W11, W11 = w10.alloc (.cells #[.string ⟨g.toArray⟩, .int .i64 q] 59) := ⟨_, rfl⟩
    rw [← hW11]
    have hb11 : Below w10.heap.size w10 W11 := by rw [hW11]; exact new_ (Below.refl _ _) _
    have RM9 := Lib.hid (show Row W11 w10.heap.size 59 #[.string ⟨g.toArray⟩, .int .i64 q] by rw [hW11]; exact Row.new _ _ _)
    have RU9 := Lib.hid (RU8.out.below hb11 RU8.out.lt)
    have RV9 := Lib.hid (RV8.out.below hb11 RV8.out.lt)
    have RL9 := Lib.hid (RL8.out.below hb11 RL8.out.lt)
    have HU9 := Lib.hid (HU8.out.below hb11)
    have HV9 := Lib.hid (HV8.out.below hb11)
    have HB9 := Lib.hid (then_ HB8.out hb11)
    clear hW11 hb11 RU8 RV8 RL8 HU8 HV8 HB8
    generalize w10.heap.size = gm at *
    clear w10
    have HX := Lib.hid (show Below W11.heap.size W11 W11.drew from (Below.refl _ _).drew)
    have u0 := (RU9.out.below HX.out RU9.out.lt).cell (i := 0) (v := .slice A1 y.files.length a1) rfl
    have u1 := (RU9.out.below HX.out RU9.out.lt).cell (i := 1) (v := .slice A2 y.words.length a2) rfl
    have u2 := (RU9.out.below HX.out RU9.out.lt).cell (i := 2) (v := .slice A3 y.coms.length a3) rfl
    have v0 := (RV9.out.below HX.out RV9.out.lt).cell (i := 0) (v := .slice E1 y.files.length e1) rfl
    have v1 := (RV9.out.below HX.out RV9.out.lt).cell (i := 1) (v := .slice E2 y.words.length e2) rfl
    have v2 := (RV9.out.below HX.out RV9.out.lt).cell (i := 2) (v := .slice E3 y.coms.length e3) rfl
    have l0 := (RL9.out.below HX.out RL9.out.lt).cell (i := 0) (v := .string ⟨g.toArray⟩) rfl
    have l1 := (RL9.out.below HX.out RL9.out.lt).cell (i := 1) (v := .int .i64 q) rfl
    have m0 := (RM9.out.below HX.out RM9.out.lt).cell (i := 0) (v := .string ⟨g.toArray⟩) rfl
    have m1 := (RM9.out.below HX.out RM9.out.lt).cell (i := 1) (v := .int .i64 q) rfl
    have s1 : (g == g) = true := by simp
    have s2 : (q == q) = true := by simp
    have s4 : (c == c) = true := by simp
    have hh := heldFault
    go_region_held3 (fun w' => w'.cell? ⟨gu, 0, none⟩ = some (.slice A1 y.files.length a1) ∧ w'.cell? ⟨gu, 1, none⟩ = some (.slice A2 y.words.length a2) ∧ w'.cell? ⟨gu, 2, none⟩ = some (.slice A3 y.coms.length a3) ∧ w'.cell? ⟨gv, 0, none⟩ = some (.slice E1 y.files.length e1) ∧ w'.cell? ⟨gv, 1, none⟩ = some (.slice E2 y.words.length e2) ∧ w'.cell? ⟨gv, 2, none⟩ = some (.slice E3 y.coms.length e3) ∧ w'.cell? ⟨gl, 0, none⟩ = some (.string ⟨g.toArray⟩) ∧ w'.cell? ⟨gl, 1, none⟩ = some (.int .i64 q) ∧ w'.cell? ⟨gm, 0, none⟩ = some (.string ⟨g.toArray⟩) ∧ w'.cell? ⟨gm, 1, none⟩ = some (.int .i64 q)) (exact ⟨u0, u1, u2, v0, v1, v2, l0, l1, m0, m1⟩)
      (first
        | (go_at_call 29; (refine (texts_any _ _ _ _ y.words (HU9.out.below HX.out).wd (by omega)).mono ?_; rintro e w12 ⟨v12, rfl, hv12, hb12⟩; clear u0 u1 u2 v0 v1 v2 l0 l1 m0 m1; obtain ⟨q12, c12, rfl⟩ := hv12.form; (try (have HT2 := Lib.hid (HT2.out.below hb12))); have HT1 := Lib.hid hv12; have HX := Lib.hid (then_ HX.out hb12); clear hb12 hv12; have u0 := (RU9.out.below HX.out RU9.out.lt).cell (i := 0) (v := .slice A1 y.files.length a1) rfl; have u1 := (RU9.out.below HX.out RU9.out.lt).cell (i := 1) (v := .slice A2 y.words.length a2) rfl; have u2 := (RU9.out.below HX.out RU9.out.lt).cell (i := 2) (v := .slice A3 y.coms.length a3) rfl; have v0 := (RV9.out.below HX.out RV9.out.lt).cell (i := 0) (v := .slice E1 y.files.length e1) rfl; have v1 := (RV9.out.below HX.out RV9.out.lt).cell (i := 1) (v := .slice E2 y.words.length e2) rfl; have v2 := (RV9.out.below HX.out RV9.out.lt).cell (i := 2) (v := .slice E3 y.coms.length e3) rfl; have l0 := (RL9.out.below HX.out RL9.out.lt).cell (i := 0) (v := .string ⟨g.toArray⟩) rfl; have l1 := (RL9.out.below HX.out RL9.out.lt).cell (i := 1) (v := .int .i64 q) rfl; have m0 := (RM9.out.below HX.out RM9.out.lt).cell (i := 0) (v := .string ⟨g.toArray⟩) rfl; have m1 := (RM9.out.below HX.out RM9.out.lt).cell (i := 1) (v := .int .i64 q) rfl))
        | (go_at_call 30; (refine (ref_texts _ _ _ _ y.words (HV9.out.below HX.out).wd (by omega)).mono ?_; rintro e w13 ⟨v13, rfl, hv13, hb13⟩; clear u0 u1 u2 v0 v1 v2 l0 l1 m0 m1; obtain ⟨q13, c13, rfl⟩ := hv13.form; (try (have HT1 := Lib.hid (HT1.out.below hb13))); have HT2 := Lib.hid hv13; have HX := Lib.hid (then_ HX.out hb13); clear hb13 hv13; have u0 := (RU9.out.below HX.out RU9.out.lt).cell (i := 0) (v := .slice A1 y.files.length a1) rfl; have u1 := (RU9.out.below HX.out RU9.out.lt).cell (i := 1) (v := .slice A2 y.words.length a2) rfl; have u2 := (RU9.out.below HX.out RU9.out.lt).cell (i := 2) (v := .slice A3 y.coms.length a3) rfl; have v0 := (RV9.out.below HX.out RV9.out.lt).cell (i := 0) (v := .slice E1 y.files.length e1) rfl; have v1 := (RV9.out.below HX.out RV9.out.lt).cell (i := 1) (v := .slice E2 y.words.length e2) rfl; have v2 := (RV9.out.below HX.out RV9.out.lt).cell (i := 2) (v := .slice E3 y.coms.length e3) rfl; have l0 := (RL9.out.below HX.out RL9.out.lt).cell (i := 0) (v := .string ⟨g.toArray⟩) rfl; have l1 := (RL9.out.below HX.out RL9.out.lt).cell (i := 1) (v := .int .i64 q) rfl; have m0 := (RM9.out.below HX.out RM9.out.lt).cell (i := 0) (v := .string ⟨g.toArray⟩) rfl; have m1 := (RM9.out.below HX.out RM9.out.lt).cell (i := 1) (v := .int .i64 q) rfl))
        | (go_at_call 18; (refine (equal_str_same _ _ _ _ HT1.out HT2.out).mono ?_; rintro e w14 ⟨rfl, hb14⟩; clear u0 u1 u2 v0 v1 v2 l0 l1 m0 m1; have HX := Lib.hid (then_ HX.out hb14); clear hb14; have u0 := (RU9.out.below HX.out RU9.out.lt).cell (i := 0) (v := .slice A1 y.files.length a1) rfl; have u1 := (RU9.out.below HX.out RU9.out.lt).cell (i := 1) (v := .slice A2 y.words.length a2) rfl; have u2 := (RU9.out.below HX.out RU9.out.lt).cell (i := 2) (v := .slice A3 y.coms.length a3) rfl; have v0 := (RV9.out.below HX.out RV9.out.lt).cell (i := 0) (v := .slice E1 y.files.length e1) rfl; have v1 := (RV9.out.below HX.out RV9.out.lt).cell (i := 1) (v := .slice E2 y.words.length e2) rfl; have v2 := (RV9.out.below HX.out RV9.out.lt).cell (i := 2) (v := .slice E3 y.coms.length e3) rfl; have l0 := (RL9.out.below HX.out RL9.out.lt).cell (i := 0) (v := .string ⟨g.toArray⟩) rfl; have l1 := (RL9.out.below HX.out RL9.out.lt).cell (i := 1) (v := .int .i64 q) rfl; have m0 := (RM9.out.below HX.out RM9.out.lt).cell (i := 0) (v := .string ⟨g.toArray⟩) rfl; have m1 := (RM9.out.below HX.out RM9.out.lt).cell (i := 1) (v := .int .i64 q) rfl))
        | (go_at_call 25; (refine (awake02 _ (HM.out.below (then_ HB9.out HX.out))).mono ?_; rintro e w15 ⟨rfl, hb15⟩; clear u0 u1 u2 v0 v1 v2 l0 l1 m0 m1; have HX := Lib.hid (then_ HX.out hb15); clear hb15; have u0 := (RU9.out.below HX.out RU9.out.lt).cell (i := 0) (v := .slice A1 y.files.length a1) rfl; have u1 := (RU9.out.below HX.out RU9.out.lt).cell (i := 1) (v := .slice A2 y.words.length a2) rfl; have u2 := (RU9.out.below HX.out RU9.out.lt).cell (i := 2) (v := .slice A3 y.coms.length a3) rfl; have v0 := (RV9.out.below HX.out RV9.out.lt).cell (i := 0) (v := .slice E1 y.files.length e1) rfl; have v1 := (RV9.out.below HX.out RV9.out.lt).cell (i := 1) (v := .slice E2 y.words.length e2) rfl; have v2 := (RV9.out.below HX.out RV9.out.lt).cell (i := 2) (v := .slice E3 y.coms.length e3) rfl; have l0 := (RL9.out.below HX.out RL9.out.lt).cell (i := 0) (v := .string ⟨g.toArray⟩) rfl; have l1 := (RL9.out.below HX.out RL9.out.lt).cell (i := 1) (v := .int .i64 q) rfl; have m0 := (RM9.out.below HX.out RM9.out.lt).cell (i := 0) (v := .string ⟨g.toArray⟩) rfl; have m1 := (RM9.out.below HX.out RM9.out.lt).cell (i := 1) (v := .int .i64 q) rfl)))
    all_goals
      go_wp2
      go_ret
      exact ⟨rfl, then_ HB9.out HX.out⟩
end Go.Proofs.Ytignhjfobcnloaa
end
