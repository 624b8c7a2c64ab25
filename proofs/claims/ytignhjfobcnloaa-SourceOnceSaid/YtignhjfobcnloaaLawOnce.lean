/- SourceOnce: no file is taken twice, each word stands in its file, the same include command once more changes nothing. -/
import Derived.Test.YtignhjfobcnloaaSrcOnce2
import Derived.Test.YtignhjfobcnloaaSrcView
import Derived.Test.YtignhjfobcnloaaSrcVals2
import Derived.Test.YtignhjfobcnloaaFewA
import Derived.Test.YtignhjfobcnloaaLawStrip
import Derived.Deep.CutRange
import Derived.StillTailTactics
namespace Go.Proofs.Ytignhjfobcnloaa
open Go.RowKit Go.Maps
attribute [local go_sem ↓] Go.wp_at_zero Go.wp_at_succ
theorem isSymbol_any (w : World) (s : List UInt8) :
    Calls Try.prog 40 #[.string ⟨s.toArray⟩] w fun e w' => e = .returned (.bool (decide (onlyS s [2, 3]))) ∧ Below w.heap.size w w' := by
  go_enter Try.func40, Try.ntmps40
  go_wp2_with (go_at_call 71; refine (only_any _ s _ [2, 3] (Rds.lit (size := 1) w 5 #[.int .u8 2, .int .u8 3] 2 rfl (by decide))).mono ?_; rintro e w' ⟨rfl, hb⟩)
  go_ret
  exact ⟨rfl, then_ (new_ (Below.refl _ _) _) hb⟩
theorem prefix_any (w : World) (s p : List UInt8) (h : p <+: s) : Calls Try.prog 39 #[.string ⟨s.toArray⟩, .string ⟨p.toArray⟩] w fun e w' => e = .returned (.bool true) ∧ w = w' := by
  refine (Try.strings_HasPrefix ⟨s.toArray⟩ ⟨p.toArray⟩ w).mono ?_
  rintro e w' ⟨he, hw⟩
  refine ⟨?_, hw.symm⟩
  rw [he]
  have : Lib.hasPrefix s p = true := by unfold Lib.hasPrefix; simpa using h
  rw [show (ByteArray.mk s.toArray).data.toList = s from rfl, show (ByteArray.mk p.toArray).data.toList = p from rfl, this]
theorem concat_run2 {a b c : ByteArray} (h : a ++ b = c) (hl : a.size + b.size ≤ 9000) : Op.stringOp .add a b = pure (.string c) := by
  unfold Op.stringOp
  have e : ¬ (((a.size + b.size : Nat) : Int) > IntKind.i64.max) := by
    have : IntKind.i64.max = 9223372036854775807 := rfl
    omega
  simp only [if_neg e, h]
set_option maxRecDepth 100000 in
set_option maxHeartbeats 16000000 in
theorem law_once {H : Type} (w : World) (mb : Option Nat) (fs : List UInt8 → Option (List UInt8)) (main : List UInt8) (hm : FilesM H w mb fs) (hM : MaxAt w) (hn : main.length ≤ maxLen) :
    Calls Try.prog 8 #[.map mb, .string ⟨main.toArray⟩] w fun e w' => e = .returned (.bool true) ∧ Below w.heap.size w w' := by
  have HF := Lib.hid (hm.at_ hM)
  have HFEW := Lib.hid hm.few
  have HFM := Lib.hid hm
  have HN := Lib.hid hn
  have HM := Lib.hid hM
  have hmm := @run_makeMap Try.prog
  clear hm hM hn
  go_enter Try.func8, Try.ntmps8
  go_wp2_with fail
  refine HFEW.out.mono ?_
  rintro e w1 ⟨b, rfl, hz, hb1⟩
  have HB1 := Lib.hid hb1
  have hs1 := hb1.size
  clear hb1
  cases b with
  | false =>
    clear hz
    go_wp2_with (go_at_call 25; refine (awake02 _ (HM.out.below HB1.out)).mono ?_; rintro e w2 ⟨rfl, hb2⟩)
    go_ret
    exact ⟨rfl, then_ HB1.out hb2⟩
  | true =>
    have HZ := Lib.hid (hz rfl)
    clear hz
    go_wp2_with fail
    refine (read_view w1 mb fs main (HF.out.up hs1 HB1.out) HN.out).mono ?_
    cases hr : readS fs main with
    | inr er =>
      have ez : (er.2.2 != 0) = true := by simpa using readS_err hr
      clear hr
      rintro e w2 ⟨vf, vw, vc, rfl, hu, hb2⟩
      obtain ⟨⟨A1, a1, rfl⟩, ⟨A2, a2, rfl⟩, A3, a3, rfl⟩ := hu.form
      have HB2 := Lib.hid (then_ HB1.out hb2)
      clear hu hb2
      simp only [outV, List.length_nil]
      go_wp2_with (go_at_call 25; refine (awake02 _ (HM.out.below (new_ (new_ HB2.out _) _))).mono ?_; rintro e w3 ⟨rfl, hb3⟩)
      go_ret
      exact ⟨rfl, then_ (new_ (new_ HB2.out _) _) hb3⟩
    | inl u =>
      have HR := Lib.hid hr
      clear hr
      rintro e w2 ⟨vf, vw, vc, rfl, hu, hb2⟩
      obtain ⟨⟨A1, a1, rfl⟩, ⟨A2, a2, rfl⟩, A3, a3, rfl⟩ := hu.form
      obtain ⟨n1, n2, n3⟩ := out_small (fs := fs) (main := main) (o := (u, [], 0, 0)) (by rw [HR.out]; rfl)
      dsimp only at n1 n2 n3
      obtain ⟨hnd, hst, _, hpre⟩ := readS_once HR.out
      obtain ⟨hms, hnm⟩ := readS_named HR.out
      have HU2 := Lib.hid hu
      have HB2 := Lib.hid (then_ HB1.out hb2)
      have HND := Lib.hid hnd
      have HST := Lib.hid hst
      have HPRE := Lib.hid hpre
      have HMS := Lib.hid hms
      have HNM := Lib.hid hnm
      clear hu hb2 hnd hst hpre hms hnm
      simp only [outV]
      go_upto_region 4 with fail
      obtain ⟨W3, hW3⟩ : ∃ W3, W3 = (w2.alloc (.cells #[.slice A1 u.files.length a1, .slice A2 u.words.length a2, .slice A3 u.coms.length a3] 54)).alloc (.cells #[.string ⟨#[]⟩, .int .i64 0] 56) := ⟨_, rfl⟩
      rw [← hW3]
      have hb3 : Below w2.heap.size w2 W3 := by rw [hW3]; exact new_ (new_ (Below.refl _ _) _) _
      have RU := Lib.hid (show Row W3 w2.heap.size 54 #[.slice A1 u.files.length a1, .slice A2 u.words.length a2, .slice A3 u.coms.length a3] by rw [hW3]; exact (Row.new _ _ _).alloc _)
      have HU3 := Lib.hid (HU2.out.below hb3)
      have HB3 := Lib.hid (then_ HB2.out hb3)
      clear hW3 hb3 HU2 HB2
      generalize w2.heap.size + 1 = gf at *
      generalize w2.heap.size = gu at *
      clear w2
      have u0 := RU.out.cell (i := 0) (v := .slice A1 u.files.length a1) rfl
      have lu := RU.out.lt
      go_wp2
      clear u0
      go_loopw [51] (fun i wr => ∃ k : Nat, k ≤ u.files.length ∧ i = .int .i64 k ∧ SetM wr W3.heap.size (u.files.take k) ∧ Below W3.heap.size W3 wr) (fun i _ => u.files.length - (intOf i).toNat)
      case atStart => exact ⟨0, Nat.zero_le _, rfl, SetM.new W3, new_ (Below.refl _ _) _⟩
      case round =>
        obtain ⟨k, hk, rfl, hset, hbw⟩ := hrel
        by_cases hlt : k < u.files.length
        · obtain ⟨t, ht⟩ : ∃ t, u.files[k]? = some t := ⟨_, List.getElem?_eq_getElem hlt⟩
          have htl : t.length ≤ maxLen := by
            have h1 := HNM.out t (List.mem_of_getElem? ht)
            obtain ⟨tx, htx⟩ := Option.isSome_iff_exists.1 h1
            have := HZ.out t tx htx
            unfold maxLen
            omega
          obtain ⟨_, _, hv, _, _, hxx⟩ := (HU3.out.fl.below hbw).open_
          obtain ⟨b, o, hA, g0⟩ := hxx k t ht
          have hnk : t ∉ u.files.take k := by
            intro hin
            have h1 := HND.out
            rw [← List.take_append_drop k u.files, List.nodup_append] at h1
            exact h1.2.2 t hin t (List.mem_of_getElem? (i := 0) (by rw [List.getElem?_drop]; simpa using ht)) rfl
          have hlook := hset.look t htl
          rw [decide_eq_false hnk] at hlook
          obtain ⟨wp, hput, hset2, hg⟩ := hset.put t htl (by unfold maxLen; simp; omega)
          have eA : A1 = some ⟨b, o, none⟩ := by injection hv with h1; exact h1.trans hA
          subst eA
          have HS2 : Hid (SetM wp W3.heap.size (u.files.take (k + 1))) := Lib.hid (by rw [take_snoc ht]; exact hset2)
          have HB := Lib.hid (hbw.grown hg hbw.size (fun j hj => by cases hj; exact Nat.le_refl _))
          clear hnk hset hset2 hg hbw hxx hv hA ht htl
          go_wp2
          go_roundw
          case rel => exact ⟨k + 1, by omega, by go_num, HS2.out, HB.out⟩
          case measure => simp [intOf]; omega
        · obtain rfl : k = u.files.length := by omega
          have HBW := Lib.hid hbw
          clear hset hbw
          go_upto_region 14 with fail
          obtain ⟨W4, hW4⟩ : ∃ W4, W4 = wr := ⟨_, rfl⟩
          subst hW4
          clear hk hlt
          have RU4 := Lib.hid (RU.out.below HBW.out RU.out.lt)
          have HU4 := Lib.hid (HU3.out.below HBW.out)
          have HB4 := Lib.hid (then_ HB3.out HBW.out)
          clear HBW RU HU3 HB3 lu
          have u1 := RU4.out.cell (i := 1) (v := .slice A2 u.words.length a2) rfl
          have lu := RU4.out.lt
          go_wp2
          clear u1
          go_loopw [64] (fun i wr => ∃ k : Nat, k ≤ u.words.length ∧ i = .int .i64 k ∧ Below W4.heap.size W4 wr) (fun i _ => u.words.length - (intOf i).toNat)
          case atStart => exact ⟨0, Nat.zero_le _, rfl, Below.refl _ _⟩
          case round =>
            obtain ⟨k, hk, rfl, hbw⟩ := hrel
            by_cases hlt : k < u.words.length
            · obtain ⟨x, hx⟩ : ∃ x, u.words[k]? = some x := ⟨_, List.getElem?_eq_getElem hlt⟩
              obtain ⟨kf, pa, e1, e2, m, hmf, hpl, hpp⟩ := HST.out x (List.mem_of_getElem? hx)
              obtain ⟨xt, xf, xp⟩ := x
              dsimp only at e1 e2 hpp
              subst e1 e2
              have hloc : locS u.files u.words k = ((m, (pa : Int)), 0) := locS_hit hx hmf
              have hnm2 := HNM.out m (List.mem_of_getElem? hmf)
              obtain ⟨tx, htx⟩ := Option.isSome_iff_exists.1 hnm2
              have hzz := HZ.out m tx htx
              rw [htx] at hpl hpp
              simp only [Option.getD_some] at hpl hpp
              obtain ⟨_, _, hv, _, _, hxx⟩ := (HU4.out.wd.below hbw).open_
              obtain ⟨b, o, hA, g0, g1, g2⟩ := hxx k _ hx
              have eA : A2 = some ⟨b, o, none⟩ := by injection hv with h1; exact h1.trans hA
              subst eA
              have hru := RU4.out.below hbw RU4.out.lt
              have u0 := hru.cell (i := 0) (v := .slice A1 u.files.length a1) rfl
              have u1 := hru.cell (i := 1) (v := .slice (some ⟨b, o, none⟩) u.words.length a2) rfl
              have u2 := hru.cell (i := 2) (v := .slice A3 u.coms.length a3) rfl
              have lur := hru.lt
              have HUR := Lib.hid (HU4.out.below hbw)
              have HB := Lib.hid hbw
              have HLOC := Lib.hid hloc
              have HPP := Lib.hid hpp
              have HTX := Lib.hid htx
              have hbl : b < wr.heap.size := block_lt_of_cell g0
              have hml : m.length ≤ maxLen := by unfold maxLen; omega
              have HML := Lib.hid hml
              clear hbw hloc hpp htx hnm2 hx hmf hxx hv hA hru hml
              go_wp2_with fail
              refine (locate_any _ _ _ _ u.files u.words k (HUR.out.fl.below (new_ (Below.refl _ _) _)) (HUR.out.wd.below (new_ (Below.refl _ _) _)) _ HLOC.out).mono ?_
              rintro e w5 ⟨rfl, hb5⟩
              unfold locV
              dsimp only
              have RT5 := Lib.hid ((Row.new wr 95 #[.string ⟨xt.toArray⟩, .int .i64 (kf : Nat), .int .i64 (pa : Nat)]).below hb5 (by simp))
              have HB5 := Lib.hid (then_ (new_ HB.out _) hb5)
              clear hb5 u0 u1 u2 g0 g1 g2 hbl lur
              go_upto_region 18 with fail
              obtain ⟨W6, hW6⟩ : ∃ W6, W6 = w5.alloc (.cells #[.string ⟨m.toArray⟩, .int .i64 (pa : Nat)] 56) := ⟨_, rfl⟩
              rw [← hW6]
              have hb6 : Below w5.heap.size w5 W6 := by rw [hW6]; exact new_ (Below.refl _ _) _
              have RT6 := Lib.hid (RT5.out.below hb6 RT5.out.lt)
              have RL6 := Lib.hid (show Row W6 w5.heap.size 56 #[.string ⟨m.toArray⟩, .int .i64 (pa : Nat)] by rw [hW6]; exact Row.new _ _ _)
              have HB6 := Lib.hid (then_ HB5.out hb6)
              have HBW6 := Lib.hid (then_ HB4.out HB6.out)
              clear hW6 hb6 RT5 HB5
              generalize w5.heap.size = gl at *
              generalize hgt : wr.heap.size = gt at *
              have lk1 := (HF.out.look W6 (fun k hk => HBW6.out.block k hk) m HML.out).2
              have lk2 := (HF.out.look W6.drew (fun k hk => (HBW6.out.drew).block k hk) m HML.out).2
              rw [HTX.out] at lk1 lk2
              simp only [Option.getD_some] at lk1 lk2
              have t0 := RT6.out.cell (i := 0) (v := .string ⟨xt.toArray⟩) rfl
              have t1 := RT6.out.cell (i := 1) (v := .int .i64 (kf : Nat)) rfl
              have t2 := RT6.out.cell (i := 2) (v := .int .i64 (pa : Nat)) rfl
              have l0 := RL6.out.cell (i := 0) (v := .string ⟨m.toArray⟩) rfl
              have l1 := RL6.out.cell (i := 1) (v := .int .i64 (pa : Nat)) rfl
              have hpl' : ((pa : Nat) : Int) ≤ (tx.length : Int) := by omega
              have hp0 : (0 : Int) ≤ ((pa : Nat) : Int) := by omega
              obtain ⟨rx, hrx⟩ : ∃ rx, tx.drop pa = rx := ⟨_, rfl⟩
              have hpp := HPP.out
              rw [hrx] at hpp
              have HPR := Lib.hid hpp
              have k5 : (ByteArray.mk tx.toArray).extract pa tx.length = ByteArray.mk rx.toArray := by rw [← hrx]; ext1; simp; exact List.take_of_length_le (by simp)
              have s2 : ((pa : Int) == (pa : Int)) = true := by simp
              clear hpp hrx
              go_region_held3 (fun w' => w'.cell? ⟨gt, 0, none⟩ = some (.string ⟨xt.toArray⟩) ∧ w'.cell? ⟨gt, 1, none⟩ = some (.int .i64 (kf : Nat)) ∧ w'.cell? ⟨gt, 2, none⟩ = some (.int .i64 (pa : Nat)) ∧ w'.cell? ⟨gl, 0, none⟩ = some (.string ⟨m.toArray⟩) ∧ w'.cell? ⟨gl, 1, none⟩ = some (.int .i64 (pa : Nat)) ∧ (Instr.lookup 70 (.map mb) (.string ⟨m.toArray⟩) false).run Try.prog w' = .ok (.string ⟨tx.toArray⟩) w') (exact ⟨t0, t1, t2, l0, l1, by first | exact lk1 | exact lk2⟩)
                ((go_at_call 39; (refine (prefix_any _ rx xt HPR.out).mono ?_; rintro e w7 ⟨rfl, rfl⟩)))
              go_wp2
              go_roundw
              case rel => exact ⟨k + 1, by omega, by go_num, HB6.out.drew⟩
              case measure => simp [intOf]; omega
            · obtain rfl : k = u.words.length := by omega
              have HBW := Lib.hid hbw
              clear hbw
              go_upto_region 21 with fail
              obtain ⟨W7, hW7⟩ : ∃ W7, W7 = wr := ⟨_, rfl⟩
              subst hW7
              clear hk hlt
              have RU7 := Lib.hid (RU4.out.below HBW.out RU4.out.lt)
              have HU7 := Lib.hid (HU4.out.below HBW.out)
              have HB7 := Lib.hid (then_ HB4.out HBW.out)
              have hu0 := RU7.out.cell (i := 0) (v := .slice A1 u.files.length a1) rfl
              have lu7 := RU7.out.lt
              clear HBW RU4 HU4 HB4 lu
              by_cases h2 : u.files.length < 2
              · have e2 : decide ((u.files.length : Int) < 2) = true := decide_eq_true (by omega)
                clear h2
                go_wp2_with (go_at_call 25; refine (awake02 _ (HM.out.below HB7.out)).mono ?_; rintro e w9 ⟨rfl, hb9⟩)
                go_ret
                exact ⟨rfl, then_ HB7.out hb9⟩
              · have e2 : decide ((u.files.length : Int) < 2) = false := decide_eq_false (by omega)
                obtain ⟨f1, hf1⟩ : ∃ t, u.files[1]? = some t := ⟨_, List.getElem?_eq_getElem (by omega)⟩
                obtain ⟨_, _, hv, _, _, hxx⟩ := HU7.out.fl.open_
                obtain ⟨b, o, hA, g0⟩ := hxx 1 f1 hf1
                have eA : A1 = some ⟨b, o, none⟩ := by injection hv with h1; exact h1.trans hA
                subst eA
                have hf2 : (1 : Int) < (u.files.length : Int) := by omega
                have hbl : b < W7.heap.size := block_lt_of_cell g0
                have HF1 := Lib.hid hf1
                obtain ⟨bs, hbs⟩ : ∃ bs, decide (onlyS f1 [2, 3]) = bs := ⟨_, rfl⟩
                have HBS := Lib.hid hbs
                clear hf1 hbs hxx hv hA h2
                cases bs with
                | false =>
                  go_wp2_with (first
                    | (go_at_call 40; (refine (isSymbol_any _ f1).mono ?_; rw [HBS.out]; rintro e w8 ⟨rfl, hb8⟩; have HB8 := Lib.hid (then_ HB7.out hb8); clear hb8))
                    | (go_at_call 25; refine (awake02 _ (HM.out.below HB8.out)).mono ?_; rintro e w9 ⟨rfl, hb9⟩))
                  go_ret
                  exact ⟨rfl, then_ HB8.out hb9⟩
                | true =>
                  rcases HFM.out with ⟨_, hfn⟩ | ⟨b0, n0, rfl, hsm, hn0, _⟩
                  · exact absurd HMS.out (by rw [hfn]; simp)
                  have HSM := Lib.hid hsm
                  clear hsm
                  go_wp2_with fail
                  refine (isSymbol_any _ f1).mono ?_
                  rw [HBS.out]
                  rintro e w8 ⟨rfl, hb8⟩
                  have RU8 := Lib.hid (RU7.out.below hb8 RU7.out.lt)
                  have HU8 := Lib.hid (HU7.out.below hb8)
                  have HB8 := Lib.hid (then_ HB7.out hb8)
                  have HG8 := Lib.hid ((hb8.cell (p := ⟨b, o + 1, none⟩) hbl).trans g0)
                  have hbl8 : b < w8.heap.size := Nat.lt_of_lt_of_le hbl hb8.size
                  have hgu8 := RU8.out.lt
                  clear hb8 RU7 HU7 HB7 hu0 lu7 g0 hbl
                  obtain ⟨D, hown, hh⟩ := (HSM.out.below HB8.out).below (new_ (Below.refl _ _) (.map #[] 0))
                  have HOWN := Lib.hid hown
                  have HH := Lib.hid hh
                  have hS : Maps.size D ≤ n0 := by
                    obtain ⟨es, clock, _, _, hs, rfl⟩ := hown
                    exact Nat.le_trans (Nat.le_of_eq (length_read (P := Try.prog) (k := 9) (R0 := plainElem (H := H) Try.prog 9) es)) hs
                  obtain ⟨S, hSS⟩ : ∃ S, Maps.size D = S := ⟨_, rfl⟩
                  have HSS := Lib.hid hSS
                  rw [hSS] at hS
                  have hb0 : b0 < w8.heap.size := Nat.lt_of_lt_of_le HSM.out.lt HB8.out.size
                  clear hown hh hSS
                  go_wp2_with (at_range; refine wpList_range_own _ rfl _ 70 rfl 9 9 (string_keyed Try.underlying9) Try.underlying70 _ b0 n0 D rfl HOWN.out ?_; intro w9 hrg0 hg0 hs0)
                  go_frame
                  have ew : (w8.alloc (Obj.map #[] 0)).heap.size = w8.heap.size + 1 := by simp
                  rw [ew] at hrg0 hs0 ⊢
                  rw [HSS.out] at hrg0
                  have hgb : Below w8.heap.size w8 w9 := (new_ (Below.refl _ _) (.map #[] 0)).grown hg0 (by simp) (fun j hj => by cases hj)
                  have hsm0 : StrM Unit w9 w8.heap.size 0 (fun _ => none) := (StrM.new (H := Unit) w8).same (by exact hg0.block _ (by simp) (by simp))
                  have HR0 := Lib.hid hrg0
                  have HGB := Lib.hid hgb
                  have HSM0 := Lib.hid hsm0
                  clear hrg0 hs0 hg0 ew hgb hsm0
                  go_loopw [16] (fun _ wr => ∃ (left : Lit → Bool) (cnt nout : Nat) (g : List UInt8 → Option (List UInt8)), wr.ranges Try.prog 9 (plainElem (H := H) Try.prog 9) b0 (w8.heap.size + 1) n0 D left cnt ∧ StrM Unit wr w8.heap.size nout g ∧ nout + cnt ≤ S ∧ (∀ s, g s = if left (.string s) then none else fs s) ∧ Below w8.heap.size w8 wr) (fun _ wr => wr.rangeLeft b0 (w8.heap.size + 1))
                  case atStart =>
                    refine ⟨Maps.has D, S, 0, _, HR0.out, HSM0.out, by omega, fun s => ?_, HGB.out⟩
                    cases hs : Maps.has D (.string s) with
                    | true => rfl
                    | false =>
                      show none = fs s
                      by_cases hsl : s.length ≤ maxLen
                      · have h1 := (HH.out.at_ s hsl).1
                        rw [hs] at h1
                        cases hfs : fs s with
                        | none => rfl
                        | some t => rw [hfs] at h1; cases h1
                      · cases hfs : fs s with
                        | none => rfl
                        | some t => exact absurd (HH.out.sz s t hfs).1 hsl
                  case round =>
                    obtain ⟨left, cnt, nout, gm, hrg, hgm, hno, hleft, hbw⟩ := hrel
                    have HRG := Lib.hid hrg
                    have HGM := Lib.hid hgm
                    have HLF := Lib.hid hleft
                    have HBW := Lib.hid hbw
                    clear hrg hgm hleft hbw
                    go_wp2_with (at_next; refine wpList_next_ranges _ rfl _ rfl 9 (string_keyed Try.underlying9) (plainElem (H := H) Try.prog 9) (fun s : List UInt8 => Value.string ⟨s.toArray⟩) (fun s : List UInt8 => Value.string ⟨s.toArray⟩) (fun key kl hk => by obtain ⟨s, e, _⟩ := keyStr_inv Try.underlying9 hk; exact ⟨s, e⟩) (fun u y hy => by obtain ⟨t, e, _⟩ := plainStr_inv (ps := y.2) Try.underlying9 hy; exact ⟨t, e⟩) b0 (w8.heap.size + 1) n0 D left cnt rfl HRG.out ?_ ?_)
                    · intro hc0 hl0
                      have hgf : gm = fs := by funext s; rw [HLF.out s, hl0]; rfl
                      have hgs : StrM Unit wr w8.heap.size nout fs := hgf ▸ HGM.out
                      obtain ⟨text, htx⟩ := Option.isSome_iff_exists.1 HMS.out
                      have hzz := HZ.out main text htx
                      obtain ⟨_, hf60, _⟩ := of_decide_eq_true HBS.out
                      have HTX := Lib.hid htx
                      have HGS := Lib.hid hgs
                      have hru := RU8.out.below HBW.out hgu8
                      have HB12 := Lib.hid (then_ HB8.out HBW.out)
                      have HU12 := Lib.hid (HU8.out.below HBW.out)
                      have HR12 := Lib.hid hru
                      have u0 := hru.cell (i := 0) (v := .slice (some ⟨b, o, none⟩) u.files.length a1) rfl
                      have g0 := (HBW.out.cell (p := ⟨b, o + 1, none⟩) hbl8).trans HG8.out
                      have lk := ((HGS.out.same (w' := wr.drew) rfl).look main HN.out).2
                      rw [htx] at lk
                      simp only [Option.getD_some] at lk
                      obtain ⟨wp, hput, hsmp, hgp⟩ := (HGS.out.same (w' := wr.drew) rfl).put main (text ++ onceA f1) HN.out (by unfold maxLen; simp [onceA]; omega) (by unfold maxLen; omega)
                      have HSP := Lib.hid (show StrM Unit wp w8.heap.size (nout + 1) (setF fs main (text ++ onceA f1)) from hsmp)
                      have hbp : Below w.heap.size w wp := (HB12.out.drew).grown hgp HB12.out.drew.size (fun j hj => by cases hj; exact HB8.out.size)
                      have HBP := Lib.hid hbp
                      have HUP := Lib.hid (show UnitAt wp (.slice (some ⟨b, o, none⟩) u.files.length a1) (.slice A2 u.words.length a2) (.slice A3 u.coms.length a3) u from (HU8.out.below ((HBW.out.drew).grown hgp HBW.out.drew.size (fun j hj => by cases hj; exact Nat.le_refl _))))
                      have HRP := Lib.hid (RU8.out.below ((HBW.out.drew).grown hgp HBW.out.drew.size (fun j hj => by cases hj; exact Nat.le_refl _)) hgu8)
                      obtain ⟨q1, hq1⟩ : ∃ q, q = [32, 36, 91, 32] ++ f1 := ⟨_, rfl⟩
                      obtain ⟨q2, hq2⟩ : ∃ q, q = onceA f1 := ⟨_, rfl⟩
                      obtain ⟨q3, hq3⟩ : ∃ q, q = text ++ onceA f1 := ⟨_, rfl⟩
                      rw [← hq3] at hput
                      have k1 : Op.stringOp .add (ByteArray.mk #[32, 36, 91, 32]) (ByteArray.mk f1.toArray) = pure (.string ⟨q1.toArray⟩) := concat_run2 (by rw [hq1]; exact bytes_append [32, 36, 91, 32] f1) (by simp [ByteArray.size]; omega)
                      have k2 : Op.stringOp .add (ByteArray.mk q1.toArray) (ByteArray.mk #[32, 36, 93]) = pure (.string ⟨q2.toArray⟩) := concat_run2 (by rw [hq2, hq1]; exact bytes_append ([32, 36, 91, 32] ++ f1) [32, 36, 93]) (by rw [hq1]; simp [ByteArray.size]; omega)
                      have k3 : Op.stringOp .add (ByteArray.mk text.toArray) (ByteArray.mk q2.toArray) = pure (.string ⟨q3.toArray⟩) := concat_run2 (by rw [hq3, hq2]; exact bytes_append text (onceA f1)) (by rw [hq2]; simp [ByteArray.size, onceA]; omega)
                      clear htx hgs hru hsmp hgp hbp hgf hq1 hq2 hq3 hc0 hl0
                      go_upto_region 28 with fail
                      go_still_tail 10, (by kernel_rfl)
                      change wpList _ _ _ _ _ wr.drew
                      clear u0 g0 lk k1 k2 k3
                      go_wp2_with fail
                      refine (read_view wp (some w8.heap.size) (setF fs main (text ++ onceA f1)) main (HSP.out.files (HM.out.below HBP.out)) HN.out).mono ?_
                      clear hput
                      rcases once_law HR.out HTX.out (by omega) (of_decide_eq_true HBS.out) (List.mem_of_getElem? HF1.out) with h | ⟨p, h⟩
                      · rw [h]
                        clear h
                        rintro e w13 ⟨vf, vw, vc, rfl, hv, hb13⟩
                        obtain ⟨⟨E1, e1, rfl⟩, ⟨E2, e2, rfl⟩, E3, e3, rfl⟩ := hv.form
                        simp only [outV]
                        have HV13 := Lib.hid hv
                        have HU13 := Lib.hid (HUP.out.below hb13)
                        have RU13 := Lib.hid (HRP.out.below hb13 HRP.out.lt)
                        have HB13 := Lib.hid (then_ HBP.out hb13)
                        have lu13 := RU13.out.lt
                        clear hv hb13
                        go_upto_region 32 with fail
                        obtain ⟨W14, hW14⟩ : ∃ W14, W14 = (w13.alloc (.cells #[.slice E1 u.files.length e1, .slice E2 u.words.length e2, .slice E3 u.coms.length e3] 54)).alloc (.cells #[.string ⟨#[]⟩, .int .i64 0] 56) := ⟨_, rfl⟩
                        rw [← hW14]
                        have hb14 : Below w13.heap.size w13 W14 := by rw [hW14]; exact new_ (new_ (Below.refl _ _) _) _
                        have RV14 := Lib.hid (show Row W14 w13.heap.size 54 #[.slice E1 u.files.length e1, .slice E2 u.words.length e2, .slice E3 u.coms.length e3] by rw [hW14]; exact (Row.new _ _ _).alloc _)
                        have RU14 := Lib.hid (RU13.out.below hb14 RU13.out.lt)
                        have HU14 := Lib.hid (HU13.out.below hb14)
                        have HV14 := Lib.hid (HV13.out.below hb14)
                        have HB14 := Lib.hid (then_ HB13.out hb14)
                        clear hW14 hb14 RU13 HU13 HV13 HB13 lu13
                        generalize w13.heap.size = gv at *
                        clear w13
                        have HX := Lib.hid (show Below W14.heap.size W14 W14.drew from (Below.refl _ _).drew)
                        have u0 := (RU14.out.below HX.out RU14.out.lt).cell (i := 0) (v := .slice (some ⟨b, o, none⟩) u.files.length a1) rfl
                        have u1 := (RU14.out.below HX.out RU14.out.lt).cell (i := 1) (v := .slice A2 u.words.length a2) rfl
                        have u2 := (RU14.out.below HX.out RU14.out.lt).cell (i := 2) (v := .slice A3 u.coms.length a3) rfl
                        have v0 := (RV14.out.below HX.out RV14.out.lt).cell (i := 0) (v := .slice E1 u.files.length e1) rfl
                        have v1 := (RV14.out.below HX.out RV14.out.lt).cell (i := 1) (v := .slice E2 u.words.length e2) rfl
                        have v2 := (RV14.out.below HX.out RV14.out.lt).cell (i := 2) (v := .slice E3 u.coms.length e3) rfl
                        have tok : True := trivial
                        go_region_held3 (fun w' => w'.cell? ⟨gu, 0, none⟩ = some (.slice (some ⟨b, o, none⟩) u.files.length a1) ∧ w'.cell? ⟨gu, 1, none⟩ = some (.slice A2 u.words.length a2) ∧ w'.cell? ⟨gu, 2, none⟩ = some (.slice A3 u.coms.length a3) ∧ w'.cell? ⟨gv, 0, none⟩ = some (.slice E1 u.files.length e1) ∧ w'.cell? ⟨gv, 1, none⟩ = some (.slice E2 u.words.length e2) ∧ w'.cell? ⟨gv, 2, none⟩ = some (.slice E3 u.coms.length e3)) (exact ⟨u0, u1, u2, v0, v1, v2⟩)
                          (first
                            | (go_at_call 29; ((with_reducible refine (texts_any _ _ _ _ u.words (HU14.out.below HX.out).wd (by omega)).mono ?_); rintro e w15 ⟨v15, rfl, hv15, hb15⟩; clear u0 u1 u2 v0 v1 v2; obtain ⟨q15, c15, rfl⟩ := hv15.form; (try (have HT2 := Lib.hid (HT2.out.below hb15))); have HT1 := Lib.hid hv15; have HX := Lib.hid (then_ HX.out hb15); clear hb15 hv15; have u0 := (RU14.out.below HX.out RU14.out.lt).cell (i := 0) (v := .slice (some ⟨b, o, none⟩) u.files.length a1) rfl; have u1 := (RU14.out.below HX.out RU14.out.lt).cell (i := 1) (v := .slice A2 u.words.length a2) rfl; have u2 := (RU14.out.below HX.out RU14.out.lt).cell (i := 2) (v := .slice A3 u.coms.length a3) rfl; have v0 := (RV14.out.below HX.out RV14.out.lt).cell (i := 0) (v := .slice E1 u.files.length e1) rfl; have v1 := (RV14.out.below HX.out RV14.out.lt).cell (i := 1) (v := .slice E2 u.words.length e2) rfl; have v2 := (RV14.out.below HX.out RV14.out.lt).cell (i := 2) (v := .slice E3 u.coms.length e3) rfl))
                            | (go_at_call 29; ((with_reducible refine (texts_any _ _ _ _ u.words (HV14.out.below HX.out).wd (by omega)).mono ?_); rintro e w16 ⟨v16, rfl, hv16, hb16⟩; clear u0 u1 u2 v0 v1 v2; obtain ⟨q16, c16, rfl⟩ := hv16.form; (try (have HT1 := Lib.hid (HT1.out.below hb16))); have HT2 := Lib.hid hv16; have HX := Lib.hid (then_ HX.out hb16); clear hb16 hv16; have u0 := (RU14.out.below HX.out RU14.out.lt).cell (i := 0) (v := .slice (some ⟨b, o, none⟩) u.files.length a1) rfl; have u1 := (RU14.out.below HX.out RU14.out.lt).cell (i := 1) (v := .slice A2 u.words.length a2) rfl; have u2 := (RU14.out.below HX.out RU14.out.lt).cell (i := 2) (v := .slice A3 u.coms.length a3) rfl; have v0 := (RV14.out.below HX.out RV14.out.lt).cell (i := 0) (v := .slice E1 u.files.length e1) rfl; have v1 := (RV14.out.below HX.out RV14.out.lt).cell (i := 1) (v := .slice E2 u.words.length e2) rfl; have v2 := (RV14.out.below HX.out RV14.out.lt).cell (i := 2) (v := .slice E3 u.coms.length e3) rfl))
                            | (go_at_call 18; ((with_reducible refine (equal_str_same _ _ _ _ HT1.out HT2.out).mono ?_); rintro e w17 ⟨rfl, hb17⟩; clear u0 u1 u2 v0 v1 v2; have HX := Lib.hid (then_ HX.out hb17); clear hb17; have u0 := (RU14.out.below HX.out RU14.out.lt).cell (i := 0) (v := .slice (some ⟨b, o, none⟩) u.files.length a1) rfl; have u1 := (RU14.out.below HX.out RU14.out.lt).cell (i := 1) (v := .slice A2 u.words.length a2) rfl; have u2 := (RU14.out.below HX.out RU14.out.lt).cell (i := 2) (v := .slice A3 u.coms.length a3) rfl; have v0 := (RV14.out.below HX.out RV14.out.lt).cell (i := 0) (v := .slice E1 u.files.length e1) rfl; have v1 := (RV14.out.below HX.out RV14.out.lt).cell (i := 1) (v := .slice E2 u.words.length e2) rfl; have v2 := (RV14.out.below HX.out RV14.out.lt).cell (i := 2) (v := .slice E3 u.coms.length e3) rfl))
                            | (go_at_call 18; ((with_reducible refine (equal_str_same _ _ _ u.files (HU14.out.below HX.out).fl (HV14.out.below HX.out).fl).mono ?_); rintro e w18 ⟨rfl, hb18⟩; clear u0 u1 u2 v0 v1 v2; have HX := Lib.hid (then_ HX.out hb18); clear hb18; have u0 := (RU14.out.below HX.out RU14.out.lt).cell (i := 0) (v := .slice (some ⟨b, o, none⟩) u.files.length a1) rfl; have u1 := (RU14.out.below HX.out RU14.out.lt).cell (i := 1) (v := .slice A2 u.words.length a2) rfl; have u2 := (RU14.out.below HX.out RU14.out.lt).cell (i := 2) (v := .slice A3 u.coms.length a3) rfl; have v0 := (RV14.out.below HX.out RV14.out.lt).cell (i := 0) (v := .slice E1 u.files.length e1) rfl; have v1 := (RV14.out.below HX.out RV14.out.lt).cell (i := 1) (v := .slice E2 u.words.length e2) rfl; have v2 := (RV14.out.below HX.out RV14.out.lt).cell (i := 2) (v := .slice E3 u.coms.length e3) rfl))
                            | (go_at_call 25; (refine (awake02 _ (HM.out.below (then_ HB14.out HX.out))).mono ?_; rintro e w19 ⟨rfl, hb19⟩; clear u0 u1 u2 v0 v1 v2; have HX := Lib.hid (then_ HX.out hb19); clear hb19; have u0 := (RU14.out.below HX.out RU14.out.lt).cell (i := 0) (v := .slice (some ⟨b, o, none⟩) u.files.length a1) rfl; have u1 := (RU14.out.below HX.out RU14.out.lt).cell (i := 1) (v := .slice A2 u.words.length a2) rfl; have u2 := (RU14.out.below HX.out RU14.out.lt).cell (i := 2) (v := .slice A3 u.coms.length a3) rfl; have v0 := (RV14.out.below HX.out RV14.out.lt).cell (i := 0) (v := .slice E1 u.files.length e1) rfl; have v1 := (RV14.out.below HX.out RV14.out.lt).cell (i := 1) (v := .slice E2 u.words.length e2) rfl; have v2 := (RV14.out.below HX.out RV14.out.lt).cell (i := 2) (v := .slice E3 u.coms.length e3) rfl)))
                        all_goals
                          go_wp2
                          go_ret
                          exact ⟨rfl, then_ HB14.out HX.out⟩
                      · rw [h]
                        clear h
                        rintro e w13 ⟨vf, vw, vc, rfl, hv, hb13⟩
                        obtain ⟨⟨E1, e1, rfl⟩, ⟨E2, e2, rfl⟩, E3, e3, rfl⟩ := hv.form
                        simp only [outV, List.length_nil]
                        have HB13 := Lib.hid (then_ HBP.out hb13)
                        clear hv hb13
                        have s1 : (main == main) = true := by simp
                        go_wp2_with (go_at_call 25; refine (awake02 _ (HM.out.below (new_ (new_ HB13.out _) _))).mono ?_; rintro e w14 ⟨rfl, hb14⟩)
                        go_ret
                        exact ⟨rfl, then_ (new_ (new_ HB13.out _) _) hb14⟩
                    · intro s c kl y yp w10 cnt1 hkl hlk hyc hat hrg1 hlt hg1 hs1 hen
                      obtain ⟨s', es, rfl, hsl⟩ := keyStr_inv Try.underlying9 hkl
                      obtain rfl : s = s' := by simpa using es
                      obtain ⟨t', et, hy, htl⟩ := plainStr_inv Try.underlying9 hyc
                      obtain rfl : c = t' := by simpa using et
                      have hfs : fs s = some c := HH.out.entry hsl (fun z => (hat z).trans hy)
                      have hgm1 := HGM.out.same (w' := w10) (hg1.block _ HGM.out.lt (by simp))
                      obtain ⟨w11, hput, hgm2, hg2⟩ := hgm1.put s c hsl htl (by unfold maxLen; omega)
                      have hrg2 := hrg1.kept hg2 (fun e => by have := Option.some.inj e; omega) (fun e => by have := Option.some.inj e; omega)
                      have HRG2 := Lib.hid hrg2
                      have HGM2 := Lib.hid hgm2
                      have HLT := Lib.hid hlt
                      have HBW2 := Lib.hid ((HBW.out.grown hg1 HBW.out.size (fun j hj => by cases hj; exact Nat.le_succ _)).grown hg2 (by have := hg1.size; have := HBW.out.size; omega) (fun j hj => by cases hj; exact Nat.le_refl _))
                      have HLF2 : Hid (∀ t, (if t = s then some c else gm t) = if (left (.string t) && !(Lit.string t).sameKey (.string s)) then none else fs t) := Lib.hid (fun t => by
                        by_cases e : t = s
                        · subst e
                          have : (Lit.string t).sameKey (.string t) = true := by simp [Lit.sameKey]
                          rw [if_pos rfl, this, hfs]
                          simp
                        · have : (Lit.string t).sameKey (.string s) = false := by simpa [Lit.sameKey] using e
                          rw [if_neg e, this, HLF.out t]
                          simp)
                      clear hkl hyc hat hg1 hrg1 hy es et hlk hlt hfs hgm1 hgm2 hg2 hrg2 hsl htl
                      go_wp2
                      go_roundw
                      case rel => exact ⟨_, cnt1, nout + 1, _, HRG2.out, HGM2.out, by have := HLT.out; omega, HLF2.out, HBW2.out⟩
                      case measure => rw [HRG2.out.left_eq, HRG.out.left_eq]; exact HLT.out
end Go.Proofs.Ytignhjfobcnloaa
