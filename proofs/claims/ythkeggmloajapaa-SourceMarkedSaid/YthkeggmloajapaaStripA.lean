/- Strip of the program: the words, the comments, the place and the code. Strip of the reference: the words, the comments, the place and the code. -/
import Derived.Test.YthkeggmloajapaaScanWA
import Derived.RegionTactic
import Derived.Deep.QuietTactic
import Derived.BigQuiet
import Derived.Test.YthkeggmloajapaaScanRA
section
namespace Go.Proofs.Ythkeggmloajapaa
open Go.RowKit
theorem own_far {w : World} {base : Nat} {e e' : TypeId} {size n g : Nat} {v : Value} {xs : List Value} {cur : Array Value} (h : w.ownsRow base e size v n xs) (hg : w.heap[g]? = some (.cells cur e' (0, 0))) (hne : e ≠ e') : v.ownBlock ≠ some g := by
  rcases h.2 with ⟨rfl, _⟩ | ⟨g', cap, cur', rfl, _, hh, _⟩
  · simp [Value.ownBlock]
  · intro he
    have : g' = g := by simpa [Value.ownBlock] using he
    subst this
    rw [hh] at hg
    injection hg with hg
    injection hg with _ ht
    exact hne ht
theorem own_two {w : World} {b1 b2 : Nat} {e1 e2 : TypeId} {s1 s2 n1 n2 : Nat} {v1 v2 : Value} {x1 x2 : List Value} (h1 : w.ownsRow b1 e1 s1 v1 n1 x1) (h2 : w.ownsRow b2 e2 s2 v2 n2 x2) (hne : e1 ≠ e2) : v1.ownBlock = none ∨ v1.ownBlock ≠ v2.ownBlock := by
  rcases h2.2 with ⟨rfl, _⟩ | ⟨g', cap, cur', rfl, _, hh, _⟩
  · cases h : v1.ownBlock
    · exact .inl rfl
    · exact .inr (by simp [Value.ownBlock])
  · exact .inr (own_far h1 hh hne)
theorem own_lower {w : World} {b1 b2 : Nat} {e : TypeId} {size n : Nat} {v : Value} {xs : List Value} (h : w.ownsRow b1 e size v n xs) (hb : b2 ≤ b1) : w.ownsRow b2 e size v n xs := by
  refine ⟨h.1, ?_⟩
  rcases h.2 with h | ⟨g, cap, cur, rfl, hg, r⟩
  · exact .inl h
  · exact .inr ⟨g, cap, cur, rfl, by omega, r⟩
set_option maxRecDepth 100000 in
set_option maxHeartbeats 8000000 in
theorem strip_own (w : World) (s : List UInt8) (hM : MaxAt w) :
    Calls Try.prog 9 #[.string ⟨s.toArray⟩] w fun e w' => ∃ v1 v2, e = .returned (.tuple #[v1, v2, .int .i64 (stripS s).2.2.1, .int .i64 (stripS s).2.2.2]) ∧ w'.ownsRow w.heap.size 40 2 v1 (stripS s).1.length ((stripS s).1.flatMap tokCells) ∧ w'.ownsRow w.heap.size 44 4 v2 (stripS s).2.1.length ((stripS s).2.1.flatMap comCells) ∧ Below w.heap.size w w' := by
  obtain ⟨l, at0, z, hl⟩ : ∃ l at0 z, scanS s = (l, at0, z) := ⟨_, _, _, rfl⟩
  have HL := Lib.hid hl
  obtain ⟨w1', w2', w3'⟩ := scanS_where s
  rw [hl] at w1' w2' w3'
  by_cases hz : z = 0
  · subst hz
    have hz0 : (scanS s).2.2 = 0 := by rw [hl]
    have HZ0 := Lib.hid hz0
    have hbig : s.length ≤ 40000 := by
      by_cases h : 40000 < s.length
      · rw [scanS_big h] at hl; cases hl
      · omega
    have HW1 := Lib.hid w1'
    have HW2 := Lib.hid w2'
    have hl8 : l.length ≤ 8000 := w3'
    clear hl w1' w2' w3' hz0
    go_enter Try.func9, Try.ntmps9
    go_wp2_with (go_at_call 20; (refine (scan_any _ s).mono ?_; simp only [HL.out]; rintro e w1 ⟨v1, rfl, hv1, hb1⟩; obtain ⟨A1, c1, rfl, hc1, hm1, _⟩ := hv1.open_; have HV1 := Lib.hid hv1; have HB1 := Lib.hid hb1; clear hv1 hb1))
    unfold maxLen at hm1
    have hz1 : w.heap.size ≤ w1.heap.size := HB1.out.size
    obtain ⟨i0, hi, hj0, hj1, hj2⟩ := info_parts infoTok
    obtain ⟨i1, ki, kj0, kj1, kj2⟩ := info_parts infoCom
    go_loopw [9, 10, 11, 26] (fun wv cv ov iv wr => ∃ (k : Nat) (ws : List TokD) (cs : List ComD) (o : Option Nat), StAt s l k ws cs o ∧ iv = .int .i64 k ∧ ov = .int .i64 (opI o) ∧ wr.ownsRow w1.heap.size 40 2 wv ws.length (ws.flatMap tokCells) ∧ wr.ownsRow w1.heap.size 44 4 cv cs.length (cs.flatMap comCells) ∧ Below w1.heap.size w1 wr) (fun _ _ _ iv _ => l.length - (intOf iv).toNat)
    case atStart => exact ⟨0, [], [], none, StAt.start _ _, rfl, rfl, World.ownsRow_nil _ _ _ _, World.ownsRow_nil _ _ _ _, Below.refl _ _⟩
    case round =>
      obtain ⟨k, ws, cs, o, hst, rfl, rfl, how, hoc, hbw⟩ := hrel
      have hkl := hst.le
      have hwl := hst.wl
      have hcl := hst.cl
      have hwz := hbw.size
      have HST := Lib.hid hst
      clear hst
      obtain ⟨Aw, cw, rfl, hcw⟩ := own_form how
      obtain ⟨m, hm⟩ : ∃ m, m = ws.length := ⟨_, rfl⟩
      rw [← hm] at how hwl hcw ⊢
      have HM := Lib.hid hm
      clear hm
      by_cases hlt : k < l.length
      · obtain ⟨t, ht⟩ : ∃ t, l[k]? = some t := ⟨_, List.getElem?_eq_getElem hlt⟩
        obtain ⟨tt, ta⟩ := t
        obtain ⟨A1', c1', hvv, _, _, hx1⟩ := (HV1.out.below hbw).open_
        obtain ⟨rfl, _, rfl⟩ := (by simpa using hvv : A1 = A1' ∧ True ∧ c1 = c1')
        obtain ⟨b1, o1, rfl, g1, g2⟩ := hx1 k _ ht
        dsimp only at g1 g2
        have hmem := HW1.out _ (List.mem_of_getElem? ht)
        have hta : ta + tt.length ≤ s.length := hmem.1
        have HT := Lib.hid ht
        have hMr : Hid (MaxAt wr) := Lib.hid ((hM.below HB1.out).below hbw)
        clear hx1 hvv ht hmem
        by_cases h2 : 2 < tt.length
        · have e2 : decide ((2 : Int) < (tt.length : Int)) = true := decide_eq_true (by omega)
          have n1 : (tt == [36, 40]) = false := beq_eq_false_iff_ne.2 (fun h => by rw [h] at h2; simp at h2)
          have n2 : (tt == [36, 41]) = false := beq_eq_false_iff_ne.2 (fun h => by rw [h] at h2; simp at h2)
          cases d1 : hasB 36 40 tt with
          | true =>
            have HE := Lib.hid (stripS_bad HZ0.out (by rw [HL.out]; exact HST.out.bad HT.out (sstep_inside h2 (by simp [hasC, d1]))))
            clear h2 n1 n2
            go_wp2_with (first | (go_at_call 21; (refine (contains_two _ tt 36 40 (hMr.out.below ((Below.refl _ _).alloc (Nat.le_refl _) _)) (by omega)).mono ?_; rw [d1]; rintro e w5 ⟨rfl, rfl⟩)) | (go_at_call 21; (refine (contains_two _ tt 36 41 (hMr.out.below ((Below.refl _ _).alloc (Nat.le_refl _) _)) (by omega)).mono ?_; rw [d2]; rintro e w5 ⟨rfl, rfl⟩)))
            go_quiet (fail)
            go_wp2
            refine bodyPost_ret (v := .tuple #[.slice none 0 0, .slice none 0 0, .int .i64 (ta : Int), .int .i64 42]) (by simp [results, Try.results9, go_sem]) rfl ?_
            rw [HE.out]
            exact ⟨_, _, rfl, World.ownsRow_nil _ _ _ _, World.ownsRow_nil _ _ _ _, below_drewN (then_ HB1.out (hbw.alloc hwz _)) _⟩
          | false =>
            cases d2 : hasB 36 41 tt with
            | true =>
              have HE := Lib.hid (stripS_bad HZ0.out (by rw [HL.out]; exact HST.out.bad HT.out (sstep_inside h2 (by simp [hasC, d2]))))
              clear h2 n1 n2
              go_wp2_with (first | (go_at_call 21; (refine (contains_two _ tt 36 40 (hMr.out.below ((Below.refl _ _).alloc (Nat.le_refl _) _)) (by omega)).mono ?_; rw [d1]; rintro e w5 ⟨rfl, rfl⟩)) | (go_at_call 21; (refine (contains_two _ tt 36 41 (hMr.out.below ((Below.refl _ _).alloc (Nat.le_refl _) _)) (by omega)).mono ?_; rw [d2]; rintro e w5 ⟨rfl, rfl⟩)))
              go_quiet (fail)
              go_wp2
              refine bodyPost_ret (v := .tuple #[.slice none 0 0, .slice none 0 0, .int .i64 (ta : Int), .int .i64 42]) (by simp [results, Try.results9, go_sem]) rfl ?_
              rw [HE.out]
              exact ⟨_, _, rfl, World.ownsRow_nil _ _ _ _, World.ownsRow_nil _ _ _ _, below_drewN (then_ HB1.out (hbw.alloc hwz _)) _⟩
            | false =>
              have hno : ¬ (2 < tt.length ∧ hasC tt = true) := fun h => by simp [hasC, d1, d2] at h
              cases o with
              | none =>
                have hsg := (sstep_word hno (fun h => by have h' : tt = _ := h; rw [h'] at h2; simp at h2) (fun h => by have h' : tt = _ := h; rw [h'] at h2; simp at h2) : sstep s (ws, cs, none) (tt, ta) = _)
                have HG := Lib.hid (HST.out.good HT.out hsg (by have := HST.out.wl; simp; omega) (by have := HST.out.cl; omega) (fun i hi => by cases hi))
                clear hsg hno
                simp only [opI]
                go_wp2_with (first | (go_at_call 21; (refine (contains_two _ tt 36 40 (hMr.out.below ((Below.refl _ _).alloc (Nat.le_refl _) _)) (by omega)).mono ?_; rw [d1]; rintro e w5 ⟨rfl, rfl⟩)) | (go_at_call 21; (refine (contains_two _ tt 36 41 (hMr.out.below ((Below.refl _ _).alloc (Nat.le_refl _) _)) (by omega)).mono ?_; rw [d2]; rintro e w5 ⟨rfl, rfl⟩)) | (at_builtin; (refine wpList_append_own _ rfl (.tmp 82) (.tmp 84) 35 rfl w1.heap.size 40 i0 (.agg #[.string ⟨#[]⟩, .int .i64 0]) 2 24 Try.underlying35 hi hj0 hj1 hj2 rfl (by decide) _ m (ws.flatMap tokCells) rfl ((how.alloc _).alloc _) ⟨wr.heap.size + 1, 0, none⟩ 1 1 (tokCells (tt, ta)) rfl rfl (cells_at' _ _ _ _ rfl (by simp)) (by simp [tokCells, Value.oneCell']) (by unfold maxLen; omega) (by omega) (by simp; omega) ?_; intro v' wz hown' hgrow _)))
                have hbz : Below w1.heap.size w1 wz := ((hbw.alloc hwz _).alloc (by simp; omega) _).grown hgrow (by simp; omega) (own_block how)
                have hoc' := ((hoc.alloc _).alloc _).kept hgrow (own_two hoc how (by decide))
                go_roundw
                case rel => exact ⟨k + 1, _, _, _, HG.out, by go_num, rfl, toks_snoc hown' rfl HM.out, hoc', hbz⟩
                case measure => simp [intOf]; omega
              | some i =>
                have hsg := (sstep_skip hno (fun h => by have h' : tt = _ := h; rw [h'] at h2; simp at h2) (fun h => by have h' : tt = _ := h; rw [h'] at h2; simp at h2) : sstep s (ws, cs, some i) (tt, ta) = _)
                have HG := Lib.hid (HST.out.good HT.out hsg (by have := HST.out.wl; omega) (by have := HST.out.cl; omega) (HST.out.keepOp HT.out))
                have e6 : decide ((i : Int) < 0) = false := decide_eq_false (by omega)
                clear hsg hno
                simp only [opI]
                go_wp2_with (first | (go_at_call 21; (refine (contains_two _ tt 36 40 (hMr.out.below ((Below.refl _ _).alloc (Nat.le_refl _) _)) (by omega)).mono ?_; rw [d1]; rintro e w5 ⟨rfl, rfl⟩)) | (go_at_call 21; (refine (contains_two _ tt 36 41 (hMr.out.below ((Below.refl _ _).alloc (Nat.le_refl _) _)) (by omega)).mono ?_; rw [d2]; rintro e w5 ⟨rfl, rfl⟩)))
                rw [HM.out] at how
                go_roundw
                case rel => exact ⟨k + 1, _, _, _, HG.out, by go_num, rfl, by rw [HM.out]; exact how.alloc _, hoc.alloc _, hbw.alloc hwz _⟩
                case measure => simp [intOf]; omega
        · have e2 : decide ((2 : Int) < (tt.length : Int)) = false := decide_eq_false (by omega)
          have hno : ¬ (2 < tt.length ∧ hasC tt = true) := fun h => h2 h.1
          by_cases h3 : tt = [36, 40]
          · have n1 : (tt == [36, 40]) = true := beq_iff_eq.2 h3
            cases o with
            | none =>
              have hsg := (sstep_open h3 : sstep s (ws, cs, none) (tt, ta) = _)
              have HG := Lib.hid (HST.out.good HT.out hsg (by have := HST.out.wl; omega) (by have := HST.out.cl; omega) (fun i hi => by cases hi; exact StAt.openOk HW2.out (fun x hx => (HW1.out x hx).1) HT.out h3))
              clear hsg hno
              simp only [opI]
              go_wp2_with (first | (go_at_call 21; (refine (contains_two _ tt 36 40 (hMr.out.below ((Below.refl _ _).alloc (Nat.le_refl _) _)) (by omega)).mono ?_; rw [d1]; rintro e w5 ⟨rfl, rfl⟩)) | (go_at_call 21; (refine (contains_two _ tt 36 41 (hMr.out.below ((Below.refl _ _).alloc (Nat.le_refl _) _)) (by omega)).mono ?_; rw [d2]; rintro e w5 ⟨rfl, rfl⟩)))
              rw [HM.out] at how
              go_roundw
              case rel => exact ⟨k + 1, _, _, _, HG.out, by go_num, rfl, by rw [HM.out]; exact how.alloc _, hoc.alloc _, hbw.alloc hwz _⟩
              case measure => simp [intOf]; omega
            | some i =>
              have HE := Lib.hid (stripS_bad HZ0.out (by rw [HL.out]; exact HST.out.bad HT.out (sstep_open2 h3)))
              have e6 : decide ((0 : Int) ≤ (i : Int)) = true := decide_eq_true (by omega)
              clear h2 h3 hno
              simp only [opI]
              go_wp2_with (first | (go_at_call 21; (refine (contains_two _ tt 36 40 (hMr.out.below ((Below.refl _ _).alloc (Nat.le_refl _) _)) (by omega)).mono ?_; rw [d1]; rintro e w5 ⟨rfl, rfl⟩)) | (go_at_call 21; (refine (contains_two _ tt 36 41 (hMr.out.below ((Below.refl _ _).alloc (Nat.le_refl _) _)) (by omega)).mono ?_; rw [d2]; rintro e w5 ⟨rfl, rfl⟩)))
              go_quiet (fail)
              go_wp2
              refine bodyPost_ret (v := .tuple #[.slice none 0 0, .slice none 0 0, .int .i64 (ta : Int), .int .i64 42]) (by simp [results, Try.results9, go_sem]) rfl ?_
              rw [HE.out]
              exact ⟨_, _, rfl, World.ownsRow_nil _ _ _ _, World.ownsRow_nil _ _ _ _, below_drewN (then_ HB1.out (hbw.alloc hwz _)) _⟩
          · have n1 : (tt == [36, 40]) = false := beq_eq_false_iff_ne.2 h3
            by_cases h4 : tt = [36, 41]
            · have n2 : (tt == [36, 41]) = true := beq_iff_eq.2 h4
              cases o with
              | none =>
                have HE := Lib.hid (stripS_bad HZ0.out (by rw [HL.out]; exact HST.out.bad HT.out (sstep_close h4)))
                clear h2 h3 h4 hno
                simp only [opI]
                go_wp2_with (first | (go_at_call 21; (refine (contains_two _ tt 36 40 (hMr.out.below ((Below.refl _ _).alloc (Nat.le_refl _) _)) (by omega)).mono ?_; rw [d1]; rintro e w5 ⟨rfl, rfl⟩)) | (go_at_call 21; (refine (contains_two _ tt 36 41 (hMr.out.below ((Below.refl _ _).alloc (Nat.le_refl _) _)) (by omega)).mono ?_; rw [d2]; rintro e w5 ⟨rfl, rfl⟩)))
                go_quiet (fail)
                go_wp2
                refine bodyPost_ret (v := .tuple #[.slice none 0 0, .slice none 0 0, .int .i64 (ta : Int), .int .i64 41]) (by simp [results, Try.results9, go_sem]) rfl ?_
                rw [HE.out]
                exact ⟨_, _, rfl, World.ownsRow_nil _ _ _ _, World.ownsRow_nil _ _ _ _, below_drewN (then_ HB1.out (hbw.alloc hwz _)) _⟩
              | some i =>
                have hsg := (sstep_close2 h4 : sstep s (ws, cs, some i) (tt, ta) = _)
                have HG := Lib.hid (HST.out.good HT.out hsg (by have := HST.out.wl; omega) (by have := HST.out.cl; simp; omega) (fun i hi => by cases hi))
                have hia : (i : Int) + 2 ≤ (ta : Int) := by have := HST.out.opAt HT.out; dsimp only at this; omega
                have hib : (ta : Int) ≤ (s.length : Int) := by omega
                have hic : ((i : Int) + 2).toNat = i + 2 := by omega
                have hid : (0 : Int) ≤ (i : Int) + 2 := by omega
                have e6 : decide ((i : Int) < 0) = false := decide_eq_false (by omega)
                clear hsg hno
                simp only [opI]
                obtain ⟨Ac, cc, rfl, hcc⟩ := own_form hoc
                go_wp2_with (first | (go_at_call 21; (refine (contains_two _ tt 36 40 (hMr.out.below ((Below.refl _ _).alloc (Nat.le_refl _) _)) (by omega)).mono ?_; rw [d1]; rintro e w5 ⟨rfl, rfl⟩)) | (go_at_call 21; (refine (contains_two _ tt 36 41 (hMr.out.below ((Below.refl _ _).alloc (Nat.le_refl _) _)) (by omega)).mono ?_; rw [d2]; rintro e w5 ⟨rfl, rfl⟩)) | (at_builtin; (refine wpList_append_own _ rfl (.tmp 65) (.tmp 77) 36 rfl w1.heap.size 44 i1 (.agg #[.string ⟨#[]⟩, .int .i64 0, .int .i64 0, .int .i64 0]) 4 40 Try.underlying36 ki kj0 kj1 kj2 rfl (by decide) _ cs.length (cs.flatMap comCells) rfl ((hoc.alloc _).alloc _) ⟨wr.heap.size + 1, 0, none⟩ 1 1 [.string ((ByteArray.mk s.toArray).extract (i + 2) ta), .int .i64 0, .int .i64 (i : Int), .int .i64 (m : Int)] rfl rfl (cells_at' _ _ _ _ rfl (by simp)) (by simp [Value.oneCell']) (by unfold maxLen; omega) (by omega) (by simp; omega) ?_; intro v' wz hown' hgrow _)))
                rw [bytes_cut, HM.out] at hown'
                have hbz : Below w1.heap.size w1 wz := ((hbw.alloc hwz _).alloc (by simp; omega) _).grown hgrow (by simp; omega) (own_block hoc)
                have how' := ((how.alloc _).alloc _).kept hgrow (own_two how hoc (by decide))
                go_roundw
                case rel => exact ⟨k + 1, _, _, _, HG.out, by go_num, rfl, by rw [← HM.out]; exact how', coms_snoc hown' rfl rfl, hbz⟩
                case measure => simp [intOf]; omega
            · have n2 : (tt == [36, 41]) = false := beq_eq_false_iff_ne.2 h4
              cases o with
              | none =>
                have hsg := (sstep_word hno h3 h4 : sstep s (ws, cs, none) (tt, ta) = _)
                have HG := Lib.hid (HST.out.good HT.out hsg (by have := HST.out.wl; simp; omega) (by have := HST.out.cl; omega) (fun i hi => by cases hi))
                clear hsg hno
                simp only [opI]
                go_wp2_with (first | (go_at_call 21; (refine (contains_two _ tt 36 40 (hMr.out.below ((Below.refl _ _).alloc (Nat.le_refl _) _)) (by omega)).mono ?_; rw [d1]; rintro e w5 ⟨rfl, rfl⟩)) | (go_at_call 21; (refine (contains_two _ tt 36 41 (hMr.out.below ((Below.refl _ _).alloc (Nat.le_refl _) _)) (by omega)).mono ?_; rw [d2]; rintro e w5 ⟨rfl, rfl⟩)) | (at_builtin; (refine wpList_append_own _ rfl (.tmp 82) (.tmp 84) 35 rfl w1.heap.size 40 i0 (.agg #[.string ⟨#[]⟩, .int .i64 0]) 2 24 Try.underlying35 hi hj0 hj1 hj2 rfl (by decide) _ m (ws.flatMap tokCells) rfl ((how.alloc _).alloc _) ⟨wr.heap.size + 1, 0, none⟩ 1 1 (tokCells (tt, ta)) rfl rfl (cells_at' _ _ _ _ rfl (by simp)) (by simp [tokCells, Value.oneCell']) (by unfold maxLen; omega) (by omega) (by simp; omega) ?_; intro v' wz hown' hgrow _)))
                have hbz : Below w1.heap.size w1 wz := ((hbw.alloc hwz _).alloc (by simp; omega) _).grown hgrow (by simp; omega) (own_block how)
                have hoc' := ((hoc.alloc _).alloc _).kept hgrow (own_two hoc how (by decide))
                go_roundw
                case rel => exact ⟨k + 1, _, _, _, HG.out, by go_num, rfl, toks_snoc hown' rfl HM.out, hoc', hbz⟩
                case measure => simp [intOf]; omega
              | some i =>
                have hsg := (sstep_skip hno h3 h4 : sstep s (ws, cs, some i) (tt, ta) = _)
                have HG := Lib.hid (HST.out.good HT.out hsg (by have := HST.out.wl; omega) (by have := HST.out.cl; omega) (HST.out.keepOp HT.out))
                have e6 : decide ((i : Int) < 0) = false := decide_eq_false (by omega)
                clear hsg hno
                simp only [opI]
                go_wp2_with (first | (go_at_call 21; (refine (contains_two _ tt 36 40 (hMr.out.below ((Below.refl _ _).alloc (Nat.le_refl _) _)) (by omega)).mono ?_; rw [d1]; rintro e w5 ⟨rfl, rfl⟩)) | (go_at_call 21; (refine (contains_two _ tt 36 41 (hMr.out.below ((Below.refl _ _).alloc (Nat.le_refl _) _)) (by omega)).mono ?_; rw [d2]; rintro e w5 ⟨rfl, rfl⟩)))
                rw [HM.out] at how
                go_roundw
                case rel => exact ⟨k + 1, _, _, _, HG.out, by go_num, rfl, by rw [HM.out]; exact how.alloc _, hoc.alloc _, hbw.alloc hwz _⟩
                case measure => simp [intOf]; omega
      · obtain rfl : k = l.length := by omega
        have HF := Lib.hid HST.out.fin
        have hbt := then_ HB1.out hbw
        cases o with
        | none =>
          have HE := Lib.hid (stripS_ok HZ0.out (by rw [HL.out]; exact HF.out))
          simp only [opI]
          obtain ⟨Ac, cc, rfl, hcc⟩ := own_form hoc
          go_wp2
          refine bodyPost_ret (v := .tuple #[.slice Aw m cw, .slice Ac cs.length cc, .int .i64 0, .int .i64 0]) (by simp [results, Try.results9, go_sem]) rfl ?_
          rw [HE.out]
          rw [HM.out] at how ⊢
          exact ⟨_, _, rfl, own_lower how HB1.out.size, own_lower hoc HB1.out.size, hbt⟩
        | some i =>
          have HE := Lib.hid (stripS_open HZ0.out (by rw [HL.out]; exact HF.out))
          have e6 : decide ((0 : Int) ≤ (i : Int)) = true := decide_eq_true (by omega)
          simp only [opI]
          go_wp2
          refine bodyPost_ret (v := .tuple #[.slice none 0 0, .slice none 0 0, .int .i64 (i : Int), .int .i64 40]) (by simp [results, Try.results9, go_sem]) rfl ?_
          rw [HE.out]
          exact ⟨_, _, rfl, World.ownsRow_nil _ _ _ _, World.ownsRow_nil _ _ _ _, hbt⟩
  · have ez : (z != 0) = true := by simpa using hz
    have HE := Lib.hid (stripS_scan (text := s) (by rw [hl]; exact hz))
    clear hl hz w1' w2' w3'
    go_enter Try.func9, Try.ntmps9
    go_wp2_with (go_at_call 20; (refine (scan_any _ s).mono ?_; simp only [HL.out]; rintro e w1 ⟨v1, rfl, hv1, hb1⟩))
    refine bodyPost_ret (v := .tuple #[.slice none 0 0, .slice none 0 0, .int .i64 (at0 : Int), .int .i64 z]) (by simp [results, Try.results9, go_sem]) rfl ?_
    rw [HE.out, HL.out]
    exact ⟨_, _, rfl, World.ownsRow_nil _ _ _ _, World.ownsRow_nil _ _ _ _, hb1⟩
theorem strip_any (w : World) (s : List UInt8) (hM : MaxAt w) :
    Calls Try.prog 9 #[.string ⟨s.toArray⟩] w fun e w' => ∃ v1 v2, e = .returned (.tuple #[v1, v2, .int .i64 (stripS s).2.2.1, .int .i64 (stripS s).2.2.2]) ∧ ToksAt w' v1 (stripS s).1 ∧ ComsAt w' v2 (stripS s).2.1 ∧ Below w.heap.size w w' :=
  (strip_own w s hM).mono fun _ _ ⟨v1, v2, h1, h2, h3, h4⟩ => ⟨v1, v2, h1, Rds.of_own h2, Rds.of_own h3, h4⟩
end Go.Proofs.Ythkeggmloajapaa
end
section
namespace Go.Proofs.Ythkeggmloajapaa
open Go.RowKit
end Go.Proofs.Ythkeggmloajapaa
end
