/- Is and Read of the reference. -/
import Derived.Test.YtmiblmmjgoeahaaReadWalk
import Derived.Test.YtmiblmmjgoeahaaNumRef
namespace Go.Proofs.Ytmiblmmjgoeahaa
open Go.RowKit
theorem ref_is (w : World) (v : Value) (p : List (List UInt8)) (h : Strs w v p) :
    Calls Try.prog 46 #[v] w fun e w' => e = .returned (.bool (decide (isS p))) ∧ w = w' := by
  obtain ⟨A, c, rfl, hc, hm, hx⟩ := h.open_
  unfold maxLen at hm
  cases p with
  | nil =>
    clear hx h
    go_enter Try.func46, Try.ntmps46
    go_wp2
    go_ret
    exact ⟨ret_dec (by simp [isS]), rfl⟩
  | cons s r =>
    obtain ⟨b, o, rfl, g1⟩ := hx 0 s rfl
    rw [Nat.add_zero] at g1
    have hp : 0 < (s :: r).length := by simp
    clear hx h
    generalize hn : (s :: r).length = n at *
    have HN := Lib.hid hn
    clear hn
    by_cases he : s = [40]
    · have t1 : (s == [40]) = true := by simpa using he
      have HE := Lib.hid he
      clear he
      go_enter Try.func46, Try.ntmps46
      go_wp2
      go_ret
      exact ⟨ret_dec_t (by simpa [isS] using HE.out), rfl⟩
    · have t1 : (s == [40]) = false := by simpa using he
      have HE := Lib.hid he
      clear he
      go_enter Try.func46, Try.ntmps46
      go_wp2
      go_ret
      exact ⟨ret_dec (by simpa [isS] using HE.out), rfl⟩
theorem infoStr : (Try.prog.info? 9).map (fun i => (i.zero, i.size, i.bytes)) = some (some (.string ⟨#[]⟩), 1, 16) := by kernel_rfl
theorem strs_cells {w : World} {b o n c : Nat} {l : List (List UInt8)} (h : Strs w (.slice (some ⟨b, o, none⟩) n c) l) : ∀ j u, (l.map fun s => Value.string ⟨s.toArray⟩)[j]? = some u → w.cell? ((⟨b, o, none⟩ : Addr).add j) = some u := by
  obtain ⟨A, c', hv, _, _, _, hr⟩ := h
  obtain ⟨rfl, rfl, rfl⟩ := (by simpa using hv : some ⟨b, o, none⟩ = A ∧ n = l.length ∧ c = c')
  intro j u hu
  have hj : j < l.length := by have := (List.getElem?_eq_some_iff.1 hu).1; simpa using this
  obtain ⟨b', o', ha, hz⟩ := hr (by omega)
  obtain ⟨rfl, rfl⟩ := (by simpa using ha : b = b' ∧ o = o')
  rw [addr_add]
  exact hz j u hu
theorem bytes_append (a l : List UInt8) : (ByteArray.mk a.toArray ++ ByteArray.mk l.toArray) = ByteArray.mk (a ++ l).toArray := by
  apply ByteArray.ext
  rw [ByteArray.data_append]
  simp
theorem flat_step {p : List (List UInt8)} {i j : Nat} {z : List UInt8} (hi : i ≤ j) (hz : p[j]? = some z) : ((p.take (j + 1)).drop i).flatten = ((p.take j).drop i).flatten ++ z ∧ ((p.take (j + 1)).drop i).flatten.length ≤ p.flatten.length := by
  have hlt := (List.getElem?_eq_some_iff.1 hz).1
  refine ⟨?_, ?_⟩
  · rw [List.take_add_one, hz, List.drop_append_of_le_length (by simp; omega), List.flatten_append]
    simp
  · have e : p.flatten = ((p.take (j + 1)).take i).flatten ++ (((p.take (j + 1)).drop i).flatten ++ (p.drop (j + 1)).flatten) := by
      rw [← List.append_assoc, ← List.flatten_append, List.take_append_drop, ← List.flatten_append, List.take_append_drop]
    rw [e]; simp; omega
theorem scan_snoc {p : List (List UInt8)} {k : Nat} {y : List UInt8} (hk : 1 ≤ k) (hy : p[k]? = some y) (hn : ∀ z ∈ (p.take k).drop 1, z ≠ [41]) (he : y ≠ [41]) : ∀ z ∈ (p.take (k + 1)).drop 1, z ≠ [41] := by
  have hlt := (List.getElem?_eq_some_iff.1 hy).1
  rw [List.take_add_one, hy, List.drop_append_of_le_length (by simp; omega)]
  intro z hz
  rcases List.mem_append.1 hz with h | h
  · exact hn z h
  · simp at h; rw [h]; exact he
/-- what ref Read's first loop finds: the first closing bracket behind the first word -/
theorem scan_at {p : List (List UInt8)} (h1 : isS p) {k : Nat} (hk : 1 ≤ k) (hn : ∀ y ∈ (p.take k).drop 1, y ≠ [41]) (hy : p[k]? = some [41]) : [41] ∈ p ∧ cutS p = k := by
  have hm := List.mem_of_getElem? hy
  refine ⟨hm, ?_⟩
  have hne : ∀ y ∈ p.take k, y ≠ [41] := by
    cases p with
    | nil => simp at hy
    | cons a r =>
      have ha : a = [40] := by simpa [isS] using h1
      obtain ⟨j, rfl⟩ : ∃ j, k = j + 1 := ⟨k - 1, by omega⟩
      intro y hyy
      rw [List.take_succ_cons] at hyy hn
      rcases List.mem_cons.1 hyy with rfl | h
      · rw [ha]; decide
      · exact hn y (by simpa using h)
  unfold cutS indexI
  rw [if_pos hm, idxOf_at p [41] k hy hne]
  simp
theorem scan_none {p : List (List UInt8)} (h1 : isS p) (hn : ∀ y ∈ (p.take p.length).drop 1, y ≠ [41]) : [41] ∉ p := by
  cases p with
  | nil => simp
  | cons a r =>
    have ha : a = [40] := by simpa [isS] using h1
    subst ha
    intro hm
    rcases List.mem_cons.1 hm with h | h
    · exact absurd h (by decide)
    · exact hn [41] (by simpa using h) rfl
set_option maxRecDepth 20000 in
set_option maxHeartbeats 1000000 in
theorem ref_read (w : World) (v : Value) (p : List (List UInt8)) (h : Strs w v p) (hs : p.flatten.length ≤ 1048576) (hN : p.length ≤ 1048576) (hsz : ∀ s ∈ p, s.length ≤ maxLen) :
    Calls Try.prog 42 #[v] w fun e w' => ∃ v1 v2, e = .returned (.tuple #[.agg #[v1, v2], .int .i64 (readS p).2]) ∧ Strs w' v1 (readS p).1.1 ∧ Ints w' v2 (readS p).1.2 ∧ Below w.heap.size w w' := by
  have h0 := h
  obtain ⟨A, c, rfl, hc, hm, hx⟩ := h.open_
  unfold maxLen at hm
  by_cases h1 : isS p
  · have e1 : decide (isS p) = true := decide_eq_true h1
    obtain ⟨b, o, rfl, hx'⟩ : ∃ b o, A = some ⟨b, o, none⟩ ∧ ∀ k s, p[k]? = some s → w.cell? ⟨b, o + k, none⟩ = some (.string ⟨s.toArray⟩) := by
      cases p with
      | nil => simp [isS] at h1
      | cons a r =>
        obtain ⟨b, o, ha, _⟩ := hx 0 a rfl
        refine ⟨b, o, ha, fun k s hk => ?_⟩
        obtain ⟨b', o', ha', hz⟩ := hx k s hk
        obtain ⟨rfl, rfl⟩ := (by simpa [ha] using ha' : b = b' ∧ o = o')
        exact hz
    have H1 := Lib.hid h1
    have HX := Lib.hid hx'
    have hp : 0 < p.length := by cases p with | nil => simp [isS] at h1 | cons a r => simp
    clear hx hx' h h1
    go_enter Try.func42, Try.ntmps42
    go_wp2_with (go_at_call 46; refine (ref_is _ _ p (h0.alloc _)).mono ?_; rintro e w1 ⟨rfl, rfl⟩)
    go_loop [4] (fun i => ∃ k : Nat, 1 ≤ k ∧ k ≤ p.length ∧ i = .int .i64 k ∧ ∀ y ∈ (p.take k).drop 1, y ≠ [41]) (fun i => p.length - (intOf i).toNat)
    case atStart => exact ⟨1, Nat.le_refl _, by omega, rfl, by cases p <;> simp⟩
    case round =>
      obtain ⟨k, hk1, hk, rfl, hn⟩ := hrel
      have HNO := Lib.hid hn
      clear hn
      by_cases hlt : k < p.length
      · obtain ⟨y, hy⟩ : ∃ y, p[k]? = some y := ⟨_, List.getElem?_eq_getElem hlt⟩
        have g1 := HX.out k y hy
        have HY := Lib.hid hy
        have hsl : b < w.heap.size := block_lt_of_cell g1
        clear hy
        by_cases he : y = [41]
        · subst he
          have t1 : (([41] : List UInt8) == [41]) = true := by simp
          obtain ⟨h2, hk'⟩ := scan_at H1.out hk1 HNO.out HY.out
          have hC := Strs.cut_if h0 hk1 (by omega)
          rw [show (p.take k).drop 1 = labS p by rw [labS, hk']] at hC
          have HC := Lib.hid hC
          have HK := Lib.hid hk'
          have H2 := Lib.hid h2
          have HL : Hid (∀ s ∈ labS p, s.length ≤ maxLen) := Lib.hid (fun s hs' => hsz s (List.mem_of_mem_take (List.mem_of_mem_drop hs')))
          clear hC hk' h2
          by_cases h3 : namesS (labS p)
          · have e3 : decide (namesS (labS p)) = true := decide_eq_true h3
            clear h3
            go_wp2_with (go_at_call 89; refine (ref_labels _ _ (labS p) (HC.out.alloc _) HL.out).mono ?_; rintro e w2 ⟨rfl, nd, rfl⟩)
            go_loop [5, 6] (fun sv i => ∃ j : Nat, k + 1 ≤ j ∧ j ≤ p.length ∧ i = .int .i64 j ∧ ∃ l : List UInt8, l = ((p.take j).drop (k + 1)).flatten ∧ sv = .string ⟨l.toArray⟩) (fun _ i => p.length - (intOf i).toNat)
            case atStart => exact ⟨k + 1, Nat.le_refl _, by omega, by go_num, [], by simp, rfl⟩
            case round =>
              obtain ⟨j, hj1, hj, rfl, l, hl, rfl⟩ := hrel
              by_cases hjl : j < p.length
              · obtain ⟨z, hz⟩ : ∃ z, p[j]? = some z := ⟨_, List.getElem?_eq_getElem hjl⟩
                have g2 := HX.out j z hz
                obtain ⟨f1, f2⟩ := flat_step hj1 hz
                rw [← hl] at f1
                have hlz : l.length + z.length ≤ 1048576 := by rw [f1, List.length_append] at f2; omega
                have F1 := Lib.hid f1
                have HZ := Lib.hid hz
                clear hz hl f1 f2
                go_wp2
                go_round
                case rel => exact ⟨j + 1, by omega, by omega, by go_num, l ++ z, F1.out.symm, by rw [bytes_append]⟩
                case measure => simp [intOf]; omega
              · obtain rfl : j = p.length := by omega
                have hle : l = letS p := by rw [hl, List.take_length, letS, HK.out]
                subst hle
                clear hl
                have hr2 := ((Row.new w 44 #[.slice none 0 0, .slice none 0 0]).drewN nd)
                by_cases h4 : (numbersS (letS p)).2.2 = 0
                · have e4 : ((numbersS (letS p)).2.2 != 0) = false := by simpa using h4
                  have HS := Lib.hid (readS_ok H1.out H2.out (of_decide_eq_true e3) h4)
                  have hP := Strs.cut h0 hk1 (show k ≤ p.length by omega)
                  rw [show (p.take k).drop 1 = labS p by rw [labS, HK.out]] at hP
                  have HP := Lib.hid hP
                  have hLn : (labS p).length = k - 1 := by rw [labS, HK.out]; simp; omega
                  have HLn := Lib.hid hLn
                  obtain ⟨i0, hi, hz0, hz1, hz2⟩ := info_parts infoStr
                  clear h4 hP hLn
                  go_wp2_with (first | (go_at_call 21; refine (ref_numbers (letS p) _).mono ?_; rintro e w4 ⟨v4, rfl, hv4, hb4⟩; obtain ⟨a4, c4, rfl⟩ := hv4.form; have hr4 := hr2.below hb4 (by simp)) | (at_builtin; refine wpList_append_own _ rfl _ _ 33 rfl w4.heap.size 9 i0 (.string ⟨#[]⟩) 1 16 Try.underlying33 hi hz0 hz1 hz2 rfl (by decide) _ 0 [] rfl (World.ownsRow_made _ _ _ (Nat.le_refl _) (by decide) rfl) ⟨b, o + 1, none⟩ (k - 1) (c - 1) ((labS p).map fun s => .string ⟨s.toArray⟩) rfl (by rw [List.length_map, HLn.out]; omega) (((HP.out.alloc _).drewN nd).below hb4 |>.alloc _ |> strs_cells) (by simp [Value.oneCell']) (by unfold maxLen; omega) (by omega) (by simp) ?_; intro v5 w5 hown' hgrow _; clear hi; simp only [Nat.zero_add, List.nil_append] at hown'; have hb5 : Below w4.heap.size w4 w5 := ((Below.refl _ _).alloc (Nat.le_refl _) _).grown hgrow (by simp) (fun j ej => by cases ej; exact Nat.le_refl _); obtain ⟨a5, c5, rfl, hc5⟩ := own_form hown'; have hr5 := hr4.below hb5 hr4.lt; have q0 := hr5.cell (i := 0) (v := .slice none 0 0) rfl; have q1 := hr5.cell (i := 1) (v := .slice none 0 0) rfl; have f0 := hr5.free 0; have f1 := hr5.free 1))
                  all_goals have hv5 : Strs w5 (.slice a5 (k - 1) c5) (labS p) := by unfold Strs; rw [HLn.out]; exact Rds.of_own hown'
                  all_goals have hr6 : Row (w5.setCell ⟨w.heap.size, 0, none⟩ (.slice a5 (k - 1) c5)) w.heap.size 44 #[.slice a5 (k - 1) c5, .slice none 0 0] := hr5.set 0 _
                  all_goals have hr7 : Row ((w5.setCell ⟨w.heap.size, 0, none⟩ (.slice a5 (k - 1) c5)).setCell ⟨w.heap.size, 1, none⟩ (.slice a4 (numbersS (letS p)).1.length c4)) w.heap.size 44 #[.slice a5 (k - 1) c5, .slice a4 (numbersS (letS p)).1.length c4] := hr6.set 1 _
                  all_goals have u0 := hr6.cell (i := 0) (v := .slice a5 (k - 1) c5) rfl
                  all_goals have u1 := hr7.cell (i := 1) (v := .slice a4 (numbersS (letS p)).1.length c4) rfl
                  all_goals refine bodyPost_ret (v := .tuple #[.agg #[.slice a5 (k - 1) c5, .slice a4 (numbersS (letS p)).1.length c4], .int .i64 0]) (by simp [results, Try.results42, go_sem, u0, u1]) rfl ?_
                  all_goals rw [HS.out]
                  all_goals exact ⟨_, _, rfl, (hv5.set2 hr5 _).set2 hr6 _, (Ints.set2 (hv4.below hb5) hr5 _).set2 hr6 _, ((then_ (then_ (below_drewN (new_ (Below.refl _ _) _) nd) hb4) hb5).setCell (by simp) _).setCell (by simp) _⟩
                · have e4 : ((numbersS (letS p)).2.2 != 0) = true := by simpa using h4
                  have HS := Lib.hid (readS_bad H1.out H2.out (of_decide_eq_true e3) h4)
                  clear h4
                  go_wp2_with (go_at_call 21; refine (ref_numbers (letS p) _).mono ?_; rintro e w4 ⟨v4, rfl, hv4, hb4⟩; obtain ⟨a4, c4, rfl⟩ := hv4.form; have hr4 := hr2.below hb4 (by simp); have q0 := hr4.cell (i := 0) (v := .slice none 0 0) rfl; have q1 := hr4.cell (i := 1) (v := .slice none 0 0) rfl; have f0 := hr4.free 0; have f1 := hr4.free 1)
                  all_goals obtain ⟨u0, u1⟩ := set2_cells hr4 (.slice none 0 0) (.slice none 0 0)
                  all_goals refine bodyPost_ret (v := .tuple #[.agg #[.slice none 0 0, .slice none 0 0], .int .i64 (numbersS (letS p)).2.2]) (by simp [results, Try.results42, go_sem, u0, u1]) rfl ?_
                  all_goals rw [HS.out]
                  all_goals exact ⟨_, _, rfl, Rds.nil_, Rds.nil_, ((then_ (below_drewN (new_ (Below.refl _ _) _) nd) hb4).setCell (by simp) _).setCell (by simp) _⟩
          · have e3 : decide (namesS (labS p)) = false := decide_eq_false h3
            have HS := Lib.hid (readS_no (p := p) (fun ⟨_, _, hh⟩ => h3 hh))
            clear h3
            go_wp2_with (go_at_call 89; refine (ref_labels _ _ (labS p) (HC.out.alloc _) HL.out).mono ?_; rintro e w2 ⟨rfl, nd, rfl⟩)
            all_goals go_returns
            all_goals rw [HS.out]
            all_goals exact ⟨_, _, rfl, Rds.nil_, Rds.nil_, ((below_drewN (new_ (Below.refl _ _) _) nd).setCell (by simp) _).setCell (by simp) _⟩
        · have t1 : (y == [41]) = false := by simpa using he
          have t2 : (y != [41]) = true := by simpa using he
          have HE := Lib.hid he
          clear he
          go_wp2
          go_round
          case rel => exact ⟨k + 1, by omega, by omega, by go_num, scan_snoc hk1 HY.out HNO.out HE.out⟩
          case measure => simp [intOf]; omega
      · obtain rfl : k = p.length := by omega
        have HS := Lib.hid (readS_no (p := p) (fun ⟨_, hh, _⟩ => scan_none H1.out HNO.out hh))
        go_wp2
        go_returns
        rw [HS.out]
        exact ⟨_, _, rfl, Rds.nil_, Rds.nil_, new_ (Below.refl _ _) _⟩
  · have e1 : decide (isS p) = false := decide_eq_false h1
    have HS := Lib.hid (readS_no (p := p) (fun ⟨hh, _⟩ => h1 hh))
    clear hx h h1
    go_enter Try.func42, Try.ntmps42
    go_wp2_with (go_at_call 46; refine (ref_is _ _ p (h0.alloc _)).mono ?_; rintro e w1 ⟨rfl, rfl⟩)
    go_returns
    rw [HS.out]
    exact ⟨_, _, rfl, Rds.nil_, Rds.nil_, new_ (Below.refl _ _) _⟩
end Go.Proofs.Ytmiblmmjgoeahaa
