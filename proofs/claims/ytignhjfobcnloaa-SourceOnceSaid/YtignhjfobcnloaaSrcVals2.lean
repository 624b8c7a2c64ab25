/- Locate and Texts of the reference; Texts of the program. -/
import Derived.Test.YtignhjfobcnloaaSrcVals
namespace Go.Proofs.Ytignhjfobcnloaa
open Go.RowKit
theorem ref_locate (w : World) (fv wv cv : Value) (fs : List (List UInt8)) (ws : List WordD) (k : Int) (hf : Strs w fv fs) (hw : WordsAt w wv ws) (r : (List UInt8 × Int) × Int) (hr : locS fs ws k = r) :
    Calls Try.prog 27 #[.agg #[fv, wv, cv], .int .i64 k] w fun e w' => e = .returned (locV r) ∧ Below w.heap.size w w' := by
  obtain ⟨fA, fc, rfl, _, hfm, hfx⟩ := hf.open_
  obtain ⟨wA, wc, rfl, _, hwm, hwx⟩ := hw.open_
  unfold maxLen at hfm hwm
  have HR := Lib.hid hr
  clear hr hf hw
  by_cases hn : k < 0
  · have e1 : decide (k < 0) = true := decide_eq_true hn
    obtain rfl := HR.out.symm.trans (locS_neg (.inl hn))
    clear hn hfx hwx HR
    go_enter Try.func27, Try.ntmps27
    go_wp2
    go_quiet (fail)
    go_wp2
    refine bodyPost_ret (v := locV (([], 0), 3)) (by simp [results, Try.results27, go_sem, locV]) rfl ⟨rfl, ?_⟩
    exact ((below_drewN (new_ (new_ (Below.refl _ _) _) _) _).setCell (p := ⟨w.heap.size + 1, 0, none⟩) (by simp) _).setCell (p := ⟨w.heap.size + 1, 1, none⟩) (by simp) _
  · have e1 : decide (k < 0) = false := decide_eq_false hn
    obtain ⟨n, rfl⟩ : ∃ n : Nat, k = n := ⟨k.toNat, by omega⟩
    clear hn
    by_cases hl : n < ws.length
    · obtain ⟨⟨t, fi, at0⟩, hx⟩ : ∃ x, ws[n]? = some x := ⟨_, List.getElem?_eq_getElem hl⟩
      obtain ⟨b, o, rfl, g1, g2, g3⟩ := hwx n _ hx
      have HX := Lib.hid hx
      have e2 : decide (ws.length ≤ n) = false := decide_eq_false (by omega)
      have hlb := block_lt_of_cell g1
      dsimp only at hlb g1 g2 g3
      clear hwx hx
      by_cases hq : fi < 0
      · have e3 : decide (fi < 0) = true := decide_eq_true hq
        obtain rfl := HR.out.symm.trans (locS_miss HX.out (.inl hq))
        clear hq hfx HR
        go_enter Try.func27, Try.ntmps27
        go_wp2
        go_quiet (fail)
        go_wp2
        refine bodyPost_ret (v := locV (([], 0), 3)) (by simp [results, Try.results27, go_sem, locV]) rfl ⟨rfl, ?_⟩
        exact ((below_drewN (new_ (new_ (Below.refl _ _) _) _) _).setCell (p := ⟨w.heap.size + 1, 0, none⟩) (by simp) _).setCell (p := ⟨w.heap.size + 1, 1, none⟩) (by simp) _
      · have e3 : decide (fi < 0) = false := decide_eq_false hq
        obtain ⟨j, rfl⟩ : ∃ j : Nat, fi = j := ⟨fi.toNat, by omega⟩
        clear hq
        by_cases hj : j < fs.length
        · obtain ⟨f, hfj⟩ : ∃ f, fs[j]? = some f := ⟨_, List.getElem?_eq_getElem hj⟩
          obtain ⟨b2, o2, rfl, g4⟩ := hfx j _ hfj
          have hlb2 := block_lt_of_cell g4
          dsimp only at hlb2 g4
          have e4 : decide (fs.length ≤ j) = false := decide_eq_false (by omega)
          obtain rfl := HR.out.symm.trans (locS_hit HX.out hfj)
          have j0 : (0 : Int) ≤ (j : Int) := Int.natCast_nonneg _
          have j1 : (j : Int) < (fs.length : Int) := by omega
          clear hfx hfj HR
          go_enter Try.func27, Try.ntmps27
          go_wp2
          go_quiet (fail)
          go_wp2
          go_region
          all_goals
            go_wp2
            refine bodyPost_ret (v := locV ((f, at0), 0)) (by simp [results, Try.results27, go_sem, locV]) rfl ⟨rfl, ?_⟩
            first | exact (new_ (new_ (new_ (Below.refl _ _) _) _) _).drew | exact ((below_drewN (new_ (new_ (Below.refl _ _) _) _) _).setCell (p := ⟨w.heap.size + 1, 0, none⟩) (by simp) _).setCell (p := ⟨w.heap.size + 1, 1, none⟩) (by simp) _
        · have e4 : decide (fs.length ≤ j) = true := decide_eq_true (by omega)
          obtain rfl := HR.out.symm.trans (locS_miss HX.out (.inr (by dsimp only; omega)))
          clear hfx HR
          go_enter Try.func27, Try.ntmps27
          go_wp2
          go_quiet (fail)
          go_wp2
          refine bodyPost_ret (v := locV (([], 0), 3)) (by simp [results, Try.results27, go_sem, locV]) rfl ⟨rfl, ?_⟩
          exact ((below_drewN (new_ (new_ (Below.refl _ _) _) _) _).setCell (p := ⟨w.heap.size + 1, 0, none⟩) (by simp) _).setCell (p := ⟨w.heap.size + 1, 1, none⟩) (by simp) _
    · obtain rfl := HR.out.symm.trans (locS_neg (.inr (by omega)))
      have e2 : decide (ws.length ≤ n) = true := decide_eq_true (by omega)
      clear hfx hwx HR
      go_enter Try.func27, Try.ntmps27
      go_wp2
      go_quiet (fail)
      go_wp2
      refine bodyPost_ret (v := locV (([], 0), 3)) (by simp [results, Try.results27, go_sem, locV]) rfl ⟨rfl, ?_⟩
      exact ((below_drewN (new_ (new_ (Below.refl _ _) _) _) _).setCell (p := ⟨w.heap.size + 1, 0, none⟩) (by simp) _).setCell (p := ⟨w.heap.size + 1, 1, none⟩) (by simp) _
set_option maxRecDepth 100000 in
theorem texts_any (w : World) (fv wv cv : Value) (ws : List WordD) (hw : WordsAt w wv ws) (hN : ws.length ≤ 1000000) :
    Calls Try.prog 29 #[.agg #[fv, wv, cv]] w fun e w' => ∃ v, e = .returned v ∧ Strs w' v (textsS ws) ∧ Below w.heap.size w w' := by
  have h0 := hw
  obtain ⟨wA, wc, rfl, _, hwm, _⟩ := hw.open_
  unfold maxLen at hwm
  clear hw
  obtain ⟨i0, hi, hj0, hj1, hj2⟩ := info_parts infoStr
  go_enter Try.func29, Try.ntmps29
  go_wp2
  go_loopw [3, 9] (fun ov i wr => ∃ k : Nat, k ≤ ws.length ∧ i = .int .i64 k ∧ wr.ownsRow w.heap.size 9 1 ov (textsS (ws.take k)).length ((textsS (ws.take k)).map strV) ∧ Below w.heap.size w wr) (fun _ i _ => ws.length - (intOf i).toNat)
  case atStart => exact ⟨0, Nat.zero_le _, rfl, World.ownsRow_nil _ _ _ _, new_ (Below.refl _ _) _⟩
  case round =>
    obtain ⟨k, hk, rfl, hown, hb⟩ := hrel
    have hwz := hb.size
    by_cases hlt : k < ws.length
    · obtain ⟨⟨t, fi, at0⟩, hx⟩ : ∃ x, ws[k]? = some x := ⟨_, List.getElem?_eq_getElem hlt⟩
      obtain ⟨A', c', hvv, _, _, hxx⟩ := (h0.below hb).open_
      obtain ⟨rfl, _, rfl⟩ := (by simpa using hvv : wA = A' ∧ True ∧ wc = c')
      obtain ⟨b, o, rfl, g1, g2, g3⟩ := hxx k _ hx
      obtain ⟨L, hL⟩ : ∃ L, L = textsS (ws.take k) := ⟨_, rfl⟩
      have hLl : L.length = k := by rw [hL]; simp [textsS]; omega
      rw [← hL, hLl] at hown
      have HLl := Lib.hid hLl
      have HT : Hid (textsS (ws.take (k + 1)) = L ++ [t]) := Lib.hid (by rw [hL, take_snoc hx]; simp [textsS])
      clear hxx hx hvv hL hLl
      go_wp2_with (at_builtin; (refine wpList_append_own _ rfl (.tmp 13) (.tmp 16) 22 rfl w.heap.size 9 i0 (.string ⟨#[]⟩) 1 16 Try.underlying22 hi hj0 hj1 hj2 rfl (by decide) _ k (L.map strV) rfl ((hown.alloc _).alloc _) ⟨wr.heap.size + 1, 0, none⟩ 1 1 [strV t] rfl rfl (cells_at' _ _ _ _ rfl (by simp)) (by simp [strV, Value.oneCell']) (by unfold maxLen; omega) (by omega) (by simp; omega) ?_; intro v' wz hown' hgrow _))
      go_roundw
      case rel => exact ⟨k + 1, by omega, by go_num, by rw [HT.out]; exact own_snoc hown' HLl.out.symm rfl, ((hb.alloc hwz _).alloc (by simp; omega) _).grown hgrow (by simp; omega) (own_block hown)⟩
      case measure => simp [intOf]; omega
    · obtain rfl : k = ws.length := by omega
      rw [List.take_length] at hown
      go_wp2
      go_ret
      exact ⟨_, rfl, strs_of_own hown rfl, hb⟩
set_option maxRecDepth 100000 in
theorem ref_texts (w : World) (fv wv cv : Value) (ws : List WordD) (hw : WordsAt w wv ws) (hN : ws.length ≤ 1000000) :
    Calls Try.prog 30 #[.agg #[fv, wv, cv]] w fun e w' => ∃ v, e = .returned v ∧ Strs w' v (textsS ws) ∧ Below w.heap.size w w' := by
  have h0 := hw
  obtain ⟨wA, wc, rfl, _, hwm, _⟩ := hw.open_
  unfold maxLen at hwm
  clear hw
  obtain ⟨i0, hi, hj0, hj1, hj2⟩ := info_parts infoStr
  go_enter Try.func30, Try.ntmps30
  go_wp2
  go_loopw [3, 4] (fun ov i wr => ∃ k : Nat, k ≤ ws.length ∧ i = .int .i64 k ∧ wr.ownsRow (w.heap.size + 1) 9 1 ov (textsS (ws.take k)).length ((textsS (ws.take k)).map strV) ∧ Below w.heap.size w wr ∧ Row wr w.heap.size 65 #[fv, .slice wA ws.length wc, cv] ∧ w.heap.size + 2 ≤ wr.heap.size) (fun _ i _ => ws.length - (intOf i).toNat)
  case atStart => exact ⟨0, Nat.zero_le _, rfl, by have := World.ownsRow_made (base := w.heap.size + 1) (e := 9) (size := 1) (w.alloc (.cells #[fv, .slice wA ws.length wc, cv] 65)) #[] 0 (by simp) (by decide) rfl; simpa [textsS] using this, by first | exact new_ (new_ (Below.refl _ _) _) _ | exact new_ (Below.refl _ _) _, by first | exact (Row.new _ _ _).alloc _ | exact Row.new _ _ _, by simp⟩
  case round =>
    obtain ⟨k, hk, rfl, hown, hb, hr, hwz⟩ := hrel
    have c1 := hr.cell (i := 1) (v := .slice wA ws.length wc) rfl
    have HR := Lib.hid hr
    clear hr
    by_cases hlt : k < ws.length
    · obtain ⟨⟨t, fi, at0⟩, hx⟩ : ∃ x, ws[k]? = some x := ⟨_, List.getElem?_eq_getElem hlt⟩
      obtain ⟨A', c', hvv, _, _, hxx⟩ := (h0.below hb).open_
      obtain ⟨rfl, _, rfl⟩ := (by simpa using hvv : wA = A' ∧ True ∧ wc = c')
      obtain ⟨b, o, rfl, g1, g2, g3⟩ := hxx k _ hx
      obtain ⟨L, hL⟩ : ∃ L, L = textsS (ws.take k) := ⟨_, rfl⟩
      have hLl : L.length = k := by rw [hL]; simp [textsS]; omega
      rw [← hL, hLl] at hown
      have HLl := Lib.hid hLl
      have HT : Hid (textsS (ws.take (k + 1)) = L ++ [t]) := Lib.hid (by rw [hL, take_snoc hx]; simp [textsS])
      have HB := Lib.hid hb
      have HO := Lib.hid hown
      clear hxx hx hvv hL hLl
      go_wp2_with (at_builtin; (refine wpList_append_own _ rfl (.tmp 13) (.tmp 20) 22 rfl (w.heap.size + 1) 9 i0 (.string ⟨#[]⟩) 1 16 Try.underlying22 hi hj0 hj1 hj2 rfl (by decide) _ k (L.map strV) rfl (HO.out.alloc _) ⟨wr.heap.size, 0, none⟩ 1 1 [strV t] rfl rfl (cells_at' _ _ _ _ rfl rfl) (by simp [strV, Value.oneCell']) (by unfold maxLen; omega) (by omega) (by simp; omega) ?_; intro v' wz hown' hgrow _))
      go_roundw
      case rel => exact ⟨k + 1, by omega, by go_num, by rw [HT.out]; exact own_snoc hown' HLl.out.symm rfl, (HB.out.alloc (by omega) _).grown hgrow (by simp; omega) (fun k hk => by have := own_block HO.out k hk; omega), (HR.out.alloc _).grown hgrow (fun e => by have := own_block HO.out _ e.symm; omega), by have := hgrow.size; simp at this; omega⟩
      case measure => simp [intOf]; omega
    · obtain rfl : k = ws.length := by omega
      rw [List.take_length] at hown
      go_wp2
      go_ret
      exact ⟨_, rfl, strs_of_own hown rfl, hb⟩
end Go.Proofs.Ytignhjfobcnloaa
