/- Locate and Texts of the reference; Texts of the program. Units converted: comments, words. -/
import Derived.Test.YtignhjfobcnloaaSrcVals
import Derived.Deep.DrawnRows
import Derived.Deep.RegionHeld3
section
namespace Go.Proofs.Ytignhjfobcnloaa
open Go.RowKit
theorem ref_locate (w : World) (fv wv cv : Value) (fs : List (List UInt8)) (ws : List WordD) (k : Int) (hf : Strs w fv fs) (hw : WordsAt w wv ws) (r : (List UInt8 × Int) × Int) (hr : locS fs ws k = r) :
    Calls Try.prog 27 #[.agg #[fv, wv, cv], .int .i64 k] w fun e w' => e = .returned (locV r) ∧ Below w.heap.size w w' := by
  obtain ⟨fA, fc, rfl, _, hfm, hfx⟩ := hf.open_
  obtain ⟨wA, wc, rfl, _, hwm, hwx⟩ := hw.open_
  unfold maxLen at hfm hwm
  have HR := Lib.hid hr
  clear hr hf hw
  by_cases hn : k < 0
  · have e1 : decide (k < 0) = true := decide_eq_true hn
    obtain rfl := HR.out.symm.trans (locS_neg (.inl hn))
    clear hn hfx hwx HR
    go_enter Try.func27, Try.ntmps27
    go_wp2
    go_quiet (fail)
    go_wp2
    refine bodyPost_ret (v := locV (([], 0), 3)) (by simp [results, Try.results27, go_sem, locV]) rfl ⟨rfl, ?_⟩
    exact ((below_drewN (new_ (new_ (Below.refl _ _) _) _) _).setCell (p := ⟨w.heap.size + 1, 0, none⟩) (by simp) _).setCell (p := ⟨w.heap.size + 1, 1, none⟩) (by simp) _
  · have e1 : decide (k < 0) = false := decide_eq_false hn
    obtain ⟨n, rfl⟩ : ∃ n : Nat, k = n := ⟨k.toNat, by omega⟩
    clear hn
    by_cases hl : n < ws.length
    · obtain ⟨⟨t, fi, at0⟩, hx⟩ : ∃ x, ws[n]? = some x := ⟨_, List.getElem?_eq_getElem hl⟩
      obtain ⟨b, o, rfl, g1, g2, g3⟩ := hwx n _ hx
      have HX := Lib.hid hx
      have e2 : decide (ws.length ≤ n) = false := decide_eq_false (by omega)
      have hlb := block_lt_of_cell g1
      dsimp only at hlb g1 g2 g3
      clear hwx hx
      by_cases hq : fi < 0
      · have e3 : decide (fi < 0) = true := decide_eq_true hq
        obtain rfl := HR.out.symm.trans (locS_miss HX.out (.inl hq))
        clear hq hfx HR
        go_enter Try.func27, Try.ntmps27
        go_wp2
        go_quiet (fail)
        go_wp2
        refine bodyPost_ret (v := locV (([], 0), 3)) (by simp [results, Try.results27, go_sem, locV]) rfl ⟨rfl, ?_⟩
        exact ((below_drewN (new_ (new_ (Below.refl _ _) _) _) _).setCell (p := ⟨w.heap.size + 1, 0, none⟩) (by simp) _).setCell (p := ⟨w.heap.size + 1, 1, none⟩) (by simp) _
      · have e3 : decide (fi < 0) = false := decide_eq_false hq
        obtain ⟨j, rfl⟩ : ∃ j : Nat, fi = j := ⟨fi.toNat, by omega⟩
        clear hq
        by_cases hj : j < fs.length
        · obtain ⟨f, hfj⟩ : ∃ f, fs[j]? = some f := ⟨_, List.getElem?_eq_getElem hj⟩
          obtain ⟨b2, o2, rfl, g4⟩ := hfx j _ hfj
          have hlb2 := block_lt_of_cell g4
          dsimp only at hlb2 g4
          have e4 : decide (fs.length ≤ j) = false := decide_eq_false (by omega)
          obtain rfl := HR.out.symm.trans (locS_hit HX.out hfj)
          have j0 : (0 : Int) ≤ (j : Int) := Int.natCast_nonneg _
          have j1 : (j : Int) < (fs.length : Int) := by omega
          clear hfx hfj HR
          go_enter Try.func27, Try.ntmps27
          go_wp2
          go_quiet (fail)
          go_wp2
          go_region
          all_goals
            go_wp2
            refine bodyPost_ret (v := locV ((f, at0), 0)) (by simp [results, Try.results27, go_sem, locV]) rfl ⟨rfl, ?_⟩
            first | exact (new_ (new_ (new_ (Below.refl _ _) _) _) _).drew | exact ((below_drewN (new_ (new_ (Below.refl _ _) _) _) _).setCell (p := ⟨w.heap.size + 1, 0, none⟩) (by simp) _).setCell (p := ⟨w.heap.size + 1, 1, none⟩) (by simp) _
        · have e4 : decide (fs.length ≤ j) = true := decide_eq_true (by omega)
          obtain rfl := HR.out.symm.trans (locS_miss HX.out (.inr (by dsimp only; omega)))
          clear hfx HR
          go_enter Try.func27, Try.ntmps27
          go_wp2
          go_quiet (fail)
          go_wp2
          refine bodyPost_ret (v := locV (([], 0), 3)) (by simp [results, Try.results27, go_sem, locV]) rfl ⟨rfl, ?_⟩
          exact ((below_drewN (new_ (new_ (Below.refl _ _) _) _) _).setCell (p := ⟨w.heap.size + 1, 0, none⟩) (by simp) _).setCell (p := ⟨w.heap.size + 1, 1, none⟩) (by simp) _
    · obtain rfl := HR.out.symm.trans (locS_neg (.inr (by omega)))
      have e2 : decide (ws.length ≤ n) = true := decide_eq_true (by omega)
      clear hfx hwx HR
      go_enter Try.func27, Try.ntmps27
      go_wp2
      go_quiet (fail)
      go_wp2
      refine bodyPost_ret (v := locV (([], 0), 3)) (by simp [results, Try.results27, go_sem, locV]) rfl ⟨rfl, ?_⟩
      exact ((below_drewN (new_ (new_ (Below.refl _ _) _) _) _).setCell (p := ⟨w.heap.size + 1, 0, none⟩) (by simp) _).setCell (p := ⟨w.heap.size + 1, 1, none⟩) (by simp) _
set_option maxRecDepth 100000 in
theorem texts_any (w : World) (fv wv cv : Value) (ws : List WordD) (hw : WordsAt w wv ws) (hN : ws.length ≤ 1000000) :
    Calls Try.prog 29 #[.agg #[fv, wv, cv]] w fun e w' => ∃ v, e = .returned v ∧ Strs w' v (textsS ws) ∧ Below w.heap.size w w' := by
  have h0 := hw
  obtain ⟨wA, wc, rfl, _, hwm, _⟩ := hw.open_
  unfold maxLen at hwm
  clear hw
  obtain ⟨i0, hi, hj0, hj1, hj2⟩ := info_parts infoStr
  go_enter Try.func29, Try.ntmps29
  go_wp2
  go_loopw [3, 9] (fun ov i wr => ∃ k : Nat, k ≤ ws.length ∧ i = .int .i64 k ∧ wr.ownsRow w.heap.size 9 1 ov (textsS (ws.take k)).length ((textsS (ws.take k)).map strV) ∧ Below w.heap.size w wr) (fun _ i _ => ws.length - (intOf i).toNat)
  case atStart => exact ⟨0, Nat.zero_le _, rfl, World.ownsRow_nil _ _ _ _, new_ (Below.refl _ _) _⟩
  case round =>
    obtain ⟨k, hk, rfl, hown, hb⟩ := hrel
    have hwz := hb.size
    by_cases hlt : k < ws.length
    · obtain ⟨⟨t, fi, at0⟩, hx⟩ : ∃ x, ws[k]? = some x := ⟨_, List.getElem?_eq_getElem hlt⟩
      obtain ⟨A', c', hvv, _, _, hxx⟩ := (h0.below hb).open_
      obtain ⟨rfl, _, rfl⟩ := (by simpa using hvv : wA = A' ∧ True ∧ wc = c')
      obtain ⟨b, o, rfl, g1, g2, g3⟩ := hxx k _ hx
      obtain ⟨L, hL⟩ : ∃ L, L = textsS (ws.take k) := ⟨_, rfl⟩
      have hLl : L.length = k := by rw [hL]; simp [textsS]; omega
      rw [← hL, hLl] at hown
      have HLl := Lib.hid hLl
      have HT : Hid (textsS (ws.take (k + 1)) = L ++ [t]) := Lib.hid (by rw [hL, take_snoc hx]; simp [textsS])
      clear hxx hx hvv hL hLl
      go_wp2_with (at_builtin; (refine wpList_append_own _ rfl (.tmp 13) (.tmp 16) 22 rfl w.heap.size 9 i0 (.string ⟨#[]⟩) 1 16 Try.underlying22 hi hj0 hj1 hj2 rfl (by decide) _ k (L.map strV) rfl ((hown.alloc _).alloc _) ⟨wr.heap.size + 1, 0, none⟩ 1 1 [strV t] rfl rfl (cells_at' _ _ _ _ rfl (by simp)) (by simp [strV, Value.oneCell']) (by unfold maxLen; omega) (by omega) (by simp; omega) ?_; intro v' wz hown' hgrow _))
      go_roundw
      case rel => exact ⟨k + 1, by omega, by go_num, by rw [HT.out]; exact own_snoc hown' HLl.out.symm rfl, ((hb.alloc hwz _).alloc (by simp; omega) _).grown hgrow (by simp; omega) (own_block hown)⟩
      case measure => simp [intOf]; omega
    · obtain rfl : k = ws.length := by omega
      rw [List.take_length] at hown
      go_wp2
      go_ret
      exact ⟨_, rfl, strs_of_own hown rfl, hb⟩
set_option maxRecDepth 100000 in
theorem ref_texts (w : World) (fv wv cv : Value) (ws : List WordD) (hw : WordsAt w wv ws) (hN : ws.length ≤ 1000000) :
    Calls Try.prog 30 #[.agg #[fv, wv, cv]] w fun e w' => ∃ v, e = .returned v ∧ Strs w' v (textsS ws) ∧ Below w.heap.size w w' := by
  have h0 := hw
  obtain ⟨wA, wc, rfl, _, hwm, _⟩ := hw.open_
  unfold maxLen at hwm
  clear hw
  obtain ⟨i0, hi, hj0, hj1, hj2⟩ := info_parts infoStr
  go_enter Try.func30, Try.ntmps30
  go_wp2
  go_loopw [3, 4] (fun ov i wr => ∃ k : Nat, k ≤ ws.length ∧ i = .int .i64 k ∧ wr.ownsRow (w.heap.size + 1) 9 1 ov (textsS (ws.take k)).length ((textsS (ws.take k)).map strV) ∧ Below w.heap.size w wr ∧ Row wr w.heap.size 65 #[fv, .slice wA ws.length wc, cv] ∧ w.heap.size + 2 ≤ wr.heap.size) (fun _ i _ => ws.length - (intOf i).toNat)
  case atStart => exact ⟨0, Nat.zero_le _, rfl, by have := World.ownsRow_made (base := w.heap.size + 1) (e := 9) (size := 1) (w.alloc (.cells #[fv, .slice wA ws.length wc, cv] 65)) #[] 0 (by simp) (by decide) rfl; simpa [textsS] using this, by first | exact new_ (new_ (Below.refl _ _) _) _ | exact new_ (Below.refl _ _) _, by first | exact (Row.new _ _ _).alloc _ | exact Row.new _ _ _, by simp⟩
  case round =>
    obtain ⟨k, hk, rfl, hown, hb, hr, hwz⟩ := hrel
    have c1 := hr.cell (i := 1) (v := .slice wA ws.length wc) rfl
    have HR := Lib.hid hr
    clear hr
    by_cases hlt : k < ws.length
    · obtain ⟨⟨t, fi, at0⟩, hx⟩ : ∃ x, ws[k]? = some x := ⟨_, List.getElem?_eq_getElem hlt⟩
      obtain ⟨A', c', hvv, _, _, hxx⟩ := (h0.below hb).open_
      obtain ⟨rfl, _, rfl⟩ := (by simpa using hvv : wA = A' ∧ True ∧ wc = c')
      obtain ⟨b, o, rfl, g1, g2, g3⟩ := hxx k _ hx
      obtain ⟨L, hL⟩ : ∃ L, L = textsS (ws.take k) := ⟨_, rfl⟩
      have hLl : L.length = k := by rw [hL]; simp [textsS]; omega
      rw [← hL, hLl] at hown
      have HLl := Lib.hid hLl
      have HT : Hid (textsS (ws.take (k + 1)) = L ++ [t]) := Lib.hid (by rw [hL, take_snoc hx]; simp [textsS])
      have HB := Lib.hid hb
      have HO := Lib.hid hown
      clear hxx hx hvv hL hLl
      go_wp2_with (at_builtin; (refine wpList_append_own _ rfl (.tmp 13) (.tmp 20) 22 rfl (w.heap.size + 1) 9 i0 (.string ⟨#[]⟩) 1 16 Try.underlying22 hi hj0 hj1 hj2 rfl (by decide) _ k (L.map strV) rfl (HO.out.alloc _) ⟨wr.heap.size, 0, none⟩ 1 1 [strV t] rfl rfl (cells_at' _ _ _ _ rfl rfl) (by simp [strV, Value.oneCell']) (by unfold maxLen; omega) (by omega) (by simp; omega) ?_; intro v' wz hown' hgrow _))
      go_roundw
      case rel => exact ⟨k + 1, by omega, by go_num, by rw [HT.out]; exact own_snoc hown' HLl.out.symm rfl, (HB.out.alloc (by omega) _).grown hgrow (by simp; omega) (fun k hk => by have := own_block HO.out k hk; omega), (HR.out.alloc _).grown hgrow (fun e => by have := own_block HO.out _ e.symm; omega), by have := hgrow.size; simp at this; omega⟩
      case measure => simp [intOf]; omega
    · obtain rfl : k = ws.length := by omega
      rw [List.take_length] at hown
      go_wp2
      go_ret
      exact ⟨_, rfl, strs_of_own hown rfl, hb⟩
end Go.Proofs.Ytignhjfobcnloaa
end
section
namespace Go.Proofs.Ytignhjfobcnloaa
open Go.RowKit
attribute [local go_sem ↓] Go.wp_at_zero Go.wp_at_succ
theorem comf_snoc {w : World} {base : Nat} {e : TypeId} {v : Value} {l : List ComF} {t : ComF} {X : List Value} {n : Nat} (h : w.ownsRow base e 4 v (n + 1) (X ++ comfCells t)) (hX : X = l.flatMap comfCells) (hn : n = l.length) :
    w.ownsRow base e 4 v (l ++ [t]).length ((l ++ [t]).flatMap comfCells) := by
  subst hX hn; simpa [List.flatMap_append] using h
theorem words_snoc {w : World} {base : Nat} {e : TypeId} {v : Value} {l : List WordD} {t : WordD} {X : List Value} {n : Nat} (h : w.ownsRow base e 3 v (n + 1) (X ++ wordCells t)) (hX : X = l.flatMap wordCells) (hn : n = l.length) :
    w.ownsRow base e 3 v (l ++ [t]).length ((l ++ [t]).flatMap wordCells) := by
  subst hX hn; simpa [List.flatMap_append] using h
set_option maxRecDepth 100000 in
set_option maxHeartbeats 1000000 in
theorem comments_f (w : World) (v : Value) (l : List ComF) (h : ComfAt w v l) (hl8 : l.length ≤ 1000000) :
    Calls Try.prog 61 #[v] w fun e w' => ∃ v', e = .returned v' ∧ ComfAt w' v' l ∧ Below w.heap.size w w' := by
  have h0 := h
  obtain ⟨A1, c1, rfl, hc1, hm1, _⟩ := h.open_
  unfold maxLen at hm1
  obtain ⟨i1, ki, kj0, kj1, kj2⟩ := info_parts infoRCom
  go_enter Try.func61, Try.ntmps61
  go_wp2
  go_loopw [3, 8] (fun ov i wr => ∃ (k : Nat), k ≤ l.length ∧ i = .int .i64 k ∧ wr.ownsRow w.heap.size 148 4 ov (l.take k).length ((l.take k).flatMap comfCells) ∧ Below w.heap.size w wr) (fun _ i _ => l.length - (intOf i).toNat)
  case atStart => exact ⟨0, Nat.zero_le _, rfl, World.ownsRow_nil _ _ _ _, Below.refl _ _⟩
  case round =>
    obtain ⟨k, hk, rfl, hown, hb⟩ := hrel
    have hwz := hb.size
    by_cases hlt : k < l.length
    · obtain ⟨y, hy⟩ : ∃ y, l[k]? = some y := ⟨_, List.getElem?_eq_getElem hlt⟩
      obtain ⟨A1', c1', hvv, _, _, hx1⟩ := (h0.below hb).open_
      obtain ⟨rfl, _, rfl⟩ := (by simpa using hvv : A1 = A1' ∧ True ∧ c1 = c1')
      obtain ⟨b1, o1, rfl, s1, s2, s3, s4⟩ := hx1 k y hy
      obtain ⟨L, hL⟩ : ∃ L, L = l.take k := ⟨_, rfl⟩
      have hLl : L.length = k := by rw [hL]; simp; omega
      rw [← hL, hLl] at hown
      have HLl := Lib.hid hLl
      have HT : Hid (l.take (k + 1) = L ++ [y]) := Lib.hid (by rw [hL]; exact take_snoc hy)
      clear hx1 hy hvv hL hLl
      go_wp2_with (at_builtin; (refine wpList_append_own _ rfl (.tmp 12) (.tmp 20) 63 rfl w.heap.size 148 i1 (.agg #[.string ⟨#[]⟩, .int .i64 0, .int .i64 0, .int .i64 0]) 4 40 Try.underlying63 ki kj0 kj1 kj2 rfl (by decide) _ k (L.flatMap comfCells) rfl ((hown.alloc _).alloc _) ⟨wr.heap.size + 1, 0, none⟩ 1 1 (comfCells y) rfl rfl (cells_at' _ _ _ _ rfl (by simp)) (by simp [comfCells, Value.oneCell']) (by unfold maxLen; omega) (by omega) (by simp; omega) ?_; intro v' wz hown' hgrow _))
      go_roundw
      case rel => exact ⟨k + 1, by omega, by go_num, by rw [HT.out]; exact comf_snoc hown' rfl HLl.out.symm, ((hb.alloc hwz _).alloc (by simp; omega) _).grown hgrow (by simp; omega) (own_block hown)⟩
      case measure => simp [intOf]; omega
    · obtain rfl : k = l.length := by omega
      rw [List.take_length] at hown
      go_wp2
      go_ret
      exact ⟨_, rfl, Rds.of_own hown, hb⟩
/-- a reading, aside of a row of other values -/
theorem Rds.aside {w w' : World} {size n g : Nat} {t : TypeId} {cs : Array Value} {v : Value} {xs : List Value} (h : Rds w size v n xs) (hr : Row w g t cs) (hd : ∀ u ∈ xs, u ∉ cs.toList)
    (hk : ∀ p : Addr, p.block < w.heap.size → p.block ≠ g → w'.cell? p = w.cell? p) : Rds w' size v n xs := by
  obtain ⟨A, c, hv, hc, hm, hl, hx⟩ := h
  refine ⟨A, c, hv, hc, hm, hl, fun hn => ?_⟩
  obtain ⟨b, o, ha, hz⟩ := hx hn
  refine ⟨b, o, ha, fun j u hu => ?_⟩
  have h1 := hz j u hu
  refine (hk _ (block_lt_of_cell h1) fun e => ?_).trans h1
  have e' : b = g := e
  subst e'
  refine hd u (List.mem_of_getElem? hu) ?_
  rw [cell_of_row w b (o + j) cs t (0, 0) hr] at h1
  exact List.mem_of_getElem? (by rw [← Array.getElem?_toList] at h1; exact h1)
theorem comf_slices {cs : List ComF} {l : List Value} (hl : ∀ v ∈ l, ∃ a n c, v = .slice a n c) : ∀ u ∈ cs.flatMap comfCells, u ∉ l := by
  intro u hu hm
  obtain ⟨a, n, c, rfl⟩ := hl u hm
  obtain ⟨x, _, hx⟩ := List.mem_flatMap.1 hu
  simp [comfCells] at hx
theorem words_slices {cs : List WordD} {l : List Value} (hl : ∀ v ∈ l, ∃ a n c, v = .slice a n c) : ∀ u ∈ cs.flatMap wordCells, u ∉ l := by
  intro u hu hm
  obtain ⟨a, n, c, rfl⟩ := hl u hm
  obtain ⟨x, _, hx⟩ := List.mem_flatMap.1 hu
  simp [wordCells] at hx
set_option maxRecDepth 100000 in
set_option maxHeartbeats 2000000 in
theorem unit_any (w : World) (fv wv cv : Value) (ws : List WordD) (cs : List ComF) (fs : List (List UInt8)) (hf : Strs w fv fs) (hw : WordsAt w wv ws) (hc : ComfAt w cv cs) (hN : ws.length ≤ 1000000) (hM : cs.length ≤ 1000000) :
    Calls Try.prog 28 #[.agg #[fv, wv, cv]] w fun e w' => ∃ wv' cv', e = .returned (.agg #[fv, wv', cv']) ∧ WordsAt w' wv' ws ∧ ComfAt w' cv' cs ∧ Below w.heap.size w w' := by
  have h0 := hw
  obtain ⟨fA, fc, rfl⟩ := hf.form
  obtain ⟨wA, wc, rfl, _, hwm, _⟩ := hw.open_
  obtain ⟨cA, cc, rfl, _, hcm, _⟩ := hc.open_
  unfold maxLen at hwm hcm
  have HC := Lib.hid hc
  have HW := Lib.hid h0
  clear hw hc h0 hf
  obtain ⟨i0, hi, hj0, hj1, hj2⟩ := info_parts infoRWord
  go_enter Try.func28, Try.ntmps28
  go_wp2
  obtain ⟨W1, hW1⟩ : ∃ W1, W1 = (w.alloc (.cells #[.slice fA fs.length fc, .slice wA ws.length wc, .slice cA cs.length cc] 54)).alloc (.cells #[.slice none 0 0, .slice none 0 0, .slice none 0 0] 65) := ⟨_, rfl⟩
  rw [← hW1]
  have r0 : Row W1 w.heap.size 54 #[.slice fA fs.length fc, .slice wA ws.length wc, .slice cA cs.length cc] := by rw [hW1]; exact (Row.new _ _ _).alloc _
  have r1 : Row W1 (w.heap.size + 1) 65 #[.slice none 0 0, .slice none 0 0, .slice none 0 0] := by rw [hW1]; exact Row.new' _ _ _ (by simp)
  have HB : Hid (Below w.heap.size w W1) := Lib.hid (by rw [hW1]; exact new_ (new_ (Below.refl _ _) _) _)
  have hz1 : W1.heap.size = w.heap.size + 2 := by rw [hW1]; simp
  have s0 := r0.cell (i := 0) (v := .slice fA fs.length fc) rfl
  have s1 := r0.cell (i := 1) (v := .slice wA ws.length wc) rfl
  have s2 := r0.cell (i := 2) (v := .slice cA cs.length cc) rfl
  have R0 := Lib.hid r0
  have R1 := Lib.hid r1
  clear hW1 r0 r1
  go_region_held3 (fun w' => w'.cell? ⟨w.heap.size, 0, none⟩ = some (.slice fA fs.length fc) ∧ w'.cell? ⟨w.heap.size, 1, none⟩ = some (.slice wA ws.length wc) ∧ w'.cell? ⟨w.heap.size, 2, none⟩ = some (.slice cA cs.length cc)) (go_keep)
    (first
      | (go_at_call 61; (refine (comments_f (W1.alloc (.cells #[.slice none 0 0, .slice none 0 0, .slice none 0 0] 65)).drew _ cs (HC.out.below (new_ HB.out _).drew) hM).mono ?_; rintro e w2 ⟨u2, rfl, hu2, hb2⟩; have HB2 := Lib.hid (show Below W1.heap.size W1 w2 from (new_ (Below.refl _ _) (.cells #[.slice none 0 0, .slice none 0 0, .slice none 0 0] 65)).drew.trans (hb2.mono (by simp))); have R2 := Lib.hid ((Row.new' W1 65 #[.slice none 0 0, .slice none 0 0, .slice none 0 0] hz1.symm).drew.below hb2 (by simp [hz1])); have k0 := (R0.out.below HB2.out R0.out.lt).cell (i := 0) (v := .slice fA fs.length fc) rfl; have k1 := (R0.out.below HB2.out R0.out.lt).cell (i := 1) (v := .slice wA ws.length wc) rfl; have k2 := (R0.out.below HB2.out R0.out.lt).cell (i := 2) (v := .slice cA cs.length cc) rfl; have HU2 := Lib.hid hu2; obtain ⟨uA, uc, rfl, _⟩ := hu2.open_; have k3 := R2.out.cell (i := 0) (v := .slice none 0 0) rfl; have k4 := R2.out.cell (i := 1) (v := .slice none 0 0) rfl; have k5 := R2.out.cell (i := 2) (v := .slice none 0 0) rfl; have f3 := R2.out.free 0; have f4 := R2.out.free 1; have f5 := R2.out.free 2; clear hu2 hb2))
      | (go_at_call 61; (refine (comments_f W1.drew _ cs (HC.out.below HB.out.drew) hM).mono ?_; rintro e w2 ⟨u2, rfl, hu2, hb2⟩; have HB2 := Lib.hid (show Below W1.heap.size W1 w2 from ((Below.refl _ _).drew).trans hb2); have k0 := (R0.out.below HB2.out R0.out.lt).cell (i := 0) (v := .slice fA fs.length fc) rfl; have k1 := (R0.out.below HB2.out R0.out.lt).cell (i := 1) (v := .slice wA ws.length wc) rfl; have k2 := (R0.out.below HB2.out R0.out.lt).cell (i := 2) (v := .slice cA cs.length cc) rfl; have HU2 := Lib.hid hu2; obtain ⟨uA, uc, rfl, _⟩ := hu2.open_; clear hu2 hb2)))
  all_goals
    go_wp2
  all_goals
    have hz2 : w.heap.size + 2 ≤ w2.heap.size := by have := HB2.out.size; omega
    first
      | (obtain ⟨W5, hW5⟩ : ∃ W5, W5 = ((w2.setCell ⟨w.heap.size + 2, 0, none⟩ (.slice fA fs.length fc)).setCell ⟨w.heap.size + 2, 1, none⟩ (.slice none 0 0)).setCell ⟨w.heap.size + 2, 2, none⟩ (.slice uA cs.length uc) := ⟨_, rfl⟩
         rw [← hW5]
         have hr5 : Row W5 (w.heap.size + 2) 65 #[.slice fA fs.length fc, .slice none 0 0, .slice uA cs.length uc] := by rw [hW5]; exact ((R2.out.set 0 _).set 1 _).set 2 _
         have hB5 : Below w.heap.size w W5 := by rw [hW5]; exact then_ HB.out (((HB2.out.setCell (p := ⟨w.heap.size + 2, 0, none⟩) (by simp [hz1]) _).setCell (p := ⟨w.heap.size + 2, 1, none⟩) (by simp [hz1]) _).setCell (p := ⟨w.heap.size + 2, 2, none⟩) (by simp [hz1]) _)
         have HU5 := Lib.hid (show ComfAt W5 (.slice uA cs.length uc) cs by
           rw [hW5]
           have h1 := Rds.set HU2.out R2.out (i := 0) (comf_slices (by simp)) (.slice fA fs.length fc)
           have h2 := Rds.set h1 (R2.out.set 0 (.slice fA fs.length fc)) (i := 1) (comf_slices (by simp)) (.slice none 0 0)
           exact Rds.set h2 ((R2.out.set 0 (.slice fA fs.length fc)).set 1 (.slice none 0 0)) (i := 2) (comf_slices (by simp)) (.slice uA cs.length uc))
         obtain ⟨g, hg⟩ : ∃ g, g = w.heap.size + 2 := ⟨_, rfl⟩
         have hr15 : Row W5 (w.heap.size + 1) 65 #[.slice none 0 0, .slice none 0 0, .slice none 0 0] := by rw [hW5]; exact (((R1.out.below HB2.out R1.out.lt).other (by simp) _).other (by simp) _).other (by simp) _
         rw [← hg] at hr5 ⊢
         have hg2 : w.heap.size + 2 ≤ g := Nat.le_of_eq hg.symm
         clear hg
         clear hW5 R2 k0 k1 k2 k3 k4 k5 f3 f4 f5)
      | (obtain ⟨W5, hW5⟩ : ∃ W5, W5 = w2.alloc (.cells #[.slice fA fs.length fc, .slice none 0 0, .slice uA cs.length uc] 65) := ⟨_, rfl⟩
         rw [← hW5]
         have hr5 : Row W5 w2.heap.size 65 #[.slice fA fs.length fc, .slice none 0 0, .slice uA cs.length uc] := by rw [hW5]; exact Row.new _ _ _
         have hB5 : Below w.heap.size w W5 := by rw [hW5]; exact then_ HB.out (new_ HB2.out _)
         have HU5 := Lib.hid (show ComfAt W5 (.slice uA cs.length uc) cs by rw [hW5]; exact HU2.out.below (new_ (Below.refl _ _) _))
         have hg2 : w.heap.size + 2 ≤ w2.heap.size := hz2
         have hr15 : Row W5 (w.heap.size + 1) 65 #[.slice none 0 0, .slice none 0 0, .slice none 0 0] := by rw [hW5]; exact (R1.out.below HB2.out R1.out.lt).alloc _
         generalize w2.heap.size = g at hW5 hr5 hB5 HU5 hg2 hr15 ⊢
         clear hW5 k0 k1 k2)
    have hz5 := hB5.size
    have hg5 := hr5.lt
    have HR5 := Lib.hid hr5
    have HR15 := Lib.hid hr15
    have HB5 := Lib.hid hB5
    clear hz2 hr5 hr15 hB5 HU2 HB2 s0 s1 s2 R0 R1 HB hz1
    go_loopw [15] (fun i wr => ∃ (k : Nat) (v : Value), k ≤ ws.length ∧ i = .int .i64 k ∧ Row wr g 65 #[.slice fA fs.length fc, v, .slice uA cs.length uc] ∧ wr.ownsRow W5.heap.size 132 3 v (ws.take k).length ((ws.take k).flatMap wordCells) ∧ Below w.heap.size w wr ∧ Hid (∀ j : Nat, j < W5.heap.size → j ≠ g → wr.heap[j]? = W5.heap[j]?) ∧ W5.heap.size ≤ wr.heap.size) (fun i _ => ws.length - (intOf i).toNat)
    case atStart => exact ⟨0, _, Nat.zero_le _, rfl, HR5.out, World.ownsRow_nil _ _ _ _, HB5.out, Lib.hid fun _ _ _ => rfl, Nat.le_refl _⟩
    case round =>
      obtain ⟨k, v, hk, rfl, hr, hown, hb, HK, hz⟩ := hrel
      have HB := Lib.hid hb
      have HR := Lib.hid hr
      by_cases hlt : k < ws.length
      · obtain ⟨⟨t, fi, at0⟩, hx⟩ : ∃ x, ws[k]? = some x := ⟨_, List.getElem?_eq_getElem hlt⟩
        obtain ⟨A', c', hvv, _, _, hxx⟩ := (HW.out.below hb).open_
        obtain ⟨rfl, _, rfl⟩ := (by simpa using hvv : wA = A' ∧ True ∧ wc = c')
        obtain ⟨b, o, rfl, g1, g2, g3⟩ := hxx k _ hx
        obtain ⟨L, hL⟩ : ∃ L, L = ws.take k := ⟨_, rfl⟩
        have hLl : L.length = k := by rw [hL]; simp; omega
        rw [← hL, hLl] at hown
        have HLl := Lib.hid hLl
        have HT : Hid (ws.take (k + 1) = L ++ [(t, fi, at0)]) := Lib.hid (by rw [hL, take_snoc hx])
        obtain ⟨vA, vc, rfl, hvc⟩ := own_form hown
        have c1 := hr.cell (i := 1) (v := .slice vA k vc) rfl
        have hgl : g < wr.heap.size := by omega
        have HO := Lib.hid hown
        clear hxx hx hvv hL hLl hb hr hown
        go_wp2_with (at_builtin; (refine wpList_append_own _ rfl (.tmp 20) (.tmp 26) 62 rfl W5.heap.size 132 i0 (.agg #[.string ⟨#[]⟩, .int .i64 0, .int .i64 0]) 3 32 Try.underlying62 hi hj0 hj1 hj2 rfl (by decide) _ k (L.flatMap wordCells) rfl ((HO.out.alloc _).alloc _) ⟨wr.heap.size + 1, 0, none⟩ 1 1 (wordCells (t, fi, at0)) rfl rfl (cells_at' _ _ _ _ rfl (by simp)) (by simp [wordCells, Value.oneCell']) (by unfold maxLen; omega) (by omega) (by simp; omega) ?_; intro v' wz hown' hgrow _; have hrz := ((HR.out.alloc (.cells #[.string ⟨t.toArray⟩, .int .i64 fi, .int .i64 at0] 95)).alloc (.cells #[.string ⟨t.toArray⟩, .int .i64 fi, .int .i64 at0] 132)).grown hgrow (fun e => by have := own_block HO.out _ e.symm; omega); have z1 := hrz.cell (i := 1) (v := .slice vA k vc) rfl; have z2 := hrz.free 1; have HRZ := Lib.hid hrz; clear hrz; obtain ⟨nA, nc, rfl, hnc⟩ := own_form hown'; have HO' := Lib.hid hown'; have HG := Lib.hid hgrow; have hzz : wr.heap.size + 2 ≤ wz.heap.size := (by have := hgrow.size; simp at this; omega); clear hown' hgrow))
        go_roundw
        case rel =>
          refine ⟨k + 1, _, by omega, by go_num, HRZ.out.set 1 _, ?_, ?_, ?_, ?_⟩
          · rw [HT.out]
            exact ownsRow_setCell_below (words_snoc HO'.out rfl HLl.out.symm) (by dsimp only; omega) _
          · exact (((HB.out.alloc (by omega) _).alloc (by simp; omega) _).grown HG.out (by simp; omega) (fun j hj => by have := own_block HO.out j hj; omega)).setCell (p := ⟨g, 1, none⟩) (by dsimp only; omega) _
          · exact Lib.hid fun j hj hne => (Below.heap_setCell _ _ _ _ (by dsimp only; exact hne)).trans ((HG.out.block j (by simp; omega) (fun e => by have := own_block HO.out _ e.symm; omega)).trans ((Below.heap_alloc _ _ _ (by simp; omega)).trans ((Below.heap_alloc _ _ _ (by omega)).trans (HK.out j hj hne))))
          · simp; omega
        case measure => simp [intOf]; omega
      · obtain rfl : k = ws.length := by omega
        rw [List.take_length] at hown
        obtain ⟨vA, vc, rfl, hvc⟩ := own_form hown
        have c0 := hr.cell (i := 0) (v := .slice fA fs.length fc) rfl
        have c1 := hr.cell (i := 1) (v := .slice vA ws.length vc) rfl
        have c2 := hr.cell (i := 2) (v := .slice uA cs.length uc) rfl
        have hr15 : Row wr (w.heap.size + 1) 65 #[.slice none 0 0, .slice none 0 0, .slice none 0 0] := (HK.out _ (by omega) (by omega)).trans HR15.out
        have d0 := hr15.cell (i := 0) (v := .slice none 0 0) rfl
        have d1 := hr15.cell (i := 1) (v := .slice none 0 0) rfl
        have d2 := hr15.cell (i := 2) (v := .slice none 0 0) rfl
        have d3 := hr15.free 0
        have d4 := hr15.free 1
        have d5 := hr15.free 2
        have HR1 := Lib.hid hr15
        have HO := Lib.hid hown
        clear hr hr15 hown hb
        go_wp2
        have key : ∀ {size n : Nat} {v : Value} {xs : List Value}, Rds wr size v n xs → (∀ u ∈ xs, u ∉ [Value.slice none 0 0, Value.slice none 0 0, Value.slice none 0 0]) → (∀ u ∈ xs, u ∉ [Value.slice fA fs.length fc, Value.slice none 0 0, Value.slice none 0 0]) → (∀ u ∈ xs, u ∉ [Value.slice fA fs.length fc, Value.slice vA ws.length vc, Value.slice none 0 0]) →
            Rds (((wr.setCell ⟨w.heap.size + 1, 0, none⟩ (.slice fA fs.length fc)).setCell ⟨w.heap.size + 1, 1, none⟩ (.slice vA ws.length vc)).setCell ⟨w.heap.size + 1, 2, none⟩ (.slice uA cs.length uc)) size v n xs := fun h a1 a2 a3 =>
          Rds.set (Rds.set (Rds.set h HR1.out a1 _) (HR1.out.set 0 _) a2 _) ((HR1.out.set 0 _).set 1 _) a3 _
        have hr9 := ((HR1.out.set 0 (.slice fA fs.length fc)).set 1 (.slice vA ws.length vc)).set 2 (.slice uA cs.length uc)
        have hB9 := ((HB.out.setCell (p := ⟨w.heap.size + 1, 0, none⟩) (by simp) (.slice fA fs.length fc)).setCell (p := ⟨w.heap.size + 1, 1, none⟩) (by simp) (.slice vA ws.length vc)).setCell (p := ⟨w.heap.size + 1, 2, none⟩) (by simp) (.slice uA cs.length uc)
        generalize ((wr.setCell ⟨w.heap.size + 1, 0, none⟩ (.slice fA fs.length fc)).setCell ⟨w.heap.size + 1, 1, none⟩ (.slice vA ws.length vc)).setCell ⟨w.heap.size + 1, 2, none⟩ (.slice uA cs.length uc) = W9 at key hr9 hB9 ⊢
        have q0 := hr9.cell (i := 0) (v := .slice fA fs.length fc) rfl
        have q1 := hr9.cell (i := 1) (v := .slice vA ws.length vc) rfl
        have q2 := hr9.cell (i := 2) (v := .slice uA cs.length uc) rfl
        refine bodyPost_ret (v := .agg #[.slice fA fs.length fc, .slice vA ws.length vc, .slice uA cs.length uc]) (by simp [results, Try.results28, go_sem, q0, q1, q2]) rfl ⟨_, _, rfl, ?_, ?_, hB9⟩
        · exact key (Rds.of_own HO.out) (words_slices (by simp)) (words_slices (by simp)) (words_slices (by simp))
        · exact key (Rds.aside HU5.out HR5.out (comf_slices (by simp)) fun p hp hne => by unfold World.cell?; rw [HK.out _ hp hne]) (comf_slices (by simp)) (comf_slices (by simp)) (comf_slices (by simp))
end Go.Proofs.Ytignhjfobcnloaa
end
