/- Sorted of the program: the walk up to slices.Compact. -/
import Derived.Test.YtignhjfobcnloaaSubSort
import Derived.Test.YtignhjfobcnloaaTokPlain
import Derived.Test.YtignhjfobcnloaaSubRows
namespace Go.Proofs.Ytignhjfobcnloaa
open Go.RowKit Go.Shelf Go.Lib Go.Sort
/-- what slices.Compact does to a row of the call's own -/
def CompactOk (l : List PairD) : Prop := ∀ (W : World) (g : Nat), Row W g 39 (flatK pairCells 2 l.toArray) →
  Calls Try.prog 56 #[.slice (some ⟨g, 0, none⟩) l.length l.length] W fun e w' => ∃ v, e = .returned v ∧ PairsAt w' v (compactS l) ∧ Below g W w'
def CompareOk : Prop := ∀ (w : World) (p q : PairD), Calls Try.prog 55 #[pairV p, pairV q] w fun e w' => e = .returned (.int .i64 (cmpP p q)) ∧ ∃ n os, w' = Sort.grow (w.drewN n) os
theorem infoPair : (Try.prog.info? 39).map (fun i => (i.zero, i.size, i.bytes)) = some (some (.agg #[.string ⟨#[]⟩, .string ⟨#[]⟩]), 2, 32) := by kernel_rfl
theorem below_sorted {α : Type} [Inhabited α] {enc : α → List Value} {w : World} {g : Nat} {k n : Nat} {d : Array α} {os : Array Obj} (hg : g < w.heap.size) : Below g w (sortWorldK enc k w g 0 n d os) := by
  refine ⟨rfl, rfl, rfl, size_sortWorldK_c enc k w g 0 n d os, fun j hj => ?_⟩
  show ((w.heap.modify g (onCells (putCells id 0 (flatK enc k d)))) ++ os)[j]? = w.heap[j]?
  have hjw : j < w.heap.size := by omega
  rw [Array.getElem?_append_left (by simpa using hjw), Array.getElem?_modify, if_neg (by omega)]
theorem take_two {cur : Array Value} {k : Nat} {a b : Value} (h : k * 2 + 1 < cur.size) : ((cur.setIfInBounds (k * 2) a).setIfInBounds (k * 2 + 1) b).toList.take ((k + 1) * 2) = cur.toList.take (k * 2) ++ [a, b] := by
  apply List.ext_getElem?
  intro j
  rw [List.getElem?_take]
  simp only [Array.getElem?_toList, Array.getElem?_setIfInBounds, Array.size_setIfInBounds]
  by_cases h1 : j < k * 2
  · rw [List.getElem?_append_left (by simp; omega), List.getElem?_take, if_pos h1, if_pos (by omega), if_neg (by omega), if_neg (by omega), Array.getElem?_toList]
  · rw [List.getElem?_append_right (by simp; omega)]
    simp only [List.length_take, Array.length_toList]
    rw [Nat.min_eq_left (by omega)]
    by_cases h2 : j = k * 2
    · subst h2
      rw [if_pos (by omega), if_neg (by omega), if_pos rfl, if_pos (by omega)]
      simp
    · by_cases h3 : j = k * 2 + 1
      · subst h3
        rw [if_pos (by omega), if_pos rfl, if_pos (by omega)]
        simp
      · rw [if_neg (by omega), List.getElem?_eq_none (by simp; omega)]
theorem flat_at (l : List PairD) (q r : Nat) (hq : q < l.length) (hr : r < 2) : (l.flatMap pairCells)[q * 2 + r]? = some ((pairCells l[q])[r]!) := by
  obtain ⟨h1, h2⟩ := pairs_flat_at (List.getElem?_eq_getElem hq)
  rcases (show r = 0 ∨ r = 1 by omega) with rfl | rfl
  · rw [Nat.add_zero, h1]; rfl
  · rw [h2]; rfl
theorem flat_at' (l : List PairD) {j : Nat} (hd : j / 2 < l.length) : (l.flatMap pairCells)[j]? = some ((pairCells l[j / 2])[j % 2]!) := by
  have := flat_at l (j / 2) (j % 2) hd (Nat.mod_lt _ (by decide))
  rwa [show j / 2 * 2 + j % 2 = j by omega] at this
theorem holds_of {w : World} {g : Nat} {T : TypeId} {cur : Array Value} {d : List PairD} (hr : Row w g T cur) (_hz : cur.size = d.length * 2) (h : cur.toList = d.flatMap pairCells) : HoldsK pairCells 2 w g 0 d.toArray := by
  intro j hj
  have hj2 : j < d.length * 2 := by simpa using hj
  refine ⟨?_, hr.free _⟩
  rw [Nat.zero_add]
  refine hr.cell ?_
  rw [get_flatK _ _ _ _ (by simpa using hj2)]
  have e : cur[j]? = (d.flatMap pairCells)[j]? := by rw [← h, Array.getElem?_toList]
  rw [e]
  have hd : j / 2 < d.length := by omega
  have hx : d.toArray[j / 2]! = d[j / 2] := by simp [hd]
  rw [hx]
  exact flat_at' d hd
theorem holds_read {W : World} {g : Nat} {l : List PairD} (hH : HoldsK pairCells 2 W g 0 l.toArray) {j : Nat} {u : Value} (hu : (l.flatMap pairCells)[j]? = some u) : W.cell? ⟨g, 0 + j, none⟩ = some u := by
  have hj : j < (l.flatMap pairCells).length := (List.getElem?_eq_some_iff.1 hu).1
  rw [pairs_flat_len] at hj
  rw [(hH j (by simpa using hj)).1, get_flatK _ _ _ _ (by simpa using hj)]
  have hd : j / 2 < l.length := by omega
  have hx : l.toArray[j / 2]! = l[j / 2] := by simp [hd]
  rw [hx, ← hu]
  exact (flat_at' l hd).symm
theorem ordered_at (w : World) (y : PairD) (p q : List UInt8) (h : orderedS y = (p, q)) : Calls Try.prog 53 #[.agg #[.string ⟨y.1.toArray⟩, .string ⟨y.2.toArray⟩]] w fun e w' => e = .returned (.agg #[.string ⟨p.toArray⟩, .string ⟨q.toArray⟩]) ∧ Below w.heap.size w w' := by
  have := ordered_any w y
  rw [h] at this
  exact this
theorem pairs_of_row {W : World} {g : Nat} {T : TypeId} {d : Array PairD} (h : Row W g T (flatK pairCells 2 d)) {k c : Nat} (hk : k ≤ d.size) (hc : k ≤ c) (hm : k ≤ maxLen) : PairsAt W (.slice (some ⟨g, 0, none⟩) k c) (d.toList.take k) := by
  have hl : (d.toList.take k).length = k := by simp; omega
  have := PairsAt.mk (w := W) (A := some ⟨g, 0, none⟩) (l := d.toList.take k) (c := c) (by omega) (by omega) (fun i x hx => by
    have hi : i < k := by have := (List.getElem?_eq_some_iff.1 hx).1; omega
    have e : d[i]! = x := by
      rw [List.getElem?_take, if_pos hi, Array.getElem?_toList] at hx
      rw [getElem!_pos d i (by omega)]
      rw [Array.getElem?_eq_getElem (by omega)] at hx
      exact Option.some.inj hx
    have h0 := h.at0 (i := i) (by omega)
    have h1 := h.at1 (i := i) (by omega)
    rw [e] at h0 h1
    exact ⟨g, 0, rfl, by rw [Nat.zero_add]; exact h0, by rw [Nat.zero_add]; exact h1⟩)
  rwa [hl] at this
theorem compact_small (l : List PairD) (h : l.length < 2) : CompactOk l := by
  intro W g hR
  have hc : compactS l = l := by
    match l, h with
    | [], _ => rfl
    | [x], _ => rfl
  have e1 : decide ((l.length : Int) < 2) = true := by simp; omega
  have hr : PairsAt W (.slice (some ⟨g, 0, none⟩) l.length l.length) l := by
    have := pairs_of_row hR (k := l.length) (c := l.length) (by simp) (Nat.le_refl _) (by simp [maxLen]; omega)
    simpa using this
  clear h hR
  go_enter Try.func56, Try.ntmps56
  go_wp2
  go_ret
  exact ⟨_, rfl, by rw [hc]; exact hr, Below.refl _ _⟩
set_option maxRecDepth 20000 in
set_option maxHeartbeats 1000000 in
theorem sorted_of (hcmp : CompareOk) (w : World) (v : Value) (l : List PairD) (h : PairsAt w v l) (hl : l.length ≤ 100000000) (hcomp : CompactOk ((l.map orderedS).mergeSort fun x y => !(ltOf cmpP) y x)) :
    Calls Try.prog 21 #[v] w fun e w' => ∃ u, e = .returned u ∧ PairsAt w' u (sortedS l) ∧ Below w.heap.size w w' := by
  have h0 := h
  obtain ⟨A, c, rfl, hc, hm, hx⟩ := h.open_
  unfold maxLen at hm
  clear hx
  obtain ⟨i0, hi, hj0, hj1, hj2⟩ := info_parts infoPair
  go_enter Try.func21, Try.ntmps21
  go_wp2_with (at_make; (refine wpList_make_full _ rfl (.tmp 7) (.tmp 7) 36 rfl w.heap.size 39 i0 (.agg #[.string ⟨#[]⟩, .string ⟨#[]⟩]) 2 Try.underlying36 hi hj0 hj1 .i64 .i64 _ _ l.length rfl rfl rfl rfl (by rw [hj2]; omega) (by unfold maxLen; omega) (Nat.le_refl _) ?_; intro w1 hown1 hg1))
  obtain ⟨cur0, hr1, hcs⟩ : ∃ cur, Row w1 w.heap.size 39 cur ∧ cur.size = l.length * 2 := by
    rcases hown1.2 with ⟨e, _⟩ | ⟨g, cap, cur, e, hg, hh, h1, h2, h3, h4⟩
    · cases e
    · obtain ⟨rfl, rfl⟩ := (by simpa using e : w.heap.size = g ∧ l.length = cap)
      exact ⟨cur, hh, h3⟩
  have hb1 : Below w.heap.size w w1 := (Below.refl _ _).grown hg1 (Nat.le_refl _) (fun j ej => by cases ej)
  clear hown1
  go_loopw [11] (fun i wr => ∃ (k : Nat) (cur : Array Value), k ≤ l.length ∧ i = .int .i64 k ∧ Row wr w.heap.size 39 cur ∧ cur.size = l.length * 2 ∧ cur.toList.take (k * 2) = ((l.take k).map orderedS).flatMap pairCells ∧ Below w.heap.size w wr) (fun i _ => l.length - (intOf i).toNat)
  case atStart => exact ⟨0, cur0, Nat.zero_le _, rfl, hr1, hcs, by simp, hb1⟩
  case round =>
    obtain ⟨k, cur, hk, rfl, hr, hcz, htk, hb⟩ := hrel
    have hwz := hb.size
    have HT := Lib.hid htk
    clear htk
    by_cases hlt : k < l.length
    · obtain ⟨y, hy⟩ : ∃ y, l[k]? = some y := ⟨_, List.getElem?_eq_getElem hlt⟩
      obtain ⟨A', c', hvv, _, _, hx⟩ := (h0.below hb).open_
      obtain ⟨rfl, _, rfl⟩ := (by simpa using hvv : A = A' ∧ True ∧ c = c')
      obtain ⟨b, o, rfl, g1, g2⟩ := hx k y hy
      obtain ⟨p, q, hpq⟩ : ∃ p q, orderedS y = (p, q) := ⟨_, _, rfl⟩
      have HP := Lib.hid hpq
      have HY := Lib.hid hy
      clear hpq
      clear hx hy hvv
      go_wp2_with (go_at_call 53; (refine (ordered_at _ y p q HP.out).mono ?_; rintro e w2 ⟨rfl, hb2⟩; have hr2 := (hr.alloc _).below hb2 (by simp; omega); have qf := hr2.free; have q0 := hr2.cell (i := k * 2) (v := cur[k * 2]'(by omega)) (by simp); have q1 := hr2.cell (i := k * 2 + 1) (v := cur[k * 2 + 1]'(by omega)) (by simp)))
      go_roundw
      case rel => exact ⟨k + 1, _, by omega, by go_num, (hr2.set _ _).set _ _, by simp; omega, by rw [take_two (by omega), HT.out, take_snoc HY.out]; simp [HP.out, pairCells], ((hb.trans ((Below.refl _ _).alloc hwz _)).trans (hb2.mono (by simp; omega))).setCell (p := ⟨w.heap.size, k * 2, none⟩) (by dsimp only; exact Nat.le_refl _) _ |>.setCell (p := ⟨w.heap.size, k * 2 + 1, none⟩) (by dsimp only; exact Nat.le_refl _) _⟩
      case measure => simp [intOf]; omega
    · obtain rfl : k = l.length := by omega
      obtain ⟨D, hD⟩ : ∃ D, D = l.map orderedS := ⟨_, rfl⟩
      have hDl : D.length = l.length := by rw [hD]; simp
      have hfl : cur.toList = D.flatMap pairCells := by
        have := HT.out
        rw [List.take_length, List.take_of_length_le (by simp; omega)] at this
        rw [this, hD]
      have hH := holds_of hr (by rw [hDl]; exact hcz) hfl
      have eg : ∀ args w, (callFunc 55 args).run Try.prog w = .ok (.enter 55 args) w := enters_of Try.func55 (by kernel_rfl) rfl
      have hcon := AnyQ.slices_SortFunc_total Try.sortPairs 2 Try.isAgg39 Try.sizeOf39 pairCells (fun _ => rfl) (fun x v hv => by simp [pairCells] at hv; rcases hv with rfl | rfl <;> rfl) cmpP swoP 55 #[] w.heap.size 0 l.length D.toArray wr eg (fun m os dk _ x y => hcmp _ x y) hH hr.lt (by simp; omega) totP
      rw [← hD] at hcomp
      obtain ⟨E, hE⟩ : ∃ E, E = D.mergeSort (fun x y => !(ltOf cmpP) y x) := ⟨_, rfl⟩
      have hEl : E.length = l.length := by rw [hE, List.length_mergeSort, hDl]
      have hds : D.toArray.size = l.length := by simp [hDl]
      rw [hds] at hcon
      have HE : Hid (sortedS l = compactS E) := Lib.hid (by unfold sortedS; rw [hE, hD])
      change Calls Try.prog 54 _ _ _ at hcon
      simp only [← hE] at hcon hcomp
      have HC := Lib.hid hcomp
      have HH := Lib.hid hH
      have HL := Lib.hid hEl
      have HD := Lib.hid hDl
      clear hcomp hD hDl hfl hH hE hEl hds
      go_wp2_with (first
        | (go_at_call 54; (refine hcon.mono ?_; rintro e w2 ⟨rfl, n, os, hw2⟩; have hK := Lib.hid (HC.out w2 w.heap.size (by rw [hw2]; exact hr.sorted _ (by simp [HL.out, hcz]) n os)); have hb2 : Below w.heap.size wr w2 := (by rw [hw2]; exact below_sorted hr.lt); clear hw2; rw [HL.out] at hK))
        | (go_at_call 56; (refine hK.out.mono ?_; rintro e w3 ⟨u, rfl, hu, hb3⟩)))
      go_ret
      exact ⟨_, rfl, by rw [HE.out]; exact hu, (hb.trans hb2).trans hb3⟩
end Go.Proofs.Ytignhjfobcnloaa
