/- slices.DeleteFunc at bindings: what it hands back. -/
import Derived.Test.YtignhjfobcnloaaDelRow
namespace Go.Proofs.Ytignhjfobcnloaa
open Go.RowKit Go.Sort
theorem del_list {a : Form} {d : Array BV} : (d.toList.map (·.1)).filter (notIn a) = (d.toList.filter fun p : BV => notIn a p.1).map (·.1) := by
  rw [List.filter_map]; rfl
theorem del_all {w0 W : World} {g n c : Nat} {d : Array BV} {a : Form} (hd : HD W g n d) (hn : n ≤ c) (hm : n ≤ maxLen) (hb : Below w0.heap.size w0 W) (ht : ∀ p ∈ d.toList, Strs w0 p.2 p.1.2) (hall : ∀ p ∈ d.toList, notIn a p.1 = true) :
    BindAt W (.slice (some ⟨g, 0, none⟩) n c) ((d.toList.map (·.1)).filter (notIn a)) := by
  have hdl : d.size = n := by obtain ⟨_, _, _, h, _⟩ := hd; exact h
  rw [del_list, List.filter_eq_self.2 hall]
  have hl : (d.toList.map (·.1)).length = n := by simp [hdl]
  refine ⟨_, c, by rw [hl], by omega, by omega, fun k x hx => ?_⟩
  rw [List.getElem?_map] at hx
  obtain ⟨p, hp, rfl⟩ := Option.map_eq_some_iff.1 hx
  have hk : k < n := by have := (List.getElem?_eq_some_iff.1 hp).1; simpa [hdl] using this
  have hpd : d[k]! = p := by rw [Array.getElem?_toList, Array.getElem?_eq_getElem (by omega)] at hp; rw [getElem!_pos d k (by omega)]; exact Option.some.inj hp
  obtain ⟨c0, c1, _, _⟩ := hd.at hk hpd
  exact ⟨g, 0, p.2, rfl, by rw [Nat.zero_add]; exact c0, by rw [Nat.zero_add]; exact c1, (ht p (List.mem_of_getElem? hp)).below hb⟩
theorem del_end {w0 W : World} {g n c kk : Nat} {d dk : Array BV} {a : Form} {vs : List Value} (hd : HD W g n dk) (hdl : d.size = n) (hI : DelInv (fun p : BV => notIn a p.1) d d.size kk dk) (hn : n ≤ c) (hm : n ≤ maxLen) (hb : Below w0.heap.size w0 W) (hg : w0.heap.size ≤ g) (ht : ∀ p ∈ d.toList, Strs w0 p.2 p.1.2) :
    BindAt (W.setCells g (kk * 2) vs) (.slice (some ⟨g, 0, none⟩) kk c) ((d.toList.map (·.1)).filter (notIn a)) := by
  have hkk := hI.lt
  have hfin := hI.fin
  rw [del_list]
  have hl : ((d.toList.filter fun p : BV => notIn a p.1).map (·.1)).length = kk := by rw [List.length_map, hfin, List.length_take]; have := hI.size; simp; omega
  have hb2 : Below w0.heap.size w0 (W.setCells g (kk * 2) vs) := below_setCells hg vs _ _ hb
  refine ⟨_, c, by rw [hl], by omega, by omega, fun k x hx => ?_⟩
  rw [List.getElem?_map] at hx
  obtain ⟨p, hp, rfl⟩ := Option.map_eq_some_iff.1 hx
  have hmem : p ∈ d.toList := (List.filter_sublist).subset (List.mem_of_getElem? hp)
  rw [hfin] at hp
  have hk : k < kk := by have := (List.getElem?_eq_some_iff.1 hp).1; rw [List.length_take] at this; omega
  rw [List.getElem?_take_of_lt hk] at hp
  obtain ⟨cur, hr, hz, hds, hc⟩ := hd
  have hpd : dk[k]! = p := by rw [Array.getElem?_toList, Array.getElem?_eq_getElem (by omega)] at hp; rw [getElem!_pos dk k (by omega)]; exact Option.some.inj hp
  obtain ⟨c0, c1⟩ := hc k (by omega)
  rw [hpd] at c0 c1
  have hr2 := Row.setCells vs _ _ (kk * 2) hr
  have key : ∀ (j : Nat) (u : Value), j < kk * 2 → cur[j]? = some u → (W.setCells g (kk * 2) vs).cell? ⟨g, j, none⟩ = some u := fun j u hj hu => by
    refine hr2.cell ?_
    have hlt : j < cur.size := (Array.getElem?_eq_some_iff.1 hu).1
    have g1 := get_setMany vs (kk * 2) cur j hlt
    rw [if_neg (by omega), getElem!_pos cur j hlt, getElem!_pos (setMany cur (kk * 2) vs) j (by rw [size_setMany]; exact hlt)] at g1
    rw [Array.getElem?_eq_getElem (by rw [size_setMany]; exact hlt), g1]
    rw [Array.getElem?_eq_getElem hlt] at hu
    exact hu
  exact ⟨g, 0, p.2, rfl, by rw [Nat.zero_add]; exact key _ _ (by omega) c0, by rw [Nat.zero_add]; exact key _ _ (by omega) c1, (ht p hmem).below hb2⟩
set_option maxRecDepth 100000 in
set_option maxHeartbeats 2000000 in
theorem delete_any (w0 W : World) (g n c : Nat) (d : Array BV) (av : Value) (a : Form) (mb : Nat) (hd : HD W g n d) (hW : Below w0.heap.size w0 W) (hg : w0.heap.size ≤ g) (hnc : n ≤ c) (hn : n ≤ 1000000) (hc : w0.cell? ⟨mb, 0, none⟩ = some av) (ha : Strs w0 av a) (ht : ∀ p ∈ d.toList, Strs w0 p.2 p.1.2) :
    Calls Try.prog 12 #[.slice (some ⟨g, 0, none⟩) n c, .func (.func 14) #[] #[.pointer (some ⟨mb, 0, none⟩)]] W fun e w' => ∃ v, e = .returned v ∧ BindAt w' v ((d.toList.map (·.1)).filter (notIn a)) ∧ Below w0.heap.size w0 w' := by
  have hlt0 := block_lt_of_cell hc
  dsimp only at hlt0
  have hdl : d.size = n := by obtain ⟨_, _, _, h, _⟩ := hd; exact h
  have hz0 := hW.size
  have HD0 := Lib.hid hd
  have HDL := Lib.hid hdl
  have HA := Lib.hid ha
  have HC := Lib.hid hc
  have HW := Lib.hid hW
  have HT := Lib.hid ht
  have hcell : ∀ W' : World, Below w0.heap.size w0 W' → W'.cell? ⟨mb, 0, none⟩ = some av := fun _ hb => (hb.cell (p := ⟨mb, 0, none⟩) hlt0).trans HC.out
  have HCC := Lib.hid hcell
  clear hd ha hc hdl hW ht hcell
  cases hx : d.toList.findIdx? (fun p : BV => !notIn a p.1) with
  | none =>
    have HI : Hid (idxB (fun p : BV => !notIn a p.1) d.toList = -1) := Lib.hid (by unfold idxB; rw [hx])
    have HALL : Hid (∀ p ∈ d.toList, notIn a p.1 = true) := Lib.hid (by rw [List.findIdx?_eq_none_iff] at hx; intro p hp; simpa using hx p hp)
    clear hx
    go_enter Try.func12, Try.ntmps12
    go_wp2_with (go_at_call 47; (refine (index_del _ g n c d av a mb HD0.out hn ((HW.out.cell (p := ⟨mb, 0, none⟩) hlt0).trans HC.out) (HA.out.below HW.out)).mono ?_; rw [HI.out]; rintro e w1 ⟨rfl, hb1⟩))
    go_ret
    exact ⟨_, rfl, del_all (HD0.out.below hb1) hnc (by unfold maxLen; omega) (then_ HW.out hb1) HT.out HALL.out, then_ HW.out hb1⟩
  | some k =>
    rw [List.findIdx?_eq_some_iff_getElem] at hx
    obtain ⟨hk, hkp, hkn⟩ := hx
    have hkn' : k < n := by have := HDL.out; simp at hk; omega
    have HI : Hid (idxB (fun p : BV => !notIn a p.1) d.toList = k) := Lib.hid (by
      refine idxB_hit (List.getElem?_eq_getElem hk) hkp fun x hx => ?_
      obtain ⟨j, hj, rfl⟩ := List.mem_take_iff_getElem.1 hx
      simpa using hkn j (by omega))
    have HS : Hid (DelInv (fun p : BV => notIn a p.1) d (k + 1) k d) := Lib.hid (DelInv.start (by simpa using hk) (fun x hx => by
      obtain ⟨j, hj, rfl⟩ := List.mem_take_iff_getElem.1 hx
      simpa using hkn j (by omega)) (by
      have : d[k]! = d.toList[k] := by rw [getElem!_pos d k (by simpa using hk)]; simp
      rw [this]
      simpa using hkp))
    have e1 : ((k : Int) == -1) = false := by simp
    clear hk hkp hkn
    go_enter Try.func12, Try.ntmps12
    go_wp2_with (go_at_call 47; (refine (index_del _ g n c d av a mb HD0.out hn ((HW.out.cell (p := ⟨mb, 0, none⟩) hlt0).trans HC.out) (HA.out.below HW.out)).mono ?_; rw [HI.out]; rintro e w1 ⟨rfl, hb1⟩))
    have HD1 := Lib.hid (HD0.out.below hb1)
    have HW1 := Lib.hid (then_ HW.out hb1)
    clear hb1
    go_loopw [5, 6, 7] (fun s5 s6 _ wi => ∃ (kk j : Nat) (dk : Array BV), s5 = .int .i64 kk ∧ s6 = .int .i64 j ∧ k + 1 ≤ j ∧ j ≤ n ∧ HD wi g n dk ∧ Below w0.heap.size w0 wi ∧ Hid (DelInv (fun p : BV => notIn a p.1) d j kk dk)) (fun _ s6 _ _ => n - (intOf s6).toNat)
    case atStart => exact ⟨k, k + 1, d, rfl, by first | rfl | go_num, Nat.le_refl _, by omega, HD1.out, HW1.out, HS⟩
    case round =>
      obtain ⟨kk, j, dk, rfl, rfl, h1, hle, hdi, hbi, HI2⟩ := hrel
      have hkk := HI2.out.lt
      have hsz := HI2.out.size
      have hzi := hbi.size
      have hgl := hdi.lt
      by_cases hlt : j < n
      · obtain ⟨⟨x, tv⟩, hu⟩ : ∃ y, d[j]! = y := ⟨_, rfl⟩
        have hu2 : dk[j]! = (x, tv) := (HI2.out.high j (by omega)).trans hu
        have hmem : (x, tv) ∈ d.toList := by
          have hj : j < d.size := by have := HDL.out; omega
          rw [← hu, getElem!_pos d j hj]
          simp
        obtain ⟨tA, tc, htv⟩ := (HT.out _ hmem).form
        dsimp only at htv
        subst htv
        obtain ⟨g1, g2, _, _⟩ := hdi.at hlt hu2
        obtain ⟨o, ho⟩ : ∃ o, dk[kk]! = o := ⟨_, rfl⟩
        obtain ⟨o1, o2, o3, o4⟩ := hdi.at (i := kk) (by omega) ho
        dsimp only at g1 g2
        have HU := Lib.hid hu
        have HMM := Lib.hid (HT.out _ hmem)
        have HDI := Lib.hid hdi
        have HB := Lib.hid hbi
        have HC' := Lib.hid (HCC.out _ (new_ hbi (.cells #[.string ⟨x.1.toArray⟩, .slice tA x.2.length tc] 28)))
        have HA' := Lib.hid (HA.out.below (new_ hbi (.cells #[.string ⟨x.1.toArray⟩, .slice tA x.2.length tc] 28)))
        clear hu hu2 hmem ho hdi hbi
        cases hq : decide (x.1 ∈ a) with
        | true =>
          have HQ : Hid (notIn a (d[j]!).1 = false) := Lib.hid (by rw [HU.out]; simp [notIn, hq])
          go_wp2_with (go_at_call 14; (refine (del_clo _ x _ _ a mb HC'.out HA'.out).mono ?_; rw [hq]; rintro e w2 ⟨rfl, hb2⟩; have HB2 := Lib.hid (then_ (new_ (Below.refl _ _) (.cells #[.string ⟨x.1.toArray⟩, .slice tA x.2.length tc] 28)) hb2); clear hb2))
          go_roundw
          case rel => exact ⟨kk, j + 1, dk, rfl, by go_num, by omega, by omega, HDI.out.below HB2.out, then_ HB.out HB2.out, Lib.hid (HI2.out.skip (by have := HDL.out; omega) HQ.out)⟩
          case measure => simp [intOf]; omega
        | false =>
          have HQ : Hid (notIn a (d[j]!).1 = true) := Lib.hid (by rw [HU.out]; simp [notIn, hq])
          go_wp2_with (go_at_call 14; (refine (del_clo _ x _ _ a mb HC'.out HA'.out).mono ?_; rw [hq]; rintro e w2 ⟨rfl, hb2⟩; have HB2 := Lib.hid (then_ (new_ (Below.refl _ _) (.cells #[.string ⟨x.1.toArray⟩, .slice tA x.2.length tc] 28)) hb2); have rv := (Row.new wr 28 #[.string ⟨x.1.toArray⟩, .slice tA x.2.length tc]).below hb2 (by simp); have v0 := rv.cell (i := 0) (v := .string ⟨x.1.toArray⟩) rfl; have v1 := rv.cell (i := 1) (v := .slice tA x.2.length tc) rfl; obtain ⟨n1, n2, n3, n4⟩ := (HDI.out.below HB2.out).at (i := kk) (by omega) rfl; have hz2 := HB2.out.size; clear hb2 rv))
          go_roundw
          case rel => exact ⟨kk + 1, j + 1, dk.setIfInBounds kk (x, .slice tA x.2.length tc), by go_num, by go_num, by omega, by omega, (HDI.out.below HB2.out).set (by omega) (x, .slice tA x.2.length tc), ((then_ HB.out HB2.out).setCell (p := ⟨g, kk * 2, none⟩) (by dsimp only; omega) _).setCell (p := ⟨g, kk * 2 + 1, none⟩) (by dsimp only; omega) _, Lib.hid (by have := HI2.out.keep (by have := HDL.out; omega) HQ.out; rwa [HU.out] at this)⟩
          case measure => simp [intOf]; omega
      · obtain rfl : j = n := by omega
        have v1 : kk < c := by omega
        have v2 : kk ≤ j := by omega
        have HDI := Lib.hid hdi
        have HB := Lib.hid hbi
        obtain ⟨vs, hvs, hcl⟩ : ∃ vs : List Value, vs.length = (j - kk) * 2 ∧ ∀ ty, (Builtin.clear_ #[23] ty #[.slice (some ⟨g, kk * 2, none⟩) (j - kk) (c - kk)]).run Try.prog wr = .ok (.tuple #[]) (wr.setCells g (kk * 2) vs) := by
          obtain ⟨cur, hr, hz, hds, hcc⟩ := HDI.out
          obtain ⟨vs, h1, h2⟩ := run_clear2 (P := Try.prog) wr 23 28 0 (.string ⟨#[]⟩) (.slice none 0 0) Try.underlying23 (fun w => by kernel_rfl) rfl rfl g (kk * 2) (j - kk) (c - kk) (by omega) (fun q hq => by
            rw [hr.cell (Array.getElem?_eq_getElem (show kk * 2 + q < cur.size by omega))]; rfl) (fun q _ => hr.free _)
          exact ⟨vs, h1, fun ty => by rw [← h2]; rfl⟩
        have HVS := Lib.hid hvs
        clear hdi hbi hvs
        go_wp2
        go_ret
        exact ⟨_, rfl, del_end HDI.out HDL.out (by rw [HDL.out]; exact HI2.out) hnc (by unfold maxLen; omega) HB.out hg HT.out, below_setCells hg vs _ _ HB.out⟩
end Go.Proofs.Ytignhjfobcnloaa
