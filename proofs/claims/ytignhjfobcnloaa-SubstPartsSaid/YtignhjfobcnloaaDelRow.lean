/- slices.Clone and slices.DeleteFunc at bindings. -/
import Derived.Test.YtignhjfobcnloaaDelPlain
import Derived.Lib.LazyBuf
import Derived.WalkSpells
namespace Go.Proofs.Ytignhjfobcnloaa
open Go.RowKit Go.Sort
/-- a binding and the slice that holds its text -/
abbrev BV := BindD × Value
/-- the first n elements of row g -/
def HD (w : World) (g n : Nat) (d : Array BV) : Prop :=
  ∃ cur, Row w g 28 cur ∧ n * 2 ≤ cur.size ∧ d.size = n ∧ ∀ i, i < n → cur[i * 2]? = some (.string ⟨(d[i]!).1.1.toArray⟩) ∧ cur[i * 2 + 1]? = some (d[i]!).2
section
variable {w w' : World} {g n : Nat} {d : Array BV}
theorem HD.lt (h : HD w g n d) : g < w.heap.size := by obtain ⟨cur, hr, _⟩ := h; exact hr.lt
theorem HD.below (h : HD w g n d) (hb : Below w.heap.size w w') : HD w' g n d := by obtain ⟨cur, hr, r⟩ := h; exact ⟨cur, hr.below hb hr.lt, r⟩
theorem HD.at (h : HD w g n d) {i : Nat} (hi : i < n) {p : BV} (hp : d[i]! = p) : w.cell? ⟨g, i * 2, none⟩ = some (.string ⟨p.1.1.toArray⟩) ∧ w.cell? ⟨g, i * 2 + 1, none⟩ = some p.2 ∧ w.frozen? ⟨g, i * 2, none⟩ = false ∧ w.frozen? ⟨g, i * 2 + 1, none⟩ = false := by
  obtain ⟨cur, hr, _, _, hc⟩ := h
  obtain ⟨h0, h1⟩ := hc i hi
  rw [hp] at h0 h1
  exact ⟨hr.cell h0, hr.cell h1, hr.free _, hr.free _⟩
theorem HD.set (h : HD w g n d) {i : Nat} (hi : i < n) (p : BV) : HD ((w.setCell ⟨g, i * 2, none⟩ (.string ⟨p.1.1.toArray⟩)).setCell ⟨g, i * 2 + 1, none⟩ p.2) g n (d.setIfInBounds i p) := by
  obtain ⟨cur, hr, hz, hd, hc⟩ := h
  refine ⟨_, (hr.set _ _).set _ _, by simpa using hz, by simpa using hd, fun j hj => ?_⟩
  obtain ⟨h0, h1⟩ := hc j hj
  by_cases e : j = i
  · subst e
    rw [getElem!_set_same d j p (by omega)]
    constructor
    · rw [Array.getElem?_setIfInBounds_ne (by omega), Array.getElem?_setIfInBounds_self_of_lt (by omega)]
    · rw [Array.getElem?_setIfInBounds_self_of_lt (by simp; omega)]
  · rw [getElem!_set_other d i j p e]
    constructor
    · rw [Array.getElem?_setIfInBounds_ne (by omega), Array.getElem?_setIfInBounds_ne (by omega)]; exact h0
    · rw [Array.getElem?_setIfInBounds_ne (by omega), Array.getElem?_setIfInBounds_ne (by omega)]; exact h1
end
/-- a slice of bindings with the slices that hold the texts -/
theorem binds_choose {w : World} {v : Value} {l : List BindD} (h : BindAt w v l) : ∃ z : List BV, z.map (·.1) = l ∧ (∀ p ∈ z, Strs w p.2 p.1.2) ∧ Rds w 2 v l.length (z.flatMap bcell) := by
  obtain ⟨A, c, hv, hc, hm, hx⟩ := h
  have key : ∀ (m : Nat) (k : Nat), k + m = l.length → ∃ z : List BV, z.map (·.1) = l.drop k ∧ (∀ p ∈ z, Strs w p.2 p.1.2) ∧ ∀ j p, z[j]? = some p → ∃ b o, A = some ⟨b, o, none⟩ ∧ w.cell? ⟨b, o + (k + j) * 2, none⟩ = some (.string ⟨p.1.1.toArray⟩) ∧ w.cell? ⟨b, o + (k + j) * 2 + 1, none⟩ = some p.2 := by
    intro m
    induction m with
    | zero => intro k hk; exact ⟨[], by rw [List.drop_of_length_le (by omega)]; rfl, by simp, by simp⟩
    | succ m ih =>
      intro k hk
      obtain ⟨z, h1, h2, h3⟩ := ih (k + 1) (by omega)
      have hlt : k < l.length := by omega
      obtain ⟨b, o, tv, ha, c0, c1, hs⟩ := hx k l[k] (List.getElem?_eq_getElem hlt)
      refine ⟨(l[k], tv) :: z, by rw [List.drop_eq_getElem_cons hlt, List.map_cons, h1], fun p hp => ?_, fun j p hp => ?_⟩
      · rcases List.mem_cons.1 hp with rfl | hp
        · exact hs
        · exact h2 p hp
      · cases j with
        | zero => simp at hp; subst hp; exact ⟨b, o, ha, by simpa using c0, by simpa using c1⟩
        | succ j =>
          rw [List.getElem?_cons_succ] at hp
          have := h3 j p hp
          rwa [show k + 1 + j = k + (j + 1) by omega] at this
  obtain ⟨z, h1, h2, h3⟩ := key l.length 0 (by omega)
  rw [List.drop_zero] at h1
  have hl : z.length = l.length := by rw [← h1, List.length_map]
  have hfl : ∀ m : List BV, (m.flatMap bcell).length = m.length * 2 := by
    intro m
    induction m with
    | nil => rfl
    | cons a m ih => rw [List.flatMap_cons, List.length_append, ih]; simp [bcell]; omega
  refine ⟨z, h1, h2, A, c, hv, hc, hm, by rw [hfl, hl], fun hp => ?_⟩
  obtain ⟨b, o, ha, _⟩ := h3 0 _ (List.getElem?_eq_getElem (by omega))
  refine ⟨b, o, ha, fun j u hu => ?_⟩
  have hj : j < z.length * 2 := by rw [← hfl]; exact (List.getElem?_eq_some_iff.1 hu).1
  obtain ⟨b', o', ha', c0, c1⟩ := h3 (j / 2) _ (List.getElem?_eq_getElem (by omega))
  obtain ⟨rfl, rfl⟩ := (by simpa [ha] using ha' : b = b' ∧ o = o')
  obtain ⟨q0, q1⟩ := flat2_at (f := bcell) (fun _ => rfl) (List.getElem?_eq_getElem (l := z) (i := j / 2) (by omega))
  rcases (show j % 2 = 0 ∨ j % 2 = 1 by omega) with e | e
  · rw [show j = j / 2 * 2 by omega] at hu ⊢
    rw [q0] at hu
    rw [show (0 + j / 2) * 2 = j / 2 * 2 by omega] at c0
    exact c0.trans hu
  · rw [show j = j / 2 * 2 + 1 by omega] at hu ⊢
    rw [q1] at hu
    rw [show o + (0 + j / 2) * 2 + 1 = o + (j / 2 * 2 + 1) by omega] at c1
    exact c1.trans hu
set_option maxRecDepth 100000 in
theorem clone_binds (w : World) (v : Value) (l : List BindD) (h : BindAt w v l) (hl : l.length ≤ 1000000) :
    Calls Try.prog 13 #[v] w fun e w' => ∃ (v' : Value) (z : List BV), e = .returned v' ∧ z.map (·.1) = l ∧ (∀ p ∈ z, Strs w p.2 p.1.2) ∧ w'.ownsRow w.heap.size 28 2 v' z.length (z.flatMap bcell) ∧ Below w.heap.size w w' := by
  obtain ⟨z, hz1, hz2, hz3⟩ := binds_choose h
  obtain ⟨A, c, rfl, hc, hm, hx⟩ := h
  obtain ⟨i0, hi, hj0, hj1, hj2⟩ := info_parts infoBind
  have HZ := Lib.hid (⟨hz1, hz2⟩ : z.map (·.1) = l ∧ ∀ p ∈ z, Strs w p.2 p.1.2)
  have HR := Lib.hid hz3
  have hzl : z.length = l.length := by rw [← hz1, List.length_map]
  have HZL := Lib.hid hzl
  unfold maxLen at hm
  have h1c : ∀ u ∈ z.flatMap bcell, u.oneCell' = true := by
    intro u hu
    obtain ⟨p, hp, hu⟩ := List.mem_flatMap.1 hu
    obtain ⟨qA, qc, hq⟩ := (hz2 p hp).form
    simp [bcell] at hu
    rcases hu with rfl | rfl
    · rfl
    · rw [hq]; rfl
  have H1 := Lib.hid h1c
  cases A with
  | none =>
    have h0 : l.length = 0 := by
      rcases Nat.eq_zero_or_pos l.length with h0 | h0
      · exact h0
      · obtain ⟨b, o, tv, ha, _⟩ := hx 0 _ (List.getElem?_eq_getElem h0); cases ha
    have hz0 : z = [] := List.length_eq_zero_iff.1 (by omega)
    have HE := Lib.hid hz0
    have hnil := fun (w : World) (n c : Nat) => Go.run_eql_slice_nil (P := Try.prog) w 23 28 none n c Try.underlying23
    clear hx hz1 hz2 hz3 h1c hzl hz0
    go_enter Try.func13, Try.ntmps13
    go_wp2
    go_ret
    exact ⟨_, z, rfl, HZ.out.1, HZ.out.2, by rw [HE.out]; exact World.ownsRow_nil _ _ _ _, Below.refl _ _⟩
  | some ad =>
    have hnil := fun (w : World) (n c : Nat) => Go.run_eql_slice_nil (P := Try.prog) w 23 28 (some ad) n c Try.underlying23
    clear hx hz1 hz2 hz3 h1c hzl
    go_enter Try.func13, Try.ntmps13
    go_wp2_with (at_builtin; (refine wpList_append_rds rfl (.tmp 5) (.tmp 6) 23 rfl w.heap.size 28 i0 (.agg #[.string ⟨#[]⟩, .slice none 0 0]) 2 40 Try.underlying23 hi hj0 hj1 hj2 rfl (by decide) _ 0 [] rfl (World.ownsRow_made _ _ _ (Nat.le_refl _) (by decide) rfl) _ l.length (z.flatMap bcell) rfl (Rds.alloc HR.out _) H1.out (by unfold maxLen; omega) (by omega) (by simp) ?_; intro v' w' hown hgrow))
    go_ret
    exact ⟨_, z, rfl, HZ.out.1, HZ.out.2, by rw [HZL.out]; simpa using hown, (new_ (Below.refl _ _) _).grown hgrow (by simp) (fun k hk => by have hk' : some w.heap.size = some k := hk; cases hk'; exact Nat.le_refl _)⟩
/-- the bindings of symbols that do not occur -/
def notIn (a : Form) (x : BindD) : Bool := !decide (x.1 ∈ a)
theorem del_clo (w : World) (x : BindD) (tv av : Value) (a : Form) (mb : Nat) (hc : w.cell? ⟨mb, 0, none⟩ = some av) (ha : Strs w av a) :
    Calls Try.prog 14 #[.agg #[.string ⟨x.1.toArray⟩, tv], .pointer (some ⟨mb, 0, none⟩)] w fun e w' => e = .returned (.bool (decide (x.1 ∈ a))) ∧ Below w.heap.size w w' := by
  obtain ⟨A, c, rfl⟩ := ha.form
  have hlt := block_lt_of_cell hc
  dsimp only at hlt
  have HA := Lib.hid ha
  clear ha
  go_enter Try.func14, Try.ntmps14
  go_wp2_with (go_at_call 15; (refine (contains_str _ _ a x.1 (HA.out.below (new_ (Below.refl _ _) _))).mono ?_; rintro e w' ⟨rfl, rfl⟩))
  go_ret
  exact ⟨rfl, new_ (Below.refl _ _) _⟩
/-- slices.IndexFunc over a row -/
theorem index_del (w : World) (g n c : Nat) (d : Array BV) (av : Value) (a : Form) (mb : Nat) (hd : HD w g n d) (hn : n ≤ 1000000) (hc : w.cell? ⟨mb, 0, none⟩ = some av) (ha : Strs w av a) :
    Calls Try.prog 47 #[.slice (some ⟨g, 0, none⟩) n c, .func (.func 14) #[] #[.pointer (some ⟨mb, 0, none⟩)]] w fun e w' => e = .returned (.int .i64 (idxB (fun p : BV => !notIn a p.1) d.toList)) ∧ Below w.heap.size w w' := by
  have hlt0 := block_lt_of_cell hc
  have hdl : d.size = n := by obtain ⟨_, _, _, h, _⟩ := hd; exact h
  have HD0 := Lib.hid hd
  have HDL := Lib.hid hdl
  have HA := Lib.hid ha
  have HC := Lib.hid hc
  clear hd ha hc hdl
  go_enter Try.func47, Try.ntmps47
  go_wp2
  go_loopw [5, 8] (fun _ i wr => ∃ k : Nat, k ≤ n ∧ i = .int .i64 k ∧ Below w.heap.size w wr ∧ Hid (∀ x ∈ d.toList.take k, (fun p : BV => !notIn a p.1) x = false)) (fun _ i _ => n - (intOf i).toNat)
  case atStart => exact ⟨0, Nat.zero_le _, rfl, Below.refl _ _, Lib.hid (by simp)⟩
  case round =>
    obtain ⟨k, hk, rfl, hb, HN⟩ := hrel
    have hwz := hb.size
    by_cases hlt : k < n
    · obtain ⟨⟨x, tv⟩, hy⟩ : ∃ y, d[k]! = y := ⟨_, rfl⟩
      have hy2 : d.toList[k]? = some (x, tv) := by rw [Array.getElem?_toList, Array.getElem?_eq_getElem (by have := HDL.out; omega), ← hy, getElem!_pos d k (by have := HDL.out; omega)]
      obtain ⟨g1, g2, _, _⟩ := (HD0.out.below hb).at hlt hy
      dsimp only at g1 g2
      have hc' := (hb.cell (p := ⟨mb, 0, none⟩) hlt0).trans HC.out
      have HY := Lib.hid hy2
      have HC' := Lib.hid hc'
      have HA' := Lib.hid (HA.out.below hb)
      clear hy hy2 hc'
      cases hq : decide (x.1 ∈ a) with
      | true =>
        have HQ : Hid ((fun p : BV => !notIn a p.1) (x, tv) = true) := Lib.hid (by simp [notIn, hq])
        go_wp2_with (go_at_call 14; (refine (del_clo _ x _ _ a mb HC'.out HA'.out).mono ?_; rintro e w1 ⟨rfl, hb1⟩))
        go_ret
        exact ⟨ret_int (idxB_hit HY.out HQ.out HN.out).symm, then_ hb hb1⟩
      | false =>
        have HQ : Hid ((fun p : BV => !notIn a p.1) (x, tv) = false) := Lib.hid (by simp [notIn, hq])
        go_wp2_with (go_at_call 14; (refine (del_clo _ x _ _ a mb HC'.out HA'.out).mono ?_; rintro e w1 ⟨rfl, hb1⟩))
        go_roundw
        case rel => exact ⟨k + 1, by omega, by go_num, then_ hb hb1, Lib.hid (take_none HY.out HN.out HQ.out)⟩
        case measure => simp [intOf]; omega
    · obtain rfl : k = n := by omega
      go_wp2
      go_ret
      exact ⟨ret_int (idxB_miss (by have h1 := HN.out; rwa [List.take_of_length_le (by have := HDL.out; simp; omega)] at h1)).symm, hb⟩
end Go.Proofs.Ytignhjfobcnloaa
