/- Whether a label in the brackets is that of a mandatory hypothesis. -/
import Derived.Test.YtmiblmmjgoeahaaStrFns
namespace Go.Proofs.Ytmiblmmjgoeahaa
open Go.RowKit
/-- the slice value v reads as hypotheses with the labels l -/
def HypL (w : World) (v : Value) (l : List (List UInt8)) : Prop :=
  ∃ A c, v = .slice A l.length c ∧ l.length ≤ c ∧ l.length ≤ maxLen ∧
    (∀ (k : Nat) (s : List UInt8), l[k]? = some s → ∃ b o fl ta tn tc, A = some ⟨b, o, none⟩ ∧ w.cell? ⟨b, o + k * 3, none⟩ = some (.string ⟨s.toArray⟩) ∧ w.cell? ⟨b, o + k * 3 + 1, none⟩ = some (.bool fl) ∧ w.cell? ⟨b, o + k * 3 + 2, none⟩ = some (.slice ta tn tc))
theorem HypL.below {w w' : World} {v : Value} {l : List (List UInt8)} (h : HypL w v l) (hb : Below w.heap.size w w') : HypL w' v l := by
  obtain ⟨A, c, hv, hc, hm, hx⟩ := h
  refine ⟨A, c, hv, hc, hm, fun k s hs => ?_⟩
  obtain ⟨b, o, fl, ta, tn, tc, ha, h1, h2, h3⟩ := hx k s hs
  exact ⟨b, o, fl, ta, tn, tc, ha, (hb.cell (block_lt_of_cell h1)).trans h1, (hb.cell (block_lt_of_cell h2)).trans h2, (hb.cell (block_lt_of_cell h3)).trans h3⟩
theorem mand1_any (w : World) (s : List UInt8) (fl : Bool) (ta : Option Addr) (tn tc : Nat) (Bl : Nat) (lv : Value) (labels : List (List UInt8)) (hrow : Row w Bl 33 #[lv]) (hl : Strs w lv labels) :
    Calls Try.prog 135 #[.agg #[.string ⟨s.toArray⟩, .bool fl, .slice ta tn tc], .pointer (some ⟨Bl, 0, none⟩)] w fun e w' => e = .returned (.bool (decide (s ∈ labels))) ∧ Below w.heap.size w w' := by
  obtain ⟨A, c, rfl, hc, hm, hx⟩ := hl.open_
  have hlt := hrow.lt
  have hcell := hrow.cell (i := 0) (v := .slice A labels.length c) rfl
  clear hx
  go_enter Try.func135, Try.ntmps135
  go_wp2_with (go_at_call 54; refine (contains_str _ _ labels s (hl.alloc _)).mono ?_; rintro e w' ⟨rfl, rfl⟩)
  go_ret
  exact ⟨rfl, new_ (Below.refl _ _) _⟩
set_option maxRecDepth 20000 in
theorem indexHyp_any (w : World) (hv : Value) (hyps : List (List UInt8)) (Bl : Nat) (lv : Value) (labels : List (List UInt8)) (hrow : Row w Bl 33 #[lv]) (hl : Strs w lv labels) (hh : HypL w hv hyps) :
    Calls Try.prog 159 #[hv, .func (.func 135) #[] #[.pointer (some ⟨Bl, 0, none⟩)]] w fun e w' =>
      e = .returned (.int .i64 (indexI (hyps.map fun s => decide (s ∈ labels)) true)) ∧ Below w.heap.size w w' := by
  have hh0 := hh
  obtain ⟨A, c, rfl, hc, hm, hx⟩ := hh
  unfold maxLen at hm
  clear hx
  go_enter Try.func159, Try.ntmps159
  go_wp2
  go_loopw [8] (fun i wr => ∃ k : Nat, k ≤ hyps.length ∧ i = .int .i64 k ∧ (∀ y ∈ hyps.take k, ¬ y ∈ labels) ∧ Below w.heap.size w wr) (fun i _ => hyps.length - (intOf i).toNat)
  case atStart => exact ⟨0, Nat.zero_le _, rfl, by simp, Below.refl _ _⟩
  case round =>
    obtain ⟨k, hk, rfl, hn, hb⟩ := hrel
    have HN := Lib.hid hn
    clear hn
    by_cases hlt : k < hyps.length
    · obtain ⟨y, hy⟩ : ∃ y, hyps[k]? = some y := ⟨_, List.getElem?_eq_getElem hlt⟩
      obtain ⟨A', c', hvv, _, _, hx⟩ := hh0.below hb
      obtain ⟨rfl, _, rfl⟩ := (by simpa using hvv : A = A' ∧ True ∧ c = c')
      obtain ⟨b, o, fl, ta, tn, tc, rfl, g1, g2, g3⟩ := hx k y hy
      have HY := Lib.hid hy
      have hrow1 := hrow.below hb hrow.lt
      have hl1 := hl.below hb
      clear hx hy hh0 hvv
      by_cases hin : y ∈ labels
      · have e1 : decide (y ∈ labels) = true := decide_eq_true hin
        have HI := Lib.hid hin
        clear hin
        go_wp2_with (go_at_call 135; refine (mand1_any _ y fl ta tn tc Bl lv labels hrow1 hl1).mono ?_; rintro e w1 ⟨rfl, hb1⟩)
        go_ret
        exact ⟨ret_int (indexI_hit (k := k) (by rw [List.getElem?_map, HY.out]; simp [HI.out]) (by intro z hz; rw [← List.map_take] at hz; obtain ⟨q, hq, rfl⟩ := List.mem_map.1 hz; have := HN.out q hq; simp [this])).symm, then_ hb hb1⟩
      · have e1 : decide (y ∈ labels) = false := decide_eq_false hin
        have HI := Lib.hid hin
        clear hin
        go_wp2_with (go_at_call 135; refine (mand1_any _ y fl ta tn tc Bl lv labels hrow1 hl1).mono ?_; rintro e w1 ⟨rfl, hb1⟩)
        go_roundw
        case rel => exact ⟨k + 1, by omega, by go_num, all_snoc HY.out HN.out HI.out, then_ hb hb1⟩
        case measure => simp [intOf]; omega
    · go_wp2
      go_ret
      exact ⟨ret_int (indexI_miss (by intro z hz; obtain ⟨q, hq, rfl⟩ := List.mem_map.1 hz; have := (all_of_take (by omega) HN.out) q hq; simp [this])).symm, hb⟩
theorem containsHyp_any (w : World) (hv : Value) (hyps : List (List UInt8)) (Bl : Nat) (lv : Value) (labels : List (List UInt8)) (hrow : Row w Bl 33 #[lv]) (hl : Strs w lv labels) (hh : HypL w hv hyps) :
    Calls Try.prog 134 #[hv, .func (.func 135) #[] #[.pointer (some ⟨Bl, 0, none⟩)]] w fun e w' =>
      e = .returned (.bool (decide (∃ s ∈ hyps, s ∈ labels))) ∧ Below w.heap.size w w' := by
  have H1 := Lib.hid ((indexI_ge (hyps.map fun s => decide (s ∈ labels)) true).trans (show _ = decide (∃ s ∈ hyps, s ∈ labels) by rw [decide_eq_decide]; simp))
  go_enter Try.func134, Try.ntmps134
  go_wp2_with (go_at_call 159; refine (indexHyp_any _ _ hyps Bl lv labels hrow hl hh).mono ?_; rintro e w' ⟨rfl, hb⟩)
  go_ret
  exact ⟨ret_bool (H1.out.trans (decide_eq_decide.2 Iff.rfl)), hb⟩
/-- the cells of a frame whose hypotheses are the value hv -/
def frameCells (c0 c1 hv c3 c4 c5 c6 c7 : Value) : Array Value := #[c0, c1, hv, c3, c4, c5, c6, c7]
theorem mandatory_any (w : World) (c0 c1 hv c3 c4 c5 c6 c7 lv : Value) (hyps labels : List (List UInt8)) (hl : Strs w lv labels) (hh : HypL w hv hyps) :
    Calls Try.prog 87 #[.agg #[c0, c1, hv, c3, c4, c5, c6, c7], lv] w fun e w' => e = .returned (.bool (decide (∃ s ∈ hyps, s ∈ labels))) ∧ Below w.heap.size w w' := by
  have hl0 := hl
  have hh0 := hh
  obtain ⟨A, c, rfl, hc, hm, hx⟩ := hl.open_
  obtain ⟨A', c', rfl, hc', hm', hx'⟩ := hh
  clear hx hx' hl
  go_enter Try.func87, Try.ntmps87
  go_wp2_with (go_at_call 134; refine (containsHyp_any _ _ hyps (w.heap.size + 1) _ labels (Row.new' _ _ _ (by simp)) ((hl0.alloc _).alloc _) (hh0.below (new_ (new_ (Below.refl _ _) _) _))).mono ?_; rintro e w' ⟨rfl, hb⟩)
  go_ret
  exact ⟨rfl, then_ (new_ (new_ (Below.refl _ _) _) _) hb⟩
end Go.Proofs.Ytmiblmmjgoeahaa
