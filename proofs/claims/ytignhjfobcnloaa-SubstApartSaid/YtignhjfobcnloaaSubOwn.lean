/- bind, listed, occurring of the program, with the numbers of their blocks (printed by gen_subown.py). -/
import Derived.Test.YtignhjfobcnloaaSubVars
namespace Go.Proofs.Ytignhjfobcnloaa
open Go.RowKit
set_option maxRecDepth 20000 in
set_option maxHeartbeats 1000000 in
theorem bind_at (w0 w : World) (v : Value) (l : List BindD) (h : BindAt w0 v l) (hb0 : Below w0.heap.size w0 w) (hsz : ∀ x ∈ l, x.1.length ≤ maxLen) (hl : l.length ≤ 1000000) :
    Calls Try.prog 49 #[v] w fun e w' => ∃ n f, e = .returned (.map (some w.heap.size)) ∧ n ≤ l.length ∧ BMap w' w.heap.size n f ∧ saysAt w0 f l ∧ Below w.heap.size w w' := by
  have h0 := h
  obtain ⟨A, c, rfl, hc, hm, hx⟩ := h
  unfold maxLen at hm
  clear hx
  have hmm := @run_makeMap Try.prog
  go_enter Try.func49, Try.ntmps49
  go_wp2
  go_loopw [11] (fun i wr => ∃ (k n : Nat) (f : List UInt8 → Option Value), k ≤ l.length ∧ n ≤ k ∧ i = .int .i64 k ∧ BMap wr w.heap.size n f ∧ saysAt w0 f (l.take k) ∧ Below w.heap.size w wr) (fun i _ => l.length - (intOf i).toNat)
  case atStart => exact ⟨0, 0, _, Nat.zero_le _, Nat.le_refl _, rfl, BMap.new w, fun s => by simp [boundS], new_ (Below.refl _ _) _⟩
  case round =>
    obtain ⟨k, n, f, hk, hnk, rfl, hbm, hsay, hb⟩ := hrel
    have HS := Lib.hid hsay
    have HBM := Lib.hid hbm
    have hwz := hb.size
    have hbl := hbm.lt
    clear hsay hbm
    by_cases hlt : k < l.length
    · obtain ⟨y, hy⟩ : ∃ y, l[k]? = some y := ⟨_, List.getElem?_eq_getElem hlt⟩
      obtain ⟨A', c', hvv, _, _, hx⟩ := h0.below (hb0.trans (hb.mono hb0.size))
      obtain ⟨rfl, _, rfl⟩ := (by simpa using hvv : A = A' ∧ True ∧ c = c')
      obtain ⟨b, o, tv, rfl, g1, g2, g3⟩ := hx k y hy
      obtain ⟨A'', c'', hvv2, _, _, hx2⟩ := h0
      obtain ⟨rfl, _, rfl⟩ := (by simpa using hvv2 : some ⟨b, o, none⟩ = A'' ∧ True ∧ c = c'')
      obtain ⟨b', o', tv', ha, g1', g2', g3'⟩ := hx2 k y hy
      obtain ⟨rfl, rfl⟩ := (by simpa using ha : b = b' ∧ o = o')
      have htv : tv = tv' := by
        have := ((hb0.trans (hb.mono hb0.size)).cell (p := ⟨b, o + k * 2 + 1, none⟩) (block_lt_of_cell g2')).trans g2'
        rw [g2] at this; injection this
      subst htv
      obtain ⟨tA, tc, rfl⟩ := g3'.form
      have hys := hsz y (List.mem_of_getElem? hy)
      have HY := Lib.hid hy
      have HG3 := Lib.hid g3'
      clear hx hx2 hy hvv hvv2 ha g1' g2' g3 g3'
      have hlook := (HBM.out.below ((Below.refl wr.heap.size wr).alloc (Nat.le_refl _) (.cells #[.string ⟨y.1.toArray⟩, .slice tA y.2.length tc] 28))).look y.1 hys
      by_cases hbd : (boundS (l.take k) y.1).isSome = true
      · have e1 : (f y.1).isSome = true := by rw [says_some HS.out]; exact hbd
        rw [e1] at hlook
        have HB := Lib.hid hbd
        clear hbd e1
        go_wp2
        go_roundw
        case rel => exact ⟨k + 1, n, f, by omega, by omega, by go_num, HBM.out.below ((Below.refl _ _).alloc (Nat.le_refl _) _), says_keep HY.out HS.out HB.out, hb.alloc hwz _⟩
        case measure => simp [intOf]; omega
      · have e1 : (f y.1).isSome = false := by rw [says_some HS.out]; simpa using hbd
        have hbn : boundS (l.take k) y.1 = none := by simpa using hbd
        rw [e1] at hlook
        have HB := Lib.hid hbn
        obtain ⟨w2, hput, hbm2, hg2⟩ := (HBM.out.below ((Below.refl wr.heap.size wr).alloc (Nat.le_refl _) (.cells #[.string ⟨y.1.toArray⟩, .slice tA y.2.length tc] 28))).put y.1 (.slice tA y.2.length tc) hys (by unfold maxLen; omega)
        have HBM2 := Lib.hid hbm2
        clear hbd hbn e1 hbm2
        go_wp2
        go_roundw
        case rel => exact ⟨k + 1, n + 1, _, by omega, by omega, by go_num, HBM2.out, says_put HY.out HS.out HB.out HG3.out, (hb.alloc hwz _).grown hg2 (by simp; omega) (fun j ej => by cases ej; exact Nat.le_refl _)⟩
        case measure => simp [intOf]; omega
    · obtain rfl : k = l.length := by omega
      rw [List.take_length] at HS
      go_wp2
      go_ret
      exact ⟨n, f, rfl, hnk, HBM.out, HS.out, hb⟩
theorem listed_at (w : World) (v : Value) (l : List (List UInt8)) (h : Strs w v l) (hsz : ∀ s ∈ l, s.length ≤ maxLen) (hl : l.length ≤ 1000000) :
    Calls Try.prog 84 #[v] w fun e w' => e = .returned (.map (some w.heap.size)) ∧ SetM w' w.heap.size l ∧ Below w.heap.size w w' := by
  have h0 := h
  obtain ⟨A, c, rfl, hc, hm, hx⟩ := h.open_
  unfold maxLen at hm
  clear hx
  have hmm := @run_makeMap Try.prog
  go_enter Try.func84, Try.ntmps84
  go_wp2
  go_loopw [9] (fun i wr => ∃ k : Nat, k ≤ l.length ∧ i = .int .i64 k ∧ SetM wr w.heap.size (l.take k) ∧ Below w.heap.size w wr) (fun i _ => l.length - (intOf i).toNat)
  case atStart => exact ⟨0, Nat.zero_le _, rfl, SetM.new w, new_ (Below.refl _ _) _⟩
  case round =>
    obtain ⟨k, hk, rfl, hset, hb⟩ := hrel
    have hwz := hb.size
    by_cases hlt : k < l.length
    · obtain ⟨y, hy⟩ : ∃ y, l[k]? = some y := ⟨_, List.getElem?_eq_getElem hlt⟩
      obtain ⟨A', c', hvv, _, _, hx⟩ := (h0.below hb).open_
      obtain ⟨rfl, _, rfl⟩ := (by simpa using hvv : A = A' ∧ True ∧ c = c')
      obtain ⟨b, o, rfl, g1⟩ := hx k y hy
      obtain ⟨w2, hput, hset2, hg2⟩ := hset.put y (hsz y (List.mem_of_getElem? hy)) (by simp [maxLen]; omega)
      have HS2 := Lib.hid hset2
      have HY := Lib.hid hy
      clear hx hy hvv hset2 hset
      go_wp2
      go_roundw
      case rel => exact ⟨k + 1, by omega, by go_num, by rw [take_snoc HY.out]; exact HS2.out, hb.grown hg2 (by omega) (fun j ej => by cases ej; exact Nat.le_refl _)⟩
      case measure => simp [intOf]; omega
    · obtain rfl : k = l.length := by omega
      rw [List.take_length] at hset
      go_wp2
      go_ret
      exact ⟨rfl, hset, hb⟩
set_option maxRecDepth 20000 in
set_option maxHeartbeats 1000000 in
theorem occurring_own (w : World) (v : Value) (text : Form) (b : Nat) (vs : List (List UInt8)) (h : Strs w v text) (hset0 : SetM w b vs) (hsz : ∀ s ∈ text, s.length ≤ maxLen) (hl : text.length ≤ 1000000000) :
    Calls Try.prog 85 #[v, .map (some b)] w fun e w' => ∃ u, e = .returned u ∧ w'.ownsRow (w.heap.size + 1) 9 1 u (varsS text vs).length ((varsS text vs).map strV) ∧ Below w.heap.size w w' := by
  have h0 := h
  obtain ⟨A, c, rfl, hc, hm, hx⟩ := h.open_
  unfold maxLen at hm
  clear hx
  obtain ⟨i0, hi, hj0, hj1, hj2⟩ := info_parts infoStr
  have hmm := @run_makeMap Try.prog
  go_enter Try.func85, Try.ntmps85
  go_wp2
  go_loopw [5, 12] (fun ov i wr => ∃ k : Nat, k ≤ text.length ∧ i = .int .i64 k ∧ SetM wr w.heap.size (varsS (text.take k) vs) ∧ wr.ownsRow (w.heap.size + 1) 9 1 ov (varsS (text.take k) vs).length ((varsS (text.take k) vs).map strV) ∧ Below w.heap.size w wr ∧ w.heap.size < wr.heap.size) (fun _ i _ => text.length - (intOf i).toNat)
  case atStart => exact ⟨0, Nat.zero_le _, rfl, SetM.new w, World.ownsRow_nil _ _ _ _, new_ (Below.refl _ _) _, by simp⟩
  case round =>
    obtain ⟨k, hk, rfl, hset, hown, hb, hwz⟩ := hrel
    have hwz2 := hb.size
    by_cases hlt : k < text.length
    · obtain ⟨y, hy⟩ : ∃ y, text[k]? = some y := ⟨_, List.getElem?_eq_getElem hlt⟩
      obtain ⟨A', c', hvv, _, _, hx⟩ := (h0.below hb).open_
      obtain ⟨rfl, _, rfl⟩ := (by simpa using hvv : A = A' ∧ True ∧ c = c')
      obtain ⟨b1, o1, rfl, g1⟩ := hx k y hy
      have hys := hsz y (List.mem_of_getElem? hy)
      have HT := Lib.hid (vars_take (vs := vs) hy)
      have hlk := (hset0.below hb).look y hys
      have hvl : (varsS (text.take k) vs).length ≤ k := Nat.le_trans (varsS_len _ _) (by simp; omega)
      have HVL := Lib.hid hvl
      clear hx hy hvv
      by_cases hin : y ∈ vs
      · rw [decide_eq_true hin] at hlk
        have hlk2 := hset.look y hys
        by_cases hmet : y ∈ varsS (text.take k) vs
        · rw [decide_eq_true hmet] at hlk2
          rw [if_neg (fun h => h.2 hmet)] at HT
          clear hin hmet hvl
          go_wp2
          go_roundw
          case rel => exact ⟨k + 1, by omega, by go_num, by rw [HT.out]; exact hset, by rw [HT.out]; exact hown, hb, hwz⟩
          case measure => simp [intOf]; omega
        · rw [decide_eq_false hmet] at hlk2
          rw [if_pos ⟨hin, hmet⟩] at HT
          obtain ⟨w2, hput, hset2, hg2⟩ := hset.put y hys (by simp [maxLen]; omega)
          have hown2 := hown.kept hg2 (.inr fun e => by have := (hown.lt _ e).1; omega)
          have HS2 := Lib.hid hset2
          have hb2 : Below w.heap.size w w2 := hb.grown hg2 (by omega) (fun j ej => by cases ej; exact Nat.le_refl _)
          have hz2 := hg2.size
          obtain ⟨M, hM⟩ : ∃ M, M = (varsS (text.take k) vs).length := ⟨_, rfl⟩
          obtain ⟨X, hX⟩ : ∃ X, X = (varsS (text.take k) vs).map strV := ⟨_, rfl⟩
          rw [← hM, ← hX] at hown2
          rw [← hM] at hvl
          have HM := Lib.hid hM
          have HX := Lib.hid hX
          clear hin hmet hset2 hown hset hM hX
          go_wp2_with (at_builtin; (refine wpList_append_own _ rfl (.tmp 27) (.tmp 29) 22 rfl (w.heap.size + 1) 9 i0 (.string ⟨#[]⟩) 1 16 Try.underlying22 hi hj0 hj1 hj2 rfl (by decide) _ M X rfl (hown2.alloc _) ⟨w2.heap.size, 0, none⟩ 1 1 [strV y] rfl rfl (cells_of' _ _ _ _ rfl (by simp)) (by simp [strV, Value.oneCell']) (by unfold maxLen; omega) (by omega) (by simp; omega) ?_; intro v' wz hown' hgrow _))
          go_roundw
          case rel => exact ⟨k + 1, by omega, by go_num, by rw [HT.out]; exact (HS2.out.below ((Below.refl _ _).alloc (Nat.le_refl _) _)).kept hgrow (by intro e; have := (hown2.lt _ e.symm).1; omega), by rw [HT.out, List.map_append, List.length_append, ← HM.out, ← HX.out]; exact hown', (new_ hb2 _).grown hgrow (by simp; omega) (by intro j ej; have := (hown2.lt _ ej).1; omega), by have := hgrow.size; simp at this; omega⟩
          case measure => simp [intOf]; omega
      · rw [decide_eq_false hin] at hlk
        rw [if_neg (fun h => hin h.1)] at HT
        clear hin hvl
        go_wp2
        go_roundw
        case rel => exact ⟨k + 1, by omega, by go_num, by rw [HT.out]; exact hset, by rw [HT.out]; exact hown, hb, hwz⟩
        case measure => simp [intOf]; omega
    · obtain rfl : k = text.length := by omega
      rw [List.take_length] at hown
      obtain ⟨oa, oc, rfl, hco⟩ := own_form hown
      go_wp2
      go_ret
      exact ⟨_, rfl, hown, hb⟩
end Go.Proofs.Ytignhjfobcnloaa
