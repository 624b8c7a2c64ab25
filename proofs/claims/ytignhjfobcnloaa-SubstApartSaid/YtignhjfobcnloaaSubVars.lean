/- The words of a set that occur in a formula: listed, occurring, Vars of the program; Has, Vars of the reference. -/
import Derived.Test.YtignhjfobcnloaaSubApply
namespace Go.Proofs.Ytignhjfobcnloaa
open Go.RowKit
theorem cells_of' (w : World) (cs : Array Value) (t : TypeId) (l : List Value) {g : Nat} (hl : cs.toList = l) (hg : w.heap.size = g) : ∀ j u, l[j]? = some u → (w.alloc (.cells cs t)).cell? ((⟨g, 0, none⟩ : Addr).add j) = some u := by
  subst hg hl
  intro j u hu
  rw [addr_add, Nat.zero_add]
  exact (Row.new w t cs).cell (by simpa using hu)
theorem vars_take {vs text : List (List UInt8)} {k : Nat} {s : List UInt8} (hy : text[k]? = some s) :
    varsS (text.take (k + 1)) vs = if s ∈ vs ∧ s ∉ varsS (text.take k) vs then varsS (text.take k) vs ++ [s] else varsS (text.take k) vs := by
  unfold varsS
  rw [List.take_add_one, hy, varsRun_append]
  rfl
theorem vars_len (vs : List (List UInt8)) : ∀ (a out : Form), (varsRun vs out a).length ≤ out.length + a.length := by
  intro a
  induction a with
  | nil => intro out; exact Nat.le_refl _
  | cons s t ih =>
    intro out
    rw [varsRun]
    split
    · have := ih (out ++ [s]); simp at this ⊢; omega
    · have := ih out; simp at this ⊢; omega
theorem varsS_len (vs text : List (List UInt8)) : (varsS text vs).length ≤ text.length := by
  have := vars_len vs text []; simpa [varsS] using this
theorem listed_any (w : World) (v : Value) (l : List (List UInt8)) (h : Strs w v l) (hsz : ∀ s ∈ l, s.length ≤ maxLen) (hl : l.length ≤ 1000000) :
    Calls Try.prog 84 #[v] w fun e w' => ∃ b, e = .returned (.map (some b)) ∧ SetM w' b l ∧ Below w.heap.size w w' := by
  have h0 := h
  obtain ⟨A, c, rfl, hc, hm, hx⟩ := h.open_
  unfold maxLen at hm
  clear hx
  have hmm := @run_makeMap Try.prog
  go_enter Try.func84, Try.ntmps84
  go_wp2
  go_loopw [9] (fun i wr => ∃ k : Nat, k ≤ l.length ∧ i = .int .i64 k ∧ SetM wr w.heap.size (l.take k) ∧ Below w.heap.size w wr) (fun i _ => l.length - (intOf i).toNat)
  case atStart => exact ⟨0, Nat.zero_le _, rfl, SetM.new w, new_ (Below.refl _ _) _⟩
  case round =>
    obtain ⟨k, hk, rfl, hset, hb⟩ := hrel
    have hwz := hb.size
    by_cases hlt : k < l.length
    · obtain ⟨y, hy⟩ : ∃ y, l[k]? = some y := ⟨_, List.getElem?_eq_getElem hlt⟩
      obtain ⟨A', c', hvv, _, _, hx⟩ := (h0.below hb).open_
      obtain ⟨rfl, _, rfl⟩ := (by simpa using hvv : A = A' ∧ True ∧ c = c')
      obtain ⟨b, o, rfl, g1⟩ := hx k y hy
      obtain ⟨w2, hput, hset2, hg2⟩ := hset.put y (hsz y (List.mem_of_getElem? hy)) (by simp [maxLen]; omega)
      have HS2 := Lib.hid hset2
      have HY := Lib.hid hy
      clear hx hy hvv hset2 hset
      go_wp2
      go_roundw
      case rel => exact ⟨k + 1, by omega, by go_num, by rw [take_snoc HY.out]; exact HS2.out, hb.grown hg2 (by omega) (fun j ej => by cases ej; exact Nat.le_refl _)⟩
      case measure => simp [intOf]; omega
    · obtain rfl : k = l.length := by omega
      rw [List.take_length] at hset
      go_wp2
      go_ret
      exact ⟨_, rfl, hset, hb⟩
set_option maxRecDepth 20000 in
set_option maxHeartbeats 1000000 in
theorem occurring_any (w : World) (v : Value) (text : Form) (b : Nat) (vs : List (List UInt8)) (h : Strs w v text) (hset0 : SetM w b vs) (hsz : ∀ s ∈ text, s.length ≤ maxLen) (hl : text.length ≤ 1000000000) :
    Calls Try.prog 85 #[v, .map (some b)] w fun e w' => ∃ u, e = .returned u ∧ Strs w' u (varsS text vs) ∧ Below w.heap.size w w' := by
  have h0 := h
  obtain ⟨A, c, rfl, hc, hm, hx⟩ := h.open_
  unfold maxLen at hm
  clear hx
  obtain ⟨i0, hi, hj0, hj1, hj2⟩ := info_parts infoStr
  have hmm := @run_makeMap Try.prog
  go_enter Try.func85, Try.ntmps85
  go_wp2
  go_loopw [5, 12] (fun ov i wr => ∃ k : Nat, k ≤ text.length ∧ i = .int .i64 k ∧ SetM wr w.heap.size (varsS (text.take k) vs) ∧ wr.ownsRow (w.heap.size + 1) 9 1 ov (varsS (text.take k) vs).length ((varsS (text.take k) vs).map strV) ∧ Below w.heap.size w wr ∧ w.heap.size < wr.heap.size) (fun _ i _ => text.length - (intOf i).toNat)
  case atStart => exact ⟨0, Nat.zero_le _, rfl, SetM.new w, World.ownsRow_nil _ _ _ _, new_ (Below.refl _ _) _, by simp⟩
  case round =>
    obtain ⟨k, hk, rfl, hset, hown, hb, hwz⟩ := hrel
    have hwz2 := hb.size
    by_cases hlt : k < text.length
    · obtain ⟨y, hy⟩ : ∃ y, text[k]? = some y := ⟨_, List.getElem?_eq_getElem hlt⟩
      obtain ⟨A', c', hvv, _, _, hx⟩ := (h0.below hb).open_
      obtain ⟨rfl, _, rfl⟩ := (by simpa using hvv : A = A' ∧ True ∧ c = c')
      obtain ⟨b1, o1, rfl, g1⟩ := hx k y hy
      have hys := hsz y (List.mem_of_getElem? hy)
      have HT := Lib.hid (vars_take (vs := vs) hy)
      have hlk := (hset0.below hb).look y hys
      have hvl : (varsS (text.take k) vs).length ≤ k := Nat.le_trans (varsS_len _ _) (by simp; omega)
      have HVL := Lib.hid hvl
      clear hx hy hvv
      by_cases hin : y ∈ vs
      · rw [decide_eq_true hin] at hlk
        have hlk2 := hset.look y hys
        by_cases hmet : y ∈ varsS (text.take k) vs
        · rw [decide_eq_true hmet] at hlk2
          rw [if_neg (fun h => h.2 hmet)] at HT
          clear hin hmet hvl
          go_wp2
          go_roundw
          case rel => exact ⟨k + 1, by omega, by go_num, by rw [HT.out]; exact hset, by rw [HT.out]; exact hown, hb, hwz⟩
          case measure => simp [intOf]; omega
        · rw [decide_eq_false hmet] at hlk2
          rw [if_pos ⟨hin, hmet⟩] at HT
          obtain ⟨w2, hput, hset2, hg2⟩ := hset.put y hys (by simp [maxLen]; omega)
          have hown2 := hown.kept hg2 (.inr fun e => by have := (hown.lt _ e).1; omega)
          have HS2 := Lib.hid hset2
          have hb2 : Below w.heap.size w w2 := hb.grown hg2 (by omega) (fun j ej => by cases ej; exact Nat.le_refl _)
          have hz2 := hg2.size
          obtain ⟨M, hM⟩ : ∃ M, M = (varsS (text.take k) vs).length := ⟨_, rfl⟩
          obtain ⟨X, hX⟩ : ∃ X, X = (varsS (text.take k) vs).map strV := ⟨_, rfl⟩
          rw [← hM, ← hX] at hown2
          rw [← hM] at hvl
          have HM := Lib.hid hM
          have HX := Lib.hid hX
          clear hin hmet hset2 hown hset hM hX
          go_wp2_with (at_builtin; (refine wpList_append_own _ rfl (.tmp 27) (.tmp 29) 22 rfl (w.heap.size + 1) 9 i0 (.string ⟨#[]⟩) 1 16 Try.underlying22 hi hj0 hj1 hj2 rfl (by decide) _ M X rfl (hown2.alloc _) ⟨w2.heap.size, 0, none⟩ 1 1 [strV y] rfl rfl (cells_of' _ _ _ _ rfl (by simp)) (by simp [strV, Value.oneCell']) (by unfold maxLen; omega) (by omega) (by simp; omega) ?_; intro v' wz hown' hgrow _))
          go_roundw
          case rel => exact ⟨k + 1, by omega, by go_num, by rw [HT.out]; exact (HS2.out.below ((Below.refl _ _).alloc (Nat.le_refl _) _)).kept hgrow (by intro e; have := (hown2.lt _ e.symm).1; omega), by rw [HT.out, List.map_append, List.length_append, ← HM.out, ← HX.out]; exact hown', (new_ hb2 _).grown hgrow (by simp; omega) (by intro j ej; have := (hown2.lt _ ej).1; omega), by have := hgrow.size; simp at this; omega⟩
          case measure => simp [intOf]; omega
      · rw [decide_eq_false hin] at hlk
        rw [if_neg (fun h => hin h.1)] at HT
        clear hin hvl
        go_wp2
        go_roundw
        case rel => exact ⟨k + 1, by omega, by go_num, by rw [HT.out]; exact hset, by rw [HT.out]; exact hown, hb, hwz⟩
        case measure => simp [intOf]; omega
    · obtain rfl : k = text.length := by omega
      rw [List.take_length] at hown
      obtain ⟨oa, oc, rfl, hco⟩ := own_form hown
      go_wp2
      go_ret
      exact ⟨_, rfl, strs_of_own hown rfl, hb⟩
end Go.Proofs.Ytignhjfobcnloaa
