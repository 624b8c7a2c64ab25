/- Numbers of Letters are the numbers; Read of Write is the code: plain laws. -/
import Derived.Test.YtmiblmmjgoeahaaWritePlain
namespace Go.Proofs.Ytmiblmmjgoeahaa
theorem nrun_lets : ∀ (N r : Nat), r ≤ N → r ≤ 1000000 → ∀ (f : Bool) (k : Nat) (t : List UInt8), nrun 0 f k (lets r ++ t) = nrun r (f && decide (r = 0)) (k + (lets r).length) t := by
  intro N
  induction N with
  | zero =>
    intro r h _ f k t
    obtain rfl : r = 0 := by omega
    rw [lets_zero]; simp
  | succ N ih =>
    intro r h hr f k t
    by_cases h0 : r = 0
    · subst h0
      rw [lets_zero]; simp
    · have e := lets_pos (r := r) (by omega)
      have hb : (byteAt 85 ((r - 1) % 5)).toNat = 85 + (r - 1) % 5 := byteAt_toNat (by omega)
      have hs : nstep ((r - 1) / 5) (f && decide ((r - 1) / 5 = 0)) (byteAt 85 ((r - 1) % 5)) = some (r, false, none) := by
        rw [nstep_part (by omega) (by omega) (by omega)]
        rw [show 5 * ((r - 1) / 5) + ((byteAt 85 ((r - 1) % 5)).toNat - 85) + 1 = r by omega]
      rw [e, List.append_assoc, ih _ (by omega) (by omega), List.cons_append, List.nil_append, nrun_go hs]
      simp [h0, Nat.add_assoc]
theorem nrun_letters {n : Nat} (h1 : 1 ≤ n) (h2 : n ≤ 1000000) (f : Bool) (k : Nat) (t : List UInt8) :
    nrun 0 f k (lettersS n ++ t) = ((n : Int) :: (nrun 0 true (k + (lettersS n).length) t).1, (nrun 0 true (k + (lettersS n).length) t).2) := by
  have hb : (byteAt 65 ((n - 1) % 20)).toNat = 65 + (n - 1) % 20 := byteAt_toNat (by omega)
  have hs : nstep ((n - 1) / 20) (f && decide ((n - 1) / 20 = 0)) (byteAt 65 ((n - 1) % 20)) = some (0, true, some (n : Int)) := by
    rw [nstep_num (by omega) (by omega) (by omega)]
    rw [show 20 * ((n - 1) / 20) + ((byteAt 65 ((n - 1) % 20)).toNat - 65) + 1 = n by omega]
  unfold lettersS
  rw [List.append_assoc, nrun_lets _ _ (Nat.le_refl _) (by omega), List.cons_append, List.nil_append, nrun_go hs]
  simp [Nat.add_assoc]
theorem nrun_letNs : ∀ (l : List Int) (p : Option Int) (f : Bool) (k : Nat), rightS p l → (f = true ↔ ∃ m, p = some m ∧ 1 ≤ m) → nrun 0 f k (letNs l) = (l, none) := by
  intro l
  induction l with
  | nil => intro p f k _ _; simp [letNs, nrun]
  | cons n l ih =>
    intro p f k hr hf
    obtain ⟨hn, hr⟩ := hr
    have e : letNs (n :: l) = letN n ++ letNs l := by simp [letNs]
    rw [e]
    by_cases h0 : n = 0
    · subst h0
      have hft : f = true := hf.2 (hn.2.2 rfl)
      subst hft
      have hs : nstep 0 true 90 = some (0, false, some 0) := nstep_save rfl
      rw [show letN 0 = [90] from rfl, List.cons_append, List.nil_append, nrun_go hs, ih (some 0) false _ hr (by simp)]
      rfl
    · by_cases h1 : n = -1
      · subst h1
        have hs : nstep 0 f 63 = some (0, false, some (-1)) := nstep_unknown rfl
        rw [show letN (-1) = [63] from rfl, List.cons_append, List.nil_append, nrun_go hs, ih (some (-1)) false _ hr (by simp)]
        rfl
      · have h3 := hn.1
        have h4 := hn.2.1
        have e2 : letN n = lettersS n.toNat := by unfold letN; rw [if_neg h0, if_neg h1]
        rw [e2, nrun_letters (by omega) (by omega), ih (some n) true _ hr (by simp; omega)]
        rw [show ((n.toNat : Nat) : Int) = n by omega]
/-- Numbers of the letters of right numbers are these -/
theorem numbers_back {l : List Int} (h : rightS none l) (hs : (letNs l).length ≤ 40000) : numbersS (letNs l) = (l, 0, 0) := by
  have := nrun_letNs l none false 0 h (by simp)
  rw [numbersS_ok (by omega) (by rw [this]), this]
theorem right_pos : ∀ (l : List Int) (p : Option Int), (∀ n ∈ l, 1 ≤ n ∧ n ≤ 1000000) → rightS p l := by
  intro l
  induction l with
  | nil => intro p _; trivial
  | cons n l ih =>
    intro p h
    have h1 := h n (List.mem_cons_self ..)
    exact ⟨⟨by omega, by omega, fun e => by omega⟩, ih _ fun m hm => h m (List.mem_cons_of_mem _ hm)⟩
theorem not_name {labels : List (List UInt8)} (h : namesS labels) : [41] ∉ labels := by
  intro hm
  have h1 := (h.1 _ hm).2.2 41 (by simp)
  exact absurd h1 (by decide)
/-- Read of Write is the code -/
theorem read_back {labels : List (List UInt8)} {nums : List Int} {width : Int} (h : (writeS labels nums width).2 = 0) : readS (writeS labels nums width).1 = ((labels, nums), 0) := by
  by_cases h1 : namesS labels
  · by_cases h2 : rightS none nums
    · by_cases h3 : 40000 < (letNs nums).length
      · rw [writeS_size h1 h2 h3] at h; simp at h
      · rw [writeS_ok h1 h2 h3]
        generalize hK : (max width 1).toNat = K
        have hK1 : 0 < K := by omega
        have hp : ([40] :: labels ++ [[41]] ++ chunks K (letNs nums)) = [40] :: (labels ++ ([41] :: chunks K (letNs nums))) := by simp
        show readS ([40] :: labels ++ [[41]] ++ chunks K (letNs nums)) = _
        rw [hp]
        have hi : isS ([40] :: (labels ++ ([41] :: chunks K (letNs nums)))) := rfl
        have hm : [41] ∈ ([40] :: (labels ++ ([41] :: chunks K (letNs nums)))) := by simp
        have hc : cutS ([40] :: (labels ++ ([41] :: chunks K (letNs nums)))) = labels.length + 1 := by
          have := indexI_hit (l := [40] :: (labels ++ ([41] :: chunks K (letNs nums)))) (x := [41]) (k := labels.length + 1) (by simp) (by
            intro y hy
            rw [List.take_succ_cons, List.take_left'  rfl] at hy
            rcases List.mem_cons.1 hy with rfl | hy
            · decide
            · exact fun e => not_name h1 (e ▸ hy))
          unfold cutS
          rw [this]; rfl
        have hl : labS ([40] :: (labels ++ ([41] :: chunks K (letNs nums)))) = labels := by
          unfold labS
          rw [hc, List.take_succ_cons, List.take_left' rfl]
          rfl
        have hs : letS ([40] :: (labels ++ ([41] :: chunks K (letNs nums)))) = letNs nums := by
          unfold letS
          rw [hc, List.drop_succ_cons, show labels.length + 1 = labels.length + 1 from rfl, ← List.drop_drop, List.drop_left' rfl, List.drop_succ_cons, List.drop_zero]
          exact chunks_flat hK1 _ _ (Nat.le_refl _)
        have hn := numbers_back h2 (by omega)
        rw [readS_ok hi hm (by rw [hl]; exact h1) (by rw [hs, hn]), hl, hs, hn]
    · rw [writeS_right h1 h2] at h; simp at h
  · rw [writeS_names h1] at h; simp at h
theorem lets_log : ∀ (k r : Nat), r < 5 ^ k → (lets r).length ≤ k := by
  intro k
  induction k with
  | zero => intro r h; obtain rfl : r = 0 := by simpa using h
            rw [lets_zero]; simp
  | succ k ih =>
    intro r h
    by_cases h0 : r = 0
    · rw [h0, lets_zero]; simp
    · have := ih ((r - 1) / 5) (by rw [Nat.pow_succ] at h; omega)
      rw [lets_pos (by omega), List.length_append]
      simp; omega
theorem letters_short {n : Nat} (h : n ≤ 1000000) : (lettersS n).length ≤ 8 := by
  have := lets_log 7 ((n - 1) / 20) (by omega)
  unfold lettersS
  simp; omega
theorem letNs_short : ∀ (l : List Int), (∀ n ∈ l, 1 ≤ n ∧ n ≤ 1000000) → (letNs l).length ≤ 8 * l.length := by
  intro l
  induction l with
  | nil => intro _; simp [letNs]
  | cons n l ih =>
    intro h
    have h1 := h n (List.mem_cons_self ..)
    have h2 := ih fun m hm => h m (List.mem_cons_of_mem _ hm)
    have h3 := letters_short (n := n.toNat) (by omega)
    have e : letNs (n :: l) = lettersS n.toNat ++ letNs l := by
      show (n :: l).flatMap letN = _
      rw [List.flatMap_cons]
      congr 1
      unfold letN; rw [if_neg (by omega), if_neg (by omega)]
    rw [e, List.length_append, List.length_cons]
    omega
theorem writeS_bounds {labels : List (List UInt8)} {nums : List Int} {width : Int} (h1 : labels.length ≤ 100) (h2 : labels.flatten.length ≤ 3000) : (writeS labels nums width).1.flatten.length ≤ 1048576 ∧ (writeS labels nums width).1.length ≤ 1048576 := by
  unfold writeS
  split
  · simp
  · split
    · simp
    · split
      · simp
      · rename_i h
        have hk : 0 < (max width 1).toNat := by omega
        have f1 := chunks_flat hk _ (letNs nums) (Nat.le_refl _)
        have f2 := chunks_len hk _ (letNs nums) (Nat.le_refl _)
        refine ⟨?_, ?_⟩
        · rw [List.flatten_append, List.length_append, f1, List.flatten_append, List.length_append, List.flatten_cons, List.length_append]
          have : ([[41]] : List (List UInt8)).flatten.length = 1 := rfl
          have : ([40] : List UInt8).length = 1 := rfl
          omega
        · rw [List.length_append, List.length_append, List.length_cons]
          have : ([[41]] : List (List UInt8)).length = 1 := rfl
          omega
/-- the numbers that come of some integers -/
def numsOf (l : List Int) : List Int := l.map fun x => 1 + x % 1000000
theorem numsOf_in {l : List Int} : ∀ n ∈ numsOf l, 1 ≤ n ∧ n ≤ 1000000 := by
  intro n hn
  obtain ⟨x, _, rfl⟩ := List.mem_map.1 hn
  omega
end Go.Proofs.Ytmiblmmjgoeahaa
