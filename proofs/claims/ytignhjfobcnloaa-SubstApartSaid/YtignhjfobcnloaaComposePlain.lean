/- What Compose of the reference makes, and that its check of the whole is Compose's error. -/
import Derived.Test.YtignhjfobcnloaaSubstPlain
namespace Go.Proofs.Ytignhjfobcnloaa
/-- the text that the reference lays for a binding of the first substitution -/
def refText (b : List BindD) (x : BindD) : Form := if (limitedS x.2 b 2000).2 = 0 then applyS x.2 b else List.replicate 2001 []
def compR (a b : List BindD) : List BindD := a.map (fun x => (x.1, refText b x)) ++ restS a b
theorem checkRun_large : ∀ (l : List BindD) (seen : List (List UInt8)), (∀ x ∈ l, x.1 ≠ [] ∧ x.1 ∉ seen) → (l.map (·.1)).Nodup → checkRun seen l = if ∃ x ∈ l, 2000 < x.2.length then 15 else 0 := by
  intro l
  induction l with
  | nil => intro seen _ _; simp [checkRun]
  | cons x l ih =>
    intro seen h hn
    obtain ⟨h1, h2⟩ := h x (List.mem_cons_self ..)
    rw [List.map_cons, List.nodup_cons] at hn
    unfold checkRun
    rw [if_neg h1, if_neg h2]
    by_cases h3 : 2000 < x.2.length
    · rw [if_pos h3, if_pos ⟨x, List.mem_cons_self .., h3⟩]
    · rw [if_neg h3, ih (seen ++ [x.1]) (fun y hy => ⟨(h y (List.mem_cons_of_mem _ hy)).1, fun hm => by
        rcases List.mem_append.1 hm with hm | hm
        · exact (h y (List.mem_cons_of_mem _ hy)).2 hm
        · simp at hm
          exact hn.1 (List.mem_map.2 ⟨y, hy, hm⟩)⟩) hn.2]
      by_cases h4 : ∃ y ∈ l, 2000 < y.2.length
      · obtain ⟨y, hy, hyl⟩ := h4
        rw [if_pos ⟨y, hy, hyl⟩, if_pos ⟨y, List.mem_cons_of_mem _ hy, hyl⟩]
      · rw [if_neg h4, if_neg (by rintro ⟨y, hy, hyl⟩; rcases List.mem_cons.1 hy with rfl | hy; exact h3 hyl; exact h4 ⟨y, hy, hyl⟩)]
theorem limited_small (x : BindD) (b : List BindD) : (limitedS x.2 b 2000).2 = 0 ↔ (applyS x.2 b).length ≤ 2000 := by
  unfold limitedS
  rw [if_neg (by decide)]
  by_cases h : (2000 : Int) < (applyS x.2 b).length
  · rw [if_pos h]; simp; omega
  · rw [if_neg h]; simp; omega
theorem refText_len (x : BindD) (b : List BindD) : 2000 < (refText b x).length ↔ 2000 < (applyS x.2 b).length := by
  unfold refText
  by_cases h : (limitedS x.2 b 2000).2 = 0
  · rw [if_pos h]
  · rw [if_neg h]
    rw [limited_small] at h
    rw [List.length_replicate]
    omega
theorem refText_eq {x : BindD} {b : List BindD} (h : ¬ 2000 < (applyS x.2 b).length) : refText b x = applyS x.2 b := by
  unfold refText
  rw [if_pos ((limited_small x b).2 (by omega))]
theorem compR_names (a b : List BindD) : (compR a b).map (·.1) = (compS a b).map (·.1) := by
  unfold compR compS
  rw [List.map_append, List.map_append, List.map_map, List.map_map]
  rfl
theorem compS_names {a b : List BindD} (h1 : checkS a = 0) (h2 : checkS b = 0) : (∀ n ∈ (compS a b).map (·.1), n ≠ []) ∧ ((compS a b).map (·.1)).Nodup := by
  obtain ⟨_, a2, a3⟩ := checkS_ok.1 h1
  obtain ⟨_, b2, b3⟩ := checkS_ok.1 h2
  rw [compS_vars]
  refine ⟨fun n hn => ?_, List.nodup_append.2 ⟨a3, (List.filter_sublist.map _).nodup b3, ?_⟩⟩
  · rcases List.mem_append.1 hn with hn | hn
    · obtain ⟨y, hy, rfl⟩ := List.mem_map.1 hn; exact (a2 y hy).1
    · obtain ⟨y, hy, rfl⟩ := List.mem_map.1 hn; exact (b2 y (List.mem_filter.1 hy).1).1
  · intro x hx y hy e
    obtain ⟨z, hz, rfl⟩ := List.mem_map.1 hy
    have := (List.mem_filter.1 hz).2
    rw [Option.isNone_iff_eq_none, boundS_none] at this
    exact this (e ▸ hx)
/-- the reference's check of the whole is Compose's error -/
theorem compR_check {a b : List BindD} (h1 : checkS a = 0) (h2 : checkS b = 0) : checkS (compR a b) = (composeS a b).2 := by
  obtain ⟨n1, n2⟩ := compS_names h1 h2
  obtain ⟨_, b2, _⟩ := checkS_ok.1 h2
  have hlen : (compR a b).length = (compS a b).length := by
    have := congrArg List.length (compR_names a b)
    simpa using this
  unfold composeS
  rw [if_neg (by simp [h1]), if_neg (by simp [h2])]
  unfold checkS
  by_cases h3 : 40 < (compS a b).length
  · rw [if_pos (by omega), if_pos h3]
  · rw [if_neg (by omega), if_neg h3, checkRun_large _ _ (fun x hx => ⟨n1 x.1 (by rw [← compR_names]; exact List.mem_map.2 ⟨x, hx, rfl⟩), by simp⟩) (by rw [compR_names]; exact n2)]
    by_cases h4 : ∃ x ∈ a, 2000 < (applyS x.2 b).length
    · obtain ⟨x, hx, hl⟩ := h4
      have e1 : ∃ y ∈ compR a b, 2000 < y.2.length := ⟨(x.1, refText b x), List.mem_append.2 (.inl (List.mem_map.2 ⟨x, hx, rfl⟩)), (refText_len x b).2 hl⟩
      have e2 : ∃ y ∈ a, 2000 < (applyS y.2 b).length := ⟨x, hx, hl⟩
      rw [if_pos e1, if_pos e2]
    · suffices e1 : ¬ ∃ y ∈ compR a b, 2000 < y.2.length by rw [if_neg e1, if_neg h4]
      rintro ⟨x, hx, hl⟩
      rcases List.mem_append.1 (show x ∈ a.map _ ++ restS a b from hx) with hx | hx
      · obtain ⟨y, hy, rfl⟩ := List.mem_map.1 hx
        exact h4 ⟨y, hy, (refText_len y b).1 hl⟩
      · have := (b2 x (List.mem_filter.1 hx).1).2
        omega
theorem compR_ok {a b : List BindD} (h1 : checkS a = 0) (h2 : checkS b = 0) (h : checkS (compR a b) = 0) : compR a b = compS a b := by
  rw [compR_check h1 h2] at h
  obtain ⟨_, _, _, h4, _⟩ := composeS_ok h
  unfold compR compS
  congr 1
  apply List.map_congr_left
  intro x hx
  have := h4 x hx
  rw [refText_eq (by omega)]
theorem composeS_err {a b : List BindD} (h : (composeS a b).2 ≠ 0) : (composeS a b).1 = [] := by
  unfold composeS at h ⊢
  split
  · rfl
  · split
    · rfl
    · split
      · rfl
      · split
        · rfl
        · rename_i h1 h2 h3 h4
          rw [if_neg h1, if_neg h2, if_neg h3, if_neg h4] at h
          exact absurd rfl h
theorem rest_step {a b : List BindD} {k : Nat} {x : BindD} (h : b[k]? = some x) : restS a (b.take (k + 1)) = restS a (b.take k) ++ (if (boundS a x.1).isNone then [x] else []) := by
  unfold restS
  rw [List.take_add_one, h, List.filter_append]
  congr 1
  simp [List.filter_cons]
theorem comp_len (a b : List BindD) : (compS a b).length = a.length + (restS a b).length := by unfold compS; simp
theorem limit_large {x : BindD} {b : List BindD} (h : 2000 < (applyS x.2 b).length) : limitedS x.2 b 2000 = ([], 15) := by
  unfold limitedS; rw [if_neg (by decide), if_pos (by omega)]
theorem limit_fits {x : BindD} {b : List BindD} (h : ¬ 2000 < (applyS x.2 b).length) : limitedS x.2 b 2000 = (applyS x.2 b, 0) := by
  unfold limitedS; rw [if_neg (by decide), if_neg (by omega)]
theorem rest_len (a b : List BindD) (k : Nat) : (restS a (b.take k)).length ≤ k := by
  unfold restS
  exact Nat.le_trans (List.length_filter_le _ _) (by simp; omega)
end Go.Proofs.Ytignhjfobcnloaa
