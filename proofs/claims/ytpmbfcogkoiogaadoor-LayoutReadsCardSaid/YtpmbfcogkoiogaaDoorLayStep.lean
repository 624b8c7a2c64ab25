/- The steps within a statement, one by one. -/
import Derived.Test.YtpmbfcogkoiogaaDoorLayPlain
namespace Go.Proofs.YtpmbfcogkoiogaaDoor
section
variable {w l : List UInt8} {s : StmD}
theorem ps_b_lab (h : kindS w ≠ 0) (hl : labS (kindS w) = true) : pstep .begin w = .inr (.inr (false, 51)) := by simp [pstep, h, hl]
theorem ps_b_one (h : kindS w ≠ 0) (hl : labS (kindS w) = false) (hm : mostS (kindS w) = 0) : pstep .begin w = .inr (.inl ⟨kindS w, [], [], []⟩) := by simp [pstep, h, hl, hm]
theorem ps_b_text (h : kindS w ≠ 0) (hl : labS (kindS w) = false) (hm : mostS (kindS w) ≠ 0) : pstep .begin w = .inl (.text ⟨kindS w, [], [], []⟩) := by simp [pstep, h, hl, hm]
theorem ps_b_kw (h : kindS w = 0) (hk : isKw w = true) : pstep .begin w = .inr (.inr (false, 50)) := by simp [pstep, h, hk]
theorem ps_b_key (h : kindS w = 0) (hk : isKw w = false) (ho : onlyS w [2]) : pstep .begin w = .inl (.key w) := by simp [pstep, h, hk, ho]
theorem ps_b_bad (h : kindS w = 0) (hk : isKw w = false) (ho : ¬ onlyS w [2]) : pstep .begin w = .inr (.inr (false, 51)) := by simp [pstep, h, hk, ho]
theorem ps_k_kw (h : kindS w = 0) : pstep (.key l) w = .inr (.inr (false, 50)) := by simp [pstep, h]
theorem ps_k_text (h : kindS w ≠ 0) (hl : labS (kindS w) = true) : pstep (.key l) w = .inl (.text ⟨kindS w, l, [], []⟩) := by simp [pstep, h, hl]
theorem ps_k_bad (h : kindS w ≠ 0) (hl : labS (kindS w) = false) : pstep (.key l) w = .inr (.inr (true, 51)) := by simp [pstep, h, hl]
theorem ps_t_short (h : w = [36, 46] ∨ w = [36, 61] ∧ s.kind = 7) (hs : s.text.length < leastS s.kind) : pstep (.text s) w = .inr (.inr (false, 53)) := by simp only [pstep, if_pos h, if_pos hs]
theorem ps_t_proof (h : w = [36, 61]) (h7 : s.kind = 7) (hs : ¬ s.text.length < leastS s.kind) : pstep (.text s) w = .inl (.proof s) := by simp only [pstep, if_pos (show w = [36, 46] ∨ w = [36, 61] ∧ s.kind = 7 from .inr ⟨h, h7⟩), if_neg hs, if_pos h]
theorem ps_t_noeq (h : w = [36, 46]) (h7 : s.kind = 7) (hs : ¬ s.text.length < leastS s.kind) : pstep (.text s) w = .inr (.inr (false, 50)) := by simp only [pstep, if_pos (show w = [36, 46] ∨ w = [36, 61] ∧ s.kind = 7 from .inl h), if_neg hs, if_neg (show ¬ w = [36, 61] by rw [h]; decide), if_pos h7]
theorem ps_t_done (h : w = [36, 46]) (h7 : s.kind ≠ 7) (hs : ¬ s.text.length < leastS s.kind) : pstep (.text s) w = .inr (.inl s) := by simp only [pstep, if_pos (show w = [36, 46] ∨ w = [36, 61] ∧ s.kind = 7 from .inl h), if_neg hs, if_neg (show ¬ w = [36, 61] by rw [h]; decide), if_neg h7]
theorem ps_t_kw (h : ¬ (w = [36, 46] ∨ w = [36, 61] ∧ s.kind = 7)) (hk : isKw w = true) : pstep (.text s) w = .inr (.inr (false, 50)) := by simp only [pstep, if_neg h, if_pos hk]
theorem ps_t_sym (h : ¬ (w = [36, 46] ∨ w = [36, 61] ∧ s.kind = 7)) (hk : isKw w = false) (ho : ¬ onlyS w [2, 3]) : pstep (.text s) w = .inr (.inr (false, 52)) := by simp only [pstep, if_neg h, if_neg (show ¬ isKw w = true by rw [hk]; decide), if_neg ho]
theorem ps_t_full (h : ¬ (w = [36, 46] ∨ w = [36, 61] ∧ s.kind = 7)) (hk : isKw w = false) (ho : onlyS w [2, 3]) (hf : s.text.length = mostS s.kind) : pstep (.text s) w = .inr (.inr (false, 53)) := by simp only [pstep, if_neg h, if_neg (show ¬ isKw w = true by rw [hk]; decide), if_pos ho, if_pos hf]
theorem ps_t_add (h : ¬ (w = [36, 46] ∨ w = [36, 61] ∧ s.kind = 7)) (hk : isKw w = false) (ho : onlyS w [2, 3]) (hf : ¬ s.text.length = mostS s.kind) : pstep (.text s) w = .inl (.text { s with text := s.text ++ [w] }) := by simp only [pstep, if_neg h, if_neg (show ¬ isKw w = true by rw [hk]; decide), if_pos ho, if_neg hf]
theorem ps_p_done (h : w = [36, 46]) : pstep (.proof s) w = .inr (.inl s) := by simp only [pstep, if_pos h]
theorem ps_p_kw (h : ¬ w = [36, 46]) (hk : isKw w = true) : pstep (.proof s) w = .inr (.inr (false, 50)) := by simp only [pstep, if_neg h, if_pos hk]
theorem ps_p_bad (h : ¬ w = [36, 46]) (hk : isKw w = false) (hp : prfS w = false) : pstep (.proof s) w = .inr (.inr (false, 54)) := by simp only [pstep, if_neg h, if_neg (show ¬ isKw w = true by rw [hk]; decide), if_neg (show ¬ prfS w = true by rw [hp]; decide)]
theorem ps_p_add (h : ¬ w = [36, 46]) (hk : isKw w = false) (hp : prfS w = true) : pstep (.proof s) w = .inl (.proof { s with proof := s.proof ++ [w] }) := by simp only [pstep, if_neg h, if_neg (show ¬ isKw w = true by rw [hk]; decide), if_pos hp]
end
end Go.Proofs.YtpmbfcogkoiogaaDoor
