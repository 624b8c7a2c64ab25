/- The reference of statements: its small functions. The reference of statements: IsSymbol, IsProof. -/
import Derived.Test.YtpmbfcogkoiogaaDoorLayPlain
import Derived.Test.YtpmbfcogkoiogaaDoorTokA
import Derived.Test.YtpmbfcogkoiogaaDoorBldA
import Derived.Test.YtpmbfcogkoiogaaDoorStrA
import Derived.WalkMore
section
namespace Go.Proofs.YtpmbfcogkoiogaaDoor
open Go.RowKit
theorem kind_kw : ∀ k : Nat, 1 ≤ k → k ≤ 9 → kindS (kwOf k) = k := by
  intro k h1 h9
  rcases (show k = 1 ∨ k = 2 ∨ k = 3 ∨ k = 4 ∨ k = 5 ∨ k = 6 ∨ k = 7 ∨ k = 8 ∨ k = 9 by omega) with rfl | rfl | rfl | rfl | rfl | rfl | rfl | rfl | rfl <;> decide
theorem kind_none {s : List UInt8} (h : ∀ j : Nat, 1 ≤ j → j ≤ 9 → kwOf j ≠ s) : kindS s = 0 := by
  unfold kindS
  rw [if_neg]
  intro hm
  obtain ⟨i, hi⟩ := List.getElem?_of_mem hm
  have hl : i < 9 := (List.getElem?_eq_some_iff.1 hi).1
  refine h (i + 1) (by omega) (by omega) ?_
  have key : ∀ i : Nat, i < 9 → kwN (i + 1) = (kindL[i]?).getD [] := by
    intro i hi
    rcases (show i = 0 ∨ i = 1 ∨ i = 2 ∨ i = 3 ∨ i = 4 ∨ i = 5 ∨ i = 6 ∨ i = 7 ∨ i = 8 by omega) with rfl | rfl | rfl | rfl | rfl | rfl | rfl | rfl | rfl <;> rfl
  show kwN ((i + 1 : Nat) : Int).toNat = s
  rw [Int.toNat_natCast, key i hl, hi]
  rfl
set_option maxRecDepth 100000 in
set_option maxHeartbeats 4000000 in
theorem ref_keyword (w : World) (k : Nat) (h1 : 1 ≤ k) (h9 : k ≤ 9) :
    Calls Tryd.prog 91 #[.int .i64 k] w fun e w' => e = .returned (.string ⟨(kwOf k).toArray⟩) ∧ Below w.heap.size w w' := by
  rcases (show k = 1 ∨ k = 2 ∨ k = 3 ∨ k = 4 ∨ k = 5 ∨ k = 6 ∨ k = 7 ∨ k = 8 ∨ k = 9 by omega) with rfl | rfl | rfl | rfl | rfl | rfl | rfl | rfl | rfl
  all_goals
    go_enter Tryd.func91, Tryd.ntmps91
    go_wp2
    go_ret
    exact ⟨rfl, new_ (Below.refl _ _) _⟩
set_option maxRecDepth 100000 in
theorem ref_kindOf (w : World) (s : List UInt8) :
    Calls Tryd.prog 79 #[.string ⟨s.toArray⟩] w fun e w' => e = .returned (.int .i64 (kindS s : Nat)) ∧ Below w.heap.size w w' := by
  go_enter Tryd.func79, Tryd.ntmps79
  go_wp2
  go_loopw [3] (fun i wr => ∃ k : Nat, 1 ≤ k ∧ k ≤ 10 ∧ i = .int .i64 k ∧ (∀ j : Nat, 1 ≤ j → j < k → kwOf j ≠ s) ∧ Below w.heap.size w wr) (fun i _ => 10 - (intOf i).toNat)
  case atStart => exact ⟨1, by omega, by omega, rfl, fun j h1 h2 => by omega, Below.refl _ _⟩
  case round =>
    obtain ⟨k, h1, h10, rfl, hn, hb⟩ := hrel
    have HN := Lib.hid hn
    have HB := Lib.hid hb
    clear hn hb
    by_cases h9 : k ≤ 9
    · have e9 : decide ((k : Int) ≤ 9) = true := decide_eq_true (by omega)
      by_cases he : kwOf k = s
      · have e1 : (kwOf k == s) = true := by simpa using he
        have HK : Hid (kindS s = k) := Lib.hid (by rw [← he]; exact kind_kw k h1 h9)
        clear he
        go_wp2_with (go_at_call 91; (refine (ref_keyword _ k h1 h9).mono ?_; rintro e w2 ⟨rfl, hb2⟩))
        go_ret
        exact ⟨ret_int (by rw [HK.out]), then_ HB.out hb2⟩
      · have e1 : (kwOf k == s) = false := by simpa using he
        have HN2 : Hid (∀ j : Nat, 1 ≤ j → j < k + 1 → kwOf j ≠ s) := Lib.hid (fun j a b => by
          by_cases hj : j = k
          · rw [hj]; exact he
          · exact HN.out j a (by omega))
        clear he
        go_wp2_with (go_at_call 91; (refine (ref_keyword _ k h1 h9).mono ?_; rintro e w2 ⟨rfl, hb2⟩))
        go_roundw
        case rel => exact ⟨k + 1, by omega, by omega, by go_num, HN2.out, then_ HB.out hb2⟩
        case measure => simp [intOf]; omega
    · have e9 : decide ((k : Int) ≤ 9) = false := decide_eq_false (by omega)
      have HK : Hid (kindS s = 0) := Lib.hid (kind_none fun j a b => HN.out j a (by omega))
      go_wp2
      go_ret
      exact ⟨ret_int (by rw [HK.out]; rfl), HB.out⟩
theorem ref_labelled (w : World) (k : Int) : Calls Tryd.prog 80 #[.int .i64 k] w fun e w' => e = .returned (.bool (labS k)) ∧ w = w' := by
  obtain ⟨b3, e3⟩ : ∃ b, (k == 3) = b := ⟨_, rfl⟩
  obtain ⟨b4, e4⟩ : ∃ b, (k == 4) = b := ⟨_, rfl⟩
  obtain ⟨b6, e6⟩ : ∃ b, (k == 6) = b := ⟨_, rfl⟩
  obtain ⟨b7, e7⟩ : ∃ b, (k == 7) = b := ⟨_, rfl⟩
  have HR : Hid (labS k = (b3 || b4 || b6 || b7)) := Lib.hid (by unfold labS; rw [e3, e4, e6, e7])
  cases b3 <;> cases b4 <;> cases b6 <;> cases b7
  all_goals
    go_enter Tryd.func80, Tryd.ntmps80
    go_wp2
    go_ret
    exact ⟨ret_bool HR.out.symm, rfl⟩
theorem ref_most (w : World) (k : Int) : Calls Tryd.prog 86 #[.int .i64 k] w fun e w' => e = .returned (.int .i64 (mostS k : Nat)) ∧ w = w' := by
  by_cases h3 : k = 3
  · subst h3
    go_enter Tryd.func86, Tryd.ntmps86
    go_wp2
    go_ret
    exact ⟨rfl, rfl⟩
  by_cases h8 : k = 8
  · subst h8
    go_enter Tryd.func86, Tryd.ntmps86
    go_wp2
    go_ret
    exact ⟨rfl, rfl⟩
  by_cases h9 : k = 9
  · subst h9
    go_enter Tryd.func86, Tryd.ntmps86
    go_wp2
    go_ret
    exact ⟨rfl, rfl⟩
  have HR : Hid (mostS k = 200) := Lib.hid (by unfold mostS; rw [if_neg h3, if_neg (by omega)])
  have e3 : (k == 3) = false := by simpa using h3
  have e8 : (k == 8) = false := by simpa using h8
  have e9 : (k == 9) = false := by simpa using h9
  clear h3 h8 h9
  go_enter Tryd.func86, Tryd.ntmps86
  go_wp2
  go_ret
  exact ⟨by rw [HR.out]; rfl, rfl⟩
theorem ref_least (w : World) (k : Int) : Calls Tryd.prog 83 #[.int .i64 k] w fun e w' => e = .returned (.int .i64 (leastS k : Nat)) ∧ w = w' := by
  by_cases h3 : k = 3
  · subst h3
    go_enter Tryd.func83, Tryd.ntmps83
    go_wp2
    go_ret
    exact ⟨rfl, rfl⟩
  by_cases h8 : k = 8
  · subst h8
    go_enter Tryd.func83, Tryd.ntmps83
    go_wp2
    go_ret
    exact ⟨rfl, rfl⟩
  by_cases h9 : k = 9
  · subst h9
    go_enter Tryd.func83, Tryd.ntmps83
    go_wp2
    go_ret
    exact ⟨rfl, rfl⟩
  have HR : Hid (leastS k = 1) := Lib.hid (by unfold leastS; rw [if_neg h3, if_neg (by omega)])
  have e3 : (k == 3) = false := by simpa using h3
  have e8 : (k == 8) = false := by simpa using h8
  have e9 : (k == 9) = false := by simpa using h9
  clear h3 h8 h9
  go_enter Tryd.func83, Tryd.ntmps83
  go_wp2
  go_ret
  exact ⟨by rw [HR.out]; rfl, rfl⟩
set_option maxRecDepth 100000 in
theorem ref_keywords (w : World) (l : List (List UInt8)) (hl : l = kwL) : Calls Tryd.prog 120 #[] w fun e w' => ∃ v, e = .returned v ∧ Strs w' v l ∧ Below w.heap.size w w' := by
  subst hl
  go_enter Tryd.func120, Tryd.ntmps120
  go_wp2
  go_ret
  exact ⟨_, rfl, Rds.lit (size := 1) w 9 #[.string ⟨#[36, 99]⟩, .string ⟨#[36, 118]⟩, .string ⟨#[36, 102]⟩, .string ⟨#[36, 101]⟩, .string ⟨#[36, 100]⟩, .string ⟨#[36, 97]⟩, .string ⟨#[36, 112]⟩, .string ⟨#[36, 46]⟩, .string ⟨#[36, 61]⟩, .string ⟨#[36, 123]⟩, .string ⟨#[36, 125]⟩, .string ⟨#[36, 40]⟩, .string ⟨#[36, 41]⟩, .string ⟨#[36, 91]⟩, .string ⟨#[36, 93]⟩] 15 rfl (by unfold maxLen; decide), new_ (Below.refl _ _) _⟩
set_option maxRecDepth 100000 in
theorem ref_isKw (w : World) (s : List UInt8) :
    Calls Tryd.prog 81 #[.string ⟨s.toArray⟩] w fun e w' => e = .returned (.bool (isKw s)) ∧ Below w.heap.size w w' := by
  obtain ⟨l, hl⟩ : ∃ l, l = kwL := ⟨_, rfl⟩
  have hl15 : l.length = 15 := by rw [hl]; rfl
  have HIS : Hid (isKw s = decide (s ∈ l)) := Lib.hid (by rw [hl]; rfl)
  have HL := Lib.hid hl
  clear hl
  go_enter Tryd.func81, Tryd.ntmps81
  go_wp2_with (go_at_call 120; (refine (ref_keywords _ l HL.out).mono ?_; rintro e w1 ⟨v, rfl, hv, hb1⟩; obtain ⟨fA, fc, rfl, hfc, hfm, hx⟩ := hv.open_; have HX := Lib.hid hx; have HB1 := Lib.hid hb1; clear hx hv hb1))
  go_loop [4] (fun v => ∃ k : Nat, k ≤ 15 ∧ v = .int .i64 k ∧ s ∉ l.take k) (fun v => 15 - (intOf v).toNat)
  case atStart => exact ⟨0, Nat.zero_le _, rfl, by simp⟩
  case round =>
    obtain ⟨k, hk, rfl, hn⟩ := hrel
    by_cases hlt : k < 15
    · have hts : l.take (k + 1) = l.take k ++ [l[k]'(by omega)] := by rw [List.take_succ_eq_append_getElem (by omega)]
      obtain ⟨y, hy⟩ : ∃ y, y = l[k]'(by omega) := ⟨_, rfl⟩
      rw [← hy] at hts
      obtain ⟨b, o, rfl, g0⟩ := HX.out k y (by rw [hy]; exact List.getElem?_eq_getElem (by omega))
      have hlb : b < w1.heap.size := block_lt_of_cell g0
      have hin : y ∈ l := by rw [hy]; exact List.getElem_mem _
      clear hy
      by_cases hc : y = s
      · have HR : Hid (isKw s = true) := Lib.hid (by rw [HIS.out]; exact decide_eq_true (hc ▸ hin))
        have hcc : (y == s) = true := by simpa using hc
        clear hc hin hts hn
        go_wp2
        go_ret
        exact ⟨ret_bool HR.out.symm, HB1.out⟩
      · have HN : Hid (s ∉ l.take (k + 1)) := Lib.hid (by
          rw [hts, List.mem_append, not_or]
          exact ⟨hn, fun h => hc (by simp at h; exact h.symm)⟩)
        have hcc : (y == s) = false := by simpa using hc
        clear hc hts hn hin
        go_wp2
        go_round
        case rel => exact ⟨k + 1, by omega, by go_num, HN.out⟩
        case measure => simp [intOf]; omega
    · obtain rfl : k = 15 := by omega
      have HR : Hid (isKw s = false) := Lib.hid (by rw [HIS.out]; exact decide_eq_false (by rw [List.take_of_length_le (by omega)] at hn; exact hn))
      clear hn
      go_wp2
      go_ret
      exact ⟨ret_bool HR.out.symm, HB1.out⟩
theorem only_23 (s : List UInt8) : onlyS s [2, 3] ↔ s ≠ [] ∧ s.length ≤ 60 ∧ ∀ b ∈ s, 33 ≤ b.toNat ∧ b.toNat ≤ 126 ∧ b.toNat ≠ 36 := by
  have key : ∀ n : Nat, cls n ∈ [2, 3] ↔ 33 ≤ n ∧ n ≤ 126 ∧ n ≠ 36 := by
    intro n
    simp only [List.mem_cons, List.not_mem_nil, or_false]
    unfold cls
    split
    · omega
    · split
      · omega
      · split
        · omega
        · split <;> omega
  unfold onlyS
  constructor
  · exact fun ⟨a, b, c⟩ => ⟨a, b, fun x hx => (key _).1 (c x hx)⟩
  · exact fun ⟨a, b, c⟩ => ⟨a, b, fun x hx => (key _).2 (c x hx)⟩
/-- a word of printable characters -/
def wordB (s : List UInt8) : Bool := decide (s ≠ [] ∧ ∀ b ∈ s, 33 ≤ b.toNat ∧ b.toNat ≤ 126)
set_option maxRecDepth 100000 in
theorem ref_isWord (w : World) (s : List UInt8) (hs : s.length ≤ maxLen) :
    Calls Tryd.prog 121 #[.string ⟨s.toArray⟩] w fun e w' => e = .returned (.bool (wordB s)) ∧ w = w' := by
  unfold maxLen at hs
  go_enter Tryd.func121, Tryd.ntmps121
  go_wp2
  go_loop [3] (fun i => ∃ k : Nat, k ≤ s.length ∧ i = .int .i64 k ∧ ∀ b ∈ s.take k, 33 ≤ b.toNat ∧ b.toNat ≤ 126) (fun i => s.length - (intOf i).toNat)
  case atStart => exact ⟨0, Nat.zero_le _, rfl, by simp⟩
  case round =>
    obtain ⟨k, hk, rfl, hn⟩ := hrel
    have HN := Lib.hid hn
    clear hn
    by_cases hlt : k < s.length
    · obtain ⟨c, hce, hcl⟩ : ∃ c : Nat, (ByteArray.mk s.toArray)[k].toNat = c ∧ c = s[k].toNat := ⟨_, rfl, rfl⟩
      have HC := Lib.hid hcl
      have hc256 : c < 256 := by rw [hcl]; exact s[k].toNat_lt
      clear hcl
      by_cases h33 : 33 ≤ c
      · have e33 : decide ((33 : Int) ≤ (c : Int)) = true := decide_eq_true (by omega)
        by_cases h126 : c ≤ 126
        · have e126 : decide ((c : Int) ≤ 126) = true := decide_eq_true (by omega)
          have HNN := Lib.hid (all_snoc (p := fun b : UInt8 => 33 ≤ b.toNat ∧ b.toNat ≤ 126) (List.getElem?_eq_getElem hlt) HN.out (by rw [← HC.out]; exact ⟨h33, h126⟩))
          clear h33 h126 hc256
          go_wp2
          go_round
          case rel => exact ⟨k + 1, by omega, by go_num, HNN.out⟩
          case measure => simp [intOf]; omega
        · have e126 : decide ((c : Int) ≤ 126) = false := decide_eq_false (by omega)
          have HK : Hid (wordB s = false) := Lib.hid (decide_eq_false fun h => h126 (by have := (h.2 s[k] (List.getElem_mem hlt)).2; rw [← HC.out] at this; exact this))
          clear h33 h126 hc256
          go_wp2
          go_ret
          exact ⟨ret_bool HK.out.symm, rfl⟩
      · have e33 : decide ((33 : Int) ≤ (c : Int)) = false := decide_eq_false (by omega)
        have HK : Hid (wordB s = false) := Lib.hid (decide_eq_false fun h => h33 (by have := (h.2 s[k] (List.getElem_mem hlt)).1; rw [← HC.out] at this; exact this))
        clear h33 hc256
        go_wp2
        go_ret
        exact ⟨ret_bool HK.out.symm, rfl⟩
    · obtain rfl : k = s.length := by omega
      rw [List.take_length] at HN
      by_cases h0 : s = []
      · subst h0
        go_wp2
        go_ret
        exact ⟨ret_bool rfl, rfl⟩
      · have e0 : s.isEmpty = false := by simpa using h0
        have e1 : (!s.isEmpty) = true := by rw [e0]; rfl
        have e2 : (s == []) = false := by simpa using h0
        have HK : Hid (wordB s = true) := Lib.hid (decide_eq_true ⟨h0, HN.out⟩)
        clear h0
        go_wp2
        go_ret
        exact ⟨ret_bool HK.out.symm, rfl⟩
end Go.Proofs.YtpmbfcogkoiogaaDoor
end
section
namespace Go.Proofs.YtpmbfcogkoiogaaDoor
open Go.RowKit
def symB (s : List UInt8) : Bool := decide (onlyS s [2, 3])
def labB (s : List UInt8) : Bool := decide (onlyS s [2])
set_option maxRecDepth 100000 in
theorem ref_isSymbol (w : World) (s : List UInt8) (hs : s.length ≤ maxLen) :
    Calls Tryd.prog 85 #[.string ⟨s.toArray⟩] w fun e w' => e = .returned (.bool (symB s)) ∧ w = w' := by
  have hs0 := hs
  unfold maxLen at hs
  have HS0 := Lib.hid hs0
  clear hs0
  go_enter Tryd.func85, Tryd.ntmps85
  go_wp2
  go_loop [3] (fun i => ∃ k : Nat, k ≤ s.length ∧ i = .int .i64 k ∧ ∀ b ∈ s.take k, b.toNat ≠ 36) (fun i => s.length - (intOf i).toNat)
  case atStart => exact ⟨0, Nat.zero_le _, rfl, by simp⟩
  case round =>
    obtain ⟨k, hk, rfl, hn⟩ := hrel
    have HN := Lib.hid hn
    clear hn
    by_cases hlt : k < s.length
    · obtain ⟨c, hce, hcl⟩ : ∃ c : Nat, (ByteArray.mk s.toArray)[k].toNat = c ∧ c = s[k].toNat := ⟨_, rfl, rfl⟩
      have HC := Lib.hid hcl
      clear hcl
      by_cases h36 : c = 36
      · have e36 : ((c : Int) == 36) = true := by rw [h36]; rfl
        have HK : Hid (symB s = false) := Lib.hid (decide_eq_false fun h => by
          have := (((only_23 s).1 h).2.2 s[k] (List.getElem_mem hlt)).2.2
          rw [← HC.out] at this
          exact this h36)
        clear h36
        go_wp2
        go_ret
        exact ⟨ret_bool HK.out.symm, rfl⟩
      · have e36 : ((c : Int) == 36) = false := by rw [beq_eq_false_iff_ne]; omega
        have HNN := Lib.hid (all_snoc (p := fun b : UInt8 => b.toNat ≠ 36) (List.getElem?_eq_getElem hlt) HN.out (by rw [← HC.out]; exact h36))
        clear h36
        go_wp2
        go_round
        case rel => exact ⟨k + 1, by omega, by go_num, HNN.out⟩
        case measure => simp [intOf]; omega
    · obtain rfl : k = s.length := by omega
      rw [List.take_length] at HN
      obtain ⟨b, hb⟩ : ∃ b, wordB s = b := ⟨_, rfl⟩
      have HB := Lib.hid hb
      clear hb
      by_cases h60 : s.length ≤ 60
      · have e60 : decide ((s.length : Int) ≤ 60) = true := decide_eq_true (by omega)
        have HK : Hid (symB s = b) := Lib.hid (by
          rw [← HB.out]
          unfold symB wordB
          rw [decide_eq_decide, only_23]
          exact ⟨fun ⟨h1, _, h3⟩ => ⟨h1, fun x hx => ⟨(h3 x hx).1, (h3 x hx).2.1⟩⟩, fun ⟨h1, h3⟩ => ⟨h1, h60, fun x hx => ⟨(h3 x hx).1, (h3 x hx).2, HN.out x hx⟩⟩⟩)
        cases b
        all_goals
          go_wp2_with (go_at_call 121; (refine (ref_isWord _ s HS0.out).mono ?_; rw [HB.out]; rintro e w2 ⟨rfl, rfl⟩))
          go_ret
          exact ⟨ret_bool HK.out.symm, rfl⟩
      · have e60 : decide ((s.length : Int) ≤ 60) = false := decide_eq_false (by omega)
        have HK : Hid (symB s = false) := Lib.hid (decide_eq_false fun h => h60 ((only_23 s).1 h).2.1)
        cases b
        all_goals
          go_wp2_with (go_at_call 121; (refine (ref_isWord _ s HS0.out).mono ?_; rw [HB.out]; rintro e w2 ⟨rfl, rfl⟩))
          go_ret
          exact ⟨ret_bool HK.out.symm, rfl⟩
theorem lab_one (b : UInt8) : labB [b] = (cls b.toNat == 2) := by
  by_cases h : cls b.toNat = 2
  · exact (decide_eq_true (show onlyS [b] [2] from ⟨by simp, by simp, fun x hx => by simp at hx; subst hx; simp [h]⟩)).trans (by simp [h])
  · exact (decide_eq_false (show ¬ onlyS [b] [2] from fun ⟨_, _, h3⟩ => h (by simpa using h3 b (List.mem_cons_self ..)))).trans (by simpa using h)
theorem ref_isLab (w : World) (s : List UInt8) (hs : s.length ≤ maxLen) :
    Calls Tryd.prog 82 #[.string ⟨s.toArray⟩] w fun e w' => e = .returned (.bool (labB s)) ∧ w = w' := ref_isLabel w s hs
set_option maxRecDepth 100000 in
theorem ref_isProof (w : World) (s : List UInt8) (hs : s.length ≤ maxLen) :
    Calls Tryd.prog 84 #[.string ⟨s.toArray⟩] w fun e w' => e = .returned (.bool (prfS s)) ∧ w = w' := by
  unfold maxLen at hs
  by_cases h40 : s = [40]
  · subst h40
    go_enter Tryd.func84, Tryd.ntmps84
    go_wp2
    go_ret
    exact ⟨rfl, rfl⟩
  by_cases h41 : s = [41]
  · subst h41
    go_enter Tryd.func84, Tryd.ntmps84
    go_wp2
    go_ret
    exact ⟨rfl, rfl⟩
  have n40 : (s == [40]) = false := by simpa using h40
  have n41 : (s == [41]) = false := by simpa using h41
  have HPR : Hid (prfS s = (!s.isEmpty && s.all prfB)) := Lib.hid (by unfold prfS; rw [n40, n41]; rfl)
  clear h40 h41
  go_enter Tryd.func84, Tryd.ntmps84
  go_wp2
  go_loop [3] (fun i => ∃ k : Nat, k ≤ s.length ∧ i = .int .i64 k ∧ ∀ b ∈ s.take k, prfB b = true) (fun i => s.length - (intOf i).toNat)
  case atStart => exact ⟨0, Nat.zero_le _, rfl, by simp⟩
  case round =>
    obtain ⟨k, hk, rfl, hn⟩ := hrel
    have HN := Lib.hid hn
    clear hn
    by_cases hlt : k < s.length
    · obtain ⟨c, hce, hcl⟩ : ∃ c : Nat, (ByteArray.mk s.toArray)[k].toNat = c ∧ c = s[k].toNat := ⟨_, rfl, rfl⟩
      have HC := Lib.hid hcl
      clear hcl
      obtain ⟨x, hx⟩ : ∃ x, s[k] = x := ⟨_, rfl⟩
      have hsl : (ByteArray.mk s.toArray).extract k (k + 1) = ByteArray.mk #[x] := by
        ext1
        simp
        rw [List.drop_eq_getElem_cons hlt, hx]
        simp
      have hsr : ∀ wx : World, (Instr.slice 9 (.string ⟨s.toArray⟩) (some (.int .i64 (k : Int))) (some (.int .i64 ((k : Int) + 1))) none).run Tryd.prog wx = .ok (.string ⟨#[x]⟩) wx := fun wx => by
        have h1 := run_slice_string (P := Tryd.prog) wx 9 ⟨s.toArray⟩ .i64 .i64 (k : Int) ((k : Int) + 1) Tryd.underlying9 (by omega) (by omega) (by simp [ByteArray.size]; omega)
        rw [h1, show ((k : Int)).toNat = k by omega, show ((k : Int) + 1).toNat = k + 1 by omega, hsl]
      have HX := Lib.hid hx
      clear hx hsl
      obtain ⟨bx, hbx⟩ : ∃ b, labB [x] = b := ⟨_, rfl⟩
      have HBX := Lib.hid hbx
      clear hbx
      have i0 : (0 : Int) ≤ (k : Int) := by omega
      have i1 : (k : Int) + 1 ≤ (s.length : Int) := by omega
      by_cases h63 : c = 63
      · have e63 : ((c : Int) == 63) = true := by rw [h63]; rfl
        have e64 : ((c : Int) != 63) = false := by rw [h63]; rfl
        have HNN := Lib.hid (all_snoc (p := fun b : UInt8 => prfB b = true) (List.getElem?_eq_getElem hlt) HN.out (by
          unfold prfB
          rw [show s[k] = 63 from UInt8.toNat_inj.1 (by rw [← HC.out, h63]; rfl)]
          rfl))
        clear h63
        go_wp2
        go_round
        case rel => exact ⟨k + 1, by omega, by go_num, HNN.out⟩
        case measure => simp [intOf]; omega
      · have e63 : ((c : Int) == 63) = false := by rw [beq_eq_false_iff_ne]; omega
        have e64 : ((c : Int) != 63) = true := by simp; omega
        have hpb : prfB s[k] = bx := by
          unfold prfB
          rw [HX.out, ← lab_one, HBX.out]
          have : (x == 63) = false := by
            rw [beq_eq_false_iff_ne]
            rintro rfl
            exact h63 (by rw [HC.out, HX.out]; rfl)
          rw [this, Bool.or_false]
        have HPB := Lib.hid hpb
        clear h63 hpb
        cases bx with
        | true =>
          have HNN := Lib.hid (all_snoc (p := fun b : UInt8 => prfB b = true) (List.getElem?_eq_getElem hlt) HN.out HPB.out)
          go_wp2_with (go_at_call 82; (refine (ref_isLab _ [x] (by unfold maxLen; simp)).mono ?_; rw [HBX.out]; rintro e w2 ⟨rfl, rfl⟩))
          go_round
          case rel => exact ⟨k + 1, by omega, by go_num, HNN.out⟩
          case measure => simp [intOf]; omega
        | false =>
          have HK : Hid (prfS s = false) := Lib.hid (by
            rw [HPR.out]
            have : s.all prfB = false := by
              rw [List.all_eq_false]
              exact ⟨s[k], List.getElem_mem hlt, by rw [HPB.out]; decide⟩
            rw [this, Bool.and_false])
          go_wp2_with (go_at_call 82; (refine (ref_isLab _ [x] (by unfold maxLen; simp)).mono ?_; rw [HBX.out]; rintro e w2 ⟨rfl, rfl⟩))
          go_ret
          exact ⟨ret_bool HK.out.symm, rfl⟩
    · obtain rfl : k = s.length := by omega
      rw [List.take_length] at HN
      have hall : s.all prfB = true := List.all_eq_true.2 HN.out
      by_cases h0 : s = []
      · subst h0
        go_wp2
        go_ret
        exact ⟨ret_bool rfl, rfl⟩
      · have e0 : s.isEmpty = false := by simpa using h0
        have e1 : (!s.isEmpty) = true := by rw [e0]; rfl
        have e2 : (s == []) = false := by simpa using h0
        have HK : Hid (prfS s = true) := Lib.hid (by rw [HPR.out, e0, hall]; rfl)
        clear h0 hall
        go_wp2
        go_ret
        exact ⟨ret_bool HK.out.symm, rfl⟩
end Go.Proofs.YtpmbfcogkoiogaaDoor
end
