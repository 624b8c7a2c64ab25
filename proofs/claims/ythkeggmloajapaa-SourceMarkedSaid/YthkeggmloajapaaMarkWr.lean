/- How a mark is written. -/
import Derived.Test.YthkeggmloajapaaMarkDo
import Derived.Test.YthkeggmloajapaaMarkAny
import Derived.Deep.RegionHeld3
import Derived.Deep.DrawnRows
namespace Go.Proofs.Ythkeggmloajapaa
open Go.RowKit
attribute [local go_sem ↓] Go.wp_at_zero Go.wp_at_succ
theorem bytesM (a b : List UInt8) : ByteArray.mk a.toArray ++ ByteArray.mk b.toArray = ByteArray.mk (a ++ b).toArray := by
  apply ByteArray.ext
  simp
theorem catM {a b c : List UInt8} (h : a ++ b = c) (hl : a.length + b.length ≤ 1000000000) : Op.stringOp .add ⟨a.toArray⟩ ⟨b.toArray⟩ = pure (.string ⟨c.toArray⟩) := by
  have h2 : (ByteArray.mk a.toArray ++ ByteArray.mk b.toArray) = ByteArray.mk c.toArray := by rw [← h]; exact bytesM a b
  have h3 : (ByteArray.mk a.toArray).size = a.length := by simp [ByteArray.size]
  have h4 : (ByteArray.mk b.toArray).size = b.length := by simp [ByteArray.size]
  unfold Op.stringOp
  have e : ¬ ((((ByteArray.mk a.toArray).size + (ByteArray.mk b.toArray).size : Nat) : Int) > IntKind.i64.max) := by
    have : IntKind.i64.max = 9223372036854775807 := rfl
    rw [h3, h4]
    omega
  simp only [if_neg e, h2]
theorem index_any (s : List UInt8) (c : UInt8) : decide (0 ≤ Lib.indexByte s c) = s.any (· == c) := by
  induction s with
  | nil => rfl
  | cons b s ih =>
    rw [Lib.indexByte, List.any_cons]
    by_cases h : b = c
    · subst h; simp
    · have h1 : (b == c) = false := by simpa using h
      rw [h1, ← ih, Bool.false_or]
      have h2 := Lib.indexByte_ge s c
      simp only [Bool.false_eq_true, if_false]
      by_cases h3 : Lib.indexByte s c = -1
      · rw [h3]; rfl
      · have h4 : (Lib.indexByte s c == -1) = false := by simpa using h3
        rw [h4]
        simp only [Bool.false_eq_true, if_false]
        congr 1
        apply propext
        omega
theorem has96 (w : World) (s : List UInt8) : Calls Try.prog 21 #[.string ⟨s.toArray⟩, .string ⟨#[96]⟩] w fun e w' => e = .returned (.bool (s.any (· == 96))) ∧ w = w' := by
  have h := Try.strings_Contains_one ⟨s.toArray⟩ 96 w
  have e : decide (0 ≤ Lib.indexByte (ByteArray.mk s.toArray).data.toList 96) = s.any (· == 96) := index_any s 96
  rw [e] at h
  exact h.mono fun _ _ ⟨h1, h2⟩ => ⟨h1, h2.symm⟩
theorem pairs_new (w : World) : ∀ (j : Nat) x, pairsL[j]? = some x → (w.alloc (.cells #[.string ⟨#[96]⟩, .string ⟨#[96, 96]⟩, .string ⟨#[126]⟩, .string ⟨#[126, 126]⟩, .string ⟨#[91]⟩, .string ⟨#[91, 91]⟩] 9)).cell? ⟨w.heap.size, j, none⟩ = some (.string ⟨x.toArray⟩) := fun j x hx => by
  refine (Row.new w 9 _).cell ?_
  match j, hx with
  | 0, hx => cases hx; rfl
  | 1, hx => cases hx; rfl
  | 2, hx => cases hx; rfl
  | 3, hx => cases hx; rfl
  | 4, hx => cases hx; rfl
  | 5, hx => cases hx; rfl
  | n + 6, hx => simp [pairsL] at hx
theorem sp_any (b : UInt8) : sp b = ([32, 9, 13, 10, 12] : List UInt8).contains b := by
  have key : ∀ n : Nat, n < 256 → sp (UInt8.ofNat n) = ([32, 9, 13, 10, 12] : List UInt8).contains (UInt8.ofNat n) := by decide +kernel
  have := key b.toNat b.toNat_lt
  rwa [UInt8.ofNat_toNat] at this
theorem any_sp (t : List UInt8) : t.any sp = t.any (fun b => ([32, 9, 13, 10, 12] : List UInt8).contains b) := by
  congr 1
  funext b
  exact sp_any b
theorem cite_any_not (t : List UInt8) : t.all citeP = !(t.any fun b => ([91, 93, 32, 9, 13, 10, 12] : List UInt8).contains b) := by
  have key : ∀ b : UInt8, citeP b = !(([91, 93, 32, 9, 13, 10, 12] : List UInt8).contains b) := fun b => by
    have key : ∀ n : Nat, n < 256 → citeP (UInt8.ofNat n) = !(([91, 93, 32, 9, 13, 10, 12] : List UInt8).contains (UInt8.ofNat n)) := by decide +kernel
    have := key b.toNat b.toNat_lt
    rwa [UInt8.ofNat_toNat] at this
  induction t with
  | nil => rfl
  | cons b t ih => rw [List.all_cons, List.any_cons, ih, key, Bool.not_or]
def WrPost (w : World) (m : MarkD) (e : Ending) (w' : World) : Prop := ∃ s, e = .returned (.tuple #[.string s, .bool (formM m)]) ∧ (formM m = true → s = ⟨(writeM m).toArray⟩) ∧ Below w.heap.size w w'
set_option maxRecDepth 100000 in
set_option maxHeartbeats 4000000 in
theorem written_any (w : World) (k : Int) (t : List UInt8) (hs : t.length ≤ 1000000) :
    Calls Try.prog 15 #[.agg #[.int .i64 k, .string ⟨t.toArray⟩]] w (WrPost w (k, t)) := by
  have hn := Row.new w 24 #[.int .i64 k, .string ⟨t.toArray⟩]
  have c0 := hn.cell (i := 0) (v := .int .i64 k) rfl
  have c1 := hn.cell (i := 1) (v := .string ⟨t.toArray⟩) rfl
  have HB1 := Lib.hid (new_ (Below.refl w.heap.size w) (.cells #[.int .i64 k, .string ⟨t.toArray⟩] 24))
  have HN := Lib.hid hn
  clear hn
  by_cases h0 : t = []
  · subst h0
    go_enter Try.func15, Try.ntmps15
    go_wp2_with fail
    go_ret2
    exact ⟨_, rfl, fun h => by simp [formM] at h, HB1.out⟩
  · have e0 : (t == []) = false := by simpa using h0
    have H0 := Lib.hid h0
    clear h0
    by_cases h1 : k = 1
    · subst h1
      have HF : Hid (formM (1, t) = true) := Lib.hid (by have := H0.out; simp [formM, this])
      have HW : Hid (writeM (1, t) = dupS t) := Lib.hid rfl
      go_enter Try.func15, Try.ntmps15
      go_wp2_with fail
      obtain ⟨w1, hw1⟩ : ∃ w1, w.alloc (.cells #[.int .i64 1, .string ⟨t.toArray⟩] 24) = w1 := ⟨_, rfl⟩
      have HW1S : Hid (w1.heap.size = w.heap.size + 1) := Lib.hid (by rw [← hw1]; simp)
      rw [hw1] at HB1 c1 ⊢
      clear hw1
      go_region_held3 (fun W' => W'.cell? ⟨w.heap.size, 1, none⟩ = some (.string ⟨t.toArray⟩)) (go_keep) (first | (go_at_call 23; (refine (newrep_any _ w1.drew.heap.size 6 (pairs_new _)).mono ?_; rintro e w3 ⟨R, rfl, hnr, hR, hb3⟩; have HNR := Lib.hid hnr; have HRL := Lib.hid hR; have HB3 := Lib.hid hb3; have HB13 : Hid (Below w1.heap.size w1 w3) := Lib.hid (((Below.refl _ w1).drew.trans (new_ (Below.refl _ w1.drew) _)).trans (hb3.mono (by simp))); have c1' := cellM c1 HB13.out)) | (go_at_call 24; (refine (replace_any _ R t HNR.out hs).mono ?_; rintro e w4 ⟨rfl, hb4⟩; have HB4 := Lib.hid hb4; have c2' := (hb4.cell (p := ⟨w.heap.size, 1, none⟩) (by have h9 := HRL.out; have h8 := HW1S.out; simp at h9; dsimp only; omega)).trans c1')) | fail)
      go_wp2_with fail
      go_ret2
      exact ⟨⟨(dupS t).toArray⟩, (by rw [HF.out]; rfl), fun _ => by rw [HW.out], HB1.out.trans ((HB13.out.mono HB1.out.size).trans (HB4.out.mono (by have h9 := HRL.out; have h8 := HW1S.out; simp at h9; omega)))⟩
    · have e1 : (k == 1) = false := by simpa using h1
      by_cases h2 : k = 2
      · subst h2
        obtain ⟨q, hq⟩ : ∃ q, t.any (· == 96) = q := ⟨_, rfl⟩
        have HF : Hid (formM (2, t) = !q) := Lib.hid (by have h9 := H0.out; unfold formM; dsimp only; rw [if_neg (by decide), if_pos rfl, hq]; simp [h9])
        have HQ := Lib.hid hq
        have hca := catM (rfl : [96] ++ t = 96 :: t) (by simp; omega)
        have hca2 := catM (rfl : (96 :: t) ++ [96] = 96 :: (t ++ [96])) (by simp; omega)
        clear h1 hq
        go_enter Try.func15, Try.ntmps15
        go_wp2_with fail
        obtain ⟨w1, hw1⟩ : ∃ w1, w.alloc (.cells #[.int .i64 2, .string ⟨t.toArray⟩] 24) = w1 := ⟨_, rfl⟩
        rw [hw1] at HB1 c1 ⊢
        clear hw1
        go_region_held3 (fun W' => W'.cell? ⟨w.heap.size, 1, none⟩ = some (.string ⟨t.toArray⟩)) (go_keep) (first | (go_at_call 21; (refine (has96 _ t).mono ?_; rw [HQ.out]; rintro e w3 ⟨rfl, rfl⟩)) | fail)
        go_wp2_with fail
        go_ret2
        exact ⟨⟨(96 :: (t ++ [96])).toArray⟩, (by rw [HF.out]; rfl), fun _ => rfl, HB1.out.drew⟩
      · have e2 : (k == 2) = false := by simpa using h2
        by_cases h3 : k = 3
        · subst h3
          obtain ⟨q, hq⟩ : ∃ q, t.any (fun b => ([32, 9, 13, 10, 12] : List UInt8).contains b) = q := ⟨_, rfl⟩
          have HF : Hid (formM (3, t) = !q) := Lib.hid (by have h9 := H0.out; unfold formM; dsimp only; rw [if_neg (by decide), if_neg (by decide), if_pos rfl, ← hq, any_sp]; simp [h9])
          have HQ := Lib.hid hq
          have hca := catM (rfl : [126, 32] ++ t = 126 :: 32 :: t) (by simp; omega)
          clear h1 h2 hq
          go_enter Try.func15, Try.ntmps15
          go_wp2_with fail
          obtain ⟨w1, hw1⟩ : ∃ w1, w.alloc (.cells #[.int .i64 3, .string ⟨t.toArray⟩] 24) = w1 := ⟨_, rfl⟩
          rw [hw1] at HB1 c1 ⊢
          clear hw1
          go_region_held3 (fun W' => W'.cell? ⟨w.heap.size, 1, none⟩ = some (.string ⟨t.toArray⟩)) (go_keep) (first | (go_at_call 25; (refine (cany_any _ t [32, 9, 13, 10, 12] (by decide) (by decide) (by decide) hs).mono ?_; rw [HQ.out]; rintro e w3 ⟨rfl, hb3⟩; have HB3 : Hid (Below w1.heap.size w1 w3) := Lib.hid ((Below.refl _ w1).drew.trans hb3); have c1' := cellM c1 HB3.out)) | fail)
          go_wp2_with fail
          go_ret2
          exact ⟨⟨(126 :: 32 :: t).toArray⟩, (by rw [HF.out]; rfl), fun _ => rfl, then_ HB1.out HB3.out⟩
        · have e3 : (k == 3) = false := by simpa using h3
          by_cases h4 : k = 4
          · subst h4
            obtain ⟨q, hq⟩ : ∃ q, t.any (fun b => ([91, 93, 32, 9, 13, 10, 12] : List UInt8).contains b) = q := ⟨_, rfl⟩
            have HF : Hid (formM (4, t) = !q) := Lib.hid (by have h9 := H0.out; unfold formM; dsimp only; rw [if_neg (by decide), if_neg (by decide), if_neg (by decide), if_pos rfl, ← hq, cite_any_not]; simp [h9])
            have HQ := Lib.hid hq
            have hca := catM (rfl : [91] ++ t = 91 :: t) (by simp; omega)
            have hca2 := catM (rfl : (91 :: t) ++ [93] = 91 :: (t ++ [93])) (by simp; omega)
            clear h1 h2 h3 hq
            go_enter Try.func15, Try.ntmps15
            go_wp2_with fail
            obtain ⟨w1, hw1⟩ : ∃ w1, w.alloc (.cells #[.int .i64 4, .string ⟨t.toArray⟩] 24) = w1 := ⟨_, rfl⟩
            rw [hw1] at HB1 c1 ⊢
            clear hw1
            go_region_held3 (fun W' => W'.cell? ⟨w.heap.size, 1, none⟩ = some (.string ⟨t.toArray⟩)) (go_keep) (first | (go_at_call 25; (refine (cany_any _ t [91, 93, 32, 9, 13, 10, 12] (by decide) (by decide) (by decide) hs).mono ?_; rw [HQ.out]; rintro e w3 ⟨rfl, hb3⟩; have HB3 : Hid (Below w1.heap.size w1 w3) := Lib.hid ((Below.refl _ w1).drew.trans hb3); have c1' := cellM c1 HB3.out)) | fail)
            go_wp2_with fail
            go_ret2
            exact ⟨⟨(91 :: (t ++ [93])).toArray⟩, (by rw [HF.out]; rfl), fun _ => rfl, then_ HB1.out HB3.out⟩
          · have e4 : (k == 4) = false := by simpa using h4
            have HF : Hid (formM (k, t) = false) := Lib.hid (by unfold formM; dsimp only; rw [if_neg h1, if_neg h2, if_neg h3, if_neg h4, Bool.and_false])
            clear h1 h2 h3 h4
            go_enter Try.func15, Try.ntmps15
            go_wp2_with fail
            go_ret2
            exact ⟨⟨#[]⟩, (by rw [HF.out]; rfl), fun h => (by rw [HF.out] at h; cases h), HB1.out⟩
end Go.Proofs.Ythkeggmloajapaa
