/- Layout: a blank text, by the reference. -/
import Derived.Test.YtpmbfcogkoiogaaDoorWordsPA
import Derived.Test.YtpmbfcogkoiogaaDoorStripA
namespace Go.Proofs.YtpmbfcogkoiogaaDoor
open Go.RowKit
theorem sp_dec (b : UInt8) : sp b = decide (cls b.toNat = 1) := by
  unfold sp
  rw [Bool.eq_iff_iff, beq_iff_eq, decide_eq_true_iff]
theorem head_at {g : List UInt8} (h : 0 < g.length) : headW? g = decide (cls g[0].toNat = 1) := by
  cases g with
  | nil => simp at h
  | cons a r => exact sp_dec a
theorem last_at {g : List UInt8} {n : Nat} (hn : g.length = n + 1) (h : n < g.length) : lastW? g = decide (cls g[n].toNat = 1) := by
  unfold lastW?
  rw [List.getLast?_eq_getElem?, hn, Nat.add_sub_cancel, List.getElem?_eq_getElem h]
  exact sp_dec _
theorem docRight_ref {d : List PartD} {tl : List UInt8} (h : rightP true d = true) : docRight d tl = (blankP tl && (d.isEmpty || tl.isEmpty || headW? tl)) := by
  unfold docRight
  rw [h, Bool.true_and]
  by_cases ht : tl = []
  · subst ht
    rw [show blankP [] = true by unfold blankP; rw [toks_nil]; rfl]
    simp
  · rw [show tl.isEmpty = false by simpa using ht]
    simp
theorem scan_out {s : List UInt8} (h4 : ¬ 40000 < s.length) (hb : ∀ b ∈ s, byteB b = true) : (scanS s).2.2 = if 8000 < (toks 0 s).length then 8 else 0 := by
  have hf : s.findIdx? (fun b => cls b.toNat == 0) = none := by
    rw [List.findIdx?_eq_none_iff]
    intro b h
    have := hb b h
    unfold byteB at this
    simpa using this
  unfold scanS
  rw [if_neg h4, hf]
  dsimp only
  by_cases h8 : 8000 < (toks 0 s).length
  · rw [if_pos h8, List.getElem?_eq_getElem h8]
  · rw [if_neg h8, List.getElem?_eq_none (by omega)]
theorem cat_run {a b c : List UInt8} (h : a ++ b = c) (hl : a.length + b.length ≤ 1000000000) : Op.stringOp .add ⟨a.toArray⟩ ⟨b.toArray⟩ = pure (.string ⟨c.toArray⟩) := by
  have h2 : (ByteArray.mk a.toArray ++ ByteArray.mk b.toArray) = ByteArray.mk c.toArray := by rw [← h]; exact bytes_append a b
  have h3 : (ByteArray.mk a.toArray).size = a.length := by simp [ByteArray.size]
  have h4 : (ByteArray.mk b.toArray).size = b.length := by simp [ByteArray.size]
  unfold Op.stringOp
  have e : ¬ ((((ByteArray.mk a.toArray).size + (ByteArray.mk b.toArray).size : Nat) : Int) > IntKind.i64.max) := by
    have : IntKind.i64.max = 9223372036854775807 := rfl
    rw [h3, h4]
    omega
  simp only [if_neg e, h2]
theorem ref_blank (w : World) (s : List UInt8) (hs : s.length ≤ 8000) : Calls Tryd.prog 65 #[.string ⟨s.toArray⟩] w fun e w' => e = .returned (.bool (blankP s)) ∧ Below w.heap.size w w' := by
  have hb := blank_strip (s := s) (by omega) (Nat.le_trans (toks_len s.length s 0 (Nat.le_refl _)) hs)
  rw [hb]
  obtain ⟨⟨L, C, a, z⟩, hR⟩ : ∃ R, stripS s = R := ⟨_, rfl⟩
  have HR := Lib.hid hR
  rw [hR]
  dsimp only
  clear hR hb
  go_enter Tryd.func65, Tryd.ntmps65
  go_wp2_with fail
  refine (ref_strip _ s).mono ?_
  simp only [HR.out]
  rintro e w1 ⟨v1, v2, rfl, hv1, hv2, hb1⟩
  obtain ⟨A1, c1, rfl, -⟩ := hv1.open_
  obtain ⟨A2, c2, rfl, -⟩ := hv2
  have HB := Lib.hid hb1
  clear hv1 hb1
  by_cases hz : z = 0
  · subst hz
    by_cases hl : L = []
    · subst hl
      go_wp2_with fail
      go_ret
      exact ⟨by simp, HB.out⟩
    · have e1 : ((L.length : Int) == 0) = false := by simpa using hl
      have e2 : (L.length == 0) = false := by simpa using hl
      have HL := Lib.hid hl
      clear hl
      go_wp2_with fail
      go_ret
      exact ⟨by simp [HL.out], HB.out⟩
  · have e1 : (z == 0) = false := by simpa using hz
    have HZ := Lib.hid hz
    clear hz
    go_wp2_with fail
    go_ret
    exact ⟨by simp [HZ.out], HB.out⟩
end Go.Proofs.YtpmbfcogkoiogaaDoor
