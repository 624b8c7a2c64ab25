/- strings.ContainsRune of a short ASCII text at any rune. -/
import Derived.Test.YthkeggmloajapaaShelf
import Derived.Test.YthkeggmloajapaaBaseA
import Derived.Laws.Runes
import Derived.Laws.RangeString
import Derived.Deep.QuietTactic
import Derived.BigQuiet
import Derived.WalkMore
import Derived.Deep.LoopGhost
import Derived.Lib.OthersKept
import Derived.Lib.TrimU
namespace Go.Proofs.Ythkeggmloajapaa
open Go.RowKit
theorem indexByte_high (l : List UInt8) (c : UInt8) (h : ∀ b ∈ l, b.toNat < 128) (hc : 128 ≤ c.toNat) : Lib.indexByte l c = -1 := by
  rcases Int.lt_or_le (Lib.indexByte l c) 0 with h0 | h0
  · have := Lib.indexByte_ge l c
    omega
  · obtain ⟨o, ho⟩ : ∃ o : Nat, Lib.indexByte l c = o := ⟨(Lib.indexByte l c).toNat, by omega⟩
    have := h c (List.mem_of_getElem? (Lib.indexByte_some ho).1)
    omega
/-- the byte k of an ASCII text -/
theorem asc_at {T : List UInt8} (h : ∀ b ∈ T, b.toNat < 128) {k : Nat} (hk : k < (ByteArray.mk T.toArray).size) : (ByteArray.mk T.toArray)[k].toNat < 128 := h _ (by
  show T.toArray[k]'hk ∈ T
  simp)
set_option maxRecDepth 100000 in
set_option maxHeartbeats 2000000 in
theorem indexRune_valid (w : World) (T : List UInt8) (r : Int) (hr : 128 ≤ r) (hv : Utf8.valid r = true) (hne : r ≠ 65533) (hT4 : 4 ≤ T.length) (hT9 : T.length ≤ 9) (hasc : ∀ b ∈ T, b.toNat < 128) :
    Calls Try.prog 41 #[.string ⟨T.toArray⟩, .int .i32 r] w fun e w' => e = .returned (.int .i64 (-1)) ∧ Below w.heap.size w w' := by
  obtain ⟨h2, h4, hlast⟩ := encode_facts r hv hr
  obtain ⟨E, hE⟩ : ∃ E, Utf8.encode r = E := ⟨_, rfl⟩
  rw [hE] at h2 h4
  simp only [hE] at hlast
  have e1 : decide (0 ≤ r) = true := decide_eq_true (by omega)
  have e2 : decide (r < 128) = false := decide_eq_false (by omega)
  have e3 : (r == 65533) = false := by simpa using hne
  have hvr : Lib.validRune r = true := by
    simp [Utf8.valid] at hv
    simp [Lib.validRune]
    omega
  clear hv hne
  obtain ⟨n, hn⟩ : ∃ n, E.size = n + 2 := ⟨E.size - 2, by omega⟩
  rcases (show n = 0 ∨ n = 1 ∨ n = 2 by omega) with rfl | rfl | rfl
  · have kT : 1 < (ByteArray.mk T.toArray).size := by show 1 < T.length; omega
    have kE : 1 < E.size := by omega
    obtain ⟨c, hc, hcl⟩ : ∃ c : Nat, (ByteArray.mk T.toArray)[1].toNat = c ∧ c < 128 := ⟨_, rfl, asc_at hasc kT⟩
    obtain ⟨d, hd, hdl⟩ : ∃ d : Nat, E[1].toNat = d ∧ 128 ≤ d ∧ d < 256 := ⟨_, rfl, by have := hlast (by omega); simpa only [hn] using this, E[1].toNat_lt⟩
    have ecd : ((c : Int) != (d : Int)) = true := by simp; omega
    have i0 : (0 : Int) ≤ 1 := by omega
    have i1 : (1 : Int) < (T.length : Int) := by omega
    have i2 : (1 : Int) + 1 ≤ (T.length : Int) := by omega
    obtain ⟨U, hU⟩ : ∃ U, (ByteArray.mk T.toArray).extract 2 (ByteArray.mk T.toArray).size = U := ⟨_, rfl⟩
    have hsl : ∀ wx : World, (Instr.slice 9 (.string ⟨T.toArray⟩) (some (.int .i64 2)) none none).run Try.prog wx = .ok (.string U) wx := fun wx => by
      have h1 := run_slice_string_l (P := Try.prog) wx 9 ⟨T.toArray⟩ Try.underlying9 .i64 2 (by omega) (by show (2 : Int) ≤ (T.length : Nat); omega)
      rw [h1, show ((2 : Int)).toNat = 2 from rfl, hU]
    have hwr : IntKind.i64.wrap ((1 : Int) + 1) = 2 := rfl
    have HIB : Hid (Lib.indexByte U.data.toList ((d : Int)).toNat.toUInt8 = -1) := Lib.hid (indexByte_high _ _ (fun b hb => hasc b (by
      rw [← hU] at hb
      simp at hb
      exact List.mem_of_mem_drop (List.mem_of_mem_take hb))) (by rw [Int.toNat_natCast]; simp; omega))
    clear hlast hasc
    go_enter Try.func41, Try.ntmps41
    go_wp2_with (first | (go_at_call 54; (refine (Try.utf8_ValidRune r _).mono ?_; rw [hvr]; rintro e w2 ⟨rfl, rfl⟩)) | fail)
    clear hvr
    go_step3
    go_wp2_with fail
    go_loop [9] (fun v9 => v9 = .int .i64 1) (fun _ => 0)
    case atStart => exact rfl
    case round =>
      obtain rfl := hrel
      go_wp2_with fail
      go_step3
      go_wp2_with fail
      go_quiet (fail)
      generalize hW9 : w2.drewN _ = w7
      have HD : Hid (Below w2.heap.size w2 w7) := Lib.hid (by rw [← hW9]; exact below_drewN (Below.refl _ _) _)
      clear hW9
      go_wp2_with fail
      go_quiet ((go_at_call 10; exact Calls.quiet_of_same ((Try.strings_IndexByte U _ _).mono fun _ _ h => ⟨by rw [h.1, HIB.out], h.2⟩)))
      go_wp2_with fail
      change bodyPost Try.prog Try.f41 (fun e w' => e = Ending.returned (Value.int IntKind.i64 (-1)) ∧ Below w2.heap.size w2 w') .ret _ _
      go_ret
      exact ⟨rfl, below_drewN HD.out _⟩
  · have kT : 2 < (ByteArray.mk T.toArray).size := by show 2 < T.length; omega
    have kE : 2 < E.size := by omega
    obtain ⟨c, hc, hcl⟩ : ∃ c : Nat, (ByteArray.mk T.toArray)[2].toNat = c ∧ c < 128 := ⟨_, rfl, asc_at hasc kT⟩
    obtain ⟨d, hd, hdl⟩ : ∃ d : Nat, E[2].toNat = d ∧ 128 ≤ d ∧ d < 256 := ⟨_, rfl, by have := hlast (by omega); simpa only [hn] using this, E[2].toNat_lt⟩
    have ecd : ((c : Int) != (d : Int)) = true := by simp; omega
    have i0 : (0 : Int) ≤ 2 := by omega
    have i1 : (2 : Int) < (T.length : Int) := by omega
    have i2 : (2 : Int) + 1 ≤ (T.length : Int) := by omega
    obtain ⟨U, hU⟩ : ∃ U, (ByteArray.mk T.toArray).extract 3 (ByteArray.mk T.toArray).size = U := ⟨_, rfl⟩
    have hsl : ∀ wx : World, (Instr.slice 9 (.string ⟨T.toArray⟩) (some (.int .i64 3)) none none).run Try.prog wx = .ok (.string U) wx := fun wx => by
      have h1 := run_slice_string_l (P := Try.prog) wx 9 ⟨T.toArray⟩ Try.underlying9 .i64 3 (by omega) (by show (3 : Int) ≤ (T.length : Nat); omega)
      rw [h1, show ((3 : Int)).toNat = 3 from rfl, hU]
    have hwr : IntKind.i64.wrap ((2 : Int) + 1) = 3 := rfl
    have HIB : Hid (Lib.indexByte U.data.toList ((d : Int)).toNat.toUInt8 = -1) := Lib.hid (indexByte_high _ _ (fun b hb => hasc b (by
      rw [← hU] at hb
      simp at hb
      exact List.mem_of_mem_drop (List.mem_of_mem_take hb))) (by rw [Int.toNat_natCast]; simp; omega))
    clear hlast hasc
    go_enter Try.func41, Try.ntmps41
    go_wp2_with (first | (go_at_call 54; (refine (Try.utf8_ValidRune r _).mono ?_; rw [hvr]; rintro e w2 ⟨rfl, rfl⟩)) | fail)
    clear hvr
    go_step3
    go_wp2_with fail
    go_loop [9] (fun v9 => v9 = .int .i64 2) (fun _ => 0)
    case atStart => exact rfl
    case round =>
      obtain rfl := hrel
      go_wp2_with fail
      go_step3
      go_wp2_with fail
      go_quiet (fail)
      generalize hW9 : w2.drewN _ = w7
      have HD : Hid (Below w2.heap.size w2 w7) := Lib.hid (by rw [← hW9]; exact below_drewN (Below.refl _ _) _)
      clear hW9
      go_wp2_with fail
      go_quiet ((go_at_call 10; exact Calls.quiet_of_same ((Try.strings_IndexByte U _ _).mono fun _ _ h => ⟨by rw [h.1, HIB.out], h.2⟩)))
      go_wp2_with fail
      change bodyPost Try.prog Try.f41 (fun e w' => e = Ending.returned (Value.int IntKind.i64 (-1)) ∧ Below w2.heap.size w2 w') .ret _ _
      go_ret
      exact ⟨rfl, below_drewN HD.out _⟩
  · have kT : 3 < (ByteArray.mk T.toArray).size := by show 3 < T.length; omega
    have kE : 3 < E.size := by omega
    obtain ⟨c, hc, hcl⟩ : ∃ c : Nat, (ByteArray.mk T.toArray)[3].toNat = c ∧ c < 128 := ⟨_, rfl, asc_at hasc kT⟩
    obtain ⟨d, hd, hdl⟩ : ∃ d : Nat, E[3].toNat = d ∧ 128 ≤ d ∧ d < 256 := ⟨_, rfl, by have := hlast (by omega); simpa only [hn] using this, E[3].toNat_lt⟩
    have ecd : ((c : Int) != (d : Int)) = true := by simp; omega
    have i0 : (0 : Int) ≤ 3 := by omega
    have i1 : (3 : Int) < (T.length : Int) := by omega
    have i2 : (3 : Int) + 1 ≤ (T.length : Int) := by omega
    obtain ⟨U, hU⟩ : ∃ U, (ByteArray.mk T.toArray).extract 4 (ByteArray.mk T.toArray).size = U := ⟨_, rfl⟩
    have hsl : ∀ wx : World, (Instr.slice 9 (.string ⟨T.toArray⟩) (some (.int .i64 4)) none none).run Try.prog wx = .ok (.string U) wx := fun wx => by
      have h1 := run_slice_string_l (P := Try.prog) wx 9 ⟨T.toArray⟩ Try.underlying9 .i64 4 (by omega) (by show (4 : Int) ≤ (T.length : Nat); omega)
      rw [h1, show ((4 : Int)).toNat = 4 from rfl, hU]
    have hwr : IntKind.i64.wrap ((3 : Int) + 1) = 4 := rfl
    have HIB : Hid (Lib.indexByte U.data.toList ((d : Int)).toNat.toUInt8 = -1) := Lib.hid (indexByte_high _ _ (fun b hb => hasc b (by
      rw [← hU] at hb
      simp at hb
      exact List.mem_of_mem_drop (List.mem_of_mem_take hb))) (by rw [Int.toNat_natCast]; simp; omega))
    clear hlast hasc
    go_enter Try.func41, Try.ntmps41
    go_wp2_with (first | (go_at_call 54; (refine (Try.utf8_ValidRune r _).mono ?_; rw [hvr]; rintro e w2 ⟨rfl, rfl⟩)) | fail)
    clear hvr
    go_step3
    go_wp2_with fail
    go_loop [9] (fun v9 => v9 = .int .i64 3) (fun _ => 0)
    case atStart => exact rfl
    case round =>
      obtain rfl := hrel
      go_wp2_with fail
      go_step3
      go_wp2_with fail
      go_quiet (fail)
      generalize hW9 : w2.drewN _ = w7
      have HD : Hid (Below w2.heap.size w2 w7) := Lib.hid (by rw [← hW9]; exact below_drewN (Below.refl _ _) _)
      clear hW9
      go_wp2_with fail
      go_quiet ((go_at_call 10; exact Calls.quiet_of_same ((Try.strings_IndexByte U _ _).mono fun _ _ h => ⟨by rw [h.1, HIB.out], h.2⟩)))
      go_wp2_with fail
      change bodyPost Try.prog Try.f41 (fun e w' => e = Ending.returned (Value.int IntKind.i64 (-1)) ∧ Below w2.heap.size w2 w') .ret _ _
      go_ret
      exact ⟨rfl, below_drewN HD.out _⟩
set_option maxRecDepth 100000 in
theorem indexRune_invalid (w : World) (T : List UInt8) (r : Int) (hr : 128 ≤ r) (hv : Utf8.valid r = false) (hne : r ≠ 65533) :
    Calls Try.prog 41 #[.string ⟨T.toArray⟩, .int .i32 r] w fun e w' => e = .returned (.int .i64 (-1)) ∧ Below w.heap.size w w' := by
  have e1 : decide (0 ≤ r) = true := decide_eq_true (by omega)
  have e2 : decide (r < 128) = false := decide_eq_false (by omega)
  have e3 : (r == 65533) = false := by simpa using hne
  have hvr : Lib.validRune r = false := by
    simp [Utf8.valid] at hv
    simp [Lib.validRune]
    omega
  clear hv hne
  go_enter Try.func41, Try.ntmps41
  go_wp2_with (go_at_call 54; (refine (Try.utf8_ValidRune r _).mono ?_; rw [hvr]; rintro e w2 ⟨rfl, rfl⟩))
  go_ret
  exact ⟨rfl, Below.refl _ _⟩
set_option maxRecDepth 100000 in
set_option maxHeartbeats 2000000 in
theorem indexRune_bad (w : World) (T : List UInt8) (hasc : ∀ b ∈ T, b.toNat < 128) :
    Calls Try.prog 41 #[.string ⟨T.toArray⟩, .int .i32 65533] w fun e w' => e = .returned (.int .i64 (-1)) ∧ Below w.heap.size w w' := by
  have HASC := Lib.hid hasc
  clear hasc
  go_enter Try.func41, Try.ntmps41
  go_wp2
  go_loopg [] T.length (fun gf wx => ∃ pos : Nat, wx.heap[w.heap.size]? = some (.stringIter ⟨T.toArray⟩ pos) ∧ Below w.heap.size w wx ∧ T.length ≤ pos + gf)
  case atStart => exact ⟨0, World.iter_heap w _ 0, (Below.refl _ w).alloc (Nat.le_refl _) _, by omega⟩
  case round =>
    obtain ⟨pos, hit, hbw, hfu⟩ := hrel
    by_cases hps : pos < (ByteArray.mk T.toArray).size
    · have hps' : pos < T.length := hps
      obtain ⟨g', rfl⟩ : ∃ g', gk = g' + 1 := ⟨gk - 1, by omega⟩
      have hnx : ∀ ty, (Instr.next (.pointer (some ⟨w.heap.size, 0, none⟩)) true ty).run Try.prog wr = _ := fun ty => Lib.run_next_any_at wr w.heap.size ⟨T.toArray⟩ pos ty hit hps
      have hde := decode_ascii ⟨T.toArray⟩ pos hps (asc_at HASC.out hps)
      have hlt := asc_at HASC.out hps
      obtain ⟨R, hR⟩ : ∃ R, (Utf8.decode ⟨T.toArray⟩ pos).1 = R := ⟨_, rfl⟩
      obtain ⟨K, hK⟩ : ∃ K, (Utf8.decode ⟨T.toArray⟩ pos).2 = K := ⟨_, rfl⟩
      have hR2 : R < 128 := by rw [← hR, hde]; exact hlt
      have hK1 : K = 1 := by rw [← hK, hde]
      subst hK1
      rw [hR, hK] at hnx
      have hit2 := Lib.iterAt_heap wr w.heap.size ⟨T.toArray⟩ pos (pos + 1) hit
      have hbw2 := Lib.below_iterAt hbw (k := w.heap.size) (Nat.le_refl _) ⟨T.toArray⟩ (pos + 1)
      obtain ⟨W, hWd⟩ : ∃ W, wr.iterAt w.heap.size ⟨T.toArray⟩ (pos + 1) = W := ⟨_, rfl⟩
      rw [hWd] at hnx hit2 hbw2
      have eR : ((R : Int) == 65533) = false := by rw [beq_eq_false_iff_ne]; omega
      clear hde hlt hR hK hWd
      go_wp2
      go_roundg g'
      case measure => omega
      case rel => exact ⟨pos + 1, hit2, hbw2, by omega⟩
    · have hnx : ∀ ty, (Instr.next (.pointer (some ⟨w.heap.size, 0, none⟩)) true ty).run Try.prog wr = _ := fun ty => Lib.run_next_end_at wr w.heap.size ⟨T.toArray⟩ pos ty hit hps
      go_wp2
      go_ret
      exact ⟨rfl, hbw⟩
/-- a rune is one of the bytes of a text -/
def hasR (T : List UInt8) (r : Nat) : Bool := decide (r < 128 ∧ UInt8.ofNat r ∈ T)
theorem indexByte_dec (l : List UInt8) (c : UInt8) : decide (0 ≤ Lib.indexByte l c) = decide (c ∈ l) := by
  rw [decide_eq_decide]
  constructor
  · intro h
    obtain ⟨o, ho⟩ : ∃ o : Nat, Lib.indexByte l c = o := ⟨(Lib.indexByte l c).toNat, by omega⟩
    exact List.mem_of_getElem? (Lib.indexByte_some ho).1
  · intro h
    rcases Int.lt_or_le (Lib.indexByte l c) 0 with h0 | h0
    · have h1 : Lib.indexByte l c = -1 := by have := Lib.indexByte_ge l c; omega
      obtain ⟨k, hk⟩ := List.getElem?_of_mem h
      exact absurd hk (Lib.indexByte_none h1 k)
    · exact h0
theorem indexRune_high (w : World) (T : List UInt8) (r : Nat) (hr : 128 ≤ r) (hT4 : 4 ≤ T.length) (hT9 : T.length ≤ 9) (hasc : ∀ b ∈ T, b.toNat < 128) :
    Calls Try.prog 41 #[.string ⟨T.toArray⟩, .int .i32 (r : Int)] w fun e w' => e = .returned (.int .i64 (-1)) ∧ Below w.heap.size w w' := by
  by_cases h1 : (r : Int) = 65533
  · rw [h1]
    exact indexRune_bad w T hasc
  · cases h2 : Utf8.valid (r : Int) with
    | true => exact indexRune_valid w T r (by omega) h2 h1 hT4 hT9 hasc
    | false => exact indexRune_invalid w T r (by omega) h2 h1
end Go.Proofs.Ythkeggmloajapaa
