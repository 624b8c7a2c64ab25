/- strings.ContainsRune of a short ASCII text at any rune. The program's statements: the table of forms, the kind of a keyword. The program's statements: whether a word can stand in a proof; keywords; symbols. The program's statements: keywords, symbols. -/
import Derived.Test.YtpmbfcogkoiogaaDoorLayRefA
import Derived.Test.YtpmbfcogkoiogaaDoorShelf
import Derived.Test.YtpmbfcogkoiogaaDoorBaseA
import Derived.Laws.Runes
import Derived.Laws.RangeString
import Derived.Deep.QuietTactic
import Derived.BigQuiet
import Derived.WalkMore
import Derived.Deep.LoopGhost
import Derived.Lib.OthersKept
import Derived.Lib.TrimU
import Derived.Test.YtpmbfcogkoiogaaDoorTokA
import Derived.Laws.RangeAny
import Derived.Shelf.Strings.FuncGrows
import Derived.Lib.SlBytesConst
import Derived.Laws.IdiomStrings
section
namespace Go.Proofs.YtpmbfcogkoiogaaDoor
open Go.RowKit
theorem indexByte_high (l : List UInt8) (c : UInt8) (h : ∀ b ∈ l, b.toNat < 128) (hc : 128 ≤ c.toNat) : Lib.indexByte l c = -1 := by
  rcases Int.lt_or_le (Lib.indexByte l c) 0 with h0 | h0
  · have := Lib.indexByte_ge l c
    omega
  · obtain ⟨o, ho⟩ : ∃ o : Nat, Lib.indexByte l c = o := ⟨(Lib.indexByte l c).toNat, by omega⟩
    have := h c (List.mem_of_getElem? (Lib.indexByte_some ho).1)
    omega
/-- the byte k of an ASCII text -/
theorem asc_at {T : List UInt8} (h : ∀ b ∈ T, b.toNat < 128) {k : Nat} (hk : k < (ByteArray.mk T.toArray).size) : (ByteArray.mk T.toArray)[k].toNat < 128 := h _ (by
  show T.toArray[k]'hk ∈ T
  simp)
set_option maxRecDepth 100000 in
set_option maxHeartbeats 2000000 in
theorem indexRune_valid (w : World) (T : List UInt8) (r : Int) (hr : 128 ≤ r) (hv : Utf8.valid r = true) (hne : r ≠ 65533) (hT4 : 4 ≤ T.length) (hT9 : T.length ≤ 9) (hasc : ∀ b ∈ T, b.toNat < 128) :
    Calls Tryd.prog 131 #[.string ⟨T.toArray⟩, .int .i32 r] w fun e w' => e = .returned (.int .i64 (-1)) ∧ Below w.heap.size w w' := by
  obtain ⟨h2, h4, hlast⟩ := encode_facts r hv hr
  obtain ⟨E, hE⟩ : ∃ E, Utf8.encode r = E := ⟨_, rfl⟩
  rw [hE] at h2 h4
  simp only [hE] at hlast
  have e1 : decide (0 ≤ r) = true := decide_eq_true (by omega)
  have e2 : decide (r < 128) = false := decide_eq_false (by omega)
  have e3 : (r == 65533) = false := by simpa using hne
  have hvr : Lib.validRune r = true := by
    simp [Utf8.valid] at hv
    simp [Lib.validRune]
    omega
  clear hv hne
  obtain ⟨n, hn⟩ : ∃ n, E.size = n + 2 := ⟨E.size - 2, by omega⟩
  rcases (show n = 0 ∨ n = 1 ∨ n = 2 by omega) with rfl | rfl | rfl
  · have kT : 1 < (ByteArray.mk T.toArray).size := by show 1 < T.length; omega
    have kE : 1 < E.size := by omega
    obtain ⟨c, hc, hcl⟩ : ∃ c : Nat, (ByteArray.mk T.toArray)[1].toNat = c ∧ c < 128 := ⟨_, rfl, asc_at hasc kT⟩
    obtain ⟨d, hd, hdl⟩ : ∃ d : Nat, E[1].toNat = d ∧ 128 ≤ d ∧ d < 256 := ⟨_, rfl, by have := hlast (by omega); simpa only [hn] using this, E[1].toNat_lt⟩
    have ecd : ((c : Int) != (d : Int)) = true := by simp; omega
    have i0 : (0 : Int) ≤ 1 := by omega
    have i1 : (1 : Int) < (T.length : Int) := by omega
    have i2 : (1 : Int) + 1 ≤ (T.length : Int) := by omega
    obtain ⟨U, hU⟩ : ∃ U, (ByteArray.mk T.toArray).extract 2 (ByteArray.mk T.toArray).size = U := ⟨_, rfl⟩
    have hsl : ∀ wx : World, (Instr.slice 9 (.string ⟨T.toArray⟩) (some (.int .i64 2)) none none).run Tryd.prog wx = .ok (.string U) wx := fun wx => by
      have h1 := run_slice_string_l (P := Tryd.prog) wx 9 ⟨T.toArray⟩ Tryd.underlying9 .i64 2 (by omega) (by show (2 : Int) ≤ (T.length : Nat); omega)
      rw [h1, show ((2 : Int)).toNat = 2 from rfl, hU]
    have hwr : IntKind.i64.wrap ((1 : Int) + 1) = 2 := rfl
    have HIB : Hid (Lib.indexByte U.data.toList ((d : Int)).toNat.toUInt8 = -1) := Lib.hid (indexByte_high _ _ (fun b hb => hasc b (by
      rw [← hU] at hb
      simp at hb
      exact List.mem_of_mem_drop (List.mem_of_mem_take hb))) (by rw [Int.toNat_natCast]; simp; omega))
    clear hlast hasc
    go_enter Tryd.func131, Tryd.ntmps131
    go_wp2_with (first | (go_at_call 139; (refine (Tryd.utf8_ValidRune r _).mono ?_; rw [hvr]; rintro e w2 ⟨rfl, rfl⟩)) | fail)
    clear hvr
    go_step3
    go_wp2_with fail
    go_loop [9] (fun v9 => v9 = .int .i64 1) (fun _ => 0)
    case atStart => exact rfl
    case round =>
      obtain rfl := hrel
      go_wp2_with fail
      go_step3
      go_wp2_with fail
      go_quiet (fail)
      generalize hW9 : w2.drewN _ = w7
      have HD : Hid (Below w2.heap.size w2 w7) := Lib.hid (by rw [← hW9]; exact below_drewN (Below.refl _ _) _)
      clear hW9
      go_wp2_with fail
      go_quiet ((go_at_call 55; exact Calls.quiet_of_same ((Tryd.strings_IndexByte U _ _).mono fun _ _ h => ⟨by rw [h.1, HIB.out], h.2⟩)))
      go_wp2_with fail
      change bodyPost Tryd.prog Tryd.f131 (fun e w' => e = Ending.returned (Value.int IntKind.i64 (-1)) ∧ Below w2.heap.size w2 w') .ret _ _
      go_ret
      exact ⟨rfl, below_drewN HD.out _⟩
  · have kT : 2 < (ByteArray.mk T.toArray).size := by show 2 < T.length; omega
    have kE : 2 < E.size := by omega
    obtain ⟨c, hc, hcl⟩ : ∃ c : Nat, (ByteArray.mk T.toArray)[2].toNat = c ∧ c < 128 := ⟨_, rfl, asc_at hasc kT⟩
    obtain ⟨d, hd, hdl⟩ : ∃ d : Nat, E[2].toNat = d ∧ 128 ≤ d ∧ d < 256 := ⟨_, rfl, by have := hlast (by omega); simpa only [hn] using this, E[2].toNat_lt⟩
    have ecd : ((c : Int) != (d : Int)) = true := by simp; omega
    have i0 : (0 : Int) ≤ 2 := by omega
    have i1 : (2 : Int) < (T.length : Int) := by omega
    have i2 : (2 : Int) + 1 ≤ (T.length : Int) := by omega
    obtain ⟨U, hU⟩ : ∃ U, (ByteArray.mk T.toArray).extract 3 (ByteArray.mk T.toArray).size = U := ⟨_, rfl⟩
    have hsl : ∀ wx : World, (Instr.slice 9 (.string ⟨T.toArray⟩) (some (.int .i64 3)) none none).run Tryd.prog wx = .ok (.string U) wx := fun wx => by
      have h1 := run_slice_string_l (P := Tryd.prog) wx 9 ⟨T.toArray⟩ Tryd.underlying9 .i64 3 (by omega) (by show (3 : Int) ≤ (T.length : Nat); omega)
      rw [h1, show ((3 : Int)).toNat = 3 from rfl, hU]
    have hwr : IntKind.i64.wrap ((2 : Int) + 1) = 3 := rfl
    have HIB : Hid (Lib.indexByte U.data.toList ((d : Int)).toNat.toUInt8 = -1) := Lib.hid (indexByte_high _ _ (fun b hb => hasc b (by
      rw [← hU] at hb
      simp at hb
      exact List.mem_of_mem_drop (List.mem_of_mem_take hb))) (by rw [Int.toNat_natCast]; simp; omega))
    clear hlast hasc
    go_enter Tryd.func131, Tryd.ntmps131
    go_wp2_with (first | (go_at_call 139; (refine (Tryd.utf8_ValidRune r _).mono ?_; rw [hvr]; rintro e w2 ⟨rfl, rfl⟩)) | fail)
    clear hvr
    go_step3
    go_wp2_with fail
    go_loop [9] (fun v9 => v9 = .int .i64 2) (fun _ => 0)
    case atStart => exact rfl
    case round =>
      obtain rfl := hrel
      go_wp2_with fail
      go_step3
      go_wp2_with fail
      go_quiet (fail)
      generalize hW9 : w2.drewN _ = w7
      have HD : Hid (Below w2.heap.size w2 w7) := Lib.hid (by rw [← hW9]; exact below_drewN (Below.refl _ _) _)
      clear hW9
      go_wp2_with fail
      go_quiet ((go_at_call 55; exact Calls.quiet_of_same ((Tryd.strings_IndexByte U _ _).mono fun _ _ h => ⟨by rw [h.1, HIB.out], h.2⟩)))
      go_wp2_with fail
      change bodyPost Tryd.prog Tryd.f131 (fun e w' => e = Ending.returned (Value.int IntKind.i64 (-1)) ∧ Below w2.heap.size w2 w') .ret _ _
      go_ret
      exact ⟨rfl, below_drewN HD.out _⟩
  · have kT : 3 < (ByteArray.mk T.toArray).size := by show 3 < T.length; omega
    have kE : 3 < E.size := by omega
    obtain ⟨c, hc, hcl⟩ : ∃ c : Nat, (ByteArray.mk T.toArray)[3].toNat = c ∧ c < 128 := ⟨_, rfl, asc_at hasc kT⟩
    obtain ⟨d, hd, hdl⟩ : ∃ d : Nat, E[3].toNat = d ∧ 128 ≤ d ∧ d < 256 := ⟨_, rfl, by have := hlast (by omega); simpa only [hn] using this, E[3].toNat_lt⟩
    have ecd : ((c : Int) != (d : Int)) = true := by simp; omega
    have i0 : (0 : Int) ≤ 3 := by omega
    have i1 : (3 : Int) < (T.length : Int) := by omega
    have i2 : (3 : Int) + 1 ≤ (T.length : Int) := by omega
    obtain ⟨U, hU⟩ : ∃ U, (ByteArray.mk T.toArray).extract 4 (ByteArray.mk T.toArray).size = U := ⟨_, rfl⟩
    have hsl : ∀ wx : World, (Instr.slice 9 (.string ⟨T.toArray⟩) (some (.int .i64 4)) none none).run Tryd.prog wx = .ok (.string U) wx := fun wx => by
      have h1 := run_slice_string_l (P := Tryd.prog) wx 9 ⟨T.toArray⟩ Tryd.underlying9 .i64 4 (by omega) (by show (4 : Int) ≤ (T.length : Nat); omega)
      rw [h1, show ((4 : Int)).toNat = 4 from rfl, hU]
    have hwr : IntKind.i64.wrap ((3 : Int) + 1) = 4 := rfl
    have HIB : Hid (Lib.indexByte U.data.toList ((d : Int)).toNat.toUInt8 = -1) := Lib.hid (indexByte_high _ _ (fun b hb => hasc b (by
      rw [← hU] at hb
      simp at hb
      exact List.mem_of_mem_drop (List.mem_of_mem_take hb))) (by rw [Int.toNat_natCast]; simp; omega))
    clear hlast hasc
    go_enter Tryd.func131, Tryd.ntmps131
    go_wp2_with (first | (go_at_call 139; (refine (Tryd.utf8_ValidRune r _).mono ?_; rw [hvr]; rintro e w2 ⟨rfl, rfl⟩)) | fail)
    clear hvr
    go_step3
    go_wp2_with fail
    go_loop [9] (fun v9 => v9 = .int .i64 3) (fun _ => 0)
    case atStart => exact rfl
    case round =>
      obtain rfl := hrel
      go_wp2_with fail
      go_step3
      go_wp2_with fail
      go_quiet (fail)
      generalize hW9 : w2.drewN _ = w7
      have HD : Hid (Below w2.heap.size w2 w7) := Lib.hid (by rw [← hW9]; exact below_drewN (Below.refl _ _) _)
      clear hW9
      go_wp2_with fail
      go_quiet ((go_at_call 55; exact Calls.quiet_of_same ((Tryd.strings_IndexByte U _ _).mono fun _ _ h => ⟨by rw [h.1, HIB.out], h.2⟩)))
      go_wp2_with fail
      change bodyPost Tryd.prog Tryd.f131 (fun e w' => e = Ending.returned (Value.int IntKind.i64 (-1)) ∧ Below w2.heap.size w2 w') .ret _ _
      go_ret
      exact ⟨rfl, below_drewN HD.out _⟩
set_option maxRecDepth 100000 in
theorem indexRune_invalid (w : World) (T : List UInt8) (r : Int) (hr : 128 ≤ r) (hv : Utf8.valid r = false) (hne : r ≠ 65533) :
    Calls Tryd.prog 131 #[.string ⟨T.toArray⟩, .int .i32 r] w fun e w' => e = .returned (.int .i64 (-1)) ∧ Below w.heap.size w w' := by
  have e1 : decide (0 ≤ r) = true := decide_eq_true (by omega)
  have e2 : decide (r < 128) = false := decide_eq_false (by omega)
  have e3 : (r == 65533) = false := by simpa using hne
  have hvr : Lib.validRune r = false := by
    simp [Utf8.valid] at hv
    simp [Lib.validRune]
    omega
  clear hv hne
  go_enter Tryd.func131, Tryd.ntmps131
  go_wp2_with (go_at_call 139; (refine (Tryd.utf8_ValidRune r _).mono ?_; rw [hvr]; rintro e w2 ⟨rfl, rfl⟩))
  go_ret
  exact ⟨rfl, Below.refl _ _⟩
set_option maxRecDepth 100000 in
set_option maxHeartbeats 2000000 in
theorem indexRune_bad (w : World) (T : List UInt8) (hasc : ∀ b ∈ T, b.toNat < 128) :
    Calls Tryd.prog 131 #[.string ⟨T.toArray⟩, .int .i32 65533] w fun e w' => e = .returned (.int .i64 (-1)) ∧ Below w.heap.size w w' := by
  have HASC := Lib.hid hasc
  clear hasc
  go_enter Tryd.func131, Tryd.ntmps131
  go_wp2
  go_loopg [] T.length (fun gf wx => ∃ pos : Nat, wx.heap[w.heap.size]? = some (.stringIter ⟨T.toArray⟩ pos) ∧ Below w.heap.size w wx ∧ T.length ≤ pos + gf)
  case atStart => exact ⟨0, World.iter_heap w _ 0, (Below.refl _ w).alloc (Nat.le_refl _) _, by omega⟩
  case round =>
    obtain ⟨pos, hit, hbw, hfu⟩ := hrel
    by_cases hps : pos < (ByteArray.mk T.toArray).size
    · have hps' : pos < T.length := hps
      obtain ⟨g', rfl⟩ : ∃ g', gk = g' + 1 := ⟨gk - 1, by omega⟩
      have hnx : ∀ ty, (Instr.next (.pointer (some ⟨w.heap.size, 0, none⟩)) true ty).run Tryd.prog wr = _ := fun ty => Lib.run_next_any_at wr w.heap.size ⟨T.toArray⟩ pos ty hit hps
      have hde := decode_ascii ⟨T.toArray⟩ pos hps (asc_at HASC.out hps)
      have hlt := asc_at HASC.out hps
      obtain ⟨R, hR⟩ : ∃ R, (Utf8.decode ⟨T.toArray⟩ pos).1 = R := ⟨_, rfl⟩
      obtain ⟨K, hK⟩ : ∃ K, (Utf8.decode ⟨T.toArray⟩ pos).2 = K := ⟨_, rfl⟩
      have hR2 : R < 128 := by rw [← hR, hde]; exact hlt
      have hK1 : K = 1 := by rw [← hK, hde]
      subst hK1
      rw [hR, hK] at hnx
      have hit2 := Lib.iterAt_heap wr w.heap.size ⟨T.toArray⟩ pos (pos + 1) hit
      have hbw2 := Lib.below_iterAt hbw (k := w.heap.size) (Nat.le_refl _) ⟨T.toArray⟩ (pos + 1)
      obtain ⟨W, hWd⟩ : ∃ W, wr.iterAt w.heap.size ⟨T.toArray⟩ (pos + 1) = W := ⟨_, rfl⟩
      rw [hWd] at hnx hit2 hbw2
      have eR : ((R : Int) == 65533) = false := by rw [beq_eq_false_iff_ne]; omega
      clear hde hlt hR hK hWd
      go_wp2
      go_roundg g'
      case measure => omega
      case rel => exact ⟨pos + 1, hit2, hbw2, by omega⟩
    · have hnx : ∀ ty, (Instr.next (.pointer (some ⟨w.heap.size, 0, none⟩)) true ty).run Tryd.prog wr = _ := fun ty => Lib.run_next_end_at wr w.heap.size ⟨T.toArray⟩ pos ty hit hps
      go_wp2
      go_ret
      exact ⟨rfl, hbw⟩
/-- a rune is one of the bytes of a text -/
def hasR (T : List UInt8) (r : Nat) : Bool := decide (r < 128 ∧ UInt8.ofNat r ∈ T)
theorem indexByte_dec (l : List UInt8) (c : UInt8) : decide (0 ≤ Lib.indexByte l c) = decide (c ∈ l) := by
  rw [decide_eq_decide]
  constructor
  · intro h
    obtain ⟨o, ho⟩ : ∃ o : Nat, Lib.indexByte l c = o := ⟨(Lib.indexByte l c).toNat, by omega⟩
    exact List.mem_of_getElem? (Lib.indexByte_some ho).1
  · intro h
    rcases Int.lt_or_le (Lib.indexByte l c) 0 with h0 | h0
    · have h1 : Lib.indexByte l c = -1 := by have := Lib.indexByte_ge l c; omega
      obtain ⟨k, hk⟩ := List.getElem?_of_mem h
      exact absurd hk (Lib.indexByte_none h1 k)
    · exact h0
theorem indexRune_high (w : World) (T : List UInt8) (r : Nat) (hr : 128 ≤ r) (hT4 : 4 ≤ T.length) (hT9 : T.length ≤ 9) (hasc : ∀ b ∈ T, b.toNat < 128) :
    Calls Tryd.prog 131 #[.string ⟨T.toArray⟩, .int .i32 (r : Int)] w fun e w' => e = .returned (.int .i64 (-1)) ∧ Below w.heap.size w w' := by
  by_cases h1 : (r : Int) = 65533
  · rw [h1]
    exact indexRune_bad w T hasc
  · cases h2 : Utf8.valid (r : Int) with
    | true => exact indexRune_valid w T r (by omega) h2 h1 hT4 hT9 hasc
    | false => exact indexRune_invalid w T r (by omega) h2 h1
set_option maxRecDepth 100000 in
/-- strings.ContainsRune of a short ASCII text -/
theorem containsRune_any (w : World) (T : List UInt8) (r : Nat) (hT4 : 4 ≤ T.length) (hT9 : T.length ≤ 9) (hasc : ∀ b ∈ T, b.toNat < 128) :
    Calls Tryd.prog 107 #[.string ⟨T.toArray⟩, .int .i32 (r : Int)] w fun e w' => e = .returned (.bool (hasR T r)) ∧ Below w.heap.size w w' := by
  by_cases h : r < 128
  · refine (Tryd.strings_ContainsRune_ascii ⟨T.toArray⟩ (r : Int) w (by omega) (by omega)).mono ?_
    rintro e w' ⟨rfl, rfl⟩
    refine ⟨?_, Below.refl _ _⟩
    rw [Int.toNat_natCast, show (ByteArray.mk T.toArray).data.toList = T from rfl, indexByte_dec]
    unfold hasR
    rw [show (decide (Nat.toUInt8 r ∈ T)) = decide (r < 128 ∧ UInt8.ofNat r ∈ T) by rw [decide_eq_decide]; exact ⟨fun x => ⟨h, x⟩, fun x => x.2⟩]
  · have HR : Hid (hasR T r = false) := Lib.hid (decide_eq_false fun x => h x.1)
    go_enter Tryd.func107, Tryd.ntmps107
    go_wp2_with (go_at_call 131; (refine (indexRune_high _ T r (by omega) hT4 hT9 hasc).mono ?_; rintro e w2 ⟨rfl, hb2⟩))
    go_ret
    exact ⟨ret_bool HR.out.symm, hb2⟩
end Go.Proofs.YtpmbfcogkoiogaaDoor
end
section
namespace Go.Proofs.YtpmbfcogkoiogaaDoor
open Go.RowKit
def formL (k : Nat) : Nat := if k = 0 then 0 else leastS k
def formM (k : Nat) : Nat := if k = 0 then 0 else mostS k
/-- the forms of all kinds lie as the program's text lays them -/
def FormsAt (w : World) : Prop := ∀ k : Nat, k ≤ 9 → w.cell? ⟨1, k * 4, none⟩ = some (.string ⟨(kwN k).toArray⟩) ∧ w.cell? ⟨1, k * 4 + 1, none⟩ = some (.bool (labS k)) ∧ w.cell? ⟨1, k * 4 + 2, none⟩ = some (.int .i64 (formL k : Nat)) ∧ w.cell? ⟨1, k * 4 + 3, none⟩ = some (.int .i64 (formM k : Nat))
theorem FormsAt.below {w w' : World} (h : FormsAt w) (hb : Below w.heap.size w w') : FormsAt w' := fun k hk => by
  obtain ⟨h0, h1, h2, h3⟩ := h k hk
  exact ⟨(hb.cell (block_lt_of_cell h0)).trans h0, (hb.cell (block_lt_of_cell h1)).trans h1, (hb.cell (block_lt_of_cell h2)).trans h2, (hb.cell (block_lt_of_cell h3)).trans h3⟩
theorem FormsAt.lt {w : World} (h : FormsAt w) : 1 < w.heap.size := block_lt_of_cell (h 0 (by omega)).1
theorem formL_pos {k : Nat} (h : 1 ≤ k) : formL k = leastS k := by unfold formL; rw [if_neg (by omega)]
theorem formM_pos {k : Nat} (h : 1 ≤ k) : formM k = mostS k := by unfold formM; rw [if_neg (by omega)]
/-- the index of the form of a keyword -/
def kindI (s : List UInt8) : Int := if kindS s = 0 then -1 else kindS s
theorem kindI_hit {k : Nat} {s : List UInt8} (h : kwN k = s) (hs : s ≠ []) (hk : k ≤ 9) : kindI s = k := by
  have h1 : 1 ≤ k := by
    rcases Nat.eq_zero_or_pos k with rfl | h0
    · exact absurd h.symm hs
    · exact h0
  have := kind_kw k h1 hk
  rw [show kwOf (k : Int) = kwN k by unfold kwOf; rw [Int.toNat_natCast], h] at this
  unfold kindI
  rw [this, if_neg (by omega)]
theorem kindI_none {s : List UInt8} (h : ∀ j : Nat, j < 10 → ¬ (kwN j = s ∧ s ≠ [])) : kindI s = -1 := by
  unfold kindI
  rw [if_pos (kind_none fun j h1 h9 e => h j (by omega) ⟨by rw [← e]; unfold kwOf; rw [Int.toNat_natCast], by
    rw [← e]
    rcases (show j = 1 ∨ j = 2 ∨ j = 3 ∨ j = 4 ∨ j = 5 ∨ j = 6 ∨ j = 7 ∨ j = 8 ∨ j = 9 by omega) with rfl | rfl | rfl | rfl | rfl | rfl | rfl | rfl | rfl <;> decide⟩)]
theorem kind_clo (w : World) (u s : List UInt8) (lb : Bool) (a b : Int) (g : Nat) (hrow : Row w g 9 #[.string ⟨s.toArray⟩]) :
    Calls Tryd.prog 113 #[.agg #[.string ⟨u.toArray⟩, .bool lb, .int .i64 a, .int .i64 b], .pointer (some ⟨g, 0, none⟩)] w fun e w' => e = .returned (.bool (decide (u = s ∧ s ≠ []))) ∧ Below w.heap.size w w' := by
  have hc := hrow.cell (i := 0) (v := .string ⟨s.toArray⟩) rfl
  have hlt := hrow.lt
  clear hrow
  by_cases hu : u = s
  · subst hu
    have t1 : (u == u) = true := by simp
    by_cases hs : u = []
    · subst hs
      go_enter Tryd.func113, Tryd.ntmps113
      go_wp2
      go_ret
      exact ⟨ret_bool (by simp), new_ (Below.refl _ _) _⟩
    · have e0 : u.isEmpty = false := by simpa using hs
      have e1 : (!u.isEmpty) = true := by rw [e0]; rfl
      have e2 : (u == []) = false := by simpa using hs
      have HS := Lib.hid hs
      clear hs
      go_enter Tryd.func113, Tryd.ntmps113
      go_wp2
      go_ret
      exact ⟨ret_bool (by simp [HS.out]), new_ (Below.refl _ _) _⟩
  · have t1 : (u == s) = false := by simpa using hu
    have HU := Lib.hid hu
    clear hu
    go_enter Tryd.func113, Tryd.ntmps113
    go_wp2
    go_ret
    exact ⟨ret_bool (decide_eq_false fun h => HU.out h.1).symm, new_ (Below.refl _ _) _⟩
set_option maxRecDepth 100000 in
theorem indexForm (w : World) (s : List UInt8) (g : Nat) (hrow : Row w g 9 #[.string ⟨s.toArray⟩]) (hF : FormsAt w) :
    Calls Tryd.prog 112 #[.slice (some ⟨1, 0, none⟩) 10 10, .func (.func 113) #[] #[.pointer (some ⟨g, 0, none⟩)]] w fun e w' => e = .returned (.int .i64 (kindI s)) ∧ Below w.heap.size w w' := by
  have HR := Lib.hid hrow
  have HF := Lib.hid hF
  clear hrow hF
  go_enter Tryd.func112, Tryd.ntmps112
  go_wp2
  go_loopw [8] (fun i wr => ∃ k : Nat, k ≤ 10 ∧ i = .int .i64 k ∧ (∀ j : Nat, j < k → ¬ (kwN j = s ∧ s ≠ [])) ∧ Below w.heap.size w wr) (fun i _ => 10 - (intOf i).toNat)
  case atStart => exact ⟨0, Nat.zero_le _, rfl, fun j h => absurd h (by omega), Below.refl _ _⟩
  case round =>
    obtain ⟨k, hk, rfl, hn, hb⟩ := hrel
    have HN := Lib.hid hn
    have HB := Lib.hid hb
    clear hn hb
    by_cases hlt : k < 10
    · have e1 : decide ((k : Int) < 10) = true := decide_eq_true (by omega)
      obtain ⟨g0, g1, g2, g3⟩ := HF.out.below HB.out k (by omega)
      have hlF := (HF.out.below HB.out).lt
      obtain ⟨lb, hlb⟩ : ∃ b, labS k = b := ⟨_, rfl⟩
      rw [hlb] at g1
      clear hlb
      obtain ⟨u, hu⟩ : ∃ u, kwN k = u := ⟨_, rfl⟩
      rw [hu] at g0
      have HU := Lib.hid hu
      clear hu
      by_cases hc : u = s ∧ s ≠ []
      · have ec : decide (u = s ∧ s ≠ []) = true := decide_eq_true hc
        have HK : Hid (kindI s = k) := Lib.hid (kindI_hit (HU.out.trans hc.1) hc.2 (by omega))
        have HE := Lib.hid ec
        clear hc ec
        go_wp2_with (go_at_call 113; (refine (kind_clo _ u s lb _ _ g (HR.out.below HB.out HR.out.lt)).mono ?_; rw [HE.out]; rintro e w2 ⟨rfl, hb2⟩))
        go_ret
        exact ⟨ret_int HK.out.symm, then_ HB.out hb2⟩
      · have ec : decide (u = s ∧ s ≠ []) = false := decide_eq_false hc
        have HNN : Hid (∀ j : Nat, j < k + 1 → ¬ (kwN j = s ∧ s ≠ [])) := Lib.hid (fun j hj => by
          by_cases hjk : j = k
          · rw [hjk, HU.out]; exact hc
          · exact HN.out j (by omega))
        have HE := Lib.hid ec
        clear hc ec
        go_wp2_with (go_at_call 113; (refine (kind_clo _ u s lb _ _ g (HR.out.below HB.out HR.out.lt)).mono ?_; rw [HE.out]; rintro e w2 ⟨rfl, hb2⟩))
        go_roundw
        case rel => exact ⟨k + 1, by omega, by go_num, HNN.out, then_ HB.out hb2⟩
        case measure => simp [intOf]; omega
    · obtain rfl : k = 10 := by omega
      have HK : Hid (kindI s = -1) := Lib.hid (kindI_none HN.out)
      go_wp2
      go_ret
      exact ⟨ret_int HK.out.symm, HB.out⟩
theorem arrForm : Tryd.prog.arrayLen 127 = 10 := by kernel_rfl
set_option maxRecDepth 100000 in
theorem kindOf_any (w : World) (s : List UInt8) (hF : FormsAt w) :
    Calls Tryd.prog 74 #[.string ⟨s.toArray⟩] w fun e w' => e = .returned (.int .i64 (kindS s : Nat)) ∧ Below w.heap.size w w' := by
  have HF := Lib.hid hF
  have hl := hF.lt
  have hc0 := (hF 0 (by omega)).1
  have ha := arrForm
  clear hF
  obtain ⟨k, hk⟩ : ∃ k, kindS s = k := ⟨_, rfl⟩
  have HI : Hid (kindI s = if k = 0 then -1 else (k : Int)) := Lib.hid (by unfold kindI; rw [hk])
  rw [hk]
  clear hk
  by_cases h0 : k = 0
  · subst h0
    go_enter Tryd.func74, Tryd.ntmps74
    go_wp2_with (go_at_call 112; (refine (indexForm _ s w.heap.size (Row.new _ _ _) (HF.out.below (new_ (Below.refl _ _) _))).mono ?_; rw [HI.out, if_pos rfl]; rintro e w2 ⟨rfl, hb2⟩))
    go_ret
    exact ⟨rfl, then_ (new_ (Below.refl _ _) _) hb2⟩
  · have HI2 : Hid (kindI s = (k : Int)) := Lib.hid (HI.out.trans (if_neg h0))
    have k1 : (0 : Int) ≤ (k : Int) := by omega
    have k2 : (0 : Int) < (k : Int) := by omega
    have k3 : 0 < k := by omega
    clear HI h0
    go_enter Tryd.func74, Tryd.ntmps74
    go_wp2_with (go_at_call 112; (refine (indexForm _ s w.heap.size (Row.new _ _ _) (HF.out.below (new_ (Below.refl _ _) _))).mono ?_; rw [HI2.out]; rintro e w2 ⟨rfl, hb2⟩))
    go_ret
    exact ⟨rfl, then_ (new_ (Below.refl _ _) _) hb2⟩
end Go.Proofs.YtpmbfcogkoiogaaDoor
end
section
namespace Go.Proofs.YtpmbfcogkoiogaaDoor
open Go.RowKit
/-- a rune that can stand in a proof -/
def prfR (r : Nat) : Bool := decide (97 ≤ r ∧ r ≤ 122) || decide (65 ≤ r ∧ r ≤ 90) || decide (48 ≤ r ∧ r ≤ 57) || hasR [45, 95, 46, 63] r
set_option maxRecDepth 100000 in
theorem prf_clo (w : World) (r : Nat) : Calls Tryd.prog 119 #[.int .i32 (r : Int)] w fun e w' => e = .returned (.bool (!prfR r)) ∧ Below w.heap.size w w' := by
  obtain ⟨b1, h1⟩ : ∃ b, decide ((97 : Int) ≤ (r : Int)) = b := ⟨_, rfl⟩
  obtain ⟨b2, h2⟩ : ∃ b, decide ((r : Int) ≤ 122) = b := ⟨_, rfl⟩
  obtain ⟨b3, h3⟩ : ∃ b, decide ((65 : Int) ≤ (r : Int)) = b := ⟨_, rfl⟩
  obtain ⟨b4, h4⟩ : ∃ b, decide ((r : Int) ≤ 90) = b := ⟨_, rfl⟩
  obtain ⟨b5, h5⟩ : ∃ b, decide ((48 : Int) ≤ (r : Int)) = b := ⟨_, rfl⟩
  obtain ⟨b6, h6⟩ : ∃ b, decide ((r : Int) ≤ 57) = b := ⟨_, rfl⟩
  obtain ⟨b7, h7⟩ : ∃ b, hasR [45, 95, 46, 63] r = b := ⟨_, rfl⟩
  have HR : Hid ((!prfR r) = !((b1 && b2) || (b3 && b4) || (b5 && b6) || b7)) := Lib.hid (by
    unfold prfR
    rw [← h1, ← h2, ← h3, ← h4, ← h5, ← h6, ← h7, ← Bool.decide_and, ← Bool.decide_and, ← Bool.decide_and]
    congr 1
    congr 1
    congr 1
    · congr 1 <;> rw [decide_eq_decide] <;> omega
    · rw [decide_eq_decide]; omega)
  have H7 := Lib.hid h7
  clear h7
  rw [HR.out]
  cases b1 <;> cases b2 <;> cases b3 <;> cases b4 <;> cases b5 <;> cases b6 <;> cases b7
  all_goals
    first
    | (exfalso; simp only [decide_eq_true_eq, decide_eq_false_iff_not] at h1 h2 h3 h4 h5 h6; omega)
    | (go_enter Tryd.func119, Tryd.ntmps119
       go_wp2_with (go_at_call 107; (refine (containsRune_any _ [45, 95, 46, 63] r (by decide) (by decide) (by decide)).mono ?_; rw [H7.out]; rintro e w2 ⟨rfl, hb2⟩))
       go_ret
       first | exact ⟨rfl, Below.refl _ _⟩ | exact ⟨rfl, hb2⟩)
theorem prfR_byte : ∀ n : Nat, n < 128 → prfR n = prfB (UInt8.ofNat n) := by decide +kernel
theorem prfR_high {r : Nat} (h : 128 ≤ r) : prfR r = false := by
  unfold prfR hasR
  rw [decide_eq_false (by omega), decide_eq_false (by omega), decide_eq_false (by omega), decide_eq_false (by omega)]
  rfl
theorem prfB_high : ∀ n : Nat, 128 ≤ n → n < 256 → prfB (UInt8.ofNat n) = false := by
  intro n h1 h2
  unfold prfB cls
  have e : (UInt8.ofNat n).toNat = n := by simp; omega
  have : (UInt8.ofNat n == 63) = false := by
    rw [beq_eq_false_iff_ne]
    intro h
    rw [h] at e
    have : (63 : UInt8).toNat = 63 := rfl
    omega
  rw [e, this, Bool.or_false]
  split
  · omega
  · split
    · omega
    · split
      · omega
      · split
        · omega
        · rfl
theorem idx_prf (T : List UInt8) : ∀ f pos : Nat, T.length ≤ pos + f → decide (0 ≤ Lib.idxFuncFrom (fun r => !prfR r) true ⟨T.toArray⟩ f pos) = !((T.drop pos).all prfB) := by
  intro f
  induction f with
  | zero =>
    intro pos h
    rw [List.drop_of_length_le (by omega)]
    simp [Lib.idxFuncFrom]
  | succ f ih =>
    intro pos h
    unfold Lib.idxFuncFrom
    by_cases hp : pos < T.length
    · have hps : pos < (ByteArray.mk T.toArray).size := hp
      rw [if_pos hps]
      have hb : (ByteArray.mk T.toArray)[pos]'hps = T[pos] := rfl
      have hof : UInt8.ofNat T[pos].toNat = T[pos] := by simp
      rw [List.drop_eq_getElem_cons hp, List.all_cons]
      by_cases ha : T[pos].toNat < 128
      · have hd := decode_ascii ⟨T.toArray⟩ pos hps (by rw [hb]; exact ha)
        rw [hd, hb]
        dsimp only
        rw [prfR_byte _ ha, hof]
        cases hq : prfB T[pos] with
        | true =>
          rw [if_neg (by decide), ih (pos + 1) (by omega), Bool.true_and]
        | false =>
          rw [if_pos (by decide)]
          simp
      · have hd := (decode_high ⟨T.toArray⟩ pos hps (by rw [hb]; omega)).1
        rw [prfR_high hd, if_pos (by decide)]
        have := prfB_high T[pos].toNat (by omega) T[pos].toNat_lt
        rw [hof] at this
        rw [this]
        simp
    · rw [if_neg (show ¬ pos < (ByteArray.mk T.toArray).size from hp), List.drop_of_length_le (by omega)]
      simp
theorem idx_prf0 (T : List UInt8) : decide (0 ≤ Lib.idxFunc (fun r => !prfR r) true ⟨T.toArray⟩) = !(T.all prfB) := idx_prf T T.length 0 (by omega)
set_option maxRecDepth 100000 in
theorem isProof_any (w : World) (s : List UInt8) :
    Calls Tryd.prog 78 #[.string ⟨s.toArray⟩] w fun e w' => e = .returned (.bool (prfS s)) ∧ Below w.heap.size w w' := by
  by_cases h40 : s = [40]
  · subst h40
    go_enter Tryd.func78, Tryd.ntmps78
    go_wp2
    go_ret
    exact ⟨rfl, Below.refl _ _⟩
  by_cases h41 : s = [41]
  · subst h41
    go_enter Tryd.func78, Tryd.ntmps78
    go_wp2
    go_ret
    exact ⟨rfl, Below.refl _ _⟩
  have n40 : (s == [40]) = false := by simpa using h40
  have n41 : (s == [41]) = false := by simpa using h41
  have HPR : Hid (prfS s = (!s.isEmpty && s.all prfB)) := Lib.hid (by unfold prfS; rw [n40, n41]; rfl)
  clear h40 h41
  by_cases h0 : s = []
  · subst h0
    go_enter Tryd.func78, Tryd.ntmps78
    go_wp2
    go_ret
    exact ⟨ret_bool rfl, Below.refl _ _⟩
  · have e0 : s.isEmpty = false := by simpa using h0
    have e1 : (!s.isEmpty) = true := by rw [e0]; rfl
    have e2 : (s == []) = false := by simpa using h0
    obtain ⟨b, hb⟩ : ∃ b, s.all prfB = b := ⟨_, rfl⟩
    have HR : Hid (prfS s = b) := Lib.hid (by rw [HPR.out, e1, hb]; rfl)
    have HI : Hid (decide (0 ≤ Lib.idxFunc (fun r => !prfR r) true ⟨s.toArray⟩) = !b) := Lib.hid (by rw [idx_prf0, hb])
    clear h0 hb
    cases b
    all_goals
      go_enter Tryd.func78, Tryd.ntmps78
      go_wp2_with (go_at_call 118; (refine (Tryd.strings_ContainsFunc_grows 119 #[] (by intro args w; rfl) (fun r => !prfR r) ⟨s.toArray⟩ _ (fun W x _ _ => prf_clo W x)).mono ?_; rw [HI.out]; rintro e w2 ⟨rfl, hb2⟩))
      go_ret
      exact ⟨ret_bool HR.out.symm, hb2⟩
end Go.Proofs.YtpmbfcogkoiogaaDoor
end
section
namespace Go.Proofs.YtpmbfcogkoiogaaDoor
open Go.RowKit
/-- the second bytes of the keywords -/
def markL : List UInt8 := [99, 118, 102, 101, 100, 97, 112, 46, 61, 123, 125, 40, 41, 91, 93]
theorem u8_beq (a m : UInt8) : ((a.toNat : Int) == (m.toNat : Int)) = decide (a = m) := by
  rw [Bool.eq_iff_iff, beq_iff_eq, decide_eq_true_eq]
  constructor
  · intro h
    exact UInt8.toNat_inj.1 (by omega)
  · rintro rfl
    rfl
theorem eqArr2 (a b c d : Int) (w : World) : (Op.equalIn 10000 156 (.agg #[.int .u8 a, .int .u8 b]) (.agg #[.int .u8 c, .int .u8 d])).run Tryd.prog w = .ok (a == c && b == d) w := by
  have u3 := Tryd.underlying5
  have a3 := Tryd.isAgg5
  have z3 := Tryd.sizeOf5
  rw [show (10000 : Nat) = 9999 + 1 from rfl, Op.equalIn]
  simp only [Sem.run_bind, run_underlying Tryd.underlying156, Result.andThen_ok]
  simp only [Std.Legacy.Range.forIn_eq_forIn_range', Std.Legacy.Range.size, Nat.sub_zero, Nat.add_sub_cancel, Nat.div_one, List.range'_succ, List.range'_zero, List.forIn_cons, List.forIn_nil]
  go_simp
  by_cases h1 : a = c <;> by_cases h2 : b = d <;> simp [h1, h2]
set_option maxRecDepth 100000 in
theorem kw_clo (w : World) (a b m : UInt8) (g : Nat) (hrow : Row w g 156 #[.int .u8 (a.toNat : Nat), .int .u8 (b.toNat : Nat)]) :
    Calls Tryd.prog 116 #[.int .u8 (m.toNat : Nat), .pointer (some ⟨g, 0, none⟩)] w fun e w' => e = .returned (.bool (decide (a = 36 ∧ b = m))) ∧ Below w.heap.size w w' := by
  have c0 := hrow.cell (i := 0) (v := .int .u8 (a.toNat : Nat)) rfl
  have c1 := hrow.cell (i := 1) (v := .int .u8 (b.toNat : Nat)) rfl
  have hlt := hrow.lt
  have hq := fun wx => eqArr2 (a.toNat : Nat) (b.toNat : Nat) 36 (m.toNat : Nat) wx
  clear hrow
  have hr : (((a.toNat : Nat) : Int) == 36 && ((b.toNat : Nat) : Int) == ((m.toNat : Nat) : Int)) = decide (a = 36 ∧ b = m) := by
    rw [u8_beq b m, show ((36 : Int)) = (((36 : UInt8).toNat : Nat) : Int) from rfl, u8_beq, Bool.decide_and]
  rw [hr] at hq
  clear hr
  obtain ⟨r, hr⟩ : ∃ r, decide (a = 36 ∧ b = m) = r := ⟨_, rfl⟩
  rw [hr] at hq
  rw [hr]
  clear hr
  go_enter Tryd.func116, Tryd.ntmps116
  go_wp2
  go_ret
  exact ⟨rfl, Below.refl _ _⟩
set_option maxRecDepth 100000 in
theorem marks_any (w : World) : Calls Tryd.prog 115 #[] w fun e w' => e = .returned (.slice (some ⟨w.heap.size, 0, none⟩) 15 15) ∧ (∀ k m, markL[k]? = some m → w'.cell? ⟨w.heap.size, k, none⟩ = some (.int .u8 (m.toNat : Nat))) ∧ Below w.heap.size w w' := by
  have hcv := Lib.run_convert_bytes_const (P := Tryd.prog) w 95 5 #[.int .u8 99, .int .u8 118, .int .u8 102, .int .u8 101, .int .u8 100, .int .u8 97, .int .u8 112, .int .u8 46, .int .u8 61, .int .u8 123, .int .u8 125, .int .u8 40, .int .u8 41, .int .u8 91, .int .u8 93] 15 15 Tryd.underlying95 Tryd.underlying5
  go_enter Tryd.func115, Tryd.ntmps115
  go_wp2
  go_ret
  refine ⟨rfl, fun k m hk => ?_, new_ (Below.refl _ _) _⟩
  have hk15 : k < 15 := (List.getElem?_eq_some_iff.1 hk).1
  rw [cell_of_row _ _ _ _ _ _ (heap_alloc_new w _)]
  rcases (show k = 0 ∨ k = 1 ∨ k = 2 ∨ k = 3 ∨ k = 4 ∨ k = 5 ∨ k = 6 ∨ k = 7 ∨ k = 8 ∨ k = 9 ∨ k = 10 ∨ k = 11 ∨ k = 12 ∨ k = 13 ∨ k = 14 by omega) with rfl | rfl | rfl | rfl | rfl | rfl | rfl | rfl | rfl | rfl | rfl | rfl | rfl | rfl | rfl <;> (injection hk with hk; subst hk; rfl)
/-- the index of the mark of a keyword -/
def markI (a b : UInt8) : Int := if a = 36 ∧ b ∈ markL then 0 else -1
set_option maxRecDepth 100000 in
theorem indexKw (w : World) (a b : UInt8) (M g : Nat) (hM : ∀ k m, markL[k]? = some m → w.cell? ⟨M, k, none⟩ = some (.int .u8 (m.toNat : Nat))) (hrow : Row w g 156 #[.int .u8 (a.toNat : Nat), .int .u8 (b.toNat : Nat)]) :
    Calls Tryd.prog 132 #[.slice (some ⟨M, 0, none⟩) 15 15, .func (.func 116) #[] #[.pointer (some ⟨g, 0, none⟩)]] w fun e w' => ∃ z : Int, e = .returned (.int .i64 z) ∧ decide (0 ≤ z) = decide (a = 36 ∧ b ∈ markL) ∧ Below w.heap.size w w' := by
  have HR := Lib.hid hrow
  have HM := Lib.hid hM
  obtain ⟨l, hl⟩ : ∃ l, l = markL := ⟨_, rfl⟩
  have hl15 : l.length = 15 := by rw [hl]; rfl
  have HL := Lib.hid hl
  clear hrow hM hl
  go_enter Tryd.func132, Tryd.ntmps132
  go_wp2
  go_loopw [8] (fun i wr => ∃ k : Nat, k ≤ 15 ∧ i = .int .i64 k ∧ (∀ y ∈ l.take k, ¬ (a = 36 ∧ b = y)) ∧ Below w.heap.size w wr) (fun i _ => 15 - (intOf i).toNat)
  case atStart => exact ⟨0, Nat.zero_le _, rfl, by simp, Below.refl _ _⟩
  case round =>
    obtain ⟨k, hk, rfl, hn, hb⟩ := hrel
    have HN := Lib.hid hn
    have HB := Lib.hid hb
    clear hn hb
    by_cases hlt : k < 15
    · have e1 : decide ((k : Int) < 15) = true := decide_eq_true (by omega)
      obtain ⟨y, hy⟩ : ∃ y, l[k]? = some y := ⟨_, List.getElem?_eq_getElem (by omega)⟩
      have hc0 := HM.out k y (by rw [← HL.out]; exact hy)
      have hMl := block_lt_of_cell hc0
      have hc : wr.cell? ⟨M, k, none⟩ = some (.int .u8 (y.toNat : Nat)) := (HB.out.cell (p := ⟨M, k, none⟩) hMl).trans hc0
      have HY := Lib.hid hy
      clear hy hc0
      by_cases hin : a = 36 ∧ b = y
      · have HE : Hid (decide (a = 36 ∧ b = y) = true) := Lib.hid (decide_eq_true hin)
        have HK : Hid (decide ((0 : Int) ≤ (k : Int)) = decide (a = 36 ∧ b ∈ markL)) := Lib.hid (by
          rw [decide_eq_decide]
          exact ⟨fun _ => ⟨hin.1, by rw [← HL.out, hin.2]; exact List.mem_of_getElem? HY.out⟩, fun _ => by omega⟩)
        clear hin
        go_wp2_with (go_at_call 116; (refine (kw_clo _ a b y g (HR.out.below HB.out HR.out.lt)).mono ?_; rw [HE.out]; rintro e w2 ⟨rfl, hb2⟩))
        go_ret
        exact ⟨_, rfl, HK.out, then_ HB.out hb2⟩
      · have HE : Hid (decide (a = 36 ∧ b = y) = false) := Lib.hid (decide_eq_false hin)
        have HNN := Lib.hid (all_snoc HY.out HN.out hin)
        clear hin
        go_wp2_with (go_at_call 116; (refine (kw_clo _ a b y g (HR.out.below HB.out HR.out.lt)).mono ?_; rw [HE.out]; rintro e w2 ⟨rfl, hb2⟩))
        go_roundw
        case rel => exact ⟨k + 1, by omega, by go_num, HNN.out, then_ HB.out hb2⟩
        case measure => simp [intOf]; omega
    · obtain rfl : k = 15 := by omega
      have HA := Lib.hid (all_of_take (by omega) HN.out)
      have HK : Hid (decide ((0 : Int) ≤ -1) = decide (a = 36 ∧ b ∈ markL)) := Lib.hid (by
        rw [decide_eq_decide]
        exact ⟨fun h => absurd h (by omega), fun h => absurd ⟨h.1, rfl⟩ (HA.out b (by rw [HL.out]; exact h.2))⟩)
      go_wp2
      go_ret
      exact ⟨_, rfl, HK.out, HB.out⟩
set_option maxRecDepth 100000 in
theorem containsKw (w : World) (a b : UInt8) (M g : Nat) (hM : ∀ k m, markL[k]? = some m → w.cell? ⟨M, k, none⟩ = some (.int .u8 (m.toNat : Nat))) (hrow : Row w g 156 #[.int .u8 (a.toNat : Nat), .int .u8 (b.toNat : Nat)]) :
    Calls Tryd.prog 114 #[.slice (some ⟨M, 0, none⟩) 15 15, .func (.func 116) #[] #[.pointer (some ⟨g, 0, none⟩)]] w fun e w' => e = .returned (.bool (decide (a = 36 ∧ b ∈ markL))) ∧ Below w.heap.size w w' := by
  obtain ⟨r, hr⟩ : ∃ r, decide (a = 36 ∧ b ∈ markL) = r := ⟨_, rfl⟩
  have HRR := Lib.hid hr
  rw [hr]
  clear hr
  go_enter Tryd.func114, Tryd.ntmps114
  go_wp2_with (go_at_call 132; (refine (indexKw _ a b M g hM hrow).mono ?_; rw [HRR.out]; rintro e w2 ⟨z, rfl, hz, hb2⟩))
  go_ret
  exact ⟨rfl, hb2⟩
theorem isKw_two (a b : UInt8) : isKw [a, b] = decide (a = 36 ∧ b ∈ markL) := by
  unfold isKw
  rw [decide_eq_decide]
  simp [kwL, markL]
  constructor
  · rintro (⟨rfl, rfl⟩ | ⟨rfl, rfl⟩ | ⟨rfl, rfl⟩ | ⟨rfl, rfl⟩ | ⟨rfl, rfl⟩ | ⟨rfl, rfl⟩ | ⟨rfl, rfl⟩ | ⟨rfl, rfl⟩ | ⟨rfl, rfl⟩ | ⟨rfl, rfl⟩ | ⟨rfl, rfl⟩ | ⟨rfl, rfl⟩ | ⟨rfl, rfl⟩ | ⟨rfl, rfl⟩ | ⟨rfl, rfl⟩) <;> simp
  · rintro ⟨rfl, h⟩
    rcases h with rfl | rfl | rfl | rfl | rfl | rfl | rfl | rfl | rfl | rfl | rfl | rfl | rfl | rfl | rfl <;> simp
theorem isKw_len {s : List UInt8} (h : s.length ≠ 2) : isKw s = false := by
  unfold isKw
  rw [decide_eq_false_iff_not]
  intro hm
  have key : ∀ t ∈ kwL, t.length = 2 := by decide
  exact h (key s hm)
set_option maxRecDepth 100000 in
theorem isKw_any (w : World) (s : List UInt8) :
    Calls Tryd.prog 75 #[.string ⟨s.toArray⟩] w fun e w' => e = .returned (.bool (isKw s)) ∧ Below w.heap.size w w' := by
  by_cases h : s.length = 2
  · obtain ⟨a, b, rfl⟩ : ∃ a b, s = [a, b] := by
      match s, h with
      | [a, b], _ => exact ⟨a, b, rfl⟩
    rw [isKw_two]
    obtain ⟨r, hr⟩ : ∃ r, decide (a = 36 ∧ b ∈ markL) = r := ⟨_, rfl⟩
    have HRR := Lib.hid hr
    rw [hr]
    clear hr
    have hcv := run_bytes_of_string (P := Tryd.prog) w 9 95 5 ⟨#[a, b]⟩ Tryd.underlying9 Tryd.underlying95 Tryd.underlying5
    obtain ⟨C, hC⟩ : ∃ C, grownCap w (ByteArray.mk #[a, b]).size 0 5 = C := ⟨_, rfl⟩
    rw [hC] at hcv
    clear hC h
    obtain ⟨W1, hW1⟩ : ∃ W1, W1 = w.drew.alloc (.cells (bytesRow ⟨#[a, b]⟩ C) 5 ((bytesRow ⟨#[a, b]⟩ C).size, (bytesRow ⟨#[a, b]⟩ C).size + 1)) := ⟨_, rfl⟩
    rw [← hW1] at hcv
    have hb1 : Below w.heap.size w W1 := by rw [hW1]; exact (below_drewN (Below.refl _ _) 1).alloc (Nat.le_refl _) _
    have hs1 : W1.heap.size = w.heap.size + 1 := by rw [hW1]; simp
    have c0 : W1.cell? ⟨w.heap.size, 0, none⟩ = some (.int .u8 (a.toNat : Nat)) := by
      rw [hW1, show w.heap.size = w.drew.heap.size from rfl, cell_of_row _ _ _ _ _ _ (heap_alloc_new w.drew _)]
      unfold bytesRow
      rw [Array.getElem?_append_left (by simp)]
      simp
    have c1 : W1.cell? ⟨w.heap.size, 1, none⟩ = some (.int .u8 (b.toNat : Nat)) := by
      rw [hW1, show w.heap.size = w.drew.heap.size from rfl, cell_of_row _ _ _ _ _ _ (heap_alloc_new w.drew _)]
      unfold bytesRow
      rw [Array.getElem?_append_left (by simp)]
      simp
    have HB1 := Lib.hid hb1
    have hs0 : w.heap.size < W1.heap.size := by omega
    have har : ∀ wx : World, (Instr.arrayAt 156 (.slice (some ⟨w.heap.size, 0, none⟩) 2 C)).run Tryd.prog wx = .ok (.pointer (some ⟨w.heap.size, 0, none⟩)) wx := fun wx => by
      simp [Instr.arrayAt, run_underlying Tryd.underlying156]
    clear hW1 hb1 hs1
    go_enter Tryd.func75, Tryd.ntmps75
    go_wp2_with fail
    obtain ⟨W2, hW2⟩ : ∃ W2, W2 = W1.alloc (.cells #[.int .u8 (a.toNat : Nat), .int .u8 (b.toNat : Nat)] 156) := ⟨_, rfl⟩
    rw [← hW2]
    have HR2 := Lib.hid (show Row W2 W1.heap.size 156 #[.int .u8 (a.toNat : Nat), .int .u8 (b.toNat : Nat)] by rw [hW2]; exact Row.new _ _ _)
    have HB2 := Lib.hid (show Below w.heap.size w W2 by rw [hW2]; exact new_ HB1.out _)
    clear hW2
    refine (marks_any W2).mono ?_
    rintro e w2 ⟨rfl, hm2, hb2⟩
    have HM2 := Lib.hid hm2
    have HR3 := Lib.hid (HR2.out.below hb2 HR2.out.lt)
    have HB3 := Lib.hid (then_ HB2.out hb2)
    clear hm2 hb2
    go_wp2_with fail
    refine (containsKw w2 a b _ _ HM2.out HR3.out).mono ?_
    rw [HRR.out]
    rintro e w3 ⟨rfl, hb3⟩
    go_wp2_with fail
    go_ret
    exact ⟨rfl, then_ HB3.out hb3⟩
  · have HK : Hid (isKw s = false) := Lib.hid (isKw_len h)
    have e1 : ((s.length : Int) != 2) = true := by simp; omega
    clear h
    go_enter Tryd.func75, Tryd.ntmps75
    go_wp2
    go_ret
    exact ⟨ret_bool HK.out.symm, Below.refl _ _⟩
/-- a symbol -/
theorem isSym_any (w : World) (s : List UInt8) :
    Calls Tryd.prog 77 #[.string ⟨s.toArray⟩] w fun e w' => e = .returned (.bool (symB s)) ∧ Below w.heap.size w w' := by
  go_enter Tryd.func77, Tryd.ntmps77
  go_wp2_with (go_at_call 117; refine (only_any _ s _ [2, 3] (Rds.lit (size := 1) w 5 #[.int .u8 2, .int .u8 3] 2 rfl (by decide))).mono ?_; rintro e w' ⟨rfl, hb⟩)
  go_ret
  exact ⟨rfl, then_ (new_ (Below.refl _ _) _) hb⟩
/-- a label -/
theorem isLab_any (w : World) (s : List UInt8) :
    Calls Tryd.prog 76 #[.string ⟨s.toArray⟩] w fun e w' => e = .returned (.bool (labB s)) ∧ Below w.heap.size w w' := isLabel_any w s
end Go.Proofs.YtpmbfcogkoiogaaDoor
end
