/- A replacer of single bytes: each grave accent, tilde, bracket becomes two. -/
import Derived.Test.YthkeggmloajapaaMarkDiv
import Derived.Test.YthkeggmloajapaaShelf
import Derived.RegionTactic
import Derived.Deep.RegionLaw
import Derived.Deep.DeepCutAuto
import Derived.Deep.OwnRows
import Derived.Laws.CopyOwn
import Derived.IntWalk
import Derived.Lib.LazyBuf
namespace Go.Proofs.Ythkeggmloajapaa
open Go.RowKit
abbrev byteV (b : UInt8) : Value := u8 b
theorem byte_ones (b : UInt8) : ∀ v ∈ [byteV b, byteV b], v.oneCell' = true := by simp [byteV, u8, Value.oneCell']
def threeL : List UInt8 := [91, 126, 96]
/-- the replacer in block G -/
def RepAt (lo : Nat) (w : World) (G : Nat) : Prop := ∃ (cs : Array Value) (T c : Nat), (lo ≤ G ∧ lo ≤ T) ∧ Row w G 116 cs ∧ cs[256]? = some (.slice (some ⟨T, 0, none⟩) 3 c) ∧ 3 ≤ c ∧
  (∀ (j : Nat) x, threeL[j]? = some x → w.cell? ⟨T, j, none⟩ = some (.string ⟨#[x]⟩)) ∧ (∀ b : UInt8, special b = false → cs[b.toNat]? = some (.slice none 0 0)) ∧
  (∀ b : UInt8, special b = true → ∃ D cD, cs[b.toNat]? = some (.slice (some ⟨D, 0, none⟩) 2 cD) ∧ (2 ≤ cD ∧ lo ≤ D) ∧ ∀ (j : Nat) v, [byteV b, byteV b][j]? = some v → w.cell? ⟨D, j, none⟩ = some v)
theorem dup_len (s : List UInt8) : (dupS s).length = s.length + s.countP special := by
  induction s with
  | nil => rfl
  | cons b s ih =>
    by_cases h : special b = true
    · have e : dupS (b :: s) = b :: b :: dupS s := by simp [dupS, h]
      rw [e, List.countP_cons_of_pos h]
      simp only [List.length_cons]
      omega
    · have e : dupS (b :: s) = b :: dupS s := by simp [dupS, h]
      rw [e, List.countP_cons_of_neg h]
      simp only [List.length_cons]
      omega
theorem count_special (s : List UInt8) : s.countP special = s.count 91 + s.count 126 + s.count 96 := by
  induction s with
  | nil => rfl
  | cons b s ih =>
    rw [List.countP_cons, List.count_cons, List.count_cons, List.count_cons, ih]
    by_cases h1 : b = 91
    · subst h1; simp [special]; omega
    · by_cases h2 : b = 126
      · subst h2; simp [special]; omega
      · by_cases h3 : b = 96
        · subst h3; simp [special]; omega
        · have e : special b = false := by simp [special, h1, h2, h3]
          simp [e, h1, h2, h3]
theorem any_special (s : List UInt8) : s.any special = decide (s.countP special ≠ 0) := by
  induction s with
  | nil => rfl
  | cons b s ih =>
    rw [List.any_cons, List.countP_cons, ih]
    by_cases h : special b = true <;> simp [h]
theorem dup_same {s : List UInt8} (h : s.any special = false) : dupS s = s := by
  induction s with
  | nil => rfl
  | cons b s ih =>
    rw [List.any_cons, Bool.or_eq_false_iff] at h
    have e : dupS (b :: s) = b :: dupS s := by simp [dupS, h.1]
    rw [e, ih h.2]
theorem dup_snoc (s : List UInt8) (b : UInt8) : dupS (s ++ [b]) = dupS s ++ if special b then [b, b] else [b] := by simp [dupS]
set_option maxRecDepth 100000 in
theorem slice_buf (B N j : Nat) (hj : j < N) (_hN : N ≤ 2000000) (W : World) : (Instr.slice 46 (.slice (some ⟨B, 0, none⟩) N N) (some (.int .i64 (j : Int))) none none).run Try.prog W = .ok (.slice (some ⟨B, j, none⟩) (N - j) (N - j)) W := by
  rw [run_slice_l (P := Try.prog) W 46 _ N N Try.underlying46 .i64 (j : Int) (by omega) (by omega)]
  rw [show Try.prog.elem 46 = 5 by kernel_rfl, Try.sizeOf5]
  simp only [Result.andThen, sliced, Int.toNat_natCast]
  rw [if_neg (by omega : ¬ N = j)]
  simp only [Option.map_some, Nat.mul_one, addr_add, Nat.zero_add]
theorem count_one (w : World) (s : List UInt8) (x : UInt8) (k : Nat) (hk : s.count x = k) : Calls Try.prog 111 #[.string ⟨s.toArray⟩, .string ⟨#[x]⟩] w fun e w' => e = .returned (.int .i64 (k : Nat)) ∧ w = w' := by
  have h := Try.strings_Count_one ⟨s.toArray⟩ x w
  have e : Lib.countByte (ByteArray.mk s.toArray).data.toList x = k := by rw [← hk]; rfl
  rw [e] at h
  exact h.mono fun _ _ ⟨h1, h2⟩ => ⟨h1, h2.symm⟩
theorem splice_two (X : List UInt8) (rest : List Value) (b : UInt8) : splice (Lib.byteCells X ++ rest) X.length [byteV b, byteV b] = Lib.byteCells (X ++ [b, b]) ++ rest.drop 2 := by
  unfold splice
  have h1 : (Lib.byteCells X ++ rest).take X.length = Lib.byteCells X := by
    rw [← Lib.byteCells_length X, List.take_left]
  have h2 : (Lib.byteCells X ++ rest).drop (X.length + [byteV b, byteV b].length) = rest.drop 2 := by
    rw [show X.length + [byteV b, byteV b].length = (Lib.byteCells X).length + 2 by rw [Lib.byteCells_length]; rfl, List.drop_append, List.drop_of_length_le (by omega), List.nil_append]
    congr 1
    omega
  rw [h1, h2]
  simp [Lib.byteCells, byteV, u8]
theorem set_one (X : List UInt8) (r0 : Value) (rest : List Value) (b : UInt8) (z : Int) (hz : z = (b.toNat : Int)) : ((Lib.byteCells X ++ r0 :: rest).toArray).setIfInBounds X.length (.int .u8 z) = (Lib.byteCells (X ++ [b]) ++ rest).toArray := by
  subst hz
  rw [List.setIfInBounds_toArray, ← Lib.byteCells_length X, List.set_append_right _ _ (Nat.le_refl _)]
  simp [Lib.byteCells]
theorem bytes_at {l : List UInt8} {j : Nat} {x : UInt8} (h : l[j]? = some x) : (Lib.byteCells l)[j]? = some (byteV x) := by simp [Lib.byteCells, h, byteV, u8]
def cntM (s : List UInt8) (n : Nat) : Nat := ((threeL.take n).map fun x => s.count x).sum
theorem three_special {j : Nat} {x : UInt8} (h : threeL[j]? = some x) : special x = true := by
  have := List.mem_of_getElem? h
  simp [threeL] at this
  rcases this with rfl | rfl | rfl <;> rfl
theorem cnt_next {s : List UInt8} {n : Nat} {x : UInt8} (h : threeL[n]? = some x) : cntM s (n + 1) = cntM s n + s.count x := by
  unfold cntM
  rw [take_snoc h]
  simp
theorem cnt_all (s : List UInt8) : cntM s 3 = s.countP special := by
  rw [count_special]
  simp [cntM, threeL]
  omega
theorem cnt_le (s : List UInt8) (n : Nat) : cntM s n ≤ 3 * s.length := by
  have h : ∀ (l : List UInt8), ((l.map fun x => s.count x).sum) ≤ l.length * s.length := fun l => by
    induction l with
    | nil => simp
    | cons x l ih =>
      have := List.count_le_length (a := x) (l := s)
      simp only [List.map_cons, List.sum_cons, List.length_cons, Nat.add_mul]
      omega
  have h1 := h (threeL.take n)
  have h2 : (threeL.take n).length ≤ 3 := by rw [List.length_take]; simp [threeL]; omega
  have h3 := Nat.mul_le_mul_right s.length h2
  unfold cntM
  omega
set_option maxRecDepth 100000 in
set_option maxHeartbeats 8000000 in
theorem rep_any (w : World) (G : Nat) (s : List UInt8) (lo : Nat) (h : RepAt lo w G) (hn : s.length ≤ 1000000) :
    Calls Try.prog 109 #[.pointer (some ⟨G, 0, none⟩), .string ⟨s.toArray⟩] w fun e w' => e = .returned (.string ⟨(dupS s).toArray⟩) ∧ Below w.heap.size w w' := by
  obtain ⟨cs, T, cT, -, hr, hT, hcT, hx, h0, h2⟩ := h
  have HR := Lib.hid hr
  have HX := Lib.hid hx
  have H0 := Lib.hid h0
  have H2 := Lib.hid h2
  have c256 := hr.cell hT
  have hlt := hr.lt
  have HL := Lib.hid (dup_len s)
  have HA := Lib.hid (any_special s)
  have hdl : (dupS s).length ≤ 2000000 := by have h1 := dup_len s; have h2 := List.countP_le_length (p := special) (l := s); omega
  clear hr hx h0 h2 hT
  have hal : Try.prog.arrayLen 114 = 256 := by kernel_rfl
  have hneq : ∀ (W : World) (a : Option Addr) (n c : Nat), (binOp .neq 46 (.slice a n c) (.slice none 0 0)).run Try.prog W = .ok (.bool (!a.isNone)) W := fun W a n c => Go.run_neq_slice_nil W _ _ a n c Try.underlying46
  go_enter Try.func109, Try.ntmps109
  go_upto_if 26 with fail
  go_cut [5, 6] (fun nv av wx => nv = .int .i64 ((dupS s).length : Nat) ∧ av = .bool (s.any special) ∧ Below w.heap.size w wx)
  case first =>
    by_cases hl : 24 ≤ s.length
    · have e1 : decide ((24 : Int) ≤ (s.length : Int)) = true := decide_eq_true (by omega)
      rw [e1]
      go_wp2_with fail
      go_loopw [5, 6, 32] (fun nv av iv wr => ∃ n : Nat, n ≤ 3 ∧ iv = .int .i64 n ∧ nv = .int .i64 ((s.length : Int) + (cntM s n : Nat)) ∧ (∃ q : Bool, av = .bool q ∧ q = decide (cntM s n ≠ 0)) ∧ Below w.heap.size w wr) (fun _ _ iv _ => 3 - (intOf iv).toNat)
      case atStart => exact ⟨0, by decide, rfl, by simp [cntM], ⟨false, rfl, by simp [cntM]⟩, Below.refl _ _⟩
      case round =>
        obtain ⟨wo, rfl⟩ : ∃ wo, wo = wr := ⟨_, rfl⟩
        obtain ⟨n, hn3, rfl, rfl, ⟨q, rfl, hq⟩, hb⟩ := hrel
        have HB := Lib.hid hb
        have HQ := Lib.hid hq
        clear hq
        clear hb
        by_cases hlt3 : n < 3
        · obtain ⟨x, hx⟩ : ∃ x, threeL[n]? = some x := ⟨_, List.getElem?_eq_getElem (by simpa [threeL] using hlt3)⟩
          have tc := cellM (HX.out n x hx) HB.out
          obtain ⟨D, cD, hcs, hcD, hDD⟩ := H2.out x (three_special hx)
          obtain ⟨c, hce, hcl⟩ : ∃ c : Nat, ((ByteArray.mk #[x])[0]'(by decide : 0 < 1)).toNat = c ∧ c = x.toNat := ⟨_, rfl, rfl⟩
          have hx2 : c < 256 := by rw [hcl]; exact x.toNat_lt
          rw [← hcl] at hcs
          have gc := cellM (HR.out.cell hcs) HB.out
          have HN := Lib.hid (cnt_next (s := s) hx)
          have hkn := cnt_le s n
          obtain ⟨K, hK⟩ : ∃ K, cntM s n = K := ⟨_, rfl⟩
          obtain ⟨k, hk⟩ : ∃ k, s.count x = k := ⟨_, rfl⟩
          have hkl : k ≤ s.length := hk ▸ List.count_le_length
          rw [hK] at HN hkn HQ
          rw [hk] at HN
          rw [hK]
          have HCT := Lib.hid hk
          have HD := Lib.hid hDD
          clear hx hcs hcD hDD hK hk hcl
          by_cases hk0 : k = 0
          · have e2 : ((k : Int) != 0) = false := by simp [hk0]
            have HK0 := Lib.hid hk0
            clear hk0
            go_wp2_with (go_at_call 111; (refine (count_one _ s x k HCT.out).mono ?_; rintro e w2 ⟨rfl, rfl⟩))
            go_roundw
            case rel => exact ⟨n + 1, by omega, by go_num, by rw [HN.out, HK0.out]; simp, ⟨q, rfl, by rw [HN.out, HK0.out, HQ.out]; simp⟩, HB.out⟩
            case measure => simp [intOf]; omega
          · have e2 : ((k : Int) != 0) = true := by simp; omega
            have HK0 := Lib.hid hk0
            clear hk0
            go_wp2_with (go_at_call 111; (refine (count_one _ s x k HCT.out).mono ?_; rintro e w2 ⟨rfl, rfl⟩))
            go_region
            all_goals
              go_wp2_with fail
              go_roundw
              case rel => exact ⟨n + 1, by omega, by go_num, by rw [HN.out]; simp; omega, ⟨true, rfl, by rw [HN.out]; have := HK0.out; simp; omega⟩, HB.out.drew⟩
              case measure => simp [intOf]; omega
        · obtain rfl : n = 3 := by omega
          have HC3 := Lib.hid (cnt_all s)
          go_wp2_with fail
          go_meet
          exact ⟨by rw [HL.out, HC3.out]; simp, by rw [HQ.out, HA.out, HC3.out], HB.out⟩
    · have e1 : decide ((24 : Int) ≤ (s.length : Int)) = false := decide_eq_false (by omega)
      rw [e1]
      go_wp2_with fail
      go_loopw [5, 6, 10] (fun nv av iv wr => ∃ i : Nat, i ≤ s.length ∧ iv = .int .i64 i ∧ nv = .int .i64 ((s.length : Int) + ((s.take i).countP special : Nat)) ∧ (∃ q : Bool, av = .bool q ∧ q = (s.take i).any special) ∧ Below w.heap.size w wr) (fun _ _ iv _ => s.length - (intOf iv).toNat)
      case atStart => exact ⟨0, Nat.zero_le _, rfl, by simp, ⟨false, rfl, rfl⟩, Below.refl _ _⟩
      case round =>
        obtain ⟨wo, rfl⟩ : ∃ wo, wo = wr := ⟨_, rfl⟩
        obtain ⟨i, hi, rfl, rfl, ⟨q, rfl, hq⟩, hb⟩ := hrel
        have HB := Lib.hid hb
        have HQ := Lib.hid hq
        have hkl := List.countP_le_length (p := special) (l := s.take i)
        rw [List.length_take] at hkl
        clear hq hb
        by_cases hil : i < s.length
        · obtain ⟨b, hbx⟩ : ∃ b, s[i] = b := ⟨_, rfl⟩
          have hsx : s[i]? = some b := by rw [List.getElem?_eq_getElem hil, hbx]
          obtain ⟨c, hce, hcl⟩ : ∃ c : Nat, (ByteArray.mk s.toArray)[i].toNat = c ∧ c = b.toNat := ⟨_, rfl, by rw [← hbx]; rfl⟩
          have hc2 : c < 256 := by rw [hcl]; exact b.toNat_lt
          have HTS := Lib.hid (take_snoc hsx)
          obtain ⟨K, hK⟩ : ∃ K, (s.take i).countP special = K := ⟨_, rfl⟩
          have HK := Lib.hid hK
          rw [hK] at hkl
          rw [hK]
          by_cases hs : special b = true
          · obtain ⟨D, cD, hcs, hcD, hDD⟩ := H2.out b hs
            rw [← hcl] at hcs
            have gc := cellM (HR.out.cell hcs) HB.out
            have HS := Lib.hid hs
            clear hcs hcD hDD hs hsx hbx hcl hK
            go_wp2_with fail
            go_roundw
            case rel => exact ⟨i + 1, by omega, by go_num, by rw [HTS.out, List.countP_append, HK.out, List.countP_cons_of_pos HS.out]; simp; omega, ⟨true, rfl, by rw [HTS.out]; simp [HS.out]⟩, HB.out⟩
            case measure => simp [intOf]; omega
          · have hs : special b = false := by simpa using hs
            have hcs := H0.out b hs
            rw [← hcl] at hcs
            have gc := cellM (HR.out.cell hcs) HB.out
            have HS := Lib.hid hs
            clear hcs hs hsx hbx hcl hK
            go_wp2_with fail
            go_roundw
            case rel => exact ⟨i + 1, by omega, by go_num, by rw [HTS.out, List.countP_append, HK.out, List.countP_cons_of_neg (by simp [HS.out])]; simp, ⟨q, rfl, by rw [HTS.out, HQ.out]; simp [HS.out]⟩, HB.out⟩
            case measure => simp [intOf]; omega
        · obtain rfl : i = s.length := by omega
          rw [List.take_length] at HQ ⊢
          go_wp2_with fail
          go_meet
          exact ⟨by rw [HL.out]; simp, by rw [HQ.out], HB.out⟩
  case rest =>
    obtain ⟨rfl, rfl, hbc⟩ := hcut
    have HBC := Lib.hid hbc
    clear hbc HL HA
    obtain ⟨q, hq⟩ : ∃ q, s.any special = q := ⟨_, rfl⟩
    rw [hq]
    cases q with
    | false =>
      have HS := Lib.hid (dup_same hq)
      clear hq
      go_wp2_with fail
      go_ret
      rw [HS.out]
      exact ⟨rfl, HBC.out⟩
    | true =>
      clear hq
      obtain ⟨N, hN⟩ : ∃ N, (dupS s).length = N := ⟨_, rfl⟩
      rw [hN] at hdl ⊢
      have HN := Lib.hid hN
      obtain ⟨iB, hiB, hB0, hB1, hB2⟩ := info_parts infoByte
      clear hN
      go_wp2_with (refine wpList_make_row _ rfl (.tmp 84) (.tmp 84) 46 rfl 5 iB (.int .u8 0) Try.underlying46 hiB hB0 hB1 rfl .i64 .i64 N rfl rfl (by rw [hB2]; omega) (by omega) ?_)
      obtain ⟨w3, hw3⟩ : ∃ w3, wc.alloc (.cells (madeCells #[.int .u8 0] N) 5) = w3 := ⟨_, rfl⟩
      have HB3 : Hid (Below wc.heap.size wc w3) := Lib.hid (hw3 ▸ new_ (Below.refl _ _) _)
      have HG3 : Hid (w3.heap[wc.heap.size]? = some (.cells (madeCells #[.int .u8 0] N).toList.toArray 5 (0, 0))) := Lib.hid (by rw [← hw3]; exact heap_alloc_new wc _)
      have hsz : (madeCells #[.int .u8 0] N).toList.length = N := by simp [madeCells]
      have HSZ := Lib.hid hsz
      obtain ⟨B, hB⟩ : ∃ B, wc.heap.size = B := ⟨_, rfl⟩
      rw [hB] at HB3 HG3
      rw [hw3]
      simp only [hB]
      have HBB := Lib.hid hB
      clear hw3 hsz hB
      go_loopw [13, 14] (fun jv iv wr => ∃ (i : Nat) (rest : List Value), i ≤ s.length ∧ iv = .int .i64 i ∧ jv = .int .i64 ((dupS (s.take i)).length : Nat) ∧ wr.heap[B]? = some (.cells (Lib.byteCells (dupS (s.take i)) ++ rest).toArray 5 (0, 0)) ∧ (Lib.byteCells (dupS (s.take i)) ++ rest).length = N ∧ Below B wc wr) (fun _ iv _ => s.length - (intOf iv).toNat)
      case atStart => exact ⟨0, (madeCells #[.int .u8 0] N).toList, Nat.zero_le _, rfl, rfl, HG3.out, HSZ.out, HB3.out⟩
      case round =>
        obtain ⟨wo, rfl⟩ : ∃ wo, wo = wr := ⟨_, rfl⟩
        obtain ⟨i, rest, hi, rfl, rfl, hg, hln, hb⟩ := hrel
        have HGO := Lib.hid hg
        have HB := Lib.hid hb
        have HBW := Lib.hid (HBC.out.trans (hb.mono (by rw [← HBB.out]; exact HBC.out.size)))
        have hBlt : B < wo.heap.size := (Array.getElem?_eq_some_iff.1 hg).1
        obtain ⟨X, hX⟩ : ∃ X, dupS (s.take i) = X := ⟨_, rfl⟩
        rw [hX] at hln HGO
        rw [hX]
        have HX0 := Lib.hid hX
        clear hg hb
        rw [List.length_append, Lib.byteCells_length] at hln
        by_cases hil : i < s.length
        · obtain ⟨b, hbx⟩ : ∃ b, s[i] = b := ⟨_, rfl⟩
          have hsx : s[i]? = some b := by rw [List.getElem?_eq_getElem hil, hbx]
          obtain ⟨c, hce, hcl⟩ : ∃ c : Nat, (ByteArray.mk s.toArray)[i].toNat = c ∧ c = b.toNat := ⟨_, rfl, by rw [← hbx]; rfl⟩
          have hc2 : c < 256 := by rw [hcl]; exact b.toNat_lt
          have HNX : Hid (dupS (s.take (i + 1)) = X ++ if special b then [b, b] else [b]) := Lib.hid (by rw [take_snoc hsx, dup_snoc, hX])
          have hfit : (dupS (s.take (i + 1))).length ≤ N := by
            have h1 : dupS s = dupS (s.take (i + 1)) ++ dupS (s.drop (i + 1)) := by rw [← dup_app, List.take_append_drop]
            have h2 := congrArg List.length h1
            rw [HN.out, List.length_append] at h2
            omega
          rw [HNX.out, List.length_append] at hfit
          have HC := Lib.hid hcl
          by_cases hs : special b = true
          · obtain ⟨D, cD, hcs, hcD, hDD⟩ := H2.out b hs
            rw [← hcl] at hcs
            have gc := cellM (HR.out.cell hcs) HBW.out
            have HS := Lib.hid hs
            have HD : Hid (∀ (j : Nat) v, [byteV b, byteV b][j]? = some v → wo.cell? ⟨D, j, none⟩ = some v) := Lib.hid fun j v hv => cellM (hDD j v hv) HBW.out
            rw [hs] at hfit
            simp only [if_true, List.length_cons, List.length_nil] at hfit
            have hsb := slice_buf B N X.length (by omega) hdl
            have HLN := Lib.hid hln
            have q1 : (0 : Int) ≤ (c : Int) := by omega
            have q2 : (c : Int) < 256 := by omega
            have q3 : decide ((c : Int) < 256) = true := decide_eq_true q2
            have hNX : (N : Int) - (X.length : Int) = ((N - X.length : Nat) : Int) := by omega
            clear hcs hcD hDD hs hsx hbx hcl hX
            go_wp2_with fail
            go_region_law (refine step_copy_splice rfl (.tmp 105) (.tmp 111) 46 46 rfl 5 Try.underlying46 (by kernel_rfl) (some ⟨B, X.length, none⟩) (some ⟨D, 0, none⟩) (N - X.length) (N - X.length) 2 cD (by simp [Act.eval]) (by simp [Act.eval]) B X.length (Lib.byteCells X ++ rest) 5 HGO.out [byteV b, byteV b] (show 2 = Nat.min 2 (N - X.length) from (Nat.min_eq_left (by omega)).symm) (fun _ => ⟨rfl, _, rfl, fun j v hv => (congrArg _ (addr_add D 0 j)).trans (by rw [Nat.zero_add]; exact HD.out j v hv)⟩) (by rw [List.length_append, Lib.byteCells_length]; simp; omega) (byte_ones b) B wo.drew (Below.refl _ _) (Nat.le_refl _) ?_; intro w4 hg4 hb4)
            all_goals
              go_wp2_with fail
              go_roundw
              case rel => exact ⟨i + 1, rest.drop 2, by omega, by go_num, by rw [HNX.out, if_pos HS.out]; simp, by rw [HNX.out, if_pos HS.out, ← splice_two]; exact hg4.out, by rw [HNX.out, if_pos HS.out, List.length_append, Lib.byteCells_length, List.length_append, List.length_drop]; simp; omega, HB.out.trans ((Below.refl B wo).drew.trans hb4)⟩
              case measure => simp [intOf]; omega
          · have hs : special b = false := by simpa using hs
            have hcs := H0.out b hs
            rw [← hcl] at hcs
            have gc := cellM (HR.out.cell hcs) HBW.out
            have HS := Lib.hid hs
            rw [hs] at hfit
            simp only [Bool.false_eq_true, if_false, List.length_cons, List.length_nil] at hfit
            obtain ⟨r0, rest, rfl⟩ : ∃ r0 rs, rest = r0 :: rs := List.exists_cons_of_ne_nil (by intro e; subst e; simp at hln; omega)
            have hrow : Row wo B 5 (Lib.byteCells X ++ r0 :: rest).toArray := HGO.out
            have g0 := hrow.cell (i := X.length) (v := r0) (by rw [List.getElem?_toArray, ← Lib.byteCells_length X, List.getElem?_append_right (Nat.le_refl _)]; simp)
            have g1 := hrow.free X.length
            have HROW := Lib.hid hrow
            have q1 : (0 : Int) ≤ (X.length : Int) := by omega
            have q2 : (X.length : Int) < (N : Int) := by omega
            clear hcs hs hsx hbx hcl hX hrow
            go_wp2_with fail
            go_roundw
            case rel => exact ⟨i + 1, rest, by omega, by go_num, by rw [HNX.out, if_neg (by simp [HS.out])]; simp, by rw [HNX.out, if_neg (by simp [HS.out]), ← set_one X r0 rest b (c : Int) (by rw [HC.out])]; exact HROW.out.set X.length _, by rw [HNX.out, if_neg (by simp [HS.out]), List.length_append, Lib.byteCells_length, List.length_append]; simp at hln ⊢; omega, HB.out.trans (below_set _ (Nat.le_refl _))⟩
            case measure => simp [intOf]; omega
        · obtain rfl : i = s.length := by omega
          rw [List.take_length] at HX0
          obtain rfl : rest = [] := List.eq_nil_of_length_eq_zero (by have h1 := HN.out; rw [HX0.out] at h1; omega)
          have hrow : Row wo B 5 (Lib.byteCells X ++ []).toArray := HGO.out
          have hcv : (convert 46 9 (.slice (some ⟨B, 0, none⟩) N N)).run Try.prog wo = .ok (.string ⟨(dupS s).toArray⟩) wo :=
            run_str_of_bytes wo _ _ 5 _ N N (dupS s) Try.underlying46 Try.underlying5 Try.underlying9 HN.out fun j x hx => by
              rw [addr_add, Nat.zero_add]
              refine hrow.cell ?_
              rw [List.append_nil, List.getElem?_toArray, ← HX0.out]
              exact bytes_at hx
          clear hrow hX
          go_wp2_with fail
          go_ret
          exact ⟨rfl, HBW.out⟩
end Go.Proofs.Ythkeggmloajapaa
