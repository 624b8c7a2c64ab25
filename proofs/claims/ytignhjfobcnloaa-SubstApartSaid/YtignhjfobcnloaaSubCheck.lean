/- Check of the program and of the reference. -/
import Derived.Test.YtignhjfobcnloaaSubBind
import Derived.RegionTactic
namespace Go.Proofs.Ytignhjfobcnloaa
open Go.RowKit
section
variable {l : List BindD} {k : Nat} {x : BindD}
theorem bdrop (h : l[k]? = some x) : l.drop k = x :: l.drop (k + 1) := by
  obtain ⟨hk, e⟩ := List.getElem?_eq_some_iff.1 h
  rw [List.drop_eq_getElem_cons hk, e]
/-- the symbols of the first k bindings -/
def varsTo (l : List BindD) (k : Nat) : List (List UInt8) := (l.take k).map (·.1)
theorem varsTo_snoc (h : l[k]? = some x) : varsTo l (k + 1) = varsTo l k ++ [x.1] := by unfold varsTo; rw [take_snoc h, List.map_append]; rfl
theorem varsTo_len (hk : k ≤ l.length) : (varsTo l k).length = k := by simp [varsTo]; omega
/-- nothing wrong among the first k bindings -/
def ChAt (l : List BindD) (k : Nat) : Prop := checkRun [] l = checkRun (varsTo l k) (l.drop k)
theorem ChAt.start : ChAt l 0 := by simp [ChAt, varsTo]
theorem ChAt.empty (h : ChAt l k) (hx : l[k]? = some x) (h1 : x.1 = []) (hl : ¬ 40 < l.length) : checkS l = 80 := by
  unfold checkS; rw [if_neg hl, h, bdrop hx, checkRun, if_pos h1]
theorem ChAt.twice (h : ChAt l k) (hx : l[k]? = some x) (h1 : x.1 ≠ []) (h2 : x.1 ∈ varsTo l k) (hl : ¬ 40 < l.length) : checkS l = 6 := by
  unfold checkS; rw [if_neg hl, h, bdrop hx, checkRun, if_neg h1, if_pos h2]
theorem ChAt.large (h : ChAt l k) (hx : l[k]? = some x) (h1 : x.1 ≠ []) (h2 : x.1 ∉ varsTo l k) (h3 : 2000 < x.2.length) (hl : ¬ 40 < l.length) : checkS l = 15 := by
  unfold checkS; rw [if_neg hl, h, bdrop hx, checkRun, if_neg h1, if_neg h2, if_pos h3]
theorem ChAt.next (h : ChAt l k) (hx : l[k]? = some x) (h1 : x.1 ≠ []) (h2 : x.1 ∉ varsTo l k) (h3 : ¬ 2000 < x.2.length) : ChAt l (k + 1) := by
  unfold ChAt at h ⊢
  rw [h, bdrop hx, checkRun, if_neg h1, if_neg h2, if_neg h3, varsTo_snoc hx]
theorem ChAt.fin (h : ChAt l l.length) (hl : ¬ 40 < l.length) : checkS l = 0 := by
  unfold checkS; rw [if_neg hl, h, List.drop_length]; rfl
theorem checkS_size (h : 40 < l.length) : checkS l = 4 := by unfold checkS; rw [if_pos h]
end
set_option maxRecDepth 20000 in
set_option maxHeartbeats 2000000 in
theorem check_any (w : World) (v : Value) (l : List BindD) (h : BindAt w v l) (hsz : ∀ x ∈ l, x.1.length ≤ maxLen) :
    Calls Try.prog 59 #[v] w fun e w' => e = .returned (.int .i64 (checkS l)) ∧ Below w.heap.size w w' := by
  have h0 := h
  obtain ⟨A, c, rfl, hc, hm, hx⟩ := h
  unfold maxLen at hm
  clear hx
  by_cases hbig : 40 < l.length
  · have e0 : decide ((40 : Int) < (l.length : Int)) = true := decide_eq_true (by omega)
    have HS := Lib.hid (checkS_size hbig)
    clear hbig
    go_enter Try.func59, Try.ntmps59
    go_wp2
    go_ret
    exact ⟨ret_int HS.out.symm, Below.refl _ _⟩
  · have e0 : decide ((40 : Int) < (l.length : Int)) = false := decide_eq_false (by omega)
    have HBIG := Lib.hid hbig
    have hl40 : l.length ≤ 40 := by omega
    clear hbig
    have hmm := @run_makeMap Try.prog
    go_enter Try.func59, Try.ntmps59
    go_wp2
    go_loopw [12] (fun i wr => ∃ k : Nat, k ≤ l.length ∧ i = .int .i64 k ∧ SetM wr w.heap.size (varsTo l k) ∧ ChAt l k ∧ Below w.heap.size w wr) (fun i _ => l.length - (intOf i).toNat)
    case atStart => exact ⟨0, Nat.zero_le _, rfl, SetM.new w, ChAt.start, new_ (Below.refl _ _) _⟩
    case round =>
      obtain ⟨k, hk, rfl, hset, hch, hb⟩ := hrel
      have HC := Lib.hid hch
      have HSET := Lib.hid hset
      have hsl := hset.lt
      have hwz := hb.size
      clear hch hset
      by_cases hlt : k < l.length
      · obtain ⟨y, hy⟩ : ∃ y, l[k]? = some y := ⟨_, List.getElem?_eq_getElem hlt⟩
        obtain ⟨A', c', hvv, _, _, hx⟩ := h0.below hb
        obtain ⟨rfl, _, rfl⟩ := (by simpa using hvv : A = A' ∧ True ∧ c = c')
        obtain ⟨b, o, tv, rfl, g1, g2, g3⟩ := hx k y hy
        obtain ⟨tA, tc, rfl⟩ := g3.form
        have hys := hsz y (List.mem_of_getElem? hy)
        have HY := Lib.hid hy
        have HVL := Lib.hid (varsTo_len (l := l) hk)
        have hbx : Below wr.heap.size wr (wr.alloc (.cells #[.string ⟨y.1.toArray⟩, .slice tA y.2.length tc] 28)) := (Below.refl _ _).alloc (Nat.le_refl _) _
        have hlook := (HSET.out.below hbx).look y.1 hys
        have HBX := Lib.hid hbx
        clear hx hy hvv g3 hbx
        by_cases h1 : y.1 = []
        · have t1 : (y.1 == []) = true := by simp [h1]
          have t2 : y.1.isEmpty = true := by simp [h1]
          have HS := Lib.hid (HC.out.empty HY.out h1 HBIG.out)
          clear h1 hlook
          go_wp2
          go_ret
          exact ⟨ret_int HS.out.symm, hb.alloc hwz _⟩
        · have t1 : (y.1 == []) = false := by simpa using h1
          have t2 : y.1.isEmpty = false := by simpa using h1
          have H1 := Lib.hid h1
          clear h1
          by_cases h2 : y.1 ∈ varsTo l k
          · have HS := Lib.hid (HC.out.twice HY.out H1.out h2 HBIG.out)
            rw [decide_eq_true h2] at hlook
            clear h2
            go_wp2
            go_ret
            exact ⟨ret_int HS.out.symm, hb.alloc hwz _⟩
          · have H2 := Lib.hid h2
            rw [decide_eq_false h2] at hlook
            clear h2
            by_cases h3 : 2000 < y.2.length
            · have e3 : decide ((2000 : Int) < (y.2.length : Int)) = true := decide_eq_true (by omega)
              have HS := Lib.hid (HC.out.large HY.out H1.out H2.out h3 HBIG.out)
              clear h3
              go_wp2
              go_ret
              exact ⟨ret_int HS.out.symm, hb.alloc hwz _⟩
            · have e3 : decide ((2000 : Int) < (y.2.length : Int)) = false := decide_eq_false (by omega)
              have HN := Lib.hid (HC.out.next HY.out H1.out H2.out h3)
              obtain ⟨w2, hput, hset2, hg2⟩ := (HSET.out.below HBX.out).put y.1 hys (by rw [HVL.out]; unfold maxLen; omega)
              have HSET2 := Lib.hid hset2
              clear h3 hset2
              go_wp2
              go_roundw
              case rel => exact ⟨k + 1, by omega, by go_num, by rw [varsTo_snoc HY.out]; exact HSET2.out, HN.out, (hb.alloc hwz _).grown hg2 (by simp; omega) (fun j ej => by cases ej; exact Nat.le_refl _)⟩
              case measure => simp [intOf]; omega
      · obtain rfl : k = l.length := by omega
        have HS := Lib.hid (HC.out.fin HBIG.out)
        go_wp2
        go_ret
        exact ⟨ret_int HS.out.symm, hb⟩
end Go.Proofs.Ytignhjfobcnloaa
