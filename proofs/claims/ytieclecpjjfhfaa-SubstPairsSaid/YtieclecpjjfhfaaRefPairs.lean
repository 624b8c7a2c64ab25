/- Sorted, required, Apart, Broken of the reference. -/
import Derived.Test.YtieclecpjjfhfaaPairPlain
import Derived.Test.YtieclecpjjfhfaaSubVars
import Derived.Test.YtieclecpjjfhfaaSubCompact
import Derived.Deep.RegionHeld3
import Derived.Deep.DrawnRows
import Derived.Deep.DeepCutAuto
import Derived.Laws.StructEq
namespace Go.Proofs.Ytieclecpjjfhfaa
open Go.RowKit Go.Shelf
theorem ref_pair (w : World) (a b c d : List UInt8) (h : orderedS (a, b) = (c, d)) : Calls Try.prog 123 #[.string ⟨a.toArray⟩, .string ⟨b.toArray⟩] w fun e w' => e = .returned (.agg #[.string ⟨c.toArray⟩, .string ⟨d.toArray⟩]) ∧ Below w.heap.size w w' := by
  unfold orderedS at h
  by_cases hb : b < a
  · rw [if_pos hb] at h
    obtain ⟨rfl, rfl⟩ := Prod.mk.inj h
    have e1 := less_true hb
    clear hb h
    go_enter Try.func123, Try.ntmps123
    go_wp2
    exact bodyPost_ret (v := .agg #[.string ⟨b.toArray⟩, .string ⟨a.toArray⟩]) (by simp [results, Try.results123, go_sem]) rfl ⟨rfl, new_ (Below.refl _ _) _⟩
  · rw [if_neg hb] at h
    obtain ⟨rfl, rfl⟩ := Prod.mk.inj h
    have e1 := less_false hb
    clear hb h
    go_enter Try.func123, Try.ntmps123
    go_wp2
    exact bodyPost_ret (v := .agg #[.string ⟨a.toArray⟩, .string ⟨b.toArray⟩]) (by simp [results, Try.results123, go_sem]) rfl ⟨rfl, new_ (Below.refl _ _) _⟩
theorem ref_less (w : World) (p q : PairD) (z : Bool) (h : decide (ltP p q) = z) : Calls Try.prog 124 #[.agg #[.string ⟨p.1.toArray⟩, .string ⟨p.2.toArray⟩], .agg #[.string ⟨q.1.toArray⟩, .string ⟨q.2.toArray⟩]] w fun e w' => e = .returned (.bool z) ∧ Below w.heap.size w w' := by
  obtain ⟨a, b⟩ := p
  obtain ⟨c, d⟩ := q
  by_cases h1 : a < c
  · obtain rfl : z = true := by rw [← h]; exact decide_eq_true (.inl h1)
    have e1 := less_true h1
    clear h1 h
    go_enter Try.func124, Try.ntmps124
    go_wp2
    go_ret
    exact ⟨rfl, new_ (new_ (Below.refl _ _) _) _⟩
  · by_cases h2 : a = c
    · subst h2
      have e1 := less_false h1
      have t1 : (a == a) = true := by simp
      by_cases h3 : b < d
      · obtain rfl : z = true := by rw [← h]; exact decide_eq_true (.inr ⟨rfl, h3⟩)
        have e2 := less_true h3
        clear h1 h h3
        go_enter Try.func124, Try.ntmps124
        go_wp2
        go_ret
        exact ⟨rfl, new_ (new_ (Below.refl _ _) _) _⟩
      · obtain rfl : z = false := by rw [← h]; exact decide_eq_false (fun hh => hh.elim h1 fun hh => h3 hh.2)
        have e2 := less_false h3
        clear h1 h h3
        go_enter Try.func124, Try.ntmps124
        go_wp2
        go_ret
        exact ⟨rfl, new_ (new_ (Below.refl _ _) _) _⟩
    · obtain rfl : z = false := by rw [← h]; exact decide_eq_false (fun hh => hh.elim h1 fun hh => h2 hh.1)
      have e1 := less_false h1
      have t1 : (a == c) = false := by simpa using h2
      clear h1 h h2
      go_enter Try.func124, Try.ntmps124
      go_wp2
      go_ret
      exact ⟨rfl, new_ (new_ (Below.refl _ _) _) _⟩
attribute [local go_sem ↓] Go.wp_at_zero Go.wp_at_succ
set_option maxRecDepth 100000 in
set_option maxHeartbeats 4000000 in
theorem ref_hasPair (w : World) (v : Value) (l : List PairD) (p : PairD) (h : PairsAt w v l) :
    Calls Try.prog 119 #[v, .agg #[.string ⟨p.1.toArray⟩, .string ⟨p.2.toArray⟩]] w fun e w' => e = .returned (.bool (decide (p ∈ l.map orderedS))) ∧ Below w.heap.size w w' := by
  have h0 := h
  obtain ⟨A, c, rfl, hc, hm, hx⟩ := h.open_
  unfold maxLen at hm
  have hst := stoodPair
  clear hx h
  go_enter Try.func119, Try.ntmps119
  go_wp2
  go_loopw [5] (fun iv wr => ∃ k : Nat, k ≤ l.length ∧ iv = .int .i64 k ∧ Hid (∀ y ∈ l.take k, orderedS y ≠ p) ∧ Below w.heap.size w wr ∧ Row wr w.heap.size 124 #[.string ⟨p.1.toArray⟩, .string ⟨p.2.toArray⟩]) (fun iv _ => l.length - (intOf iv).toNat)
  case atStart => exact ⟨0, Nat.zero_le _, rfl, Lib.hid (by simp), new_ (Below.refl _ _) _, Row.new _ _ _⟩
  case round =>
    obtain ⟨k, hk, rfl, HN, hb, hr⟩ := hrel
    have hB := hb.size
    have hlr := hr.lt
    by_cases hlt : k < l.length
    · obtain ⟨y, hy⟩ : ∃ y, l[k]? = some y := ⟨_, List.getElem?_eq_getElem hlt⟩
      obtain ⟨A', c', hvv, _, _, hx⟩ := (h0.below hb).open_
      obtain ⟨rfl, _, rfl⟩ := (by simpa using hvv : A = A' ∧ True ∧ c = c')
      obtain ⟨b, o, rfl, g1, g2⟩ := hx k y hy
      have HY := Lib.hid hy
      obtain ⟨y1, y2⟩ := y
      obtain ⟨p1, p2⟩ := p
      obtain ⟨q1, q2, hq⟩ : ∃ q1 q2, orderedS (y1, y2) = (q1, q2) := ⟨_, _, rfl⟩
      have HQ := Lib.hid hq
      have HR := Lib.hid hr
      have k0 : (0 : Int) ≤ (k : Int) := Int.natCast_nonneg _
      have k1 : (k : Int) < (l.length : Int) := by omega
      have hlb := block_lt_of_cell g1
      dsimp only at g1 g2 hlb
      have c0 := hr.cell (i := 0) (v := .string ⟨p1.toArray⟩) rfl
      have c1 := hr.cell (i := 1) (v := .string ⟨p2.toArray⟩) rfl
      clear hx hvv hy hq h0 hr
      by_cases hA : q1 = p1
      · by_cases hBB : q2 = p2
        · subst hA hBB
          have HIN : Hid (decide ((q1, q2) ∈ l.map orderedS) = true) := Lib.hid (decide_eq_true (List.mem_map.2 ⟨(y1, y2), List.mem_of_getElem? HY.out, HQ.out⟩))
          have t1 : (q1 == q1) = true := by simp
          have t2 : (q2 == q2) = true := by simp
          go_wp2
          go_region_held3 (fun w' => w'.cell? ⟨b, o + k * 2, none⟩ = some (.string ⟨y1.toArray⟩) ∧ w'.cell? ⟨b, o + k * 2 + 1, none⟩ = some (.string ⟨y2.toArray⟩) ∧ w'.cell? ⟨w.heap.size, 0, none⟩ = some (.string ⟨q1.toArray⟩) ∧ w'.cell? ⟨w.heap.size, 1, none⟩ = some (.string ⟨q2.toArray⟩)) (go_keep)
          (first | (go_at_call 123; refine (ref_pair _ y1 y2 q1 q2 HQ.out).mono ?_; rintro e w5 ⟨rfl, hb5⟩; have hb6 : Below wr.heap.size wr w5 := ((Below.refl _ _).drew).trans hb5; have s1 := (hb6.cell (p := ⟨b, o + k * 2, none⟩) hlb).trans g1; have s2 := (hb6.cell (p := ⟨b, o + k * 2 + 1, none⟩) hlb).trans g2; have s3 := (hb6.cell (p := ⟨w.heap.size, 0, none⟩) hlr).trans c0; have s4 := (hb6.cell (p := ⟨w.heap.size, 1, none⟩) hlr).trans c1))
          go_wp2
          go_ret
          exact ⟨ret_bool HIN.out.symm, hb.trans (hb6.mono hB)⟩
        · have HNE : Hid ((q1, q2) ≠ (p1, p2)) := Lib.hid (fun e => hBB (Prod.mk.inj e).2)
          have t2 : (q2 == p2) = false := by simpa using hBB
          subst hA
          have t1 : (q1 == q1) = true := by simp
          clear hBB
          go_wp2
          go_region_held3 (fun w' => w'.cell? ⟨b, o + k * 2, none⟩ = some (.string ⟨y1.toArray⟩) ∧ w'.cell? ⟨b, o + k * 2 + 1, none⟩ = some (.string ⟨y2.toArray⟩) ∧ w'.cell? ⟨w.heap.size, 0, none⟩ = some (.string ⟨q1.toArray⟩) ∧ w'.cell? ⟨w.heap.size, 1, none⟩ = some (.string ⟨p2.toArray⟩)) (go_keep)
          (first | (go_at_call 123; refine (ref_pair _ y1 y2 q1 q2 HQ.out).mono ?_; rintro e w5 ⟨rfl, hb5⟩; have hb6 : Below wr.heap.size wr w5 := ((Below.refl _ _).drew).trans hb5; have s1 := (hb6.cell (p := ⟨b, o + k * 2, none⟩) hlb).trans g1; have s2 := (hb6.cell (p := ⟨b, o + k * 2 + 1, none⟩) hlb).trans g2; have s3 := (hb6.cell (p := ⟨w.heap.size, 0, none⟩) hlr).trans c0; have s4 := (hb6.cell (p := ⟨w.heap.size, 1, none⟩) hlr).trans c1))
          go_wp2
          go_roundw
          case rel => exact ⟨k + 1, by omega, by go_num, Lib.hid (by
            rw [take_snoc HY.out]
            intro z hz
            rcases List.mem_append.1 hz with hz | hz
            · exact HN.out z hz
            · simp at hz; rw [hz, HQ.out]; exact HNE.out), hb.trans (hb6.mono hB), HR.out.below hb6 hlr⟩
          case measure => simp [intOf]; omega
      · have HNE : Hid ((q1, q2) ≠ (p1, p2)) := Lib.hid (fun e => hA (Prod.mk.inj e).1)
        have t1 : (q1 == p1) = false := by simpa using hA
        clear hA
        go_wp2
        go_region_held3 (fun w' => w'.cell? ⟨b, o + k * 2, none⟩ = some (.string ⟨y1.toArray⟩) ∧ w'.cell? ⟨b, o + k * 2 + 1, none⟩ = some (.string ⟨y2.toArray⟩) ∧ w'.cell? ⟨w.heap.size, 0, none⟩ = some (.string ⟨p1.toArray⟩) ∧ w'.cell? ⟨w.heap.size, 1, none⟩ = some (.string ⟨p2.toArray⟩)) (go_keep)
          (first | (go_at_call 123; refine (ref_pair _ y1 y2 q1 q2 HQ.out).mono ?_; rintro e w5 ⟨rfl, hb5⟩; have hb6 : Below wr.heap.size wr w5 := ((Below.refl _ _).drew).trans hb5; have s1 := (hb6.cell (p := ⟨b, o + k * 2, none⟩) hlb).trans g1; have s2 := (hb6.cell (p := ⟨b, o + k * 2 + 1, none⟩) hlb).trans g2; have s3 := (hb6.cell (p := ⟨w.heap.size, 0, none⟩) hlr).trans c0; have s4 := (hb6.cell (p := ⟨w.heap.size, 1, none⟩) hlr).trans c1))
        go_wp2
        go_roundw
        case rel => exact ⟨k + 1, by omega, by go_num, Lib.hid (by
          rw [take_snoc HY.out]
          intro z hz
          rcases List.mem_append.1 hz with hz | hz
          · exact HN.out z hz
          · simp at hz; rw [hz, HQ.out]; exact HNE.out), hb.trans (hb6.mono hB), HR.out.below hb6 hlr⟩
        case measure => simp [intOf]; omega
    · obtain rfl : k = l.length := by omega
      rw [List.take_length] at HN
      go_wp2
      go_ret
      exact ⟨ret_bool (decide_eq_false fun h => by obtain ⟨y, h1, h2⟩ := List.mem_map.1 h; exact HN.out y h1 h2).symm, hb⟩
end Go.Proofs.Ytieclecpjjfhfaa
