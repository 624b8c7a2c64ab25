/- slices.Compact at pairs. -/
import Derived.Test.YtignhjfobcnloaaSubSorted
import Derived.Laws.StructEq
import Derived.Deep.QuietTactic
import Derived.BigQuiet
namespace Go.Proofs.Ytignhjfobcnloaa
open Go.RowKit Go.Shelf Go.Lib Go.Sort
theorem compactS_eq : ∀ (l : List PairD), compactS l = compact l
  | [] => rfl
  | [x] => by simp [compactS, compact, compactUpTo, keeps, List.range_succ]
  | x :: y :: r => by rw [compactS, compact_cons, compactS_eq (y :: r)]
theorem stoodPair : Try.prog.stoodInHeld 39 = false := by kernel_rfl
/-- what the row says of element i -/
theorem Row.pairAt {w : World} {g : Nat} {d : Array PairD} (h : Row w g 39 (flatK pairCells 2 d)) {i : Nat} (hi : i < d.size) {a b : List UInt8} (e : d[i]! = (a, b)) :
    w.cell? ⟨g, i * 2, none⟩ = some (.string ⟨a.toArray⟩) ∧ w.cell? ⟨g, i * 2 + 1, none⟩ = some (.string ⟨b.toArray⟩) ∧ w.frozen? ⟨g, i * 2, none⟩ = false ∧ w.frozen? ⟨g, i * 2 + 1, none⟩ = false := by
  have h0 := h.at0 hi
  have h1 := h.at1 hi
  rw [e] at h0 h1
  exact ⟨h0, h1, h.free _, h.free _⟩
theorem keeps_more {d : Array PairD} {k : Nat} (h : ∀ j, j < k → keeps d j = true) (hk : keeps d k = true) : ∀ j, j < k + 1 → keeps d j = true := by
  intro j hj
  by_cases e : j = k
  · rw [e]; exact hk
  · exact h j (by omega)
theorem compact_end {w : World} {g kk : Nat} {d dk : Array PairD} {vs : List Value} (h : Row w g 39 (setMany (flatK pairCells 2 dk) (kk * 2) vs)) (hI : CompInv d d.size kk dk) (hm : d.size ≤ maxLen) : PairsAt w (.slice (some ⟨g, 0, none⟩) kk d.size) (compactUpTo d d.size) := by
  have hlt := hI.lt
  have hsz := hI.size
  have := PairsAt.mk (w := w) (A := some ⟨g, 0, none⟩) (l := compactUpTo d d.size) (c := d.size) (by rw [hI.len]; omega) (by rw [hI.len]; omega) (fun i x hx => by
    have hi : i < kk := by have := (List.getElem?_eq_some_iff.1 hx).1; rw [hI.len] at this; exact this
    have e : dk[i]! = x := by have := hI.low i hi; rw [hx] at this; exact (Option.some.inj this).symm
    have key : ∀ c, c < 2 → w.cell? ⟨g, i * 2 + c, none⟩ = some ((pairCells x)[c]!) := fun c hc => by
      refine h.cell ?_
      have hlt2 : i * 2 + c < (flatK pairCells 2 dk).size := by simp; omega
      have g1 := get_setMany vs (kk * 2) (flatK pairCells 2 dk) (i * 2 + c) hlt2
      rw [if_neg (by omega)] at g1
      have g2 := flatK_at (enc := pairCells) dk (i := i) (c := c) (by omega) hc
      rw [e] at g2
      rw [getElem!_pos (flatK pairCells 2 dk) _ hlt2, getElem!_pos (setMany (flatK pairCells 2 dk) (kk * 2) vs) _ (by rw [size_setMany]; exact hlt2)] at g1
      rw [Array.getElem?_eq_getElem (by rw [size_setMany]; exact hlt2), g1, ← g2, Array.getElem?_eq_getElem hlt2]
    exact ⟨g, 0, rfl, by rw [Nat.zero_add]; exact key 0 (by decide), by rw [Nat.zero_add]; exact key 1 (by decide)⟩)
  rwa [hI.len] at this
set_option maxRecDepth 100000 in
set_option maxHeartbeats 4000000 in
theorem compact_any (l : List PairD) (hl : l.length ≤ 1000000000) : CompactOk l := by
  intro W g hR
  by_cases h2 : l.length < 2
  · exact compact_small l h2 W g hR
  obtain ⟨d, hd⟩ : ∃ d, d = l.toArray := ⟨_, rfl⟩
  have hds : l.length = d.size := by rw [hd]; simp
  have hfin : compactS l = compactUpTo d d.size := by rw [compactS_eq, compact, hd]; simp
  rw [← hd] at hR
  rw [hfin, hds]
  rw [hds] at h2 hl
  clear hfin hds hd
  have e1 : decide ((d.size : Int) < 2) = false := decide_eq_false (by omega)
  have hh := stoodPair
  have hmx : d.size ≤ maxLen := by unfold maxLen; omega
  have HMX := Lib.hid hmx
  clear hmx
  go_enter Try.func56, Try.ntmps56
  go_wp2
  go_loopw [3] (fun i wr => ∃ k : Nat, 1 ≤ k ∧ k ≤ d.size ∧ i = .int .i64 k ∧ Row wr g 39 (flatK pairCells 2 d) ∧ Below g W wr ∧ Hid (∀ j, j < k → keeps d j = true)) (fun i _ => d.size - (intOf i).toNat)
  case atStart => exact ⟨1, Nat.le_refl _, by omega, rfl, hR, Below.refl _ _ |>.mono (Nat.le_of_lt hR.lt), Lib.hid (keeps_lt_one d)⟩
  case round =>
    obtain ⟨k, hk1, hk, rfl, hr, hb, HA⟩ := hrel
    by_cases hlt : k < d.size
    · obtain ⟨⟨a, b⟩, hx⟩ : ∃ x, d[k]! = x := ⟨_, rfl⟩
      obtain ⟨⟨c, e⟩, hy⟩ : ∃ x, d[k - 1]! = x := ⟨_, rfl⟩
      obtain ⟨q0, q1, q2, q3⟩ := hr.pairAt hlt hx
      obtain ⟨r0, r1, r2, r3⟩ := hr.pairAt (i := k - 1) (by omega) hy
      have HX := Lib.hid hx
      have HY := Lib.hid hy
      have w1 : IntKind.i64.wrap ((k : Int) - 1) = (k : Int) - 1 := IntWalk.i64_in _ (by omega)
      have w2 : 0 ≤ (k : Int) - 1 := by omega
      have w3 : ((k : Int) - 1).toNat = k - 1 := by omega
      clear hx hy
      by_cases hac : a = c
      · by_cases hbe : b = e
        · subst hac hbe
          go_wp2
          go_quiet (fail)
          clear w1 w2 w3 q0 q1 q2 q3 r0 r1 r2 r3
          go_wp2
          go_loopw [3, 5] (fun s3 s5 wi => ∃ (kk k2 : Nat) (dk : Array PairD), s3 = .int .i64 kk ∧ s5 = .int .i64 k2 ∧ 1 ≤ k2 ∧ k + k2 ≤ d.size ∧ Row wi g 39 (flatK pairCells 2 dk) ∧ Below g W wi ∧ Hid (CompInv d (k + k2) kk dk)) (fun _ s5 _ => d.size - (intOf s5).toNat)
          case atStart => exact ⟨k, 1, d, rfl, rfl, Nat.le_refl _, by omega, hr.drewN _, below_drewN hb _, Lib.hid (CompInv.start HA.out (keeps_neg (by omega) (by rw [HX.out, HY.out])))⟩
          case round =>
            obtain ⟨kk, k2, dk, rfl, rfl, h1, hle, hri, hbi, HI⟩ := hrel
            have hkk := HI.out.lt
            have hsz := HI.out.size
            by_cases hlt2 : k + k2 < d.size
            · obtain ⟨⟨a2, b2⟩, hu⟩ : ∃ x, d[k + k2]! = x := ⟨_, rfl⟩
              obtain ⟨⟨c2, e2⟩, hv⟩ : ∃ x, d[k + k2 - 1]! = x := ⟨_, rfl⟩
              obtain ⟨⟨a3, b3⟩, ho⟩ : ∃ x, dk[kk]! = x := ⟨_, rfl⟩
              obtain ⟨q0, q1, q2, q3⟩ := hri.pairAt (i := k + k2) (by omega) ((HI.out.high (k + k2) (by omega)).trans hu)
              obtain ⟨r0, r1, r2, r3⟩ := hri.pairAt (i := k + k2 - 1) (by omega) ((HI.out.high (k + k2 - 1) (by omega)).trans hv)
              obtain ⟨o0, o1, o2, o3⟩ := hri.pairAt (i := kk) (by omega) ho
              rw [show (k + k2) * 2 = k * 2 + k2 * 2 by omega] at q0 q1 q2 q3
              rw [show (k + k2 - 1) * 2 = k * 2 + (k2 - 1) * 2 by omega] at r0 r1 r2 r3
              have HU := Lib.hid hu
              have HV := Lib.hid hv
              have v0 : k2 < d.size - k := by omega
              have v1 : IntKind.i64.wrap ((k2 : Int) - 1) = (k2 : Int) - 1 := IntWalk.i64_in _ (by omega)
              have v2 : 0 ≤ (k2 : Int) - 1 := by omega
              have v3 : ((k2 : Int) - 1).toNat = k2 - 1 := by omega
              clear hu hv ho
              by_cases hac2 : a2 = c2
              · by_cases hbe2 : b2 = e2
                · subst hac2 hbe2
                  go_wp2
                  go_quiet (fail)
                  clear v1 v2 v3
                  go_wp2
                  go_roundw
                  case rel => exact ⟨kk, k2 + 1, dk, rfl, by go_num, by omega, by omega, hri.drewN _, below_drewN hbi _, Lib.hid (HI.out.skip (keeps_neg (by omega) (by rw [HU.out, HV.out])))⟩
                  case measure => simp [intOf]; omega
                · have HNE : Hid ((a2, b2) ≠ (c2, e2)) := Lib.hid (fun e => hbe2 (Prod.mk.inj e).2)
                  subst hac2
                  go_wp2
                  go_quiet (fail)
                  clear v1 v2 v3
                  go_wp2
                  go_roundw
                  case rel => exact ⟨kk + 1, k2 + 1, dk.setIfInBounds kk (a2, b2), by go_num, by go_num, by omega, by omega, (Row.drewN hri _).setElem (enc := pairCells) (by omega) (a2, b2), ((below_drewN hbi _).setCell (p := ⟨g, kk * 2, none⟩) (Nat.le_refl _) _).setCell (p := ⟨g, kk * 2 + 1, none⟩) (Nat.le_refl _) _, Lib.hid (by have := HI.out.keep (by omega) (keeps_pos (by rw [HU.out, HV.out]; exact HNE.out)); rwa [HU.out] at this)⟩
                  case measure => simp [intOf]; omega
              · have HNE : Hid ((a2, b2) ≠ (c2, e2)) := Lib.hid (fun e => hac2 (Prod.mk.inj e).1)
                go_wp2
                go_quiet (fail)
                clear v1 v2 v3
                go_wp2
                go_roundw
                case rel => exact ⟨kk + 1, k2 + 1, dk.setIfInBounds kk (a2, b2), by go_num, by go_num, by omega, by omega, (Row.drewN hri _).setElem (enc := pairCells) (by omega) (a2, b2), ((below_drewN hbi _).setCell (p := ⟨g, kk * 2, none⟩) (Nat.le_refl _) _).setCell (p := ⟨g, kk * 2 + 1, none⟩) (Nat.le_refl _) _, Lib.hid (by have := HI.out.keep (by omega) (keeps_pos (by rw [HU.out, HV.out]; exact HNE.out)); rwa [HU.out] at this)⟩
                case measure => simp [intOf]; omega
            · have hend : k + k2 = d.size := by omega
              have v0 : ¬ k2 < d.size - k := by omega
              have v1 : kk < d.size := by omega
              have HI2 : Hid (CompInv d d.size kk dk) := Lib.hid (by rw [← hend]; exact HI.out)
              obtain ⟨vs, hvs, hcl⟩ : ∃ vs : List Value, vs.length = (d.size - kk) * 2 ∧ ∀ ty, (Builtin.clear_ #[36] ty #[.slice (some ⟨g, kk * 2, none⟩) (d.size - kk) (d.size - kk)]).run Try.prog wr = .ok (.tuple #[]) (wr.setCells g (kk * 2) vs) := by
                obtain ⟨vs, h1, h2⟩ := run_clear2 (P := Try.prog) wr 36 39 0 (.string ⟨#[]⟩) (.string ⟨#[]⟩) Try.underlying36 (fun w => by kernel_rfl) rfl rfl g (kk * 2) (d.size - kk) (d.size - kk) (by omega) (fun j hj => by
                  have hlt3 : kk * 2 + j < (flatK pairCells 2 dk).size := by simp; omega
                  rw [hri.cell (Array.getElem?_eq_getElem hlt3)]; rfl) (fun j _ => hri.free _)
                exact ⟨vs, h1, fun ty => by rw [← h2]; rfl⟩
              clear hend hvs
              go_wp2
              go_ret
              exact ⟨_, rfl, compact_end (Row.setCells vs _ _ _ hri) HI2.out HMX.out, below_setCells (Nat.le_refl _) vs _ _ hbi⟩
        · have HNE : Hid ((a, b) ≠ (c, e)) := Lib.hid (fun h => hbe (Prod.mk.inj h).2)
          subst hac
          go_wp2
          go_quiet (fail)
          clear w1 w2 w3
          go_wp2
          go_roundw
          case rel => exact ⟨k + 1, by omega, by omega, by go_num, hr.drewN _, below_drewN hb _, Lib.hid (keeps_more HA.out (keeps_pos (by rw [HX.out, HY.out]; exact HNE.out)))⟩
          case measure => simp [intOf]; omega
      · have HNE : Hid ((a, b) ≠ (c, e)) := Lib.hid (fun h => hac (Prod.mk.inj h).1)
        go_wp2
        go_quiet (fail)
        clear w1 w2 w3
        go_wp2
        go_roundw
        case rel => exact ⟨k + 1, by omega, by omega, by go_num, hr.drewN _, below_drewN hb _, Lib.hid (keeps_more HA.out (keeps_pos (by rw [HX.out, HY.out]; exact HNE.out)))⟩
        case measure => simp [intOf]; omega
    · obtain rfl : k = d.size := by omega
      go_wp2
      go_ret
      refine ⟨_, rfl, ?_, hb⟩
      rw [compactUpTo_all d d.size HA.out, range_map_get]
      have := pairs_of_row hr (k := d.size) (c := d.size) (Nat.le_refl _) (Nat.le_refl _) HMX.out
      rwa [List.take_of_length_le (by simp)] at this
end Go.Proofs.Ytignhjfobcnloaa
