/- Sorted of the reference. -/
import Derived.Test.YtieclecpjjfhfaaRefReq
import Derived.Test.YtieclecpjjfhfaaAppRds
import Derived.Deep.QuietTactic
import Derived.BigQuiet
namespace Go.Proofs.Ytieclecpjjfhfaa
open Go.RowKit Go.Shelf
theorem flat_take2 (l : List PairD) (t : Nat) : (l.flatMap pairCells).take (t * 2) = (l.take t).flatMap pairCells := by
  induction l generalizing t with
  | nil => simp
  | cons a l ih =>
    cases t with
    | zero => simp
    | succ t =>
      rw [List.flatMap_cons, List.take_succ_cons, List.flatMap_cons, show (t + 1) * 2 = (pairCells a).length + t * 2 by simp [pairCells]; omega, List.take_length_add_append, ih]
theorem flat_drop2 (l : List PairD) (t : Nat) : (l.flatMap pairCells).drop (t * 2) = (l.drop t).flatMap pairCells := by
  induction l generalizing t with
  | nil => simp
  | cons a l ih =>
    cases t with
    | zero => simp
    | succ t =>
      rw [List.flatMap_cons, List.drop_succ_cons, show (t + 1) * 2 = (pairCells a).length + t * 2 by simp [pairCells]; omega, List.drop_length_add_append, ih]
theorem rds_take {w : World} {g o n c t : Nat} {xs : List Value} (h : Rds w 2 (.slice (some ⟨g, o, none⟩) n c) n xs) (ht : t ≤ n) : Rds w 2 (.slice (some ⟨g, o, none⟩) t c) t (xs.take (t * 2)) := by
  obtain ⟨A, c', hv, hc, hm, hl, hr⟩ := h
  obtain ⟨rfl, _, rfl⟩ := (by simpa using hv : some ⟨g, o, none⟩ = A ∧ True ∧ c = c')
  refine ⟨_, _, rfl, by omega, by omega, by rw [List.length_take]; omega, fun h0 => ?_⟩
  obtain ⟨b, o', ha, hx⟩ := hr (by omega)
  exact ⟨b, o', ha, fun j u hu => hx j u (by
    rw [List.getElem?_take] at hu
    split at hu
    · exact hu
    · cases hu)⟩
theorem rds_drop {w : World} {g o n c t : Nat} {xs : List Value} (h : Rds w 2 (.slice (some ⟨g, o, none⟩) n c) n xs) (ht : t ≤ n) : Rds w 2 (.slice (some ⟨g, o + t * 2, none⟩) (n - t) (c - t)) (n - t) (xs.drop (t * 2)) := by
  obtain ⟨A, c', hv, hc, hm, hl, hr⟩ := h
  obtain ⟨rfl, _, rfl⟩ := (by simpa using hv : some ⟨g, o, none⟩ = A ∧ True ∧ c = c')
  refine ⟨_, _, rfl, by omega, by omega, by rw [List.length_drop, hl]; omega, fun h0 => ?_⟩
  obtain ⟨b, o', ha, hx⟩ := hr (by omega)
  obtain ⟨rfl, rfl⟩ := (by simpa using ha : g = b ∧ o = o')
  refine ⟨_, _, rfl, fun j u hu => ?_⟩
  rw [List.getElem?_drop] at hu
  have := hx _ u hu
  rwa [← Nat.add_assoc] at this
theorem Rds.none_ {w : World} {v : Value} (h : ∃ A c, v = .slice A 0 c) : Rds w 2 v 0 [] := by
  obtain ⟨A, c, rfl⟩ := h
  exact ⟨A, c, rfl, Nat.zero_le _, Nat.zero_le _, rfl, fun h => absurd h (Nat.lt_irrefl _)⟩
theorem pair_one {l : List PairD} {u : Value} (h : u ∈ l.flatMap pairCells) : u.oneCell' = true := by
  obtain ⟨x, _, hu⟩ := List.mem_flatMap.1 h
  simp [pairCells] at hu
  rcases hu with rfl | rfl <;> rfl
theorem pair_cells {w : World} {b g c n : Nat} {l : List PairD} {t : Nat} {x1 x2 : List UInt8} (h : w.ownsRow b 124 2 (.slice (some ⟨g, 0, none⟩) n c) n (l.flatMap pairCells)) (hx : l[t]? = some (x1, x2)) : w.cell? ⟨g, t * 2, none⟩ = some (.string ⟨x1.toArray⟩) ∧ w.cell? ⟨g, t * 2 + 1, none⟩ = some (.string ⟨x2.toArray⟩) := by
  obtain ⟨f1, f2⟩ := pairs_flat_at hx
  have h1 := h.cells (g := g) rfl _ _ f1
  have h2 := h.cells (g := g) rfl _ _ f2
  rw [addr_add, Nat.zero_add] at h1 h2
  exact ⟨h1, h2⟩
theorem old_cells {B : Nat} {a b c : World} (h : ∀ p : Addr, p.block < B → b.cell? p = a.cell? p) (k : ∀ p : Addr, p.block < B → c.cell? p = b.cell? p) : ∀ p : Addr, p.block < B → c.cell? p = a.cell? p := fun p hp => (k p hp).trans (h p hp)
attribute [local go_sem ↓] Go.wp_at_zero Go.wp_at_succ
set_option maxRecDepth 100000 in
set_option maxHeartbeats 8000000 in
theorem ref_sorted (w : World) (v : Value) (l : List PairD) (h : PairsAt w v l) (hl : l.length ≤ 1000000) :
    Calls Try.prog 63 #[v] w fun e w' => ∃ u, e = .returned u ∧ PairsAt w' u (sortedS l) ∧ Below w.heap.size w w' := by
  have h0 := h
  obtain ⟨A, c, rfl, hc, hm, _⟩ := h.open_
  unfold maxLen at hm
  have hst := stoodPair
  obtain ⟨i0, hi, hj0, hj1, hj2⟩ := info_parts infoPair
  clear h
  go_enter Try.func63, Try.ntmps63
  go_wp2
  go_loopw [3, 4] (fun ov iv wr => ∃ (k g cp : Nat), k ≤ l.length ∧ iv = .int .i64 k ∧ ov = .slice (some ⟨g, 0, none⟩) (refSort (l.take k)).length cp ∧ wr.ownsRow w.heap.size 124 2 ov (refSort (l.take k)).length ((refSort (l.take k)).flatMap pairCells) ∧ Below w.heap.size w wr) (fun _ iv _ => l.length - (intOf iv).toNat)
  case atStart => exact ⟨0, _, _, Nat.zero_le _, rfl, rfl, World.ownsRow_made _ _ _ (Nat.le_refl _) (by decide) rfl, new_ (Below.refl _ _) _⟩
  case round =>
    obtain ⟨k, g, cp, hk, rfl, rfl, hown, hb⟩ := hrel
    obtain ⟨wo, rfl⟩ : ∃ wo : World, wo = wr := ⟨_, rfl⟩
    have hB := hb.size
    obtain ⟨L, hL⟩ : ∃ L, L = refSort (l.take k) := ⟨_, rfl⟩
    have HL := Lib.hid hL
    have hn : L.length ≤ k := by rw [hL]; have := refSort_len (l.take k); rw [List.length_take] at this; omega
    rw [← hL] at hown ⊢
    clear hL
    by_cases hlt : k < l.length
    · obtain ⟨y, hy⟩ : ∃ y, l[k]? = some y := ⟨_, List.getElem?_eq_getElem hlt⟩
      obtain ⟨A', c', hvv, _, _, hx⟩ := (h0.below hb).open_
      obtain ⟨rfl, _, rfl⟩ := (by simpa using hvv : A = A' ∧ True ∧ c = c')
      obtain ⟨b, o, rfl, g1, g2⟩ := hx k y hy
      have HY := Lib.hid hy
      obtain ⟨y1, y2⟩ := y
      obtain ⟨p1, p2, hq⟩ : ∃ p1 p2, orderedS (y1, y2) = (p1, p2) := ⟨_, _, rfl⟩
      have HQ := Lib.hid hq
      have HSN : Hid (refSort (l.take (k + 1)) = insS L (p1, p2)) := Lib.hid (by rw [take_snoc HY.out, refSort_snoc, HL.out, hq])
      have k0 : (0 : Int) ≤ (k : Int) := Int.natCast_nonneg _
      have k1 : (k : Int) < (l.length : Int) := by omega
      have hlb := block_lt_of_cell g1
      dsimp only at g1 g2 hlb
      have HO := Lib.hid hown
      clear hx hvv hy hq hown
      go_upto_region 5 with fail
      go_cut [5] (fun s5 wx => ∃ g5 : Nat, s5 = .pointer (some ⟨g5, 0, none⟩) ∧ Row wx g5 124 #[.string ⟨p1.toArray⟩, .string ⟨p2.toArray⟩] ∧ Below wo.heap.size wo wx ∧ wo.heap.size ≤ g5)
      case first =>
        have n1 := World.new_ne wo _ g1
        have n2 := World.new_ne wo _ g2
        go_region_held3 (fun w' => w'.cell? ⟨b, o + k * 2, none⟩ = some (.string ⟨y1.toArray⟩) ∧ w'.cell? ⟨b, o + k * 2 + 1, none⟩ = some (.string ⟨y2.toArray⟩)) (go_keep)
          (first | (go_at_call 123; refine (ref_pair _ y1 y2 p1 p2 HQ.out).mono ?_; rintro e w5 ⟨rfl, hb5⟩; have hb6 : Below wo.heap.size wo w5 := (by first | exact ((Below.refl _ _).drew).trans hb5 | exact ((new_ (Below.refl _ _) _).drew).trans (hb5.mono (by simp))); have s1 := (hb6.cell (p := ⟨b, o + k * 2, none⟩) hlb).trans g1; have s2 := (hb6.cell (p := ⟨b, o + k * 2 + 1, none⟩) hlb).trans g2; (first | (have hr6 : Row w5 wo.heap.size 124 #[.string ⟨#[]⟩, .string ⟨#[]⟩] := (Row.drew (Row.new wo _ _)).below hb5 (by simp); have d0 := hr6.cell (i := 0) (v := .string ⟨#[]⟩) rfl; have d1 := hr6.cell (i := 1) (v := .string ⟨#[]⟩) rfl; have f0 := hr6.free) | skip)))
        all_goals go_wp2_with fail
        all_goals go_meet
        · exact ⟨w5.heap.size, rfl, Row.new w5 _ _, new_ hb6 _, hb6.size⟩
        · exact ⟨wo.heap.size, rfl, (hr6.set 0 _).set 1 _, (hb6.setCell (p := ⟨wo.heap.size, 0, none⟩) (Nat.le_refl _) _).setCell (p := ⟨wo.heap.size, 1, none⟩) (Nat.le_refl _) _, Nat.le_refl _⟩
      case rest =>
        obtain ⟨g5, rfl, hr5, hb5, hg5⟩ := hcut
        have hO5 := own_below HO.out hb5
        have hcn : L.length ≤ cp := by
          rcases hO5.2 with ⟨e, _⟩ | ⟨g', cap', cur', e, _, _, h3, _⟩
          · cases e
          · obtain ⟨_, rfl⟩ := (by simpa using e : g = g' ∧ cp = cap')
            exact h3
        have hcm : cp ≤ 9223372036854775807 := by
          rcases hO5.2 with ⟨e, _⟩ | ⟨g', cap', cur', e, _, _, _, h4, _⟩
          · cases e
          · obtain ⟨_, rfl⟩ := (by simpa using e : g = g' ∧ cp = cap')
            unfold maxLen at h4; omega
        clear HO g1 g2
        go_wp2
        go_loopw [6] (fun av wy => ∃ t : Nat, t ≤ L.length ∧ av = .int .i64 t ∧ Hid (∀ x ∈ L.take t, ltP x (p1, p2)) ∧ wy.ownsRow w.heap.size 124 2 (.slice (some ⟨g, 0, none⟩) L.length cp) L.length (L.flatMap pairCells) ∧ Below wo.heap.size wo wy ∧ Row wy g5 124 #[.string ⟨p1.toArray⟩, .string ⟨p2.toArray⟩]) (fun av _ => L.length - (intOf av).toNat)
        case atStart => exact ⟨0, Nat.zero_le _, rfl, Lib.hid (by simp), hO5, hb5, hr5⟩
        case round =>
          obtain ⟨t, ht, rfl, HT, hown, hbz, hrz⟩ := hrel
          have hzz := hbz.size
          have hlr := hrz.lt
          have hgl : g < wr.heap.size := (hown.lt g rfl).2
          have c0 := hrz.cell (i := 0) (v := .string ⟨p1.toArray⟩) rfl
          have c1 := hrz.cell (i := 1) (v := .string ⟨p2.toArray⟩) rfl
          have HRZ := Lib.hid hrz
          by_cases htl : t < L.length
          · obtain ⟨⟨x1, x2⟩, hx⟩ : ∃ x, L[t]? = some x := ⟨_, List.getElem?_eq_getElem htl⟩
            have HX := Lib.hid hx
            obtain ⟨q1, q2⟩ := pair_cells hown hx
            have HO := Lib.hid hown
            have k2 : (0 : Int) ≤ (t : Int) := Int.natCast_nonneg _
            have k3 : (t : Int) < (L.length : Int) := by omega
            have k4 : decide (t < L.length) = true := decide_eq_true htl
            clear hx hown hrz
            by_cases hz : ltP (x1, x2) (p1, p2)
            · have HZ := Lib.hid (decide_eq_true hz)
              have HZP := Lib.hid hz
              clear hz
              go_wp2
              go_region_held3 (fun w' => w'.cell? ⟨g, t * 2, none⟩ = some (.string ⟨x1.toArray⟩) ∧ w'.cell? ⟨g, t * 2 + 1, none⟩ = some (.string ⟨x2.toArray⟩) ∧ w'.cell? ⟨g5, 0, none⟩ = some (.string ⟨p1.toArray⟩) ∧ w'.cell? ⟨g5, 1, none⟩ = some (.string ⟨p2.toArray⟩)) (go_keep)
                (first | (go_at_call 124; refine (ref_less _ (x1, x2) (p1, p2) true HZ.out).mono ?_; rintro e w6 ⟨rfl, hb6⟩; have HB6 := Lib.hid (show Below wr.heap.size wr w6 from ((Below.refl _ _).drew).trans hb6); have s1 := (HB6.out.cell (p := ⟨g, t * 2, none⟩) hgl).trans q1; have s2 := (HB6.out.cell (p := ⟨g, t * 2 + 1, none⟩) hgl).trans q2; have s3 := (HB6.out.cell (p := ⟨g5, 0, none⟩) hlr).trans c0; have s4 := (HB6.out.cell (p := ⟨g5, 1, none⟩) hlr).trans c1; clear hb6))
              go_wp2
              go_roundw
              case rel => exact ⟨t + 1, by omega, by go_num, Lib.hid (by
                rw [take_snoc HX.out]
                intro u hu
                rcases List.mem_append.1 hu with hu | hu
                · exact HT.out u hu
                · simp at hu; rw [hu]; exact HZP.out), own_below HO.out HB6.out, hbz.trans (HB6.out.mono hzz), HRZ.out.below HB6.out hlr⟩
              case measure => simp [intOf]; omega
            · have HZ := Lib.hid (decide_eq_false hz)
              have HAT := Lib.hid (insS_at (p1, p2) L t ht HT.out (fun u hu => by rw [HX.out] at hu; cases hu; exact hz))
              clear hz
              by_cases hA : x1 = p1
              · by_cases hBB : x2 = p2
                · subst hA hBB
                  have HEQ : Hid (refSort (l.take (k + 1)) = L) := Lib.hid (by rw [HSN.out, HAT.out, if_pos HX.out])
                  have t1 : (x1 == x1) = true := by simp
                  have t2 : (x2 == x2) = true := by simp
                  go_wp2
                  go_region_held3 (fun w' => w'.cell? ⟨g, t * 2, none⟩ = some (.string ⟨x1.toArray⟩) ∧ w'.cell? ⟨g, t * 2 + 1, none⟩ = some (.string ⟨x2.toArray⟩) ∧ w'.cell? ⟨g5, 0, none⟩ = some (.string ⟨x1.toArray⟩) ∧ w'.cell? ⟨g5, 1, none⟩ = some (.string ⟨x2.toArray⟩)) (go_keep)
                    (first | (go_at_call 124; refine (ref_less _ (x1, x2) (x1, x2) false HZ.out).mono ?_; rintro e w6 ⟨rfl, hb6⟩; have HB6 := Lib.hid (show Below wr.heap.size wr w6 from ((Below.refl _ _).drew).trans hb6); have s1 := (HB6.out.cell (p := ⟨g, t * 2, none⟩) hgl).trans q1; have s2 := (HB6.out.cell (p := ⟨g, t * 2 + 1, none⟩) hgl).trans q2; have s3 := (HB6.out.cell (p := ⟨g5, 0, none⟩) hlr).trans c0; have s4 := (HB6.out.cell (p := ⟨g5, 1, none⟩) hlr).trans c1; clear hb6))
                  go_wp2
                  go_quiet (fail)
                  go_wp2
                  go_roundw
                  case rel => exact ⟨k + 1, g, cp, by omega, by go_num, by rw [HEQ.out], by rw [HEQ.out]; exact own_below HO.out (below_drewN HB6.out _), below_drewN (hb.trans ((hbz.trans (HB6.out.mono hzz)).mono hB)) _⟩
                  case measure => simp [intOf]; omega
                · have HINS : Hid (refSort (l.take (k + 1)) = L.take t ++ (p1, p2) :: L.drop t) := Lib.hid (by rw [HSN.out, HAT.out, if_neg (by rw [HX.out]; intro e; exact hBB (Prod.mk.inj (Option.some.inj e)).2)])
                  have t2 : (x2 == p2) = false := by simpa using hBB
                  subst hA
                  have t1 : (x1 == x1) = true := by simp
                  clear hBB
                  go_wp2
                  go_region_held3 (fun w' => w'.cell? ⟨g, t * 2, none⟩ = some (.string ⟨x1.toArray⟩) ∧ w'.cell? ⟨g, t * 2 + 1, none⟩ = some (.string ⟨x2.toArray⟩) ∧ w'.cell? ⟨g5, 0, none⟩ = some (.string ⟨x1.toArray⟩) ∧ w'.cell? ⟨g5, 1, none⟩ = some (.string ⟨p2.toArray⟩)) (go_keep)
                    (first | (go_at_call 124; refine (ref_less _ (x1, x2) (x1, p2) false HZ.out).mono ?_; rintro e w6 ⟨rfl, hb6⟩; have HB6 := Lib.hid (show Below wr.heap.size wr w6 from ((Below.refl _ _).drew).trans hb6); have s1 := (HB6.out.cell (p := ⟨g, t * 2, none⟩) hgl).trans q1; have s2 := (HB6.out.cell (p := ⟨g, t * 2 + 1, none⟩) hgl).trans q2; have s3 := (HB6.out.cell (p := ⟨g5, 0, none⟩) hlr).trans c0; have s4 := (HB6.out.cell (p := ⟨g5, 1, none⟩) hlr).trans c1; clear hb6))
                  go_wp2
                  go_quiet (fail)
                  rename_i nq
                  obtain ⟨wy, hwy⟩ : ∃ wy : World, wy = w6.drewN nq := ⟨_, rfl⟩
                  rw [← hwy]
                  have HBY : Hid (Below wo.heap.size wo wy) := Lib.hid (by rw [hwy]; exact below_drewN (hbz.trans (HB6.out.mono hzz)) _)
                  have HOY : Hid (wy.ownsRow w.heap.size 124 2 (.slice (some ⟨g, 0, none⟩) L.length cp) L.length (L.flatMap pairCells)) := Lib.hid (by rw [hwy]; exact own_below HO.out (below_drewN HB6.out _))
                  have HR5 : Hid (Row wy g5 124 #[.string ⟨x1.toArray⟩, .string ⟨p2.toArray⟩]) := Lib.hid (by rw [hwy]; exact HRZ.out.below (below_drewN HB6.out _) hlr)
                  have HTK : Hid (Rds wy 2 (.slice (some ⟨g, 0, none⟩) t cp) t ((L.take t).flatMap pairCells)) := Lib.hid (by have := rds_take (Rds.of_own HOY.out) ht; rwa [flat_take2] at this)
                  have hzy := HBY.out.size
                  have HLEN : Hid ((t + 1) + (L.length - t) = (refSort (l.take (k + 1))).length) := Lib.hid (by rw [HINS.out, List.length_append, List.length_cons, List.length_take, List.length_drop]; omega)
                  clear hwy q1 q2 c0 c1 s1 s2 s3 s4 t1
                  go_wp2_with (first
                    | (at_builtin; (refine wpList_append_rds rfl (.tmp 52) (.tmp 55) 23 rfl wy.heap.size 124 i0 (.agg #[.string ⟨#[]⟩, .string ⟨#[]⟩]) 2 32 Try.underlying23 hi hj0 hj1 hj2 rfl (by decide) _ 0 [] rfl (World.ownsRow_made _ _ _ (Nat.le_refl _) (by decide) rfl) (.slice (some ⟨g, 0, none⟩) t cp) t ((L.take t).flatMap pairCells) rfl (Rds.alloc HTK.out _) (by intro u hu; exact pair_one hu) (by unfold maxLen; omega) (by omega) (by simp) ?_; intro v7 w7 hown7 hg7; have hb7 : Below wo.heap.size wo w7 := (new_ HBY.out _).grown hg7 (by simp; have := HBY.out.size; omega) (fun j ej => by cases ej; exact HBY.out.size); have hz7 := hg7.size; have HK7 : Hid (∀ p : Addr, p.block < wy.heap.size → w7.cell? p = wy.cell? p) := Lib.hid (fun p hp => (hg7.cell_far p (by simp; omega) (fun e => absurd hp (by rw [show p.block = wy.heap.size from Option.some.inj e]; exact Nat.lt_irrefl _))).trans ((new_ (Below.refl wy.heap.size wy) _).cell hp)); have HO7 := Lib.hid ((own_alloc HOY.out _).kept hg7 (.inr (fun e => absurd (HOY.out.lt wy.heap.size e).2 (Nat.lt_irrefl _)))); have hr7 := (Row.alloc HR5.out _).grown hg7 (fun e => absurd HR5.out.lt (by rw [show g5 = wy.heap.size from Option.some.inj e]; exact Nat.lt_irrefl _)); have c70 := hr7.cell (i := 0) (v := .string ⟨x1.toArray⟩) rfl; have c71 := hr7.cell (i := 1) (v := .string ⟨p2.toArray⟩) rfl; simp only [Nat.zero_add, List.nil_append] at hown7; obtain ⟨va, vc, rfl, _⟩ := own_form hown7; have HB7 := Lib.hid hb7; simp at hz7; clear hg7 hb7 hr7))
                    | (at_builtin; (refine wpList_append_own _ rfl (.tmp 57) (.tmp 59) 23 rfl wy.heap.size 124 i0 (.agg #[.string ⟨#[]⟩, .string ⟨#[]⟩]) 2 32 Try.underlying23 hi hj0 hj1 hj2 rfl (by decide) _ t _ rfl (own_alloc hown7 _) ⟨w7.heap.size, 0, none⟩ 1 1 [.string ⟨x1.toArray⟩, .string ⟨p2.toArray⟩] rfl rfl (cells_of' _ _ _ _ rfl rfl) (by simp [Value.oneCell']) (by unfold maxLen; omega) (by omega) (by simp; omega) ?_; intro v8 w8 hown8 hg8 _; have hz8 := hg8.size; simp at hz8; have HKY := Lib.hid (old_cells (B := wy.heap.size) HK7.out (fun p hp => ((hg8.cell_far p (by simp; omega) (fun e => by have := own_block hown7 _ e.symm; omega)).trans ((new_ (Below.refl w7.heap.size w7) _).cell (by omega))))); have HB8 := Lib.hid ((new_ HB7.out _).grown hg8 (by simp; have := HB7.out.size; omega) (fun j ej => Nat.le_trans HBY.out.size (own_block hown7 j ej))); have HO8 := Lib.hid ((own_alloc HO7.out _).kept hg8 (.inr (fun e => by have h1 := own_block hown7 g e.symm; have h2 := (HOY.out.lt g rfl).2; omega))); obtain ⟨g8, c8, rfl⟩ := ownsRow_succ hown8; have H8 := Lib.hid hown8; clear hown8 hg8))
                    | (at_builtin; (refine wpList_append_rds rfl (.tmp 61) (.tmp 64) 23 rfl wy.heap.size 124 i0 (.agg #[.string ⟨#[]⟩, .string ⟨#[]⟩]) 2 32 Try.underlying23 hi hj0 hj1 hj2 rfl (by decide) _ (t + 1) _ rfl H8.out (.slice (some ⟨g, t * 2, none⟩) (L.length - t) (cp - t)) (L.length - t) ((L.drop t).flatMap pairCells) rfl (Rds.keep (by have := rds_drop (Rds.of_own HOY.out) ht; rwa [flat_drop2, Nat.zero_add] at this) HKY.out) (by intro u hu; exact pair_one hu) (by unfold maxLen; omega) (by omega) (by omega) ?_; intro v9 w9 hown9 hg9; have HB9 := Lib.hid (HB8.out.grown hg9 (by have := HB8.out.size; omega) (fun j ej => Nat.le_trans HBY.out.size (own_block H8.out j ej))); obtain ⟨g9, c9, rfl⟩ := own_some hown9 (by omega); have H9 := Lib.hid hown9; clear hown9 hg9)))
                  go_roundw
                  case rel => exact ⟨k + 1, g9, c9, by omega, by go_num, by rw [HLEN.out], by rw [← HLEN.out]; exact own_base (by rw [HINS.out, List.flatMap_append, List.flatMap_cons, ← List.append_assoc]; simpa [pairCells, List.append_assoc] using H9.out) (Nat.le_trans hB HBY.out.size), hb.trans (HB9.out.mono hB)⟩
                  case measure => simp [intOf]; omega
              · have HINS : Hid (refSort (l.take (k + 1)) = L.take t ++ (p1, p2) :: L.drop t) := Lib.hid (by rw [HSN.out, HAT.out, if_neg (by rw [HX.out]; intro e; exact hA (Prod.mk.inj (Option.some.inj e)).1)])
                have t1 : (x1 == p1) = false := by simpa using hA
                clear hA
                go_wp2
                go_region_held3 (fun w' => w'.cell? ⟨g, t * 2, none⟩ = some (.string ⟨x1.toArray⟩) ∧ w'.cell? ⟨g, t * 2 + 1, none⟩ = some (.string ⟨x2.toArray⟩) ∧ w'.cell? ⟨g5, 0, none⟩ = some (.string ⟨p1.toArray⟩) ∧ w'.cell? ⟨g5, 1, none⟩ = some (.string ⟨p2.toArray⟩)) (go_keep)
                  (first | (go_at_call 124; refine (ref_less _ (x1, x2) (p1, p2) false HZ.out).mono ?_; rintro e w6 ⟨rfl, hb6⟩; have HB6 := Lib.hid (show Below wr.heap.size wr w6 from ((Below.refl _ _).drew).trans hb6); have s1 := (HB6.out.cell (p := ⟨g, t * 2, none⟩) hgl).trans q1; have s2 := (HB6.out.cell (p := ⟨g, t * 2 + 1, none⟩) hgl).trans q2; have s3 := (HB6.out.cell (p := ⟨g5, 0, none⟩) hlr).trans c0; have s4 := (HB6.out.cell (p := ⟨g5, 1, none⟩) hlr).trans c1; clear hb6))
                go_wp2
                go_quiet (fail)
                rename_i nq
                obtain ⟨wy, hwy⟩ : ∃ wy : World, wy = w6.drewN nq := ⟨_, rfl⟩
                rw [← hwy]
                have HBY : Hid (Below wo.heap.size wo wy) := Lib.hid (by rw [hwy]; exact below_drewN (hbz.trans (HB6.out.mono hzz)) _)
                have HOY : Hid (wy.ownsRow w.heap.size 124 2 (.slice (some ⟨g, 0, none⟩) L.length cp) L.length (L.flatMap pairCells)) := Lib.hid (by rw [hwy]; exact own_below HO.out (below_drewN HB6.out _))
                have HR5 : Hid (Row wy g5 124 #[.string ⟨p1.toArray⟩, .string ⟨p2.toArray⟩]) := Lib.hid (by rw [hwy]; exact HRZ.out.below (below_drewN HB6.out _) hlr)
                have HTK : Hid (Rds wy 2 (.slice (some ⟨g, 0, none⟩) t cp) t ((L.take t).flatMap pairCells)) := Lib.hid (by have := rds_take (Rds.of_own HOY.out) ht; rwa [flat_take2] at this)
                have hzy := HBY.out.size
                have HLEN : Hid ((t + 1) + (L.length - t) = (refSort (l.take (k + 1))).length) := Lib.hid (by rw [HINS.out, List.length_append, List.length_cons, List.length_take, List.length_drop]; omega)
                clear hwy q1 q2 c0 c1 s1 s2 s3 s4 t1
                go_wp2_with (first
                  | (at_builtin; (refine wpList_append_rds rfl (.tmp 52) (.tmp 55) 23 rfl wy.heap.size 124 i0 (.agg #[.string ⟨#[]⟩, .string ⟨#[]⟩]) 2 32 Try.underlying23 hi hj0 hj1 hj2 rfl (by decide) _ 0 [] rfl (World.ownsRow_made _ _ _ (Nat.le_refl _) (by decide) rfl) (.slice (some ⟨g, 0, none⟩) t cp) t ((L.take t).flatMap pairCells) rfl (Rds.alloc HTK.out _) (by intro u hu; exact pair_one hu) (by unfold maxLen; omega) (by omega) (by simp) ?_; intro v7 w7 hown7 hg7; have hb7 : Below wo.heap.size wo w7 := (new_ HBY.out _).grown hg7 (by simp; have := HBY.out.size; omega) (fun j ej => by cases ej; exact HBY.out.size); have hz7 := hg7.size; have HK7 : Hid (∀ p : Addr, p.block < wy.heap.size → w7.cell? p = wy.cell? p) := Lib.hid (fun p hp => (hg7.cell_far p (by simp; omega) (fun e => absurd hp (by rw [show p.block = wy.heap.size from Option.some.inj e]; exact Nat.lt_irrefl _))).trans ((new_ (Below.refl wy.heap.size wy) _).cell hp)); have HO7 := Lib.hid ((own_alloc HOY.out _).kept hg7 (.inr (fun e => absurd (HOY.out.lt wy.heap.size e).2 (Nat.lt_irrefl _)))); have hr7 := (Row.alloc HR5.out _).grown hg7 (fun e => absurd HR5.out.lt (by rw [show g5 = wy.heap.size from Option.some.inj e]; exact Nat.lt_irrefl _)); have c70 := hr7.cell (i := 0) (v := .string ⟨p1.toArray⟩) rfl; have c71 := hr7.cell (i := 1) (v := .string ⟨p2.toArray⟩) rfl; simp only [Nat.zero_add, List.nil_append] at hown7; obtain ⟨va, vc, rfl, _⟩ := own_form hown7; have HB7 := Lib.hid hb7; simp at hz7; clear hg7 hb7 hr7))
                  | (at_builtin; (refine wpList_append_own _ rfl (.tmp 57) (.tmp 59) 23 rfl wy.heap.size 124 i0 (.agg #[.string ⟨#[]⟩, .string ⟨#[]⟩]) 2 32 Try.underlying23 hi hj0 hj1 hj2 rfl (by decide) _ t _ rfl (own_alloc hown7 _) ⟨w7.heap.size, 0, none⟩ 1 1 [.string ⟨p1.toArray⟩, .string ⟨p2.toArray⟩] rfl rfl (cells_of' _ _ _ _ rfl rfl) (by simp [Value.oneCell']) (by unfold maxLen; omega) (by omega) (by simp; omega) ?_; intro v8 w8 hown8 hg8 _; have hz8 := hg8.size; simp at hz8; have HKY := Lib.hid (old_cells (B := wy.heap.size) HK7.out (fun p hp => ((hg8.cell_far p (by simp; omega) (fun e => by have := own_block hown7 _ e.symm; omega)).trans ((new_ (Below.refl w7.heap.size w7) _).cell (by omega))))); have HB8 := Lib.hid ((new_ HB7.out _).grown hg8 (by simp; have := HB7.out.size; omega) (fun j ej => Nat.le_trans HBY.out.size (own_block hown7 j ej))); have HO8 := Lib.hid ((own_alloc HO7.out _).kept hg8 (.inr (fun e => by have h1 := own_block hown7 g e.symm; have h2 := (HOY.out.lt g rfl).2; omega))); obtain ⟨g8, c8, rfl⟩ := ownsRow_succ hown8; have H8 := Lib.hid hown8; clear hown8 hg8))
                  | (at_builtin; (refine wpList_append_rds rfl (.tmp 61) (.tmp 64) 23 rfl wy.heap.size 124 i0 (.agg #[.string ⟨#[]⟩, .string ⟨#[]⟩]) 2 32 Try.underlying23 hi hj0 hj1 hj2 rfl (by decide) _ (t + 1) _ rfl H8.out (.slice (some ⟨g, t * 2, none⟩) (L.length - t) (cp - t)) (L.length - t) ((L.drop t).flatMap pairCells) rfl (Rds.keep (by have := rds_drop (Rds.of_own HOY.out) ht; rwa [flat_drop2, Nat.zero_add] at this) HKY.out) (by intro u hu; exact pair_one hu) (by unfold maxLen; omega) (by omega) (by omega) ?_; intro v9 w9 hown9 hg9; have HB9 := Lib.hid (HB8.out.grown hg9 (by have := HB8.out.size; omega) (fun j ej => Nat.le_trans HBY.out.size (own_block H8.out j ej))); obtain ⟨g9, c9, rfl⟩ := own_some hown9 (by omega); have H9 := Lib.hid hown9; clear hown9 hg9)))
                go_roundw
                case rel => exact ⟨k + 1, g9, c9, by omega, by go_num, by rw [HLEN.out], by rw [← HLEN.out]; exact own_base (by rw [HINS.out, List.flatMap_append, List.flatMap_cons, ← List.append_assoc]; simpa [pairCells, List.append_assoc] using H9.out) (Nat.le_trans hB HBY.out.size), hb.trans (HB9.out.mono hB)⟩
                case measure => simp [intOf]; omega
          · obtain rfl : t = L.length := by omega
            have HAT := Lib.hid (insS_at (p1, p2) L L.length (Nat.le_refl _) HT.out (fun u hu => by simp at hu))
            have HINS : Hid (refSort (l.take (k + 1)) = L.take L.length ++ (p1, p2) :: L.drop L.length) := Lib.hid (by rw [HSN.out, HAT.out, if_neg (by simp)])
            have k4 : decide (L.length < L.length) = false := decide_eq_false (Nat.lt_irrefl _)
            have HO := Lib.hid hown
            clear hown hrz
            go_wp2
            go_region
            go_wp2
            go_region
            obtain ⟨wy, hwy⟩ : ∃ wy : World, wy = wr.drew.drew := ⟨_, rfl⟩
            rw [← hwy]
            have HBY : Hid (Below wo.heap.size wo wy) := Lib.hid (by rw [hwy]; exact hbz.drew.drew)
            have HOY : Hid (wy.ownsRow w.heap.size 124 2 (.slice (some ⟨g, 0, none⟩) L.length cp) L.length (L.flatMap pairCells)) := Lib.hid (by rw [hwy]; exact HO.out)
            have HR5 : Hid (Row wy g5 124 #[.string ⟨p1.toArray⟩, .string ⟨p2.toArray⟩]) := Lib.hid (by rw [hwy]; exact HRZ.out)
            have HTK : Hid (Rds wy 2 (.slice (some ⟨g, 0, none⟩) L.length cp) L.length ((L.take L.length).flatMap pairCells)) := Lib.hid (by have := rds_take (Rds.of_own HOY.out) ht; rwa [flat_take2] at this)
            have hzy := HBY.out.size
            have HLEN : Hid (L.length + 1 = (refSort (l.take (k + 1))).length) := Lib.hid (by rw [HINS.out, List.length_append, List.length_cons, List.length_take, List.length_drop]; omega)
            clear hwy c0 c1
            by_cases hcp : cp = L.length
            · subst hcp
              go_wp2_with (first
                | (at_builtin; (refine wpList_append_rds rfl (.tmp 52) (.tmp 55) 23 rfl wy.heap.size 124 i0 (.agg #[.string ⟨#[]⟩, .string ⟨#[]⟩]) 2 32 Try.underlying23 hi hj0 hj1 hj2 rfl (by decide) _ 0 [] rfl (World.ownsRow_made _ _ _ (Nat.le_refl _) (by decide) rfl) (.slice (some ⟨g, 0, none⟩) L.length L.length) L.length ((L.take L.length).flatMap pairCells) rfl (Rds.alloc HTK.out _) (by intro u hu; exact pair_one hu) (by unfold maxLen; omega) (by omega) (by simp) ?_; intro v7 w7 hown7 hg7; have hb7 : Below wo.heap.size wo w7 := (new_ HBY.out _).grown hg7 (by simp; have := HBY.out.size; omega) (fun j ej => by cases ej; exact HBY.out.size); have hz7 := hg7.size; have HK7 : Hid (∀ p : Addr, p.block < wy.heap.size → w7.cell? p = wy.cell? p) := Lib.hid (fun p hp => (hg7.cell_far p (by simp; omega) (fun e => absurd hp (by rw [show p.block = wy.heap.size from Option.some.inj e]; exact Nat.lt_irrefl _))).trans ((new_ (Below.refl wy.heap.size wy) _).cell hp)); have HO7 := Lib.hid ((own_alloc HOY.out _).kept hg7 (.inr (fun e => absurd (HOY.out.lt wy.heap.size e).2 (Nat.lt_irrefl _)))); have hr7 := (Row.alloc HR5.out _).grown hg7 (fun e => absurd HR5.out.lt (by rw [show g5 = wy.heap.size from Option.some.inj e]; exact Nat.lt_irrefl _)); have c70 := hr7.cell (i := 0) (v := .string ⟨p1.toArray⟩) rfl; have c71 := hr7.cell (i := 1) (v := .string ⟨p2.toArray⟩) rfl; simp only [Nat.zero_add, List.nil_append] at hown7; obtain ⟨va, vc, rfl, _⟩ := own_form hown7; have HB7 := Lib.hid hb7; simp at hz7; clear hg7 hb7 hr7))
                | (at_builtin; (refine wpList_append_own _ rfl (.tmp 57) (.tmp 59) 23 rfl wy.heap.size 124 i0 (.agg #[.string ⟨#[]⟩, .string ⟨#[]⟩]) 2 32 Try.underlying23 hi hj0 hj1 hj2 rfl (by decide) _ L.length _ rfl (own_alloc hown7 _) ⟨w7.heap.size, 0, none⟩ 1 1 [.string ⟨p1.toArray⟩, .string ⟨p2.toArray⟩] rfl rfl (cells_of' _ _ _ _ rfl rfl) (by simp [Value.oneCell']) (by unfold maxLen; omega) (by omega) (by simp; omega) ?_; intro v8 w8 hown8 hg8 _; have hz8 := hg8.size; simp at hz8; have HKY := Lib.hid (old_cells (B := wy.heap.size) HK7.out (fun p hp => ((hg8.cell_far p (by simp; omega) (fun e => by have := own_block hown7 _ e.symm; omega)).trans ((new_ (Below.refl w7.heap.size w7) _).cell (by omega))))); have HB8 := Lib.hid ((new_ HB7.out _).grown hg8 (by simp; have := HB7.out.size; omega) (fun j ej => Nat.le_trans HBY.out.size (own_block hown7 j ej))); have HO8 := Lib.hid ((own_alloc HO7.out _).kept hg8 (.inr (fun e => by have h1 := own_block hown7 g e.symm; have h2 := (HOY.out.lt g rfl).2; omega))); obtain ⟨g8, c8, rfl⟩ := ownsRow_succ hown8; have H8 := Lib.hid hown8; clear hown8 hg8))
                | (at_builtin; (refine wpList_append_rds rfl (.tmp 61) (.tmp 64) 23 rfl wy.heap.size 124 i0 (.agg #[.string ⟨#[]⟩, .string ⟨#[]⟩]) 2 32 Try.underlying23 hi hj0 hj1 hj2 rfl (by decide) _ (L.length + 1) _ rfl H8.out (.slice (some ⟨g, 0, none⟩) (0) (0)) (0) [] rfl (Rds.none_ ⟨_, _, rfl⟩) (by simp) (by unfold maxLen; omega) (by omega) (by omega) ?_; intro v9 w9 hown9 hg9; have HB9 := Lib.hid (HB8.out.grown hg9 (by have := HB8.out.size; omega) (fun j ej => Nat.le_trans HBY.out.size (own_block H8.out j ej))); obtain ⟨g9, c9, rfl⟩ := own_some hown9 (by omega); have H9 := Lib.hid hown9; clear hown9 hg9)))
              go_roundw
              case rel => exact ⟨k + 1, g9, c9, by omega, by go_num, by rw [HLEN.out], by rw [← HLEN.out]; exact own_base (by rw [HINS.out, List.flatMap_append, List.flatMap_cons, ← List.append_assoc]; simpa [pairCells, List.append_assoc] using H9.out) (Nat.le_trans hB HBY.out.size), hb.trans (HB9.out.mono hB)⟩
              case measure => simp [intOf]; omega
            · have hcp2 : L.length < cp := by omega
              go_wp2_with (first
                | (at_builtin; (refine wpList_append_rds rfl (.tmp 52) (.tmp 55) 23 rfl wy.heap.size 124 i0 (.agg #[.string ⟨#[]⟩, .string ⟨#[]⟩]) 2 32 Try.underlying23 hi hj0 hj1 hj2 rfl (by decide) _ 0 [] rfl (World.ownsRow_made _ _ _ (Nat.le_refl _) (by decide) rfl) (.slice (some ⟨g, 0, none⟩) L.length cp) L.length ((L.take L.length).flatMap pairCells) rfl (Rds.alloc HTK.out _) (by intro u hu; exact pair_one hu) (by unfold maxLen; omega) (by omega) (by simp) ?_; intro v7 w7 hown7 hg7; have hb7 : Below wo.heap.size wo w7 := (new_ HBY.out _).grown hg7 (by simp; have := HBY.out.size; omega) (fun j ej => by cases ej; exact HBY.out.size); have hz7 := hg7.size; have HK7 : Hid (∀ p : Addr, p.block < wy.heap.size → w7.cell? p = wy.cell? p) := Lib.hid (fun p hp => (hg7.cell_far p (by simp; omega) (fun e => absurd hp (by rw [show p.block = wy.heap.size from Option.some.inj e]; exact Nat.lt_irrefl _))).trans ((new_ (Below.refl wy.heap.size wy) _).cell hp)); have HO7 := Lib.hid ((own_alloc HOY.out _).kept hg7 (.inr (fun e => absurd (HOY.out.lt wy.heap.size e).2 (Nat.lt_irrefl _)))); have hr7 := (Row.alloc HR5.out _).grown hg7 (fun e => absurd HR5.out.lt (by rw [show g5 = wy.heap.size from Option.some.inj e]; exact Nat.lt_irrefl _)); have c70 := hr7.cell (i := 0) (v := .string ⟨p1.toArray⟩) rfl; have c71 := hr7.cell (i := 1) (v := .string ⟨p2.toArray⟩) rfl; simp only [Nat.zero_add, List.nil_append] at hown7; obtain ⟨va, vc, rfl, _⟩ := own_form hown7; have HB7 := Lib.hid hb7; simp at hz7; clear hg7 hb7 hr7))
                | (at_builtin; (refine wpList_append_own _ rfl (.tmp 57) (.tmp 59) 23 rfl wy.heap.size 124 i0 (.agg #[.string ⟨#[]⟩, .string ⟨#[]⟩]) 2 32 Try.underlying23 hi hj0 hj1 hj2 rfl (by decide) _ L.length _ rfl (own_alloc hown7 _) ⟨w7.heap.size, 0, none⟩ 1 1 [.string ⟨p1.toArray⟩, .string ⟨p2.toArray⟩] rfl rfl (cells_of' _ _ _ _ rfl rfl) (by simp [Value.oneCell']) (by unfold maxLen; omega) (by omega) (by simp; omega) ?_; intro v8 w8 hown8 hg8 _; have hz8 := hg8.size; simp at hz8; have HKY := Lib.hid (old_cells (B := wy.heap.size) HK7.out (fun p hp => ((hg8.cell_far p (by simp; omega) (fun e => by have := own_block hown7 _ e.symm; omega)).trans ((new_ (Below.refl w7.heap.size w7) _).cell (by omega))))); have HB8 := Lib.hid ((new_ HB7.out _).grown hg8 (by simp; have := HB7.out.size; omega) (fun j ej => Nat.le_trans HBY.out.size (own_block hown7 j ej))); have HO8 := Lib.hid ((own_alloc HO7.out _).kept hg8 (.inr (fun e => by have h1 := own_block hown7 g e.symm; have h2 := (HOY.out.lt g rfl).2; omega))); obtain ⟨g8, c8, rfl⟩ := ownsRow_succ hown8; have H8 := Lib.hid hown8; clear hown8 hg8))
                | (at_builtin; (refine wpList_append_rds rfl (.tmp 61) (.tmp 64) 23 rfl wy.heap.size 124 i0 (.agg #[.string ⟨#[]⟩, .string ⟨#[]⟩]) 2 32 Try.underlying23 hi hj0 hj1 hj2 rfl (by decide) _ (L.length + 1) _ rfl H8.out (.slice (some ⟨g, L.length * 2, none⟩) (0) (cp - L.length)) (0) [] rfl (Rds.none_ ⟨_, _, rfl⟩) (by simp) (by unfold maxLen; omega) (by omega) (by omega) ?_; intro v9 w9 hown9 hg9; have HB9 := Lib.hid (HB8.out.grown hg9 (by have := HB8.out.size; omega) (fun j ej => Nat.le_trans HBY.out.size (own_block H8.out j ej))); obtain ⟨g9, c9, rfl⟩ := own_some hown9 (by omega); have H9 := Lib.hid hown9; clear hown9 hg9)))
              go_roundw
              case rel => exact ⟨k + 1, g9, c9, by omega, by go_num, by rw [HLEN.out], by rw [← HLEN.out]; exact own_base (by rw [HINS.out, List.flatMap_append, List.flatMap_cons, ← List.append_assoc]; simpa [pairCells, List.append_assoc] using H9.out) (Nat.le_trans hB HBY.out.size), hb.trans (HB9.out.mono hB)⟩
              case measure => simp [intOf]; omega
    · obtain rfl : k = l.length := by omega
      rw [List.take_length] at HL
      go_wp2
      go_ret
      refine ⟨_, rfl, ?_, hb⟩
      rw [← refSort_eq, ← HL.out]
      exact Rds.of_own hown
end Go.Proofs.Ytieclecpjjfhfaa
