/- required of the reference. -/
import Derived.Test.YtieclecpjjfhfaaRefPairs
import Derived.Deep.AppendLies
namespace Go.Proofs.Ytieclecpjjfhfaa
open Go.RowKit Go.Shelf
set_option maxRecDepth 20000 in
set_option maxHeartbeats 1000000 in
theorem ref_vars_own (w : World) (v1 v2 : Value) (text vs : List (List UInt8)) (h1 : Strs w v1 text) (h2 : Strs w v2 vs) (hl : text.length ≤ 1000000000) :
    Calls Try.prog 64 #[v1, v2] w fun e w' => ∃ u, e = .returned u ∧ w'.ownsRow w.heap.size 9 1 u (varsS text vs).length ((varsS text vs).map strV) ∧ Below w.heap.size w w' := by
  have h0 := h1
  obtain ⟨A, c, rfl, hc, hm, hx⟩ := h1.open_
  unfold maxLen at hm
  clear hx
  obtain ⟨i0, hi, hj0, hj1, hj2⟩ := info_parts infoStr
  go_enter Try.func64, Try.ntmps64
  go_wp2
  go_loopw [5, 6] (fun ov i wr => ∃ k : Nat, k ≤ text.length ∧ i = .int .i64 k ∧ wr.ownsRow w.heap.size 9 1 ov (varsS (text.take k) vs).length ((varsS (text.take k) vs).map strV) ∧ Below w.heap.size w wr) (fun _ i _ => text.length - (intOf i).toNat)
  case atStart => exact ⟨0, Nat.zero_le _, rfl, World.ownsRow_made _ _ _ (Nat.le_refl _) (by decide) rfl, new_ (Below.refl _ _) _⟩
  case round =>
    obtain ⟨k, hk, rfl, hown, hb⟩ := hrel
    have hwz2 := hb.size
    by_cases hlt : k < text.length
    · obtain ⟨y, hy⟩ : ∃ y, text[k]? = some y := ⟨_, List.getElem?_eq_getElem hlt⟩
      obtain ⟨A', c', hvv, _, _, hx⟩ := (h0.below hb).open_
      obtain ⟨rfl, _, rfl⟩ := (by simpa using hvv : A = A' ∧ True ∧ c = c')
      obtain ⟨b1, o1, rfl, g1⟩ := hx k y hy
      have HT := Lib.hid (vars_take (vs := vs) hy)
      have hvl : (varsS (text.take k) vs).length ≤ k := Nat.le_trans (varsS_len _ _) (by simp; omega)
      have hso := strs_of_own hown rfl
      have HSO := Lib.hid hso
      have HV := Lib.hid (h2.below hb)
      clear hx hy hvv hso
      by_cases hin : y ∈ vs
      · have e1 : decide (y ∈ vs) = true := decide_eq_true hin
        by_cases hmet : y ∈ varsS (text.take k) vs
        · have e2 : decide (y ∈ varsS (text.take k) vs) = true := decide_eq_true hmet
          rw [if_neg (fun h => h.2 hmet)] at HT
          clear hin hmet hvl
          go_wp2_with (go_at_call 125; (refine (has06 _ _ _ y (by first | exact HV.out | exact HSO.out)).mono ?_; rintro e w1 ⟨rfl, rfl⟩))
          go_roundw
          case rel => exact ⟨k + 1, by omega, by go_num, by rw [HT.out]; exact hown, hb⟩
          case measure => simp [intOf]; omega
        · have e2 : decide (y ∈ varsS (text.take k) vs) = false := decide_eq_false hmet
          rw [if_pos ⟨hin, hmet⟩] at HT
          obtain ⟨M, hM⟩ : ∃ M, M = (varsS (text.take k) vs).length := ⟨_, rfl⟩
          obtain ⟨X, hX⟩ : ∃ X, X = (varsS (text.take k) vs).map strV := ⟨_, rfl⟩
          rw [← hM, ← hX] at hown
          rw [← hM] at hvl
          have HM := Lib.hid hM
          have HX := Lib.hid hX
          clear hin hmet hM hX
          go_wp2_with (first
            | (go_at_call 125; (refine (has06 _ _ _ y (by first | exact HV.out | exact HSO.out)).mono ?_; rintro e w1 ⟨rfl, rfl⟩))
            | (at_builtin; (refine wpList_append_own _ rfl (.tmp 29) (.tmp 34) 24 rfl w.heap.size 9 i0 (.string ⟨#[]⟩) 1 16 Try.underlying24 hi hj0 hj1 hj2 rfl (by decide) _ M X rfl (hown.alloc _) ⟨wr.heap.size, 0, none⟩ 1 1 [strV y] rfl rfl (cells_of' _ _ _ _ rfl (by simp)) (by simp [strV, Value.oneCell']) (by unfold maxLen; omega) (by omega) (by simp; omega) ?_; intro v' wz hown' hgrow _)))
          go_roundw
          case rel => exact ⟨k + 1, by omega, by go_num, by rw [HT.out, List.map_append, List.length_append, ← HM.out, ← HX.out]; exact hown', (new_ hb _).grown hgrow (by simp; omega) (own_block hown)⟩
          case measure => simp [intOf]; omega
      · have e1 : decide (y ∈ vs) = false := decide_eq_false hin
        rw [if_neg (fun h => hin h.1)] at HT
        clear hin hvl
        go_wp2_with (go_at_call 125; (refine (has06 _ _ vs y HV.out).mono ?_; rintro e w1 ⟨rfl, rfl⟩))
        go_roundw
        case rel => exact ⟨k + 1, by omega, by go_num, by rw [HT.out]; exact hown, hb⟩
        case measure => simp [intOf]; omega
    · obtain rfl : k = text.length := by omega
      rw [List.take_length] at hown
      obtain ⟨oa, oc, rfl, hco⟩ := own_form hown
      go_wp2
      go_ret
      exact ⟨_, rfl, hown, hb⟩
theorem own_aside {w w' : World} {b1 b2 n1 n2 s1 s2 : Nat} {e1 e2 : TypeId} {t v : Value} {xs ys : List Value} (h : w.ownsRow b1 e1 s1 t n1 xs) (ho : w.ownsRow b2 e2 s2 v n2 ys) (hne : e1 ≠ e2) (hg : w.grownBy w' v.ownBlock) : w'.ownsRow b1 e1 s1 t n1 xs := by
  refine h.kept hg ?_
  rcases h.2 with ⟨rfl, _⟩ | ⟨g, cap, cur, rfl, _, hh, _⟩
  · exact .inl rfl
  · right
    intro e
    rcases ho.2 with ⟨rfl, _⟩ | ⟨g', cap', cur', rfl, _, hh', _⟩
    · cases e
    · obtain rfl : g = g' := by simpa [Value.ownBlock] using e
      rw [hh] at hh'
      simp at hh'
      exact hne hh'.2
theorem own_alloc {w : World} {b n s : Nat} {e : TypeId} {v : Value} {xs : List Value} (h : w.ownsRow b e s v n xs) (o : Obj) : (w.alloc o).ownsRow b e s v n xs := own_below h (new_ (Below.refl _ _) o)
theorem str_at {w : World} {b g c : Nat} {xs : Form} {j : Nat} {x : List UInt8} (h : w.ownsRow b 9 1 (.slice (some ⟨g, 0, none⟩) xs.length c) xs.length (xs.map strV)) (hx : xs[j]? = some x) : w.cell? ⟨g, j, none⟩ = some (.string ⟨x.toArray⟩) := by
  have := h.cells (g := g) rfl j (strV x) (by rw [List.getElem?_map, hx]; rfl)
  rwa [addr_add, Nat.zero_add] at this
theorem own_some {w : World} {b n s : Nat} {e : TypeId} {v : Value} {xs : List Value} (h : w.ownsRow b e s v n xs) (hn : 0 < n) : ∃ g c, v = .slice (some ⟨g, 0, none⟩) n c := by
  obtain ⟨m, rfl⟩ : ∃ m, n = m + 1 := ⟨n - 1, by omega⟩
  exact ownsRow_succ h
/-- what has been laid behind i pairs, j variables of the first text, k of the second -/
def reqAt (l : List BindD) (vs : Form) (pre : List PairD) (xs ys : Form) (j : Nat) (tail : List PairD) : List PairD := reqS l pre vs ++ (xs.take j).flatMap (reqX ys) ++ tail
attribute [local go_sem ↓] Go.wp_at_zero Go.wp_at_succ
set_option maxRecDepth 100000 in
set_option maxHeartbeats 8000000 in
theorem ref_required (w : World) (lv pv vv : Value) (l : List BindD) (pairs : List PairD) (vs : Form) (hl : BindAt w lv l) (hp : PairsAt w pv pairs) (hv : Strs w vv vs) (z : SubSz l pairs vs) (hN : (reqS l pairs vs).length ≤ 1000000) :
    Calls Try.prog 116 #[lv, pv, vv] w fun e w' => ∃ v, e = .returned v ∧ w'.ownsRow w.heap.size 124 2 v (reqS l pairs vs).length ((reqS l pairs vs).flatMap pairCells) ∧ Below w.heap.size w w' := by
  have HL := Lib.hid hl
  have HV := Lib.hid hv
  have HP := Lib.hid hp
  have HNN := Lib.hid hN
  obtain ⟨lA, lc, rfl, _⟩ := hl
  obtain ⟨vA, vc, rfl⟩ := hv.form
  obtain ⟨pA, pc, rfl, hpc, hpm, _⟩ := hp.open_
  unfold maxLen at hpm
  obtain ⟨i0, hi, hj0, hj1, hj2⟩ := info_parts infoPair
  clear hv hp hN
  go_enter Try.func116, Try.ntmps116
  go_wp2
  go_loopw [7, 8] (fun ov iv wr => ∃ k : Nat, k ≤ pairs.length ∧ iv = .int .i64 k ∧ wr.ownsRow w.heap.size 124 2 ov (reqS l (pairs.take k) vs).length ((reqS l (pairs.take k) vs).flatMap pairCells) ∧ Below w.heap.size w wr) (fun _ iv _ => pairs.length - (intOf iv).toNat)
  case atStart => exact ⟨0, Nat.zero_le _, rfl, World.ownsRow_made _ _ _ (Nat.le_refl _) (by decide) rfl, new_ (Below.refl _ _) _⟩
  case round =>
    obtain ⟨k, hk, rfl, hown, hb⟩ := hrel
    have hB := hb.size
    by_cases hlt : k < pairs.length
    · obtain ⟨y, hy⟩ : ∃ y, pairs[k]? = some y := ⟨_, List.getElem?_eq_getElem hlt⟩
      obtain ⟨A', c', hvv, _, _, hx⟩ := (HP.out.below hb).open_
      obtain ⟨rfl, _, rfl⟩ := (by simpa using hvv : pA = A' ∧ True ∧ pc = c')
      obtain ⟨b, o, rfl, g1, g2⟩ := hx k y hy
      have HY := Lib.hid hy
      obtain ⟨hz1, hz2⟩ := z.pair y (List.mem_of_getElem? hy)
      obtain ⟨zi1, zi2⟩ := z.image (l := l) hz1
      obtain ⟨zj1, zj2⟩ := z.image (l := l) hz2
      have hlb := block_lt_of_cell g1
      dsimp only at hlb
      obtain ⟨xs, hxs⟩ : ∃ xs, varsS (imageS l y.1) vs = xs := ⟨_, rfl⟩
      obtain ⟨ys, hys⟩ : ∃ ys, varsS (imageS l y.2) vs = ys := ⟨_, rfl⟩
      have HXS := Lib.hid hxs
      have HYS := Lib.hid hys
      have hxl : xs.length ≤ 1000000000 := by rw [← hxs]; exact Nat.le_trans (varsS_len _ _) zi2
      have hyl : ys.length ≤ 1000000000 := by rw [← hys]; exact Nat.le_trans (varsS_len _ _) zj2
      have HO := Lib.hid hown
      clear hx hvv hy hxs hys hown
      go_wp2_with (first
        | (go_at_call 128; (first
          | ((with_reducible refine (ref_image _ _ l y.2 (HL.out.below (then_ hb HB4.out))).mono ?_); rintro e w5 ⟨u5, rfl, hu5, hb5⟩; have HC5 := Lib.hid hb5; have HB5 := Lib.hid (then_ HB4.out hb5); have HU5 := Lib.hid hu5; clear hu5 hb5)
          | ((with_reducible refine (ref_image _ _ l y.1 (HL.out.below hb)).mono ?_); rintro e w3 ⟨u3, rfl, hu3, hb3⟩; have HB3 := Lib.hid hb3; have HU3 := Lib.hid hu3; clear hu3 hb3)))
        | (go_at_call 64; (first
          | ((with_reducible refine (ref_vars_own _ u5 _ (imageS l y.2) vs HU5.out (HV.out.below (then_ hb HB5.out)) zj2).mono ?_); rintro e w6 ⟨u6, rfl, hu6, hb6⟩; rw [HYS.out] at hu6; have HU6 := Lib.hid hu6; have HU4 := Lib.hid (own_below HU4.out (then_ HC5.out hb6)); have HB6 := Lib.hid (then_ HB5.out hb6); clear hu6 hb6)
          | ((with_reducible refine (ref_vars_own _ u3 _ (imageS l y.1) vs HU3.out (HV.out.below (then_ hb HB3.out)) zi2).mono ?_); rintro e w4 ⟨u4', rfl, hu4, hb4⟩; rw [HXS.out] at hu4; have HB4 := Lib.hid (then_ HB3.out hb4); have q2 := (HB4.out.cell (p := ⟨b, o + k * 2 + 1, none⟩) hlb).trans g2; have HU4 := Lib.hid hu4; clear hu4 hb4))))
      obtain ⟨xA, xc, rfl, _⟩ := own_form HU4.out
      obtain ⟨yA, yc, rfl, _⟩ := own_form HU6.out
      have hb6 := HB6.out
      have hO6 := own_below HO.out hb6
      have h4 := HU4.out
      have h6 := HU6.out
      have hB6 := hb6.size
      have hb06 : Below w.heap.size w w6 := then_ hb hb6
      have hO6' : w6.ownsRow w.heap.size 124 2 u7 (reqS l (pairs.take k) vs ++ (xs.take 0).flatMap (reqX ys)).length ((reqS l (pairs.take k) vs ++ (xs.take 0).flatMap (reqX ys)).flatMap pairCells) := by simpa using hO6
      clear HB3 HB4 HB5 HB6 HC5 HU3 HU5 HU4 HU6 HO g1 g2 q2 hO6 hb hb6
      go_loopw [7, 11] (fun ov iv wr => ∃ j : Nat, j ≤ xs.length ∧ iv = .int .i64 j ∧ wr.ownsRow w.heap.size 124 2 ov (reqS l (pairs.take k) vs ++ (xs.take j).flatMap (reqX ys)).length ((reqS l (pairs.take k) vs ++ (xs.take j).flatMap (reqX ys)).flatMap pairCells) ∧ Below w.heap.size w wr ∧ wr.ownsRow w3.heap.size 9 1 (.slice xA xs.length xc) xs.length (xs.map strV) ∧ wr.ownsRow w5.heap.size 9 1 (.slice yA ys.length yc) ys.length (ys.map strV)) (fun _ iv _ => xs.length - (intOf iv).toNat)
      case atStart => exact ⟨0, Nat.zero_le _, rfl, hO6', hb06, h4, h6⟩
      case round =>
        obtain ⟨j, hj, rfl, hown, hb, h4, h6⟩ := hrel
        have hB := hb.size
        by_cases hjl : j < xs.length
        · obtain ⟨x, hx⟩ : ∃ x, xs[j]? = some x := ⟨_, List.getElem?_eq_getElem hjl⟩
          have HX := Lib.hid hx
          obtain ⟨gx, cx, ex⟩ := own_some h4 (by omega)
          obtain ⟨rfl, _, rfl⟩ := (by simpa using ex : xA = some ⟨gx, 0, none⟩ ∧ True ∧ xc = cx)
          clear hx ex
          have hown' : wr.ownsRow w.heap.size 124 2 u7 (reqS l (pairs.take k) vs ++ (xs.take j).flatMap (reqX ys) ++ reqX (ys.take 0) x).length ((reqS l (pairs.take k) vs ++ (xs.take j).flatMap (reqX ys) ++ reqX (ys.take 0) x).flatMap pairCells) := by simpa [reqX] using hown
          clear hown
          go_wp2
          go_loopw [7, 12] (fun ov iv wr => ∃ i : Nat, i ≤ ys.length ∧ iv = .int .i64 i ∧ wr.ownsRow w.heap.size 124 2 ov (reqS l (pairs.take k) vs ++ (xs.take j).flatMap (reqX ys) ++ reqX (ys.take i) x).length ((reqS l (pairs.take k) vs ++ (xs.take j).flatMap (reqX ys) ++ reqX (ys.take i) x).flatMap pairCells) ∧ Below w.heap.size w wr ∧ wr.ownsRow w3.heap.size 9 1 (.slice (some ⟨gx, 0, none⟩) xs.length xc) xs.length (xs.map strV) ∧ wr.ownsRow w5.heap.size 9 1 (.slice yA ys.length yc) ys.length (ys.map strV)) (fun _ iv _ => ys.length - (intOf iv).toNat)
          case atStart => exact ⟨0, Nat.zero_le _, rfl, hown', hb, h4, h6⟩
          case round =>
            obtain ⟨i, hil, rfl, hown, hb, h4, h6⟩ := hrel
            have hB := hb.size
            by_cases hil2 : i < ys.length
            · obtain ⟨s, hs⟩ : ∃ s, ys[i]? = some s := ⟨_, List.getElem?_eq_getElem hil2⟩
              have HS := Lib.hid hs
              obtain ⟨gy, cy, ey⟩ := own_some h6 (by omega)
              obtain ⟨rfl, _, rfl⟩ := (by simpa using ey : yA = some ⟨gy, 0, none⟩ ∧ True ∧ yc = cy)
              have HPF := Lib.hid (req_prefix HY.out HXS.out HYS.out HX.out hs)
              have HYT := Lib.hid (reqX_take (x := x) hs)
              obtain ⟨c1, c2, hc12⟩ : ∃ c1 c2, orderedS (x, s) = (c1, c2) := ⟨_, _, rfl⟩
              have HC := Lib.hid hc12
              have g1 := str_at h4 HX.out
              have g2 := str_at h6 hs
              obtain ⟨L, hL⟩ : ∃ L, L = reqS l (pairs.take k) vs ++ (xs.take j).flatMap (reqX ys) ++ reqX (ys.take i) x := ⟨_, rfl⟩
              rw [← hL] at hown
              have HLL := Lib.hid hL
              have hll : L.length ≤ 1000000 := by
                obtain ⟨r, hr⟩ := HPF.out
                have := congrArg List.length hr
                rw [List.length_append, List.length_append, ← hL] at this
                have := HNN.out
                omega
              obtain ⟨M, hM⟩ : ∃ M, M = L.length := ⟨_, rfl⟩
              obtain ⟨X, hX⟩ : ∃ X, X = L.flatMap pairCells := ⟨_, rfl⟩
              rw [← hM, ← hX] at hown
              rw [← hM] at hll
              have HM := Lib.hid hM
              have HXX := Lib.hid hX
              have HO := Lib.hid hown
              have H4 := Lib.hid h4
              have H6 := Lib.hid h6
              have k0 : (0 : Int) ≤ (j : Int) := Int.natCast_nonneg _
              have k1 : (j : Int) < (xs.length : Int) := by omega
              have k2 : (0 : Int) ≤ (i : Int) := Int.natCast_nonneg _
              have k3 : (i : Int) < (ys.length : Int) := by omega
              clear hs ey hc12 hL hM hX hown h4 h6
              go_wp2
              go_region_held3 (fun w' => w'.cell? ⟨gx, j, none⟩ = some (.string ⟨x.toArray⟩) ∧ w'.cell? ⟨gy, i, none⟩ = some (.string ⟨s.toArray⟩)) (go_keep)
                (first
                  | (refine step_append_lies _ (by rfl) (.tmp 50) (.tmp 60) 23 (by rfl) w.heap.size 124 i0 (.agg #[.string ⟨#[]⟩, .string ⟨#[]⟩]) 2 32 Try.underlying23 hi hj0 hj1 hj2 rfl (by decide) u7 M X (by rfl) (own_alloc HO7.out _) ⟨w7.heap.size, 0, none⟩ 1 1 [.string ⟨c1.toArray⟩, .string ⟨c2.toArray⟩] (by rfl) rfl (cells_of' _ _ _ _ rfl rfl) (by simp [Value.oneCell']) (by decide) (by unfold maxLen; omega) (by omega) (by simp; omega) _ rfl ?_; intro gg cap wz hown' hgrow hat hltz; have H48 := Lib.hid (own_aside (own_alloc H47.out (.cells #[.string ⟨c1.toArray⟩, .string ⟨c2.toArray⟩] 124)) (own_alloc HO7.out (.cells #[.string ⟨c1.toArray⟩, .string ⟨c2.toArray⟩] 124)) (by decide) hgrow); have H68 := Lib.hid (own_aside (own_alloc H67.out (.cells #[.string ⟨c1.toArray⟩, .string ⟨c2.toArray⟩] 124)) (own_alloc HO7.out (.cells #[.string ⟨c1.toArray⟩, .string ⟨c2.toArray⟩] 124)) (by decide) hgrow); have t1 := str_at H48.out HX.out; have t2 := str_at H68.out HS.out)
                  | (go_at_call 123; refine (ref_pair _ x s c1 c2 HC.out).mono ?_; rintro e w7 ⟨rfl, hb7⟩; have HB7 := Lib.hid (show Below wr.heap.size wr w7 from ((Below.refl _ _).drew).trans hb7); have HO7 := Lib.hid (own_below HO.out HB7.out); have H47 := Lib.hid (own_below H4.out HB7.out); have H67 := Lib.hid (own_below H6.out HB7.out); have s1 := str_at H47.out HX.out; have s2 := str_at H67.out HS.out; have hz7 := HB7.out.size; clear hb7))
              go_wp2
              go_roundw
              case rel => exact ⟨i + 1, by omega, by go_num, by rw [HYT.out, HC.out, ← List.append_assoc, ← HLL.out, List.length_append, List.flatMap_append, ← HM.out, ← HXX.out]; exact hown', (new_ (hb.trans (HB7.out.mono hB)) _).grown hgrow (by simp; omega) (own_block HO7.out), H48.out, H68.out⟩
              case measure => simp [intOf]; omega
            · obtain rfl : i = ys.length := by omega
              rw [List.take_length] at hown
              have HFT := Lib.hid (flat_take (f := reqX ys) HX.out)
              go_wp2
              go_roundw
              case rel => exact ⟨j + 1, by omega, by go_num, by rw [HFT.out, ← List.append_assoc]; exact hown, hb, h4, h6⟩
              case measure => simp [intOf]; omega
        · obtain rfl : j = xs.length := by omega
          rw [List.take_length] at hown
          have HRT := Lib.hid (req_take HY.out HXS.out HYS.out)
          go_wp2
          go_roundw
          case rel => exact ⟨k + 1, by omega, by go_num, by rw [HRT.out]; exact hown, hb⟩
          case measure => simp [intOf]; omega
    · obtain rfl : k = pairs.length := by omega
      rw [List.take_length] at hown
      obtain ⟨oa, oc, rfl, hco⟩ := own_form hown
      go_wp2
      go_ret
      exact ⟨_, rfl, hown, hb⟩
end Go.Proofs.Ytieclecpjjfhfaa
