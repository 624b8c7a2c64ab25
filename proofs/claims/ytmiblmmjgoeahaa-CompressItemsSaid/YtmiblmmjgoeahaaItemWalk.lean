/- Items of the program. -/
import Derived.Test.YtmiblmmjgoeahaaNames
import Derived.Test.YtmiblmmjgoeahaaRight
import Derived.Test.YtmiblmmjgoeahaaMand
import Derived.Test.YtmiblmmjgoeahaaItemPlain
namespace Go.Proofs.Ytmiblmmjgoeahaa
open Go.RowKit
def itemCells (x : ItemD) : List Value := [.string ⟨x.1.toArray⟩, .int .i64 x.2.1, .bool x.2.2.1, .bool x.2.2.2]
/-- the slice value v reads as the items l -/
def ItemsAt (w : World) (v : Value) (l : List ItemD) : Prop := Rds w 4 v l.length (l.flatMap itemCells)
theorem infoItem : (Try.prog.info? 47).map (fun i => (i.zero, i.size, i.bytes)) = some (some (.agg #[.string ⟨#[]⟩, .int .i64 0, .bool false, .bool false]), 4, 32) := by kernel_rfl
theorem infoInt' : (Try.prog.info? 3).map (fun i => (i.zero, i.size, i.bytes)) = some (some (.int .i64 0), 1, 8) := by kernel_rfl
theorem cells_news (w : World) (cs : Array Value) (t : TypeId) (l : List Value) (hl : cs.toList = l) : ∀ j u, l[j]? = some u → (w.alloc (.cells cs t)).cell? ((⟨w.heap.size, 0, none⟩ : Addr).add j) = some u := by
  intro j u hu
  subst hl
  rw [addr_add, Nat.zero_add]
  exact (Row.new w t cs).cell (by simpa using hu)
theorem items_snoc {w : World} {base : Nat} {e : TypeId} {v : Value} {out : List ItemD} {x : ItemD} {l : List Value} {m : Nat} (h : w.ownsRow base e 4 v (m + 1) (out.flatMap itemCells ++ l)) (hm : m = out.length) (hl : l = itemCells x) :
    w.ownsRow base e 4 v (out ++ [x]).length ((out ++ [x]).flatMap itemCells) := by
  subst hl hm; simpa [List.flatMap_append] using h
theorem own_ne {w : World} {base : Nat} {e e' : TypeId} {size n g : Nat} {v : Value} {xs : List Value} {cur : Array Value} (h : w.ownsRow base e size v n xs) (hg : w.heap[g]? = some (.cells cur e' (0, 0))) (hne : e ≠ e') : v.ownBlock ≠ some g := by
  rcases h.2 with ⟨rfl, _⟩ | ⟨g', cap, cur', rfl, _, hh, _⟩
  · simp [Value.ownBlock]
  · intro he
    have : g' = g := by simpa [Value.ownBlock] using he
    subst this
    rw [hh] at hg
    injection hg with hg
    injection hg with _ ht
    exact hne ht
theorem own_apart {w : World} {b1 b2 : Nat} {e1 e2 : TypeId} {s1 s2 n1 n2 : Nat} {v1 v2 : Value} {x1 x2 : List Value} (h1 : w.ownsRow b1 e1 s1 v1 n1 x1) (h2 : w.ownsRow b2 e2 s2 v2 n2 x2) (hne : e1 ≠ e2) : v1.ownBlock = none ∨ v1.ownBlock ≠ v2.ownBlock := by
  rcases h2.2 with ⟨rfl, _⟩ | ⟨g', cap, cur', rfl, _, hh, _⟩
  · cases h : v1.ownBlock
    · exact .inl rfl
    · exact .inr (by simp [Value.ownBlock])
  · exact .inr (own_ne h1 hh hne)
theorem own_read1 {w : World} {base : Nat} {e : TypeId} {A : Option Addr} {c n j : Nat} {xs : List Value} {u : Value} (h : w.ownsRow base e 1 (.slice A n c) n xs) (hj : j < n) (hu : xs[j]? = some u) : ∃ g, A = some ⟨g, 0, none⟩ ∧ w.cell? ⟨g, j, none⟩ = some u := by
  rcases h.2 with ⟨_, h0⟩ | ⟨g, cap, cur, hv, _⟩
  · omega
  · have : A = some ⟨g, 0, none⟩ := by injection hv
    subst this
    exact ⟨g, rfl, by rw [h.cellAt j (by omega), hu]⟩
theorem flat_len (l : List ItemD) : (l.flatMap itemCells).length = l.length * 4 := by
  induction l with
  | nil => rfl
  | cons a l ih => simp [List.flatMap_cons, ih, itemCells]; omega
theorem cell_one_new' (w : World) (x : Value) (t : TypeId) {n : Nat} (hn : w.heap.size = n) : ∀ j u, [x][j]? = some u → (w.alloc (.cells #[x] t)).cell? ((⟨n, 0, none⟩ : Addr).add j) = some u := by
  subst hn; exact cell_one_new w x t
/-- the last of the call's own items, and what a store into its last cell does -/
theorem items_last {w : World} {base : Nat} {e : TypeId} {v : Value} {i : List ItemD} {x : ItemD} (h : w.ownsRow base e 4 v (i ++ [x]).length ((i ++ [x]).flatMap itemCells)) :
    ∃ g cp cur, v = .slice (some ⟨g, 0, none⟩) (i.length + 1) cp ∧ i.length + 1 ≤ cp ∧ base ≤ g ∧ w.heap[g]? = some (.cells cur e (0, 0)) ∧ w.cell? ⟨g, i.length * 4 + 3, none⟩ = some (.bool x.2.2.2) ∧ w.frozen? ⟨g, i.length * 4 + 3, none⟩ = false ∧
      (w.setCell ⟨g, i.length * 4 + 3, none⟩ (.bool true)).ownsRow base e 4 v (i ++ [(x.1, x.2.1, x.2.2.1, true)]).length ((i ++ [(x.1, x.2.1, x.2.2.1, true)]).flatMap itemCells) ∧ w.grownBy (w.setCell ⟨g, i.length * 4 + 3, none⟩ (.bool true)) (some g) := by
  have h0 := h
  have hfl : ((i ++ [x]).flatMap itemCells) = i.flatMap itemCells ++ itemCells x := by simp [List.flatMap_append]
  have hfl' : ((i ++ [(x.1, x.2.1, x.2.2.1, true)]).flatMap itemCells) = i.flatMap itemCells ++ itemCells (x.1, x.2.1, x.2.2.1, true) := by simp [List.flatMap_append]
  have hlen := flat_len i
  rcases h.2 with ⟨_, h1⟩ | ⟨g, cap, cur, hv, hbg, hg, hnc, _⟩
  · simp at h1
  · have hl2 : (i ++ [x]).length = i.length + 1 := by simp
    rw [hl2] at hv hnc
    subst hv
    rw [hl2] at h0
    have hc := h0.cellAt (i.length * 4 + 3) (by omega)
    have hst := h0.stored (i.length * 4 + 3) (.bool true)
    refine ⟨g, cap, cur, rfl, hnc, hbg, hg, ?_, h0.frozenAt _, ?_, hst.2⟩
    · rw [hc, hfl, List.getElem?_append_right (by omega), hlen]
      simp [itemCells]
    · have h3 := hst.1
      rw [hfl, List.set_append_right _ _ (by omega), hlen] at h3
      rw [hfl', show (i ++ [(x.1, x.2.1, x.2.2.1, true)]).length = i.length + 1 by simp]
      simpa [itemCells] using h3
/-- the boxes of a frame and a code, made by a call that began in w -/
structure ItBox (w W : World) (tc : TypeId) (c0 c1 c2 c3 c4 c5 c6 c7 d0 d1 : Value) : Prop where
  fr : Row W w.heap.size 35 #[c0, c1, c2, c3, c4, c5, c6, c7]
  cd : Row W (w.heap.size + 1) tc #[d0, d1]
  below : Below w.heap.size w W
theorem ItBox.new (w : World) (tc : TypeId) (c0 c1 c2 c3 c4 c5 c6 c7 d0 d1 : Value) : ItBox w ((w.alloc (.cells #[c0, c1, c2, c3, c4, c5, c6, c7] 35)).alloc (.cells #[d0, d1] tc)) tc c0 c1 c2 c3 c4 c5 c6 c7 d0 d1 :=
  ⟨(Row.new _ _ _).alloc _, Row.new' _ _ _ (by simp), new_ (new_ (Below.refl _ _) _) _⟩
section
variable {w W W' : World} {tc : TypeId} {c0 c1 c2 c3 c4 c5 c6 c7 d0 d1 : Value}
theorem ItBox.next (h : ItBox w W tc c0 c1 c2 c3 c4 c5 c6 c7 d0 d1) (hb : Below W.heap.size W W') : ItBox w W' tc c0 c1 c2 c3 c4 c5 c6 c7 d0 d1 := ⟨h.fr.below hb h.fr.lt, h.cd.below hb h.cd.lt, then_ h.below hb⟩
theorem ItBox.keep (h : ItBox w W tc c0 c1 c2 c3 c4 c5 c6 c7 d0 d1) (hb : Below (w.heap.size + 2) W W') : ItBox w W' tc c0 c1 c2 c3 c4 c5 c6 c7 d0 d1 := ⟨h.fr.below hb (by omega), h.cd.below hb (by omega), h.below.trans (hb.mono (by omega))⟩
theorem ItBox.cells (h : ItBox w W tc c0 c1 c2 c3 c4 c5 c6 c7 d0 d1) :
    W.cell? ⟨w.heap.size, 0, none⟩ = some c0 ∧ W.cell? ⟨w.heap.size, 1, none⟩ = some c1 ∧ W.cell? ⟨w.heap.size, 2, none⟩ = some c2 ∧ W.cell? ⟨w.heap.size, 3, none⟩ = some c3 ∧ W.cell? ⟨w.heap.size, 4, none⟩ = some c4 ∧ W.cell? ⟨w.heap.size, 5, none⟩ = some c5 ∧ W.cell? ⟨w.heap.size, 6, none⟩ = some c6 ∧ W.cell? ⟨w.heap.size, 7, none⟩ = some c7 ∧
    W.cell? ⟨w.heap.size + 1, 0, none⟩ = some d0 ∧ W.cell? ⟨w.heap.size + 1, 1, none⟩ = some d1 :=
  ⟨h.fr.cell rfl, h.fr.cell rfl, h.fr.cell rfl, h.fr.cell rfl, h.fr.cell rfl, h.fr.cell rfl, h.fr.cell rfl, h.fr.cell rfl, h.cd.cell rfl, h.cd.cell rfl⟩
end
set_option maxRecDepth 100000 in
set_option maxHeartbeats 4000000 in
theorem items_any (w : World) (c0 c1 hv c3 c4 c5 c6 c7 lv nv : Value) (hyps labels : List (List UInt8)) (nums : List Int) (hl : Strs w lv labels) (hh : HypL w hv hyps) (hn : Ints w nv nums)
    (hN : nums.length ≤ 1000000) (hH : hyps.length ≤ 1000000) (hL : labels.length ≤ 1000000) :
    Calls Try.prog 23 #[.agg #[c0, c1, hv, c3, c4, c5, c6, c7], .agg #[lv, nv]] w fun e w' => ∃ v, e = .returned (.tuple #[v, .int .i64 (itemsS hyps labels nums).2]) ∧ ItemsAt w' v (itemsS hyps labels nums).1 ∧ Below w.heap.size w w' := by
  have hl0 := hl
  have hh0 := hh
  have hn0 := hn
  obtain ⟨A1, q1, rfl, hc1, hm1, hx1⟩ := hl.open_
  obtain ⟨A2, q2, rfl, hc2, hm2, hx2⟩ := hh
  obtain ⟨A3, q3, rfl, hc3, hm3, hx3⟩ := hn.open_
  clear hx1 hx2 hx3 hl hn
  have hb0 := ItBox.new w 37 c0 c1 (.slice A2 hyps.length q2) c3 c4 c5 c6 c7 (.slice A1 labels.length q1) (.slice A3 nums.length q3)
  by_cases hnm : namesS labels
  · have e1 : decide (namesS labels) = true := decide_eq_true hnm
    by_cases hmd : ∃ s ∈ hyps, s ∈ labels
    · have e2 : decide (∃ s ∈ hyps, s ∈ labels) = true := decide_eq_true hmd
      have HS := Lib.hid (itemsS_list (nums := nums) (Or.inr hmd))
      clear hnm hmd
      go_enter Try.func23, Try.ntmps23
      go_wp2_with (first | (go_at_call 86; refine (names_any _ _ labels (hl0.below hb0.below)).mono ?_; rintro e w1 ⟨rfl, hb1⟩; have hbx := hb0.next hb1; obtain ⟨k0, k1, k2, k3, k4, k5, k6, k7, d0, d1⟩ := hbx.cells) | (go_at_call 87; refine (mandatory_any _ _ _ _ _ _ _ _ _ _ hyps labels (hl0.below hbx.below) (hh0.below hbx.below)).mono ?_; rintro e w2 ⟨rfl, hb2⟩))
      go_ret2
      rw [HS.out]
      exact ⟨_, rfl, Rds.nil_, (hbx.next hb2).below⟩
    · have e2 : decide (∃ s ∈ hyps, s ∈ labels) = false := decide_eq_false hmd
      have hno : ¬ (¬ namesS labels ∨ ∃ s ∈ hyps, s ∈ labels) := fun h => h.elim (fun h => h hnm) hmd
      have HNO := Lib.hid hno
      clear hno hnm hmd
      by_cases hr : rightS none nums
      · have e3 : decide (rightS none nums) = true := decide_eq_true hr
        have HR := Lib.hid hr
        clear hr
        go_enter Try.func23, Try.ntmps23
        go_wp2_with (first | (go_at_call 86; refine (names_any _ _ labels (hl0.below hb0.below)).mono ?_; rintro e w1 ⟨rfl, hb1⟩; have hbx := hb0.next hb1; obtain ⟨k0, k1, k2, k3, k4, k5, k6, k7, d0, d1⟩ := hbx.cells) | (go_at_call 87; refine (mandatory_any _ _ _ _ _ _ _ _ _ _ hyps labels (hl0.below hbx.below) (hh0.below hbx.below)).mono ?_; rintro e w2 ⟨rfl, hb2⟩; have hby := hbx.next hb2; obtain ⟨k0', k1', k2', k3', k4', k5', k6', k7', d0', d1'⟩ := hby.cells) | (go_at_call 88; refine (right_any _ _ nums (hn0.below hby.below)).mono ?_; rintro e w3 ⟨rfl, rfl⟩))
        clear k0 k1 k2 k3 k4 k5 k6 k7 d0 d1 k0' k1' k2' k3' k4' k5' k6' k7' d0' d1' hb1 hbx hb2
        have hz3 : w.heap.size + 2 ≤ w2.heap.size := by have := hby.cd.lt; omega
        go_loopw [6, 7, 29] (fun ov sv i wr => ∃ (k : Nat) (out : List ItemD) (saved : List Int), IAt hyps labels nums k out saved ∧ i = .int .i64 k ∧ wr.ownsRow (w.heap.size + 2) 47 4 ov out.length (out.flatMap itemCells) ∧
          wr.ownsRow (w.heap.size + 2) 3 1 sv saved.length (saved.map (Value.int .i64)) ∧ ItBox w wr 37 c0 c1 (.slice A2 hyps.length q2) c3 c4 c5 c6 c7 (.slice A1 labels.length q1) (.slice A3 nums.length q3)) (fun _ _ i _ => nums.length - (intOf i).toNat)
        case atStart => exact ⟨0, [], [], IAt.start _ _ _, rfl, World.ownsRow_nil _ _ _ _, World.ownsRow_nil _ _ _ _, hby⟩
        case round =>
          obtain ⟨k, out, saved, hia, rfl, hown, hsv, hbox⟩ := hrel
          have hk := hia.le
          have hol := hia.ol
          have hsl := hia.sl
          have hIA := Lib.hid hia
          clear hia hby
          by_cases hlt : k < nums.length
          · obtain ⟨n, hy⟩ : ∃ y, nums[k]? = some y := ⟨_, List.getElem?_eq_getElem hlt⟩
            have hnb := (rightS_iff nums none).1 HR.out k n hy
            have hn1 := hnb.1
            have hn2 := hnb.2.1
            obtain ⟨A3', q3', hvv, _, _, hx3⟩ := (hn0.below hbox.below).open_
            obtain ⟨rfl, _, rfl⟩ := (by simpa using hvv : A3 = A3' ∧ True ∧ q3 = q3')
            obtain ⟨b3, o3, rfl, hz⟩ := hx3 k n hy
            have g3 := hz k n hy
            have HY := Lib.hid hy
            obtain ⟨k0, k1, k2, k3, k4, k5, k6, k7, d0, d1⟩ := hbox.cells
            clear hx3 hz hy hnb hvv
            go_wp2
            go_region
            obtain ⟨W, hW⟩ : ∃ W, W = wr.drew := ⟨_, rfl⟩
            have ho : W.ownsRow (w.heap.size + 2) 47 4 u6 out.length (out.flatMap itemCells) := by rw [hW]; exact hown
            have hs : W.ownsRow (w.heap.size + 2) 3 1 u7 saved.length (saved.map (Value.int .i64)) := by rw [hW]; exact hsv
            have hx : ItBox w W 37 c0 c1 (.slice A2 hyps.length q2) c3 c4 c5 c6 c7 (.slice A1 labels.length q1) (.slice (some ⟨b3, o3, none⟩) nums.length q3) := by rw [hW]; exact ⟨hbox.fr.drew, hbox.cd.drew, hbox.below.drew⟩
            rw [← hW]
            clear hW hown hsv hbox k0 k1 k2 k3 k4 k5 k6 k7 d0 d1 g3
            obtain ⟨k0, k1, k2, k3, k4, k5, k6, k7, d0, d1⟩ := hx.cells
            obtain ⟨m, hm⟩ : ∃ m, m = out.length := ⟨_, rfl⟩
            rw [← hm] at ho hol
            have HM := Lib.hid hm
            obtain ⟨p, hp⟩ : ∃ p, p = saved.length := ⟨_, rfl⟩
            rw [← hp] at hs hsl
            have HP := Lib.hid hp
            obtain ⟨Ao, co, rfl, hco⟩ := own_form ho
            obtain ⟨As, cs, rfl, hcs⟩ := own_form hs
            obtain ⟨i0, hi, hz0, hz1, hz2⟩ := info_parts infoItem
            have hwz := hx.cd.lt
            clear hm hp
            by_cases t0 : n = 0
            · subst t0
              obtain ⟨i, x, rfl⟩ := hIA.out.last HR.out HY.out
              have ho2 : W.ownsRow (w.heap.size + 2) 47 4 (.slice Ao m co) (i ++ [x]).length ((i ++ [x]).flatMap itemCells) := by rw [← HM.out]; exact ho
              obtain ⟨g, cp, cur, hv, hcp, hbg, hg, c3, f3, hst, hgr⟩ := items_last ho2
              obtain ⟨rfl, rfl, rfl⟩ := (by simpa using hv : Ao = some ⟨g, 0, none⟩ ∧ m = i.length + 1 ∧ co = cp)
              have hs2 := hs.kept hgr (.inr (own_ne hs hg (by decide)))
              obtain ⟨i0', hi', hz0', hz1', hz2'⟩ := info_parts infoInt'
              clear ho ho2 hv hi hz0 hz1 hz2
              go_wp2_with (at_builtin; refine wpList_append_own _ rfl _ _ 26 rfl (w.heap.size + 2) 3 i0' (.int .i64 0) 1 8 Try.underlying26 hi' hz0' hz1' hz2' rfl (by decide) _ _ _ rfl (hs2.alloc _) ⟨W.heap.size, 0, none⟩ 1 1 [.int .i64 (i.length : Int)] rfl rfl (cell_one_new' _ _ _ (by simp)) (by simp [Value.oneCell']) (by unfold maxLen; omega) (by omega) (by simp; omega) ?_; intro v' w1 hown' hgrow _)
              go_roundw
              case rel => exact ⟨k + 1, _, _, hIA.out.save HY.out rfl, by go_num, by have := (hst.alloc (.cells #[.int .i64 (i.length : Int)] 3)).kept hgrow (own_apart hst hs2 (by decide)); exact this, own_snoc hown' HP.out rfl, hx.keep ((((Below.refl _ _).setCell (p := ⟨g, i.length * 4 + 3, none⟩) (by dsimp only; omega) _).alloc (by simp; omega) _).grown hgrow (by simp; omega) (own_block hs2))⟩
              case measure => simp [intOf]; omega
            · have f0 : (n == 0) = false := by simpa using t0
              by_cases t1 : n = -1
              · subst t1
                clear f0 t0
                go_wp2_with (at_builtin; refine wpList_append_own _ rfl _ _ 38 rfl (w.heap.size + 2) 47 i0 _ 4 32 Try.underlying38 hi hz0 hz1 hz2 rfl (by decide) _ _ _ rfl (ho.alloc _) ⟨W.heap.size, 0, none⟩ 1 1 (itemCells ([], -1, true, false)) rfl rfl (cells_news _ _ _ _ rfl) (by simp [itemCells, Value.oneCell']) (by unfold maxLen; omega) (by omega) (by simp; omega) ?_; intro v' w1 hown' hgrow _)
                go_roundw
                case rel => exact ⟨k + 1, _, saved, hIA.out.push HY.out (istep_unknown), by go_num, items_snoc hown' HM.out rfl, (by rw [← HP.out]; exact (hs.alloc _).kept hgrow (own_apart hs ho (by decide))), hx.keep (((Below.refl _ _).alloc (by omega) _).grown hgrow (by simp; omega) (own_block ho))⟩
                case measure => simp [intOf]; omega
              · have f1 : (n == -1) = false := by simpa using t1
                have hn3 : 1 ≤ n := by omega
                by_cases t2 : n ≤ hyps.length
                · have f2 : decide (n ≤ (hyps.length : Int)) = true := by simpa using t2
                  obtain ⟨j, hj⟩ : ∃ j : Nat, n - 1 = (j : Int) := ⟨(n - 1).toNat, by omega⟩
                  obtain ⟨y, hyj⟩ : ∃ y, hyps[j]? = some y := ⟨_, List.getElem?_eq_getElem (by omega)⟩
                  have HS := Lib.hid (istep_hyp (labels := labels) (out := out) (saved := saved) hn3 t2 (show hyps[n.toNat - 1]? = some y by rw [show n.toNat - 1 = j by omega]; exact hyj))
                  obtain ⟨A2', q2', hvv, _, _, hx2⟩ := hh0.below hx.below
                  obtain ⟨rfl, _, rfl⟩ := (by simpa using hvv : A2 = A2' ∧ True ∧ q2 = q2')
                  obtain ⟨b2, o2, fl, ta, tn, tc, rfl, s1, s2, s3⟩ := hx2 j y hyj
                  have hjl : j < hyps.length := by omega
                  clear hx2 hyj hvv t0 t1 t2
                  go_wp2_with (at_builtin; refine wpList_append_own _ rfl _ _ 38 rfl (w.heap.size + 2) 47 i0 _ 4 32 Try.underlying38 hi hz0 hz1 hz2 rfl (by decide) _ _ _ rfl (ho.alloc _) ⟨W.heap.size, 0, none⟩ 1 1 (itemCells (y, -1, false, false)) rfl rfl (cells_news _ _ _ _ rfl) (by simp [itemCells, Value.oneCell']) (by unfold maxLen; omega) (by omega) (by simp; omega) ?_; intro v' w1 hown' hgrow _)
                  go_roundw
                  case rel => exact ⟨k + 1, _, saved, hIA.out.push HY.out (HS.out), by go_num, items_snoc hown' HM.out rfl, (by rw [← HP.out]; exact (hs.alloc _).kept hgrow (own_apart hs ho (by decide))), hx.keep (((Below.refl _ _).alloc (by omega) _).grown hgrow (by simp; omega) (own_block ho))⟩
                  case measure => simp [intOf]; omega
                · have f2 : decide (n ≤ (hyps.length : Int)) = false := by simpa using t2
                  by_cases t3 : n ≤ hyps.length + labels.length
                  · have f3 : decide (n ≤ (hyps.length : Int) + (labels.length : Int)) = true := by simpa using t3
                    obtain ⟨j, hj⟩ : ∃ j : Nat, n - (hyps.length : Int) = (j : Int) + 1 := ⟨(n - hyps.length - 1).toNat, by omega⟩
                    obtain ⟨y, hyj⟩ : ∃ y, labels[j]? = some y := ⟨_, List.getElem?_eq_getElem (by omega)⟩
                    have HS := Lib.hid (istep_label (out := out) (saved := saved) hn3 t2 t3 (show labels[n.toNat - hyps.length - 1]? = some y by rw [show n.toNat - hyps.length - 1 = j by omega]; exact hyj))
                    obtain ⟨A1', q1', hvv, _, _, hx1⟩ := (hl0.below hx.below).open_
                    obtain ⟨rfl, _, rfl⟩ := (by simpa using hvv : A1 = A1' ∧ True ∧ q1 = q1')
                    obtain ⟨b1, o1, rfl, s1⟩ := hx1 j y hyj
                    have hjl : j < labels.length := by omega
                    clear hx1 hyj hvv t0 t1 t2 t3
                    go_wp2_with (at_builtin; refine wpList_append_own _ rfl _ _ 38 rfl (w.heap.size + 2) 47 i0 _ 4 32 Try.underlying38 hi hz0 hz1 hz2 rfl (by decide) _ _ _ rfl (ho.alloc _) ⟨W.heap.size, 0, none⟩ 1 1 (itemCells (y, -1, false, false)) rfl rfl (cells_news _ _ _ _ rfl) (by simp [itemCells, Value.oneCell']) (by unfold maxLen; omega) (by omega) (by simp; omega) ?_; intro v' w1 hown' hgrow _)
                    go_roundw
                    case rel => exact ⟨k + 1, _, saved, hIA.out.push HY.out (HS.out), by go_num, items_snoc hown' HM.out rfl, (by rw [← HP.out]; exact (hs.alloc _).kept hgrow (own_apart hs ho (by decide))), hx.keep (((Below.refl _ _).alloc (by omega) _).grown hgrow (by simp; omega) (own_block ho))⟩
                    case measure => simp [intOf]; omega
                  · have f3 : decide (n ≤ (hyps.length : Int) + (labels.length : Int)) = false := by simpa using t3
                    by_cases t4 : n ≤ hyps.length + labels.length + saved.length
                    · have f4 : decide (n ≤ (hyps.length : Int) + (labels.length : Int) + (p : Int)) = true := by have := HP.out; simp; omega
                      obtain ⟨j, hj⟩ : ∃ j : Nat, n - ((hyps.length : Int) + (labels.length : Int)) = (j : Int) + 1 := ⟨(n - hyps.length - labels.length - 1).toNat, by omega⟩
                      obtain ⟨y, hyj⟩ : ∃ y, saved[j]? = some y := ⟨_, List.getElem?_eq_getElem (by omega)⟩
                      have HS := Lib.hid (istep_back (out := out) hn3 t2 t3 t4 (show saved[n.toNat - hyps.length - labels.length - 1]? = some y by rw [show n.toNat - hyps.length - labels.length - 1 = j by omega]; exact hyj))
                      obtain ⟨gs, rfl, s1⟩ := own_read1 hs (show j < p by have := HP.out; omega) (by rw [List.getElem?_map, hyj]; rfl)
                      have hjl : j < p := by have := HP.out; omega
                      clear hyj t0 t1 t2 t3 t4
                      go_wp2_with (at_builtin; refine wpList_append_own _ rfl _ _ 38 rfl (w.heap.size + 2) 47 i0 _ 4 32 Try.underlying38 hi hz0 hz1 hz2 rfl (by decide) _ _ _ rfl (ho.alloc _) ⟨W.heap.size, 0, none⟩ 1 1 (itemCells ([], y, false, false)) rfl rfl (cells_news _ _ _ _ rfl) (by simp [itemCells, Value.oneCell']) (by unfold maxLen; omega) (by omega) (by simp; omega) ?_; intro v' w1 hown' hgrow _)
                      go_roundw
                      case rel => exact ⟨k + 1, _, saved, hIA.out.push HY.out (HS.out), by go_num, items_snoc hown' HM.out rfl, (by rw [← HP.out]; exact (hs.alloc _).kept hgrow (own_apart hs ho (by decide))), hx.keep (((Below.refl _ _).alloc (by omega) _).grown hgrow (by simp; omega) (own_block ho))⟩
                      case measure => simp [intOf]; omega
                    · have f4 : decide (n ≤ (hyps.length : Int) + (labels.length : Int) + (p : Int)) = false := by have := HP.out; simp; omega
                      have HS := Lib.hid (itemsS_none HNO.out HR.out (hIA.out.bad HY.out (istep_none hn3 t2 t3 t4)))
                      clear t0 t1 t2 t3 t4
                      go_wp2
                      go_ret2
                      rw [HS.out]
                      exact ⟨_, rfl, Rds.nil_, hx.below⟩
          · obtain rfl : k = nums.length := by omega
            have HF := Lib.hid hIA.out.fin
            obtain ⟨Ao, co, rfl, hco⟩ := own_form hown
            by_cases t5 : 2000 < out.length
            · have HS := Lib.hid (itemsS_steps HNO.out HR.out HF.out t5)
              go_wp2
              go_ret2
              rw [HS.out]
              exact ⟨_, rfl, Rds.nil_, hbox.below⟩
            · have HS := Lib.hid (itemsS_ok HNO.out HR.out HF.out t5)
              go_wp2
              go_ret2
              rw [HS.out]
              exact ⟨_, rfl, Rds.of_own hown, hbox.below⟩
      · have e3 : decide (rightS none nums) = false := decide_eq_false hr
        have HS := Lib.hid (itemsS_code HNO.out hr)
        clear hr
        go_enter Try.func23, Try.ntmps23
        go_wp2_with (first | (go_at_call 86; refine (names_any _ _ labels (hl0.below hb0.below)).mono ?_; rintro e w1 ⟨rfl, hb1⟩; have hbx := hb0.next hb1; obtain ⟨k0, k1, k2, k3, k4, k5, k6, k7, d0, d1⟩ := hbx.cells) | (go_at_call 87; refine (mandatory_any _ _ _ _ _ _ _ _ _ _ hyps labels (hl0.below hbx.below) (hh0.below hbx.below)).mono ?_; rintro e w2 ⟨rfl, hb2⟩; have hby := hbx.next hb2; obtain ⟨k0', k1', k2', k3', k4', k5', k6', k7', d0', d1'⟩ := hby.cells) | (go_at_call 88; refine (right_any _ _ nums (hn0.below hby.below)).mono ?_; rintro e w3 ⟨rfl, rfl⟩))
        go_ret2
        rw [HS.out]
        exact ⟨_, rfl, Rds.nil_, hby.below⟩
  · have e1 : decide (namesS labels) = false := decide_eq_false hnm
    have HS := Lib.hid (itemsS_list (hyps := hyps) (nums := nums) (Or.inl hnm))
    clear hnm
    go_enter Try.func23, Try.ntmps23
    go_wp2_with (go_at_call 86; refine (names_any _ _ labels (hl0.below hb0.below)).mono ?_; rintro e w1 ⟨rfl, hb1⟩)
    go_ret2
    rw [HS.out]
    exact ⟨_, rfl, Rds.nil_, (hb0.next hb1).below⟩
end Go.Proofs.Ytmiblmmjgoeahaa
