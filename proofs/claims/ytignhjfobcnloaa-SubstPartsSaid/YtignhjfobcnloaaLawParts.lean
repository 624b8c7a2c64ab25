/- SubstParts: Apply without bindings, with bindings of symbols that do not occur, of two formulas. -/
import Derived.Test.YtignhjfobcnloaaDelFn
import Derived.Test.YtignhjfobcnloaaLawSwaps
namespace Go.Proofs.Ytignhjfobcnloaa
open Go.RowKit Go.Sort
attribute [local go_sem ↓] Go.wp_at_zero Go.wp_at_succ
/-- append onto a row of the call's own, the source read as a list, at a guarded step of a region that draws -/
theorem step_append_wanted {P : Program} {w : World} {ops : Array Oper} {o : Oper} {a : Act} {K : Act → World → Prop} {Q : Exit → Act → World → Prop} {E : Prop} (hw : Region.wanted o (yielded ops a.tmps) = true) (s x : Operand) (t : TypeId)
    (ho : o.op = .call { callee := .builtin .append, args := #[s, x], argTypes := #[t, t] })
    (base : Nat) (e : TypeId) (i : TypeInfo) (z : Value) (size bytes : Nat) (ht : P.underlying t = some (.slice e)) (hi : P.info? e = some i) (hz : i.zero = some z)
    (hsize : i.size = size) (hby : i.bytes = bytes) (hzs : z.cells.size = size) (hsz : 0 < size)
    (v : Value) (n : Nat) (xs : List Value) (hs : a.eval s = v) (hown : w.ownsRow base e size v n xs)
    (y : Value) (m : Nat) (news : List Value) (hx : a.eval x = y) (hr : Rds w size y m news) (h1 : ∀ u ∈ news, u.oneCell' = true)
    (h63 : n + m ≤ maxLen) (hbytes : (n + m) * bytes ≤ 140737488355328) (hbase : base ≤ w.heap.size)
    (h : ∀ v' w', w'.ownsRow base e size v' (n + m) (xs ++ news) → w.grownBy w' v.ownBlock → K (a.put o.dst v') w') :
    if Region.wanted o (yielded ops a.tmps) = true then Oper.wp P o a w K Q else E := by
  rw [if_pos hw]
  obtain ⟨A, c, rfl, hc, hm, hl, hcell⟩ := hr
  cases A with
  | none =>
    have h0 : m = 0 := by
      rcases Nat.eq_zero_or_pos m with h0 | h0
      · exact h0
      · obtain ⟨b, o', ha, _⟩ := hcell h0; cases ha
    subst h0
    obtain rfl : news = [] := List.eq_nil_of_length_eq_zero (by simpa using hl)
    have hrun := run_append_nil_any (P := P) (w := w) base t o.type e i size ht hi v n xs hown c
    unfold Oper.wp
    simp [execOp, ho, resolve, invoke, builtin, hs, hx, hrun, Result.andThen]
    exact h v w (by simpa using hown) (World.grownBy.refl w _)
  | some ad =>
    have hcells : ∀ j u, news[j]? = some u → w.cell? (ad.add j) = some u := by
      intro j u hu
      rcases Nat.eq_zero_or_pos m with h0 | h0
      · subst h0
        obtain rfl : news = [] := List.eq_nil_of_length_eq_zero (by simpa using hl)
        simp at hu
      · obtain ⟨b, o', ha, hz'⟩ := hcell h0
        obtain rfl : ad = ⟨b, o', none⟩ := by simpa using ha
        rw [addr_add]
        exact hz' j u hu
    obtain ⟨v', w', hrun, r1, r2, _⟩ := run_append_own (P := P) w base t o.type e i z size bytes ht hi hz hsize hby hzs hsz v n xs hown ad m c news hl hcells h1 h63 hbytes hbase
    unfold Oper.wp
    simp [execOp, ho, resolve, invoke, builtin, hs, hx, hrun, Result.andThen]
    exact h v' w' r1 r2
theorem index_nil (w : World) (f : Value) : Calls Try.prog 47 #[.slice none 0 0, f] w fun e w' => e = .returned (.int .i64 (-1)) ∧ w = w' := by
  go_enter Try.func47, Try.ntmps47
  go_wp2
  go_loop [8] (fun i => i = .int .i64 0) (fun _ => 0)
  case atStart => rfl
  case round =>
    obtain rfl := hrel
    go_wp2
    go_ret
    exact ⟨rfl, rfl⟩
/-- slices.DeleteFunc of a clone -/
theorem delete_clone (w0 W : World) (v : Value) (z : List BV) (l : List BindD) (av : Value) (a : Form) (mb : Nat) (hz : z.map (·.1) = l) (ho : W.ownsRow w0.heap.size 28 2 v z.length (z.flatMap bcell)) (hW : Below w0.heap.size w0 W) (hn : l.length ≤ 1000000) (hc : w0.cell? ⟨mb, 0, none⟩ = some av) (ha : Strs w0 av a) (ht : ∀ p ∈ z, Strs w0 p.2 p.1.2) :
    Calls Try.prog 12 #[v, .func (.func 14) #[] #[.pointer (some ⟨mb, 0, none⟩)]] W fun e w' => ∃ v, e = .returned v ∧ BindAt w' v (l.filter (notIn a)) ∧ Below w0.heap.size w0 w' := by
  have hzl : z.length = l.length := by rw [← hz, List.length_map]
  rcases ho.2 with ⟨rfl, h0⟩ | ⟨g, cap, cur, rfl, hg, hh, hnc, hcm, hcs, htk⟩
  · have hz0 : z = [] := List.length_eq_zero_iff.1 h0
    subst hz0
    obtain rfl : l = [] := by simpa using hz.symm
    have HA := Lib.hid ha
    have HC := Lib.hid hc
    have HW := Lib.hid hW
    clear ha hc hW ht hz ho
    go_enter Try.func12, Try.ntmps12
    go_wp2_with (go_at_call 47; (refine (index_nil _ _).mono ?_; rintro e w1 ⟨rfl, rfl⟩))
    go_ret
    exact ⟨_, rfl, BindAt.nil_, HW.out⟩
  · have h := delete_any w0 W g z.length cap z.toArray av a mb ⟨cur, hh, by omega, by simp, fun i hi => by
      obtain ⟨q0, q1⟩ := flat2_at (f := bcell) (fun _ => rfl) (List.getElem?_eq_getElem (l := z) (i := i) (by omega))
      have e : ∀ j, j < z.length * 2 → cur[j]? = (z.flatMap bcell)[j]? := fun j hj => by rw [← htk, List.getElem?_take_of_lt hj, Array.getElem?_toList]
      rw [e _ (by omega), e _ (by omega), q0, q1]
      simp [bcell, hi]⟩ hW hg hnc (by omega) hc ha (by simpa using ht)
    simpa [hz] using h
set_option maxRecDepth 100000 in
set_option maxHeartbeats 4000000 in
theorem law_parts (w : World) (av bv lv : Value) (a b : Form) (l : List BindD) (ha : Strs w av a) (hb : Strs w bv b) (hl : BindAt w lv l)
    (hsa : ∀ s ∈ a, s.length ≤ maxLen) (hsb : ∀ s ∈ b, s.length ≤ maxLen) (hsl : ∀ x ∈ l, x.1.length ≤ maxLen ∧ ∀ s ∈ x.2, s.length ≤ maxLen) :
    Calls Try.prog 3 #[av, bv, lv] w fun e w' => e = .returned (.bool true) ∧ Below w.heap.size w w' := by
  obtain ⟨aA, ac, rfl⟩ := ha.form
  obtain ⟨bA, bc, rfl⟩ := hb.form
  have ham : a.length ≤ maxLen := by obtain ⟨_, _, _, _, h, _⟩ := ha; exact h
  have hbm : b.length ≤ maxLen := by obtain ⟨_, _, _, _, h, _⟩ := hb; exact h
  have hl0 := hl
  obtain ⟨lA, lc, rfl, _⟩ := hl
  unfold maxLen at ham hbm
  have HL := Lib.hid hl0
  have HA := Lib.hid ha
  have HB := Lib.hid hb
  have HSL := Lib.hid (fun x hx => (hsl x hx).1)
  have HSF := Lib.hid (fun x (hx : x ∈ l.filter (notIn a)) => (hsl x (List.mem_filter.1 hx).1).1)
  have HSLS := Lib.hid (fun x hx => (hsl x hx).2)
  have HSA := Lib.hid hsa
  have HSB := Lib.hid hsb
  have HW := Lib.hid (new_ (Below.refl w.heap.size w) (.cells #[.slice aA a.length ac] 22))
  have HR := Lib.hid (Row.new w 22 #[.slice aA a.length ac])
  clear hl0 ha hb
  by_cases hf : FewS l 20 20
  · have e1 : decide (FewS l 20 20) = true := decide_eq_true hf
    by_cases h2 : a.length ≤ 60
    · have e2 : decide ((60 : Int) < (a.length : Int)) = false := decide_eq_false (by omega)
      by_cases h3 : b.length ≤ 60
      · have e3 : decide ((60 : Int) < (b.length : Int)) = false := decide_eq_false (by omega)
        have hL : l.length ≤ 1000000 := by have := hf.1; omega
        have hI : ∀ x ∈ l, x.2.length ≤ 20 := fun x hx => by have := hf.2 x hx; omega
        have HAP : Hid (∀ t : Form, (applyS t l).length ≤ t.length * 20) := Lib.hid (apply_len hI (by decide))
        have HFL : Hid ((l.filter (notIn a)).length ≤ 1000000) := Lib.hid (Nat.le_trans (List.length_filter_le _ _) hL)
        have HFE : Hid (applyS a (l.filter (notIn a)) = a) := Lib.hid (applyS_none fun x hx hm => by have := (List.mem_filter.1 hx).2; simp [notIn, hm] at this)
        have HNE : Hid (applyS a [] = a) := Lib.hid (applyS_none (by simp))
        obtain ⟨Q, hQ⟩ : ∃ Q, Q = applyS a l ++ applyS b l := ⟨_, rfl⟩
        have HAB : Hid (applyS (a ++ b) l = Q) := Lib.hid (by rw [hQ]; exact applyS_append a b l)
        have HQ := Lib.hid hQ
        clear hQ
        have HSAB : Hid (∀ s ∈ a ++ b, s.length ≤ maxLen) := Lib.hid (fun s hs => (List.mem_append.1 hs).elim (hsa s) (hsb s))
        obtain ⟨i0, hi, hj0, hj1, hj2⟩ := info_parts infoStr
        have ra := HR.out.cell (i := 0) (v := .slice aA a.length ac) rfl
        clear hf hI hsa hsb hsl
        go_enter Try.func3, Try.ntmps3
        go_wp2_with (first
          | (go_at_call 10; (refine (few_any _ _ l 20 20 (HL.out.below HW.out)).mono ?_; rintro e w1 ⟨rfl, hb1⟩; have HR1 := Lib.hid (HR.out.below hb1 HR.out.lt); have HW1 := Lib.hid (then_ HW.out hb1); have r1 := HR1.out.cell (i := 0) (v := .slice aA a.length ac) rfl; clear hb1))
          | (go_at_call 13; (refine (clone_binds _ _ l (HL.out.below HW1.out) hL).mono ?_; rintro e w2 ⟨v2, z, rfl, hz1, hz2, hz3, hb2⟩; have HZ1 := Lib.hid hz1; have HZ2 := Lib.hid hz2; have HZ3 := Lib.hid hz3; have HB2 := Lib.hid hb2; clear hz1 hz2 hz3 hb2))
          | (go_at_call 12; (refine (delete_clone w1 _ _ z l _ a _ HZ1.out HZ3.out HB2.out hL r1 (HA.out.below HW1.out) HZ2.out).mono ?_; rintro e w3 ⟨v3, rfl, hv3, hb3⟩; have HO3 := Lib.hid hv3; have HR3 := Lib.hid (HR1.out.below hb3 HR1.out.lt); have HW3 := Lib.hid (then_ HW1.out hb3); have r3 := HR3.out.cell (i := 0) (v := .slice aA a.length ac) rfl; obtain ⟨oA, oc, rfl, _⟩ := hv3; clear hb3))
          | (go_at_call 17; (refine (clone_own _ _ a (HA.out.below HW3.out) (by omega)).mono ?_; rintro e w4 ⟨v4, rfl, hv4, hb4⟩; have HV4 := Lib.hid (show w4.ownsRow w3.heap.size 9 1 v4 a.length (a.map strV) from hv4); have HB4 := Lib.hid hb4; have hz4 := hb4.size; clear hv4 hb4))
          | (at_builtin; (refine wpList_append_rds rfl (.tmp 28) (.tmp 29) 22 rfl w3.heap.size 9 i0 (.string ⟨#[]⟩) 1 16 Try.underlying22 hi hj0 hj1 hj2 rfl (by decide) _ a.length (a.map strV) rfl HV4.out (.slice bA b.length bc) b.length (b.map strV) rfl ((HB.out.below HW3.out).below HB4.out) (by simp [strV, Value.oneCell']) (by unfold maxLen; omega) (by omega) (by omega) ?_; intro v5 w5 hv5 hg5; have HV5 := Lib.hid (strs_of_own (l := a ++ b) (by rw [List.map_append]; exact hv5) (by simp)); have HB5 := Lib.hid (HB4.out.grown hg5 hz4 (own_block HV4.out)); clear hv5 hg5))
          | (go_at_call 16; (refine (apply_any _ _ _ l (a ++ b) ((HL.out.below HW3.out).below HB5.out) HV5.out HSL.out HSAB.out hL (by have := HAP.out (a ++ b); simp at this; omega)).mono ?_; rintro e w6 ⟨v6, rfl, hv6, hb6⟩; rw [HAB.out] at hv6; have HV6 := Lib.hid hv6; have HB6 := Lib.hid (then_ HB5.out hb6); have HR6 := Lib.hid (HR3.out.below (then_ HB5.out hb6) HR3.out.lt); have r6 := HR6.out.cell (i := 0) (v := .slice aA a.length ac) rfl; obtain ⟨qA, qc, rfl⟩ := hv6.form; clear hv6 hb6)))
        obtain ⟨W, hWW⟩ : ∃ W, W = w6 := ⟨_, rfl⟩
        have HWB := Lib.hid (then_ HW3.out HB6.out)
        have HX := Lib.hid (show Below w6.heap.size w6 w6.drew from (Below.refl _ _).drew)
        have HO6 := Lib.hid (HO3.out.below HB6.out)
        have hlen := HAP.out a
        have hlenb := HAP.out b
        have HAL := Lib.hid (apply_sz (fun x hx s hs => (HSLS.out x hx) s hs) HSA.out : ∀ s ∈ applyS a l, s.length ≤ maxLen)
        have rX := r6
        clear hWW
        clear W r6 r3 r1 ra
        go_region_held3 (fun w' => w'.cell? ⟨w.heap.size, 0, none⟩ = some (.slice aA a.length ac)) (exact rX)
          (first
            | (go_at_call 16; (first
              | ((with_reducible refine (apply_any _ (.slice none 0 0) (.slice aA a.length ac) [] a BindAt.nil_ (HA.out.below (then_ HWB.out HX.out)) (by simp) HSA.out (by simp) (by rw [HNE.out]; omega)).mono ?_); rintro e w7 ⟨v7, rfl, hv7, hb7⟩; rw [HNE.out] at hv7; have HX := Lib.hid (then_ HX.out hb7); (try (have HE1 := Lib.hid (HE1.out.below hb7))); (try (have HE2 := Lib.hid (own_below HE2.out hb7); have hE2z := Nat.le_trans hE2z (Below.size hb7))); (try (have HE3 := Lib.hid (HE3.out.below hb7))); (try (have HE4 := Lib.hid (HE4.out.below hb7))); have rX := (HR6.out.below HX.out HR6.out.lt).cell (i := 0) (v := .slice aA a.length ac) rfl; have HE1 := Lib.hid hv7; obtain ⟨q1, c1, rfl⟩ := hv7.form; clear hb7 hv7)
              | ((with_reducible refine (apply_any _ (.slice oA (l.filter (notIn a)).length oc) (.slice aA a.length ac) (l.filter (notIn a)) a (HO6.out.below HX.out) (HA.out.below (then_ HWB.out HX.out)) HSF.out HSA.out HFL.out (by rw [HFE.out]; omega)).mono ?_); rintro e w8 ⟨v8, rfl, hv8, hb8⟩; rw [HFE.out] at hv8; have HX := Lib.hid (then_ HX.out hb8); (try (have HE1 := Lib.hid (HE1.out.below hb8))); (try (have HE2 := Lib.hid (own_below HE2.out hb8); have hE2z := Nat.le_trans hE2z (Below.size hb8))); (try (have HE3 := Lib.hid (HE3.out.below hb8))); (try (have HE4 := Lib.hid (HE4.out.below hb8))); have rX := (HR6.out.below HX.out HR6.out.lt).cell (i := 0) (v := .slice aA a.length ac) rfl; have HE1 := Lib.hid hv8; obtain ⟨q1, c1, rfl⟩ := hv8.form; clear hb8 hv8)
              | ((with_reducible refine (apply_own _ (.slice lA l.length lc) (.slice aA a.length ac) l a (HL.out.below (then_ HWB.out HX.out)) (HA.out.below (then_ HWB.out HX.out)) HSL.out HSA.out hL (by omega)).mono ?_); have hE20 := Below.size HX.out; rintro e w9 ⟨v9, rfl, hv9, hb9⟩; have HX := Lib.hid (then_ HX.out hb9); (try (have HE1 := Lib.hid (HE1.out.below hb9))); (try (have HE2 := Lib.hid (own_below HE2.out hb9); have hE2z := Nat.le_trans hE2z (Below.size hb9))); (try (have HE3 := Lib.hid (HE3.out.below hb9))); (try (have HE4 := Lib.hid (HE4.out.below hb9))); have rX := (HR6.out.below HX.out HR6.out.lt).cell (i := 0) (v := .slice aA a.length ac) rfl; have HE2 := Lib.hid hv9; have hE2z := Below.size hb9; clear hb9 hv9)
              | ((with_reducible refine (apply_any _ (.slice lA l.length lc) (.slice bA b.length bc) l b (HL.out.below (then_ HWB.out HX.out)) (HB.out.below (then_ HWB.out HX.out)) HSL.out HSB.out hL (by omega)).mono ?_); rintro e wA ⟨vA, rfl, hvA, hbA⟩; have HX := Lib.hid (then_ HX.out hbA); (try (have HE1 := Lib.hid (HE1.out.below hbA))); (try (have HE2 := Lib.hid (own_below HE2.out hbA); have hE2z := Nat.le_trans hE2z (Below.size hbA))); (try (have HE3 := Lib.hid (HE3.out.below hbA))); (try (have HE4 := Lib.hid (HE4.out.below hbA))); have rX := (HR6.out.below HX.out HR6.out.lt).cell (i := 0) (v := .slice aA a.length ac) rfl; have HE3 := Lib.hid hvA; obtain ⟨q3, c3, rfl⟩ := hvA.form; clear hbA hvA)
              | fail))
            | (go_at_call 18; (first
              | ((with_reducible refine (equal_str_same _ (.slice q1 a.length c1) (.slice aA a.length ac) a HE1.out (HA.out.below (then_ HWB.out HX.out))).mono ?_); rintro e wB ⟨rfl, hbB⟩; clear HE1; have HX := Lib.hid (then_ HX.out hbB); (try (have HE1 := Lib.hid (HE1.out.below hbB))); (try (have HE2 := Lib.hid (own_below HE2.out hbB); have hE2z := Nat.le_trans hE2z (Below.size hbB))); (try (have HE3 := Lib.hid (HE3.out.below hbB))); (try (have HE4 := Lib.hid (HE4.out.below hbB))); have rX := (HR6.out.below HX.out HR6.out.lt).cell (i := 0) (v := .slice aA a.length ac) rfl; clear hbB)
              | ((with_reducible refine (equal_str_same _ _ _ Q (HV6.out.below HX.out) HE4.out).mono ?_); rintro e wC ⟨rfl, hbC⟩; have HX := Lib.hid (then_ HX.out hbC); (try (have HE1 := Lib.hid (HE1.out.below hbC))); (try (have HE2 := Lib.hid (own_below HE2.out hbC); have hE2z := Nat.le_trans hE2z (Below.size hbC))); (try (have HE3 := Lib.hid (HE3.out.below hbC))); (try (have HE4 := Lib.hid (HE4.out.below hbC))); have rX := (HR6.out.below HX.out HR6.out.lt).cell (i := 0) (v := .slice aA a.length ac) rfl; clear hbC)
              | fail))
            | (go_at_call 11; (refine (awake06 _).mono ?_; rintro e wD ⟨rfl, hbD⟩; have HX := Lib.hid (then_ HX.out hbD); (try (have HE1 := Lib.hid (HE1.out.below hbD))); (try (have HE2 := Lib.hid (own_below HE2.out hbD); have hE2z := Nat.le_trans hE2z (Below.size hbD))); (try (have HE3 := Lib.hid (HE3.out.below hbD))); (try (have HE4 := Lib.hid (HE4.out.below hbD))); have rX := (HR6.out.below HX.out HR6.out.lt).cell (i := 0) (v := .slice aA a.length ac) rfl; clear hbD))
            | (refine step_append_wanted (by rfl) (.tmp 48) (.tmp 51) 22 rfl _ 9 i0 (.string ⟨#[]⟩) 1 16 Try.underlying22 hi hj0 hj1 hj2 rfl (by decide) _ (applyS a l).length ((applyS a l).map strV) (by rfl) HE2.out (.slice q3 (applyS b l).length c3) (applyS b l).length ((applyS b l).map strV) (by rfl) HE3.out (by simp [strV, Value.oneCell']) (by unfold maxLen; omega) (by omega) hE2z ?_; intro vF wF hvF hgF; have HE4 := Lib.hid (strs_of_own (l := Q) (by rw [HQ.out, List.map_append]; exact hvF) (by rw [HQ.out]; simp)); have HX := Lib.hid (HX.out.grown hgF HX.out.size (fun k hk => Nat.le_trans hE20 (own_block HE2.out k hk))); have rX := (HR6.out.below HX.out HR6.out.lt).cell (i := 0) (v := .slice aA a.length ac) rfl; obtain ⟨q4, c4, rfl⟩ := HE4.out.form; clear hvF hgF)
            | fail)
        all_goals
          go_wp2
          go_ret
          exact ⟨rfl, then_ HWB.out HX.out⟩
      · have e3 : decide ((60 : Int) < (b.length : Int)) = true := decide_eq_true (by omega)
        clear hf
        have ra := HR.out.cell (i := 0) (v := .slice aA a.length ac) rfl
        go_enter Try.func3, Try.ntmps3
        go_wp2_with (first
          | (go_at_call 10; (refine (few_any _ _ l 20 20 (HL.out.below HW.out)).mono ?_; rintro e w1 ⟨rfl, hb1⟩; have HW := Lib.hid (then_ HW.out hb1); have r1 := (HR.out.below hb1 HR.out.lt).cell (i := 0) (v := .slice aA a.length ac) rfl; clear hb1))
          | (go_at_call 11; (refine (awake06 _).mono ?_; rintro e w2 ⟨rfl, hb2⟩; have HW := Lib.hid (then_ HW.out hb2); clear hb2)))
        go_ret
        exact ⟨rfl, HW.out⟩
    · have e2 : decide ((60 : Int) < (a.length : Int)) = true := decide_eq_true (by omega)
      clear hf
      have ra := HR.out.cell (i := 0) (v := .slice aA a.length ac) rfl
      go_enter Try.func3, Try.ntmps3
      go_wp2_with (first
        | (go_at_call 10; (refine (few_any _ _ l 20 20 (HL.out.below HW.out)).mono ?_; rintro e w1 ⟨rfl, hb1⟩; have HW := Lib.hid (then_ HW.out hb1); have r1 := (HR.out.below hb1 HR.out.lt).cell (i := 0) (v := .slice aA a.length ac) rfl; clear hb1))
        | (go_at_call 11; (refine (awake06 _).mono ?_; rintro e w2 ⟨rfl, hb2⟩; have HW := Lib.hid (then_ HW.out hb2); clear hb2)))
      go_ret
      exact ⟨rfl, HW.out⟩
  · have e1 : decide (FewS l 20 20) = false := decide_eq_false hf
    clear hf
    have ra := HR.out.cell (i := 0) (v := .slice aA a.length ac) rfl
    go_enter Try.func3, Try.ntmps3
    go_wp2_with (first
      | (go_at_call 10; (refine (few_any _ _ l 20 20 (HL.out.below HW.out)).mono ?_; rintro e w1 ⟨rfl, hb1⟩; have HW := Lib.hid (then_ HW.out hb1); have r1 := (HR.out.below hb1 HR.out.lt).cell (i := 0) (v := .slice aA a.length ac) rfl; clear hb1))
      | (go_at_call 11; (refine (awake06 _).mono ?_; rintro e w2 ⟨rfl, hb2⟩; have HW := Lib.hid (then_ HW.out hb2); clear hb2)))
    go_ret
    exact ⟨rfl, HW.out⟩
end Go.Proofs.Ytignhjfobcnloaa
