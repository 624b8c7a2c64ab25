/- Apart of the program. -/
import Derived.Test.YtignhjfobcnloaaSubHands
import Derived.Test.YtignhjfobcnloaaSubSorted
import Derived.Test.YtignhjfobcnloaaSubCmp
import Derived.Test.YtignhjfobcnloaaAppNew
namespace Go.Proofs.Ytignhjfobcnloaa
open Go.RowKit Go.Shelf
attribute [local go_sem] Oper.semAt_some
theorem required_maker (w : World) (lA pA vA : Option Addr) (ln lc pn pc vn vc : Nat) :
    Calls Try.prog 51 #[.slice lA ln lc, .slice pA pn pc, .slice vA vn vc] w fun e w' => e = .returned (.func (.func 83) #[] #[.pointer (some ⟨w.heap.size, 0, none⟩), .pointer (some ⟨w.heap.size + 2, 0, none⟩), .pointer (some ⟨w.heap.size + 1, 0, none⟩)]) ∧
      ((w.alloc (.cells #[.slice lA ln lc] 23)).alloc (.cells #[.slice pA pn pc] 36)).alloc (.cells #[.slice vA vn vc] 22) = w' := by
  go_enter Try.func51, Try.ntmps51
  go_wp2
  go_ret
  exact ⟨rfl, rfl⟩
theorem outS_small {l : List PairD} (h : l.length ≤ 100000000) : (outS l).length ≤ 100000000 := by
  have := outS_len l []
  unfold outS
  simp at this
  omega
theorem PairsAt.drew {w : World} {v : Value} {l : List PairD} (h : PairsAt w v l) : PairsAt w.drew v l := h
theorem cell_put_deferred {w : World} {D : Nat} {d : Option (List Deferred)} (h : w.heap[D]? = some (.deferred d)) (o : Obj) {p : Addr} {u : Value} (hc : w.cell? p = some u) : (w.putObj D o).cell? p = some u := by
  by_cases e : p.block = D
  · exfalso
    unfold World.cell? at hc
    rw [e, h] at hc
    simp at hc
  · rw [← hc]
    unfold World.cell?
    rw [World.putObj_heap_other e]
theorem Rds.put_deferred {w : World} {size n : Nat} {v : Value} {xs : List Value} (h : Rds w size v n xs) {D : Nat} {d : Option (List Deferred)} (hD : w.heap[D]? = some (.deferred d)) (o : Obj) : Rds (w.putObj D o) size v n xs := by
  obtain ⟨A, c, hv, hc, hm, hl, hr⟩ := h
  refine ⟨A, c, hv, hc, hm, hl, fun hn => ?_⟩
  obtain ⟨b, o', ha, hx⟩ := hr hn
  exact ⟨b, o', ha, fun j u hu => cell_put_deferred hD o (hx j u hu)⟩
theorem KpA.refl {B0 B1 Bx : Nat} (W : World) : KpA B0 B1 Bx W W := ⟨rfl, rfl, rfl, Nat.le_refl _, fun _ _ => rfl, fun v hv => ⟨v, hv, fun _ e => .inl e, fun _ _ _ _ _ _ h => h⟩⟩
theorem KpA.setCell {B0 B1 Bx : Nat} {W : World} {p : Addr} (h0 : B0 ≤ p.block) (h1 : p.block < B1) (hx : Bx ≠ p.block) (u : Value) : KpA B0 B1 Bx W (W.setCell p u) := by
  have hk : ∀ k, k ≠ p.block → (W.setCell p u).heap[k]? = W.heap[k]? := fun k hk => Below.heap_setCell W p u k hk
  exact ⟨rfl, rfl, rfl, by simp [World.setCell], fun k hk' => hk k (by omega), fun v hv => ⟨v, Row.other hv hx u, fun g e => .inl e, fun k o hB _ _ _ ho => (hk k (by omega)).trans ho⟩⟩
theorem KpA.grown {B0 B1 Bx b : Nat} {W W' : World} (hg : W.grownBy W' (some b)) (h0 : B0 ≤ b) (h1 : b < B1) (hx : Bx ≠ b) (hz : B0 ≤ W.heap.size) : KpA B0 B1 Bx W W' := by
  refine ⟨hg.os, hg.tape, hg.output, hg.size, fun k hk => hg.block k (by omega) (by simp; omega), fun v hv => ⟨v, hv.grown hg (by simpa using hx), fun g e => .inl e, fun k o hB _ _ _ ho => (hg.block k (Array.getElem?_eq_some_iff.1 ho).1 (by simp; omega)).trans ho⟩⟩
theorem KpA.app {B0 B1 Bx base m : Nat} {W w1 : World} {v v' : Value} {tmp : Obj} {e : TypeId} {size n : Nat} {xs ys : List Value} (BA : BoxApp W (w1.setCell ⟨Bx, 0, none⟩ v') Bx 36 e base size v v' m ys) (_hown : W.ownsRow base e size v n xs) (hbx : Row W Bx 36 #[v]) (hgrow : (W.alloc tmp).grownBy w1 v.ownBlock)
    (hnew : ∀ g, v'.ownBlock = some g → v.ownBlock = some g ∨ (W.alloc tmp).heap.size ≤ g) (h0 : B0 ≤ Bx) (hx : Bx < B1) (hb : B0 ≤ base) (hz : B0 ≤ W.heap.size) : KpA B0 B1 Bx W (w1.setCell ⟨Bx, 0, none⟩ v') := by
  have hB := BA.below B0 W (Below.refl _ _) h0 hb hz
  refine ⟨hB.os, hB.tape, hB.output, BA.size, hB.block, fun u hu => ⟨v', BA.box, fun g eg => ?_, fun k o hk hne _ _ ho => ?_⟩⟩
  · obtain rfl := Row.inj hbx hu
    rcases hnew g eg with h | h
    · exact .inl h
    · exact .inr (by simp at h; omega)
  · obtain rfl := Row.inj hbx hu
    have hlt := (Array.getElem?_eq_some_iff.1 ho).1
    rw [Below.heap_setCell _ _ _ _ (by dsimp only; omega), hgrow.block k (by simp; omega) (fun e => hne e.symm), Below.heap_alloc _ _ _ hlt, ho]
theorem vars_mem {vs text : List (List UInt8)} {s : List UInt8} (h : s ∈ varsS text vs) : s ∈ vs := by
  have := (varsRun_mem vs text [] s).1 h
  simpa using this.elim (by simp) (fun h => h.2)
theorem req_ok {l : List BindD} {pairs : List PairD} {vs : List (List UInt8)} (z : SubSz l pairs vs) {p : PairD} (h : p ∈ reqS l pairs vs) : okP p := by
  unfold reqS at h
  obtain ⟨q, _, h⟩ := List.mem_flatMap.1 h
  obtain ⟨x, hx, h⟩ := List.mem_flatMap.1 h
  obtain ⟨y, hy, rfl⟩ := List.mem_map.1 h
  have h1 := z.vars x (vars_mem hx)
  have h2 := z.vars y (vars_mem hy)
  unfold orderedS
  split
  · exact ⟨h2, h1⟩
  · exact ⟨h1, h2⟩
/-- the frame of Apart in a round -/
def apTmps (a0 a1 a2 c : Value) (B g : Nat) (p : PairD) : Array Value :=
  #[a0, a1, a2, undef, undef, undef, .slice none 0 0, .bool false, .pointer (some ⟨B, 0, none⟩), .pointer (some ⟨B + 1, 0, none⟩), .pointer (some ⟨B + 1 + 1 + 1, 0, none⟩), .pointer (some ⟨g, 0, none⟩), .map (some (B + 1 + 1)), a0, a1, a2, c,
    .agg #[.string ⟨p.1.toArray⟩, .string ⟨p.2.toArray⟩], undef, undef, undef, undef, undef, undef, undef, undef, undef, undef, undef, undef, undef, undef, undef, undef, undef, undef, undef, undef]
/-- between two rounds -/
def ApI (w : World) (pre : List PairD) (W : World) : Prop :=
  (∃ v, Row W w.heap.size 36 #[v] ∧ W.ownsRow (w.heap.size + 7) 39 2 v (outS pre).length ((outS pre).flatMap pairCells)) ∧ Row W (w.heap.size + 1) 4 #[.bool (posS pre)] ∧
  (∃ n, n ≤ pre.length ∧ SetP W (w.heap.size + 1 + 1) n (outS pre)) ∧ Row W (w.heap.size + 1 + 1 + 1) 115 #[.map (some (w.heap.size + 1 + 1))] ∧ Below w.heap.size w W ∧ w.heap.size + 7 ≤ W.heap.size
def ApA (w : World) (a0 a1 a2 c : Value) (pre : List PairD) (x : PairD) (a : Act) (W : World) : Prop :=
  ∃ g, a = { tmps := apTmps a0 a1 a2 c w.heap.size g x, defers := [] } ∧ w.heap.size + 7 ≤ g ∧ Row W g 39 #[.string ⟨x.1.toArray⟩, .string ⟨x.2.toArray⟩] ∧ (∀ v, Row W w.heap.size 36 #[v] → v.ownBlock ≠ some g) ∧ ApI w pre W
theorem ApI.stable {w : World} {B : Nat} (hB : w.heap.size + 7 ≤ B) : Stable (okCall fun _ => False) B (ApI w) := by
  rintro pre A A' ⟨⟨v, hv, ho⟩, h1, ⟨n, hn, hs⟩, h3, h4, h5⟩ ht
  exact ⟨⟨v, hv.turn ht (.inl (by omega)), own_turn ho ht fun _ => not_okCall_none⟩, h1.turn ht (.inl (by omega)), ⟨n, hn, hs.same fun es c hh => ht.block _ _ hh (.inl (by omega))⟩, h3.turn ht (.inl (by omega)), below_turn h4 ht (Nat.le_refl _) (by omega), by have := ht.size; omega⟩
theorem Row.turn_back {A A' : World} {B g : Nat} {t : TypeId} {cs cs' : Array Value} (h : Row A g t cs) (ht : Turn (okCall fun _ => False) B A A') (hg : g < B) (h' : Row A' g t cs') : cs = cs' := by
  have := h.turn ht (.inl hg)
  have e : some (Obj.cells cs t (0, 0)) = some (Obj.cells cs' t (0, 0)) := this.symm.trans h'
  simpa using e
theorem ApA.stable {w : World} {a0 a1 a2 c : Value} {B : Nat} (hB : w.heap.size + 7 ≤ B) (pre : List PairD) (x : PairD) (a : Act) : Stable (okCall fun _ => False) B (fun (_ : Unit) W => ApA w a0 a1 a2 c pre x a W) := by
  rintro _ A A' ⟨g, h1, hg, h2, h3, h4⟩ ht
  refine ⟨g, h1, hg, h2.turn ht (.inr not_okCall_none), fun v hv => ?_, ApI.stable hB _ _ _ h4 ht⟩
  obtain ⟨⟨u, hu, _⟩, _⟩ := h4
  have := Row.turn_back hu ht (by omega) hv
  have e : u = v := by simpa using this
  subst e
  exact h3 u hu
theorem ApI.ga {w : World} {pre : List PairD} {W : World} (h : ApI w pre W) : GA (w.heap.size + 7) w.heap.size W := by
  obtain ⟨⟨v, hv, ho⟩, _, _, _, _, h5⟩ := h
  exact ⟨h5, v, hv, fun g eg => (ho.lt g eg).2⟩
set_option maxRecDepth 100000 in
set_option maxHeartbeats 4000000 in
theorem apart_of (w : World) (lv pv vv : Value) (l : List BindD) (pairs : List PairD) (vs : List (List UInt8)) (hl : BindAt w lv l) (hp : PairsAt w pv pairs) (hv : Strs w vv vs) (z : SubSz l pairs vs) (hN : (reqS l pairs vs).length ≤ 100000000) (hcomp : CompactOk (((outS (reqS l pairs vs)).map orderedS).mergeSort fun x y => !(ltOf cmpP) y x)) :
    Calls Try.prog 19 #[lv, pv, vv] w fun e w' => ∃ v, e = .returned (.tuple #[v, .bool (posS (reqS l pairs vs))]) ∧ PairsAt w' v (sortedS (outS (reqS l pairs vs))) ∧ Below w.heap.size w w' := by
  have hp0 := hp
  obtain ⟨pA, pc, rfl, _⟩ := hp.open_
  obtain ⟨vA, vc, rfl⟩ := hv.form
  have hl0 := hl
  obtain ⟨lA, lc, rfl, _⟩ := hl
  have hmm := @run_makeMap Try.prog
  refine (callsIn_wide (n := 9)).1 ?_
  refine callsIn_of_wp_marks Try.func19 rfl trivial ?_ rfl
  simp only [Try.ntmps19, List.size_toArray, List.length_cons, List.length_nil, Nat.reduceAdd, Nat.reduceSub, Array.replicate_succ, Array.replicate_zero, List.push_toArray, List.append_toArray, List.nil_append, List.cons_append]
  gi_wp2_with (refine ⟨trivial, ?_⟩; gi_at_call 51; (refine (callsIn_wide.2 (required_maker _ _ _ _ _ _ _ _ _ _)).mono ?_; rintro e w' ⟨rfl, rfl⟩))
  obtain ⟨W4, hW4⟩ : ∃ W4 : World, W4 = (((((((w.alloc (.cells #[.slice none 0 0] 36)).alloc (.cells #[.bool true] 4)).alloc (.map #[] 0)).alloc (.cells #[.map (some (w.heap.size + 1 + 1))] 115)).alloc (.cells #[.slice lA l.length lc] 23)).alloc (.cells #[.slice pA pairs.length pc] 36)).alloc (.cells #[.slice vA vs.length vc] 22)) := ⟨_, rfl⟩
  rw [← hW4]
  have r0 : Row W4 w.heap.size 36 #[.slice none 0 0] := by rw [hW4]; exact ((((((Row.new' _ _ _ (by simp)).alloc _).alloc _).alloc _).alloc _).alloc _).alloc _
  have r1 : Row W4 (w.heap.size + 1) 4 #[.bool true] := by rw [hW4]; exact (((((Row.new' _ _ _ (by simp)).alloc _).alloc _).alloc _).alloc _).alloc _
  have r3 : Row W4 (w.heap.size + 1 + 1 + 1) 115 #[.map (some (w.heap.size + 1 + 1))] := by rw [hW4]; exact (((Row.new' _ _ _ (by simp)).alloc _).alloc _).alloc _
  have r4 : Row W4 (w.heap.size + 1 + 1 + 1 + 1) 23 #[.slice lA l.length lc] := by rw [hW4]; exact ((Row.new' _ _ _ (by simp)).alloc _).alloc _
  have r5 : Row W4 (w.heap.size + 1 + 1 + 1 + 1 + 1) 36 #[.slice pA pairs.length pc] := by rw [hW4]; exact (Row.new' _ _ _ (by simp)).alloc _
  have r6 : Row W4 (w.heap.size + 1 + 1 + 1 + 1 + 2) 22 #[.slice vA vs.length vc] := by rw [hW4]; exact Row.new' _ _ _ (by simp)
  have r2 : SetP W4 (w.heap.size + 1 + 1) 0 [] := by
    have e : ((w.alloc (.cells #[.slice none 0 0] 36)).alloc (.cells #[.bool true] 4)).heap.size = w.heap.size + 1 + 1 := by simp
    have := SetP.new ((w.alloc (.cells #[.slice none 0 0] 36)).alloc (.cells #[.bool true] 4))
    rw [e] at this
    rw [hW4]
    exact (((this.below ((Below.refl _ _).alloc (Nat.le_refl _) _)).below ((Below.refl _ _).alloc (Nat.le_refl _) _)).below ((Below.refl _ _).alloc (Nat.le_refl _) _)).below ((Below.refl _ _).alloc (Nat.le_refl _) _)
  have hB4 : Below w.heap.size w W4 := by rw [hW4]; exact new_ (new_ (new_ (new_ (new_ (new_ (new_ (Below.refl _ _) _) _) _) _) _) _) _
  have hz4 : W4.heap.size = w.heap.size + 7 := by rw [hW4]; simp
  clear hW4
  have hI0 : ApI w [] W4 := ⟨⟨_, r0, World.ownsRow_nil _ _ _ _⟩, r1, ⟨0, Nat.le_refl _, r2⟩, r3, hB4, by omega⟩
  have hseq := required_seq 8 (by omega) hl0 hp0 hv z W4 hB4 _ _ _ r4 r6 r5 (handsA (B1 := w.heap.size + 7) (Bx := w.heap.size))
  clear r0 r1 r2 r3 r4 r5 r6
  refine range_law_g (by omega) (gf := 83) (lb := #[.pointer (some ⟨w.heap.size + 1 + 1 + 1 + 1, 0, none⟩), .pointer (some ⟨w.heap.size + 1 + 1 + 1 + 1 + 2, 0, none⟩), .pointer (some ⟨w.heap.size + 1 + 1 + 1 + 1 + 1, 0, none⟩)]) rfl (enters_of Try.func83 (by kernel_rfl) rfl) hseq KpA.trans
    (fun W l r r' hle hl => KpA.loop hl (by omega) (by omega)) (Below.refl _ _) (fun _ => rfl) (ApI w) (fun _ _ _ => False) (ApI.stable (by omega)) (fun c _ _ _ h _ => h) (fun pre W h => h.ga) hI0
    (ApA w (.slice lA l.length lc) (.slice pA pairs.length pc) (.slice vA vs.length vc) (.func (.func 83) #[] #[.pointer (some ⟨w.heap.size + 1 + 1 + 1 + 1, 0, none⟩), .pointer (some ⟨w.heap.size + 1 + 1 + 1 + 1 + 2, 0, none⟩), .pointer (some ⟨w.heap.size + 1 + 1 + 1 + 1 + 1, 0, none⟩)])) (ApA.stable (by omega)) ?assign ?body ?done ?stop
  case assign =>
    intro l' pre x W K hI hpre hK
    simp only [encP]
    gi_wp2
    refine hK _ _ ((KeepsOthers.alloc _ _).from _) (KpA.alloc _ (by have := hI.2.2.2.2.2; omega)) ⟨W.heap.size, rfl, hI.2.2.2.2.2, Row.new _ _ _, fun v hv => ?_, ApI.stable (B := w.heap.size + 7) (Nat.le_refl _) _ _ _ hI (Turn.grow ((Below.refl _ _).alloc (by simp) _))⟩
    obtain ⟨⟨u, hu, ho⟩, _⟩ := hI
    obtain rfl := Row.inj (hu.alloc _) hv
    exact fun e => Nat.lt_irrefl _ (ho.lt _ e).2
  case body =>
    rintro l' pre x a' W ⟨g, rfl, hg, hrx, hne, ⟨v, hbx, hown⟩, hb1, ⟨n, hn, hset⟩, hb3, hB, hz⟩ hpre
    have hne0 := hne v hbx
    have c0 := hrx.cell (i := 0) (v := .string ⟨x.1.toArray⟩) rfl
    have c1 := hrx.cell (i := 1) (v := .string ⟨x.2.toArray⟩) rfl
    have cb1 := hb1.cell (i := 0) (v := .bool (posS pre)) rfl
    have fb1 := hb1.free 0
    have cb3 := hb3.cell (i := 0) (v := .map (some (w.heap.size + 1 + 1))) rfl
    have cbx := hbx.cell (i := 0) (v := v) rfl
    have fbx := hbx.free 0
    have hlen : pre.length < 100000000 := by
      obtain ⟨r, hr⟩ := hpre
      have := congrArg List.length hr
      simp at this
      omega
    simp only [apTmps]
    by_cases hxe : x.1 = x.2
    · have t1 : (x.1 == x.2) = true := by simpa using hxe
      have HX := Lib.hid hxe
      clear hxe
      gi_wp2
      exact ⟨(KeepsOthers.setCell _ _ _).from _, KpA.setCell (by dsimp only; omega) (by dsimp only; omega) (by dsimp only; omega) _,
        ⟨v, Row.other hbx (by dsimp only; omega) _, by rw [outS_snoc, outP, if_pos HX.out]; exact ownsRow_setCell_below hown (by dsimp only; omega) _⟩, by rw [posS_snoc]; simpa [HX.out] using hb1.same1 _,
        ⟨n, by simp; omega, by rw [outS_snoc, outP, if_pos HX.out]; exact hset.same fun es c hh => (Below.heap_setCell _ _ _ _ (by dsimp only; omega)).trans hh⟩, Row.other hb3 (by dsimp only; omega) _, hB.setCell (p := ⟨w.heap.size + 1, 0, none⟩) (by dsimp only; omega) _, by simpa [World.setCell] using hz⟩
    · have t1 : (x.1 == x.2) = false := by simpa using hxe
      have HX := Lib.hid hxe
      have hox : okP x := req_ok z (hpre.subset (by simp))
      have hlk := hset.look x hox
      clear hxe
      by_cases hin : x ∈ outS pre
      · rw [decide_eq_true hin] at hlk
        have HI := Lib.hid hin
        clear hin
        gi_wp2
        exact ⟨KeepsFrom.refl _ _, KpA.refl _, ⟨v, hbx, by rw [outS_snoc, outP, if_neg HX.out, if_pos HI.out]; exact hown⟩, by rw [posS_snoc]; simpa [HX.out] using hb1,
          ⟨n, by simp; omega, by rw [outS_snoc, outP, if_neg HX.out, if_pos HI.out]; exact hset⟩, hb3, hB, hz⟩
      · rw [decide_eq_false hin] at hlk
        have HI := Lib.hid hin
        clear hin
        obtain ⟨w2, hput, hset2, hg2⟩ := hset.put x hox (by unfold maxLen; omega)
        have hz2 := hg2.size
        have hbx2 := hbx.grown hg2 (by simp; omega)
        have hrx2 := hrx.grown hg2 (by simp; omega)
        have hb12 := hb1.grown hg2 (by simp)
        have hb32 := hb3.grown hg2 (by simp)
        have hown2 := hown.kept hg2 (.inr fun e => by have := (hown.lt _ e).1; omega)
        have c02 := hrx2.cell (i := 0) (v := .string ⟨x.1.toArray⟩) rfl
        have c12 := hrx2.cell (i := 1) (v := .string ⟨x.2.toArray⟩) rfl
        have HS2 := Lib.hid hset2
        have hol : (outS pre).length ≤ 100000000 := by have := outS_len pre []; unfold outS; simp at this; omega
        obtain ⟨M, hM⟩ : ∃ M, M = (outS pre).length := ⟨_, rfl⟩
        obtain ⟨X, hX⟩ : ∃ X, X = (outS pre).flatMap pairCells := ⟨_, rfl⟩
        rw [← hM, ← hX] at hown2
        rw [← hM] at hol
        have HM := Lib.hid hM
        have HX2 := Lib.hid hX
        obtain ⟨A, cp, rfl, hcp⟩ := own_form hown2
        have cbx2 := hbx2.cell (i := 0) (v := .slice A M cp) rfl
        obtain ⟨i0, hi, hj0, hj1, hj2⟩ := info_parts infoPair
        clear hset2 hM hX hown hset hbx hrx
        gi_wp2_with (gi_at_builtin; (refine wpListIn_append_new _ rfl _ _ 36 rfl (w.heap.size + 7) 39 i0 (.agg #[.string ⟨#[]⟩, .string ⟨#[]⟩]) 2 32 Try.underlying36 hi hj0 hj1 hj2 rfl (by decide) _ _ _ rfl (hown2.alloc _) ⟨w2.heap.size, 0, none⟩ 1 1 (pairCells x) rfl rfl (cells_of' _ _ _ _ rfl rfl) (by simp [pairCells, Value.oneCell']) (by unfold maxLen; omega) (by omega) (by simp; omega) ?_; intro v' w1 hown' hgrow hnew; have cb4 := ((hbx2.alloc (.cells #[.string ⟨x.1.toArray⟩, .string ⟨x.2.toArray⟩] 39)).grown hgrow (fun e => by have := (hown2.lt _ e.symm).1; omega)).cell (i := 0) (v := .slice A M cp) rfl; have fb4 := ((hbx2.alloc (.cells #[.string ⟨x.1.toArray⟩, .string ⟨x.2.toArray⟩] 39)).grown hgrow (fun e => by have := (hown2.lt _ e.symm).1; omega)).free 0; obtain ⟨g', cap', rfl⟩ := ownsRow_succ hown'))
        have BA := box_append hbx2 (by omega) hown2 hgrow hown'
        have hj1 : ∀ j, some (w.heap.size + 1 + 1) = some j → j < W4.heap.size := fun j ej => by
          have := Option.some.inj ej
          omega
        have hj2 : ∀ j, some (w.heap.size + 1 + 1) = some j → w.heap.size ≤ j := fun j ej => by
          have := Option.some.inj ej
          omega
        have hB2 := hB.grown hg2 (by omega) hj2
        refine ⟨(KeepsFrom.of_grownBy hg2 hj1).trans (BA.others.from _), (KpA.grown hg2 (by omega) (by omega) (by omega) (by omega)).trans (KpA.app BA hown2 hbx2 hgrow hnew (Nat.le_refl _) (by omega) (by omega) (by omega)),
          ⟨_, BA.box, ?_⟩, ?_, ⟨n + 1, by simp; omega, ?_⟩, BA.rows _ _ _ hb32 (by omega) (.inl (by omega)), BA.below _ _ hB2 (Nat.le_refl _) (by omega) (by omega), by have := BA.size; omega⟩
        · rw [outS_snoc, outP, if_neg HX.out, if_neg HI.out, List.length_append, List.flatMap_append, ← HM.out, ← HX2.out]
          simpa using BA.own
        · rw [posS_snoc]; simpa [HX.out] using BA.rows _ _ _ hb12 (by omega) (.inl (by omega))
        · rw [outS_snoc, outP, if_neg HX.out, if_neg HI.out]
          refine HS2.out.same fun es c hh => ?_
          exact BA.others.same _ _ hh rfl
  case done =>
    rintro D W hD ⟨⟨v, hbx, hown⟩, hb1, hset, hb3, hB, hz⟩ hK
    have cb1 := hb1.cell (i := 0) (v := .bool (posS (reqS l pairs vs))) rfl
    have hra := Rds.of_own hown
    obtain ⟨A, cp, rfl, hcp⟩ := own_form hown
    have cbx := hbx.cell (i := 0) (v := .slice A (outS (reqS l pairs vs)).length cp) rfl
    have hmo : Try.prog.follows .mixedOrders = true := by kernel_rfl
    gi_wp2
    first | gi_region_with_o (refine ⟨trivial, ?_⟩; gi_at_call 21; (refine (callsIn_wide.2 (sorted_of compare_any _ _ (outS (reqS l pairs vs)) (PairsAt.drew hra) (outS_small hN) hcomp)).mono ?_; rintro e w5 ⟨u5, rfl, hu5, hb5⟩; have cb5 := (Row.below hb1.drew hb5 hb1.lt).cell (i := 0) (v := .bool (posS (reqS l pairs vs))) rfl)) | fail
    all_goals
      gi_wp2
      have gK : w5.heap[D]? = some (.deferred (some [])) := (hb5.block D (lt_of_block hK)).trans hK
      have gB : Below w.heap.size w w5 := (hB.drew).trans (hb5.mono hB.size)
      refine ⟨by simp, .inl ⟨_, _, rfl, run_takeDeferred gK, ?_⟩⟩
      have T0 := Turn.putObj (ok := okCall fun _ => False) (B := w.heap.size + 7) (.deferred none) gK (by omega) (.inl rfl)
      refine ⟨.tuple #[u5, .bool (posS (reqS l pairs vs))], by simp [results, Try.f19, go_sem], u5, rfl, ?_, below_turn gB T0 (Nat.le_refl _) (by omega)⟩
      exact Rds.put_deferred hu5 gK _
  case stop => intro D c pre W _ h; exact h.elim
end Go.Proofs.Ytignhjfobcnloaa
