/- Broken of the program. -/
import Derived.Test.YtignhjfobcnloaaSubHands
import Derived.Test.YtignhjfobcnloaaSubApart
import Derived.Test.YtignhjfobcnloaaSubSearch
import Derived.Test.YtignhjfobcnloaaSubCompact
namespace Go.Proofs.Ytignhjfobcnloaa
open Go.RowKit Go.Shelf
attribute [local go_sem] Oper.semAt_some
/-- what a round keeps: every block but loops and deferred calls -/
structure KpB (B0 : Nat) (W W' : World) : Prop where
  os : W'.os = W.os
  tape : W'.tape = W.tape
  output : W'.output = W.output
  size : W.heap.size ≤ W'.heap.size
  low : ∀ k, k < B0 → W'.heap[k]? = W.heap[k]?
  kept : ∀ (k : Nat) (o : Obj), (∀ r, o ≠ .loop r) → (∀ d, o ≠ .deferred d) → W.heap[k]? = some o → W'.heap[k]? = some o
theorem KpB.trans {B0 : Nat} {A B C : World} (h : KpB B0 A B) (k : KpB B0 B C) : KpB B0 A C :=
  ⟨k.os.trans h.os, k.tape.trans h.tape, k.output.trans h.output, Nat.le_trans h.size k.size, fun i hi => (k.low i hi).trans (h.low i hi), fun i o h1 h2 ho => k.kept i o h1 h2 (h.kept i o h1 h2 ho)⟩
theorem KpB.of_below {B0 : Nat} {W W' : World} (hb : Below W.heap.size W W') (h0 : B0 ≤ W.heap.size) : KpB B0 W W' :=
  ⟨hb.os, hb.tape, hb.output, hb.size, fun k hk => hb.block k (by omega), fun k o _ _ ho => (hb.block k (Array.getElem?_eq_some_iff.1 ho).1).trans ho⟩
theorem KpB.loop {B0 : Nat} {W : World} {l : Nat} {r r' : Loop} (hl : W.heap[l]? = some (.loop r)) (h0 : B0 ≤ l) : KpB B0 W (W.putObj l (.loop r')) :=
  ⟨rfl, rfl, rfl, by simp, fun k hk => World.putObj_heap_other (by omega), fun k o h1 _ ho => (World.putObj_heap_other fun e => by
    subst e
    rw [hl] at ho
    injection ho with ho
    exact h1 r ho.symm).trans ho⟩
theorem handsB {B0 : Nat} : Hands B0 (KpB B0) (fun _ => True) (fun W g => g < W.heap.size) where
  old _ _ h := ⟨h.os, h.tape, h.output, h.size, h.low⟩
  new _ _ _ _ _ _ h2 := h2
  kept _ _ g hk hs := ⟨Nat.lt_of_lt_of_le hs hk.size, fun o h1 h2 ho => hk.kept g o h1 h2 ho⟩
  grow _ _ _ hs hb := Nat.lt_of_lt_of_le hs hb.size
theorem cell_turn {A A' : World} {B : Nat} (ht : Turn (okCall fun _ => False) B A A') {p : Addr} {u : Value} (hc : A.cell? p = some u) : A'.cell? p = some u := by
  cases h : A.heap[p.block]? with
  | none => unfold World.cell? at hc; rw [h] at hc; simp at hc
  | some o =>
    cases o with
    | cells cs t fr =>
      have h2 := ht.block _ _ h (.inr fun h3 => by rcases h3 with h3 | ⟨_, _, _, _, h3⟩; cases h3; exact h3)
      rw [← hc]
      unfold World.cell?
      rw [h, h2]
    | _ => unfold World.cell? at hc; rw [h] at hc; simp at hc
theorem Rds.turn {A A' : World} {B size n : Nat} {v : Value} {xs : List Value} (h : Rds A size v n xs) (ht : Turn (okCall fun _ => False) B A A') : Rds A' size v n xs := by
  obtain ⟨P, c, hv, hc, hm, hl, hr⟩ := h
  refine ⟨P, c, hv, hc, hm, hl, fun hn => ?_⟩
  obtain ⟨b, o', ha, hx⟩ := hr hn
  exact ⟨b, o', ha, fun j u hu => cell_turn ht (hx j u hu)⟩
/-- the frame of Broken in a round -/
def brTmps (a0 a1 a2 a3 s c : Value) (H B g : Nat) (p : PairD) : Array Value :=
  #[a0, a1, a2, a3, undef, undef, undef, undef, .pointer (some ⟨H, 0, none⟩), .pointer (some ⟨H + 1, 0, none⟩), .pointer (some ⟨B, 0, none⟩), .pointer (some ⟨g, 0, none⟩), undef, undef, a3, s, a0, a1, a2, c,
    .agg #[.string ⟨p.1.toArray⟩, .string ⟨p.2.toArray⟩], undef, undef, undef, undef, undef, undef, undef, undef, undef, undef, undef, undef, undef, undef, undef, undef, undef]
/-- between two rounds -/
def BrI (w : World) (B : Nat) (s : Value) (wide : List PairD) (pre : List PairD) (W : World) : Prop :=
  Row W w.heap.size 39 #[.string ⟨#[]⟩, .string ⟨#[]⟩] ∧ Row W (w.heap.size + 1) 4 #[.bool false] ∧ Row W B 36 #[s] ∧ PairsAt W s (sortedS wide) ∧ (∀ q ∈ pre, badB wide q = false) ∧ Below w.heap.size w W ∧ B + 4 ≤ W.heap.size
def BrA (w : World) (a0 a1 a2 a3 c : Value) (B : Nat) (s : Value) (wide : List PairD) (pre : List PairD) (x : PairD) (a : Act) (W : World) : Prop :=
  ∃ g, a = { tmps := brTmps a0 a1 a2 a3 s c w.heap.size B g x, defers := [] } ∧ Row W g 39 #[.string ⟨x.1.toArray⟩, .string ⟨x.2.toArray⟩] ∧ B + 4 ≤ g ∧ BrI w B s wide pre W
/-- found -/
def BrX (w : World) (wide req : List PairD) (c : Code) (_ : List PairD) (W : World) : Prop :=
  c = .ret ∧ (∃ q, brokenS wide req = some q ∧ Row W w.heap.size 39 #[.string ⟨q.1.toArray⟩, .string ⟨q.2.toArray⟩]) ∧ Row W (w.heap.size + 1) 4 #[.bool true] ∧ Below w.heap.size w W
theorem BrI.stable {w : World} {B D : Nat} {s : Value} {wide : List PairD} (hB : w.heap.size + 2 ≤ B) (hD : B + 4 ≤ D) : Stable (okCall fun _ => False) D (BrI w B s wide) := by
  rintro pre A A' ⟨h0, h1, h2, h3, h4, h5, h6⟩ ht
  exact ⟨h0.turn ht (.inl (by omega)), h1.turn ht (.inl (by omega)), h2.turn ht (.inl (by omega)), h3.turn ht, h4, below_turn h5 ht (Nat.le_refl _) (by omega), by have := ht.size; omega⟩
theorem BrA.stable {w : World} {a0 a1 a2 a3 c s : Value} {B D : Nat} {wide : List PairD} (hB : w.heap.size + 2 ≤ B) (hD : B + 4 ≤ D) (pre : List PairD) (x : PairD) (a : Act) : Stable (okCall fun _ => False) D (fun (_ : Unit) W => BrA w a0 a1 a2 a3 c B s wide pre x a W) := by
  rintro _ A A' ⟨g, h1, h2, h3, h4⟩ ht
  exact ⟨g, h1, h2.turn ht (.inr not_okCall_none), h3, BrI.stable hB hD _ _ _ h4 ht⟩
theorem BrX.stable {w : World} {wide req : List PairD} {D : Nat} (hD : w.heap.size + 2 ≤ D) (c : Code) : Stable (okCall fun _ => False) D (BrX w wide req c) := by
  rintro pre A A' ⟨h0, ⟨q, h1, h2⟩, h3, h4⟩ ht
  exact ⟨h0, ⟨q, h1, h2.turn ht (.inl (by omega))⟩, h3.turn ht (.inl (by omega)), below_turn h4 ht (Nat.le_refl _) (by omega)⟩
theorem KeepsOthers.below {W W' : World} (hb : Below W.heap.size W W') : KeepsOthers W W' := ⟨hb.size, fun k _ hk _ => (hb.block k (Array.getElem?_eq_some_iff.1 hk).1).trans hk⟩
theorem broken_hit {wide pre req : List PairD} {x : PairD} (h : pre ++ [x] <+: req) (hp : ∀ q ∈ pre, badB wide q = false) (hx : badB wide x = true) : brokenS wide req = some x := by
  obtain ⟨r, rfl⟩ := h
  unfold brokenS
  rw [List.append_assoc, List.find?_append, List.find?_eq_none.2 (by intro q hq; rw [hp q hq]; simp)]
  simp [hx]
theorem broken_miss {wide req : List PairD} (hp : ∀ q ∈ req, badB wide q = false) : brokenS wide req = none := by
  unfold brokenS
  exact List.find?_eq_none.2 (by intro q hq; rw [hp q hq]; simp)
set_option maxRecDepth 100000 in
set_option maxHeartbeats 4000000 in
theorem broken_of (w : World) (lv pv vv wv : Value) (l : List BindD) (pairs wide : List PairD) (vs : List (List UInt8)) (hl : BindAt w lv l) (hp : PairsAt w pv pairs) (hv : Strs w vv vs) (hw : PairsAt w wv wide) (z : SubSz l pairs vs) (hW : wide.length ≤ 1000000) :
    Calls Try.prog 22 #[lv, pv, vv, wv] w fun e w' => e = .returned (.tuple #[pairV ((brokenS wide (reqS l pairs vs)).getD ([], [])), .bool (brokenS wide (reqS l pairs vs)).isSome]) ∧ Below w.heap.size w w' := by
  have hp0 := hp
  obtain ⟨pA, pc, rfl, _⟩ := hp.open_
  obtain ⟨vA, vc, rfl⟩ := hv.form
  obtain ⟨wA, wc, rfl, _⟩ := hw.open_
  have hl0 := hl
  obtain ⟨lA, lc, rfl, _⟩ := hl
  have HC := Lib.hid (compact_any ((wide.map orderedS).mergeSort fun x y => !(ltOf cmpP) y x) (by rw [List.length_mergeSort, List.length_map]; omega))
  refine (callsIn_wide (n := 9)).1 ?_
  refine callsIn_of_wp_marks Try.func22 rfl trivial ?_ rfl
  simp only [Try.ntmps22, List.size_toArray, List.length_cons, List.length_nil, Nat.reduceAdd, Nat.reduceSub, Array.replicate_succ, Array.replicate_zero, List.push_toArray, List.append_toArray, List.nil_append, List.cons_append]
  gi_wp2_with (first
    | (refine ⟨trivial, ?_⟩; gi_at_call 21; (refine (callsIn_wide.2 (sorted_of compare_any _ _ wide (hw.below (new_ (new_ (Below.refl _ _) _) _)) (by omega) HC.out)).mono ?_; rintro e w1 ⟨u1, rfl, hu1, hb1⟩; obtain ⟨sA, sc, rfl, _⟩ := hu1.open_))
    | (refine ⟨trivial, ?_⟩; gi_at_call 51; (refine (callsIn_wide.2 (required_maker _ _ _ _ _ _ _ _ _ _)).mono ?_; rintro e w' ⟨rfl, rfl⟩)))
  have hc := Lib.hid hu1
  obtain ⟨S, hS⟩ : ∃ S, S = sortedS wide := ⟨_, rfl⟩
  have HS := Lib.hid hS
  rw [← hS] at hu1 ⊢
  clear hS
  obtain ⟨W4, hW4⟩ : ∃ W4 : World, W4 = ((((w1.alloc (.cells #[.slice sA S.length sc] 36)).alloc (.cells #[.slice lA l.length lc] 23)).alloc (.cells #[.slice pA pairs.length pc] 36)).alloc (.cells #[.slice vA vs.length vc] 22)) := ⟨_, rfl⟩
  rw [← hW4]
  have e1 : ((w.alloc (.cells #[.string ⟨#[]⟩, .string ⟨#[]⟩] 39)).alloc (.cells #[.bool false] 4)).heap.size = w.heap.size + 2 := by simp
  have hz1 : w.heap.size + 2 ≤ w1.heap.size := by have := hb1.size; omega
  have q0 : Row w1 w.heap.size 39 #[.string ⟨#[]⟩, .string ⟨#[]⟩] := ((Row.new' _ _ _ (by simp)).alloc _).below hb1 (by omega)
  have q1 : Row w1 (w.heap.size + 1) 4 #[.bool false] := (Row.new' _ _ _ (by simp)).below hb1 (by omega)
  have r0 : Row W4 w.heap.size 39 #[.string ⟨#[]⟩, .string ⟨#[]⟩] := by rw [hW4]; exact (((q0.alloc _).alloc _).alloc _).alloc _
  have r1 : Row W4 (w.heap.size + 1) 4 #[.bool false] := by rw [hW4]; exact (((q1.alloc _).alloc _).alloc _).alloc _
  have r2 : Row W4 w1.heap.size 36 #[.slice sA S.length sc] := by rw [hW4]; exact (((Row.new' _ _ _ (by simp)).alloc _).alloc _).alloc _
  have r4 : Row W4 (w1.heap.size + 1) 23 #[.slice lA l.length lc] := by rw [hW4]; exact ((Row.new' _ _ _ (by simp)).alloc _).alloc _
  have r5 : Row W4 (w1.heap.size + 1 + 1) 36 #[.slice pA pairs.length pc] := by rw [hW4]; exact (Row.new' _ _ _ (by simp)).alloc _
  have r6 : Row W4 (w1.heap.size + 1 + 2) 22 #[.slice vA vs.length vc] := by rw [hW4]; exact Row.new' _ _ _ (by simp)
  have hB1 : Below w.heap.size w w1 := then_ (new_ (new_ (Below.refl _ _) _) _) hb1
  have hB14 : Below w1.heap.size w1 W4 := by rw [hW4]; exact new_ (new_ (new_ (new_ (Below.refl _ _) _) _) _) _
  have hB4 : Below w.heap.size w W4 := then_ hB1 hB14
  have hz4 : W4.heap.size = w1.heap.size + 4 := by rw [hW4]; simp
  have hs4 : PairsAt W4 (.slice sA S.length sc) S := hu1.below hB14
  clear hW4 hb1 q0 q1 e1
  have hI0 : BrI w w1.heap.size (.slice sA S.length sc) wide [] W4 := ⟨r0, r1, r2, by rw [← HS.out]; exact hs4, by simp, hB4, by omega⟩
  have hseq := required_seq 8 (by omega) hl0 hp0 hv z W4 hB4 _ _ _ r4 r6 r5 (handsB (B0 := w.heap.size))
  clear r0 r1 r2 r4 r5 r6 hs4
  refine range_law_g (by omega) (gf := 83) (lb := #[.pointer (some ⟨w1.heap.size + 1, 0, none⟩), .pointer (some ⟨w1.heap.size + 1 + 2, 0, none⟩), .pointer (some ⟨w1.heap.size + 1 + 1, 0, none⟩)]) rfl (enters_of Try.func83 (by kernel_rfl) rfl) hseq KpB.trans
    (fun W l r r' hle hl => KpB.loop hl (by omega)) (Below.refl _ _) (fun _ => rfl) (BrI w w1.heap.size (.slice sA S.length sc) wide) (BrX w wide (reqS l pairs vs)) (BrI.stable hz1 (by omega)) (BrX.stable (by omega)) (fun pre W h => trivial) hI0
    (BrA w (.slice lA l.length lc) (.slice pA pairs.length pc) (.slice vA vs.length vc) (.slice wA wide.length wc) (.func (.func 83) #[] #[.pointer (some ⟨w1.heap.size + 1, 0, none⟩), .pointer (some ⟨w1.heap.size + 1 + 2, 0, none⟩), .pointer (some ⟨w1.heap.size + 1 + 1, 0, none⟩)]) w1.heap.size (.slice sA S.length sc) wide) (BrA.stable hz1 (by omega)) ?assign ?body ?done ?stop
  case assign =>
    intro l' pre x W K hI hpre hK
    simp only [encP]
    gi_wp2
    refine hK _ _ ((KeepsOthers.alloc _ _).from _) (KpB.of_below ((Below.refl _ _).alloc (Nat.le_refl _) _) (by have := hI.2.2.2.2.2.1.size; omega)) ⟨W.heap.size, rfl, Row.new _ _ _, hI.2.2.2.2.2.2, BrI.stable (D := w1.heap.size + 4) hz1 (Nat.le_refl _) _ _ _ hI (Turn.grow ((Below.refl _ _).alloc (by simp) _))⟩
  case body =>
    rintro l' pre x a' W ⟨g, rfl, hrx, hg, h0, h1, h2, hs, hpre0, hB, hz⟩ hpre
    have c0 := hrx.cell (i := 0) (v := .string ⟨x.1.toArray⟩) rfl
    have c1 := hrx.cell (i := 1) (v := .string ⟨x.2.toArray⟩) rfl
    have c2 := h2.cell (i := 0) (v := .slice sA S.length sc) rfl
    have hSl : S.length ≤ 1000000 := by rw [HS.out]; have := sortedS_len wide; omega
    have hzw := hB.size
    have hlg := hrx.lt
    simp only [brTmps]
    have HSS := Lib.hid (show PairsAt W (.slice sA S.length sc) S by rw [HS.out] at hs ⊢; exact hs)
    have HSO : Hid (S.Pairwise ltP) := Lib.hid (by rw [HS.out]; exact sortedS_sorted wide)
    clear hs
    by_cases hin : x ∈ S
    · by_cases hxe : x.1 = x.2
      · have t1 : (x.1 == x.2) = true := by simpa using hxe
        have HBAD : Hid (badB wide x = true) := Lib.hid (by unfold badB; rw [decide_eq_true hxe]; rfl)
        have HD := Lib.hid (decide_eq_true hin)
        clear hin hxe
        gi_wp2_with (refine ⟨trivial, ?_⟩; gi_at_call 57; (refine ((callsIn_wide.2 (search_pairs _ _ S x HSS.out HSO.out hSl)).inRound l').mono ?_; rw [HD.out]; rintro e w5 ⟨i, rfl, hb5⟩; have d0 := (hrx.below hb5 hlg).cell (i := 0) (v := .string ⟨x.1.toArray⟩) rfl; have d1 := (hrx.below hb5 hlg).cell (i := 1) (v := .string ⟨x.2.toArray⟩) rfl; have q0 := h0.below hb5 h0.lt; have q1 := h1.below hb5 h1.lt; have z0 := q0.cell (i := 0) (v := .string ⟨#[]⟩) rfl; have z1 := q0.cell (i := 1) (v := .string ⟨#[]⟩) rfl; have f0 := q0.free; have z2 := q1.cell (i := 0) (v := .bool false) rfl; have f1 := q1.free; have HB5 := Lib.hid hb5; clear hb5))
        exact ⟨((KeepsOthers.below HB5.out).trans (((KeepsOthers.setCell _ _ _).trans (KeepsOthers.setCell _ _ _)).trans (KeepsOthers.setCell _ _ _))).from _, rfl, ⟨x, broken_hit hpre hpre0 HBAD.out, Row.other ((q0.set 0 _).set 1 _) (by dsimp only; omega) _⟩, (Row.other (Row.other q1 (by dsimp only; omega) _) (by dsimp only; omega) _).set 0 _,
          (((hB.trans (HB5.out.mono hzw)).setCell (p := ⟨w.heap.size, 0, none⟩) (Nat.le_refl _) _).setCell (p := ⟨w.heap.size, 1, none⟩) (Nat.le_refl _) _).setCell (p := ⟨w.heap.size + 1, 0, none⟩) (by dsimp only; omega) _⟩

      · have t1 : (x.1 == x.2) = false := by simpa using hxe
        have HBAD : Hid (badB wide x = false) := Lib.hid (by unfold badB; rw [decide_eq_false hxe, ← HS.out, decide_eq_true hin]; rfl)
        have HD := Lib.hid (decide_eq_true hin)
        clear hin hxe
        gi_wp2_with (refine ⟨trivial, ?_⟩; gi_at_call 57; (refine ((callsIn_wide.2 (search_pairs _ _ S x HSS.out HSO.out hSl)).inRound l').mono ?_; rw [HD.out]; rintro e w5 ⟨i, rfl, hb5⟩; have d0 := (hrx.below hb5 hlg).cell (i := 0) (v := .string ⟨x.1.toArray⟩) rfl; have d1 := (hrx.below hb5 hlg).cell (i := 1) (v := .string ⟨x.2.toArray⟩) rfl; have q0 := h0.below hb5 h0.lt; have q1 := h1.below hb5 h1.lt; have z0 := q0.cell (i := 0) (v := .string ⟨#[]⟩) rfl; have z1 := q0.cell (i := 1) (v := .string ⟨#[]⟩) rfl; have f0 := q0.free; have z2 := q1.cell (i := 0) (v := .bool false) rfl; have f1 := q1.free; have HB5 := Lib.hid hb5; clear hb5))
        exact ⟨(KeepsOthers.below HB5.out).from _, KpB.of_below HB5.out hzw, q0, q1, h2.below HB5.out h2.lt, by rw [← HS.out]; exact HSS.out.below HB5.out, by
          intro q hq
          rcases List.mem_append.1 hq with hq | hq
          · exact hpre0 q hq
          · simp at hq; rw [hq]; exact HBAD.out, hB.trans (HB5.out.mono hzw), by have := HB5.out.size; omega⟩
    · have HBAD : Hid (badB wide x = true) := Lib.hid (by unfold badB; rw [← HS.out, decide_eq_false hin]; simp)
      have HD := Lib.hid (decide_eq_false hin)
      clear hin
      gi_wp2_with (refine ⟨trivial, ?_⟩; gi_at_call 57; (refine ((callsIn_wide.2 (search_pairs _ _ S x HSS.out HSO.out hSl)).inRound l').mono ?_; rw [HD.out]; rintro e w5 ⟨i, rfl, hb5⟩; have d0 := (hrx.below hb5 hlg).cell (i := 0) (v := .string ⟨x.1.toArray⟩) rfl; have d1 := (hrx.below hb5 hlg).cell (i := 1) (v := .string ⟨x.2.toArray⟩) rfl; have q0 := h0.below hb5 h0.lt; have q1 := h1.below hb5 h1.lt; have z0 := q0.cell (i := 0) (v := .string ⟨#[]⟩) rfl; have z1 := q0.cell (i := 1) (v := .string ⟨#[]⟩) rfl; have f0 := q0.free; have z2 := q1.cell (i := 0) (v := .bool false) rfl; have f1 := q1.free; have HB5 := Lib.hid hb5; clear hb5))
      exact ⟨((KeepsOthers.below HB5.out).trans (((KeepsOthers.setCell _ _ _).trans (KeepsOthers.setCell _ _ _)).trans (KeepsOthers.setCell _ _ _))).from _, rfl, ⟨x, broken_hit hpre hpre0 HBAD.out, Row.other ((q0.set 0 _).set 1 _) (by dsimp only; omega) _⟩, (Row.other (Row.other q1 (by dsimp only; omega) _) (by dsimp only; omega) _).set 0 _,
          (((hB.trans (HB5.out.mono hzw)).setCell (p := ⟨w.heap.size, 0, none⟩) (Nat.le_refl _) _).setCell (p := ⟨w.heap.size, 1, none⟩) (Nat.le_refl _) _).setCell (p := ⟨w.heap.size + 1, 0, none⟩) (by dsimp only; omega) _⟩

  case done =>
    rintro D W hD ⟨h0, h1, h2, hs, hpre0, hB, hz⟩ hK
    have HM := Lib.hid (broken_miss hpre0)
    have z0 := h0.cell (i := 0) (v := .string ⟨#[]⟩) rfl
    have z1 := h0.cell (i := 1) (v := .string ⟨#[]⟩) rfl
    have f0 := h0.free
    have z2 := h1.cell (i := 0) (v := .bool false) rfl
    have f1 := h1.free
    gi_wp2
    obtain ⟨W5, hW5⟩ : ∃ W5, W5 = ((W.setCell ⟨w.heap.size, 0, none⟩ (.string ⟨#[]⟩)).setCell ⟨w.heap.size, 1, none⟩ (.string ⟨#[]⟩)).setCell ⟨w.heap.size + 1, 0, none⟩ (.bool false) := ⟨_, rfl⟩
    have g0 : Row W5 w.heap.size 39 #[.string ⟨#[]⟩, .string ⟨#[]⟩] := by rw [hW5]; exact Row.other ((h0.set 0 _).set 1 _) (by dsimp only; omega) _
    have g1 : Row W5 (w.heap.size + 1) 4 #[.bool false] := by rw [hW5]; exact (Row.other (Row.other h1 (by dsimp only; omega) _) (by dsimp only; omega) _).set 0 _
    have gB : Below w.heap.size w W5 := by rw [hW5]; exact ((hB.setCell (p := ⟨w.heap.size, 0, none⟩) (Nat.le_refl _) _).setCell (p := ⟨w.heap.size, 1, none⟩) (Nat.le_refl _) _).setCell (p := ⟨w.heap.size + 1, 0, none⟩) (by dsimp only; omega) _
    have gK : W5.heap[D]? = some (.deferred (some [])) := by rw [hW5]; exact (((KeepsOthers.setCell _ _ _).trans (KeepsOthers.setCell _ _ _)).trans (KeepsOthers.setCell _ _ _)).same D _ hK rfl
    rw [← hW5]
    clear hW5
    refine ⟨by simp, .inl ⟨_, _, rfl, run_takeDeferred gK, ?_⟩⟩
    have T0 := Turn.putObj (ok := okCall fun _ => False) (B := w1.heap.size + 4) (.deferred none) gK (by omega) (.inl rfl)
    have d0 := (g0.turn T0 (.inl (by omega))).cell (i := 0) (v := .string ⟨#[]⟩) rfl
    have d1 := (g0.turn T0 (.inl (by omega))).cell (i := 1) (v := .string ⟨#[]⟩) rfl
    have d2 := (g1.turn T0 (.inl (by omega))).cell (i := 0) (v := .bool false) rfl
    refine ⟨.tuple #[.agg #[.string ⟨#[]⟩, .string ⟨#[]⟩], .bool false], by simp [results, Try.f22, go_sem, d0, d1, d2], ?_, below_turn gB T0 (Nat.le_refl _) (by omega)⟩
    rw [HM.out]
    rfl
  case stop =>
    rintro D c pre W hD ⟨rfl, ⟨q, hq, g0⟩, g1, gB⟩ gK
    gi_wp2
    refine ⟨by simp, .inl ⟨_, _, rfl, run_takeDeferred gK, ?_⟩⟩
    have T0 := Turn.putObj (ok := okCall fun _ => False) (B := w1.heap.size + 4) (.deferred none) gK (by omega) (.inl rfl)
    have c0 := (g0.turn T0 (.inl (by omega))).cell (i := 0) (v := .string ⟨q.1.toArray⟩) rfl
    have c1 := (g0.turn T0 (.inl (by omega))).cell (i := 1) (v := .string ⟨q.2.toArray⟩) rfl
    have c2 := (g1.turn T0 (.inl (by omega))).cell (i := 0) (v := .bool true) rfl
    refine ⟨.tuple #[pairV q, .bool true], by simp [results, Try.f22, go_sem, c0, c1, c2, pairV], ?_, below_turn gB T0 (Nat.le_refl _) (by omega)⟩
    rw [hq]
    rfl
end Go.Proofs.Ytignhjfobcnloaa
