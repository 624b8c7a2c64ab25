/- SubstApart: Apart under a composition; Broken against Apart. -/
import Derived.Test.YtignhjfobcnloaaPairIdx
import Derived.Deep.RegionHeld3
import Derived.Deep.DrawnRows
import Derived.Deep.DeepCutAuto
import Derived.Deep.RegionLaw
import Derived.Deep.AppendLies
import Derived.Laws.StructEq
import Derived.Deep.QuietTactic
import Derived.BigQuiet
namespace Go.Proofs.Ytignhjfobcnloaa
open Go.RowKit Go.Shelf
/-- the symbols of bindings -/
def varsL (l : List BindD) : Form := l.flatMap fun x => x.1 :: x.2
def varsP (l : List PairD) : Form := l.flatMap fun p => [p.1, p.2]
def varsAll (a b : List BindD) (pairs : List PairD) : Form := [a, b].flatMap varsL ++ varsP pairs
theorem varsL_take {l : List BindD} {k : Nat} {x : BindD} (h : l[k]? = some x) : varsL (l.take (k + 1)) = varsL (l.take k) ++ (x.1 :: x.2) := by unfold varsL; rw [List.take_add_one, h, List.flatMap_append]; simp
theorem varsP_take {l : List PairD} {k : Nat} {x : PairD} (h : l[k]? = some x) : varsP (l.take (k + 1)) = varsP (l.take k) ++ [x.1, x.2] := by unfold varsP; rw [List.take_add_one, h, List.flatMap_append]; simp
theorem varsL_len {l : List BindD} {m : Nat} (h : ∀ x ∈ l, x.2.length ≤ m) : (varsL l).length ≤ l.length * (m + 1) := flat_len l fun x hx => by have := h x hx; simp; omega
theorem varsP_len (l : List PairD) : (varsP l).length ≤ l.length * 2 := flat_len l fun _ _ => by simp
theorem varsAll_sz {a b : List BindD} {pairs : List PairD} (ha : ∀ x ∈ a, x.1.length ≤ maxLen ∧ ∀ s ∈ x.2, s.length ≤ maxLen) (hb : ∀ x ∈ b, x.1.length ≤ maxLen ∧ ∀ s ∈ x.2, s.length ≤ maxLen) (hp : ∀ p ∈ pairs, p.1.length ≤ maxLen ∧ p.2.length ≤ maxLen) : ∀ s ∈ varsAll a b pairs, s.length ≤ maxLen := by
  have key : ∀ l : List BindD, (∀ x ∈ l, x.1.length ≤ maxLen ∧ ∀ s ∈ x.2, s.length ≤ maxLen) → ∀ s ∈ varsL l, s.length ≤ maxLen := fun l h s hs => by
    obtain ⟨x, hx, h2⟩ := List.mem_flatMap.1 hs
    rcases List.mem_cons.1 h2 with rfl | h2
    · exact (h x hx).1
    · exact (h x hx).2 s h2
  intro s hs
  rcases List.mem_append.1 hs with hs | hs
  · obtain ⟨l, hl, h2⟩ := List.mem_flatMap.1 hs
    simp at hl
    rcases hl with rfl | rfl
    · exact key _ ha s h2
    · exact key _ hb s h2
  · obtain ⟨p, hp2, h2⟩ := List.mem_flatMap.1 hs
    simp at h2
    rcases h2 with rfl | rfl
    · exact (hp p hp2).1
    · exact (hp p hp2).2
theorem varsAll_a {a b : List BindD} {pairs : List PairD} : ∀ x ∈ a, ∀ s ∈ x.2, s ∈ varsAll a b pairs := fun x hx s hs => List.mem_append.2 (.inl (List.mem_flatMap.2 ⟨a, by simp, List.mem_flatMap.2 ⟨x, hx, List.mem_cons_of_mem _ hs⟩⟩))
theorem varsAll_p {a b : List BindD} {pairs : List PairD} : ∀ p ∈ pairs, p.1 ∈ varsAll a b pairs ∧ p.2 ∈ varsAll a b pairs := fun p hp => ⟨List.mem_append.2 (.inr (List.mem_flatMap.2 ⟨p, hp, by simp⟩)), List.mem_append.2 (.inr (List.mem_flatMap.2 ⟨p, hp, by simp⟩))⟩
theorem comp_long {a b : List BindD} (ha : ∀ x ∈ a, x.2.length ≤ 15) (hb : ∀ x ∈ b, x.2.length ≤ 15) : ∀ x ∈ compS a b, x.2.length ≤ 225 := by
  intro x hx
  rcases List.mem_append.1 (show x ∈ a.map _ ++ restS a b from hx) with hx | hx
  · obtain ⟨y, hy, rfl⟩ := List.mem_map.1 hx
    have h1 := apply_len hb (by decide) y.2
    have h2 := ha y hy
    show (applyS y.2 b).length ≤ 225
    omega
  · have := hb x (List.mem_filter.1 hx).1; omega
theorem apartS_len (l : List BindD) (pairs : List PairD) (vs : Form) : (apartS l pairs vs).length ≤ (reqS l pairs vs).length := by
  unfold apartS
  have h1 := sortedS_len (outS (reqS l pairs vs))
  have h2 := outS_len (reqS l pairs vs) []
  unfold outS at h1 ⊢
  simp at h2
  omega
/-- what has been allowed behind k pairs -/
def allowB (wide Q : List PairD) (ps : Bool) (k : Nat) : Bool := ps && (Q.take k).all fun p => decide (p ∈ sortedS wide)
theorem allowB_zero (wide Q : List PairD) (ps : Bool) : allowB wide Q ps 0 = ps := by simp [allowB]
theorem allowB_succ {wide Q : List PairD} {ps : Bool} {k : Nat} {x : PairD} (h : Q[k]? = some x) : allowB wide Q ps (k + 1) = (allowB wide Q ps k && decide (x ∈ sortedS wide)) := by
  unfold allowB
  rw [take_snoc h, List.all_append]
  simp [Bool.and_assoc]
theorem news_row {w : World} {g : Nat} {t : TypeId} {cs : Array Value} {l : List Value} (h : Row w g t cs) (hl : cs.toList = l) : ∀ j u, l[j]? = some u → w.cell? ((⟨g, 0, none⟩ : Addr).add j) = some u := by
  subst hl
  intro j u hu
  rw [addr_add, Nat.zero_add]
  exact h.cell (by simpa using hu)
theorem own_drew' {w : World} {base : Nat} {e : TypeId} {size n : Nat} {v : Value} {xs : List Value} (h : w.ownsRow base e size v n xs) : w.drew.ownsRow base e size v n xs := h
/-- the list of bindings that the k-th round ranges over -/
theorem ab_at {w wr : World} {gz : Nat} {aA bA : Option Addr} {ac bc : Nat} {a b : List BindD} (hr : Row wr gz 23 #[.slice aA a.length ac, .slice bA b.length bc]) (ha : BindAt w (.slice aA a.length ac) a) (hb : BindAt w (.slice bA b.length bc) b) (hal : a.length ≤ 15) (hbl : b.length ≤ 15) (sa : ∀ x ∈ a, x.2.length ≤ 15) (sb : ∀ x ∈ b, x.2.length ≤ 15) {k : Nat} (hk : k < 2) :
    ∃ m mA mc, [a, b][k]? = some m ∧ wr.cell? ⟨gz, k, none⟩ = some (.slice mA m.length mc) ∧ BindAt w (.slice mA m.length mc) m ∧ m.length ≤ 15 ∧ ∀ x ∈ m, x.2.length ≤ 15 := by
  match k, hk with
  | 0, _ => exact ⟨a, aA, ac, rfl, hr.cell rfl, ha, hal, sa⟩
  | 1, _ => exact ⟨b, bA, bc, rfl, hr.cell rfl, hb, hbl, sb⟩
theorem lens_ab {a b : List BindD} (hal : a.length ≤ 15) (hbl : b.length ≤ 15) (ha : ∀ x ∈ a, x.2.length ≤ 15) (hb : ∀ x ∈ b, x.2.length ≤ 15) : ∀ k j, k < 2 → ∀ m, [a, b][k]? = some m → (([a, b].take k).flatMap varsL ++ varsL (m.take j)).length ≤ 480 := by
  have key : ∀ l : List BindD, l.length ≤ 15 → (∀ x ∈ l, x.2.length ≤ 15) → ∀ j, (varsL (l.take j)).length ≤ 240 := fun l h1 h2 j => by
    have := varsL_len (m := 15) (l := l.take j) (fun x hx => h2 x (List.mem_of_mem_take hx))
    rw [List.length_take] at this
    omega
  have ka := key a hal ha
  have kb := key b hbl hb
  intro k j hk m hm
  match k, hk with
  | 0, _ =>
    obtain rfl : a = m := by simpa using hm
    have := ka j
    simp only [List.take_zero, List.flatMap_nil, List.nil_append]
    omega
  | 1, _ =>
    obtain rfl : b = m := by simpa using hm
    have h1 := ka a.length
    have h2 := kb j
    rw [List.take_length] at h1
    simp only [List.take_succ_cons, List.take_zero, List.flatMap_cons, List.flatMap_nil, List.append_nil, List.length_append]
    omega
attribute [local go_sem ↓] Go.wp_at_zero Go.wp_at_succ
set_option maxRecDepth 100000 in
set_option maxHeartbeats 16000000 in
theorem law_apart (w : World) (av bv pv wv : Value) (a b : List BindD) (pairs wide : List PairD) (ha : BindAt w av a) (hb : BindAt w bv b) (hp : PairsAt w pv pairs) (hw : PairsAt w wv wide)
    (hsa : ∀ x ∈ a, x.1.length ≤ maxLen ∧ ∀ s ∈ x.2, s.length ≤ maxLen) (hsb : ∀ x ∈ b, x.1.length ≤ maxLen ∧ ∀ s ∈ x.2, s.length ≤ maxLen) (hsp : ∀ p ∈ pairs, p.1.length ≤ maxLen ∧ p.2.length ≤ maxLen) :
    Calls Try.prog 4 #[av, bv, pv, wv] w fun e w' => e = .returned (.bool true) ∧ Below w.heap.size w w' := by
  have HA := Lib.hid ha
  have HB := Lib.hid hb
  have HP := Lib.hid hp
  have HWI := Lib.hid hw
  obtain ⟨aA, ac, rfl, _, ham, _⟩ := ha
  obtain ⟨bA, bc, rfl, _, hbm, _⟩ := hb
  obtain ⟨pA, pc, rfl, _, hpm, _⟩ := hp.open_
  obtain ⟨wA, wc, rfl, _, hwm, _⟩ := hw.open_
  unfold maxLen at ham hbm hpm hwm
  clear hp hw
  have HW := Lib.hid (Below.refl w.heap.size w)
  by_cases hfa : FewS a 15 15
  · have e1 : decide (FewS a 15 15) = true := decide_eq_true hfa
    by_cases hfb : FewS b 15 15
    · have e2 : decide (FewS b 15 15) = true := decide_eq_true hfb
      by_cases h3 : pairs.length ≤ 20
      · have e3 : decide ((20 : Int) < (pairs.length : Int)) = false := decide_eq_false (by omega)
        by_cases h4 : wide.length ≤ 40
        · have e4 : decide ((40 : Int) < (wide.length : Int)) = false := decide_eq_false (by omega)
          have hal : a.length ≤ 15 := by have := hfa.1; omega
          have hbl : b.length ≤ 15 := by have := hfb.1; omega
          have HAL : Hid (∀ x ∈ a, x.2.length ≤ 15) := Lib.hid (fun x hx => by have := hfa.2 x hx; omega)
          have HBL : Hid (∀ x ∈ b, x.2.length ≤ 15) := Lib.hid (fun x hx => by have := hfb.2 x hx; omega)
          have HSA := Lib.hid hsa
          have HSB := Lib.hid hsb
          have HSP := Lib.hid hsp
          have HLA : Hid (∀ k j, k < 2 → ∀ m, [a, b][k]? = some m → (([a, b].take k).flatMap varsL ++ varsL (m.take j)).length ≤ 480) := Lib.hid (lens_ab hal hbl HAL.out HBL.out)
          have hst := stoodPair
          obtain ⟨i0, hi, hj0, hj1, hj2⟩ := info_parts infoStr
          clear hfa hfb hsa hsb hsp
          go_enter Try.func4, Try.ntmps4
          go_wp2_with (go_at_call 10; (first
    | ((with_reducible refine (few_any _ _ a 15 15 (HA.out.below HW.out)).mono ?_); rintro e w1 ⟨rfl, hb⟩; have HW := Lib.hid (then_ HW.out hb); clear hb)
    | ((with_reducible refine (few_any _ _ b 15 15 (HB.out.below HW.out)).mono ?_); rintro e w1 ⟨rfl, hb⟩; have HW := Lib.hid (then_ HW.out hb); clear hb)))
          obtain ⟨W2, hW2⟩ : ∃ W2, W2 = w1.alloc (.cells #[.slice aA a.length ac, .slice bA b.length bc] 23) := ⟨_, rfl⟩
          rw [← hW2]
          have hr2 : Row W2 w1.heap.size 23 #[.slice aA a.length ac, .slice bA b.length bc] := by rw [hW2]; exact Row.new _ _ _
          have HB2 : Hid (Below w.heap.size w W2) := Lib.hid (by rw [hW2]; exact new_ HW.out _)
          have hz2 := HB2.out.size
          have hg2 := hr2.lt
          generalize w1.heap.size = gz at *
          clear hW2 HW w1
          go_loopw [9, 52] (fun ov iv wr => ∃ k : Nat, k ≤ 2 ∧ iv = .int .i64 k ∧ wr.ownsRow W2.heap.size 9 1 ov (([a, b].take k).flatMap varsL).length ((([a, b].take k).flatMap varsL).map strV) ∧ Below W2.heap.size W2 wr) (fun _ iv _ => 2 - (intOf iv).toNat)
          case atStart => exact ⟨0, by omega, rfl, World.ownsRow_nil _ _ _ _, Below.refl _ _⟩
          case round =>
            obtain ⟨k, hk, rfl, hown, hbw⟩ := hrel
            by_cases hk2 : k < 2
            · obtain ⟨m, mA, mc, hm, hcm, hbm', hml, hsm⟩ := ab_at (hr2.below hbw hg2) HA.out HB.out hal hbl HAL.out HBL.out hk2
              have HM := Lib.hid hm
              have HBM := Lib.hid hbm'
              have HLM := Lib.hid (fun j => HLA.out k j hk2 m hm)
              have HTK : Hid (([a, b].take (k + 1)).flatMap varsL = ([a, b].take k).flatMap varsL ++ varsL m) := Lib.hid (by rw [List.take_add_one, hm, List.flatMap_append]; simp)
              have k0 : (0 : Int) ≤ (k : Int) := Int.natCast_nonneg _
              have k1 : (k : Int) < 2 := by omega
              obtain ⟨wo, rfl⟩ : ∃ wo : World, wo = wr := ⟨_, rfl⟩
              have hown' : wo.ownsRow W2.heap.size 9 1 u9 (([a, b].take k).flatMap varsL ++ varsL (m.take 0)).length ((([a, b].take k).flatMap varsL ++ varsL (m.take 0)).map strV) := by simpa [varsL] using hown
              clear hm hbm' hown
              go_wp2
              go_loopw [9, 58] (fun ov iv wr => ∃ j : Nat, j ≤ m.length ∧ iv = .int .i64 j ∧ wr.ownsRow W2.heap.size 9 1 ov (([a, b].take k).flatMap varsL ++ varsL (m.take j)).length ((([a, b].take k).flatMap varsL ++ varsL (m.take j)).map strV) ∧ Below W2.heap.size W2 wr) (fun _ iv _ => m.length - (intOf iv).toNat)
              case atStart => exact ⟨0, Nat.zero_le _, rfl, hown', hbw⟩
              case round =>
                clear hcm
                obtain ⟨j, hj, rfl, hown, hbw⟩ := hrel
                have hzr := hbw.size
                by_cases hjl : j < m.length
                · obtain ⟨y, hy⟩ : ∃ y, m[j]? = some y := ⟨_, List.getElem?_eq_getElem hjl⟩
                  obtain ⟨A', c', hvv, _, _, hx⟩ := HBM.out
                  obtain ⟨rfl, _, rfl⟩ := (by simpa using hvv : mA = A' ∧ True ∧ mc = c')
                  obtain ⟨bb, oo, tv, rfl, g1, g2, g3⟩ := hx j y hy
                  obtain ⟨tA, tc, rfl⟩ := g3.form
                  have hbx : Below w.heap.size w wr := then_ HB2.out hbw
                  have q1 := (hbx.cell (p := ⟨bb, oo + j * 2, none⟩) (block_lt_of_cell g1)).trans g1
                  have q2 := (hbx.cell (p := ⟨bb, oo + j * 2 + 1, none⟩) (block_lt_of_cell g2)).trans g2
                  have HG3 := Lib.hid g3
                  have HY := Lib.hid (varsL_take hy)
                  have hyl := hsm y (List.mem_of_getElem? hy)
                  have hll := HLM.out j
                  have j0 : (0 : Int) ≤ (j : Int) := Int.natCast_nonneg _
                  have j1 : (j : Int) < (m.length : Int) := by omega
                  obtain ⟨M, hM⟩ : ∃ M, M = (([a, b].take k).flatMap varsL ++ varsL (m.take j)).length := ⟨_, rfl⟩
                  obtain ⟨X, hX⟩ : ∃ X, X = (([a, b].take k).flatMap varsL ++ varsL (m.take j)).map strV := ⟨_, rfl⟩
                  rw [← hM, ← hX] at hown
                  rw [← hM] at hll
                  have HMM := Lib.hid hM
                  have HXX := Lib.hid hX
                  have HO := Lib.hid hown
                  have HOL : ∀ g, u9.ownBlock = some g → g < wr.heap.size := fun g e => (HO.out.lt g e).2
                  have HBW := Lib.hid hbw
                  clear hx hvv hy hM hX hown g1 g2 g3 hbx hbw
                  go_wp2
                  have bx0 : Row (wr.alloc (.cells #[.string ⟨y.1.toArray⟩, .slice tA y.2.length tc] 28)) wr.heap.size 28 #[.string ⟨y.1.toArray⟩, .slice tA y.2.length tc] := Row.new _ _ _
                  go_region_held3 (fun w' => w'.cell? ⟨wr.heap.size, 0, none⟩ = some (.string ⟨y.1.toArray⟩) ∧ w'.cell? ⟨wr.heap.size, 1, none⟩ = some (.slice tA y.2.length tc)) (go_keep)
                    (first
                      | (refine step_append_lies _ (by rfl) (.tmp 62) (.tmp 65) 22 (by rfl) W2.heap.size 9 i0 (.string ⟨#[]⟩) 1 16 Try.underlying22 hi hj0 hj1 hj2 rfl (by decide) u9 M X (by rfl) (by first | exact own_drew' (own_alloc (own_alloc HO.out _) _) | exact own_alloc (own_alloc HO.out _) _) ⟨wr.heap.size + 1, 0, none⟩ 1 1 [strV y.1] (by rfl) rfl (news_row (by first | exact Row.drew (Row.new' _ _ _ (by simp)) | exact Row.new' _ _ _ (by simp)) rfl) (by simp [strV, Value.oneCell']) (by decide) (by unfold maxLen; omega) (by omega) (by simp; omega) _ rfl ?_; intro gg cap w8 hown8 hgrow hat hlt8; have HB8 : Hid (Below W2.heap.size W2 w8) := Lib.hid (Below.grown (by first | exact (new_ (new_ HBW.out _) _).drew | exact new_ (new_ HBW.out _) _) hgrow (by simp; omega) (own_block HO.out)); have hr8 : Row w8 wr.heap.size 28 #[.string ⟨y.1.toArray⟩, .slice tA y.2.length tc] := Row.grown (by first | exact Row.drew (bx0.alloc _) | exact bx0.alloc _) hgrow (fun e => absurd (HOL _ e.symm) (Nat.lt_irrefl _)); have s1 := hr8.cell (i := 0) (v := .string ⟨y.1.toArray⟩) rfl; have s2 := hr8.cell (i := 1) (v := .slice tA y.2.length tc) rfl; have hne : gg ≠ wr.heap.size := (fun e => hat.elim (fun h => absurd (HOL _ h) (by rw [e]; exact Nat.lt_irrefl _)) (fun h => by simp at h; omega)); have HR8 := Lib.hid hr8; clear hr8)
                      | (refine step_append_rds rfl (.tmp 66) (.tmp 68) 22 rfl W2.heap.size 9 i0 (.string ⟨#[]⟩) 1 16 Try.underlying22 hi hj0 hj1 hj2 rfl (by decide) (.slice (some ⟨gg, 0, none⟩) (M + 1) cap) (M + 1) (X ++ [strV y.1]) (by rfl) hown8 (.slice tA y.2.length tc) y.2.length (y.2.map strV) (by rfl) (Rds.below HG3.out (then_ HB2.out HB8.out)) (by simp [strV, Value.oneCell']) (by unfold maxLen; omega) (by omega) (by have := HB8.out.size; omega) ?_; intro v9 w9 hown9 hg9; have hr9 := HR8.out.grown hg9 (fun e => hne (Option.some.inj e).symm); have s3 := hr9.cell (i := 0) (v := .string ⟨y.1.toArray⟩) rfl; have s4 := hr9.cell (i := 1) (v := .slice tA y.2.length tc) rfl; have HB9 := Lib.hid (HB8.out.grown hg9 HB8.out.size (own_block hown8)); have HO9 := Lib.hid hown9; clear hr9 hg9 hown9))
                  go_wp2
                  go_roundw
                  case rel => exact ⟨j + 1, by omega, by go_num, by rw [HY.out, ← List.append_assoc, List.length_append, List.map_append, ← HMM.out, ← HXX.out, List.length_cons, Nat.add_comm y.2.length 1, ← Nat.add_assoc, List.map_cons]; have h9 := HO9.out; rw [List.append_assoc] at h9; exact h9, HB9.out⟩
                  case measure => simp [intOf]; omega
                · obtain rfl : j = m.length := by omega
                  rw [List.take_length] at hown
                  go_wp2
                  go_roundw
                  case rel => exact ⟨k + 1, by omega, by go_num, by rw [HTK.out]; exact hown, hbw⟩
                  case measure => simp [intOf]; omega
            · obtain rfl : k = 2 := by omega
              rw [show ((2 : Nat) : Int) = 2 from rfl]
              rw [show [a, b].take 2 = [a, b] from rfl] at hown
              obtain ⟨wo, rfl⟩ : ∃ wo : World, wo = wr := ⟨_, rfl⟩
              have hzo := hbw.size
              have hown' : wo.ownsRow W2.heap.size 9 1 u9 ([a, b].flatMap varsL ++ varsP (pairs.take 0)).length (([a, b].flatMap varsL ++ varsP (pairs.take 0)).map strV) := by simpa [varsP] using hown
              have HVL : Hid (∀ j, j ≤ pairs.length → ([a, b].flatMap varsL ++ varsP (pairs.take j)).length ≤ 520) := Lib.hid (fun j hj => by
                have h1 := varsP_len (pairs.take j)
                rw [List.length_take] at h1
                have h2 := HLA.out 1 b.length (by omega) b rfl
                rw [List.take_length] at h2
                have e : [a, b].flatMap varsL = ([a, b].take 1).flatMap varsL ++ varsL b := by simp
                rw [List.length_append, e]
                omega)
              clear hown
              go_wp2
              go_loopw [9, 74] (fun ov iv wr => ∃ j : Nat, j ≤ pairs.length ∧ iv = .int .i64 j ∧ wr.ownsRow W2.heap.size 9 1 ov ([a, b].flatMap varsL ++ varsP (pairs.take j)).length (([a, b].flatMap varsL ++ varsP (pairs.take j)).map strV) ∧ Below W2.heap.size W2 wr) (fun _ iv _ => pairs.length - (intOf iv).toNat)
              case atStart => exact ⟨0, Nat.zero_le _, rfl, hown', hbw⟩
              case round =>
                obtain ⟨j, hj, rfl, hown, hbw⟩ := hrel
                have hzr := hbw.size
                by_cases hjl : j < pairs.length
                · obtain ⟨y, hy⟩ : ∃ y, pairs[j]? = some y := ⟨_, List.getElem?_eq_getElem hjl⟩
                  obtain ⟨A', c', hvv, _, _, hx⟩ := (HP.out.below (then_ HB2.out hbw)).open_
                  obtain ⟨rfl, _, rfl⟩ := (by simpa using hvv : pA = A' ∧ True ∧ pc = c')
                  obtain ⟨bb, oo, rfl, q1, q2⟩ := hx j y hy
                  have HY := Lib.hid (varsP_take hy)
                  have hll := HVL.out j hj
                  obtain ⟨M, hM⟩ : ∃ M, M = ([a, b].flatMap varsL ++ varsP (pairs.take j)).length := ⟨_, rfl⟩
                  obtain ⟨X, hX⟩ : ∃ X, X = ([a, b].flatMap varsL ++ varsP (pairs.take j)).map strV := ⟨_, rfl⟩
                  rw [← hM, ← hX] at hown
                  rw [← hM] at hll
                  have HMM := Lib.hid hM
                  have HXX := Lib.hid hX
                  have HO := Lib.hid hown
                  have HBW := Lib.hid hbw
                  clear hx hvv hy hM hX hown hbw
                  go_wp2_with (at_builtin; (refine wpList_append_own _ rfl (.tmp 78) (.tmp 83) 22 rfl W2.heap.size 9 i0 (.string ⟨#[]⟩) 1 16 Try.underlying22 hi hj0 hj1 hj2 rfl (by decide) _ M X rfl (own_alloc (own_alloc HO.out _) _) ⟨wr.heap.size + 1, 0, none⟩ 2 2 [strV y.1, strV y.2] rfl rfl (news_row (Row.new' _ _ _ (by simp)) rfl) (by simp [strV, Value.oneCell']) (by unfold maxLen; omega) (by omega) (by simp; omega) ?_; intro v' wz hown' hgrow _))
                  go_roundw
                  case rel => exact ⟨j + 1, by omega, by go_num, by rw [HY.out, ← List.append_assoc, List.length_append, List.map_append, ← HMM.out, ← HXX.out]; exact hown', (new_ (new_ HBW.out _) _).grown hgrow (by simp; omega) (own_block HO.out)⟩
                  case measure => simp [intOf]; omega
                · obtain rfl : j = pairs.length := by omega
                  rw [List.take_length] at hown
                  have hll := HVL.out pairs.length (Nat.le_refl _)
                  rw [List.take_length] at hll
                  obtain ⟨VS, hVS⟩ : ∃ VS, VS = varsAll a b pairs := ⟨_, rfl⟩
                  have hVS2 : [a, b].flatMap varsL ++ varsP pairs = VS := by rw [hVS]; rfl
                  rw [hVS2] at hown hll
                  obtain ⟨vA, vc, rfl, _⟩ := own_form hown
                  have HV := Lib.hid (strs_of_own hown rfl)
                  have HVS := Lib.hid hVS
                  have HBW := Lib.hid (then_ HB2.out hbw)
                  clear hown hVS hVS2 hbw hown'
                  have HZA : Hid (SubSz a pairs VS) := Lib.hid ⟨fun x hx => (HSA.out x hx).1, fun x hx => (HSA.out x hx).2, fun x hx => by have := HAL.out x hx; omega, by omega, HSP.out, by rw [HVS.out]; exact varsAll_sz HSA.out HSB.out HSP.out, by omega⟩
                  have HRA : Hid ((reqS a pairs VS).length ≤ 100000) := Lib.hid (by have := req_len (m := 15) HAL.out (by decide) pairs VS; omega)
                  obtain ⟨Q, hQ⟩ : ∃ Q, apartS a pairs VS = Q := ⟨_, rfl⟩
                  obtain ⟨ps, hps⟩ : ∃ ps, posS (reqS a pairs VS) = ps := ⟨_, rfl⟩
                  obtain ⟨p1, p2, hq⟩ : ∃ p1 p2, (brokenS wide (reqS a pairs VS)).getD ([], []) = (p1, p2) := ⟨_, _, rfl⟩
                  obtain ⟨bz, hbz⟩ : ∃ bz, (brokenS wide (reqS a pairs VS)).isSome = bz := ⟨_, rfl⟩
                  obtain ⟨L, zc, hcz⟩ : ∃ L zc, composeS a b = (L, zc) := ⟨_, _, rfl⟩
                  have hQL : Q.length ≤ 100000 := by rw [← hQ]; exact Nat.le_trans (apartS_len _ _ _) HRA.out
                  have HBZ2 : Hid (bz = !(allowB wide Q ps Q.length)) := Lib.hid (by rw [← hbz, broken_iff, hps, hQ]; unfold allowB; rw [List.take_length])
                  have HQ := Lib.hid hQ
                  have HPS := Lib.hid hps
                  have HQQ := Lib.hid hq
                  have HBZ := Lib.hid hbz
                  have HCZ := Lib.hid hcz
                  have hcs : Hid (CompactOk ((wide.map orderedS).mergeSort fun x y => !(ltOf cmpP) y x)) := Lib.hid (compact_any _ (by rw [List.length_mergeSort, List.length_map]; omega))
                  clear hQ hps hq hbz hcz HLA HVL HB2 hll
                  go_wp2_with (go_at_call 19; (refine (apart_any _ _ _ _ a pairs VS Q ps HQ.out HPS.out (HA.out.below HBW.out) (HP.out.below HBW.out) HV.out HZA.out (Nat.le_trans HRA.out (by decide))).mono ?_; rintro e w3 ⟨u3, rfl, hv3, hb3⟩; have HV3 := Lib.hid (HV.out.below hb3); have HW3 := Lib.hid (then_ HBW.out hb3); have HQ3 := Lib.hid hv3; obtain ⟨qA, qc, rfl, _, hqm, _⟩ := hv3.open_; unfold maxLen at hqm; clear hb3 hv3))
                  have hbeg : allowB wide Q ps 0 = ps := by unfold allowB; simp
                  go_loopw [18, 96] (fun ov iv wr => ∃ k : Nat, k ≤ Q.length ∧ iv = .int .i64 k ∧ ov = .bool (allowB wide Q ps k) ∧ Below w3.heap.size w3 wr) (fun _ iv _ => Q.length - (intOf iv).toNat)
                  case atStart => exact ⟨0, Nat.zero_le _, rfl, by rw [hbeg], Below.refl _ _⟩
                  case round =>
                    clear hbeg
                    obtain ⟨k, hk, rfl, rfl, hbq⟩ := hrel
                    obtain ⟨wo, rfl⟩ : ∃ wo : World, wo = wr := ⟨_, rfl⟩
                    have hzq := hbq.size
                    by_cases hkl : k < Q.length
                    · obtain ⟨⟨y1, y2⟩, hy⟩ : ∃ y, Q[k]? = some y := ⟨_, List.getElem?_eq_getElem hkl⟩
                      obtain ⟨A', c', hvv, _, _, hx⟩ := (HQ3.out.below hbq).open_
                      obtain ⟨rfl, _, rfl⟩ := (by simpa using hvv : qA = A' ∧ True ∧ qc = c')
                      obtain ⟨bb, oo, rfl, q1, q2⟩ := hx k _ hy
                      obtain ⟨al, hal2⟩ : ∃ al, allowB wide Q ps k = al := ⟨_, rfl⟩
                      obtain ⟨iz, hiz⟩ : ∃ iz, decide ((y1, y2) ∈ sortedS wide) = iz := ⟨_, rfl⟩
                      have HN : Hid (allowB wide Q ps (k + 1) = (al && iz)) := Lib.hid (by rw [allowB_succ hy, hal2, hiz])
                      have HIZ := Lib.hid hiz
                      have HBQ := Lib.hid hbq
                      rw [hal2]
                      obtain ⟨W5, hW5⟩ : ∃ W5, W5 = wo.alloc (.cells #[.string ⟨y1.toArray⟩, .string ⟨y2.toArray⟩] 39) := ⟨_, rfl⟩
                      have HB5 := Lib.hid (show Below w3.heap.size w3 W5 by rw [hW5]; exact hbq.alloc hzq _)
                      have HR5 := Lib.hid (show Row W5 wo.heap.size 39 #[.string ⟨y1.toArray⟩, .string ⟨y2.toArray⟩] by rw [hW5]; exact Row.new _ _ _)
                      have s1 := HR5.out.cell (i := 0) (v := .string ⟨y1.toArray⟩) rfl
                      have s2 := HR5.out.cell (i := 1) (v := .string ⟨y2.toArray⟩) rfl
                      have HW5 := Lib.hid hW5
                      clear hx hvv hy hal2 hiz hW5 hbq
                      cases iz
                      all_goals
                        go_wp2
                        rw [← HW5.out]
                        go_region_held3 (fun w' => w'.cell? ⟨wo.heap.size, 0, none⟩ = some (.string ⟨y1.toArray⟩) ∧ w'.cell? ⟨wo.heap.size, 1, none⟩ = some (.string ⟨y2.toArray⟩)) (exact ⟨s1, s2⟩)
                          (first
                            | (go_at_call 21; (refine (sorted_of compare_any _ _ wide (HWI.out.below (then_ HW3.out (HB5.out.drew))) (by omega) hcs.out).mono ?_; rintro e w8 ⟨u8, rfl, hv8, hb8⟩; have HB8 := Lib.hid (HB5.out.drew.trans (hb8.mono (by have := HB5.out.size; exact this))); have HA8 := Lib.hid hv8; have s1 := (HR5.out.drew.below hb8 HR5.out.lt).cell (i := 0) (v := .string ⟨y1.toArray⟩) rfl; have s2 := (HR5.out.drew.below hb8 HR5.out.lt).cell (i := 1) (v := .string ⟨y2.toArray⟩) rfl; have HR8 := Lib.hid (HR5.out.drew.below hb8 HR5.out.lt); obtain ⟨sA, sc, rfl, _⟩ := hv8.open_; clear hb8 hv8))
                            | (go_at_call 20; (refine (contains_pair _ _ (sortedS wide) (y1, y2) _ HIZ.out HA8.out).mono ?_; rintro e w9 ⟨rfl, hb9⟩; have HB9 := Lib.hid (HB8.out.trans (hb9.mono HB8.out.size)); have s1 := (HR8.out.below hb9 HR8.out.lt).cell (i := 0) (v := .string ⟨y1.toArray⟩) rfl; have s2 := (HR8.out.below hb9 HR8.out.lt).cell (i := 1) (v := .string ⟨y2.toArray⟩) rfl; clear hb9))
                            | fail)
                        go_wp2
                        go_roundw
                        case rel => exact ⟨k + 1, by omega, by go_num, by rw [HN.out]; simp, HB9.out⟩
                        case measure => simp [intOf]; omega
                    · obtain rfl : k = Q.length := by omega
                      rw [show allowB wide Q ps Q.length = !bz from by rw [HBZ2.out, Bool.not_not]]
                      have HQP : Hid (∀ p ∈ Q, p.1.length ≤ maxLen ∧ p.2.length ≤ maxLen) := Lib.hid (fun p hp => req_ok HZA.out ((apartS_mem a pairs VS p).1 (by rw [HQ.out]; exact hp)).1)
                      have HV4 := Lib.hid (HV3.out.below hbq)
                      have HQ4 := Lib.hid (HQ3.out.below hbq)
                      have HW4 := Lib.hid (then_ HW3.out hbq)
                      have b2 : (bz == !bz) = false := by cases bz <;> rfl
                      clear hbq hcs HBZ2
                      have HX := Lib.hid (Below.refl wo.heap.size wo)
                      by_cases hz : zc = 0
                      · subst hz
                        obtain ⟨k1, k2, k3, k4, k5⟩ := composeS_ok (a := a) (b := b) (by rw [HCZ.out])
                        obtain rfl : L = compS a b := by rw [HCZ.out] at k5; exact (Prod.mk.inj k5).1
                        have HZC : Hid (SubSz (compS a b) pairs VS) := Lib.hid ⟨fun x hx => (comp_sz HSA.out HSB.out x hx).1, fun x hx => (comp_sz HSA.out HSB.out x hx).2, fun x hx => by have := comp_long HAL.out HBL.out x hx; omega, by omega, HSP.out, HZA.out.vars, HZA.out.nvars⟩
                        have HRC : Hid ((reqS (compS a b) pairs VS).length ≤ 100000000) := Lib.hid (by have := req_len (m := 225) (comp_long HAL.out HBL.out) (by decide) pairs VS; omega)
                        have HZB : Hid (SubSz b Q VS) := Lib.hid ⟨fun x hx => (HSB.out x hx).1, fun x hx => (HSB.out x hx).2, fun x hx => by have := HBL.out x hx; omega, by omega, HQP.out, HZA.out.vars, HZA.out.nvars⟩
                        have HRB : Hid ((reqS b Q VS).length ≤ 100000000) := Lib.hid (by have := req_len (m := 15) HBL.out (by decide) Q VS; omega)
                        clear k1 k2 k3 k4 k5
                        cases ps
                        · clear HZC HRC HZB HRB HQP
                          go_wp2_with (first
                            | (go_at_call 22; (refine (broken_any _ _ _ _ _ a pairs wide VS p1 p2 bz HQQ.out HBZ.out (HA.out.below HW4.out) (HP.out.below HW4.out) HV4.out (HWI.out.below HW4.out) HZA.out (by omega)).mono ?_; rintro e w5 ⟨rfl, hb⟩; have HX := Lib.hid (new_ (then_ HX.out hb) (.cells #[.string ⟨p1.toArray⟩, .string ⟨p2.toArray⟩] 39)); clear hb))
                            | (go_at_call 23; (refine (compose_as _ _ _ a b _ _ HCZ.out (HA.out.below (then_ HW4.out HX.out)) (HB.out.below (then_ HW4.out HX.out)) HSA.out HSB.out).mono ?_; rintro e w6 ⟨v6, rfl, hv, hb⟩; have HX := Lib.hid (then_ HX.out hb); clear hb hv))
                            | (go_at_call 11; (refine (awake06 _).mono ?_; rintro e w9 ⟨rfl, hb⟩; have HX := Lib.hid (then_ HX.out hb); clear hb)))
                          go_ret
                          exact ⟨rfl, then_ HW4.out HX.out⟩
                        · obtain ⟨q1, q2⟩ := apart_comp (a := a) (b := b) (pairs := pairs) (vs := VS) (by rw [HVS.out]; exact varsAll_a) (by rw [HVS.out]; exact varsAll_p) HPS.out
                          obtain ⟨R, hR⟩ : ∃ R, apartS b Q VS = R := ⟨_, rfl⟩
                          obtain ⟨iz, hiz⟩ : ∃ iz, posS (reqS b Q VS) = iz := ⟨_, rfl⟩
                          rw [HQ.out, hR] at q1
                          rw [HQ.out, hiz] at q2
                          have HQ1 := Lib.hid q1
                          have HQ2 := Lib.hid q2
                          have HR := Lib.hid hR
                          have HIZ := Lib.hid hiz
                          clear q1 q2 hR hiz HQP
                          cases iz
                          all_goals
                            go_wp2_with (first
                              | (go_at_call 22; (refine (broken_any _ _ _ _ _ a pairs wide VS p1 p2 bz HQQ.out HBZ.out (HA.out.below HW4.out) (HP.out.below HW4.out) HV4.out (HWI.out.below HW4.out) HZA.out (by omega)).mono ?_; rintro e w5 ⟨rfl, hb⟩; have HX := Lib.hid (new_ (then_ HX.out hb) (.cells #[.string ⟨p1.toArray⟩, .string ⟨p2.toArray⟩] 39)); clear hb))
                              | (go_at_call 23; (refine (compose_as _ _ _ a b _ _ HCZ.out (HA.out.below (then_ HW4.out HX.out)) (HB.out.below (then_ HW4.out HX.out)) HSA.out HSB.out).mono ?_; rintro e w6 ⟨v6, rfl, hv, hb⟩; have HX := Lib.hid (then_ HX.out hb); have HC6 := Lib.hid hv; clear hb hv))
                              | (go_at_call 19; (first
                                | ((with_reducible refine (apart_any _ _ _ _ b Q VS R _ HR.out HIZ.out (HB.out.below (then_ HW4.out HX.out)) (HQ4.out.below HX.out) (HV4.out.below HX.out) HZB.out HRB.out).mono ?_); rintro e w7 ⟨u7, rfl, hv, hb⟩; have HX := Lib.hid (then_ HX.out hb); have HC6 := Lib.hid (HC6.out.below hb); have HE7 := Lib.hid hv; clear hb hv)
                                | ((with_reducible refine (apart_any _ _ _ _ (compS a b) pairs VS R _ HQ1.out HQ2.out HC6.out (HP.out.below (then_ HW4.out HX.out)) (HV4.out.below HX.out) HZC.out HRC.out).mono ?_); rintro e w8 ⟨u8, rfl, hv, hb⟩; have HX := Lib.hid (then_ HX.out hb); have HE7 := Lib.hid (HE7.out.below hb); have HE8 := Lib.hid hv; clear hb hv)
                                | fail))
                              | (go_at_call 24; (refine (equal_pairs _ _ _ R HE7.out HE8.out).mono ?_; rintro e w9 ⟨rfl, hb⟩; have HX := Lib.hid (then_ HX.out hb); clear hb))
                              | (go_at_call 11; (refine (awake06 _).mono ?_; rintro e wA ⟨rfl, hb⟩; have HX := Lib.hid (then_ HX.out hb); clear hb)))
                            go_ret
                            exact ⟨rfl, then_ HW4.out HX.out⟩
                      · have t1 : (zc != 0) = true := by simpa using hz
                        have t2 : (zc == 0) = false := by simpa using hz
                        clear hz HQP
                        go_wp2_with (first
                          | (go_at_call 22; (refine (broken_any _ _ _ _ _ a pairs wide VS p1 p2 bz HQQ.out HBZ.out (HA.out.below HW4.out) (HP.out.below HW4.out) HV4.out (HWI.out.below HW4.out) HZA.out (by omega)).mono ?_; rintro e w5 ⟨rfl, hb⟩; have HX := Lib.hid (new_ (then_ HX.out hb) (.cells #[.string ⟨p1.toArray⟩, .string ⟨p2.toArray⟩] 39)); clear hb))
                          | (go_at_call 23; (refine (compose_as _ _ _ a b _ _ HCZ.out (HA.out.below (then_ HW4.out HX.out)) (HB.out.below (then_ HW4.out HX.out)) HSA.out HSB.out).mono ?_; rintro e w6 ⟨v6, rfl, hv, hb⟩; have HX := Lib.hid (then_ HX.out hb); clear hb hv))
                          | (go_at_call 11; (refine (awake06 _).mono ?_; rintro e w9 ⟨rfl, hb⟩; have HX := Lib.hid (then_ HX.out hb); clear hb)))
                        go_ret
                        exact ⟨rfl, then_ HW4.out HX.out⟩
        · have e4 : decide ((40 : Int) < (wide.length : Int)) = true := decide_eq_true (by omega)
          clear hfa hfb
          go_enter Try.func4, Try.ntmps4
          go_wp2_with (first | (go_at_call 10; (first
              | ((with_reducible refine (few_any _ _ a 15 15 (HA.out.below HW.out)).mono ?_); rintro e w1 ⟨rfl, hb⟩; have HW := Lib.hid (then_ HW.out hb); clear hb)
              | ((with_reducible refine (few_any _ _ b 15 15 (HB.out.below HW.out)).mono ?_); rintro e w1 ⟨rfl, hb⟩; have HW := Lib.hid (then_ HW.out hb); clear hb))) | (go_at_call 11; (refine (awake06 _).mono ?_; rintro e w2 ⟨rfl, hb⟩; have HW := Lib.hid (then_ HW.out hb); clear hb)))
          go_ret
          exact ⟨rfl, HW.out⟩
      · have e3 : decide ((20 : Int) < (pairs.length : Int)) = true := decide_eq_true (by omega)
        clear hfa hfb
        go_enter Try.func4, Try.ntmps4
        go_wp2_with (first | (go_at_call 10; (first
            | ((with_reducible refine (few_any _ _ a 15 15 (HA.out.below HW.out)).mono ?_); rintro e w1 ⟨rfl, hb⟩; have HW := Lib.hid (then_ HW.out hb); clear hb)
            | ((with_reducible refine (few_any _ _ b 15 15 (HB.out.below HW.out)).mono ?_); rintro e w1 ⟨rfl, hb⟩; have HW := Lib.hid (then_ HW.out hb); clear hb))) | (go_at_call 11; (refine (awake06 _).mono ?_; rintro e w2 ⟨rfl, hb⟩; have HW := Lib.hid (then_ HW.out hb); clear hb)))
        go_ret
        exact ⟨rfl, HW.out⟩
    · have e2 : decide (FewS b 15 15) = false := decide_eq_false hfb
      clear hfa hfb
      go_enter Try.func4, Try.ntmps4
      go_wp2_with (first | (go_at_call 10; (first
          | ((with_reducible refine (few_any _ _ a 15 15 (HA.out.below HW.out)).mono ?_); rintro e w1 ⟨rfl, hb⟩; have HW := Lib.hid (then_ HW.out hb); clear hb)
          | ((with_reducible refine (few_any _ _ b 15 15 (HB.out.below HW.out)).mono ?_); rintro e w1 ⟨rfl, hb⟩; have HW := Lib.hid (then_ HW.out hb); clear hb))) | (go_at_call 11; (refine (awake06 _).mono ?_; rintro e w2 ⟨rfl, hb⟩; have HW := Lib.hid (then_ HW.out hb); clear hb)))
      go_ret
      exact ⟨rfl, HW.out⟩
  · have e1 : decide (FewS a 15 15) = false := decide_eq_false hfa
    clear hfa
    go_enter Try.func4, Try.ntmps4
    go_wp2_with (first | (go_at_call 10; (first
        | ((with_reducible refine (few_any _ _ a 15 15 (HA.out.below HW.out)).mono ?_); rintro e w1 ⟨rfl, hb⟩; have HW := Lib.hid (then_ HW.out hb); clear hb)
        | ((with_reducible refine (few_any _ _ b 15 15 (HB.out.below HW.out)).mono ?_); rintro e w1 ⟨rfl, hb⟩; have HW := Lib.hid (then_ HW.out hb); clear hb))) | (go_at_call 11; (refine (awake06 _).mono ?_; rintro e w2 ⟨rfl, hb⟩; have HW := Lib.hid (then_ HW.out hb); clear hb)))
    go_ret
    exact ⟨rfl, HW.out⟩
end Go.Proofs.Ytignhjfobcnloaa
