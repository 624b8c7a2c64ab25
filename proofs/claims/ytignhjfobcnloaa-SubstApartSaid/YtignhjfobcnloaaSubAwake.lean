/- awake of the layer's statements: the examples of the chapter. -/
import Derived.Test.YtignhjfobcnloaaSubFew
import Derived.Test.YtignhjfobcnloaaSubApart
import Derived.Laws.StructEq
namespace Go.Proofs.Ytignhjfobcnloaa
open Go.RowKit Go.Shelf Go.Lib Go.Sort
theorem Strs.of_row {W : World} {g : Nat} {T : TypeId} {cs : Array Value} {l : Form} {n : Nat} (hr : Row W g T cs) (h : cs.toList = l.map strV) (hn : l.length = n) (hm : n ≤ maxLen) : Strs W (.slice (some ⟨g, 0, none⟩) n n) l := by
  subst hn
  exact ⟨_, _, rfl, Nat.le_refl _, hm, by simp, fun _ => ⟨g, 0, rfl, fun j u hu => by
    rw [Nat.zero_add]; refine hr.cell ?_; rw [← Array.getElem?_toList, h]; exact hu⟩⟩
theorem PairsAt.of_row {W : World} {g : Nat} {T : TypeId} {cs : Array Value} {l : List PairD} {n : Nat} (hr : Row W g T cs) (h : cs.toList = l.flatMap pairCells) (hn : l.length = n) (hm : n ≤ maxLen) : PairsAt W (.slice (some ⟨g, 0, none⟩) n n) l := by
  subst hn
  exact ⟨_, _, rfl, Nat.le_refl _, hm, pairs_flat_len l, fun _ => ⟨g, 0, rfl, fun j u hu => by
    rw [Nat.zero_add]; refine hr.cell ?_; rw [← Array.getElem?_toList, h]; exact hu⟩⟩
theorem BindAt.two {W : World} {g : Nat} {T : TypeId} {a b : List UInt8} {tv uv : Value} {t u : Form} (hr : Row W g T #[.string ⟨a.toArray⟩, tv, .string ⟨b.toArray⟩, uv]) (h1 : Strs W tv t) (h2 : Strs W uv u) : BindAt W (.slice (some ⟨g, 0, none⟩) 2 2) [(a, t), (b, u)] := by
  refine ⟨_, 2, rfl, Nat.le_refl _, by simp [maxLen], fun k x hk => ?_⟩
  match k with
  | 0 => obtain rfl := (by simpa using hk : (a, t) = x); exact ⟨g, 0, tv, rfl, hr.cell rfl, hr.cell rfl, h1⟩
  | 1 => obtain rfl := (by simpa using hk : (b, u) = x); exact ⟨g, 0, uv, rfl, hr.cell rfl, hr.cell rfl, h2⟩
  | k + 2 => simp at hk
abbrev exL1 : List BindD := [([112, 104], [[112, 115]]), ([112, 115], [[112, 104]])]
abbrev exT1 : Form := [[40], [112, 104], [45, 62], [112, 115], [41]]
abbrev exA1 : Form := [[40], [112, 115], [45, 62], [112, 104], [41]]
abbrev exL2 : List BindD := [([120], [[120]]), ([112, 104], [[40], [121], [61], [120], [41]])]
abbrev exP2 : List PairD := [([112, 104], [120])]
abbrev exV2 : Form := [[120], [121]]
theorem ex1_bind (w : World) (o : Obj) : BindAt ((((w.alloc (.cells #[.string ⟨#[112, 115]⟩] 9)).alloc (.cells #[.string ⟨#[112, 104]⟩] 9)).alloc (.cells #[.string ⟨#[112, 104]⟩, .slice (some ⟨w.heap.size, 0, none⟩) 1 1, .string ⟨#[112, 115]⟩, .slice (some ⟨w.heap.size + 1, 0, none⟩) 1 1] 28)).alloc o) (.slice (some ⟨w.heap.size + 1 + 1, 0, none⟩) 2 2) exL1 :=
  BindAt.two (a := [112, 104]) (b := [112, 115]) (T := 28) ((Row.new' _ _ _ (by simp)).alloc _) (Strs.of_row ((((Row.new' _ _ _ rfl).alloc _).alloc _).alloc _) rfl rfl (by decide)) (Strs.of_row (((Row.new' _ _ _ (by simp)).alloc _).alloc _) rfl rfl (by decide))
theorem ex2_bind (w : World) (o1 o2 : Obj) : BindAt (((((w.alloc (.cells #[.string ⟨#[120]⟩] 9)).alloc (.cells #[.string ⟨#[40]⟩, .string ⟨#[121]⟩, .string ⟨#[61]⟩, .string ⟨#[120]⟩, .string ⟨#[41]⟩] 9)).alloc (.cells #[.string ⟨#[120]⟩, .slice (some ⟨w.heap.size, 0, none⟩) 1 1, .string ⟨#[112, 104]⟩, .slice (some ⟨w.heap.size + 1, 0, none⟩) 5 5] 28)).alloc o1).alloc o2) (.slice (some ⟨w.heap.size + 1 + 1, 0, none⟩) 2 2) exL2 :=
  BindAt.two (a := [120]) (b := [112, 104]) (T := 28) (((Row.new' _ _ _ (by simp)).alloc _).alloc _) (Strs.of_row (((((Row.new' _ _ _ rfl).alloc _).alloc _).alloc _).alloc _) rfl rfl (by decide)) (Strs.of_row ((((Row.new' _ _ _ (by simp)).alloc _).alloc _).alloc _) rfl rfl (by decide))
theorem ex1_apply : applyS exT1 exL1 = exA1 := by decide
theorem notHeldPair : Try.prog.stoodInHeld 39 = false := by kernel_rfl
theorem ex2_req : reqS exL2 exP2 exV2 = [([120], [121]), ([120], [120])] := by decide
theorem ex2_out : outS (reqS exL2 exP2 exV2) = [([120], [121])] := by rw [ex2_req]; decide
theorem ex2_pos : posS (reqS exL2 exP2 exV2) = false := by rw [ex2_req]; decide
theorem ex2_ord : ([(([120] : List UInt8), ([121] : List UInt8))]).map orderedS = [([120], [121])] := by decide
theorem ex2_sorted : sortedS [([120], [121])] = [([120], [121])] := by
  unfold sortedS
  rw [ex2_ord, List.mergeSort_singleton]
  rfl
theorem ex2_comp : CompactOk (((outS (reqS exL2 exP2 exV2)).map orderedS).mergeSort fun x y => !(ltOf cmpP) y x) := by
  rw [ex2_out, ex2_ord, List.mergeSort_singleton]
  exact compact_small _ (by decide)
theorem ex2_sizes : SubSz exL2 exP2 exV2 where
  var := by simp [maxLen]
  text := by simp [maxLen]
  long := by simp
  many := by decide
  pair := by simp [maxLen]
  vars := by simp [maxLen]
  nvars := by decide
theorem apart_ex (w : World) (lv pv vv : Value) (hl : BindAt w lv exL2) (hp : PairsAt w pv exP2) (hv : Strs w vv exV2) :
    Calls Try.prog 19 #[lv, pv, vv] w fun e w' => ∃ c b o, 1 ≤ c ∧ e = .returned (.tuple #[.slice (some ⟨b, o, none⟩) 1 c, .bool false]) ∧ w'.cell? ⟨b, o, none⟩ = some (.string ⟨#[120]⟩) ∧ w'.cell? ⟨b, o + 1, none⟩ = some (.string ⟨#[121]⟩) ∧ Below w.heap.size w w' := by
  have h := apart_of w lv pv vv exL2 exP2 exV2 hl hp hv ex2_sizes (by rw [ex2_req]; decide) ex2_comp
  rw [ex2_out, ex2_pos, ex2_sorted] at h
  refine h.mono ?_
  rintro e w' ⟨v, rfl, hv', hb⟩
  obtain ⟨A, c, rfl, hc, _, hx⟩ := hv'.open_
  obtain ⟨b, o, rfl, s1, s2⟩ := hx 0 _ rfl
  simp only [Nat.zero_mul, Nat.add_zero] at s1 s2
  exact ⟨c, b, o, hc, rfl, s1, s2, hb⟩
set_option maxRecDepth 100000 in
theorem awake06 (w : World) : Calls Try.prog 11 #[] w fun e w' => e = .returned (.bool true) ∧ Below w.heap.size w w' := by
  have hnh := notHeldPair
  go_enter Try.func11, Try.ntmps11
  go_wp2_with (first
    | (go_at_call 16; (refine (apply_any _ _ _ exL1 exT1 (ex1_bind w _) (Strs.of_row (T := 9) (Row.new' _ _ _ (by simp)) rfl rfl (by decide)) (by simp [maxLen]) (by simp [maxLen]) (by decide) (by rw [ex1_apply]; decide)).mono ?_; rw [ex1_apply]; rintro e w1 ⟨v1, rfl, hv1, hb1⟩; obtain ⟨A1, c1, rfl⟩ := hv1.form; have HV1 := Lib.hid hv1; have HB1 := Lib.hid hb1; clear hv1 hb1))
    | (go_at_call 19; (refine (apart_ex _ _ _ _ (ex2_bind w1 _ _) (PairsAt.of_row (T := 39) ((Row.new' _ _ _ (by simp)).alloc _) rfl rfl (by decide)) (Strs.of_row (T := 9) (Row.new' _ _ _ (by simp)) rfl rfl (by decide))).mono ?_; rintro e w2 ⟨c2, b2, o2, hc2, rfl, s1, s2, hb2⟩; have HB2 := Lib.hid hb2; have s0 := block_lt_of_cell s1; dsimp only at s0; clear hb2))
    | (go_at_call 18; (refine (equal_str_same _ _ _ exA1 ((HV1.out.below (then_ (new_ (new_ (new_ (new_ (new_ (Below.refl _ _) _) _) _) _) _) HB2.out)).below (new_ (Below.refl _ _) _)) (Strs.of_row (T := 9) (Row.new' _ _ _ rfl) rfl rfl (by decide))).mono ?_; rintro e w3 ⟨rfl, hb3⟩; have q1 := (hb3.cell (p := ⟨b2, o2, none⟩) (by simp; omega)).trans (((Below.refl w2.heap.size w2).alloc (Nat.le_refl _) _).cell (p := ⟨b2, o2, none⟩) s0 |>.trans s1); have q2 := (hb3.cell (p := ⟨b2, o2 + 1, none⟩) (by simp; omega)).trans (((Below.refl w2.heap.size w2).alloc (Nat.le_refl _) _).cell (p := ⟨b2, o2 + 1, none⟩) s0 |>.trans s2); have HB3 := Lib.hid hb3; clear hb3 s1 s2)))
  go_ret
  exact ⟨rfl, then_ (new_ (then_ (new_ (new_ (new_ (new_ (new_ (then_ (new_ (new_ (new_ (new_ (Below.refl _ _) _) _) _) _) HB1.out) _) _) _) _) _) HB2.out) _) HB3.out⟩
end Go.Proofs.Ytignhjfobcnloaa
