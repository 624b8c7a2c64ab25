/- A region that draws its order, in a round of a range over a function: by the walk of a plain region. The program's Read: the two regions of a round that draw their order. (Printed by gen_doc.py.) The reference's Read: a gap is appended. (Printed by gen_refdoc.py.) -/
import Derived.Test.YtpmbfcogkoiogaaDoorRangeA
import Derived.RegionTactic
import Derived.Deep.QuietTactic
import Derived.BigQuiet
import Derived.BigRegion
import Derived.Deep.RegionWith
import Derived.Deep.RegionHeld3
import Derived.Deep.DrawnRows
import Derived.Test.YtpmbfcogkoiogaaDoorDocMem
import Derived.Test.YtpmbfcogkoiogaaDoorLayWordsA
import Derived.Test.YtpmbfcogkoiogaaDoorLayFnA
import Derived.Test.YtpmbfcogkoiogaaDoorCellA
section
namespace Go.Proofs.YtpmbfcogkoiogaaDoor
open Go.RowKit
section
variable {l n : Nat} {P : Program} {ops : Array Oper} {Q : Exit → Act → World → Prop}
theorem wpOpIn_of_wpOp {i : Nat} {K : Act → World → Prop} {a : Act} {w : World} (hd : ∀ o, ops[i]? = some o → ∀ c, o.op ≠ .defer c) (hQ : ¬ LetsOut Q) (h : wpOp P ops Q i K a w) : wpOpIn (Fence.wide.inRound l) n P ops Q i K a w := by
  unfold wpOp at h
  unfold wpOpIn
  split
  · rename_i ho
    simpa [ho] using h
  · rename_i o ho
    simp only [ho] at h
    split
    · rename_i hw
      rw [if_pos hw] at h
      rcases h with h | ⟨_, h⟩
      · refine ⟨fun _ _ => trivial, ?_⟩
        rw [Oper.semAt_eq _ _ _ (hd o ho)]
        unfold Oper.wp at h
        generalize (execOp a.eval o).run P w = r at h
        cases r with
        | ok x w' =>
          cases x with
          | enter f args => exact ⟨fun hh => by simp [Fence.wide] at hh, (callsIn_wide.2 h).inRound l⟩
          | row r args => exact ⟨fun hh => by simp [Fence.wide] at hh, fun c cs _ => by
              obtain ⟨v, w2, h1, h2⟩ := h c cs
              exact ⟨v, w2, h1, stepsIn_wide.2 h2⟩⟩
          | round _ _ _ _ _ => exact h.elim
          | _ => exact h
        | halt x w' => cases x <;> exact h
      · exact absurd h hQ
    · rename_i hw
      rw [if_neg hw] at h
      exact ⟨fun _ _ => trivial, h⟩
theorem wpAnyIn_of_wpAny {md : Region.Mode} (hd : ∀ (i : Nat) o, ops[i]? = some o → ∀ c, o.op ≠ .defer c) (hQ : ¬ LetsOut Q) :
    ∀ (fuel : Nat) (listed : Array Bool) (a : Act) (w : World), wpAny P md ops Q fuel listed a w → wpAnyIn (Fence.wide.inRound l) n P md ops Q fuel listed a w
  | 0, _, _, _, h => h
  | fuel + 1, _, _, _, h => ⟨h.1, fun i hi => wpOpIn_of_wpOp (hd i) hQ (wpOp_mono (fun _ _ h' => wpAnyIn_of_wpAny hd hQ fuel _ _ _ h') (h.2 i hi))⟩
/-- not a 'defer' -/
def noDefer (o : Oper) : Bool := match o.op with | .defer _ => false | _ => true
theorem noDefer_all (h : ops.all noDefer = true) : ∀ (i : Nat) o, ops[i]? = some o → ∀ c, o.op ≠ .defer c := fun i o ho c hc => by
  have h1 := Array.all_eq_true_iff_forall_mem.1 h o (Array.mem_of_getElem? ho)
  unfold noDefer at h1
  rw [hc] at h1
  cases h1
/-- what the world meets throughout a region -/
theorem wpIn_region_held {id : Nat} {a : Act} {w : World} (S : World → Prop) (hm : P.follows .mixedOrders = true) (hd : ops.all noDefer = true) (hQ : ¬ LetsOut Q) (hS : S w.drew)
    (h : S w.drew → wpAnyH P .any ops Q S ops.size (Array.replicate ops.size false) a w.drew) : (Code.region id ops true).wpIn (Fence.wide.inRound l) n P Q a w :=
  wpIn_region_any hm (wpAnyIn_of_wpAny (noDefer_all hd) hQ _ _ _ _ (wpAny_of_held _ _ _ _ (h hS)))
end
end Go.Proofs.YtpmbfcogkoiogaaDoor
end
section
namespace Go.Proofs.YtpmbfcogkoiogaaDoor
open Go.RowKit
theorem beq_cast (a c : Nat) : ((a : Int) == (c : Int)) = (a == c) := by
  rcases Nat.decEq a c with h | h
  · have h2 : ((a : Int) == (c : Int)) = false := by rw [beq_eq_false_iff_ne]; omega
    rw [h2, beq_eq_false_iff_ne.2 h]
  · subst h; simp
theorem cell_lt {w : World} {a : Addr} {v : Value} (h : w.cell? a = some v) : a.block < w.heap.size := by
  unfold World.cell? at h
  rcases Nat.lt_or_ge a.block w.heap.size with h1 | h1
  · exact h1
  · rw [Array.getElem?_eq_none h1] at h; simp at h
theorem cell_alloc_far {w : World} {o : Obj} {a : Addr} (h : a.block < w.heap.size) : (w.alloc o).cell? a = w.cell? a := (new_ (Below.refl _ w) o).cell h
theorem cell_set_far {w : World} {a p : Addr} (u : Value) (h : a.block ≠ p.block) : (w.setCell p u).cell? a = w.cell? a := World.cell?_of_block (w := w) (Below.heap_setCell w p u a.block h)
theorem cellB {w W : World} {a : Addr} {v : Value} (h : w.cell? a = some v) (hb : Below w.heap.size w W) : W.cell? a = some v := by
  refine (hb.cell ?_).trans h
  unfold World.cell? at h
  rcases Nat.lt_or_ge a.block w.heap.size with h1 | h1
  · exact h1
  · rw [Array.getElem?_eq_none h1] at h; simp at h
theorem notOut {K : Act → World → Prop} : ¬ LetsOut (Exit.then K fun _ _ _ => False) := fun ⟨_, _, h⟩ => h
def normalOnly (K : Act → World → Prop) : Exit → Act → World → Prop
  | .normal, a, W => K a W
  | _, _, _ => False
theorem normalOnly_out {K : Act → World → Prop} : ¬ LetsOut (normalOnly K) := fun ⟨_, _, h⟩ => h
set_option maxRecDepth 100000 in
set_option maxHeartbeats 16000000 in
theorem doc_reg18 {l m : Nat} {wr : World} {g9 g10 g13 n p cL cP : Nat} {bL oL bP oP : Nat} {x0 x1 x2 x3 x4 x5 x6 x7 x8 x11 x12 x14 x15 x16 x17 x18 x19 x20 x21 x22 x23 x24 x25 x26 x27 x28 x29 x30 x31 x32 x33 x34 x35 x36 x37 x38 x39 x40 x41 x42 x43 x44 x45 x46 x47 x48 x49 x50 x51 x52 x53 x54 x55 x56 x57 x58 x59 x60 x61 x62 x63 x64 x65 x66 x67 x68 x69 x70 x71 x72 x73 x74 x75 x76 x77 x78 x79 x80 x81 x82 x83 x84 x85 x86 x87 x88 x89 x90 x91 x92 x93 x94 x95 x96 x97 x98 x99 x100 x101 x102 x103 x104 x105 x106 x107 x108 x109 x110 x111 : Value} {Q : Exit → Act → World → Prop} (h9 : wr.cell? ⟨g9, 0, none⟩ = some (.slice (some ⟨bL, oL, none⟩) n cL)) (h10 : wr.cell? ⟨g10, 0, none⟩ = some (.slice (some ⟨bP, oP, none⟩) n cP)) (h13 : wr.cell? ⟨g13, 0, none⟩ = some (.int .i64 p))
    {ng cg : Nat} {Ag : Option Addr} {x : StmD} {tv pv : Value} (hp : p < n) (_hcL : n ≤ cL) (_hcP : n ≤ cP) (_hn : n ≤ maxLen) (hg : wr.cell? ⟨bP, oP + p * 5 + 4, none⟩ = some (.slice Ag ng cg)) (hs0 : wr.cell? ⟨bL, oL + p * 4, none⟩ = some (.int .i64 x.kind)) (hs1 : wr.cell? ⟨bL, oL + p * 4 + 1, none⟩ = some (.string ⟨x.label.toArray⟩)) (hs2 : wr.cell? ⟨bL, oL + p * 4 + 2, none⟩ = some tv) (hs3 : wr.cell? ⟨bL, oL + p * 4 + 3, none⟩ = some pv)
    (hT : Strs wr tv x.text) (hP : Strs wr pv x.proof) (hk : 1 ≤ x.kind ∧ x.kind ≤ 9) (hn1 : x.text.length ≤ 1000000) (hn2 : x.proof.length ≤ 1000000) (hF : FormsAt wr)
    (b : Bool) (hb : (ng == (wordsS x).length) = b)
    (hQ : ∀ (y69 y70 y71 y72 y73 y74 y75 y76 y77 y78 y79 y80 y81 y82 y83 y84 y85 y86 y87 : Value) (W' : World), Below wr.heap.size wr W' → Q .normal { tmps := #[x0, x1, x2, x3, x4, x5, x6, x7, x8, .pointer (some ⟨g9, 0, none⟩), .pointer (some ⟨g10, 0, none⟩), x11, x12, .pointer (some ⟨g13, 0, none⟩), x14, x15, x16, x17, x18, x19, x20, x21, x22, x23, x24, x25, x26, x27, x28, x29, x30, x31, x32, x33, x34, x35, x36, x37, x38, x39, x40, x41, x42, x43, x44, x45, x46, x47, x48, x49, x50, x51, x52, x53, x54, x55, x56, x57, x58, x59, x60, x61, x62, x63, x64, x65, x66, x67, x68, y69, y70, y71, y72, y73, y74, y75, y76, y77, y78, y79, y80, y81, y82, y83, y84, y85, y86, y87, .bool b, x89, x90, x91, x92, x93, x94, x95, x96, x97, x98, x99, x100, x101, x102, x103, x104, x105, x106, x107, x108, x109, x110, x111], defers := [] } W') :
    (regC 18 (Tryd.f19.body.getD .skip)).wpIn (Fence.wide.inRound l) m Tryd.prog Q { tmps := #[x0, x1, x2, x3, x4, x5, x6, x7, x8, .pointer (some ⟨g9, 0, none⟩), .pointer (some ⟨g10, 0, none⟩), x11, x12, .pointer (some ⟨g13, 0, none⟩), x14, x15, x16, x17, x18, x19, x20, x21, x22, x23, x24, x25, x26, x27, x28, x29, x30, x31, x32, x33, x34, x35, x36, x37, x38, x39, x40, x41, x42, x43, x44, x45, x46, x47, x48, x49, x50, x51, x52, x53, x54, x55, x56, x57, x58, x59, x60, x61, x62, x63, x64, x65, x66, x67, x68, x69, x70, x71, x72, x73, x74, x75, x76, x77, x78, x79, x80, x81, x82, x83, x84, x85, x86, x87, x88, x89, x90, x91, x92, x93, x94, x95, x96, x97, x98, x99, x100, x101, x102, x103, x104, x105, x106, x107, x108, x109, x110, x111], defers := [] } wr := by
  obtain ⟨A1, d1, rfl, -⟩ := hT.open_
  obtain ⟨A2, d2, rfl, -⟩ := hP.open_
  have e1 : decide ((p : Int) < (n : Int)) = true := decide_eq_true (by omega)
  unfold maxLen at _hn
  have HT := Lib.hid hT
  have HP := Lib.hid hP
  have HF := Lib.hid hF
  have HB := Lib.hid hb
  have HK := Lib.hid hk
  have HN1 := Lib.hid hn1
  have HN2 := Lib.hid hn2
  clear hT hP hF hb hk hn1 hn2
  refine wpIn_mono (Q := normalOnly fun a W' => ∃ y69 y70 y71 y72 y73 y74 y75 y76 y77 y78 y79 y80 y81 y82 y83 y84 y85 y86 y87, a = { tmps := #[x0, x1, x2, x3, x4, x5, x6, x7, x8, .pointer (some ⟨g9, 0, none⟩), .pointer (some ⟨g10, 0, none⟩), x11, x12, .pointer (some ⟨g13, 0, none⟩), x14, x15, x16, x17, x18, x19, x20, x21, x22, x23, x24, x25, x26, x27, x28, x29, x30, x31, x32, x33, x34, x35, x36, x37, x38, x39, x40, x41, x42, x43, x44, x45, x46, x47, x48, x49, x50, x51, x52, x53, x54, x55, x56, x57, x58, x59, x60, x61, x62, x63, x64, x65, x66, x67, x68, y69, y70, y71, y72, y73, y74, y75, y76, y77, y78, y79, y80, y81, y82, y83, y84, y85, y86, y87, .bool b, x89, x90, x91, x92, x93, x94, x95, x96, x97, x98, x99, x100, x101, x102, x103, x104, x105, x106, x107, x108, x109, x110, x111], defers := [] } ∧ Below wr.heap.size wr W') ?main ?post
  case post =>
    intro e a W' h
    cases e with
    | normal =>
      obtain ⟨y69, y70, y71, y72, y73, y74, y75, y76, y77, y78, y79, y80, y81, y82, y83, y84, y85, y86, y87, rfl, hb⟩ := h
      exact hQ _ _ _ _ _ _ _ _ _ _ _ _ _ _ _ _ _ _ _ W' hb
    | _ => exact False.elim h
  clear hQ
  show Code.wpIn _ _ _ (Code.region 18 _ _) _ _ _
  refine wpIn_region_held (Below wr.heap.size wr) (by kernel_rfl) (by kernel_rfl) normalOnly_out (Below.refl _ _).drew (fun hS => ?_)
  refine wpAnyH_take (i := 0) (oi := ?oi0) (v := ?v0) ?hi0 (by kernel_rfl) (by kernel_rfl) (by kernel_rfl) (fun _ _ _ h => False.elim h) (Or.inl ⟨?hw0, fun W hW => ?hr0⟩) hS ?rest0
  case hi0 => (simp only [List.getElem?_toArray, List.getElem?_cons_zero]; rfl)
  case hw0 => rfl
  case hr0 => (have q0 := cellB h13 hW; go_simp; try with_reducible rfl)
  try simp only [Act.put, List.setIfInBounds_toArray, List.set_cons_zero, List.set_cons_succ]
  refine wpAnyH_take (i := 1) (oi := ?oi1) (v := ?v1) ?hi1 (by kernel_rfl) (by kernel_rfl) (by kernel_rfl) (fun _ _ _ h => False.elim h) (Or.inl ⟨?hw1, fun W hW => ?hr1⟩) hS ?rest1
  case hi1 => (simp only [List.getElem?_toArray, List.getElem?_cons_succ, List.getElem?_cons_zero]; rfl)
  case hw1 => rfl
  case hr1 => (have q0 := cellB h9 hW; go_simp; try with_reducible rfl)
  try simp only [Act.put, List.setIfInBounds_toArray, List.set_cons_zero, List.set_cons_succ]
  refine wpAnyH_take (i := 2) (oi := ?oi2) (v := ?v2) ?hi2 (by kernel_rfl) (by kernel_rfl) (by kernel_rfl) (fun _ _ _ h => False.elim h) (Or.inl ⟨?hw2, fun W hW => ?hr2⟩) hS ?rest2
  case hi2 => (simp only [List.getElem?_toArray, List.getElem?_cons_succ, List.getElem?_cons_zero]; rfl)
  case hw2 => rfl
  case hr2 => (go_simp; try with_reducible rfl)
  try simp only [Act.put, List.setIfInBounds_toArray, List.set_cons_zero, List.set_cons_succ]
  refine wpAnyH_take (i := 3) (oi := ?oi3) (v := ?v3) ?hi3 (by kernel_rfl) (by kernel_rfl) (by kernel_rfl) (fun _ _ _ h => False.elim h) (Or.inl ⟨?hw3, fun W hW => ?hr3⟩) hS ?rest3
  case hi3 => (simp only [List.getElem?_toArray, List.getElem?_cons_succ, List.getElem?_cons_zero]; rfl)
  case hw3 => rfl
  case hr3 => (go_simp; try with_reducible rfl)
  try simp only [Act.put, List.setIfInBounds_toArray, List.set_cons_zero, List.set_cons_succ]
  refine wpAnyH_take (i := 4) (oi := ?oi4) (v := ?v4) ?hi4 (by kernel_rfl) (by kernel_rfl) (by kernel_rfl) (fun _ _ _ h => False.elim h) (Or.inl ⟨?hw4, fun W hW => ?hr4⟩) hS ?rest4
  case hi4 => (simp only [List.getElem?_toArray, List.getElem?_cons_succ, List.getElem?_cons_zero]; rfl)
  case hw4 => rfl
  case hr4 => (go_simp; try with_reducible rfl)
  try simp only [Act.put, List.setIfInBounds_toArray, List.set_cons_zero, List.set_cons_succ]
  refine wpAnyH_take (i := 5) (oi := ?oi5) (v := ?v5) ?hi5 (by kernel_rfl) (by kernel_rfl) (by kernel_rfl) (fun _ _ _ h => False.elim h) (Or.inl ⟨?hw5, fun W hW => ?hr5⟩) hS ?rest5
  case hi5 => (simp only [List.getElem?_toArray, List.getElem?_cons_succ, List.getElem?_cons_zero]; rfl)
  case hw5 => rfl
  case hr5 => (go_simp; try with_reducible rfl)
  try simp only [Act.put, List.setIfInBounds_toArray, List.set_cons_zero, List.set_cons_succ]
  refine wpAnyH_take (i := 6) (oi := ?oi6) (v := ?v6) ?hi6 (by kernel_rfl) (by kernel_rfl) (by kernel_rfl) (fun _ _ _ h => False.elim h) (Or.inl ⟨?hw6, fun W hW => ?hr6⟩) hS ?rest6
  case hi6 => (simp only [List.getElem?_toArray, List.getElem?_cons_succ, List.getElem?_cons_zero]; rfl)
  case hw6 => rfl
  case hr6 => (have q0 := cellB h10 hW; go_simp; try with_reducible rfl)
  try simp only [Act.put, List.setIfInBounds_toArray, List.set_cons_zero, List.set_cons_succ]
  refine wpAnyH_take (i := 7) (oi := ?oi7) (v := ?v7) ?hi7 (by kernel_rfl) (by kernel_rfl) (by kernel_rfl) (fun _ _ _ h => False.elim h) (Or.inl ⟨?hw7, fun W hW => ?hr7⟩) hS ?rest7
  case hi7 => (simp only [List.getElem?_toArray, List.getElem?_cons_succ, List.getElem?_cons_zero]; rfl)
  case hw7 => rfl
  case hr7 => (have q0 := cellB h13 hW; go_simp; try with_reducible rfl)
  try simp only [Act.put, List.setIfInBounds_toArray, List.set_cons_zero, List.set_cons_succ]
  refine wpAnyH_take (i := 8) (oi := ?oi8) (v := ?v8) ?hi8 (by kernel_rfl) (by kernel_rfl) (by kernel_rfl) (fun _ _ _ h => False.elim h) (Or.inl ⟨?hw8, fun W hW => ?hr8⟩) hS ?rest8
  case hi8 => (simp only [List.getElem?_toArray, List.getElem?_cons_succ, List.getElem?_cons_zero]; rfl)
  case hw8 => rfl
  case hr8 => (go_simp; try with_reducible rfl)
  try simp only [Act.put, List.setIfInBounds_toArray, List.set_cons_zero, List.set_cons_succ]
  refine wpAnyH_take (i := 9) (oi := ?oi9) (v := ?v9) ?hi9 (by kernel_rfl) (by kernel_rfl) (by kernel_rfl) (fun _ _ _ h => False.elim h) (Or.inl ⟨?hw9, fun W hW => ?hr9⟩) hS ?rest9
  case hi9 => (simp only [List.getElem?_toArray, List.getElem?_cons_succ, List.getElem?_cons_zero]; rfl)
  case hw9 => rfl
  case hr9 => (go_simp; try with_reducible rfl)
  try simp only [Act.put, List.setIfInBounds_toArray, List.set_cons_zero, List.set_cons_succ]
  refine wpAnyH_take (i := 10) (oi := ?oi10) (v := ?v10) ?hi10 (by kernel_rfl) (by kernel_rfl) (by kernel_rfl) (fun _ _ _ h => False.elim h) (Or.inl ⟨?hw10, fun W hW => ?hr10⟩) hS ?rest10
  case hi10 => (simp only [List.getElem?_toArray, List.getElem?_cons_succ, List.getElem?_cons_zero]; rfl)
  case hw10 => rfl
  case hr10 => (have q0 := cellB hg hW; go_simp; try with_reducible rfl)
  try simp only [Act.put, List.setIfInBounds_toArray, List.set_cons_zero, List.set_cons_succ]
  refine wpAnyH_take (i := 11) (oi := ?oi11) (v := ?v11) ?hi11 (by kernel_rfl) (by kernel_rfl) (by kernel_rfl) (fun _ _ _ h => False.elim h) (Or.inl ⟨?hw11, fun W hW => ?hr11⟩) hS ?rest11
  case hi11 => (simp only [List.getElem?_toArray, List.getElem?_cons_succ, List.getElem?_cons_zero]; rfl)
  case hw11 => rfl
  case hr11 => (go_simp; try with_reducible rfl)
  try simp only [Act.put, List.setIfInBounds_toArray, List.set_cons_zero, List.set_cons_succ]
  refine wpAnyH_take (i := 12) (oi := ?oi12) (v := ?v12) ?hi12 (by kernel_rfl) (by kernel_rfl) (by kernel_rfl) (fun _ _ _ h => False.elim h) (Or.inl ⟨?hw12, fun W hW => ?hr12⟩) hS ?rest12
  case hi12 => (simp only [List.getElem?_toArray, List.getElem?_cons_succ, List.getElem?_cons_zero]; rfl)
  case hw12 => rfl
  case hr12 => (have q0 := cellB h9 hW; go_simp; try with_reducible rfl)
  try simp only [Act.put, List.setIfInBounds_toArray, List.set_cons_zero, List.set_cons_succ]
  refine wpAnyH_take (i := 13) (oi := ?oi13) (v := ?v13) ?hi13 (by kernel_rfl) (by kernel_rfl) (by kernel_rfl) (fun _ _ _ h => False.elim h) (Or.inl ⟨?hw13, fun W hW => ?hr13⟩) hS ?rest13
  case hi13 => (simp only [List.getElem?_toArray, List.getElem?_cons_succ, List.getElem?_cons_zero]; rfl)
  case hw13 => rfl
  case hr13 => (have q0 := cellB h13 hW; go_simp; try with_reducible rfl)
  try simp only [Act.put, List.setIfInBounds_toArray, List.set_cons_zero, List.set_cons_succ]
  refine wpAnyH_take (i := 14) (oi := ?oi14) (v := ?v14) ?hi14 (by kernel_rfl) (by kernel_rfl) (by kernel_rfl) (fun _ _ _ h => False.elim h) (Or.inl ⟨?hw14, fun W hW => ?hr14⟩) hS ?rest14
  case hi14 => (simp only [List.getElem?_toArray, List.getElem?_cons_succ, List.getElem?_cons_zero]; rfl)
  case hw14 => rfl
  case hr14 => (go_simp; try with_reducible rfl)
  try simp only [Act.put, List.setIfInBounds_toArray, List.set_cons_zero, List.set_cons_succ]
  refine wpAnyH_take (i := 15) (oi := ?oi15) (v := ?v15) ?hi15 (by kernel_rfl) (by kernel_rfl) (by kernel_rfl) (fun _ _ _ h => False.elim h) (Or.inl ⟨?hw15, fun W hW => ?hr15⟩) hS ?rest15
  case hi15 => (simp only [List.getElem?_toArray, List.getElem?_cons_succ, List.getElem?_cons_zero]; rfl)
  case hw15 => rfl
  case hr15 => (have q0 := cellB hs0 hW; have q1 := cellB hs1 hW; have q2 := cellB hs2 hW; have q3 := cellB hs3 hW; go_simp; try with_reducible rfl)
  try simp only [Act.put, List.setIfInBounds_toArray, List.set_cons_zero, List.set_cons_succ]
  refine wpAnyH_ready (rs := [16]) (by kernel_rfl) (by simp) (AllReadyH.cons (o := ?oi16) ?hi16 (fun K hK => ?step16) AllReadyH.nil)
  case hi16 => (simp only [List.getElem?_toArray, List.getElem?_cons_succ, List.getElem?_cons_zero]; rfl)
  go_simp
  go_at_call 42
  refine (wordsOf_any _ x _ _ (HT.out.below hS) (HP.out.below hS) HK.out HN1.out HN2.out (HF.out.below hS)).mono ?_
  rintro e wA ⟨v16, rfl, hv16, hb16⟩
  obtain ⟨A6, c6, rfl, -⟩ := hv16.open_
  go_wp2_with fail
  refine hK.out _ _ (then_ hS hb16) (fun hS => ?_)
  clear hK K
  try simp only [Act.put, List.setIfInBounds_toArray, List.set_cons_zero, List.set_cons_succ]
  refine wpAnyH_take (i := 17) (oi := ?oi17) (v := ?v17) ?hi17 (by kernel_rfl) (by kernel_rfl) (by kernel_rfl) (fun _ _ _ h => False.elim h) (Or.inl ⟨?hw17, fun W hW => ?hr17⟩) hS ?rest17
  case hi17 => (simp only [List.getElem?_toArray, List.getElem?_cons_succ, List.getElem?_cons_zero]; rfl)
  case hw17 => rfl
  case hr17 => (go_simp; try with_reducible rfl)
  try simp only [Act.put, List.setIfInBounds_toArray, List.set_cons_zero, List.set_cons_succ]
  refine wpAnyH_take (i := 18) (oi := ?oi18) (v := ?v18) ?hi18 (by kernel_rfl) (by kernel_rfl) (by kernel_rfl) (fun _ _ _ h => False.elim h) (Or.inl ⟨?hw18, fun W hW => ?hr18⟩) hS ?rest18
  case hi18 => (simp only [List.getElem?_toArray, List.getElem?_cons_succ, List.getElem?_cons_zero]; rfl)
  case hw18 => rfl
  case hr18 => (have q1 := HB.out; have q2 : ((ng : Int) == ((wordsS x).length : Int)) = b := (beq_cast ng (wordsS x).length).trans q1; go_simp; try with_reducible rfl)
  try simp only [Act.put, List.setIfInBounds_toArray, List.set_cons_zero, List.set_cons_succ]
  refine wpAnyH_take (i := 19) (oi := ?oi19) (v := ?v19) ?hi19 (by kernel_rfl) (by kernel_rfl) (by kernel_rfl) (fun _ _ _ h => False.elim h) (Or.inl ⟨?hw19, fun W hW => ?hr19⟩) hS ?rest19
  case hi19 => (simp only [List.getElem?_toArray, List.getElem?_cons_succ, List.getElem?_cons_zero]; rfl)
  case hw19 => rfl
  case hr19 => (go_simp; try with_reducible rfl)
  try simp only [Act.put, List.setIfInBounds_toArray, List.set_cons_zero, List.set_cons_succ]
  refine wpAnyH_done (by kernel_rfl) ?_ _
  exact ⟨_, _, _, _, _, _, _, _, _, _, _, _, _, _, _, _, _, _, _, rfl, hS⟩
set_option maxRecDepth 100000 in
set_option maxHeartbeats 16000000 in
theorem doc_reg18_off {l m : Nat} {wr : World} {g9 g10 g13 n p cL : Nat} {x0 x1 x2 x3 x4 x5 x6 x7 x8 x11 x12 x14 x15 x16 x17 x18 x19 x20 x21 x22 x23 x24 x25 x26 x27 x28 x29 x30 x31 x32 x33 x34 x35 x36 x37 x38 x39 x40 x41 x42 x43 x44 x45 x46 x47 x48 x49 x50 x51 x52 x53 x54 x55 x56 x57 x58 x59 x60 x61 x62 x63 x64 x65 x66 x67 x68 x69 x70 x71 x72 x73 x74 x75 x76 x77 x78 x79 x80 x81 x82 x83 x84 x85 x86 x87 x88 x89 x90 x91 x92 x93 x94 x95 x96 x97 x98 x99 x100 x101 x102 x103 x104 x105 x106 x107 x108 x109 x110 x111 : Value} {Q : Exit → Act → World → Prop} {Av : Option Addr} (h9 : wr.cell? ⟨g9, 0, none⟩ = some (.slice Av n cL)) (h13 : wr.cell? ⟨g13, 0, none⟩ = some (.int .i64 p)) (hp : n ≤ p)
    (hQ : ∀ (y69 y70 y71 y72 y73 y74 y75 y76 y77 y78 y79 y80 y81 y82 y83 y84 y85 y86 y87 : Value) (W' : World), Below wr.heap.size wr W' → Q .normal { tmps := #[x0, x1, x2, x3, x4, x5, x6, x7, x8, .pointer (some ⟨g9, 0, none⟩), .pointer (some ⟨g10, 0, none⟩), x11, x12, .pointer (some ⟨g13, 0, none⟩), x14, x15, x16, x17, x18, x19, x20, x21, x22, x23, x24, x25, x26, x27, x28, x29, x30, x31, x32, x33, x34, x35, x36, x37, x38, x39, x40, x41, x42, x43, x44, x45, x46, x47, x48, x49, x50, x51, x52, x53, x54, x55, x56, x57, x58, x59, x60, x61, x62, x63, x64, x65, x66, x67, x68, y69, y70, y71, y72, y73, y74, y75, y76, y77, y78, y79, y80, y81, y82, y83, y84, y85, y86, y87, .bool false, x89, x90, x91, x92, x93, x94, x95, x96, x97, x98, x99, x100, x101, x102, x103, x104, x105, x106, x107, x108, x109, x110, x111], defers := [] } W') :
    (regC 18 (Tryd.f19.body.getD .skip)).wpIn (Fence.wide.inRound l) m Tryd.prog Q { tmps := #[x0, x1, x2, x3, x4, x5, x6, x7, x8, .pointer (some ⟨g9, 0, none⟩), .pointer (some ⟨g10, 0, none⟩), x11, x12, .pointer (some ⟨g13, 0, none⟩), x14, x15, x16, x17, x18, x19, x20, x21, x22, x23, x24, x25, x26, x27, x28, x29, x30, x31, x32, x33, x34, x35, x36, x37, x38, x39, x40, x41, x42, x43, x44, x45, x46, x47, x48, x49, x50, x51, x52, x53, x54, x55, x56, x57, x58, x59, x60, x61, x62, x63, x64, x65, x66, x67, x68, x69, x70, x71, x72, x73, x74, x75, x76, x77, x78, x79, x80, x81, x82, x83, x84, x85, x86, x87, x88, x89, x90, x91, x92, x93, x94, x95, x96, x97, x98, x99, x100, x101, x102, x103, x104, x105, x106, x107, x108, x109, x110, x111], defers := [] } wr := by
  have e1 : decide ((p : Int) < (n : Int)) = false := decide_eq_false (by omega)
  have e2 : decide (p < n) = false := decide_eq_false (by omega)
  refine wpIn_mono (Q := normalOnly fun a W' => ∃ y69 y70 y71 y72 y73 y74 y75 y76 y77 y78 y79 y80 y81 y82 y83 y84 y85 y86 y87, a = { tmps := #[x0, x1, x2, x3, x4, x5, x6, x7, x8, .pointer (some ⟨g9, 0, none⟩), .pointer (some ⟨g10, 0, none⟩), x11, x12, .pointer (some ⟨g13, 0, none⟩), x14, x15, x16, x17, x18, x19, x20, x21, x22, x23, x24, x25, x26, x27, x28, x29, x30, x31, x32, x33, x34, x35, x36, x37, x38, x39, x40, x41, x42, x43, x44, x45, x46, x47, x48, x49, x50, x51, x52, x53, x54, x55, x56, x57, x58, x59, x60, x61, x62, x63, x64, x65, x66, x67, x68, y69, y70, y71, y72, y73, y74, y75, y76, y77, y78, y79, y80, y81, y82, y83, y84, y85, y86, y87, .bool false, x89, x90, x91, x92, x93, x94, x95, x96, x97, x98, x99, x100, x101, x102, x103, x104, x105, x106, x107, x108, x109, x110, x111], defers := [] } ∧ Below wr.heap.size wr W') ?main ?post
  case post =>
    intro e a W' h
    cases e with
    | normal =>
      obtain ⟨y69, y70, y71, y72, y73, y74, y75, y76, y77, y78, y79, y80, y81, y82, y83, y84, y85, y86, y87, rfl, hb⟩ := h
      exact hQ _ _ _ _ _ _ _ _ _ _ _ _ _ _ _ _ _ _ _ W' hb
    | _ => exact False.elim h
  clear hQ
  show Code.wpIn _ _ _ (Code.region 18 _ _) _ _ _
  refine wpIn_region_held (Below wr.heap.size wr) (by kernel_rfl) (by kernel_rfl) normalOnly_out (Below.refl _ _).drew (fun hS => ?_)
  refine wpAnyH_take (i := 0) (oi := ?oi0) (v := ?v0) ?hi0 (by kernel_rfl) (by kernel_rfl) (by kernel_rfl) (fun _ _ _ h => False.elim h) (Or.inl ⟨?hw0, fun W hW => ?hr0⟩) hS ?rest0
  case hi0 => (simp only [List.getElem?_toArray, List.getElem?_cons_zero]; rfl)
  case hw0 => rfl
  case hr0 => (have q0 := cellB h13 hW; go_simp; try with_reducible rfl)
  try simp only [Act.put, List.setIfInBounds_toArray, List.set_cons_zero, List.set_cons_succ]
  refine wpAnyH_take (i := 1) (oi := ?oi1) (v := ?v1) ?hi1 (by kernel_rfl) (by kernel_rfl) (by kernel_rfl) (fun _ _ _ h => False.elim h) (Or.inl ⟨?hw1, fun W hW => ?hr1⟩) hS ?rest1
  case hi1 => (simp only [List.getElem?_toArray, List.getElem?_cons_succ, List.getElem?_cons_zero]; rfl)
  case hw1 => rfl
  case hr1 => (have q0 := cellB h9 hW; go_simp; try with_reducible rfl)
  try simp only [Act.put, List.setIfInBounds_toArray, List.set_cons_zero, List.set_cons_succ]
  refine wpAnyH_take (i := 2) (oi := ?oi2) (v := ?v2) ?hi2 (by kernel_rfl) (by kernel_rfl) (by kernel_rfl) (fun _ _ _ h => False.elim h) (Or.inl ⟨?hw2, fun W hW => ?hr2⟩) hS ?rest2
  case hi2 => (simp only [List.getElem?_toArray, List.getElem?_cons_succ, List.getElem?_cons_zero]; rfl)
  case hw2 => rfl
  case hr2 => (go_simp; try with_reducible rfl)
  try simp only [Act.put, List.setIfInBounds_toArray, List.set_cons_zero, List.set_cons_succ]
  refine wpAnyH_take (i := 3) (oi := ?oi3) (v := ?v3) ?hi3 (by kernel_rfl) (by kernel_rfl) (by kernel_rfl) (fun _ _ _ h => False.elim h) (Or.inl ⟨?hw3, fun W hW => ?hr3⟩) hS ?rest3
  case hi3 => (simp only [List.getElem?_toArray, List.getElem?_cons_succ, List.getElem?_cons_zero]; rfl)
  case hw3 => rfl
  case hr3 => (go_simp; try with_reducible rfl)
  try simp only [Act.put, List.setIfInBounds_toArray, List.set_cons_zero, List.set_cons_succ]
  refine wpAnyH_take (i := 4) (oi := ?oi4) (v := ?v4) ?hi4 (by kernel_rfl) (by kernel_rfl) (by kernel_rfl) (fun _ _ _ h => False.elim h) (Or.inl ⟨?hw4, fun W hW => ?hr4⟩) hS ?rest4
  case hi4 => (simp only [List.getElem?_toArray, List.getElem?_cons_succ, List.getElem?_cons_zero]; rfl)
  case hw4 => rfl
  case hr4 => (go_simp; try with_reducible rfl)
  try simp only [Act.put, List.setIfInBounds_toArray, List.set_cons_zero, List.set_cons_succ]
  refine wpAnyH_take (i := 5) (oi := ?oi5) (v := undef) ?hi5 (by kernel_rfl) (by kernel_rfl) (by kernel_rfl) (fun _ _ _ h => False.elim h) (Or.inr ⟨?hw5, rfl⟩) hS ?rest5
  case hi5 => (simp only [List.getElem?_toArray, List.getElem?_cons_succ, List.getElem?_cons_zero]; rfl)
  case hw5 => rfl
  try simp only [Act.put, List.setIfInBounds_toArray, List.set_cons_zero, List.set_cons_succ]
  refine wpAnyH_take (i := 6) (oi := ?oi6) (v := undef) ?hi6 (by kernel_rfl) (by kernel_rfl) (by kernel_rfl) (fun _ _ _ h => False.elim h) (Or.inr ⟨?hw6, rfl⟩) hS ?rest6
  case hi6 => (simp only [List.getElem?_toArray, List.getElem?_cons_succ, List.getElem?_cons_zero]; rfl)
  case hw6 => rfl
  try simp only [Act.put, List.setIfInBounds_toArray, List.set_cons_zero, List.set_cons_succ]
  refine wpAnyH_take (i := 7) (oi := ?oi7) (v := undef) ?hi7 (by kernel_rfl) (by kernel_rfl) (by kernel_rfl) (fun _ _ _ h => False.elim h) (Or.inr ⟨?hw7, rfl⟩) hS ?rest7
  case hi7 => (simp only [List.getElem?_toArray, List.getElem?_cons_succ, List.getElem?_cons_zero]; rfl)
  case hw7 => rfl
  try simp only [Act.put, List.setIfInBounds_toArray, List.set_cons_zero, List.set_cons_succ]
  refine wpAnyH_take (i := 8) (oi := ?oi8) (v := undef) ?hi8 (by kernel_rfl) (by kernel_rfl) (by kernel_rfl) (fun _ _ _ h => False.elim h) (Or.inr ⟨?hw8, rfl⟩) hS ?rest8
  case hi8 => (simp only [List.getElem?_toArray, List.getElem?_cons_succ, List.getElem?_cons_zero]; rfl)
  case hw8 => rfl
  try simp only [Act.put, List.setIfInBounds_toArray, List.set_cons_zero, List.set_cons_succ]
  refine wpAnyH_take (i := 9) (oi := ?oi9) (v := undef) ?hi9 (by kernel_rfl) (by kernel_rfl) (by kernel_rfl) (fun _ _ _ h => False.elim h) (Or.inr ⟨?hw9, rfl⟩) hS ?rest9
  case hi9 => (simp only [List.getElem?_toArray, List.getElem?_cons_succ, List.getElem?_cons_zero]; rfl)
  case hw9 => rfl
  try simp only [Act.put, List.setIfInBounds_toArray, List.set_cons_zero, List.set_cons_succ]
  refine wpAnyH_take (i := 10) (oi := ?oi10) (v := undef) ?hi10 (by kernel_rfl) (by kernel_rfl) (by kernel_rfl) (fun _ _ _ h => False.elim h) (Or.inr ⟨?hw10, rfl⟩) hS ?rest10
  case hi10 => (simp only [List.getElem?_toArray, List.getElem?_cons_succ, List.getElem?_cons_zero]; rfl)
  case hw10 => rfl
  try simp only [Act.put, List.setIfInBounds_toArray, List.set_cons_zero, List.set_cons_succ]
  refine wpAnyH_take (i := 11) (oi := ?oi11) (v := undef) ?hi11 (by kernel_rfl) (by kernel_rfl) (by kernel_rfl) (fun _ _ _ h => False.elim h) (Or.inr ⟨?hw11, rfl⟩) hS ?rest11
  case hi11 => (simp only [List.getElem?_toArray, List.getElem?_cons_succ, List.getElem?_cons_zero]; rfl)
  case hw11 => rfl
  try simp only [Act.put, List.setIfInBounds_toArray, List.set_cons_zero, List.set_cons_succ]
  refine wpAnyH_take (i := 12) (oi := ?oi12) (v := undef) ?hi12 (by kernel_rfl) (by kernel_rfl) (by kernel_rfl) (fun _ _ _ h => False.elim h) (Or.inr ⟨?hw12, rfl⟩) hS ?rest12
  case hi12 => (simp only [List.getElem?_toArray, List.getElem?_cons_succ, List.getElem?_cons_zero]; rfl)
  case hw12 => rfl
  try simp only [Act.put, List.setIfInBounds_toArray, List.set_cons_zero, List.set_cons_succ]
  refine wpAnyH_take (i := 13) (oi := ?oi13) (v := undef) ?hi13 (by kernel_rfl) (by kernel_rfl) (by kernel_rfl) (fun _ _ _ h => False.elim h) (Or.inr ⟨?hw13, rfl⟩) hS ?rest13
  case hi13 => (simp only [List.getElem?_toArray, List.getElem?_cons_succ, List.getElem?_cons_zero]; rfl)
  case hw13 => rfl
  try simp only [Act.put, List.setIfInBounds_toArray, List.set_cons_zero, List.set_cons_succ]
  refine wpAnyH_take (i := 14) (oi := ?oi14) (v := undef) ?hi14 (by kernel_rfl) (by kernel_rfl) (by kernel_rfl) (fun _ _ _ h => False.elim h) (Or.inr ⟨?hw14, rfl⟩) hS ?rest14
  case hi14 => (simp only [List.getElem?_toArray, List.getElem?_cons_succ, List.getElem?_cons_zero]; rfl)
  case hw14 => rfl
  try simp only [Act.put, List.setIfInBounds_toArray, List.set_cons_zero, List.set_cons_succ]
  refine wpAnyH_take (i := 15) (oi := ?oi15) (v := undef) ?hi15 (by kernel_rfl) (by kernel_rfl) (by kernel_rfl) (fun _ _ _ h => False.elim h) (Or.inr ⟨?hw15, rfl⟩) hS ?rest15
  case hi15 => (simp only [List.getElem?_toArray, List.getElem?_cons_succ, List.getElem?_cons_zero]; rfl)
  case hw15 => rfl
  try simp only [Act.put, List.setIfInBounds_toArray, List.set_cons_zero, List.set_cons_succ]
  refine wpAnyH_take (i := 16) (oi := ?oi16) (v := undef) ?hi16 (by kernel_rfl) (by kernel_rfl) (by kernel_rfl) (fun _ _ _ h => False.elim h) (Or.inr ⟨?hw16, rfl⟩) hS ?rest16
  case hi16 => (simp only [List.getElem?_toArray, List.getElem?_cons_succ, List.getElem?_cons_zero]; rfl)
  case hw16 => rfl
  try simp only [Act.put, List.setIfInBounds_toArray, List.set_cons_zero, List.set_cons_succ]
  refine wpAnyH_take (i := 17) (oi := ?oi17) (v := undef) ?hi17 (by kernel_rfl) (by kernel_rfl) (by kernel_rfl) (fun _ _ _ h => False.elim h) (Or.inr ⟨?hw17, rfl⟩) hS ?rest17
  case hi17 => (simp only [List.getElem?_toArray, List.getElem?_cons_succ, List.getElem?_cons_zero]; rfl)
  case hw17 => rfl
  try simp only [Act.put, List.setIfInBounds_toArray, List.set_cons_zero, List.set_cons_succ]
  refine wpAnyH_take (i := 18) (oi := ?oi18) (v := undef) ?hi18 (by kernel_rfl) (by kernel_rfl) (by kernel_rfl) (fun _ _ _ h => False.elim h) (Or.inr ⟨?hw18, rfl⟩) hS ?rest18
  case hi18 => (simp only [List.getElem?_toArray, List.getElem?_cons_succ, List.getElem?_cons_zero]; rfl)
  case hw18 => rfl
  try simp only [Act.put, List.setIfInBounds_toArray, List.set_cons_zero, List.set_cons_succ]
  refine wpAnyH_take (i := 19) (oi := ?oi19) (v := ?v19) ?hi19 (by kernel_rfl) (by kernel_rfl) (by kernel_rfl) (fun _ _ _ h => False.elim h) (Or.inl ⟨?hw19, fun W hW => ?hr19⟩) hS ?rest19
  case hi19 => (simp only [List.getElem?_toArray, List.getElem?_cons_succ, List.getElem?_cons_zero]; rfl)
  case hw19 => rfl
  case hr19 => (go_simp; try with_reducible rfl)
  try simp only [Act.put, List.setIfInBounds_toArray, List.set_cons_zero, List.set_cons_succ]
  refine wpAnyH_done (by kernel_rfl) ?_ _
  exact ⟨_, _, _, _, _, _, _, _, _, _, _, _, _, _, _, _, _, _, _, rfl, hS⟩
set_option maxRecDepth 100000 in
set_option maxHeartbeats 16000000 in
theorem doc_reg22 {l m : Nat} {wr : World} {g9 g10 g13 n p cP bP ng cg base : Nat} {Ag : Option Addr} {u : List UInt8} {gs : List (List UInt8)} {x0 x1 x2 x3 x4 x5 x6 x7 x8 x11 x12 x15 x16 x17 x18 x19 x20 x21 x22 x23 x24 x25 x26 x27 x28 x29 x30 x31 x32 x33 x34 x35 x36 x37 x38 x39 x40 x41 x42 x43 x44 x45 x46 x47 x48 x49 x50 x51 x52 x53 x54 x55 x56 x57 x58 x59 x60 x61 x62 x63 x64 x65 x66 x67 x68 x69 x70 x71 x72 x73 x74 x75 x76 x77 x78 x79 x80 x81 x82 x83 x84 x85 x86 x87 x88 x89 x90 x91 x92 x93 x94 x95 x96 x97 x98 x99 x100 x101 x102 x103 x104 x105 x106 x107 x108 x109 x110 x111 : Value} {Q : Exit → Act → World → Prop} (h10 : wr.cell? ⟨g10, 0, none⟩ = some (.slice (some ⟨bP, 0, none⟩) n cP)) (h13 : wr.cell? ⟨g13, 0, none⟩ = some (.int .i64 p)) (hg : wr.cell? ⟨bP, p * 5 + 4, none⟩ = some (.slice Ag ng cg)) (hp : p < n) (_hcP : n ≤ cP) (_hn : n ≤ maxLen) (hfr : wr.frozen? ⟨bP, p * 5 + 4, none⟩ = false)
    (hO : wr.ownsRow base 9 1 (.slice Ag ng cg) ng (strC gs)) (hbase : base ≤ wr.heap.size) (hng : ng ≤ 1000000)
    (e13 : ∀ k, (Value.slice Ag ng cg).ownBlock = some k → k ≠ g13) (e10 : ∀ k, (Value.slice Ag ng cg).ownBlock = some k → k ≠ g10) (eP : ∀ k, (Value.slice Ag ng cg).ownBlock = some k → k ≠ bP) (d13 : bP ≠ g13) (d10 : bP ≠ g10)
    (hQ : ∀ (y97 y98 y99 y100 y101 y102 y103 y104 y105 y106 y107 y108 y109 y110 : Value) (g cap : Nat) (W2 : World), W2.ownsRow base 9 1 (.slice (some ⟨g, 0, none⟩) (ng + 1) cap) (ng + 1) (strC gs ++ [.string ⟨u.toArray⟩]) → (wr.drew.alloc (.cells #[.string ⟨u.toArray⟩] 9)).grownBy W2 (Value.slice Ag ng cg).ownBlock → ((Value.slice Ag ng cg).ownBlock = some g ∨ g = wr.heap.size + 1) → g < W2.heap.size →
      Q .normal { tmps := #[x0, x1, x2, x3, x4, x5, x6, x7, x8, .pointer (some ⟨g9, 0, none⟩), .pointer (some ⟨g10, 0, none⟩), x11, x12, .pointer (some ⟨g13, 0, none⟩), .string ⟨u.toArray⟩, x15, x16, x17, x18, x19, x20, x21, x22, x23, x24, x25, x26, x27, x28, x29, x30, x31, x32, x33, x34, x35, x36, x37, x38, x39, x40, x41, x42, x43, x44, x45, x46, x47, x48, x49, x50, x51, x52, x53, x54, x55, x56, x57, x58, x59, x60, x61, x62, x63, x64, x65, x66, x67, x68, x69, x70, x71, x72, x73, x74, x75, x76, x77, x78, x79, x80, x81, x82, x83, x84, x85, x86, x87, x88, x89, x90, x91, x92, x93, x94, x95, x96, y97, y98, y99, y100, y101, y102, y103, y104, y105, y106, y107, y108, y109, y110, x111], defers := [] } (W2.setCell ⟨bP, p * 5 + 4, none⟩ (.slice (some ⟨g, 0, none⟩) (ng + 1) cap))) :
    (regC 22 (Tryd.f19.body.getD .skip)).wpIn (Fence.wide.inRound l) m Tryd.prog Q { tmps := #[x0, x1, x2, x3, x4, x5, x6, x7, x8, .pointer (some ⟨g9, 0, none⟩), .pointer (some ⟨g10, 0, none⟩), x11, x12, .pointer (some ⟨g13, 0, none⟩), .string ⟨u.toArray⟩, x15, x16, x17, x18, x19, x20, x21, x22, x23, x24, x25, x26, x27, x28, x29, x30, x31, x32, x33, x34, x35, x36, x37, x38, x39, x40, x41, x42, x43, x44, x45, x46, x47, x48, x49, x50, x51, x52, x53, x54, x55, x56, x57, x58, x59, x60, x61, x62, x63, x64, x65, x66, x67, x68, x69, x70, x71, x72, x73, x74, x75, x76, x77, x78, x79, x80, x81, x82, x83, x84, x85, x86, x87, x88, x89, x90, x91, x92, x93, x94, x95, x96, x97, x98, x99, x100, x101, x102, x103, x104, x105, x106, x107, x108, x109, x110, x111], defers := [] } wr := by
  unfold maxLen at _hn
  obtain ⟨i0, hi, hj0, hj1, hj2⟩ := info_parts infoStr
  refine wpIn_mono (Q := normalOnly fun a W' => ∃ (y97 y98 y99 y100 y101 y102 y103 y104 y105 y106 y107 y108 y109 y110 : Value) (g cap : Nat) (W2 : World), a = { tmps := #[x0, x1, x2, x3, x4, x5, x6, x7, x8, .pointer (some ⟨g9, 0, none⟩), .pointer (some ⟨g10, 0, none⟩), x11, x12, .pointer (some ⟨g13, 0, none⟩), .string ⟨u.toArray⟩, x15, x16, x17, x18, x19, x20, x21, x22, x23, x24, x25, x26, x27, x28, x29, x30, x31, x32, x33, x34, x35, x36, x37, x38, x39, x40, x41, x42, x43, x44, x45, x46, x47, x48, x49, x50, x51, x52, x53, x54, x55, x56, x57, x58, x59, x60, x61, x62, x63, x64, x65, x66, x67, x68, x69, x70, x71, x72, x73, x74, x75, x76, x77, x78, x79, x80, x81, x82, x83, x84, x85, x86, x87, x88, x89, x90, x91, x92, x93, x94, x95, x96, y97, y98, y99, y100, y101, y102, y103, y104, y105, y106, y107, y108, y109, y110, x111], defers := [] } ∧ W' = W2.setCell ⟨bP, p * 5 + 4, none⟩ (.slice (some ⟨g, 0, none⟩) (ng + 1) cap) ∧ W2.ownsRow base 9 1 (.slice (some ⟨g, 0, none⟩) (ng + 1) cap) (ng + 1) (strC gs ++ [.string ⟨u.toArray⟩]) ∧ (wr.drew.alloc (.cells #[.string ⟨u.toArray⟩] 9)).grownBy W2 (Value.slice Ag ng cg).ownBlock ∧ ((Value.slice Ag ng cg).ownBlock = some g ∨ g = wr.heap.size + 1) ∧ g < W2.heap.size) ?main ?post
  case post =>
    intro e a W' h
    cases e with
    | normal =>
      obtain ⟨y97, y98, y99, y100, y101, y102, y103, y104, y105, y106, y107, y108, y109, y110, g, cap, W2, rfl, rfl, h1, h2, h3, h4⟩ := h
      exact hQ _ _ _ _ _ _ _ _ _ _ _ _ _ _ g cap W2 h1 h2 h3 h4
    | _ => exact False.elim h
  clear hQ
  have HO := Lib.hid hO
  have HZ := Lib.hid hfr
  have HL := Lib.hid (And.intro (cell_lt h13) (And.intro (cell_lt h10) (cell_lt hg)))
  clear hO hfr
  dsimp only at HL
  show Code.wpIn _ _ _ (Code.region 22 _ _) _ _ _
  refine wpIn_region_held (fun W => W.cell? ⟨g13, 0, none⟩ = some (.int .i64 p) ∧ W.cell? ⟨g10, 0, none⟩ = some (.slice (some ⟨bP, 0, none⟩) n cP)) (by kernel_rfl) (by kernel_rfl) normalOnly_out ⟨h13, h10⟩ (fun hS => ?_)
  refine wpAnyH_take (i := 0) (oi := ?oi0) (v := ?v0) ?hi0 (by kernel_rfl) (by kernel_rfl) (by kernel_rfl) (fun _ _ _ h => False.elim h) (Or.inl ⟨?hw0, fun W hW => ?hr0⟩) hS ?rest0
  case hi0 => (simp only [List.getElem?_toArray, List.getElem?_cons_zero]; rfl)
  case hw0 => rfl
  case hr0 => (go_simp; try with_reducible rfl)
  try simp only [Act.put, List.setIfInBounds_toArray, List.set_cons_zero, List.set_cons_succ]
  refine wpAnyH_take (i := 1) (oi := ?oi1) (v := ?v1) ?hi1 (by kernel_rfl) (by kernel_rfl) (by kernel_rfl) (fun _ _ _ h => False.elim h) (Or.inl ⟨?hw1, fun W hW => ?hr1⟩) hS ?rest1
  case hi1 => (simp only [List.getElem?_toArray, List.getElem?_cons_succ, List.getElem?_cons_zero]; rfl)
  case hw1 => rfl
  case hr1 => (have q := hW.2; go_simp; try with_reducible rfl)
  try simp only [Act.put, List.setIfInBounds_toArray, List.set_cons_zero, List.set_cons_succ]
  refine wpAnyH_take (i := 2) (oi := ?oi2) (v := ?v2) ?hi2 (by kernel_rfl) (by kernel_rfl) (by kernel_rfl) (fun _ _ _ h => False.elim h) (Or.inl ⟨?hw2, fun W hW => ?hr2⟩) hS ?rest2
  case hi2 => (simp only [List.getElem?_toArray, List.getElem?_cons_succ, List.getElem?_cons_zero]; rfl)
  case hw2 => rfl
  case hr2 => (have q := hW.1; go_simp; try with_reducible rfl)
  try simp only [Act.put, List.setIfInBounds_toArray, List.set_cons_zero, List.set_cons_succ]
  refine wpAnyH_take (i := 3) (oi := ?oi3) (v := ?v3) ?hi3 (by kernel_rfl) (by kernel_rfl) (by kernel_rfl) (fun _ _ _ h => False.elim h) (Or.inl ⟨?hw3, fun W hW => ?hr3⟩) hS ?rest3
  case hi3 => (simp only [List.getElem?_toArray, List.getElem?_cons_succ, List.getElem?_cons_zero]; rfl)
  case hw3 => rfl
  case hr3 => (go_simp; try with_reducible rfl)
  try simp only [Act.put, List.setIfInBounds_toArray, List.set_cons_zero, List.set_cons_succ]
  refine wpAnyH_take (i := 4) (oi := ?oi4) (v := ?v4) ?hi4 (by kernel_rfl) (by kernel_rfl) (by kernel_rfl) (fun _ _ _ h => False.elim h) (Or.inl ⟨?hw4, fun W hW => ?hr4⟩) hS ?rest4
  case hi4 => (simp only [List.getElem?_toArray, List.getElem?_cons_succ, List.getElem?_cons_zero]; rfl)
  case hw4 => rfl
  case hr4 => (have q := hW.2; go_simp; try with_reducible rfl)
  try simp only [Act.put, List.setIfInBounds_toArray, List.set_cons_zero, List.set_cons_succ]
  refine wpAnyH_take (i := 5) (oi := ?oi5) (v := ?v5) ?hi5 (by kernel_rfl) (by kernel_rfl) (by kernel_rfl) (fun _ _ _ h => False.elim h) (Or.inl ⟨?hw5, fun W hW => ?hr5⟩) hS ?rest5
  case hi5 => (simp only [List.getElem?_toArray, List.getElem?_cons_succ, List.getElem?_cons_zero]; rfl)
  case hw5 => rfl
  case hr5 => (have q := hW.1; go_simp; try with_reducible rfl)
  try simp only [Act.put, List.setIfInBounds_toArray, List.set_cons_zero, List.set_cons_succ]
  refine wpAnyH_take (i := 6) (oi := ?oi6) (v := ?v6) ?hi6 (by kernel_rfl) (by kernel_rfl) (by kernel_rfl) (fun _ _ _ h => False.elim h) (Or.inl ⟨?hw6, fun W hW => ?hr6⟩) hS ?rest6
  case hi6 => (simp only [List.getElem?_toArray, List.getElem?_cons_succ, List.getElem?_cons_zero]; rfl)
  case hw6 => rfl
  case hr6 => (go_simp; try with_reducible rfl)
  try simp only [Act.put, List.setIfInBounds_toArray, List.set_cons_zero, List.set_cons_succ]
  refine wpAnyH_take (i := 7) (oi := ?oi7) (v := ?v7) ?hi7 (by kernel_rfl) (by kernel_rfl) (by kernel_rfl) (fun _ _ _ h => False.elim h) (Or.inl ⟨?hw7, fun W hW => ?hr7⟩) hS ?rest7
  case hi7 => (simp only [List.getElem?_toArray, List.getElem?_cons_succ, List.getElem?_cons_zero]; rfl)
  case hw7 => rfl
  case hr7 => (go_simp; try with_reducible rfl)
  try simp only [Act.put, List.setIfInBounds_toArray, List.set_cons_zero, List.set_cons_succ]
  refine wpAnyH_take (i := 9) (oi := ?oi9) (v := ?v9) ?hi9 (by kernel_rfl) (by kernel_rfl) (by kernel_rfl) (fun _ _ _ h => False.elim h) (Or.inl ⟨?hw9, fun W hW => ?hr9⟩) hS ?rest9
  case hi9 => (simp only [List.getElem?_toArray, List.getElem?_cons_succ, List.getElem?_cons_zero]; rfl)
  case hw9 => rfl
  case hr9 => (go_simp; try with_reducible rfl)
  try simp only [Act.put, List.setIfInBounds_toArray, List.set_cons_zero, List.set_cons_succ]
  refine wpAnyH_ready (rs := [8, 10]) (by kernel_rfl) (by simp) (AllReadyH.cons (o := ?oi8) ?hi8 (fun K hK => ?step8) (AllReadyH.cons (o := ?oi10) ?hi10 (fun K hK => ?step10) AllReadyH.nil))
  case hi8 => (simp only [List.getElem?_toArray, List.getElem?_cons_succ, List.getElem?_cons_zero]; rfl)
  case hi10 => (simp only [List.getElem?_toArray, List.getElem?_cons_succ, List.getElem?_cons_zero]; rfl)
  case step8 =>
    have q := hg
    go_simp
    refine hK.out _ _ hS (fun hS => ?_)
    clear hK K
    try simp only [Act.put, List.setIfInBounds_toArray, List.set_cons_zero, List.set_cons_succ]
    refine wpAnyH_ready (rs := [10]) (by kernel_rfl) (by simp) (AllReadyH.cons (o := ?oi10a) ?hi10a (fun K hK => ?step10a) AllReadyH.nil)
    case hi10a => (simp only [List.getElem?_toArray, List.getElem?_cons_succ, List.getElem?_cons_zero]; rfl)
    go_simp
    refine hK.out _ _ ⟨(cell_alloc_far HL.out.1).trans hS.1, (cell_alloc_far HL.out.2.1).trans hS.2⟩ (fun hS => ?_)
    clear hK K
    try simp only [Act.put, List.setIfInBounds_toArray, List.set_cons_zero, List.set_cons_succ]
    refine wpAnyH_ready (rs := [11]) (by kernel_rfl) (by simp) (AllReadyH.cons (o := ?oi11a) ?hi11a (fun K hK => ?step11a) AllReadyH.nil)
    case hi11a => (simp only [List.getElem?_toArray, List.getElem?_cons_succ, List.getElem?_cons_zero]; rfl)
    refine step_append_lies _ (by rfl) (.tmp 105) (.tmp 107) 22 (by rfl) base 9 i0 (.string ⟨#[]⟩) 1 16 Tryd.underlying22 hi hj0 hj1 hj2 rfl (by decide) (.slice Ag ng cg) ng (strC gs) (by rfl) (own_below HO.out (new_ (Below.refl _ _).drew _)) ⟨wr.heap.size, 0, none⟩ 1 1 [.string ⟨u.toArray⟩] (by rfl) rfl (cells_of' _ _ _ _ rfl (by simp)) (by simp [Value.oneCell']) (by omega) (by unfold maxLen; omega) (by omega) (by simp; omega) (wr.heap.size + 1) (by simp) ?_
    intro g cap W2 hown hgrow hat hlt
    refine hK.out _ _ ⟨(hgrow.cell_far ⟨g13, 0, none⟩ (by have := HL.out.1; simp; omega) (fun e => e13 _ e.symm rfl)).trans hS.1, (hgrow.cell_far ⟨g10, 0, none⟩ (by have := HL.out.2.1; simp; omega) (fun e => e10 _ e.symm rfl)).trans hS.2⟩ (fun hS => ?_)
    clear hK K
    try simp only [Act.put, List.setIfInBounds_toArray, List.set_cons_zero, List.set_cons_succ]
    refine wpAnyH_take (i := 12) (oi := ?oi12a) (v := ?v12a) ?hi12a (by kernel_rfl) (by kernel_rfl) (by kernel_rfl) (fun _ _ _ h => False.elim h) (Or.inl ⟨?hw12a, fun W hW => ?hr12a⟩) hS ?rest12a
    case hi12a => (simp only [List.getElem?_toArray, List.getElem?_cons_succ, List.getElem?_cons_zero]; rfl)
    case hw12a => rfl
    case hr12a => (have q1 := hW.1; have q2 := hW.2; go_simp; try with_reducible rfl)
    try simp only [Act.put, List.setIfInBounds_toArray, List.set_cons_zero, List.set_cons_succ]
    refine wpAnyH_take (i := 13) (oi := ?oi13a) (v := ?v13a) ?hi13a (by kernel_rfl) (by kernel_rfl) (by kernel_rfl) (fun _ _ _ h => False.elim h) (Or.inl ⟨?hw13a, fun W hW => ?hr13a⟩) hS ?rest13a
    case hi13a => (simp only [List.getElem?_toArray, List.getElem?_cons_succ, List.getElem?_cons_zero]; rfl)
    case hw13a => rfl
    case hr13a => (go_simp; try with_reducible rfl)
    try simp only [Act.put, List.setIfInBounds_toArray, List.set_cons_zero, List.set_cons_succ]
    refine wpAnyH_ready (rs := [14]) (by kernel_rfl) (by simp) (AllReadyH.cons (o := ?oi14a) ?hi14a (fun K hK => ?step14a) AllReadyH.nil)
    case hi14a => (simp only [List.getElem?_toArray, List.getElem?_cons_succ, List.getElem?_cons_zero]; rfl)
    have hcz : W2.cell? ⟨bP, p * 5 + 4, none⟩ = some (.slice Ag ng cg) := (hgrow.cell_far ⟨bP, p * 5 + 4, none⟩ (by have := HL.out.2.2; simp; omega) (fun e => eP _ e.symm rfl)).trans ((cell_alloc_far (w := wr.drew) HL.out.2.2).trans hg)
    have hfz : W2.frozen? ⟨bP, p * 5 + 4, none⟩ = false := ((hgrow.frozen_far ⟨bP, p * 5 + 4, none⟩ (by have := HL.out.2.2; simp; omega) (fun e => eP _ e.symm rfl)).trans (World.frozen?_of_block ((new_ (Below.refl _ wr).drew _).block _ HL.out.2.2))).trans HZ.out
    go_simp
    refine hK.out _ _ ⟨(cell_set_far (p := ⟨bP, p * 5 + 4, none⟩) _ (Ne.symm d13)).trans hS.1, (cell_set_far (p := ⟨bP, p * 5 + 4, none⟩) _ (Ne.symm d10)).trans hS.2⟩ (fun hS => ?_)
    clear hK K
    try simp only [Act.put, List.setIfInBounds_toArray, List.set_cons_zero, List.set_cons_succ]
    refine wpAnyH_done (by kernel_rfl) ?_ _
    exact ⟨_, _, _, _, _, _, _, _, _, _, _, _, _, _, g, cap, W2, rfl, rfl, hown, hgrow, hat, hlt⟩

  case step10 =>
    go_simp
    refine hK.out _ _ ⟨(cell_alloc_far HL.out.1).trans hS.1, (cell_alloc_far HL.out.2.1).trans hS.2⟩ (fun hS => ?_)
    clear hK K
    try simp only [Act.put, List.setIfInBounds_toArray, List.set_cons_zero, List.set_cons_succ]
    refine wpAnyH_ready (rs := [8]) (by kernel_rfl) (by simp) (AllReadyH.cons (o := ?oi8b) ?hi8b (fun K hK => ?step8b) AllReadyH.nil)
    case hi8b => (simp only [List.getElem?_toArray, List.getElem?_cons_succ, List.getElem?_cons_zero]; rfl)
    have q := (cell_alloc_far (o := .cells #[.string ⟨u.toArray⟩] 9) HL.out.2.2).trans hg
    go_simp
    refine hK.out _ _ hS (fun hS => ?_)
    clear hK K
    try simp only [Act.put, List.setIfInBounds_toArray, List.set_cons_zero, List.set_cons_succ]
    refine wpAnyH_ready (rs := [11]) (by kernel_rfl) (by simp) (AllReadyH.cons (o := ?oi11b) ?hi11b (fun K hK => ?step11b) AllReadyH.nil)
    case hi11b => (simp only [List.getElem?_toArray, List.getElem?_cons_succ, List.getElem?_cons_zero]; rfl)
    refine step_append_lies _ (by rfl) (.tmp 105) (.tmp 107) 22 (by rfl) base 9 i0 (.string ⟨#[]⟩) 1 16 Tryd.underlying22 hi hj0 hj1 hj2 rfl (by decide) (.slice Ag ng cg) ng (strC gs) (by rfl) (own_below HO.out (new_ (Below.refl _ _).drew _)) ⟨wr.heap.size, 0, none⟩ 1 1 [.string ⟨u.toArray⟩] (by rfl) rfl (cells_of' _ _ _ _ rfl (by simp)) (by simp [Value.oneCell']) (by omega) (by unfold maxLen; omega) (by omega) (by simp; omega) (wr.heap.size + 1) (by simp) ?_
    intro g cap W2 hown hgrow hat hlt
    refine hK.out _ _ ⟨(hgrow.cell_far ⟨g13, 0, none⟩ (by have := HL.out.1; simp; omega) (fun e => e13 _ e.symm rfl)).trans hS.1, (hgrow.cell_far ⟨g10, 0, none⟩ (by have := HL.out.2.1; simp; omega) (fun e => e10 _ e.symm rfl)).trans hS.2⟩ (fun hS => ?_)
    clear hK K
    try simp only [Act.put, List.setIfInBounds_toArray, List.set_cons_zero, List.set_cons_succ]
    refine wpAnyH_take (i := 12) (oi := ?oi12b) (v := ?v12b) ?hi12b (by kernel_rfl) (by kernel_rfl) (by kernel_rfl) (fun _ _ _ h => False.elim h) (Or.inl ⟨?hw12b, fun W hW => ?hr12b⟩) hS ?rest12b
    case hi12b => (simp only [List.getElem?_toArray, List.getElem?_cons_succ, List.getElem?_cons_zero]; rfl)
    case hw12b => rfl
    case hr12b => (have q1 := hW.1; have q2 := hW.2; go_simp; try with_reducible rfl)
    try simp only [Act.put, List.setIfInBounds_toArray, List.set_cons_zero, List.set_cons_succ]
    refine wpAnyH_take (i := 13) (oi := ?oi13b) (v := ?v13b) ?hi13b (by kernel_rfl) (by kernel_rfl) (by kernel_rfl) (fun _ _ _ h => False.elim h) (Or.inl ⟨?hw13b, fun W hW => ?hr13b⟩) hS ?rest13b
    case hi13b => (simp only [List.getElem?_toArray, List.getElem?_cons_succ, List.getElem?_cons_zero]; rfl)
    case hw13b => rfl
    case hr13b => (go_simp; try with_reducible rfl)
    try simp only [Act.put, List.setIfInBounds_toArray, List.set_cons_zero, List.set_cons_succ]
    refine wpAnyH_ready (rs := [14]) (by kernel_rfl) (by simp) (AllReadyH.cons (o := ?oi14b) ?hi14b (fun K hK => ?step14b) AllReadyH.nil)
    case hi14b => (simp only [List.getElem?_toArray, List.getElem?_cons_succ, List.getElem?_cons_zero]; rfl)
    have hcz : W2.cell? ⟨bP, p * 5 + 4, none⟩ = some (.slice Ag ng cg) := (hgrow.cell_far ⟨bP, p * 5 + 4, none⟩ (by have := HL.out.2.2; simp; omega) (fun e => eP _ e.symm rfl)).trans ((cell_alloc_far (w := wr.drew) HL.out.2.2).trans hg)
    have hfz : W2.frozen? ⟨bP, p * 5 + 4, none⟩ = false := ((hgrow.frozen_far ⟨bP, p * 5 + 4, none⟩ (by have := HL.out.2.2; simp; omega) (fun e => eP _ e.symm rfl)).trans (World.frozen?_of_block ((new_ (Below.refl _ wr).drew _).block _ HL.out.2.2))).trans HZ.out
    go_simp
    refine hK.out _ _ ⟨(cell_set_far (p := ⟨bP, p * 5 + 4, none⟩) _ (Ne.symm d13)).trans hS.1, (cell_set_far (p := ⟨bP, p * 5 + 4, none⟩) _ (Ne.symm d10)).trans hS.2⟩ (fun hS => ?_)
    clear hK K
    try simp only [Act.put, List.setIfInBounds_toArray, List.set_cons_zero, List.set_cons_succ]
    refine wpAnyH_done (by kernel_rfl) ?_ _
    exact ⟨_, _, _, _, _, _, _, _, _, _, _, _, _, _, g, cap, W2, rfl, rfl, hown, hgrow, hat, hlt⟩
end Go.Proofs.YtpmbfcogkoiogaaDoor
end
section
namespace Go.Proofs.YtpmbfcogkoiogaaDoor
open Go.RowKit
set_option maxRecDepth 100000 in
set_option maxHeartbeats 16000000 in
theorem refdoc_app {W2 : World} {XB bb oo k fr nt ct c at_ : Nat} {A : Option Addr} {l : List (List UInt8)} {u text : List UInt8} {rw_ : Array Value} {x1 x2 x3 x4 x6 x7 x8 x9 x10 x11 x14 x16 x17 x18 x19 x20 x21 x22 x23 x24 x25 x26 x27 x28 x29 x30 x31 x32 x33 x34 x35 x36 x37 x38 x39 x40 x41 x42 x43 x44 x45 x46 x47 x48 x49 x50 x51 x52 x53 x54 x55 x56 x57 x58 x59 x60 x61 x62 x63 x64 x65 x66 x67 x68 x69 x70 x71 x72 x73 x74 x75 x76 x77 x78 x79 x80 x81 x82 x83 x84 x85 x86 x87 x88 x89 x90 x91 x92 x93 x94 x95 x96 x97 x98 x99 x100 x101 x102 x103 x104 x105 x106 x107 x108 x109 x110 x111 x112 x113 x114 : Value} {Q : Exit → Act → World → Prop} (hr : Row W2 XB 90 rw_) (h4 : rw_[4]? = some (.slice A l.length c))
    (g1 : W2.cell? ⟨bb, oo + k * 2 + 1, none⟩ = some (.int .i64 (at_ : Nat))) (hk : k < nt) (_hnt : nt ≤ ct) (hsl : ∀ wx, (Instr.slice 9 (.string ⟨text.toArray⟩) (some (.int .i64 (fr : Nat))) (some (.int .i64 (at_ : Nat))) none).run Tryd.prog wx = .ok (.string ⟨u.toArray⟩) wx)
    (hcf : Strs W2 (.slice A l.length c) l) (hyl : l.length ≤ 100000)
    (hQ : ∀ (w1 : World) (V7 : Value) {V0 V4 V6 x75 x76 x77 x78 x79 x80 x81 x82 x83 x84 x85 x86 x87 x88 x89 : Value}, CA W2 9 1 l.length (strC l) [.string ⟨u.toArray⟩] true true true true V0 V4 V6 V7 w1 → Q .normal { tmps := #[.string ⟨text.toArray⟩, x1, x2, x3, x4, .slice (some ⟨bb, oo, none⟩) nt ct, x6, x7, x8, x9, x10, x11, .int .i64 (fr : Nat), .int .i64 (k : Nat), x14, .pointer (some ⟨XB, 0, none⟩), x16, x17, x18, x19, x20, x21, x22, x23, x24, x25, x26, x27, x28, x29, x30, x31, x32, x33, x34, x35, x36, x37, x38, x39, x40, x41, x42, x43, x44, x45, x46, x47, x48, x49, x50, x51, x52, x53, x54, x55, x56, x57, x58, x59, x60, x61, x62, x63, x64, x65, x66, x67, x68, x69, x70, x71, x72, x73, x74, x75, x76, x77, x78, x79, x80, x81, x82, x83, x84, x85, x86, x87, x88, x89, x90, x91, x92, x93, x94, x95, x96, x97, x98, x99, x100, x101, x102, x103, x104, x105, x106, x107, x108, x109, x110, x111, x112, x113, x114], defers := [] } (w1.setCell ⟨XB, 4, none⟩ V7)) :
    (regC 18 (Tryd.f20.body.getD .skip)).wp Tryd.prog Q { tmps := #[.string ⟨text.toArray⟩, x1, x2, x3, x4, .slice (some ⟨bb, oo, none⟩) nt ct, x6, x7, x8, x9, x10, x11, .int .i64 (fr : Nat), .int .i64 (k : Nat), x14, .pointer (some ⟨XB, 0, none⟩), x16, x17, x18, x19, x20, x21, x22, x23, x24, x25, x26, x27, x28, x29, x30, x31, x32, x33, x34, x35, x36, x37, x38, x39, x40, x41, x42, x43, x44, x45, x46, x47, x48, x49, x50, x51, x52, x53, x54, x55, x56, x57, x58, x59, x60, x61, x62, x63, x64, x65, x66, x67, x68, x69, x70, x71, x72, x73, x74, x75, x76, x77, x78, x79, x80, x81, x82, x83, x84, x85, x86, x87, x88, x89, x90, x91, x92, x93, x94, x95, x96, x97, x98, x99, x100, x101, x102, x103, x104, x105, x106, x107, x108, x109, x110, x111, x112, x113, x114], defers := [] } W2 := by
  have hl2 := hr.lt
  show Code.wp _ (Code.region 18 _ _) _ _ _
  refine (wpIn_wide (n := 0)).1 (wpIn_region_any (by kernel_rfl) ?_)
  refine wpAnyIn_inv (Inv := fun listed a wq => ∃ (b0 b1 b2 b3 b4 b5 b6 b7 b8 b9 b10 b11 b12 b13 b14 b15 : Bool) (V0 : Value) (V4 : Value) (V6 : Value) (V7 : Value), listed = #[b0, b1, b2, b3, b4, b5, b6, b7, b8, b9, b10, b11, b12, b13, b14, b15] ∧ a = { tmps := #[.string ⟨text.toArray⟩, x1, x2, x3, x4, .slice (some ⟨bb, oo, none⟩) nt ct, x6, x7, x8, x9, x10, x11, .int .i64 (fr : Nat), .int .i64 (k : Nat), x14, .pointer (some ⟨XB, 0, none⟩), x16, x17, x18, x19, x20, x21, x22, x23, x24, x25, x26, x27, x28, x29, x30, x31, x32, x33, x34, x35, x36, x37, x38, x39, x40, x41, x42, x43, x44, x45, x46, x47, x48, x49, x50, x51, x52, x53, x54, x55, x56, x57, x58, x59, x60, x61, x62, x63, x64, x65, x66, x67, x68, x69, x70, x71, x72, x73, x74, (bif b0 then V0 else x75), (bif b1 then .pointer (some ⟨XB, 4, none⟩) else x76), (bif b2 then .slice A l.length c else x77), (bif b3 then V4 else x78), (bif b4 then .string ⟨text.toArray⟩ else x79), (bif b5 then .int .i64 (fr : Nat) else x80), (bif b6 then .slice (some ⟨bb, oo, none⟩) nt ct else x81), (bif b7 then .int .i64 (k : Nat) else x82), (bif b8 then .pointer (some ⟨bb, oo + k * 2, none⟩) else x83), (bif b9 then .pointer (some ⟨bb, oo + k * 2 + 1, none⟩) else x84), (bif b10 then .int .i64 (at_ : Nat) else x85), (bif b11 then .string ⟨u.toArray⟩ else x86), (bif b12 then V6 else x87), (bif b13 then V7 else x88), (bif b14 then .pointer (some ⟨XB, 4, none⟩) else x89), x90, x91, x92, x93, x94, x95, x96, x97, x98, x99, x100, x101, x102, x103, x104, x105, x106, x107, x108, x109, x110, x111, x112, x113, x114], defers := [] } ∧ (b15 = true → (b0 && b1 && b2 && b3 && b4 && b5 && b6 && b7 && b8 && b9 && b10 && b11 && b12 && b13 && b14) = true) ∧ (b3 = true → b0 = true) ∧ (b13 = true → (b3 && b12) = true) ∧ (b15 = false → CA W2 9 1 (l.length) (strC l) ([.string ⟨u.toArray⟩]) b0 b3 b12 b13 V0 V4 V6 V7 wq) ∧ (b15 = true → ∃ w1, CA W2 9 1 (l.length) (strC l) ([.string ⟨u.toArray⟩]) true true true true V0 V4 V6 V7 w1 ∧ wq = w1.setCell ⟨XB, 4, none⟩ V7)) (by kernel_rfl) ?_ ?_ ?_ _ _ _ _ ?_ ?_
  rotate_left 2
  rotate_left 1
  · exact ⟨false, false, false, false, false, false, false, false, false, false, false, false, false, false, false, false, .nilIface, .nilIface, .nilIface, .nilIface, rfl, rfl, fun h => (by cases h), fun h => (by cases h), fun h => (by cases h), fun _ => CA.start, fun h => (by cases h)⟩
  · simp
  · rintro listed a wq ⟨b0, b1, b2, b3, b4, b5, b6, b7, b8, b9, b10, b11, b12, b13, b14, b15, V0, V4, V6, V7, rfl, _⟩
    rfl
  · rintro ii listed a wq hii ⟨b0, b1, b2, b3, b4, b5, b6, b7, b8, b9, b10, b11, b12, b13, b14, b15, V0, V4, V6, V7, rfl, rfl, hall', h40, h74, hca, hfin⟩ hl ha
    match ii, hii with
    | 0, _ =>
      have hb : b0 = false := by simpa using hl
      clear ha hl
      subst hb
      obtain rfl : b15 = false := by cases b15 with | false => rfl | true => exact absurd (hall' rfl) (by simp)
      have hc := hca rfl
      obtain rfl : b3 = false := by cases b3 with | false => rfl | true => exact absurd (h40 rfl) (by simp)
      obtain rfl : b13 = false := by cases b13 with | false => rfl | true => exact absurd (h74 rfl) (by simp)
      refine wpOpIn_step rfl fun K' hK => ?_
      go_simp
      exact hK _ _ ⟨true, b1, b2, false, b4, b5, b6, b7, b8, b9, b10, b11, b12, false, b14, false, _, V4, V6, V7, rfl, rfl, fun h => (by cases h), fun _ => rfl, fun h => (by cases h), fun _ => hc.s0, fun h => (by cases h)⟩
    | 1, _ =>
      have hb : b1 = false := by simpa using hl
      clear ha hl
      subst hb
      obtain rfl : b15 = false := by cases b15 with | false => rfl | true => exact absurd (hall' rfl) (by simp)
      have hc := hca rfl
      refine wpOpIn_step rfl fun K' hK => ?_
      go_simp
      exact hK _ _ ⟨b0, true, b2, b3, b4, b5, b6, b7, b8, b9, b10, b11, b12, b13, b14, false, V0, V4, V6, V7, rfl, rfl, fun h => (by cases h), h40, h74, fun _ => hc, fun h => (by cases h)⟩
    | 2, _ =>
      have hb : b2 = false := by simpa using hl
      have hd := ha _ rfl
      have d1 : b1 = true := by cases b1 with | true => rfl | false => simp [Region.binds] at hd
      clear hd
      clear ha hl
      subst hb d1
      obtain rfl : b15 = false := by cases b15 with | false => rfl | true => exact absurd (hall' rfl) (by simp)
      have hc := hca rfl
      have t4 := (hr.below hc.below hl2).cell (i := 4) h4
      refine wpOpIn_step rfl fun K' hK => ?_
      go_simp
      exact hK _ _ ⟨b0, true, true, b3, b4, b5, b6, b7, b8, b9, b10, b11, b12, b13, b14, false, V0, V4, V6, V7, rfl, rfl, fun h => (by cases h), h40, h74, fun _ => hc, fun h => (by cases h)⟩
    | 3, _ =>
      have hb : b3 = false := by simpa using hl
      have hd := ha _ rfl
      have d0 : b0 = true := by cases b0 with | true => rfl | false => simp [Region.binds] at hd
      have d2 : b2 = true := by cases b2 with | true => rfl | false => simp [Region.binds] at hd
      clear hd
      clear ha hl
      subst hb d0 d2
      obtain rfl : b15 = false := by cases b15 with | false => rfl | true => exact absurd (hall' rfl) (by simp)
      have hc := hca rfl
      obtain rfl : b13 = false := by cases b13 with | false => rfl | true => exact absurd (h74 rfl) (by simp)
      obtain ⟨i0, hi0, hj0, hj1, hj2⟩ := info_parts infoStr
      obtain ⟨v, w', hrun, hc'⟩ := hc.r4 (P := Tryd.prog) 22 22 i0 _ 16 Tryd.underlying22 hi0 hj0 hj1 hj2 rfl (by decide) (hcf) (strC_one _) (by omega)
      refine wpOpIn_app rfl rfl (.tmp 75) (.tmp 77) 22 rfl rfl rfl hrun ?_
      exact ⟨true, b1, true, true, b4, b5, b6, b7, b8, b9, b10, b11, b12, false, b14, false, V0, v, V6, V7, rfl, rfl, fun h => (by cases h), fun _ => rfl, fun h => (by cases h), fun _ => hc', fun h => (by cases h)⟩
    | 4, _ =>
      have hb : b4 = false := by simpa using hl
      clear ha hl
      subst hb
      obtain rfl : b15 = false := by cases b15 with | false => rfl | true => exact absurd (hall' rfl) (by simp)
      have hc := hca rfl
      refine wpOpIn_step rfl fun K' hK => ?_
      go_simp
      exact hK _ _ ⟨b0, b1, b2, b3, true, b5, b6, b7, b8, b9, b10, b11, b12, b13, b14, false, V0, V4, V6, V7, rfl, rfl, fun h => (by cases h), h40, h74, fun _ => hc, fun h => (by cases h)⟩
    | 5, _ =>
      have hb : b5 = false := by simpa using hl
      clear ha hl
      subst hb
      obtain rfl : b15 = false := by cases b15 with | false => rfl | true => exact absurd (hall' rfl) (by simp)
      have hc := hca rfl
      refine wpOpIn_step rfl fun K' hK => ?_
      go_simp
      exact hK _ _ ⟨b0, b1, b2, b3, b4, true, b6, b7, b8, b9, b10, b11, b12, b13, b14, false, V0, V4, V6, V7, rfl, rfl, fun h => (by cases h), h40, h74, fun _ => hc, fun h => (by cases h)⟩
    | 6, _ =>
      have hb : b6 = false := by simpa using hl
      clear ha hl
      subst hb
      obtain rfl : b15 = false := by cases b15 with | false => rfl | true => exact absurd (hall' rfl) (by simp)
      have hc := hca rfl
      refine wpOpIn_step rfl fun K' hK => ?_
      go_simp
      exact hK _ _ ⟨b0, b1, b2, b3, b4, b5, true, b7, b8, b9, b10, b11, b12, b13, b14, false, V0, V4, V6, V7, rfl, rfl, fun h => (by cases h), h40, h74, fun _ => hc, fun h => (by cases h)⟩
    | 7, _ =>
      have hb : b7 = false := by simpa using hl
      clear ha hl
      subst hb
      obtain rfl : b15 = false := by cases b15 with | false => rfl | true => exact absurd (hall' rfl) (by simp)
      have hc := hca rfl
      refine wpOpIn_step rfl fun K' hK => ?_
      go_simp
      exact hK _ _ ⟨b0, b1, b2, b3, b4, b5, b6, true, b8, b9, b10, b11, b12, b13, b14, false, V0, V4, V6, V7, rfl, rfl, fun h => (by cases h), h40, h74, fun _ => hc, fun h => (by cases h)⟩
    | 8, _ =>
      have hb : b8 = false := by simpa using hl
      have hd := ha _ rfl
      have d6 : b6 = true := by cases b6 with | true => rfl | false => simp [Region.binds] at hd
      have d7 : b7 = true := by cases b7 with | true => rfl | false => simp [Region.binds] at hd
      clear hd
      clear ha hl
      subst hb d6 d7
      obtain rfl : b15 = false := by cases b15 with | false => rfl | true => exact absurd (hall' rfl) (by simp)
      have hc := hca rfl
      refine wpOpIn_step rfl fun K' hK => ?_
      go_simp
      exact hK _ _ ⟨b0, b1, b2, b3, b4, b5, true, true, true, b9, b10, b11, b12, b13, b14, false, V0, V4, V6, V7, rfl, rfl, fun h => (by cases h), h40, h74, fun _ => hc, fun h => (by cases h)⟩
    | 9, _ =>
      have hb : b9 = false := by simpa using hl
      have hd := ha _ rfl
      have d8 : b8 = true := by cases b8 with | true => rfl | false => simp [Region.binds] at hd
      clear hd
      clear ha hl
      subst hb d8
      obtain rfl : b15 = false := by cases b15 with | false => rfl | true => exact absurd (hall' rfl) (by simp)
      have hc := hca rfl
      refine wpOpIn_step rfl fun K' hK => ?_
      go_simp
      exact hK _ _ ⟨b0, b1, b2, b3, b4, b5, b6, b7, true, true, b10, b11, b12, b13, b14, false, V0, V4, V6, V7, rfl, rfl, fun h => (by cases h), h40, h74, fun _ => hc, fun h => (by cases h)⟩
    | 10, _ =>
      have hb : b10 = false := by simpa using hl
      have hd := ha _ rfl
      have d9 : b9 = true := by cases b9 with | true => rfl | false => simp [Region.binds] at hd
      clear hd
      clear ha hl
      subst hb d9
      obtain rfl : b15 = false := by cases b15 with | false => rfl | true => exact absurd (hall' rfl) (by simp)
      have hc := hca rfl
      have q1 := cellB g1 hc.below
      refine wpOpIn_step rfl fun K' hK => ?_
      go_simp
      exact hK _ _ ⟨b0, b1, b2, b3, b4, b5, b6, b7, b8, true, true, b11, b12, b13, b14, false, V0, V4, V6, V7, rfl, rfl, fun h => (by cases h), h40, h74, fun _ => hc, fun h => (by cases h)⟩
    | 11, _ =>
      have hb : b11 = false := by simpa using hl
      have hd := ha _ rfl
      have d4 : b4 = true := by cases b4 with | true => rfl | false => simp [Region.binds] at hd
      have d5 : b5 = true := by cases b5 with | true => rfl | false => simp [Region.binds] at hd
      have d10 : b10 = true := by cases b10 with | true => rfl | false => simp [Region.binds] at hd
      clear hd
      clear ha hl
      subst hb d4 d5 d10
      obtain rfl : b15 = false := by cases b15 with | false => rfl | true => exact absurd (hall' rfl) (by simp)
      have hc := hca rfl
      refine wpOpIn_step rfl fun K' hK => ?_
      go_simp
      exact hK _ _ ⟨b0, b1, b2, b3, true, true, b6, b7, b8, b9, true, true, b12, b13, b14, false, V0, V4, V6, V7, rfl, rfl, fun h => (by cases h), h40, h74, fun _ => hc, fun h => (by cases h)⟩
    | 12, _ =>
      have hb : b12 = false := by simpa using hl
      have hd := ha _ rfl
      have d11 : b11 = true := by cases b11 with | true => rfl | false => simp [Region.binds] at hd
      clear hd
      clear ha hl
      subst hb d11
      obtain rfl : b15 = false := by cases b15 with | false => rfl | true => exact absurd (hall' rfl) (by simp)
      have hc := hca rfl
      obtain rfl : b13 = false := by cases b13 with | false => rfl | true => exact absurd (h74 rfl) (by simp)
      refine wpOpIn_step rfl fun K' hK => ?_
      go_simp
      exact hK _ _ ⟨b0, b1, b2, b3, b4, b5, b6, b7, b8, b9, b10, true, true, false, b14, false, V0, V4, _, V7, rfl, rfl, fun h => (by cases h), h40, fun h => (by cases h), fun _ => hc.s6, fun h => (by cases h)⟩
    | 13, _ =>
      have hb : b13 = false := by simpa using hl
      have hd := ha _ rfl
      have d3 : b3 = true := by cases b3 with | true => rfl | false => simp [Region.binds] at hd
      have d12 : b12 = true := by cases b12 with | true => rfl | false => simp [Region.binds] at hd
      clear hd
      clear ha hl
      subst hb d3 d12
      obtain rfl : b15 = false := by cases b15 with | false => rfl | true => exact absurd (hall' rfl) (by simp)
      have hc := hca rfl
      obtain rfl : b0 = true := h40 rfl
      obtain ⟨i0, hi0, hj0, hj1, hj2⟩ := info_parts infoStr
      obtain ⟨v, w', hrun, hc'⟩ := hc.r7 (P := Tryd.prog) 22 22 i0 _ 16 Tryd.underlying22 hi0 hj0 hj1 hj2 rfl (by decide) (rfl) (by simp [Value.oneCell']) (by unfold maxLen; omega) (by omega)
      refine wpOpIn_app rfl rfl (.tmp 78) (.tmp 87) 22 rfl rfl rfl hrun ?_
      exact ⟨true, b1, b2, true, b4, b5, b6, b7, b8, b9, b10, b11, true, true, b14, false, V0, V4, V6, v, rfl, rfl, fun h => (by cases h), fun _ => rfl, fun _ => rfl, fun _ => hc', fun h => (by cases h)⟩
    | 14, _ =>
      have hb : b14 = false := by simpa using hl
      have hd := ha _ rfl
      have d0 : b0 = true := by cases b0 with | true => rfl | false => simp [Region.binds] at hd
      have d1 : b1 = true := by cases b1 with | true => rfl | false => simp [Region.binds] at hd
      have d2 : b2 = true := by cases b2 with | true => rfl | false => simp [Region.binds] at hd
      have d3 : b3 = true := by cases b3 with | true => rfl | false => simp [Region.binds] at hd
      have d4 : b4 = true := by cases b4 with | true => rfl | false => simp [Region.binds] at hd
      have d5 : b5 = true := by cases b5 with | true => rfl | false => simp [Region.binds] at hd
      have d6 : b6 = true := by cases b6 with | true => rfl | false => simp [Region.binds] at hd
      have d7 : b7 = true := by cases b7 with | true => rfl | false => simp [Region.binds] at hd
      have d8 : b8 = true := by cases b8 with | true => rfl | false => simp [Region.binds] at hd
      have d9 : b9 = true := by cases b9 with | true => rfl | false => simp [Region.binds] at hd
      have d10 : b10 = true := by cases b10 with | true => rfl | false => simp [Region.binds] at hd
      have d11 : b11 = true := by cases b11 with | true => rfl | false => simp [Region.binds] at hd
      have d12 : b12 = true := by cases b12 with | true => rfl | false => simp [Region.binds] at hd
      have d13 : b13 = true := by cases b13 with | true => rfl | false => simp [Region.binds] at hd
      clear hd
      clear ha hl
      subst hb d0 d1 d2 d3 d4 d5 d6 d7 d8 d9 d10 d11 d12 d13
      obtain rfl : b15 = false := by cases b15 with | false => rfl | true => exact absurd (hall' rfl) (by simp)
      have hc := hca rfl
      refine wpOpIn_step rfl fun K' hK => ?_
      go_simp
      exact hK _ _ ⟨true, true, true, true, true, true, true, true, true, true, true, true, true, true, true, false, V0, V4, V6, V7, rfl, rfl, fun h => (by cases h), h40, h74, fun _ => hc, fun h => (by cases h)⟩
    | 15, _ =>
      have hb : b15 = false := by simpa using hl
      have hd := ha _ rfl
      have d0 : b0 = true := by cases b0 with | true => rfl | false => simp [Region.binds] at hd
      have d1 : b1 = true := by cases b1 with | true => rfl | false => simp [Region.binds] at hd
      have d2 : b2 = true := by cases b2 with | true => rfl | false => simp [Region.binds] at hd
      have d3 : b3 = true := by cases b3 with | true => rfl | false => simp [Region.binds] at hd
      have d4 : b4 = true := by cases b4 with | true => rfl | false => simp [Region.binds] at hd
      have d5 : b5 = true := by cases b5 with | true => rfl | false => simp [Region.binds] at hd
      have d6 : b6 = true := by cases b6 with | true => rfl | false => simp [Region.binds] at hd
      have d7 : b7 = true := by cases b7 with | true => rfl | false => simp [Region.binds] at hd
      have d8 : b8 = true := by cases b8 with | true => rfl | false => simp [Region.binds] at hd
      have d9 : b9 = true := by cases b9 with | true => rfl | false => simp [Region.binds] at hd
      have d10 : b10 = true := by cases b10 with | true => rfl | false => simp [Region.binds] at hd
      have d11 : b11 = true := by cases b11 with | true => rfl | false => simp [Region.binds] at hd
      have d12 : b12 = true := by cases b12 with | true => rfl | false => simp [Region.binds] at hd
      have d13 : b13 = true := by cases b13 with | true => rfl | false => simp [Region.binds] at hd
      have d14 : b14 = true := by cases b14 with | true => rfl | false => simp [Region.binds] at hd
      clear hd
      clear ha hl
      subst hb d0 d1 d2 d3 d4 d5 d6 d7 d8 d9 d10 d11 d12 d13 d14
      obtain ⟨A', c', rfl, hc'⟩ := own_form ((hca rfl).f7 rfl)
      have hc := hca rfl
      have t4 := (hr.below hc.below hl2).cell (i := 4) h4; have t5 := (hr.below hc.below hl2).free 4
      refine wpOpIn_step rfl fun K' hK => ?_
      go_simp
      exact hK _ _ ⟨true, true, true, true, true, true, true, true, true, true, true, true, true, true, true, true, V0, V4, V6, _, rfl, rfl, fun _ => rfl, fun _ => rfl, fun _ => rfl, fun h => (by cases h), fun _ => ⟨_, hc, rfl⟩⟩
    | k + 16, hlt => exact absurd hlt (by show ¬ k + 16 < 16; omega)
  · rintro listed a wq ⟨b0, b1, b2, b3, b4, b5, b6, b7, b8, b9, b10, b11, b12, b13, b14, b15, V0, V4, V6, V7, rfl, rfl, hall', h40, h74, hca, hfin⟩ hall
    have hh0 : b0 = true := by simpa using hall 0 (by decide)
    have hh1 : b1 = true := by simpa using hall 1 (by decide)
    have hh2 : b2 = true := by simpa using hall 2 (by decide)
    have hh3 : b3 = true := by simpa using hall 3 (by decide)
    have hh4 : b4 = true := by simpa using hall 4 (by decide)
    have hh5 : b5 = true := by simpa using hall 5 (by decide)
    have hh6 : b6 = true := by simpa using hall 6 (by decide)
    have hh7 : b7 = true := by simpa using hall 7 (by decide)
    have hh8 : b8 = true := by simpa using hall 8 (by decide)
    have hh9 : b9 = true := by simpa using hall 9 (by decide)
    have hh10 : b10 = true := by simpa using hall 10 (by decide)
    have hh11 : b11 = true := by simpa using hall 11 (by decide)
    have hh12 : b12 = true := by simpa using hall 12 (by decide)
    have hh13 : b13 = true := by simpa using hall 13 (by decide)
    have hh14 : b14 = true := by simpa using hall 14 (by decide)
    have hh15 : b15 = true := by simpa using hall 15 (by decide)
    clear hall
    subst hh0 hh1 hh2 hh3 hh4 hh5 hh6 hh7 hh8 hh9 hh10 hh11 hh12 hh13 hh14 hh15
    obtain ⟨w1, hc, rfl⟩ := hfin rfl
    clear hall' h40 h74 hca hfin
    exact hQ w1 V7 hc
end Go.Proofs.YtpmbfcogkoiogaaDoor
end
