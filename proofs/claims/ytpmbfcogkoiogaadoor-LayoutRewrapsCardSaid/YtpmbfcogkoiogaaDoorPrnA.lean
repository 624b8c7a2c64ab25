/- The printer: a builder within a struct of the call's own. The printer: what was printed. The printer: its methods. The printer: a block of words. -/
import Derived.Test.YtpmbfcogkoiogaaDoorBldK
import Derived.Test.YtpmbfcogkoiogaaDoorRewA
import Derived.Lib.FrozenHead2
import Derived.RegionTactic
import Derived.Lib.UnsafeStr
import Derived.BigRegion
import Derived.Test.YtpmbfcogkoiogaaDoorLayWordsA
import Derived.Deep.RegionHeld3
import Derived.Deep.DrawnRows
import Derived.Deep.QuietTactic
import Derived.BigQuiet
import Derived.Test.YtpmbfcogkoiogaaDoorRefBlank
import Derived.Test.YtpmbfcogkoiogaaDoorDocRA
section
namespace Go.Proofs.YtpmbfcogkoiogaaDoor
open Go.RowKit
def PrnC (w : World) (b : Nat) (p : Value) (l : List UInt8) (W D : Int) : Prop :=
  ∃ v, w.heap[b]? = some (.cells #[p, v, .int .i64 W, .int .i64 D] 99 (0, 0)) ∧ w.ownsRowF b 5 1 v l.length (Lib.byteCells l) ∧ v.ownBlock ≠ some b
/-- the printer in block b: its bytes, its width, the scopes that are open -/
def Prn (w : World) (b : Nat) (l : List UInt8) (W D : Int) : Prop := PrnC w b (.pointer none) l W D ∨ PrnC w b (.pointer (some ⟨b, 0, none⟩)) l W D
/-- what a call on the printer leaves as it was: all but its block, the blocks x and rows of bytes -/
structure PFr (w w' : World) (b : Nat) (x : List Nat) : Prop where
  below : Below b w w'
  kept : ∀ k o, w.heap[k]? = some o → k ≠ b → k ∉ x → (∀ c fz, o ≠ .cells c 5 fz) → w'.heap[k]? = some o
section
variable {w w' w2 : World} {b g : Nat} {x : List Nat} {l : List UInt8} {W D : Int} {p : Value}
theorem PFr.refl (w : World) (b : Nat) (x : List Nat) : PFr w w b x := ⟨Below.refl _ _, fun _ _ h _ _ _ => h⟩
theorem PFr.trans (h : PFr w w' b x) (h2 : PFr w' w2 b x) : PFr w w2 b x := ⟨h.below.trans h2.below, fun k o a1 a2 a3 a4 => h2.kept k o (h.kept k o a1 a2 a3 a4) a2 a3 a4⟩
theorem PFr.wide (h : PFr w w' b []) : PFr w w' b x := ⟨h.below, fun k o a1 a2 _ a4 => h.kept k o a1 a2 (by simp) a4⟩
theorem PFr.drew (h : PFr w w' b x) : PFr w w'.drew b x := ⟨h.below.drew, h.kept⟩
theorem PFr.of (h1 : Below b w w') (h2 : Lib.OthersKept 5 (some b) w w') : PFr w w' b [] := ⟨h1, fun k o a1 a2 _ a4 => h2 k o a1 (by simpa using a2) a4⟩
theorem PFr.new (hb : b < w.heap.size) (h : Below w.heap.size w w') : PFr w w' b x := ⟨h.mono (Nat.le_of_lt hb), fun k _ a1 _ _ _ => (h.block k (Array.getElem?_eq_some_iff.1 a1).1).trans a1⟩
theorem PFr.row {t : TypeId} {cs : Array Value} (h : PFr w w' b x) (hr : Row w g t cs) (h1 : g ≠ b) (h2 : g ∉ x) (ht : t ≠ 5) : Row w' g t cs :=
  h.kept g _ hr h1 h2 (fun _ _ e => by cases e; exact ht rfl)
theorem PFr.own {base n size : Nat} {e : TypeId} {v : Value} {xs : List Value} (h : PFr w w' b x) (ho : w.ownsRow base e size v n xs) (ht : e ≠ 5) (hb : ∀ c fz, w.heap[b]? ≠ some (.cells c e fz)) (hx : ∀ k ∈ x, ∀ c fz, w.heap[k]? ≠ some (.cells c e fz)) : w'.ownsRow base e size v n xs := by
  refine ⟨ho.1, ?_⟩
  rcases ho.2 with hn | ⟨g, cap, cur, rfl, hg, hh, r⟩
  · exact .inl hn
  · refine .inr ⟨g, cap, cur, rfl, hg, h.kept g _ hh (fun e1 => ?_) (fun hm => ?_) (fun _ _ e1 => ?_), r⟩
    · exact hb _ _ (e1 ▸ hh)
    · exact hx _ hm _ _ hh
    · cases e1
      exact ht rfl
theorem PrnC.lt (h : PrnC w b p l W D) : b < w.heap.size := by
  obtain ⟨v, h, _⟩ := h
  exact (Array.getElem?_eq_some_iff.1 h).1
theorem PrnC.below (h : PrnC w b p l W D) (hb : Below w.heap.size w w') : PrnC w' b p l W D := by
  have hl := h.lt
  obtain ⟨v, h1, h2, h3⟩ := h
  exact ⟨v, (hb.block b hl).trans h1, ownF_below h2 hb, h3⟩
theorem Prn.below (h : Prn w b l W D) (hb : Below w.heap.size w w') : Prn w' b l W D := h.imp (fun h => h.below hb) (fun h => h.below hb)
theorem Prn.lt (h : Prn w b l W D) : b < w.heap.size := h.elim PrnC.lt PrnC.lt
theorem Prn.blk (h : Prn w b l W D) : ∃ p v, w.heap[b]? = some (.cells #[p, v, .int .i64 W, .int .i64 D] 99 (0, 0)) := by
  rcases h with ⟨v, h, _⟩ | ⟨v, h, _⟩
  · exact ⟨_, v, h⟩
  · exact ⟨_, v, h⟩
theorem Prn.row (h : Prn w b l W D) : ∃ p v, Row w b 99 #[p, v, .int .i64 W, .int .i64 D] := h.blk
theorem Prn.not (h : Prn w b l W D) {e : TypeId} (he : e ≠ 99) : ∀ c fz, w.heap[b]? ≠ some (.cells c e fz) := by
  obtain ⟨p, v, h⟩ := h.blk
  intro c fz e1
  rw [h] at e1
  cases e1
  exact he rfl
theorem Prn.new (w : World) (W : Int) : Prn (w.alloc (.cells #[.pointer none, .slice none 0 0, .int .i64 W, .int .i64 0] 99)) w.heap.size [] W 0 :=
  .inl ⟨.slice none 0 0, heap_alloc_new w _, World.ownsRowF_nil _ _ _ _, by simp [Value.ownBlock]⟩
theorem grown_set (w : World) (b i : Nat) (q : Value) : w.grownBy (w.setCell ⟨b, i, none⟩ q) (some b) :=
  ⟨rfl, rfl, rfl, by simp [World.setCell], fun k _ hk => Below.heap_setCell _ _ _ _ (fun e => hk (by simp [e]))⟩
theorem PrnC.used (h : PrnC w b p l W D) (q : Value) : PrnC (w.setCell ⟨b, 0, none⟩ q) b q l W D := by
  obtain ⟨v, hb, hown, hne⟩ := h
  exact ⟨v, by simp [World.setCell, Array.getElem?_modify, hb], hown.kept (grown_set w b 0 q) (.inr hne), hne⟩
/-- another number of scopes -/
theorem PrnC.deep (h : PrnC w b p l W D) (D2 : Int) : PrnC (w.setCell ⟨b, 3, none⟩ (.int .i64 D2)) b p l W D2 := by
  obtain ⟨v, hb, hown, hne⟩ := h
  exact ⟨v, by simp [World.setCell, Array.getElem?_modify, hb], hown.kept (grown_set w b 3 _) (.inr hne), hne⟩
theorem Prn.deep (h : Prn w b l W D) (D2 : Int) : Prn (w.setCell ⟨b, 3, none⟩ (.int .i64 D2)) b l W D2 := h.imp (fun h => h.deep D2) (fun h => h.deep D2)
theorem PFr.set (w : World) (b i : Nat) (q : Value) : PFr w (w.setCell ⟨b, i, none⟩ q) b [] :=
  .of ((Below.refl b w).setCell (p := ⟨b, i, none⟩) (Nat.le_refl _) _) ((Lib.OthersKept.refl _ _ w).setCell ⟨b, i, none⟩ rfl _)
theorem PrnC.put {v v' : Value} (hb : w.heap[b]? = some (.cells #[p, v, .int .i64 W, .int .i64 D] 99 (0, 0))) (hown : w.ownsRowF b 5 1 v' l.length (Lib.byteCells l)) : PrnC (w.setCell ⟨b, 1, none⟩ v') b p l W D := by
  have hne := Lib.ownBlock_neF hown hb (by decide)
  exact ⟨v', by simp [World.setCell, Array.getElem?_modify, hb], hown.kept (grown_set w b 1 _) (.inr hne), hne⟩
end
set_option maxHeartbeats 1000000 in
set_option maxRecDepth 100000 in
theorem prn_check (w : World) (b : Nat) (l : List UInt8) (W D : Int) (h : Prn w b l W D) :
    Calls Tryd.prog 102 #[.pointer (some ⟨b, 0, none⟩)] w fun e w' => e = .returned (.tuple #[]) ∧ PrnC w' b (.pointer (some ⟨b, 0, none⟩)) l W D ∧ PFr w w' b [] := by
  obtain ⟨j, hj, hjs⟩ := Option.map_eq_some_iff.1 (show (Tryd.prog.info? 97).map (·.size) = some 2 by kernel_rfl)
  have hlies : liesAt Tryd.prog Tryd.prog.depth 99 (4 / Tryd.prog.cellsOf 99) 0 97 1 = true := by kernel_rfl
  rcases h with h | h
  · have H := Lib.hid h
    obtain ⟨v, hb, _⟩ := h
    have h0 : w.cell? ⟨b, 0, none⟩ = some (.pointer none) := by rw [Lib.cell_of_heap hb]; rfl
    have hsh : w.shape? b = some (99, 4) := by simp [World.shape?, hb]
    have hfz : w.frozen? ⟨b, 0, none⟩ = false := by simp [World.frozen?, hb]
    clear hb
    go_enter Tryd.func102, Tryd.ntmps102
    go_wp2
    rw [Lib.run_to_unsafe w ⟨b, 0, none⟩ Tryd.underlying94 Tryd.underlying178 hj (by rw [hjs]; decide) hsh (Nat.zero_lt_succ 3)]
    simp only [Result.andThen]
    rw [Oper.upon_value]
    go_wp2
    rw [run_callFunc_extern Tryd.func129 (by kernel_rfl) (by kernel_rfl) (by kernel_rfl) (e := Extern.AbiNoEscape.same) (by kernel_rfl)]
    rw [Lib.run_noEscape]
    simp only [Result.andThen]
    rw [Oper.upon_value]
    go_wp2
    rw [Lib.run_from_unsafe w ⟨b, 0, none⟩ Tryd.underlying178 Tryd.underlying94 hj hsh hlies]
    simp only [Result.andThen]
    rw [Oper.upon_value]
    go_wp2
    go_end0
    exact ⟨rfl, H.out.used _, PFr.set w b 0 _⟩
  · have H := Lib.hid h
    obtain ⟨v, hb, _⟩ := h
    have h0 : w.cell? ⟨b, 0, none⟩ = some (.pointer (some ⟨b, 0, none⟩)) := by rw [Lib.cell_of_heap hb]; rfl
    clear hb
    go_enter Tryd.func102, Tryd.ntmps102
    go_wp2
    rw [Lib.run_neq_ptr_same w _ Tryd.underlying94 hj]
    go_wp2
    go_end0
    exact ⟨rfl, H.out, PFr.refl _ _ _⟩
set_option maxHeartbeats 2000000 in
set_option maxRecDepth 100000 in
theorem prn_str (w : World) (b : Nat) (l s : List UInt8) (W D : Int) (h : Prn w b l W D) (hl : l.length ≤ 1000000000) (hs : s.length ≤ 1000000000) :
    Calls Tryd.prog 60 #[.pointer (some ⟨b, 0, none⟩), .string ⟨s.toArray⟩] w fun e w' => (∃ v, e = .returned v) ∧ Prn w' b (l ++ s) W D ∧ PFr w w' b [] := by
  obtain ⟨i0, hi, hz0, hz1, hz2⟩ := info_parts (show (Tryd.prog.info? 5).map (fun i => (i.zero, i.size, i.bytes)) = some (some (.int .u8 0), 1, 1) by kernel_rfl)
  have hbw := h.lt
  have hss : (ByteArray.mk s.toArray).size = s.length := by simp [ByteArray.size]
  have HSS := Lib.hid hss
  clear hss
  go_enter Tryd.func60, Tryd.ntmps60
  go_wp2_with fail
  refine (prn_check _ b l W D h).mono ?_
  rintro e w1 ⟨rfl, ⟨v, hbk, hown, hne⟩, hf1⟩
  have c0 : w1.cell? ⟨b, 0, none⟩ = some (.pointer (some ⟨b, 0, none⟩)) := by rw [Lib.cell_of_heap hbk]; rfl
  have c1 : w1.cell? ⟨b, 1, none⟩ = some v := by rw [Lib.cell_of_heap hbk]; rfl
  have HF1 := Lib.hid hf1
  have HBK := Lib.hid hbk
  have HNE := Lib.hid hne
  clear hbk hf1 hne h
  go_wp2_with (at_builtin; refine Lib.wpList_append_own_stringF _ rfl _ _ 95 9 rfl b 5 i0 Tryd.underlying95 Tryd.underlying9 hi hz0 hz1 hz2 _ _ _ rfl hown ⟨s.toArray⟩ rfl ?c3 ?c4 ?c5 ?_)
  case c3 => unfold maxLen; rw [HSS.out]; omega
  case c4 => rw [HSS.out]; omega
  case c5 => have := HF1.out.below.size; omega
  intro v' w2 hown' hgrow _
  have hlt : b < w1.heap.size := by have := HF1.out.below.size; omega
  have hb2 : w2.heap[b]? = some (.cells #[.pointer (some ⟨b, 0, none⟩), v, .int .i64 W, .int .i64 D] 99 (0, 0)) := by
    rw [hgrow.block b hlt (fun e => HNE.out e.symm)]
    exact HBK.out
  have d0 : w2.cell? ⟨b, 0, none⟩ = some (.pointer (some ⟨b, 0, none⟩)) := by rw [Lib.cell_of_heap hb2]; rfl
  have d1 : w2.cell? ⟨b, 1, none⟩ = some v := by rw [Lib.cell_of_heap hb2]; rfl
  have f1 : w2.frozen? ⟨b, 1, none⟩ = false := Lib.frozen_of_heap hb2 1
  obtain ⟨ao, n', cap, rfl⟩ : ∃ ao n' cap, v' = .slice ao n' cap := by
    rcases hown'.2 with ⟨hv, _⟩ | ⟨g, cap, cur, fz, hv, _⟩
    · exact ⟨_, _, _, hv⟩
    · exact ⟨_, _, _, hv⟩
  have HB2 := Lib.hid hb2
  have hown2 : w2.ownsRowF b 5 1 (.slice ao n' cap) (l ++ s).length (Lib.byteCells (l ++ s)) := by
    rw [List.length_append, ← HSS.out, Lib.byteCells_append]
    exact hown'
  have HO2 := Lib.hid hown2
  have HG := Lib.hid hgrow
  have HOW := Lib.hid hown
  clear hb2 hown' hown2 hgrow hown
  go_wp2
  go_ret2
  refine ⟨⟨_, rfl⟩, .inr (PrnC.put HB2.out HO2.out), HF1.out.trans (PFr.trans (.of ?_ ?_) (PFr.set w2 b 1 _))⟩
  · exact (Below.refl b w1).grown HG.out (by omega) (fun k hk => (HOW.out.lt k hk).1)
  · exact (Lib.OthersKept.refl _ _ w1).grown HG.out (Lib.ownsRowF_kind HOW.out)
set_option maxHeartbeats 2000000 in
set_option maxRecDepth 100000 in
theorem prn_byte (w : World) (b : Nat) (l : List UInt8) (c : UInt8) (z : Int) (hz : z = (c.toNat : Int)) (W D : Int) (h : Prn w b l W D) (hl : l.length ≤ 1000000000) :
    Calls Tryd.prog 96 #[.pointer (some ⟨b, 0, none⟩), .int .u8 z] w fun e w' => e = .returned .nilIface ∧ Prn w' b (l ++ [c]) W D ∧ PFr w w' b [] := by
  obtain ⟨i0, hi, hz0, hz1, hz2⟩ := info_parts (show (Tryd.prog.info? 5).map (fun i => (i.zero, i.size, i.bytes)) = some (some (.int .u8 0), 1, 1) by kernel_rfl)
  have hbw := h.lt
  have HZ := Lib.hid hz
  clear hz
  go_enter Tryd.func96, Tryd.ntmps96
  go_wp2_with fail
  refine (prn_check _ b l W D h).mono ?_
  rintro e w1 ⟨rfl, ⟨v, hbk, hown, hne⟩, hf1⟩
  have c0 : w1.cell? ⟨b, 0, none⟩ = some (.pointer (some ⟨b, 0, none⟩)) := by rw [Lib.cell_of_heap hbk]; rfl
  have c1 : w1.cell? ⟨b, 1, none⟩ = some v := by rw [Lib.cell_of_heap hbk]; rfl
  have HF1 := Lib.hid hf1
  have HBK := Lib.hid hbk
  have HNE := Lib.hid hne
  clear hbk hf1 hne h
  go_wp2_with (at_builtin; refine wpList_append_ownF _ rfl _ _ 95 rfl b 5 i0 (.int .u8 0) 1 1 Tryd.underlying95 hi hz0 hz1 hz2 rfl (by decide) _ _ _ rfl (hown.alloc _) ⟨w1.heap.size, 0, none⟩ 1 1 [.int .u8 z] rfl rfl ?c1 ?c2 ?c3 ?c4 ?c5 ?_)
  case c1 =>
    intro j u hj
    match j, hj with
    | 0, hj => simp at hj; subst hj; simp [Addr.add]
  case c2 => intro u hu; simp at hu; subst hu; rfl
  case c3 => unfold maxLen; omega
  case c4 => omega
  case c5 => have := HF1.out.below.size; simp; omega
  intro v' w2 hown' hgrow _
  have hlt : b < w1.heap.size := by have := HF1.out.below.size; omega
  have hb2 : w2.heap[b]? = some (.cells #[.pointer (some ⟨b, 0, none⟩), v, .int .i64 W, .int .i64 D] 99 (0, 0)) := by
    rw [hgrow.block b (by simp; omega) (fun e => HNE.out e.symm), Lib.alloc_old w1 _ b hlt]
    exact HBK.out
  have d0 : w2.cell? ⟨b, 0, none⟩ = some (.pointer (some ⟨b, 0, none⟩)) := by rw [Lib.cell_of_heap hb2]; rfl
  have d1 : w2.cell? ⟨b, 1, none⟩ = some v := by rw [Lib.cell_of_heap hb2]; rfl
  have f1 : w2.frozen? ⟨b, 1, none⟩ = false := Lib.frozen_of_heap hb2 1
  obtain ⟨ao, n', cap, rfl⟩ : ∃ ao n' cap, v' = .slice ao n' cap := by
    rcases hown'.2 with ⟨hv, _⟩ | ⟨g, cap, cur, fz, hv, _⟩
    · exact ⟨_, _, _, hv⟩
    · exact ⟨_, _, _, hv⟩
  have HB2 := Lib.hid hb2
  have hown2 : w2.ownsRowF b 5 1 (.slice ao n' cap) (l ++ [c]).length (Lib.byteCells (l ++ [c])) := by
    rw [List.length_append, Lib.byteCells_append, List.length_singleton, show Lib.byteCells [c] = [.int .u8 z] by rw [HZ.out]; rfl]
    exact hown'
  have HO2 := Lib.hid hown2
  have HG := Lib.hid hgrow
  have HOW := Lib.hid hown
  clear hb2 hown' hown2 hgrow hown
  go_wp2
  go_ret
  refine ⟨rfl, .inr (PrnC.put HB2.out HO2.out), HF1.out.trans (PFr.trans (.of ?_ ?_) (PFr.set w2 b 1 _))⟩
  · exact ((Below.refl b w1).alloc (by omega) _).grown HG.out (by simp; omega) (fun k hk => (HOW.out.lt k hk).1)
  · exact ((Lib.OthersKept.refl _ _ w1).alloc _).grown HG.out (Lib.ownsRowF_kind (HOW.out.alloc _))
theorem prn_len (w : World) (b : Nat) (l : List UInt8) (W D : Int) (n : Nat) (hn : l.length = n) (h : Prn w b l W D) :
    Calls Tryd.prog 98 #[.pointer (some ⟨b, 0, none⟩)] w fun e w' => e = .returned (.int .i64 n) ∧ w = w' := by
  obtain ⟨p, v, hbk, hown, hne⟩ : ∃ p, PrnC w b p l W D := by
    rcases h with h | h
    · exact ⟨_, h⟩
    · exact ⟨_, h⟩
  obtain ⟨ao, cap, rfl⟩ : ∃ ao cap, v = .slice ao l.length cap := by
    rcases hown.2 with ⟨hv, h0⟩ | ⟨g, cap, cur, fz, hv, _⟩
    · exact ⟨none, 0, by rw [hv, h0]⟩
    · exact ⟨_, _, hv⟩
  have c1 : w.cell? ⟨b, 1, none⟩ = some (.slice ao l.length cap) := by rw [Lib.cell_of_heap hbk]; rfl
  subst hn
  clear hbk hown hne h
  go_enter Tryd.func98, Tryd.ntmps98
  go_wp2
  go_ret
  exact ⟨rfl, rfl⟩
end Go.Proofs.YtpmbfcogkoiogaaDoor
end
section
namespace Go.Proofs.YtpmbfcogkoiogaaDoor
open Go.RowKit
set_option maxHeartbeats 2000000 in
set_option maxRecDepth 100000 in
theorem prn_string0 (w : World) (b : Nat) (p : Value) (W D : Int) (hbk : w.heap[b]? = some (.cells #[p, .slice none 0 0, .int .i64 W, .int .i64 D] 99 (0, 0))) :
    Calls Tryd.prog 61 #[.pointer (some ⟨b, 0, none⟩)] w fun e w' => e = .returned (.string ⟨#[]⟩) ∧ Below b w w' := by
  have hUS := fun (W : World) (q : Option Addr) => Lib.run_unsafeString_none (P := Tryd.prog) W 151 3 9 q
  have c1 : w.drew.cell? ⟨b, 1, none⟩ = some (.slice none 0 0) := by
    have : w.drew.heap[b]? = _ := hbk
    rw [Lib.cell_of_heap this]; rfl
  have hSD : (Builtin.unsafeSliceData_ #[95] 151 #[.slice none 0 0]).run Tryd.prog w.drew = .ok (.pointer none) w.drew := rfl
  clear hbk
  go_enter Tryd.func61, Tryd.ntmps61
  go_wp2
  go_region
  all_goals (go_wp2; go_ret; exact ⟨rfl, Below.drew (Below.refl b w)⟩)
set_option maxHeartbeats 2000000 in
set_option maxRecDepth 100000 in
theorem prn_string1 (w : World) (b g : Nat) (p : Value) (W D : Int) (cur : Array Value) (fz : Nat × Nat) (hbk : w.heap[b]? = some (.cells #[p, .slice (some ⟨g, 0, none⟩) 0 0, .int .i64 W, .int .i64 D] 99 (0, 0))) (hg : w.heap[g]? = some (.cells cur 5 fz)) :
    Calls Tryd.prog 61 #[.pointer (some ⟨b, 0, none⟩)] w fun e w' => e = .returned (.string ⟨#[]⟩) ∧ Below b w w' := by
  have hUS := fun (W : World) (q : Option Addr) => Lib.run_unsafeString_none (P := Tryd.prog) W 151 3 9 q
  have hlt : b < w.heap.size := (Array.getElem?_eq_some_iff.1 hbk).1
  have c1 : w.drew.cell? ⟨b, 1, none⟩ = some (.slice (some ⟨g, 0, none⟩) 0 0) := by
    have : w.drew.heap[b]? = _ := hbk
    rw [Lib.cell_of_heap this]; rfl
  have hSD : (Builtin.unsafeSliceData_ #[95] 151 #[.slice (some ⟨g, 0, none⟩) 0 0]).run Tryd.prog w.drew = .ok (.pointer (some ⟨w.drew.heap.size, 0, none⟩)) (w.drew.alloc (.view ⟨g, 0, none⟩ 5)) :=
    Lib.run_unsafeSliceData_zero w.drew _ _ 5 Tryd.underlying151 ⟨g, 0, none⟩ 0 (5, cur.size) (by have hg' : w.drew.heap[g]? = some (.cells cur 5 fz) := hg; simp [World.shape?, hg'])
  have c2 : (w.drew.alloc (.view ⟨g, 0, none⟩ 5)).cell? ⟨b, 1, none⟩ = some (.slice (some ⟨g, 0, none⟩) 0 0) := by
    have : (w.drew.alloc (.view ⟨g, 0, none⟩ 5)).heap[b]? = _ := (Lib.alloc_old w.drew _ b hlt).trans hbk
    rw [Lib.cell_of_heap this]; rfl
  have c3 : (w.alloc (.view ⟨g, 0, none⟩ 5)).drew.cell? ⟨b, 1, none⟩ = some (.slice (some ⟨g, 0, none⟩) 0 0) := c2
  have c0 : w.cell? ⟨b, 1, none⟩ = some (.slice (some ⟨g, 0, none⟩) 0 0) := c1
  clear hbk hg
  go_enter Tryd.func61, Tryd.ntmps61
  go_wp2
  go_region
  all_goals (go_wp2; go_ret; exact ⟨rfl, (Below.drew (Below.refl b w)).alloc (Nat.le_of_lt hlt) _⟩)
set_option maxHeartbeats 2000000 in
set_option maxRecDepth 100000 in
theorem prn_string2 (w : World) (b g cap : Nat) (p : Value) (W D : Int) (hc0 : cap ≠ 0) (hbk : w.heap[b]? = some (.cells #[p, .slice (some ⟨g, 0, none⟩) 0 cap, .int .i64 W, .int .i64 D] 99 (0, 0))) :
    Calls Tryd.prog 61 #[.pointer (some ⟨b, 0, none⟩)] w fun e w' => e = .returned (.string ⟨#[]⟩) ∧ Below b w w' := by
  have hUS := fun (W : World) (q : Option Addr) => Lib.run_unsafeString_none (P := Tryd.prog) W 151 3 9 q
  have c1 : w.drew.cell? ⟨b, 1, none⟩ = some (.slice (some ⟨g, 0, none⟩) 0 cap) := by
    have : w.drew.heap[b]? = _ := hbk
    rw [Lib.cell_of_heap this]; rfl
  have hSD : (Builtin.unsafeSliceData_ #[95] 151 #[.slice (some ⟨g, 0, none⟩) 0 cap]).run Tryd.prog w.drew = .ok (.pointer (some ⟨g, 0, none⟩)) w.drew :=
    Lib.run_unsafeSliceData_row _ _ _ _ _ _ hc0
  clear hc0 hbk
  go_enter Tryd.func61, Tryd.ntmps61
  go_wp2
  go_region
  all_goals (go_wp2; go_ret; exact ⟨rfl, Below.drew (Below.refl b w)⟩)
set_option maxHeartbeats 2000000 in
set_option maxRecDepth 100000 in
theorem prn_string (w : World) (b : Nat) (l : List UInt8) (W D : Int) (h : Prn w b l W D) :
    Calls Tryd.prog 61 #[.pointer (some ⟨b, 0, none⟩)] w fun e w' => e = .returned (.string ⟨l.toArray⟩) ∧ Below b w w' := by
  obtain ⟨p, v, hbk, hown, -⟩ : ∃ p, PrnC w b p l W D := by
    rcases h with h | h
    · exact ⟨_, h⟩
    · exact ⟨_, h⟩
  clear h
  cases l with
  | nil =>
    rcases hown.2 with ⟨rfl, _⟩ | ⟨g, cap, cur, fz, rfl, hbg, hg, _⟩
    · exact prn_string0 w b p W D hbk
    · by_cases hc0 : cap = 0
      · subst hc0
        exact prn_string1 w b g p W D cur fz hbk hg
      · exact prn_string2 w b g cap p W D hc0 hbk
  | cons x r =>
    obtain ⟨l, hl⟩ : ∃ l, x :: r = l := ⟨_, rfl⟩
    have h0 : l ≠ [] := by rw [← hl]; simp
    rw [hl] at hown ⊢
    clear hl x r
    have hl0 : l.length ≠ 0 := by simpa using h0
    obtain ⟨g, cap, cur, fz, rfl, hbg, hg, hfz, hnc, hcm, hcs, htake⟩ : ∃ g cap cur fz, v = .slice (some ⟨g, 0, none⟩) l.length cap ∧ b ≤ g ∧ w.heap[g]? = some (.cells cur 5 fz) ∧ fz.2 ≤ l.length * 1 ∧ l.length ≤ cap ∧ cap ≤ maxLen ∧ cur.size = cap * 1 ∧ cur.toList.take (l.length * 1) = Lib.byteCells l := by
      rcases hown.2 with ⟨_, hz⟩ | ⟨g, cap, cur, fz, hv, r⟩
      · exact absurd hz hl0
      · exact ⟨g, cap, cur, fz, hv, r⟩
    have c1 : w.drew.cell? ⟨b, 1, none⟩ = some (.slice (some ⟨g, 0, none⟩) l.length cap) := by
      have : w.drew.heap[b]? = _ := hbk
      rw [Lib.cell_of_heap this]; rfl
    have hSD : (Builtin.unsafeSliceData_ #[95] 151 #[.slice (some ⟨g, 0, none⟩) l.length cap]).run Tryd.prog w.drew = .ok (.pointer (some ⟨g, 0, none⟩)) w.drew :=
      Lib.run_unsafeSliceData_row _ _ _ _ _ _ (by omega)
    have hUS : (Builtin.unsafeString_ #[151, 3] 9 #[.pointer (some ⟨g, 0, none⟩), .int .i64 l.length]).run Tryd.prog w.drew = .ok (.string ⟨l.toArray⟩) (w.drew.freeze ⟨g, 0, none⟩ l.length) := by
      refine Lib.run_unsafeString_row w.drew 151 3 9 5 Tryd.underlying151 (by kernel_rfl) g cur.size (by have hg' : w.drew.heap[g]? = some (.cells cur 5 fz) := hg; simp [World.shape?, hg']) l h0 (by omega) (by unfold maxLen at hcm; omega) ?_
      intro j x hx
      exact hown.cells (g := g) rfl j (.int .u8 x.toNat) (by simp [Lib.byteCells, hx])
    clear hbk hg hown hfz htake hcs
    go_enter Tryd.func61, Tryd.ntmps61
    go_wp2
    go_region
    all_goals (go_wp2; go_ret; exact ⟨rfl, Lib.below_freeze (Below.drew (Below.refl b w)) (p := ⟨g, 0, none⟩) hbg _⟩)
end Go.Proofs.YtpmbfcogkoiogaaDoor
end
section
namespace Go.Proofs.YtpmbfcogkoiogaaDoor
open Go.RowKit
section
variable {w w' : World} {b : Nat} {x : List Nat}
theorem PFr.tyb {E : TypeId} {v : Value} (h : PFr w w' b x) (hv : TyB w E v) (hE : E ≠ 5) (hb : ∀ c fz, w.heap[b]? ≠ some (.cells c E fz)) (hx : ∀ k ∈ x, ∀ c fz, w.heap[k]? ≠ some (.cells c E fz)) : TyB w' E v := fun g e => by
  obtain ⟨c, fr, hg⟩ := hv g e
  refine ⟨c, fr, h.kept g _ hg (fun e1 => hb c fr (e1 ▸ hg)) (fun hm => hx g hm c fr hg) (fun _ _ e1 => ?_)⟩
  cases e1
  exact hE rfl
theorem PFr.rds {E : TypeId} {size n : Nat} {v : Value} {xs : List Value} (h : PFr w w' b x) (hr : Rds w size v n xs) (hv : TyB w E v) (hE : E ≠ 5) (hb : ∀ c fz, w.heap[b]? ≠ some (.cells c E fz)) (hx : ∀ k ∈ x, ∀ c fz, w.heap[k]? ≠ some (.cells c E fz)) : Rds w' size v n xs :=
  hr.same fun k _ e o => by
    obtain ⟨c, fr, hg⟩ := hv k e
    have h1 := h.kept k _ hg (fun e1 => hb c fr (e1 ▸ hg)) (fun hm => hx k hm c fr hg) (fun _ _ e1 => by cases e1; exact hE rfl)
    unfold World.cell?
    rw [h1, hg]
end
/-- a store into a block beside the printer -/
theorem Prn.store {w : World} {b g i : Nat} {l : List UInt8} {W D : Int} {t : TypeId} {cs : Array Value} (h : Prn w b l W D) (hr : Row w g t cs) (h1 : t ≠ 99) (h2 : t ≠ 5) (q : Value) : Prn (w.setCell ⟨g, i, none⟩ q) b l W D := by
  have hgb : b ≠ g := by
    rintro rfl
    obtain ⟨p, v, hb⟩ := h.blk
    unfold Row at hr
    rw [hr] at hb
    simp at hb
    exact h1 hb.2
  have one : ∀ p, PrnC w b p l W D → PrnC (w.setCell ⟨g, i, none⟩ q) b p l W D := by
    rintro p ⟨v, hb, hown, hne⟩
    refine ⟨v, (Below.heap_setCell _ _ _ _ (by dsimp only; omega)).trans hb, hown.kept (grown_set w g i q) ?_, hne⟩
    right
    intro e
    obtain ⟨c, fz, hc⟩ := Lib.ownsRowF_kind hown g e
    unfold Row at hr
    rw [hr] at hc
    simp at hc
    exact h2 hc.2.1
  exact h.imp (one _) (one _)
set_option maxHeartbeats 2000000 in
set_option maxRecDepth 100000 in
theorem prn_put (w : World) (b gp gl : Nat) (l s t : List UInt8) (W D : Int) (n : Nat) (h : Prn w b l W D) (hp : Row w gp 93 #[.pointer (some ⟨b, 0, none⟩)]) (hn : Row w gl 3 #[.int .i64 (n : Nat)]) (hbl : b ≤ gl) (hl : l.length ≤ 100000000) (hs : s.length ≤ 100000000) (ht : t.length ≤ 100000000) (hnn : n ≤ 100000000) :
    Calls Tryd.prog 95 #[.string ⟨s.toArray⟩, .string ⟨t.toArray⟩, .pointer (some ⟨gp, 0, none⟩), .pointer (some ⟨gl, 0, none⟩)] w fun e w' => (∃ v, e = .returned v) ∧ Prn w' b (l ++ (s ++ t)) W D ∧ Row w' gl 3 #[.int .i64 ((n + (s.length + t.length) : Nat) : Int)] ∧ PFr w w' b [gl] := by
  have c0 := hp.cell (i := 0) (v := .pointer (some ⟨b, 0, none⟩)) rfl
  have HP := Lib.hid hp
  have HN := Lib.hid hn
  have hbw := h.lt
  have hplt := hp.lt
  have hglt := hn.lt
  have HH := Lib.hid h
  have hpb : gp ≠ b := by
    rintro rfl
    obtain ⟨p, v, hb⟩ := h.blk
    unfold Row at hp
    rw [hp] at hb
    simp at hb
  have hlb : gl ≠ b := by
    rintro rfl
    obtain ⟨p, v, hb⟩ := h.blk
    unfold Row at hn
    rw [hn] at hb
    simp at hb
  clear hp hn h
  go_enter Tryd.func95, Tryd.ntmps95
  go_wp2_with fail
  refine (prn_str _ b l s W D HH.out (by omega) (by omega)).mono ?_
  rintro e w1 ⟨⟨v1, rfl⟩, h1, hf1⟩
  have HP1 := Lib.hid (hf1.row HP.out hpb (by simp) (by decide))
  have HN1 := Lib.hid (hf1.row HN.out hlb (by simp) (by decide))
  have H1 := Lib.hid h1
  have HF1 := Lib.hid hf1
  have c1 := HP1.out.cell (i := 0) (v := .pointer (some ⟨b, 0, none⟩)) rfl
  have z1 := hf1.below.size
  clear h1 hf1 c0
  go_wp2_with fail
  refine (prn_str _ b (l ++ s) t W D H1.out (by simp; omega) (by omega)).mono ?_
  rintro e w2 ⟨⟨v2, rfl⟩, h2, hf2⟩
  have HN2 := Lib.hid (hf2.row HN1.out hlb (by simp) (by decide))
  have HF2 := Lib.hid (HF1.out.trans hf2)
  have H2 := Lib.hid h2
  have c2 := HN2.out.cell (i := 0) (v := .int .i64 (n : Nat)) rfl
  have z2 := hf2.below.size
  have f2 := HN2.out.free 0
  clear h2 hf2 c1
  go_wp2_with fail
  go_end0
  refine ⟨⟨_, rfl⟩, ?_, ?_, ?_⟩
  · rw [← List.append_assoc]
    exact H2.out.store HN2.out (by decide) (by decide) _
  · have := HN2.out.set 0 (.int .i64 ((n + (s.length + t.length) : Nat) : Int))
    simpa using this
  · exact HF2.out.wide.trans ⟨(Below.refl b w2).setCell (p := ⟨gl, 0, none⟩) hbl _, fun k o a1 _ a3 _ => (Below.heap_setCell _ _ _ _ (by dsimp only; intro e; exact a3 (by simp [e]))).trans a1⟩
set_option maxHeartbeats 2000000 in
set_option maxRecDepth 100000 in
theorem prn_text (w : World) (b : Nat) (l : List UInt8) (W D : Int) (h : Prn w b l W D) (hl : l.length ≤ 100000000) :
    Calls Tryd.prog 53 #[.pointer (some ⟨b, 0, none⟩)] w fun e w' => e = .returned (.tuple #[.string ⟨(if 40000 < l.length then [] else l).toArray⟩, .int .i64 (if 40000 < l.length then 15 else 0)]) ∧ Below b w w' := by
  have H := Lib.hid h
  have hlt := h.lt
  clear h
  by_cases hb : 40000 < l.length
  · rw [if_pos hb, if_pos hb]
    have e1 : decide ((40000 : Int) < (l.length : Int)) = true := decide_eq_true (by omega)
    have e2 : decide (40000 < l.length) = true := decide_eq_true hb
    clear hb
    go_enter Tryd.func53, Tryd.ntmps53
    go_wp2_with fail
    refine (prn_len _ b l W D l.length rfl H.out).mono ?_
    rintro e w1 ⟨rfl, rfl⟩
    go_wp2_with fail
    go_ret2
    exact ⟨rfl, Below.refl _ _⟩
  · rw [if_neg hb, if_neg hb]
    have e1 : decide ((40000 : Int) < (l.length : Int)) = false := decide_eq_false (by omega)
    have e2 : decide (40000 < l.length) = false := decide_eq_false hb
    clear hb
    go_enter Tryd.func53, Tryd.ntmps53
    go_wp2_with fail
    refine (prn_len _ b l W D l.length rfl H.out).mono ?_
    rintro e w1 ⟨rfl, rfl⟩
    go_wp2_with fail
    refine (prn_string _ b l W D H.out).mono ?_
    rintro e w2 ⟨rfl, hb2⟩
    go_wp2_with fail
    go_ret2
    exact ⟨rfl, hb2⟩
theorem rep_ind (n : Nat) : Lib.repeatL [32] n = List.replicate n 32 := by
  induction n with
  | zero => rfl
  | succ n ih => rw [Lib.repeatL, ih]; rfl
theorem rep_any (w : World) (z : Int) (hz : 0 ≤ z ∧ z ≤ 1000) : Calls Tryd.prog 97 #[.string ⟨#[32]⟩, .int .i64 z] w fun e w' => e = .returned (.string ⟨(List.replicate z.toNat 32).toArray⟩) ∧ Below w.heap.size w w' := by
  obtain ⟨n, rfl⟩ : ∃ n : Nat, z = n := ⟨z.toNat, by omega⟩
  have h1 : (ByteArray.mk #[32]).size = 1 := rfl
  have := Tryd.strings_Repeat ⟨#[32]⟩ n w (by omega) (by rw [h1]; omega)
  rwa [show (ByteArray.mk #[32]).data.toList = [32] from rfl, rep_ind] at this
set_option maxHeartbeats 2000000 in
set_option maxRecDepth 100000 in
theorem prn_enter (w : World) (b : Nat) (l : List UInt8) (W D k : Int) (h : Prn w b l W D) (hD : -1000000 ≤ D ∧ D ≤ 1000000) :
    Calls Tryd.prog 52 #[.pointer (some ⟨b, 0, none⟩), .int .i64 k] w fun e w' => e = .returned (.string ⟨(indS (atD D k)).toArray⟩) ∧ Prn w' b l W (nextD D k) ∧ PFr w w' b [] := by
  have hlt := h.lt
  obtain ⟨p, v, hbk⟩ := h.row
  have c0 := hbk.cell (i := 3) (v := .int .i64 D) rfl
  have f0 := hbk.free 3
  have H := Lib.hid h
  obtain ⟨hd1, hd2⟩ := hD
  clear h hbk
  by_cases h9 : k = 9
  · subst h9
    have e1 : ((9 : Int) == 9) = true := rfl
    have e2 : ((9 : Int) == 8) = false := rfl
    go_enter Tryd.func52, Tryd.ntmps52
    go_wp2_with fail
    refine (rep_any _ _ (by omega)).mono ?_
    rintro e w2 ⟨rfl, hb2⟩
    go_wp2_with fail
    go_ret
    exact ⟨rfl, (H.out.deep (D - 1)).below hb2, (PFr.set w b 3 _).trans (.new (by simpa using hlt) hb2)⟩
  · have e1 : (k == 9) = false := by simpa using h9
    have HA : Hid (atD D k = D) := Lib.hid (by unfold atD; rw [if_neg h9])
    by_cases h8 : k = 8
    · have e2 : (k == 8) = true := by simpa using h8
      have HN : Hid (nextD D k = D + 1) := Lib.hid (by unfold nextD; rw [if_neg h9, if_pos h8])
      clear h9 h8
      go_enter Tryd.func52, Tryd.ntmps52
      go_wp2_with fail
      refine (rep_any _ _ (by omega)).mono ?_
      rintro e w2 ⟨rfl, hb2⟩
      obtain ⟨p2, v2, hbk2⟩ := (H.out.below hb2).row
      have c2 := hbk2.cell (i := 3) (v := .int .i64 D) rfl
      have f2 := hbk2.free 3
      have H2 := Lib.hid (H.out.below hb2)
      have HB2 := Lib.hid hb2
      clear hbk2 hb2
      go_wp2_with fail
      go_ret
      exact ⟨by rw [HA.out]; rfl, by rw [HN.out]; exact H2.out.deep (D + 1), (PFr.new hlt HB2.out).trans (PFr.set w2 b 3 _)⟩
    · have e2 : (k == 8) = false := by simpa using h8
      have HN : Hid (nextD D k = D) := Lib.hid (by unfold nextD; rw [if_neg h9, if_neg h8])
      clear h9 h8
      go_enter Tryd.func52, Tryd.ntmps52
      go_wp2_with fail
      refine (rep_any _ _ (by omega)).mono ?_
      rintro e w2 ⟨rfl, hb2⟩
      have H2 := Lib.hid (H.out.below hb2)
      have HB2 := Lib.hid hb2
      clear hb2
      go_wp2_with fail
      go_ret
      exact ⟨by rw [HA.out]; rfl, by rw [HN.out]; exact H2.out, PFr.new hlt HB2.out⟩
end Go.Proofs.YtpmbfcogkoiogaaDoor
end
section
namespace Go.Proofs.YtpmbfcogkoiogaaDoor
open Go.RowKit
attribute [local go_sem ↓] Go.wp_at_zero Go.wp_at_succ
def sumL (ws : List (List UInt8)) : Nat := (ws.map (·.length)).sum
theorem sumL_cons (u : List UInt8) (r : List (List UInt8)) : sumL (u :: r) = u.length + sumL r := by simp [sumL]
theorem sumL_take (r : List (List UInt8)) (k : Nat) : sumL (r.take k) ≤ sumL r := by
  have := List.take_append_drop k r
  conv => rhs; rw [← this]
  unfold sumL
  rw [List.map_append, List.sum_append]
  omega
theorem sumL_mem {ws : List (List UInt8)} {u : List UInt8} (h : u ∈ ws) : u.length ≤ sumL ws := by
  induction ws with
  | nil => cases h
  | cons a r ih =>
    rw [sumL_cons]
    rcases List.mem_cons.1 h with rfl | h
    · omega
    · have := ih h; omega
section
variable {ind : List UInt8} {W : Int}
theorem foldl_len (hi : ind.length ≤ 1000) : ∀ (r : List (List UInt8)) (st : List UInt8 × Nat), (r.foldl (bstep ind W) st).1.length ≤ st.1.length + sumL r + r.length * 1005 ∧ (r.foldl (bstep ind W) st).2 ≤ st.2 + sumL r + r.length * 1005
  | [], st => by simp [sumL]
  | u :: r, st => by
    obtain ⟨h1, h2⟩ := foldl_len hi r (bstep ind W st u)
    rw [List.foldl_cons, sumL_cons, List.length_cons]
    have h3 : (bstep ind W st u).1.length ≤ st.1.length + u.length + 1005 ∧ (bstep ind W st u).2 ≤ st.2 + u.length + 1005 := by
      unfold bstep bgap blen
      split <;> simp <;> omega
    omega
theorem bfold_len (hi : ind.length ≤ 1000) (u : List UInt8) (r : List (List UInt8)) : (bfold ind W u r).1.length ≤ sumL (u :: r) + (u :: r).length * 1005 ∧ (bfold ind W u r).2 ≤ sumL (u :: r) + (u :: r).length * 1005 := by
  have := foldl_len (W := W) hi r (ind ++ u, ind.length + u.length)
  rw [sumL_cons, List.length_cons]
  unfold bfold
  simp only [List.length_append] at this
  omega
theorem bfold_snoc (u : List UInt8) {r : List (List UInt8)} {k : Nat} {t : List UInt8} (h : r[k]? = some t) : bfold ind W u (r.take (k + 1)) = bstep ind W (bfold ind W u (r.take k)) t := by
  unfold bfold
  rw [take_snoc h, List.foldl_append]
  rfl
end
theorem PFr.setAt (w : World) (b : Nat) {g : Nat} (i : Nat) (q : Value) (h : b ≤ g) : PFr w (w.setCell ⟨g, i, none⟩ q) b [g] :=
  ⟨(Below.refl b w).setCell (p := ⟨g, i, none⟩) h _, fun _ _ a1 _ a3 _ => (Below.heap_setCell _ _ _ _ (by dsimp only; intro e; exact a3 (by simp [e]))).trans a1⟩
set_option maxRecDepth 100000 in
theorem slice_tail (bv ov n c : Nat) (hc : n + 1 ≤ c) (hm : n + 1 ≤ 9223372036854775807) : ∃ o1, (∀ W, (Instr.slice 22 (.slice (some ⟨bv, ov, none⟩) (n + 1) c) (some (.int .i64 1)) none none).run Tryd.prog W = .ok (.slice (some ⟨bv, o1, none⟩) n (c - 1)) W) ∧ (n ≠ 0 → o1 = ov + 1) := by
  refine ⟨if c = 1 then ov else ov + 1, fun W => ?_, fun h => if_neg (by omega)⟩
  rw [run_slice_l (P := Tryd.prog) W 22 _ (n + 1) c Tryd.underlying22 .i64 1 (by omega) (by omega)]
  rw [show Tryd.prog.elem 22 = 9 by kernel_rfl, Tryd.sizeOf9]
  simp only [Result.andThen, sliced]
  by_cases h1 : c = 1
  · subst h1
    simp
  · simp [h1, Addr.add]
theorem PFr.past {w w1 w2 : World} {b : Nat} {x : List Nat} (h : PFr w w1 b []) (h2 : PFr w1 w2 b x) (hx : ∀ k ∈ x, w.heap.size ≤ k) : PFr w w2 b [] :=
  ⟨h.below.trans h2.below, fun k o a1 a2 _ a4 => h2.kept k o (h.kept k o a1 a2 (by simp) a4) a2 (fun hm => by have := hx k hm; have := (Array.getElem?_eq_some_iff.1 a1).1; omega) a4⟩
/-- a block beside the printer, by its type -/
theorem Prn.apart {w : World} {b g : Nat} {l : List UInt8} {W D : Int} {t : TypeId} {cs : Array Value} (h : Prn w b l W D) (hr : Row w g t cs) (h1 : t ≠ 99) : g ≠ b := by
  rintro rfl
  obtain ⟨p, v, hb⟩ := h.blk
  unfold Row at hr
  rw [hr] at hb
  simp at hb
  exact h1 hb.2
theorem PFr.cell {w w' : World} {b bv : Nat} {x : List Nat} {E : TypeId} {v : Value} (h : PFr w w' b x) (hv : TyB w E v) (e : v.ownBlock = some bv) (hE : E ≠ 5) (hb : ∀ c fz, w.heap[b]? ≠ some (.cells c E fz)) (hx : ∀ k ∈ x, ∀ c fz, w.heap[k]? ≠ some (.cells c E fz)) (o : Nat) : w'.cell? ⟨bv, o, none⟩ = w.cell? ⟨bv, o, none⟩ := by
  obtain ⟨c, fr, hg⟩ := hv bv e
  have h1 := h.kept bv _ hg (fun e1 => hb c fr (e1 ▸ hg)) (fun hm => hx bv hm c fr hg) (fun _ _ e1 => by cases e1; exact hE rfl)
  unfold World.cell?
  rw [h1, hg]
set_option maxHeartbeats 4000000 in
set_option maxRecDepth 100000 in
theorem prn_block (w : World) (b : Nat) (l ind : List UInt8) (W D : Int) (v : Value) (ws : List (List UInt8)) (h : Prn w b l W D) (hv : Strs w v ws) (ht : TyB w 9 v) (hl : l.length ≤ 10000000) (hi : ind.length ≤ 1000) (hws : ws.length ≤ 10000) (hsum : sumL ws ≤ 1000000) :
    Calls Tryd.prog 51 #[.pointer (some ⟨b, 0, none⟩), .string ⟨ind.toArray⟩, v] w fun e w' => (∃ v, e = .returned v) ∧ Prn w' b (l ++ blockS ind W ws) W D ∧ PFr w w' b [] := by
  have H := Lib.hid h
  have hlt := h.lt
  have HV := Lib.hid hv
  have HT := Lib.hid ht
  obtain ⟨A, c, rfl, hc, hm, hx⟩ := hv.open_
  clear h hv ht
  cases ws with
  | nil =>
    simp only [List.length_nil]
    have e0 : ((0 : Int) == 0) = true := rfl
    go_enter Tryd.func51, Tryd.ntmps51
    go_wp2_with fail
    refine bodyPost_ret (v := .tuple #[]) (by simp [results, Tryd.results51, go_sem]) rfl ?_
    exact ⟨⟨_, rfl⟩, by rw [blockS, List.append_nil]; exact H.out.below (new_ (Below.refl _ _) _), PFr.new hlt (new_ (Below.refl _ _) _)⟩
  | cons u r =>
    obtain ⟨bv, ov, hA, hu0⟩ := hx 0 u rfl
    subst hA
    simp only [Nat.add_zero] at hu0
    have hblt : bv < w.heap.size := cell_lt hu0
    have hlu : u.length ≤ 1000000 := Nat.le_trans (sumL_mem (by simp)) hsum
    have HX : Hid (∀ (k : Nat) (t : List UInt8), r[k]? = some t → ∃ b' o', bv = b' ∧ ov = o' ∧ w.cell? ⟨b', o' + (k + 1), none⟩ = some (.string ⟨t.toArray⟩)) := Lib.hid fun k t hk => by
      obtain ⟨b', o', e, hh⟩ := hx (k + 1) t hk
      cases e
      exact ⟨_, _, rfl, rfl, hh⟩
    have HSUM := Lib.hid hsum
    simp only [List.length_cons] at hc hm hws ⊢
    have e0 : ((r.length + 1 : Nat) == 0) = false := rfl
    have e1 : (((r.length : Int) + 1) == 0) = false := by rw [beq_eq_false_iff_ne]; omega
    unfold maxLen at hm
    obtain ⟨o1, hsl, ho1⟩ := slice_tail bv ov r.length c hc (by omega)
    have HO := Lib.hid ho1
    clear hx hsum ho1
    go_enter Tryd.func51, Tryd.ntmps51
    go_wp2_with fail
    have HB1 : Hid (Below w.heap.size w ((w.alloc (.cells #[.pointer (some ⟨b, 0, none⟩)] 93)).alloc (.cells #[.int .i64 0] 3))) := Lib.hid (new_ (new_ (Below.refl _ _) _) _)
    refine (prn_put _ b w.heap.size (w.heap.size + 1) l ind u W D 0 (H.out.below HB1.out) ((Row.new w _ _).alloc _) (Row.new' _ _ _ (by simp)) (by omega) (by omega) (by omega) (by omega) (by omega)).mono ?_
    rintro e w1 ⟨⟨v1, rfl⟩, h1, hn1, hf1⟩
    have hb0 := bfold_len (W := W) hi u []
    have HP1 := Lib.hid (hf1.row ((Row.new w 93 #[.pointer (some ⟨b, 0, none⟩)]).alloc (.cells #[.int .i64 0] 3)) (by omega) (by simp) (by decide))
    have HF1 := Lib.hid ((PFr.new (x := []) hlt HB1.out).past hf1 (by simp))
    rw [Nat.zero_add] at hn1
    have H1 := Lib.hid h1
    have HN1 := Lib.hid hn1
    have HBV : Hid (∀ c fz, w.heap[b]? ≠ some (.cells c 9 fz)) := Lib.hid (H.out.not (by decide))
    have hrl : r.length ≤ 9223372036854775807 := by omega
    clear h1 hn1 hf1 hb0 e0 e1 hu0
    go_wp2_with fail
    go_loopw [23] (fun iv wr => ∃ k : Nat, k ≤ r.length ∧ iv = .int .i64 k ∧ Prn wr b (l ++ (bfold ind W u (r.take k)).1) W D ∧ Row wr w.heap.size 93 #[.pointer (some ⟨b, 0, none⟩)] ∧ Row wr (w.heap.size + 1) 3 #[.int .i64 ((bfold ind W u (r.take k)).2 : Nat)] ∧ PFr w wr b []) (fun iv _ => r.length - (intOf iv).toNat)
    case atStart => exact ⟨0, Nat.zero_le _, rfl, H1.out, HP1.out, HN1.out, HF1.out⟩
    case round =>
      obtain ⟨k, hk, rfl, hpr, hgp, hgl, hfr⟩ := hrel
      have HPR := Lib.hid hpr
      have HGP := Lib.hid hgp
      have HGL := Lib.hid hgl
      have HFR := Lib.hid hfr
      have hbw := hpr.lt
      by_cases hlt2 : k < r.length
      · obtain ⟨t, ht⟩ : ∃ t, r[k]? = some t := ⟨_, List.getElem?_eq_getElem hlt2⟩
        obtain ⟨b', o', rfl, rfl, hcx⟩ := HX.out k t ht
        obtain rfl := HO.out (by omega)
        have q0 : wr.cell? ⟨bv, ov + 1 + k, none⟩ = some (.string ⟨t.toArray⟩) := by
          rw [hfr.cell HT.out rfl (by decide) HBV.out (by simp), show ov + 1 + k = ov + (k + 1) by omega]
          exact hcx
        have hlen := bfold_len (W := W) hi u (r.take k)
        have hs1 := sumL_take r k
        have hs2 := HSUM.out
        have hs3 := sumL_mem (List.mem_of_getElem? ht)
        rw [sumL_cons] at hlen hs2
        simp only [List.length_cons, List.length_take] at hlen
        obtain ⟨X, n, hXn⟩ : ∃ X n, bfold ind W u (r.take k) = (X, n) := ⟨_, _, rfl⟩
        rw [hXn] at hlen hpr hgl
        have HS := Lib.hid (bfold_snoc (ind := ind) (W := W) u ht)
        have HXN := Lib.hid hXn
        have g0 := hgp.cell (i := 0) (v := .pointer (some ⟨b, 0, none⟩)) rfl
        have g1 := hgl.cell (i := 0) (v := .int .i64 (n : Nat)) rfl
        obtain ⟨pb, vb, hblk⟩ := hpr.row
        have g2 := hblk.cell (i := 2) (v := .int .i64 W) rfl
        have hnn : n ≤ 20000000 := by dsimp only at hlen; omega
        have hxl : X.length ≤ 20000000 := by dsimp only at hlen; omega
        have htl : t.length ≤ 1000000 := by omega
        have HPR2 := Lib.hid hpr
        have HGL2 := Lib.hid hgl
        clear hpr hgp hgl hfr hcx ht hlen hs1 hs2 hs3 hXn hblk HPR HGL
        by_cases hfit : bfit W n t = true
        · have hf := hfit
          unfold bfit at hf
          have e2 : decide ((n : Int) + 1 + (t.length : Int) ≤ W) = true := by
            rw [decide_eq_true_iff] at hf ⊢
            omega
          have HFT := Lib.hid hfit
          clear hf hfit
          go_wp2_with fail
          go_quiet (fail)
          go_wp2_with fail
          have hbq : Below wr.heap.size wr (wr.drewN nq) := below_drewN (Below.refl _ _) nq
          refine (prn_put _ b w.heap.size (w.heap.size + 1) (l ++ X) [32] t W D n (HPR2.out.below hbq) (HGP.out.drewN nq) (HGL2.out.drewN nq) (by omega) (by simp; omega) (by simp) (by omega) (by omega)).mono ?_
          rintro e w2 ⟨⟨v2, rfl⟩, h2, hn2, hf2⟩
          have HGP2 := Lib.hid (hf2.row (HGP.out.drewN nq) (by omega) (by simp) (by decide))
          have HF2 := Lib.hid (HFR.out.past ((PFr.new (x := []) (b := b) hbw hbq).wide.trans hf2) (by simp))
          have H2 := Lib.hid h2
          have HN2 := Lib.hid hn2
          clear h2 hn2 hf2 hbq
          go_wp2_with fail
          go_roundw
          case rel =>
            refine ⟨k + 1, by omega, by go_num, ?_, HGP2.out, ?_, HF2.out⟩
            · rw [HS.out, HXN.out]
              unfold bstep bgap
              rw [if_pos HFT.out, ← List.append_assoc]
              exact H2.out
            · rw [HS.out, HXN.out]
              unfold bstep blen
              rw [if_pos HFT.out]
              have h5 := HN2.out
              rwa [show n + (([32] : List UInt8).length + t.length) = n + 1 + t.length by simp; omega] at h5
          case measure => simp [intOf]; omega
        · have hf := hfit
          unfold bfit at hf
          have e2 : decide ((n : Int) + 1 + (t.length : Int) ≤ W) = false := by
            rw [decide_eq_true_iff] at hf
            rw [decide_eq_false_iff_not]
            omega
          have HFT := Lib.hid hfit
          have hca := cat_run (rfl : ind ++ [32, 32, 32, 32] = ind ++ [32, 32, 32, 32]) (by simp; omega)
          clear hf hfit
          go_wp2_with fail
          go_quiet (fail)
          go_wp2_with fail
          have hbq : Below wr.heap.size wr (wr.drewN nq) := below_drewN (Below.refl _ _) nq
          refine (prn_byte _ b (l ++ X) 10 10 rfl W D (HPR2.out.below hbq) (by simp; omega)).mono ?_
          rintro e w2 ⟨rfl, h2, hf2⟩
          have HGP2 := Lib.hid (hf2.row (HGP.out.drewN nq) (HPR2.out.apart HGP.out (by decide)) (by simp) (by decide))
          have HGL3 := Lib.hid (hf2.row (HGL2.out.drewN nq) (HPR2.out.apart HGL2.out (by decide)) (by simp) (by decide))
          have HF2 := Lib.hid (HFR.out.past ((PFr.new (x := []) (b := b) hbw hbq).wide.trans hf2) (by simp))
          have H2 := Lib.hid h2
          have z2 := HGL3.out.lt
          have f2 := HGL3.out.free 0
          have y2 := HGL3.out.cell (i := 0) (v := .int .i64 (n : Nat)) rfl
          clear h2 hf2 hbq g1
          go_wp2_with fail
          obtain ⟨w3, hw3⟩ : ∃ w3, w3 = w2.setCell ⟨w.heap.size + 1, 0, none⟩ (.int .i64 0) := ⟨_, rfl⟩
          have H3 : Hid (Prn w3 b (l ++ X ++ [10]) W D) := Lib.hid (hw3 ▸ H2.out.store HGL3.out (by decide) (by decide) _)
          have HGP3 : Hid (Row w3 w.heap.size 93 #[.pointer (some ⟨b, 0, none⟩)]) := Lib.hid (hw3 ▸ HGP2.out.other (by simp) _)
          have HGL4 : Hid (Row w3 (w.heap.size + 1) 3 #[.int .i64 0]) := Lib.hid (hw3 ▸ HGL3.out.same1 _)
          have HF3 : Hid (PFr w w3 b []) := Lib.hid (hw3 ▸ HF2.out.past (PFr.setAt w2 b 0 _ (by omega)) (by simp))
          rw [← hw3]
          clear hw3
          refine (rep_any _ 4 (by omega)).mono ?_
          rintro e w4 ⟨rfl, hb4⟩
          have hb3 := H3.out.lt
          have H4 := Lib.hid (H3.out.below hb4)
          have HGP4 := Lib.hid (HGP3.out.below hb4 HGP3.out.lt)
          have HGL5 := Lib.hid (HGL4.out.below hb4 HGL4.out.lt)
          have HF4 := Lib.hid (HF3.out.trans (PFr.new hb3 hb4))
          clear hb4
          rw [show List.replicate (4 : Int).toNat (32 : UInt8) = [32, 32, 32, 32] from rfl]
          go_wp2_with fail
          refine (prn_put _ b w.heap.size (w.heap.size + 1) (l ++ X ++ [10]) (ind ++ [32, 32, 32, 32]) t W D 0 H4.out HGP4.out HGL5.out (by omega) (by simp; omega) (by simp; omega) (by omega) (by omega)).mono ?_
          rintro e w5 ⟨⟨v5, rfl⟩, h5, hn5, hf5⟩
          have HGP5 := Lib.hid (hf5.row HGP4.out (H4.out.apart HGP4.out (by decide)) (by simp) (by decide))
          have HF5 := Lib.hid (HF4.out.past hf5 (by simp))
          have H5 := Lib.hid h5
          have HN5 := Lib.hid hn5
          clear h5 hn5 hf5
          go_wp2_with fail
          go_roundw
          case rel =>
            refine ⟨k + 1, by omega, by go_num, ?_, HGP5.out, ?_, HF5.out⟩
            · rw [HS.out, HXN.out]
              unfold bstep bgap
              rw [if_neg HFT.out]
              simpa using H5.out
            · rw [HS.out, HXN.out]
              unfold bstep blen
              rw [if_neg HFT.out]
              have h5 := HN5.out
              rwa [show 0 + ((ind ++ [32, 32, 32, 32] : List UInt8).length + t.length) = ind.length + 4 + t.length by simp] at h5
          case measure => simp [intOf]; omega
      · obtain rfl : k = r.length := by omega
        rw [List.take_length] at hpr hgl
        have hlen := bfold_len (W := W) hi u r
        have hs2 := HSUM.out
        simp only [List.length_cons] at hlen
        have hxl : (bfold ind W u r).1.length ≤ 20000000 := by omega
        have HPR2 := Lib.hid hpr
        have g0 := hgp.cell (i := 0) (v := .pointer (some ⟨b, 0, none⟩)) rfl
        clear hpr hgp hgl hfr hlen hs2
        go_wp2_with fail
        refine (prn_byte _ b (l ++ (bfold ind W u r).1) 10 10 rfl W D HPR2.out (by simp; omega)).mono ?_
        rintro e w2 ⟨rfl, h2, hf2⟩
        have HF2 := Lib.hid (HFR.out.trans hf2)
        have H2 := Lib.hid h2
        clear h2 hf2
        go_wp2_with fail
        go_end0
        exact ⟨⟨_, rfl⟩, by rw [blockS, ← List.append_assoc]; exact H2.out, HF2.out⟩
end Go.Proofs.YtpmbfcogkoiogaaDoor
end
