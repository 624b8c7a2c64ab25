/- The taker's method take: what lies ahead of its loop. -/
import Derived.Test.YtignhjfobcnloaaSrcTake12
namespace Go.Proofs.Ytignhjfobcnloaa
open Go.RowKit
attribute [local go_sem] Oper.semAt_some
theorem own_alloc {w : World} {b n s : Nat} {e : TypeId} {v : Value} {xs : List Value} (h : w.ownsRow b e s v n xs) (o : Obj) : (w.alloc o).ownsRow b e s v n xs := own_below h (new_ (Below.refl _ _) o)
theorem own_drew' {w : World} {base : Nat} {e : TypeId} {size n : Nat} {v : Value} {xs : List Value} (h : w.ownsRow base e size v n xs) : w.drew.ownsRow base e size v n xs := h
set_option maxRecDepth 100000 in
set_option maxHeartbeats 4000000 in
theorem take_pre {f B : Nat} {fm : Value} {fs : List UInt8 → Option (List UInt8)} (TK : TakeOk f B fm fs) (w : World) (T M : Nat) (x : RdS) (vf vw vc : Value) (name : List UInt8) (hF : FilesAt B w fm fs) (h : TakAt B w T M fm x vf vw vc) (ok : OkR x) (hco : x.coms.length ≤ 8000 * x.files.length)
    (hn : name.length ≤ maxLen) (_hnm : name ∉ x.files) (_hfs : (fs name).isSome = true) (h40 : x.files.length < 40) (hfu : 41 ≤ f + 1 + x.files.length) :
    Calls Try.prog 63 #[.pointer (some ⟨T, 0, none⟩), .string ⟨name.toArray⟩] w (TakePost B T M fm w (takeS fs (f + 1) x name)) := by
  have HF := Lib.hid hF
  have HT := Lib.hid h
  have hlt := h.row.lt
  have hml := h.set.lt
  have hlo := h.lo
  have hBz : B ≤ w.heap.size := by omega
  obtain ⟨W1, hW1⟩ : ∃ W1, W1 = (w.alloc (.cells #[.pointer (some ⟨T, 0, none⟩)] 134)).alloc (.cells #[.string ⟨name.toArray⟩] 9) := ⟨_, rfl⟩
  have hb1 : Below w.heap.size w W1 := by rw [hW1]; exact new_ (new_ (Below.refl _ _) _) _
  have hX : Row W1 w.heap.size 134 #[.pointer (some ⟨T, 0, none⟩)] := by rw [hW1]; exact (Row.new _ _ _).alloc _
  have hNB : Row W1 (w.heap.size + 1) 9 #[.string ⟨name.toArray⟩] := by rw [hW1]; exact Row.new' _ _ _ (by simp)
  have hT1 := h.below hb1
  have hz1 : W1.heap.size = w.heap.size + 2 := by rw [hW1]; simp
  have HW1 := Lib.hid hW1
  have HZ1 := Lib.hid hz1
  clear hW1 hz1
  have x0 := hX.cell (i := 0) (v := .pointer (some ⟨T, 0, none⟩)) rfl
  have n0 := hNB.cell (i := 0) (v := .string ⟨name.toArray⟩) rfl
  have t1 := hT1.row.cell (i := 1) (v := .map (some M)) rfl
  obtain ⟨W2, hput, hset2, hg2⟩ := (hT1.set.below (Below.refl W1.heap.size W1).drew).put name hn (by unfold maxLen; omega)
  have HT1 := Lib.hid hT1
  have HXR := Lib.hid hX
  have HNR := Lib.hid hNB
  have HB1 := Lib.hid hb1
  clear hT1 hX hNB hb1
  refine (callsIn_wide (n := 3)).1 ?_
  refine calls_of_wpFn 3 Try.func63 rfl (wpFn_mono (Q := postT Try.prog Try.f63 _) ?_ fun _ _ _ => postT_body)
  simp only [Try.ntmps63, List.size_toArray, List.length_cons, List.length_nil, Nat.reduceAdd, Nat.reduceSub, Array.replicate_succ, Array.replicate_zero, List.push_toArray, List.append_toArray, List.nil_append, List.cons_append]
  refine wpFn_seq (wpFn_of 3 ?_)
  gi_wp2
  rw [← HW1.out]
  have hmo : Try.prog.follows .mixedOrders = true := by kernel_rfl
  refine wpFn_seq (wpFn_of 3 (wpIn_wide.2 ?_))
  go_region
  obtain ⟨hTS, hKT⟩ := tak_name (HT1.out.below (Below.refl _ _).drew) hg2 hset2
  obtain ⟨fA, fc, rfl, hfc⟩ := own_form hTS.fo
  have hX2 := (HXR.out.drew).grown hg2 (by simp; exact fun e => setM_row (HT1.out.set.below (Below.refl _ _).drew) HXR.out.drew e.symm)
  have hN2 := (HNR.out.drew).grown hg2 (by simp; exact fun e => setM_row (HT1.out.set.below (Below.refl _ _).drew) HNR.out.drew e.symm)
  have hsz2 : W1.heap.size ≤ W2.heap.size := hg2.size
  clear x0 n0 t1 hput hset2 hg2
  obtain ⟨W3, hW3⟩ : ∃ W3, W3 = W2.alloc (.cells #[.int .i64 x.files.length] 3) := ⟨_, rfl⟩
  have HW3 := Lib.hid hW3
  have hb3 : Below W2.heap.size W2 W3 := by rw [hW3]; exact new_ (Below.refl _ _) _
  have hTS3 := hTS.below hb3
  have hX3 := hX2.below hb3 hX2.lt
  have hN3 := hN2.below hb3 hN2.lt
  have hF3 : Row W3 W2.heap.size 3 #[.int .i64 x.files.length] := by rw [hW3]; exact Row.new _ _ _
  have HZ3 : Hid (W3.heap.size = W2.heap.size + 1) := Lib.hid (by rw [hW3]; simp)
  clear hW3
  have x2 := hX2.cell (i := 0) (v := .pointer (some ⟨T, 0, none⟩)) rfl
  have t2 := hTS.row.cell (i := 2) (v := .slice fA x.files.length fc) rfl
  have HX2 := Lib.hid hX2
  have HTS := Lib.hid hTS
  clear hX2 hN2 hTS
  simp only [Exit.then]
  refine wpFn_seq (wpFn_of 3 ?_)
  gi_wp2
  rw [← HW3.out]
  have hw1 := HB1.out.size
  have hBz3 : B ≤ W3.heap.size := by have := hb3.size; omega
  have hK3 : KpT B T w W3 := (KpT.of_below HB1.out hBz).trans ((KpT.of_below (Below.refl _ _).drew (by have := HB1.out.size; omega)).trans (hKT.trans (KpT.of_below hb3 (by omega))))
  have hnv : (Value.slice fA x.files.length fc).ownBlock ≠ some (w.heap.size + 1) := fun e => by have := (HT.out.fo.lt _ e).2; omega
  refine take_append hTS3 hX3 hN3 hF3 hnv h40 ?_
  intro vf' W4
  intros
  rename_i h4
  have hk4 := hK3.trans h4.kp
  have HH : TkH f B T M w.heap.size (w.heap.size + 1) W2.heap.size fm fs x name w W4 vf' vw vc :=
    ⟨TK, HF.out.below hk4.below_of, h4.ta, hk4, KeepN.taker HT.out HF.out.lf hk4, h4.xr, h4.nr, h4.fr, Nat.le_refl _, by omega, by have := HB1.out.size; omega, h4.nf, hBz, ok, hco, h40, hfu, hn⟩
  refine take_strip HH ?_
  intro v1 v2 WB w6
  intros
  rename_i ha
  exact take_rest HH ha
/-- take's contract, whatever the fuel -/
theorem take_ok (B : Nat) (fm : Value) (fs : List UInt8 → Option (List UInt8)) : ∀ f, TakeOk f B fm fs := by
  intro f
  induction f with
  | zero => intro w T M x vf vw vc name hF h ok hco hn hnm hfs h40 hfu; omega
  | succ f ih => exact fun w T M x vf vw vc name hF h ok hco hn hnm hfs h40 hfu => take_pre ih w T M x vf vw vc name hF h ok hco hn hnm hfs h40 (by omega)
end Go.Proofs.Ytignhjfobcnloaa
