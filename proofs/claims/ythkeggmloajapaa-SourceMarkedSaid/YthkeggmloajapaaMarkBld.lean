/- The shelf's contract of strings.Builder's WriteString, laid by hand. -/
import Derived.Test.YthkeggmloajapaaShelf
import Derived.Test.YthkeggmloajapaaBldA
namespace Go.Proofs.Ythkeggmloajapaa
open Go.RowKit
def bldRen : Go.Shelf.Ren := ⟨fun | 166 => 17 | 240 => 27 | 276 => 35 | n => n, fun | 0 => 0 | 3 => 3 | 4 => 4 | 5 => 5 | 9 => 9 | 20 => 20 | 37 => 46 | 64 => 59 | 70 => 51 | 72 => 53 | 75 => 58 | 80 => 62 | 164 => 92 | n => n, fun | n => n⟩
theorem bldLays166 : Go.Proofs.Lays.n166 Try.prog bldRen := {
  mixed := by kernel_rfl
  f166 := Try.func17.trans (congrArg some (by kernel_rfl))
  f240 := Try.func27.trans (congrArg some (by kernel_rfl))
  f276 := Try.func35.trans (congrArg some (by kernel_rfl))
  t0 := Try.underlying0
  a0 := Try.isAgg0
  z0 := Try.sizeOf0
  v0 := Try.zeroValue0
  t3 := Try.underlying3
  a3 := Try.isAgg3
  z3 := Try.sizeOf3
  v3 := Try.zeroValue3
  t4 := Try.underlying4
  a4 := Try.isAgg4
  z4 := Try.sizeOf4
  v4 := Try.zeroValue4
  t9 := Try.underlying9
  a9 := Try.isAgg9
  z9 := Try.sizeOf9
  v9 := Try.zeroValue9
  t20 := Try.underlying20
  a20 := Try.isAgg20
  z20 := Try.sizeOf20
  v20 := Try.zeroValue20
  t37 := Try.underlying46
  a37 := Try.isAgg46
  z37 := Try.sizeOf46
  v37 := Try.zeroValue46
  t70 := Try.underlying51
  a70 := Try.isAgg51
  z70 := Try.sizeOf51
  v70 := Try.zeroValue51
  t72 := Try.underlying53
  a72 := Try.isAgg53
  z72 := Try.sizeOf53
  v72 := Try.zeroValue53
  t75 := Try.underlying58
  a75 := Try.isAgg58
  z75 := Try.sizeOf58
  v75 := Try.zeroValue58
  t164 := Try.underlying92
  a164 := Try.isAgg92
  z164 := Try.sizeOf92
  v164 := Try.zeroValue92 }
theorem bldExtra : Builder.Extra Try.prog bldRen := {
  sizeBuilder := by kernel_rfl
  liesBuilder := by kernel_rfl
  t5 := Try.underlying5
  a5 := Try.isAgg5
  z5 := Try.sizeOf5
  v5 := Try.zeroValue5
  infoByte := by kernel_rfl
  cellsByte := by kernel_rfl
  sizeByte := by kernel_rfl
  neB5 := by decide }
theorem bldm_str (w : World) (B b : Nat) (l s : List UInt8) (h : Bld w B b l) (hl : l.length ≤ 1000000000) (hs : s.length ≤ 1000000000) (hB : B ≤ w.heap.size) :
    Calls Try.prog 17 #[.pointer (some ⟨b, 0, none⟩), .string ⟨s.toArray⟩] w fun e w' => (∃ v, e = .returned v) ∧ Bld w' B b (l ++ s) ∧ Below B w w' := by
  refine (Any.Builder_WriteString bldLays166 bldExtra B b _ ⟨s.toArray⟩ w h (by rw [Lib.byteCells_length]; simp [ByteArray.size]; omega) hB).mono ?_
  rintro e w' ⟨he, hb, hB'⟩
  exact ⟨⟨_, he⟩, .inr (by rw [Lib.byteCells_append]; exact hb), hB'⟩
end Go.Proofs.Ythkeggmloajapaa
