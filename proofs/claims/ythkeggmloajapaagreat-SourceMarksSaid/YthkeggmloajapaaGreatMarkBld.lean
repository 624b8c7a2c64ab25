/- The shelf's contract of strings.Builder's WriteString, laid by hand. -/
import Derived.Test.YthkeggmloajapaaGreatShelf
import Derived.Test.YthkeggmloajapaaGreatBldA
namespace Go.Proofs.YthkeggmloajapaaGreat
open Go.RowKit
def bldRen : Go.Shelf.Ren := ⟨fun | 166 => 21 | 240 => 32 | 276 => 41 | n => n, fun | 0 => 0 | 3 => 3 | 4 => 4 | 5 => 5 | 9 => 9 | 20 => 20 | 37 => 49 | 64 => 64 | 70 => 57 | 72 => 59 | 75 => 63 | 80 => 67 | 164 => 99 | n => n, fun | n => n⟩
theorem bldLays166 : Go.Proofs.Lays.n166 Tryz.prog bldRen := {
  mixed := by kernel_rfl
  f166 := Tryz.func21.trans (congrArg some (by kernel_rfl))
  f240 := Tryz.func32.trans (congrArg some (by kernel_rfl))
  f276 := Tryz.func41.trans (congrArg some (by kernel_rfl))
  t0 := Tryz.underlying0
  a0 := Tryz.isAgg0
  z0 := Tryz.sizeOf0
  v0 := Tryz.zeroValue0
  t3 := Tryz.underlying3
  a3 := Tryz.isAgg3
  z3 := Tryz.sizeOf3
  v3 := Tryz.zeroValue3
  t4 := Tryz.underlying4
  a4 := Tryz.isAgg4
  z4 := Tryz.sizeOf4
  v4 := Tryz.zeroValue4
  t9 := Tryz.underlying9
  a9 := Tryz.isAgg9
  z9 := Tryz.sizeOf9
  v9 := Tryz.zeroValue9
  t20 := Tryz.underlying20
  a20 := Tryz.isAgg20
  z20 := Tryz.sizeOf20
  v20 := Tryz.zeroValue20
  t37 := Tryz.underlying49
  a37 := Tryz.isAgg49
  z37 := Tryz.sizeOf49
  v37 := Tryz.zeroValue49
  t70 := Tryz.underlying57
  a70 := Tryz.isAgg57
  z70 := Tryz.sizeOf57
  v70 := Tryz.zeroValue57
  t72 := Tryz.underlying59
  a72 := Tryz.isAgg59
  z72 := Tryz.sizeOf59
  v72 := Tryz.zeroValue59
  t75 := Tryz.underlying63
  a75 := Tryz.isAgg63
  z75 := Tryz.sizeOf63
  v75 := Tryz.zeroValue63
  t164 := Tryz.underlying99
  a164 := Tryz.isAgg99
  z164 := Tryz.sizeOf99
  v164 := Tryz.zeroValue99 }
theorem bldExtra : Builder.Extra Tryz.prog bldRen := {
  sizeBuilder := by kernel_rfl
  liesBuilder := by kernel_rfl
  t5 := Tryz.underlying5
  a5 := Tryz.isAgg5
  z5 := Tryz.sizeOf5
  v5 := Tryz.zeroValue5
  infoByte := by kernel_rfl
  cellsByte := by kernel_rfl
  sizeByte := by kernel_rfl
  neB5 := by decide }
theorem bldm_str (w : World) (B b : Nat) (l s : List UInt8) (h : Bld w B b l) (hl : l.length ≤ 1000000000) (hs : s.length ≤ 1000000000) (hB : B ≤ w.heap.size) :
    Calls Tryz.prog 21 #[.pointer (some ⟨b, 0, none⟩), .string ⟨s.toArray⟩] w fun e w' => (∃ v, e = .returned v) ∧ Bld w' B b (l ++ s) ∧ Below B w w' := by
  refine (Any.Builder_WriteString bldLays166 bldExtra B b _ ⟨s.toArray⟩ w h (by rw [Lib.byteCells_length]; simp [ByteArray.size]; omega) hB).mono ?_
  rintro e w' ⟨he, hb, hB'⟩
  exact ⟨⟨_, he⟩, .inr (by rw [Lib.byteCells_append]; exact hb), hB'⟩
end Go.Proofs.YthkeggmloajapaaGreat
