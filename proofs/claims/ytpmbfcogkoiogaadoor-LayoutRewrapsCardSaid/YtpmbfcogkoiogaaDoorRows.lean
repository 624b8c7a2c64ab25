/-
  NARROWER THAN 'FOR EVERY INPUT', by the rows' own cells (each row's printed sentence says how): LayoutParses: laid · LayoutReads: laid · LayoutLines: laid · LayoutWrites: laid · LayoutBack: laid · LayoutRewraps: laid.
  DERIVED. THE GIVEN ROWS OF THIS SEAT. 6 by the template 'for every input the law returns true; each argument reads behind the call as it read before'; 0 by the template 'total and deterministic' (their statements: YtpmbfcogkoiogaaDoorTotals.lean).
  GIVEN WITH THE SEED: the statements are not yours to turn. If you find one false, say at which input.
  Laid BY PROGRAM, IN A SANDBOX (cutbox-rows.mjs): the forced cells as the released guide's own fill.sh prints them over the translation d5a8a7bad7d56040… (all of the seat's roots in one cut). By AI agents, Wed Nov 11 2026. No macro, syntax, notation, axiom, sorry.
-/
import Derived.Test.YtpmbfcogkoiogaaDoorChecked
import GoSem.Claim
import GoSem.ClaimJoined
import GoSem.ClaimMapViews
import Derived.JoinedTies
import Derived.KernelRfl
namespace Go.Proofs.YtpmbfcogkoiogaaDoor
/- THE CELL 'sum', in the pinned program and in every row, IS THE sha256 OF THE DUMP (.gsa) THAT YtpmbfcogkoiogaaDoorProg.lean LOADS. Nothing in Lean hashes anything: it is a label: what it is worth is what the hold of that sum in a sandbox is worth. -/
noncomputable def Tryd.pinned : Pinned := { name := "ytpmbfcogkoiogaadoor", sum := "d5a8a7bad7d56040ea3d3b1f82b17ae727d5f1d24a70ea0214e6b81a654d3b02", checked := Tryd.checked }
namespace Rows
def none {H : Type} : Left H := { results := [], args := [] }

/- WHAT THE LISTED PACKAGE-LEVEL VARIABLES READ AS WHEN THE CALL BEGINS. Each datum BY PROGRAM (the guide's laid-datum.mjs) off the statement by which the dump's own 'gosem.cut.vars' lays the variable. In a bare row this is a premise. The card (YtpmbfcogkoiogaaDoorCards.lean) ties it to the program's text. -/
def laid_apodixis_layout_forms {H : Type} : DataW H := .agg [.agg [.lit (.string []), .lit (.bool false), .lit (.int .i64 0), .lit (.int .i64 0)], .agg [.lit (.string [36, 99]), .lit (.bool false), .lit (.int .i64 1), .lit (.int .i64 200)], .agg [.lit (.string [36, 118]), .lit (.bool false), .lit (.int .i64 1), .lit (.int .i64 200)], .agg [.lit (.string [36, 102]), .lit (.bool true), .lit (.int .i64 2), .lit (.int .i64 2)], .agg [.lit (.string [36, 101]), .lit (.bool true), .lit (.int .i64 1), .lit (.int .i64 200)], .agg [.lit (.string [36, 100]), .lit (.bool false), .lit (.int .i64 1), .lit (.int .i64 200)], .agg [.lit (.string [36, 97]), .lit (.bool true), .lit (.int .i64 1), .lit (.int .i64 200)], .agg [.lit (.string [36, 112]), .lit (.bool true), .lit (.int .i64 1), .lit (.int .i64 200)], .agg [.lit (.string [36, 123]), .lit (.bool false), .lit (.int .i64 0), .lit (.int .i64 0)], .agg [.lit (.string [36, 125]), .lit (.bool false), .lit (.int .i64 0), .lit (.int .i64 0)]]
def laid_unicode_White_Space {H : Type} : DataW H := .ptr (.agg [.slice [.agg [.lit (.int .u16 9), .lit (.int .u16 13), .lit (.int .u16 1)], .agg [.lit (.int .u16 32), .lit (.int .u16 133), .lit (.int .u16 101)], .agg [.lit (.int .u16 160), .lit (.int .u16 5760), .lit (.int .u16 5600)], .agg [.lit (.int .u16 8192), .lit (.int .u16 8202), .lit (.int .u16 1)], .agg [.lit (.int .u16 8232), .lit (.int .u16 8233), .lit (.int .u16 1)], .agg [.lit (.int .u16 8239), .lit (.int .u16 8287), .lit (.int .u16 48)], .agg [.lit (.int .u16 12288), .lit (.int .u16 12288), .lit (.int .u16 1)]] [], .nil, .lit (.int .i64 2)])
def laid_strings_asciiSpace {H : Type} : DataW H := .agg [.lit (.int .u8 0), .lit (.int .u8 0), .lit (.int .u8 0), .lit (.int .u8 0), .lit (.int .u8 0), .lit (.int .u8 0), .lit (.int .u8 0), .lit (.int .u8 0), .lit (.int .u8 0), .lit (.int .u8 1), .lit (.int .u8 1), .lit (.int .u8 1), .lit (.int .u8 1), .lit (.int .u8 1), .lit (.int .u8 0), .lit (.int .u8 0), .lit (.int .u8 0), .lit (.int .u8 0), .lit (.int .u8 0), .lit (.int .u8 0), .lit (.int .u8 0), .lit (.int .u8 0), .lit (.int .u8 0), .lit (.int .u8 0), .lit (.int .u8 0), .lit (.int .u8 0), .lit (.int .u8 0), .lit (.int .u8 0), .lit (.int .u8 0), .lit (.int .u8 0), .lit (.int .u8 0), .lit (.int .u8 0), .lit (.int .u8 1), .lit (.int .u8 0), .lit (.int .u8 0), .lit (.int .u8 0), .lit (.int .u8 0), .lit (.int .u8 0), .lit (.int .u8 0), .lit (.int .u8 0), .lit (.int .u8 0), .lit (.int .u8 0), .lit (.int .u8 0), .lit (.int .u8 0), .lit (.int .u8 0), .lit (.int .u8 0), .lit (.int .u8 0), .lit (.int .u8 0), .lit (.int .u8 0), .lit (.int .u8 0), .lit (.int .u8 0), .lit (.int .u8 0), .lit (.int .u8 0), .lit (.int .u8 0), .lit (.int .u8 0), .lit (.int .u8 0), .lit (.int .u8 0), .lit (.int .u8 0), .lit (.int .u8 0), .lit (.int .u8 0), .lit (.int .u8 0), .lit (.int .u8 0), .lit (.int .u8 0), .lit (.int .u8 0), .lit (.int .u8 0), .lit (.int .u8 0), .lit (.int .u8 0), .lit (.int .u8 0), .lit (.int .u8 0), .lit (.int .u8 0), .lit (.int .u8 0), .lit (.int .u8 0), .lit (.int .u8 0), .lit (.int .u8 0), .lit (.int .u8 0), .lit (.int .u8 0), .lit (.int .u8 0), .lit (.int .u8 0), .lit (.int .u8 0), .lit (.int .u8 0), .lit (.int .u8 0), .lit (.int .u8 0), .lit (.int .u8 0), .lit (.int .u8 0), .lit (.int .u8 0), .lit (.int .u8 0), .lit (.int .u8 0), .lit (.int .u8 0), .lit (.int .u8 0), .lit (.int .u8 0), .lit (.int .u8 0), .lit (.int .u8 0), .lit (.int .u8 0), .lit (.int .u8 0), .lit (.int .u8 0), .lit (.int .u8 0), .lit (.int .u8 0), .lit (.int .u8 0), .lit (.int .u8 0), .lit (.int .u8 0), .lit (.int .u8 0), .lit (.int .u8 0), .lit (.int .u8 0), .lit (.int .u8 0), .lit (.int .u8 0), .lit (.int .u8 0), .lit (.int .u8 0), .lit (.int .u8 0), .lit (.int .u8 0), .lit (.int .u8 0), .lit (.int .u8 0), .lit (.int .u8 0), .lit (.int .u8 0), .lit (.int .u8 0), .lit (.int .u8 0), .lit (.int .u8 0), .lit (.int .u8 0), .lit (.int .u8 0), .lit (.int .u8 0), .lit (.int .u8 0), .lit (.int .u8 0), .lit (.int .u8 0), .lit (.int .u8 0), .lit (.int .u8 0), .lit (.int .u8 0), .lit (.int .u8 0), .lit (.int .u8 0), .lit (.int .u8 0), .lit (.int .u8 0), .lit (.int .u8 0), .lit (.int .u8 0), .lit (.int .u8 0), .lit (.int .u8 0), .lit (.int .u8 0), .lit (.int .u8 0), .lit (.int .u8 0), .lit (.int .u8 0), .lit (.int .u8 0), .lit (.int .u8 0), .lit (.int .u8 0), .lit (.int .u8 0), .lit (.int .u8 0), .lit (.int .u8 0), .lit (.int .u8 0), .lit (.int .u8 0), .lit (.int .u8 0), .lit (.int .u8 0), .lit (.int .u8 0), .lit (.int .u8 0), .lit (.int .u8 0), .lit (.int .u8 0), .lit (.int .u8 0), .lit (.int .u8 0), .lit (.int .u8 0), .lit (.int .u8 0), .lit (.int .u8 0), .lit (.int .u8 0), .lit (.int .u8 0), .lit (.int .u8 0), .lit (.int .u8 0), .lit (.int .u8 0), .lit (.int .u8 0), .lit (.int .u8 0), .lit (.int .u8 0), .lit (.int .u8 0), .lit (.int .u8 0), .lit (.int .u8 0), .lit (.int .u8 0), .lit (.int .u8 0), .lit (.int .u8 0), .lit (.int .u8 0), .lit (.int .u8 0), .lit (.int .u8 0), .lit (.int .u8 0), .lit (.int .u8 0), .lit (.int .u8 0), .lit (.int .u8 0), .lit (.int .u8 0), .lit (.int .u8 0), .lit (.int .u8 0), .lit (.int .u8 0), .lit (.int .u8 0), .lit (.int .u8 0), .lit (.int .u8 0), .lit (.int .u8 0), .lit (.int .u8 0), .lit (.int .u8 0), .lit (.int .u8 0), .lit (.int .u8 0), .lit (.int .u8 0), .lit (.int .u8 0), .lit (.int .u8 0), .lit (.int .u8 0), .lit (.int .u8 0), .lit (.int .u8 0), .lit (.int .u8 0), .lit (.int .u8 0), .lit (.int .u8 0), .lit (.int .u8 0), .lit (.int .u8 0), .lit (.int .u8 0), .lit (.int .u8 0), .lit (.int .u8 0), .lit (.int .u8 0), .lit (.int .u8 0), .lit (.int .u8 0), .lit (.int .u8 0), .lit (.int .u8 0), .lit (.int .u8 0), .lit (.int .u8 0), .lit (.int .u8 0), .lit (.int .u8 0), .lit (.int .u8 0), .lit (.int .u8 0), .lit (.int .u8 0), .lit (.int .u8 0), .lit (.int .u8 0), .lit (.int .u8 0), .lit (.int .u8 0), .lit (.int .u8 0), .lit (.int .u8 0), .lit (.int .u8 0), .lit (.int .u8 0), .lit (.int .u8 0), .lit (.int .u8 0), .lit (.int .u8 0), .lit (.int .u8 0), .lit (.int .u8 0), .lit (.int .u8 0), .lit (.int .u8 0), .lit (.int .u8 0), .lit (.int .u8 0), .lit (.int .u8 0), .lit (.int .u8 0), .lit (.int .u8 0), .lit (.int .u8 0), .lit (.int .u8 0), .lit (.int .u8 0), .lit (.int .u8 0), .lit (.int .u8 0), .lit (.int .u8 0), .lit (.int .u8 0), .lit (.int .u8 0), .lit (.int .u8 0), .lit (.int .u8 0), .lit (.int .u8 0), .lit (.int .u8 0), .lit (.int .u8 0), .lit (.int .u8 0), .lit (.int .u8 0), .lit (.int .u8 0), .lit (.int .u8 0), .lit (.int .u8 0), .lit (.int .u8 0), .lit (.int .u8 0), .lit (.int .u8 0)]

/-- 'apodixislaw03.LayoutParses': WHATEVER THE INPUT: true; the input reads as it did. -/
def layoutParsesSpec : ChangeSpec := { name := "layoutParses", fn := fun _ => fun
  | [d1, d2] => { results := [.lit (.bool true)], args := [d1, d2] }
  | _ => none }
def layoutParsesRow : OpenClaim := { program := "ytpmbfcogkoiogaadoor", sum := "d5a8a7bad7d56040ea3d3b1f82b17ae727d5f1d24a70ea0214e6b81a654d3b02", func := "apodixis/apodixislaw03.LayoutParses", spec := "layoutParses", inPlace := ["internal/abi.NoEscape", "internal/bytealg.MakeNoZero", "internal/bytealg.IndexByteString", "internal/bytealg.IndexString"], unfollowed := true, recurses := true, named := ["apodixis/layout.forms", "internal/bytealg.MaxLen"], apart := false, laid := [("apodixis/layout.forms", laid_apodixis_layout_forms)] }
def LayoutParsesSaid : Prop := layoutParsesRow.holds Tryd.pinned (OpenSpec.ofChange layoutParsesSpec)

/-- ITS FALSE NEIGHBOUR: 'it returns false'. Refute it at one input. -/
def layoutParsesWrong : ChangeSpec := { name := "layoutParses", fn := fun _ => fun
  | [d1, d2] => { results := [.lit (.bool false)], args := [d1, d2] }
  | _ => none }
def LayoutParsesWrongFalsely : Prop := layoutParsesRow.holds Tryd.pinned (OpenSpec.ofChange layoutParsesWrong)

/-- 'apodixislaw03.LayoutReads': WHATEVER THE INPUT: true; the input reads as it did. -/
def layoutReadsSpec : ChangeSpec := { name := "layoutReads", fn := fun _ => fun
  | [d] => { results := [.lit (.bool true)], args := [d] }
  | _ => none }
def layoutReadsRow : OpenClaim := { program := "ytpmbfcogkoiogaadoor", sum := "d5a8a7bad7d56040ea3d3b1f82b17ae727d5f1d24a70ea0214e6b81a654d3b02", func := "apodixis/apodixislaw03.LayoutReads", spec := "layoutReads", inPlace := ["internal/bytealg.IndexByteString", "internal/bytealg.IndexString"], unfollowed := true, recurses := true, named := ["apodixis/layout.forms", "internal/bytealg.MaxLen"], apart := false, laid := [("apodixis/layout.forms", laid_apodixis_layout_forms)] }
def LayoutReadsSaid : Prop := layoutReadsRow.holds Tryd.pinned (OpenSpec.ofChange layoutReadsSpec)

/-- ITS FALSE NEIGHBOUR: 'it returns false'. Refute it at one input. -/
def layoutReadsWrong : ChangeSpec := { name := "layoutReads", fn := fun _ => fun
  | [d] => { results := [.lit (.bool false)], args := [d] }
  | _ => none }
def LayoutReadsWrongFalsely : Prop := layoutReadsRow.holds Tryd.pinned (OpenSpec.ofChange layoutReadsWrong)

/-- 'apodixislaw03.LayoutLines': WHATEVER THE INPUT: true; the input reads as it did. -/
def layoutLinesSpec : ChangeSpec := { name := "layoutLines", fn := fun _ => fun
  | [d1, d2] => { results := [.lit (.bool true)], args := [d1, d2] }
  | _ => none }
def layoutLinesRow : OpenClaim := { program := "ytpmbfcogkoiogaadoor", sum := "d5a8a7bad7d56040ea3d3b1f82b17ae727d5f1d24a70ea0214e6b81a654d3b02", func := "apodixis/apodixislaw03.LayoutLines", spec := "layoutLines", inPlace := ["internal/bytealg.IndexByteString", "internal/bytealg.IndexString", "internal/abi.NoEscape", "internal/bytealg.MakeNoZero"], unfollowed := true, recurses := true, named := ["apodixis/layout.forms", "strings.asciiSpace", "unicode.White_Space", "internal/bytealg.MaxLen"], apart := false, laid := [("unicode.White_Space", laid_unicode_White_Space), ("strings.asciiSpace", laid_strings_asciiSpace), ("apodixis/layout.forms", laid_apodixis_layout_forms)] }
def LayoutLinesSaid : Prop := layoutLinesRow.holds Tryd.pinned (OpenSpec.ofChange layoutLinesSpec)

/-- ITS FALSE NEIGHBOUR: 'it returns false'. Refute it at one input. -/
def layoutLinesWrong : ChangeSpec := { name := "layoutLines", fn := fun _ => fun
  | [d1, d2] => { results := [.lit (.bool false)], args := [d1, d2] }
  | _ => none }
def LayoutLinesWrongFalsely : Prop := layoutLinesRow.holds Tryd.pinned (OpenSpec.ofChange layoutLinesWrong)

/-- 'apodixislaw03.LayoutWrites': WHATEVER THE INPUT: true; the input reads as it did. -/
def layoutWritesSpec : ChangeSpec := { name := "layoutWrites", fn := fun _ => fun
  | [d] => { results := [.lit (.bool true)], args := [d] }
  | _ => none }
def layoutWritesRow : OpenClaim := { program := "ytpmbfcogkoiogaadoor", sum := "d5a8a7bad7d56040ea3d3b1f82b17ae727d5f1d24a70ea0214e6b81a654d3b02", func := "apodixis/apodixislaw03.LayoutWrites", spec := "layoutWrites", inPlace := ["internal/abi.NoEscape", "internal/bytealg.MakeNoZero", "internal/bytealg.IndexByteString", "internal/bytealg.IndexString"], unfollowed := true, recurses := true, named := ["apodixis/layout.forms", "internal/bytealg.MaxLen"], apart := false, laid := [("apodixis/layout.forms", laid_apodixis_layout_forms)] }
def LayoutWritesSaid : Prop := layoutWritesRow.holds Tryd.pinned (OpenSpec.ofChange layoutWritesSpec)

/-- ITS FALSE NEIGHBOUR: 'it returns false'. Refute it at one input. -/
def layoutWritesWrong : ChangeSpec := { name := "layoutWrites", fn := fun _ => fun
  | [d] => { results := [.lit (.bool false)], args := [d] }
  | _ => none }
def LayoutWritesWrongFalsely : Prop := layoutWritesRow.holds Tryd.pinned (OpenSpec.ofChange layoutWritesWrong)

/-- 'apodixislaw03.LayoutBack': WHATEVER THE INPUT: true; the input reads as it did. -/
def layoutBackSpec : ChangeSpec := { name := "layoutBack", fn := fun _ => fun
  | [d1, d2, d3] => { results := [.lit (.bool true)], args := [d1, d2, d3] }
  | _ => none }
def layoutBackRow : OpenClaim := { program := "ytpmbfcogkoiogaadoor", sum := "d5a8a7bad7d56040ea3d3b1f82b17ae727d5f1d24a70ea0214e6b81a654d3b02", func := "apodixis/apodixislaw03.LayoutBack", spec := "layoutBack", inPlace := ["internal/abi.NoEscape", "internal/bytealg.MakeNoZero", "internal/bytealg.IndexByteString", "internal/bytealg.IndexString"], unfollowed := true, recurses := true, named := ["apodixis/layout.forms", "internal/bytealg.MaxLen"], apart := false, laid := [("apodixis/layout.forms", laid_apodixis_layout_forms)] }
def LayoutBackSaid : Prop := layoutBackRow.holds Tryd.pinned (OpenSpec.ofChange layoutBackSpec)

/-- ITS FALSE NEIGHBOUR: 'it returns false'. Refute it at one input. -/
def layoutBackWrong : ChangeSpec := { name := "layoutBack", fn := fun _ => fun
  | [d1, d2, d3] => { results := [.lit (.bool false)], args := [d1, d2, d3] }
  | _ => none }
def LayoutBackWrongFalsely : Prop := layoutBackRow.holds Tryd.pinned (OpenSpec.ofChange layoutBackWrong)

/-- 'apodixislaw03.LayoutRewraps': WHATEVER THE INPUT: true; the input reads as it did. -/
def layoutRewrapsSpec : ChangeSpec := { name := "layoutRewraps", fn := fun _ => fun
  | [d1, d2] => { results := [.lit (.bool true)], args := [d1, d2] }
  | _ => none }
def layoutRewrapsRow : OpenClaim := { program := "ytpmbfcogkoiogaadoor", sum := "d5a8a7bad7d56040ea3d3b1f82b17ae727d5f1d24a70ea0214e6b81a654d3b02", func := "apodixis/apodixislaw03.LayoutRewraps", spec := "layoutRewraps", inPlace := ["internal/bytealg.IndexByteString", "internal/bytealg.IndexString", "internal/abi.NoEscape", "internal/bytealg.MakeNoZero"], unfollowed := true, recurses := true, named := ["apodixis/layout.forms", "internal/bytealg.MaxLen"], apart := false, laid := [("apodixis/layout.forms", laid_apodixis_layout_forms)] }
def LayoutRewrapsSaid : Prop := layoutRewrapsRow.holds Tryd.pinned (OpenSpec.ofChange layoutRewrapsSpec)

/-- ITS FALSE NEIGHBOUR: 'it returns false'. Refute it at one input. -/
def layoutRewrapsWrong : ChangeSpec := { name := "layoutRewraps", fn := fun _ => fun
  | [d1, d2] => { results := [.lit (.bool false)], args := [d1, d2] }
  | _ => none }
def LayoutRewrapsWrongFalsely : Prop := layoutRewrapsRow.holds Tryd.pinned (OpenSpec.ofChange layoutRewrapsWrong)

/- THE SECOND FORM. 'bulk': how many values and letters a reading holds, each counted each time it is reached (what is shared counts as often as it is met; a slice's spare places count too). A statement '..UptoSaid' is the law's where the arguments, and the package variables that the reading takes, are together of bulk at most 1048576: NARROWER than '..Said'. Prove '..Said' where nothing that the law and all that it calls make is longer than what came in: it says more and counts as full. Else prove '..UptoSaid'. A law counts once. -/
mutual
def uptoBulk {H : Type} : DataW H → Nat
  | .lit (.string bytes) => bytes.length + 1
  | .lit _ => 1
  | .nil => 1
  | .ptr d => uptoBulk d + 1
  | .slice elems spare => uptoBulkAll elems + uptoBulkAll spare + 1
  | .agg parts => uptoBulkAll parts + 1
  | .iface _ d => uptoBulk d + 1
  | .map entries => uptoBulkEntries entries + 1
  | .held _ => 1
def uptoBulkAll {H : Type} : List (DataW H) → Nat
  | [] => 0
  | d :: r => uptoBulk d + uptoBulkAll r
def uptoBulkEntries {H : Type} : List (Lit × DataW H) → Nat
  | [] => 0
  | x :: r => uptoBulkEntry x + uptoBulkEntries r
def uptoBulkEntry {H : Type} : Lit × DataW H → Nat
  | (.string bytes, d) => bytes.length + uptoBulk d + 1
  | (_, d) => uptoBulk d + 1
 end
def uptoSmall : (H : Type) → List (DataW H) → Bool := fun _ ds => decide (uptoBulkAll ds ≤ 1048576)
def OpenSpec.upto (s : _root_.Go.ChangeSpec) : _root_.Go.OpenSpec := { _root_.Go.OpenSpec.ofChange s with cond := some uptoSmall }

/-- 'apodixislaw03.LayoutParses', WHERE WHAT IT READS IS OF BULK AT MOST 1048576: true; the input reads as it did. -/
def layoutParsesUptoRow : OpenClaim := { program := "ytpmbfcogkoiogaadoor", sum := "d5a8a7bad7d56040ea3d3b1f82b17ae727d5f1d24a70ea0214e6b81a654d3b02", func := "apodixis/apodixislaw03.LayoutParses", spec := "layoutParses", inPlace := ["internal/abi.NoEscape", "internal/bytealg.MakeNoZero", "internal/bytealg.IndexByteString", "internal/bytealg.IndexString"], unfollowed := true, recurses := true, named := ["apodixis/layout.forms", "internal/bytealg.MaxLen"], apart := false, laid := [("apodixis/layout.forms", laid_apodixis_layout_forms)], narrowed := true }
def LayoutParsesUptoSaid : Prop := layoutParsesUptoRow.holds Tryd.pinned (OpenSpec.upto layoutParsesSpec)

/-- 'apodixislaw03.LayoutReads', WHERE WHAT IT READS IS OF BULK AT MOST 1048576: true; the input reads as it did. -/
def layoutReadsUptoRow : OpenClaim := { program := "ytpmbfcogkoiogaadoor", sum := "d5a8a7bad7d56040ea3d3b1f82b17ae727d5f1d24a70ea0214e6b81a654d3b02", func := "apodixis/apodixislaw03.LayoutReads", spec := "layoutReads", inPlace := ["internal/bytealg.IndexByteString", "internal/bytealg.IndexString"], unfollowed := true, recurses := true, named := ["apodixis/layout.forms", "internal/bytealg.MaxLen"], apart := false, laid := [("apodixis/layout.forms", laid_apodixis_layout_forms)], narrowed := true }
def LayoutReadsUptoSaid : Prop := layoutReadsUptoRow.holds Tryd.pinned (OpenSpec.upto layoutReadsSpec)

/-- 'apodixislaw03.LayoutLines', WHERE WHAT IT READS IS OF BULK AT MOST 1048576: true; the input reads as it did. -/
def layoutLinesUptoRow : OpenClaim := { program := "ytpmbfcogkoiogaadoor", sum := "d5a8a7bad7d56040ea3d3b1f82b17ae727d5f1d24a70ea0214e6b81a654d3b02", func := "apodixis/apodixislaw03.LayoutLines", spec := "layoutLines", inPlace := ["internal/bytealg.IndexByteString", "internal/bytealg.IndexString", "internal/abi.NoEscape", "internal/bytealg.MakeNoZero"], unfollowed := true, recurses := true, named := ["apodixis/layout.forms", "strings.asciiSpace", "unicode.White_Space", "internal/bytealg.MaxLen"], apart := false, laid := [("unicode.White_Space", laid_unicode_White_Space), ("strings.asciiSpace", laid_strings_asciiSpace), ("apodixis/layout.forms", laid_apodixis_layout_forms)], narrowed := true }
def LayoutLinesUptoSaid : Prop := layoutLinesUptoRow.holds Tryd.pinned (OpenSpec.upto layoutLinesSpec)

/-- 'apodixislaw03.LayoutWrites', WHERE WHAT IT READS IS OF BULK AT MOST 1048576: true; the input reads as it did. -/
def layoutWritesUptoRow : OpenClaim := { program := "ytpmbfcogkoiogaadoor", sum := "d5a8a7bad7d56040ea3d3b1f82b17ae727d5f1d24a70ea0214e6b81a654d3b02", func := "apodixis/apodixislaw03.LayoutWrites", spec := "layoutWrites", inPlace := ["internal/abi.NoEscape", "internal/bytealg.MakeNoZero", "internal/bytealg.IndexByteString", "internal/bytealg.IndexString"], unfollowed := true, recurses := true, named := ["apodixis/layout.forms", "internal/bytealg.MaxLen"], apart := false, laid := [("apodixis/layout.forms", laid_apodixis_layout_forms)], narrowed := true }
def LayoutWritesUptoSaid : Prop := layoutWritesUptoRow.holds Tryd.pinned (OpenSpec.upto layoutWritesSpec)

/-- 'apodixislaw03.LayoutBack', WHERE WHAT IT READS IS OF BULK AT MOST 1048576: true; the input reads as it did. -/
def layoutBackUptoRow : OpenClaim := { program := "ytpmbfcogkoiogaadoor", sum := "d5a8a7bad7d56040ea3d3b1f82b17ae727d5f1d24a70ea0214e6b81a654d3b02", func := "apodixis/apodixislaw03.LayoutBack", spec := "layoutBack", inPlace := ["internal/abi.NoEscape", "internal/bytealg.MakeNoZero", "internal/bytealg.IndexByteString", "internal/bytealg.IndexString"], unfollowed := true, recurses := true, named := ["apodixis/layout.forms", "internal/bytealg.MaxLen"], apart := false, laid := [("apodixis/layout.forms", laid_apodixis_layout_forms)], narrowed := true }
def LayoutBackUptoSaid : Prop := layoutBackUptoRow.holds Tryd.pinned (OpenSpec.upto layoutBackSpec)

/-- 'apodixislaw03.LayoutRewraps', WHERE WHAT IT READS IS OF BULK AT MOST 1048576: true; the input reads as it did. -/
def layoutRewrapsUptoRow : OpenClaim := { program := "ytpmbfcogkoiogaadoor", sum := "d5a8a7bad7d56040ea3d3b1f82b17ae727d5f1d24a70ea0214e6b81a654d3b02", func := "apodixis/apodixislaw03.LayoutRewraps", spec := "layoutRewraps", inPlace := ["internal/bytealg.IndexByteString", "internal/bytealg.IndexString", "internal/abi.NoEscape", "internal/bytealg.MakeNoZero"], unfollowed := true, recurses := true, named := ["apodixis/layout.forms", "internal/bytealg.MaxLen"], apart := false, laid := [("apodixis/layout.forms", laid_apodixis_layout_forms)], narrowed := true }
def LayoutRewrapsUptoSaid : Prop := layoutRewrapsUptoRow.holds Tryd.pinned (OpenSpec.upto layoutRewrapsSpec)

end Rows
end Go.Proofs.YtpmbfcogkoiogaaDoor
