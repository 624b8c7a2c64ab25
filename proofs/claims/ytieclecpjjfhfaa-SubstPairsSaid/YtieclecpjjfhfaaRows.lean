/-
  NARROWER THAN 'FOR EVERY INPUT', by the rows' own cells (each row's printed sentence says how): SourceReads: maps · SourceOnce: maps.
  DERIVED. THE GIVEN ROWS OF THIS SEAT. 14 by the template 'for every input the law returns true; each argument reads behind the call as it read before'; 0 by the template 'total and deterministic' (their statements: YtieclecpjjfhfaaTotals.lean).
  GIVEN WITH THE SEED: the statements are not yours to turn. If you find one false, say at which input.
  Laid BY PROGRAM, IN A SANDBOX (cutbox-rows.mjs): the forced cells as the released guide's own fill.sh prints them over the translation dd0f7339efe1fd5b… (all of the seat's roots in one cut). By AI agents, Wed Nov 11 2026. No macro, syntax, notation, axiom, sorry.
-/
import Derived.Test.YtieclecpjjfhfaaChecked
import GoSem.Claim
import GoSem.ClaimJoined
import GoSem.ClaimMapViews
import Derived.JoinedTies
import Derived.KernelRfl
namespace Go.Proofs.Ytieclecpjjfhfaa
/- THE CELL 'sum', in the pinned program and in every row, IS THE sha256 OF THE DUMP (.gsa) THAT YtieclecpjjfhfaaProg.lean LOADS. Nothing in Lean hashes anything: it is a label: what it is worth is what the hold of that sum in a sandbox is worth. -/
noncomputable def Try.pinned : Pinned := { name := "ytieclecpjjfhfaa", sum := "dd0f7339efe1fd5ba8b3ef347739b147722872be28292863480fe9db765942bf", checked := Try.checked }
namespace Rows
def none {H : Type} : Left H := { results := [], args := [] }

/-- 'apodixislaw08.CompressItems': WHATEVER THE INPUT: true; the input reads as it did. -/
def compressItemsSpec : ChangeSpec := { name := "compressItems", fn := fun _ => fun
  | [d1, d2] => { results := [.lit (.bool true)], args := [d1, d2] }
  | _ => none }
def compressItemsRow : OpenClaim := { program := "ytieclecpjjfhfaa", sum := "dd0f7339efe1fd5ba8b3ef347739b147722872be28292863480fe9db765942bf", func := "apodixis/apodixislaw08.CompressItems", spec := "compressItems", unfollowed := true, recurses := true, plainKeys := false, apart := false }
def CompressItemsSaid : Prop := compressItemsRow.holds Try.pinned (OpenSpec.ofChange compressItemsSpec)

/-- ITS FALSE NEIGHBOUR: 'it returns false'. Refute it at one input. -/
def compressItemsWrong : ChangeSpec := { name := "compressItems", fn := fun _ => fun
  | [d1, d2] => { results := [.lit (.bool false)], args := [d1, d2] }
  | _ => none }
def CompressItemsWrongFalsely : Prop := compressItemsRow.holds Try.pinned (OpenSpec.ofChange compressItemsWrong)

/-- 'apodixislaw08.CompressWords': WHATEVER THE INPUT: true; the input reads as it did. -/
def compressWordsSpec : ChangeSpec := { name := "compressWords", fn := fun _ => fun
  | [d1, d2, d3] => { results := [.lit (.bool true)], args := [d1, d2, d3] }
  | _ => none }
def compressWordsRow : OpenClaim := { program := "ytieclecpjjfhfaa", sum := "dd0f7339efe1fd5ba8b3ef347739b147722872be28292863480fe9db765942bf", func := "apodixis/apodixislaw08.CompressWords", spec := "compressWords", inPlace := ["internal/abi.NoEscape", "internal/bytealg.MakeNoZero"], unfollowed := true, recurses := true, plainKeys := false, apart := false }
def CompressWordsSaid : Prop := compressWordsRow.holds Try.pinned (OpenSpec.ofChange compressWordsSpec)

/-- ITS FALSE NEIGHBOUR: 'it returns false'. Refute it at one input. -/
def compressWordsWrong : ChangeSpec := { name := "compressWords", fn := fun _ => fun
  | [d1, d2, d3] => { results := [.lit (.bool false)], args := [d1, d2, d3] }
  | _ => none }
def CompressWordsWrongFalsely : Prop := compressWordsRow.holds Try.pinned (OpenSpec.ofChange compressWordsWrong)

/-- 'apodixislaw02.SourceStrips': WHATEVER THE INPUT: true; the input reads as it did. -/
def sourceStripsSpec : ChangeSpec := { name := "sourceStrips", fn := fun _ => fun
  | [d] => { results := [.lit (.bool true)], args := [d] }
  | _ => none }
def sourceStripsRow : OpenClaim := { program := "ytieclecpjjfhfaa", sum := "dd0f7339efe1fd5ba8b3ef347739b147722872be28292863480fe9db765942bf", func := "apodixis/apodixislaw02.SourceStrips", spec := "sourceStrips", inPlace := ["internal/bytealg.IndexByteString", "internal/bytealg.IndexString"], named := ["internal/bytealg.MaxLen"], plainKeys := false, apart := false }
def SourceStripsSaid : Prop := sourceStripsRow.holds Try.pinned (OpenSpec.ofChange sourceStripsSpec)

/-- ITS FALSE NEIGHBOUR: 'it returns false'. Refute it at one input. -/
def sourceStripsWrong : ChangeSpec := { name := "sourceStrips", fn := fun _ => fun
  | [d] => { results := [.lit (.bool false)], args := [d] }
  | _ => none }
def SourceStripsWrongFalsely : Prop := sourceStripsRow.holds Try.pinned (OpenSpec.ofChange sourceStripsWrong)

/-- 'apodixislaw02.SourceUnits': WHATEVER THE INPUT: true; the input reads as it did. -/
def sourceUnitsSpec : ChangeSpec := { name := "sourceUnits", fn := fun _ => fun
  | [d1, d2, d3] => { results := [.lit (.bool true)], args := [d1, d2, d3] }
  | _ => none }
def sourceUnitsRow : OpenClaim := { program := "ytieclecpjjfhfaa", sum := "dd0f7339efe1fd5ba8b3ef347739b147722872be28292863480fe9db765942bf", func := "apodixis/apodixislaw02.SourceUnits", spec := "sourceUnits", inPlace := ["internal/bytealg.IndexByteString", "internal/bytealg.IndexString"], named := ["internal/bytealg.MaxLen"], plainKeys := false, apart := false }
def SourceUnitsSaid : Prop := sourceUnitsRow.holds Try.pinned (OpenSpec.ofChange sourceUnitsSpec)

/-- ITS FALSE NEIGHBOUR: 'it returns false'. Refute it at one input. -/
def sourceUnitsWrong : ChangeSpec := { name := "sourceUnits", fn := fun _ => fun
  | [d1, d2, d3] => { results := [.lit (.bool false)], args := [d1, d2, d3] }
  | _ => none }
def SourceUnitsWrongFalsely : Prop := sourceUnitsRow.holds Try.pinned (OpenSpec.ofChange sourceUnitsWrong)

/-- 'apodixislaw02.SourceReads': WHATEVER THE INPUT: true; the input reads as it did. -/
def sourceReadsSpec : ChangeSpec := { name := "sourceReads", fn := fun _ => fun
  | [d1, d2, d3] => { results := [.lit (.bool true)], args := [d1, d2, d3] }
  | _ => none }
def sourceReadsRow : OpenClaim := { program := "ytieclecpjjfhfaa", sum := "dd0f7339efe1fd5ba8b3ef347739b147722872be28292863480fe9db765942bf", func := "apodixis/apodixislaw02.SourceReads", spec := "sourceReads", inPlace := ["internal/bytealg.IndexByteString", "internal/bytealg.IndexString"], unfollowed := true, recurses := true, named := ["internal/bytealg.MaxLen"], maps := true, plainKeys := false, apart := false }
def SourceReadsSaid : Prop := sourceReadsRow.holds Try.pinned (OpenSpec.ofChange sourceReadsSpec)

/-- ITS FALSE NEIGHBOUR: 'it returns false'. Refute it at one input. -/
def sourceReadsWrong : ChangeSpec := { name := "sourceReads", fn := fun _ => fun
  | [d1, d2, d3] => { results := [.lit (.bool false)], args := [d1, d2, d3] }
  | _ => none }
def SourceReadsWrongFalsely : Prop := sourceReadsRow.holds Try.pinned (OpenSpec.ofChange sourceReadsWrong)

/-- 'apodixislaw02.SourceComments': WHATEVER THE INPUT: true; the input reads as it did. -/
def sourceCommentsSpec : ChangeSpec := { name := "sourceComments", fn := fun _ => fun
  | [d1, d2, d3] => { results := [.lit (.bool true)], args := [d1, d2, d3] }
  | _ => none }
def sourceCommentsRow : OpenClaim := { program := "ytieclecpjjfhfaa", sum := "dd0f7339efe1fd5ba8b3ef347739b147722872be28292863480fe9db765942bf", func := "apodixis/apodixislaw02.SourceComments", spec := "sourceComments", inPlace := ["internal/bytealg.IndexByteString", "internal/bytealg.IndexString"], unfollowed := true, recurses := true, named := ["internal/bytealg.MaxLen"], plainKeys := false, apart := false }
def SourceCommentsSaid : Prop := sourceCommentsRow.holds Try.pinned (OpenSpec.ofChange sourceCommentsSpec)

/-- ITS FALSE NEIGHBOUR: 'it returns false'. Refute it at one input. -/
def sourceCommentsWrong : ChangeSpec := { name := "sourceComments", fn := fun _ => fun
  | [d1, d2, d3] => { results := [.lit (.bool false)], args := [d1, d2, d3] }
  | _ => none }
def SourceCommentsWrongFalsely : Prop := sourceCommentsRow.holds Try.pinned (OpenSpec.ofChange sourceCommentsWrong)

/-- 'apodixislaw02.SourceOnce': WHATEVER THE INPUT: true; the input reads as it did. -/
def sourceOnceSpec : ChangeSpec := { name := "sourceOnce", fn := fun _ => fun
  | [d1, d2] => { results := [.lit (.bool true)], args := [d1, d2] }
  | _ => none }
def sourceOnceRow : OpenClaim := { program := "ytieclecpjjfhfaa", sum := "dd0f7339efe1fd5ba8b3ef347739b147722872be28292863480fe9db765942bf", func := "apodixis/apodixislaw02.SourceOnce", spec := "sourceOnce", inPlace := ["internal/bytealg.IndexByteString", "internal/bytealg.IndexString"], unfollowed := true, recurses := true, named := ["internal/bytealg.MaxLen"], maps := true, plainKeys := false, apart := false }
def SourceOnceSaid : Prop := sourceOnceRow.holds Try.pinned (OpenSpec.ofChange sourceOnceSpec)

/-- ITS FALSE NEIGHBOUR: 'it returns false'. Refute it at one input. -/
def sourceOnceWrong : ChangeSpec := { name := "sourceOnce", fn := fun _ => fun
  | [d1, d2] => { results := [.lit (.bool false)], args := [d1, d2] }
  | _ => none }
def SourceOnceWrongFalsely : Prop := sourceOnceRow.holds Try.pinned (OpenSpec.ofChange sourceOnceWrong)

/-- 'apodixislaw06.SubstSwaps': WHATEVER THE INPUT: true; the input reads as it did. -/
def substSwapsSpec : ChangeSpec := { name := "substSwaps", fn := fun _ => fun
  | [d1, d2, d3, d4, d5] => { results := [.lit (.bool true)], args := [d1, d2, d3, d4, d5] }
  | _ => none }
def substSwapsRow : OpenClaim := { program := "ytieclecpjjfhfaa", sum := "dd0f7339efe1fd5ba8b3ef347739b147722872be28292863480fe9db765942bf", func := "apodixis/apodixislaw06.SubstSwaps", spec := "substSwaps", unfollowed := true, recurses := true, plainKeys := false, apart := false }
def SubstSwapsSaid : Prop := substSwapsRow.holds Try.pinned (OpenSpec.ofChange substSwapsSpec)

/-- ITS FALSE NEIGHBOUR: 'it returns false'. Refute it at one input. -/
def substSwapsWrong : ChangeSpec := { name := "substSwaps", fn := fun _ => fun
  | [d1, d2, d3, d4, d5] => { results := [.lit (.bool false)], args := [d1, d2, d3, d4, d5] }
  | _ => none }
def SubstSwapsWrongFalsely : Prop := substSwapsRow.holds Try.pinned (OpenSpec.ofChange substSwapsWrong)

/-- 'apodixislaw06.SubstPairs': WHATEVER THE INPUT: true; the input reads as it did. -/
def substPairsSpec : ChangeSpec := { name := "substPairs", fn := fun _ => fun
  | [d1, d2, d3, d4, d5] => { results := [.lit (.bool true)], args := [d1, d2, d3, d4, d5] }
  | _ => none }
def substPairsRow : OpenClaim := { program := "ytieclecpjjfhfaa", sum := "dd0f7339efe1fd5ba8b3ef347739b147722872be28292863480fe9db765942bf", func := "apodixis/apodixislaw06.SubstPairs", spec := "substPairs", unfollowed := true, recurses := true, plainKeys := false, apart := false }
def SubstPairsSaid : Prop := substPairsRow.holds Try.pinned (OpenSpec.ofChange substPairsSpec)

/-- ITS FALSE NEIGHBOUR: 'it returns false'. Refute it at one input. -/
def substPairsWrong : ChangeSpec := { name := "substPairs", fn := fun _ => fun
  | [d1, d2, d3, d4, d5] => { results := [.lit (.bool false)], args := [d1, d2, d3, d4, d5] }
  | _ => none }
def SubstPairsWrongFalsely : Prop := substPairsRow.holds Try.pinned (OpenSpec.ofChange substPairsWrong)

/-- 'apodixislaw06.SubstParts': WHATEVER THE INPUT: true; the input reads as it did. -/
def substPartsSpec : ChangeSpec := { name := "substParts", fn := fun _ => fun
  | [d1, d2, d3] => { results := [.lit (.bool true)], args := [d1, d2, d3] }
  | _ => none }
def substPartsRow : OpenClaim := { program := "ytieclecpjjfhfaa", sum := "dd0f7339efe1fd5ba8b3ef347739b147722872be28292863480fe9db765942bf", func := "apodixis/apodixislaw06.SubstParts", spec := "substParts", unfollowed := true, recurses := true, plainKeys := false, apart := false }
def SubstPartsSaid : Prop := substPartsRow.holds Try.pinned (OpenSpec.ofChange substPartsSpec)

/-- ITS FALSE NEIGHBOUR: 'it returns false'. Refute it at one input. -/
def substPartsWrong : ChangeSpec := { name := "substParts", fn := fun _ => fun
  | [d1, d2, d3] => { results := [.lit (.bool false)], args := [d1, d2, d3] }
  | _ => none }
def SubstPartsWrongFalsely : Prop := substPartsRow.holds Try.pinned (OpenSpec.ofChange substPartsWrong)

/-- 'apodixislaw06.SubstApplies': WHATEVER THE INPUT: true; the input reads as it did. -/
def substAppliesSpec : ChangeSpec := { name := "substApplies", fn := fun _ => fun
  | [d1, d2, d3, d4] => { results := [.lit (.bool true)], args := [d1, d2, d3, d4] }
  | _ => none }
def substAppliesRow : OpenClaim := { program := "ytieclecpjjfhfaa", sum := "dd0f7339efe1fd5ba8b3ef347739b147722872be28292863480fe9db765942bf", func := "apodixis/apodixislaw06.SubstApplies", spec := "substApplies", unfollowed := true, recurses := true, plainKeys := false, apart := false }
def SubstAppliesSaid : Prop := substAppliesRow.holds Try.pinned (OpenSpec.ofChange substAppliesSpec)

/-- ITS FALSE NEIGHBOUR: 'it returns false'. Refute it at one input. -/
def substAppliesWrong : ChangeSpec := { name := "substApplies", fn := fun _ => fun
  | [d1, d2, d3, d4] => { results := [.lit (.bool false)], args := [d1, d2, d3, d4] }
  | _ => none }
def SubstAppliesWrongFalsely : Prop := substAppliesRow.holds Try.pinned (OpenSpec.ofChange substAppliesWrong)

/-- 'apodixislaw06.SubstComposes': WHATEVER THE INPUT: true; the input reads as it did. -/
def substComposesSpec : ChangeSpec := { name := "substComposes", fn := fun _ => fun
  | [d1, d2] => { results := [.lit (.bool true)], args := [d1, d2] }
  | _ => none }
def substComposesRow : OpenClaim := { program := "ytieclecpjjfhfaa", sum := "dd0f7339efe1fd5ba8b3ef347739b147722872be28292863480fe9db765942bf", func := "apodixis/apodixislaw06.SubstComposes", spec := "substComposes", unfollowed := true, recurses := true, plainKeys := false, apart := false }
def SubstComposesSaid : Prop := substComposesRow.holds Try.pinned (OpenSpec.ofChange substComposesSpec)

/-- ITS FALSE NEIGHBOUR: 'it returns false'. Refute it at one input. -/
def substComposesWrong : ChangeSpec := { name := "substComposes", fn := fun _ => fun
  | [d1, d2] => { results := [.lit (.bool false)], args := [d1, d2] }
  | _ => none }
def SubstComposesWrongFalsely : Prop := substComposesRow.holds Try.pinned (OpenSpec.ofChange substComposesWrong)

/-- 'apodixislaw06.SubstTwice': WHATEVER THE INPUT: true; the input reads as it did. -/
def substTwiceSpec : ChangeSpec := { name := "substTwice", fn := fun _ => fun
  | [d1, d2, d3, d4] => { results := [.lit (.bool true)], args := [d1, d2, d3, d4] }
  | _ => none }
def substTwiceRow : OpenClaim := { program := "ytieclecpjjfhfaa", sum := "dd0f7339efe1fd5ba8b3ef347739b147722872be28292863480fe9db765942bf", func := "apodixis/apodixislaw06.SubstTwice", spec := "substTwice", unfollowed := true, recurses := true, plainKeys := false, apart := false }
def SubstTwiceSaid : Prop := substTwiceRow.holds Try.pinned (OpenSpec.ofChange substTwiceSpec)

/-- ITS FALSE NEIGHBOUR: 'it returns false'. Refute it at one input. -/
def substTwiceWrong : ChangeSpec := { name := "substTwice", fn := fun _ => fun
  | [d1, d2, d3, d4] => { results := [.lit (.bool false)], args := [d1, d2, d3, d4] }
  | _ => none }
def SubstTwiceWrongFalsely : Prop := substTwiceRow.holds Try.pinned (OpenSpec.ofChange substTwiceWrong)

/-- 'apodixislaw06.SubstApart': WHATEVER THE INPUT: true; the input reads as it did. -/
def substApartSpec : ChangeSpec := { name := "substApart", fn := fun _ => fun
  | [d1, d2, d3, d4] => { results := [.lit (.bool true)], args := [d1, d2, d3, d4] }
  | _ => none }
def substApartRow : OpenClaim := { program := "ytieclecpjjfhfaa", sum := "dd0f7339efe1fd5ba8b3ef347739b147722872be28292863480fe9db765942bf", func := "apodixis/apodixislaw06.SubstApart", spec := "substApart", unfollowed := true, recurses := true, plainKeys := false, apart := false }
def SubstApartSaid : Prop := substApartRow.holds Try.pinned (OpenSpec.ofChange substApartSpec)

/-- ITS FALSE NEIGHBOUR: 'it returns false'. Refute it at one input. -/
def substApartWrong : ChangeSpec := { name := "substApart", fn := fun _ => fun
  | [d1, d2, d3, d4] => { results := [.lit (.bool false)], args := [d1, d2, d3, d4] }
  | _ => none }
def SubstApartWrongFalsely : Prop := substApartRow.holds Try.pinned (OpenSpec.ofChange substApartWrong)

/- THE SECOND FORM. 'bulk': how many values and letters a reading holds, each counted each time it is reached (what is shared counts as often as it is met; a slice's spare places count too). A statement '..UptoSaid' is the law's where the arguments, and the package variables that the reading takes, are together of bulk at most 1048576: NARROWER than '..Said'. Prove '..Said' where nothing that the law and all that it calls make is longer than what came in: it says more and counts as full. Else prove '..UptoSaid'. A law counts once. -/
mutual
def uptoBulk {H : Type} : DataW H → Nat
  | .lit (.string bytes) => bytes.length + 1
  | .lit _ => 1
  | .nil => 1
  | .ptr d => uptoBulk d + 1
  | .slice elems spare => uptoBulkAll elems + uptoBulkAll spare + 1
  | .agg parts => uptoBulkAll parts + 1
  | .iface _ d => uptoBulk d + 1
  | .map entries => uptoBulkEntries entries + 1
  | .held _ => 1
def uptoBulkAll {H : Type} : List (DataW H) → Nat
  | [] => 0
  | d :: r => uptoBulk d + uptoBulkAll r
def uptoBulkEntries {H : Type} : List (Lit × DataW H) → Nat
  | [] => 0
  | x :: r => uptoBulkEntry x + uptoBulkEntries r
def uptoBulkEntry {H : Type} : Lit × DataW H → Nat
  | (.string bytes, d) => bytes.length + uptoBulk d + 1
  | (_, d) => uptoBulk d + 1
 end
def uptoSmall : (H : Type) → List (DataW H) → Bool := fun _ ds => decide (uptoBulkAll ds ≤ 1048576)
def OpenSpec.upto (s : _root_.Go.ChangeSpec) : _root_.Go.OpenSpec := { _root_.Go.OpenSpec.ofChange s with cond := some uptoSmall }

/-- 'apodixislaw08.CompressItems', WHERE WHAT IT READS IS OF BULK AT MOST 1048576: true; the input reads as it did. -/
def compressItemsUptoRow : OpenClaim := { program := "ytieclecpjjfhfaa", sum := "dd0f7339efe1fd5ba8b3ef347739b147722872be28292863480fe9db765942bf", func := "apodixis/apodixislaw08.CompressItems", spec := "compressItems", unfollowed := true, recurses := true, plainKeys := false, apart := false, narrowed := true }
def CompressItemsUptoSaid : Prop := compressItemsUptoRow.holds Try.pinned (OpenSpec.upto compressItemsSpec)

/-- 'apodixislaw08.CompressWords', WHERE WHAT IT READS IS OF BULK AT MOST 1048576: true; the input reads as it did. -/
def compressWordsUptoRow : OpenClaim := { program := "ytieclecpjjfhfaa", sum := "dd0f7339efe1fd5ba8b3ef347739b147722872be28292863480fe9db765942bf", func := "apodixis/apodixislaw08.CompressWords", spec := "compressWords", inPlace := ["internal/abi.NoEscape", "internal/bytealg.MakeNoZero"], unfollowed := true, recurses := true, plainKeys := false, apart := false, narrowed := true }
def CompressWordsUptoSaid : Prop := compressWordsUptoRow.holds Try.pinned (OpenSpec.upto compressWordsSpec)

/-- 'apodixislaw02.SourceStrips', WHERE WHAT IT READS IS OF BULK AT MOST 1048576: true; the input reads as it did. -/
def sourceStripsUptoRow : OpenClaim := { program := "ytieclecpjjfhfaa", sum := "dd0f7339efe1fd5ba8b3ef347739b147722872be28292863480fe9db765942bf", func := "apodixis/apodixislaw02.SourceStrips", spec := "sourceStrips", inPlace := ["internal/bytealg.IndexByteString", "internal/bytealg.IndexString"], named := ["internal/bytealg.MaxLen"], plainKeys := false, apart := false, narrowed := true }
def SourceStripsUptoSaid : Prop := sourceStripsUptoRow.holds Try.pinned (OpenSpec.upto sourceStripsSpec)

/-- 'apodixislaw02.SourceUnits', WHERE WHAT IT READS IS OF BULK AT MOST 1048576: true; the input reads as it did. -/
def sourceUnitsUptoRow : OpenClaim := { program := "ytieclecpjjfhfaa", sum := "dd0f7339efe1fd5ba8b3ef347739b147722872be28292863480fe9db765942bf", func := "apodixis/apodixislaw02.SourceUnits", spec := "sourceUnits", inPlace := ["internal/bytealg.IndexByteString", "internal/bytealg.IndexString"], named := ["internal/bytealg.MaxLen"], plainKeys := false, apart := false, narrowed := true }
def SourceUnitsUptoSaid : Prop := sourceUnitsUptoRow.holds Try.pinned (OpenSpec.upto sourceUnitsSpec)

/-- 'apodixislaw02.SourceReads', WHERE WHAT IT READS IS OF BULK AT MOST 1048576: true; the input reads as it did. -/
def sourceReadsUptoRow : OpenClaim := { program := "ytieclecpjjfhfaa", sum := "dd0f7339efe1fd5ba8b3ef347739b147722872be28292863480fe9db765942bf", func := "apodixis/apodixislaw02.SourceReads", spec := "sourceReads", inPlace := ["internal/bytealg.IndexByteString", "internal/bytealg.IndexString"], unfollowed := true, recurses := true, named := ["internal/bytealg.MaxLen"], maps := true, plainKeys := false, apart := false, narrowed := true }
def SourceReadsUptoSaid : Prop := sourceReadsUptoRow.holds Try.pinned (OpenSpec.upto sourceReadsSpec)

/-- 'apodixislaw02.SourceComments', WHERE WHAT IT READS IS OF BULK AT MOST 1048576: true; the input reads as it did. -/
def sourceCommentsUptoRow : OpenClaim := { program := "ytieclecpjjfhfaa", sum := "dd0f7339efe1fd5ba8b3ef347739b147722872be28292863480fe9db765942bf", func := "apodixis/apodixislaw02.SourceComments", spec := "sourceComments", inPlace := ["internal/bytealg.IndexByteString", "internal/bytealg.IndexString"], unfollowed := true, recurses := true, named := ["internal/bytealg.MaxLen"], plainKeys := false, apart := false, narrowed := true }
def SourceCommentsUptoSaid : Prop := sourceCommentsUptoRow.holds Try.pinned (OpenSpec.upto sourceCommentsSpec)

/-- 'apodixislaw02.SourceOnce', WHERE WHAT IT READS IS OF BULK AT MOST 1048576: true; the input reads as it did. -/
def sourceOnceUptoRow : OpenClaim := { program := "ytieclecpjjfhfaa", sum := "dd0f7339efe1fd5ba8b3ef347739b147722872be28292863480fe9db765942bf", func := "apodixis/apodixislaw02.SourceOnce", spec := "sourceOnce", inPlace := ["internal/bytealg.IndexByteString", "internal/bytealg.IndexString"], unfollowed := true, recurses := true, named := ["internal/bytealg.MaxLen"], maps := true, plainKeys := false, apart := false, narrowed := true }
def SourceOnceUptoSaid : Prop := sourceOnceUptoRow.holds Try.pinned (OpenSpec.upto sourceOnceSpec)

/-- 'apodixislaw06.SubstSwaps', WHERE WHAT IT READS IS OF BULK AT MOST 1048576: true; the input reads as it did. -/
def substSwapsUptoRow : OpenClaim := { program := "ytieclecpjjfhfaa", sum := "dd0f7339efe1fd5ba8b3ef347739b147722872be28292863480fe9db765942bf", func := "apodixis/apodixislaw06.SubstSwaps", spec := "substSwaps", unfollowed := true, recurses := true, plainKeys := false, apart := false, narrowed := true }
def SubstSwapsUptoSaid : Prop := substSwapsUptoRow.holds Try.pinned (OpenSpec.upto substSwapsSpec)

/-- 'apodixislaw06.SubstPairs', WHERE WHAT IT READS IS OF BULK AT MOST 1048576: true; the input reads as it did. -/
def substPairsUptoRow : OpenClaim := { program := "ytieclecpjjfhfaa", sum := "dd0f7339efe1fd5ba8b3ef347739b147722872be28292863480fe9db765942bf", func := "apodixis/apodixislaw06.SubstPairs", spec := "substPairs", unfollowed := true, recurses := true, plainKeys := false, apart := false, narrowed := true }
def SubstPairsUptoSaid : Prop := substPairsUptoRow.holds Try.pinned (OpenSpec.upto substPairsSpec)

/-- 'apodixislaw06.SubstParts', WHERE WHAT IT READS IS OF BULK AT MOST 1048576: true; the input reads as it did. -/
def substPartsUptoRow : OpenClaim := { program := "ytieclecpjjfhfaa", sum := "dd0f7339efe1fd5ba8b3ef347739b147722872be28292863480fe9db765942bf", func := "apodixis/apodixislaw06.SubstParts", spec := "substParts", unfollowed := true, recurses := true, plainKeys := false, apart := false, narrowed := true }
def SubstPartsUptoSaid : Prop := substPartsUptoRow.holds Try.pinned (OpenSpec.upto substPartsSpec)

/-- 'apodixislaw06.SubstApplies', WHERE WHAT IT READS IS OF BULK AT MOST 1048576: true; the input reads as it did. -/
def substAppliesUptoRow : OpenClaim := { program := "ytieclecpjjfhfaa", sum := "dd0f7339efe1fd5ba8b3ef347739b147722872be28292863480fe9db765942bf", func := "apodixis/apodixislaw06.SubstApplies", spec := "substApplies", unfollowed := true, recurses := true, plainKeys := false, apart := false, narrowed := true }
def SubstAppliesUptoSaid : Prop := substAppliesUptoRow.holds Try.pinned (OpenSpec.upto substAppliesSpec)

/-- 'apodixislaw06.SubstComposes', WHERE WHAT IT READS IS OF BULK AT MOST 1048576: true; the input reads as it did. -/
def substComposesUptoRow : OpenClaim := { program := "ytieclecpjjfhfaa", sum := "dd0f7339efe1fd5ba8b3ef347739b147722872be28292863480fe9db765942bf", func := "apodixis/apodixislaw06.SubstComposes", spec := "substComposes", unfollowed := true, recurses := true, plainKeys := false, apart := false, narrowed := true }
def SubstComposesUptoSaid : Prop := substComposesUptoRow.holds Try.pinned (OpenSpec.upto substComposesSpec)

/-- 'apodixislaw06.SubstTwice', WHERE WHAT IT READS IS OF BULK AT MOST 1048576: true; the input reads as it did. -/
def substTwiceUptoRow : OpenClaim := { program := "ytieclecpjjfhfaa", sum := "dd0f7339efe1fd5ba8b3ef347739b147722872be28292863480fe9db765942bf", func := "apodixis/apodixislaw06.SubstTwice", spec := "substTwice", unfollowed := true, recurses := true, plainKeys := false, apart := false, narrowed := true }
def SubstTwiceUptoSaid : Prop := substTwiceUptoRow.holds Try.pinned (OpenSpec.upto substTwiceSpec)

/-- 'apodixislaw06.SubstApart', WHERE WHAT IT READS IS OF BULK AT MOST 1048576: true; the input reads as it did. -/
def substApartUptoRow : OpenClaim := { program := "ytieclecpjjfhfaa", sum := "dd0f7339efe1fd5ba8b3ef347739b147722872be28292863480fe9db765942bf", func := "apodixis/apodixislaw06.SubstApart", spec := "substApart", unfollowed := true, recurses := true, plainKeys := false, apart := false, narrowed := true }
def SubstApartUptoSaid : Prop := substApartUptoRow.holds Try.pinned (OpenSpec.upto substApartSpec)

end Rows
end Go.Proofs.Ytieclecpjjfhfaa
