/-
  NARROWER THAN 'FOR EVERY INPUT', by the rows' own cells (each row's printed sentence says how): SourceReads: maps · SourceOnce: maps.
  DERIVED. THE GIVEN ROWS OF THIS SEAT. 7 by the template 'for every input the law returns true; each argument reads behind the call as it read before'; 0 by the template 'total and deterministic' (their statements: YtignhjfobcnloaaTotals.lean).
  GIVEN WITH THE SEED: the statements are not yours to turn. If you find one false, say at which input.
  Laid BY PROGRAM, IN A SANDBOX (cutbox-rows.mjs): the forced cells as the released guide's own fill.sh prints them over the translation 9920ba2b9fe0b970… (all of the seat's roots in one cut). By AI agents, Wed Nov 11 2026. No macro, syntax, notation, axiom, sorry.
-/
import Derived.Test.YtignhjfobcnloaaChecked
import GoSem.Claim
import GoSem.ClaimJoined
import GoSem.ClaimMapViews
import Derived.JoinedTies
import Derived.KernelRfl
namespace Go.Proofs.Ytignhjfobcnloaa
/- THE CELL 'sum', in the pinned program and in every row, IS THE sha256 OF THE DUMP (.gsa) THAT YtignhjfobcnloaaProg.lean LOADS. Nothing in Lean hashes anything: it is a label: what it is worth is what the hold of that sum in a sandbox is worth. -/
noncomputable def Try.pinned : Pinned := { name := "ytignhjfobcnloaa", sum := "9920ba2b9fe0b970b91750f37f5e359b3f37ab72376bced85eaaea418d9ba7b1", checked := Try.checked }
namespace Rows
def none {H : Type} : Left H := { results := [], args := [] }

/-- 'apodixislaw06.SubstParts': WHATEVER THE INPUT: true; the input reads as it did. -/
def substPartsSpec : ChangeSpec := { name := "substParts", fn := fun _ => fun
  | [d1, d2, d3] => { results := [.lit (.bool true)], args := [d1, d2, d3] }
  | _ => none }
def substPartsRow : OpenClaim := { program := "ytignhjfobcnloaa", sum := "9920ba2b9fe0b970b91750f37f5e359b3f37ab72376bced85eaaea418d9ba7b1", func := "apodixis/apodixislaw06.SubstParts", spec := "substParts", unfollowed := true, recurses := true, plainKeys := false, apart := false }
def SubstPartsSaid : Prop := substPartsRow.holds Try.pinned (OpenSpec.ofChange substPartsSpec)

/-- ITS FALSE NEIGHBOUR: 'it returns false'. Refute it at one input. -/
def substPartsWrong : ChangeSpec := { name := "substParts", fn := fun _ => fun
  | [d1, d2, d3] => { results := [.lit (.bool false)], args := [d1, d2, d3] }
  | _ => none }
def SubstPartsWrongFalsely : Prop := substPartsRow.holds Try.pinned (OpenSpec.ofChange substPartsWrong)

/-- 'apodixislaw06.SubstApart': WHATEVER THE INPUT: true; the input reads as it did. -/
def substApartSpec : ChangeSpec := { name := "substApart", fn := fun _ => fun
  | [d1, d2, d3, d4] => { results := [.lit (.bool true)], args := [d1, d2, d3, d4] }
  | _ => none }
def substApartRow : OpenClaim := { program := "ytignhjfobcnloaa", sum := "9920ba2b9fe0b970b91750f37f5e359b3f37ab72376bced85eaaea418d9ba7b1", func := "apodixis/apodixislaw06.SubstApart", spec := "substApart", unfollowed := true, recurses := true, plainKeys := false, apart := false }
def SubstApartSaid : Prop := substApartRow.holds Try.pinned (OpenSpec.ofChange substApartSpec)

/-- ITS FALSE NEIGHBOUR: 'it returns false'. Refute it at one input. -/
def substApartWrong : ChangeSpec := { name := "substApart", fn := fun _ => fun
  | [d1, d2, d3, d4] => { results := [.lit (.bool false)], args := [d1, d2, d3, d4] }
  | _ => none }
def SubstApartWrongFalsely : Prop := substApartRow.holds Try.pinned (OpenSpec.ofChange substApartWrong)

/-- 'apodixislaw02.SourceUnits': WHATEVER THE INPUT: true; the input reads as it did. -/
def sourceUnitsSpec : ChangeSpec := { name := "sourceUnits", fn := fun _ => fun
  | [d1, d2, d3] => { results := [.lit (.bool true)], args := [d1, d2, d3] }
  | _ => none }
def sourceUnitsRow : OpenClaim := { program := "ytignhjfobcnloaa", sum := "9920ba2b9fe0b970b91750f37f5e359b3f37ab72376bced85eaaea418d9ba7b1", func := "apodixis/apodixislaw02.SourceUnits", spec := "sourceUnits", inPlace := ["internal/bytealg.IndexByteString", "internal/bytealg.IndexString"], named := ["internal/bytealg.MaxLen"], plainKeys := false, apart := false }
def SourceUnitsSaid : Prop := sourceUnitsRow.holds Try.pinned (OpenSpec.ofChange sourceUnitsSpec)

/-- ITS FALSE NEIGHBOUR: 'it returns false'. Refute it at one input. -/
def sourceUnitsWrong : ChangeSpec := { name := "sourceUnits", fn := fun _ => fun
  | [d1, d2, d3] => { results := [.lit (.bool false)], args := [d1, d2, d3] }
  | _ => none }
def SourceUnitsWrongFalsely : Prop := sourceUnitsRow.holds Try.pinned (OpenSpec.ofChange sourceUnitsWrong)

/-- 'apodixislaw02.SourceReads': WHATEVER THE INPUT: true; the input reads as it did. -/
def sourceReadsSpec : ChangeSpec := { name := "sourceReads", fn := fun _ => fun
  | [d1, d2, d3] => { results := [.lit (.bool true)], args := [d1, d2, d3] }
  | _ => none }
def sourceReadsRow : OpenClaim := { program := "ytignhjfobcnloaa", sum := "9920ba2b9fe0b970b91750f37f5e359b3f37ab72376bced85eaaea418d9ba7b1", func := "apodixis/apodixislaw02.SourceReads", spec := "sourceReads", inPlace := ["internal/bytealg.IndexByteString", "internal/bytealg.IndexString"], unfollowed := true, recurses := true, named := ["internal/bytealg.MaxLen"], maps := true, plainKeys := false, apart := false }
def SourceReadsSaid : Prop := sourceReadsRow.holds Try.pinned (OpenSpec.ofChange sourceReadsSpec)

/-- ITS FALSE NEIGHBOUR: 'it returns false'. Refute it at one input. -/
def sourceReadsWrong : ChangeSpec := { name := "sourceReads", fn := fun _ => fun
  | [d1, d2, d3] => { results := [.lit (.bool false)], args := [d1, d2, d3] }
  | _ => none }
def SourceReadsWrongFalsely : Prop := sourceReadsRow.holds Try.pinned (OpenSpec.ofChange sourceReadsWrong)

/-- 'apodixislaw02.SourceComments': WHATEVER THE INPUT: true; the input reads as it did. -/
def sourceCommentsSpec : ChangeSpec := { name := "sourceComments", fn := fun _ => fun
  | [d1, d2, d3] => { results := [.lit (.bool true)], args := [d1, d2, d3] }
  | _ => none }
def sourceCommentsRow : OpenClaim := { program := "ytignhjfobcnloaa", sum := "9920ba2b9fe0b970b91750f37f5e359b3f37ab72376bced85eaaea418d9ba7b1", func := "apodixis/apodixislaw02.SourceComments", spec := "sourceComments", inPlace := ["internal/bytealg.IndexByteString", "internal/bytealg.IndexString"], unfollowed := true, recurses := true, named := ["internal/bytealg.MaxLen"], plainKeys := false, apart := false }
def SourceCommentsSaid : Prop := sourceCommentsRow.holds Try.pinned (OpenSpec.ofChange sourceCommentsSpec)

/-- ITS FALSE NEIGHBOUR: 'it returns false'. Refute it at one input. -/
def sourceCommentsWrong : ChangeSpec := { name := "sourceComments", fn := fun _ => fun
  | [d1, d2, d3] => { results := [.lit (.bool false)], args := [d1, d2, d3] }
  | _ => none }
def SourceCommentsWrongFalsely : Prop := sourceCommentsRow.holds Try.pinned (OpenSpec.ofChange sourceCommentsWrong)

/-- 'apodixislaw02.SourceOnce': WHATEVER THE INPUT: true; the input reads as it did. -/
def sourceOnceSpec : ChangeSpec := { name := "sourceOnce", fn := fun _ => fun
  | [d1, d2] => { results := [.lit (.bool true)], args := [d1, d2] }
  | _ => none }
def sourceOnceRow : OpenClaim := { program := "ytignhjfobcnloaa", sum := "9920ba2b9fe0b970b91750f37f5e359b3f37ab72376bced85eaaea418d9ba7b1", func := "apodixis/apodixislaw02.SourceOnce", spec := "sourceOnce", inPlace := ["internal/bytealg.IndexByteString", "internal/bytealg.IndexString"], unfollowed := true, recurses := true, named := ["internal/bytealg.MaxLen"], maps := true, plainKeys := false, apart := false }
def SourceOnceSaid : Prop := sourceOnceRow.holds Try.pinned (OpenSpec.ofChange sourceOnceSpec)

/-- ITS FALSE NEIGHBOUR: 'it returns false'. Refute it at one input. -/
def sourceOnceWrong : ChangeSpec := { name := "sourceOnce", fn := fun _ => fun
  | [d1, d2] => { results := [.lit (.bool false)], args := [d1, d2] }
  | _ => none }
def SourceOnceWrongFalsely : Prop := sourceOnceRow.holds Try.pinned (OpenSpec.ofChange sourceOnceWrong)

/-- 'apodixislaw02.SourceMarked': WHATEVER THE INPUT: true; the input reads as it did. -/
def sourceMarkedSpec : ChangeSpec := { name := "sourceMarked", fn := fun _ => fun
  | [d1, d2] => { results := [.lit (.bool true)], args := [d1, d2] }
  | _ => none }
def sourceMarkedRow : OpenClaim := { program := "ytignhjfobcnloaa", sum := "9920ba2b9fe0b970b91750f37f5e359b3f37ab72376bced85eaaea418d9ba7b1", func := "apodixis/apodixislaw02.SourceMarked", spec := "sourceMarked", inPlace := ["internal/bytealg.IndexByteString", "internal/bytealg.IndexString", "sync/atomic.LoadUint32", "(*internal/sync.Mutex).Lock", "internal/race.Disable", "sync/atomic.CompareAndSwapInt32", "internal/race.Enable", "internal/race.Acquire", "(*internal/sync.Mutex).lockSlow", "internal/sync.runtime_canSpin", "internal/sync.runtime_doSpin", "internal/sync.throw", "internal/sync.runtime_nanotime", "internal/sync.runtime_SemacquireMutex", "sync/atomic.AddInt32", "(*internal/sync.Mutex).Unlock", "internal/race.ReleaseMerge", "(*internal/sync.Mutex).unlockSlow", "internal/sync.fatal", "internal/sync.runtime_Semrelease", "sync/atomic.StoreUint32", "internal/abi.NoEscape"], unfollowed := true, recurses := true, named := ["internal/bytealg.MaxLen"], plainKeys := false, apart := false }
def SourceMarkedSaid : Prop := sourceMarkedRow.holds Try.pinned (OpenSpec.ofChange sourceMarkedSpec)

/-- ITS FALSE NEIGHBOUR: 'it returns false'. Refute it at one input. -/
def sourceMarkedWrong : ChangeSpec := { name := "sourceMarked", fn := fun _ => fun
  | [d1, d2] => { results := [.lit (.bool false)], args := [d1, d2] }
  | _ => none }
def SourceMarkedWrongFalsely : Prop := sourceMarkedRow.holds Try.pinned (OpenSpec.ofChange sourceMarkedWrong)

/- THE SECOND FORM. 'bulk': how many values and letters a reading holds, each counted each time it is reached (what is shared counts as often as it is met; a slice's spare places count too). A statement '..UptoSaid' is the law's where the arguments, and the package variables that the reading takes, are together of bulk at most 1048576: NARROWER than '..Said'. Prove '..Said' where nothing that the law and all that it calls make is longer than what came in: it says more and counts as full. Else prove '..UptoSaid'. A law counts once. -/
mutual
def uptoBulk {H : Type} : DataW H → Nat
  | .lit (.string bytes) => bytes.length + 1
  | .lit _ => 1
  | .nil => 1
  | .ptr d => uptoBulk d + 1
  | .slice elems spare => uptoBulkAll elems + uptoBulkAll spare + 1
  | .agg parts => uptoBulkAll parts + 1
  | .iface _ d => uptoBulk d + 1
  | .map entries => uptoBulkEntries entries + 1
  | .held _ => 1
def uptoBulkAll {H : Type} : List (DataW H) → Nat
  | [] => 0
  | d :: r => uptoBulk d + uptoBulkAll r
def uptoBulkEntries {H : Type} : List (Lit × DataW H) → Nat
  | [] => 0
  | x :: r => uptoBulkEntry x + uptoBulkEntries r
def uptoBulkEntry {H : Type} : Lit × DataW H → Nat
  | (.string bytes, d) => bytes.length + uptoBulk d + 1
  | (_, d) => uptoBulk d + 1
 end
def uptoSmall : (H : Type) → List (DataW H) → Bool := fun _ ds => decide (uptoBulkAll ds ≤ 1048576)
def OpenSpec.upto (s : _root_.Go.ChangeSpec) : _root_.Go.OpenSpec := { _root_.Go.OpenSpec.ofChange s with cond := some uptoSmall }

/-- 'apodixislaw06.SubstParts', WHERE WHAT IT READS IS OF BULK AT MOST 1048576: true; the input reads as it did. -/
def substPartsUptoRow : OpenClaim := { program := "ytignhjfobcnloaa", sum := "9920ba2b9fe0b970b91750f37f5e359b3f37ab72376bced85eaaea418d9ba7b1", func := "apodixis/apodixislaw06.SubstParts", spec := "substParts", unfollowed := true, recurses := true, plainKeys := false, apart := false, narrowed := true }
def SubstPartsUptoSaid : Prop := substPartsUptoRow.holds Try.pinned (OpenSpec.upto substPartsSpec)

/-- 'apodixislaw06.SubstApart', WHERE WHAT IT READS IS OF BULK AT MOST 1048576: true; the input reads as it did. -/
def substApartUptoRow : OpenClaim := { program := "ytignhjfobcnloaa", sum := "9920ba2b9fe0b970b91750f37f5e359b3f37ab72376bced85eaaea418d9ba7b1", func := "apodixis/apodixislaw06.SubstApart", spec := "substApart", unfollowed := true, recurses := true, plainKeys := false, apart := false, narrowed := true }
def SubstApartUptoSaid : Prop := substApartUptoRow.holds Try.pinned (OpenSpec.upto substApartSpec)

/-- 'apodixislaw02.SourceUnits', WHERE WHAT IT READS IS OF BULK AT MOST 1048576: true; the input reads as it did. -/
def sourceUnitsUptoRow : OpenClaim := { program := "ytignhjfobcnloaa", sum := "9920ba2b9fe0b970b91750f37f5e359b3f37ab72376bced85eaaea418d9ba7b1", func := "apodixis/apodixislaw02.SourceUnits", spec := "sourceUnits", inPlace := ["internal/bytealg.IndexByteString", "internal/bytealg.IndexString"], named := ["internal/bytealg.MaxLen"], plainKeys := false, apart := false, narrowed := true }
def SourceUnitsUptoSaid : Prop := sourceUnitsUptoRow.holds Try.pinned (OpenSpec.upto sourceUnitsSpec)

/-- 'apodixislaw02.SourceReads', WHERE WHAT IT READS IS OF BULK AT MOST 1048576: true; the input reads as it did. -/
def sourceReadsUptoRow : OpenClaim := { program := "ytignhjfobcnloaa", sum := "9920ba2b9fe0b970b91750f37f5e359b3f37ab72376bced85eaaea418d9ba7b1", func := "apodixis/apodixislaw02.SourceReads", spec := "sourceReads", inPlace := ["internal/bytealg.IndexByteString", "internal/bytealg.IndexString"], unfollowed := true, recurses := true, named := ["internal/bytealg.MaxLen"], maps := true, plainKeys := false, apart := false, narrowed := true }
def SourceReadsUptoSaid : Prop := sourceReadsUptoRow.holds Try.pinned (OpenSpec.upto sourceReadsSpec)

/-- 'apodixislaw02.SourceComments', WHERE WHAT IT READS IS OF BULK AT MOST 1048576: true; the input reads as it did. -/
def sourceCommentsUptoRow : OpenClaim := { program := "ytignhjfobcnloaa", sum := "9920ba2b9fe0b970b91750f37f5e359b3f37ab72376bced85eaaea418d9ba7b1", func := "apodixis/apodixislaw02.SourceComments", spec := "sourceComments", inPlace := ["internal/bytealg.IndexByteString", "internal/bytealg.IndexString"], unfollowed := true, recurses := true, named := ["internal/bytealg.MaxLen"], plainKeys := false, apart := false, narrowed := true }
def SourceCommentsUptoSaid : Prop := sourceCommentsUptoRow.holds Try.pinned (OpenSpec.upto sourceCommentsSpec)

/-- 'apodixislaw02.SourceOnce', WHERE WHAT IT READS IS OF BULK AT MOST 1048576: true; the input reads as it did. -/
def sourceOnceUptoRow : OpenClaim := { program := "ytignhjfobcnloaa", sum := "9920ba2b9fe0b970b91750f37f5e359b3f37ab72376bced85eaaea418d9ba7b1", func := "apodixis/apodixislaw02.SourceOnce", spec := "sourceOnce", inPlace := ["internal/bytealg.IndexByteString", "internal/bytealg.IndexString"], unfollowed := true, recurses := true, named := ["internal/bytealg.MaxLen"], maps := true, plainKeys := false, apart := false, narrowed := true }
def SourceOnceUptoSaid : Prop := sourceOnceUptoRow.holds Try.pinned (OpenSpec.upto sourceOnceSpec)

/-- 'apodixislaw02.SourceMarked', WHERE WHAT IT READS IS OF BULK AT MOST 1048576: true; the input reads as it did. -/
def sourceMarkedUptoRow : OpenClaim := { program := "ytignhjfobcnloaa", sum := "9920ba2b9fe0b970b91750f37f5e359b3f37ab72376bced85eaaea418d9ba7b1", func := "apodixis/apodixislaw02.SourceMarked", spec := "sourceMarked", inPlace := ["internal/bytealg.IndexByteString", "internal/bytealg.IndexString", "sync/atomic.LoadUint32", "(*internal/sync.Mutex).Lock", "internal/race.Disable", "sync/atomic.CompareAndSwapInt32", "internal/race.Enable", "internal/race.Acquire", "(*internal/sync.Mutex).lockSlow", "internal/sync.runtime_canSpin", "internal/sync.runtime_doSpin", "internal/sync.throw", "internal/sync.runtime_nanotime", "internal/sync.runtime_SemacquireMutex", "sync/atomic.AddInt32", "(*internal/sync.Mutex).Unlock", "internal/race.ReleaseMerge", "(*internal/sync.Mutex).unlockSlow", "internal/sync.fatal", "internal/sync.runtime_Semrelease", "sync/atomic.StoreUint32", "internal/abi.NoEscape"], unfollowed := true, recurses := true, named := ["internal/bytealg.MaxLen"], plainKeys := false, apart := false, narrowed := true }
def SourceMarkedUptoSaid : Prop := sourceMarkedUptoRow.holds Try.pinned (OpenSpec.upto sourceMarkedSpec)

end Rows
end Go.Proofs.Ytignhjfobcnloaa
