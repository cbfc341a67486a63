/-
  No cell of these rows narrows 'for every input' (looked for: loops, veiled, ifaces, maps, wideKeys, modest, calm, conditions, laid).
  DERIVED. THE GIVEN ROWS OF THIS SEAT. 7 by the template 'for every input the law returns true; each argument reads behind the call as it read before'; 0 by the template 'total and deterministic' (their statements: YtenlgfagfpaenaaTotals.lean).
  GIVEN WITH THE SEED: the statements are not yours to turn. If you find one false, say at which input.
  Laid BY PROGRAM, IN A SANDBOX (cutbox-rows.mjs): the forced cells as the released guide's own fill.sh prints them over the translation ca2577000d674e4e… (all of the seat's roots in one cut). By AI agents, Wed Nov 11 2026. No macro, syntax, notation, axiom, sorry.
-/
import Derived.Test.YtenlgfagfpaenaaChecked
import GoSem.Claim
import GoSem.ClaimJoined
import GoSem.ClaimMapViews
import Derived.JoinedTies
import Derived.KernelRfl
namespace Go.Proofs.Ytenlgfagfpaenaa
/- THE CELL 'sum', in the pinned program and in every row, IS THE sha256 OF THE DUMP (.gsa) THAT YtenlgfagfpaenaaProg.lean LOADS. Nothing in Lean hashes anything: it is a label: what it is worth is what the hold of that sum in a sandbox is worth. -/
noncomputable def Try.pinned : Pinned := { name := "ytenlgfagfpaenaa", sum := "ca2577000d674e4ec5e934820e61724bd6d66a8b70e8386d874fc7a2ccceb950", checked := Try.checked }
namespace Rows
def none {H : Type} : Left H := { results := [], args := [] }

/-- 'shutterlaw09.VcasVersions': WHATEVER THE INPUT: true; the input reads as it did. -/
def vcasVersionsSpec : ChangeSpec := { name := "vcasVersions", fn := fun _ => fun
  | [d1, d2] => { results := [.lit (.bool true)], args := [d1, d2] }
  | _ => none }
def vcasVersionsRow : OpenClaim := { program := "ytenlgfagfpaenaa", sum := "ca2577000d674e4ec5e934820e61724bd6d66a8b70e8386d874fc7a2ccceb950", func := "shutter/shutterlaw09.VcasVersions", spec := "vcasVersions", inPlace := ["sync/atomic.StoreInt64"], unfollowed := true, recurses := true, apart := false }
def VcasVersionsSaid : Prop := vcasVersionsRow.holds Try.pinned (OpenSpec.ofChange vcasVersionsSpec)

/-- ITS FALSE NEIGHBOUR: 'it returns false'. Refute it at one input. -/
def vcasVersionsWrong : ChangeSpec := { name := "vcasVersions", fn := fun _ => fun
  | [d1, d2] => { results := [.lit (.bool false)], args := [d1, d2] }
  | _ => none }
def VcasVersionsWrongFalsely : Prop := vcasVersionsRow.holds Try.pinned (OpenSpec.ofChange vcasVersionsWrong)

/-- 'shutterlaw09.VcasNone': WHATEVER THE INPUT: true; the input reads as it did. -/
def vcasNoneSpec : ChangeSpec := { name := "vcasNone", fn := fun _ => fun
  | [d1, d2, d3] => { results := [.lit (.bool true)], args := [d1, d2, d3] }
  | _ => none }
def vcasNoneRow : OpenClaim := { program := "ytenlgfagfpaenaa", sum := "ca2577000d674e4ec5e934820e61724bd6d66a8b70e8386d874fc7a2ccceb950", func := "shutter/shutterlaw09.VcasNone", spec := "vcasNone", inPlace := ["sync/atomic.StoreInt64"], unfollowed := true, recurses := true, apart := false }
def VcasNoneSaid : Prop := vcasNoneRow.holds Try.pinned (OpenSpec.ofChange vcasNoneSpec)

/-- ITS FALSE NEIGHBOUR: 'it returns false'. Refute it at one input. -/
def vcasNoneWrong : ChangeSpec := { name := "vcasNone", fn := fun _ => fun
  | [d1, d2, d3] => { results := [.lit (.bool false)], args := [d1, d2, d3] }
  | _ => none }
def VcasNoneWrongFalsely : Prop := vcasNoneRow.holds Try.pinned (OpenSpec.ofChange vcasNoneWrong)

/-- 'shutterlaw09.VcasStamps': WHATEVER THE INPUT: true; the input reads as it did. -/
def vcasStampsSpec : ChangeSpec := { name := "vcasStamps", fn := fun _ => fun
  | [d1, d2] => { results := [.lit (.bool true)], args := [d1, d2] }
  | _ => none }
def vcasStampsRow : OpenClaim := { program := "ytenlgfagfpaenaa", sum := "ca2577000d674e4ec5e934820e61724bd6d66a8b70e8386d874fc7a2ccceb950", func := "shutter/shutterlaw09.VcasStamps", spec := "vcasStamps", inPlace := ["sync/atomic.StoreInt64"], unfollowed := true, recurses := true, apart := false }
def VcasStampsSaid : Prop := vcasStampsRow.holds Try.pinned (OpenSpec.ofChange vcasStampsSpec)

/-- ITS FALSE NEIGHBOUR: 'it returns false'. Refute it at one input. -/
def vcasStampsWrong : ChangeSpec := { name := "vcasStamps", fn := fun _ => fun
  | [d1, d2] => { results := [.lit (.bool false)], args := [d1, d2] }
  | _ => none }
def VcasStampsWrongFalsely : Prop := vcasStampsRow.holds Try.pinned (OpenSpec.ofChange vcasStampsWrong)

/-- 'shutterlaw09.VcasChain': WHATEVER THE INPUT: true; the input reads as it did. -/
def vcasChainSpec : ChangeSpec := { name := "vcasChain", fn := fun _ => fun
  | [d] => { results := [.lit (.bool true)], args := [d] }
  | _ => none }
def vcasChainRow : OpenClaim := { program := "ytenlgfagfpaenaa", sum := "ca2577000d674e4ec5e934820e61724bd6d66a8b70e8386d874fc7a2ccceb950", func := "shutter/shutterlaw09.VcasChain", spec := "vcasChain", inPlace := ["sync/atomic.StoreInt64"], unfollowed := true, recurses := true, apart := false }
def VcasChainSaid : Prop := vcasChainRow.holds Try.pinned (OpenSpec.ofChange vcasChainSpec)

/-- ITS FALSE NEIGHBOUR: 'it returns false'. Refute it at one input. -/
def vcasChainWrong : ChangeSpec := { name := "vcasChain", fn := fun _ => fun
  | [d] => { results := [.lit (.bool false)], args := [d] }
  | _ => none }
def VcasChainWrongFalsely : Prop := vcasChainRow.holds Try.pinned (OpenSpec.ofChange vcasChainWrong)

/-- 'shutterlaw09.VcasReads': WHATEVER THE INPUT: true; the input reads as it did. -/
def vcasReadsSpec : ChangeSpec := { name := "vcasReads", fn := fun _ => fun
  | [d] => { results := [.lit (.bool true)], args := [d] }
  | _ => none }
def vcasReadsRow : OpenClaim := { program := "ytenlgfagfpaenaa", sum := "ca2577000d674e4ec5e934820e61724bd6d66a8b70e8386d874fc7a2ccceb950", func := "shutter/shutterlaw09.VcasReads", spec := "vcasReads", inPlace := ["sync/atomic.StoreInt64"], unfollowed := true, recurses := true, apart := false }
def VcasReadsSaid : Prop := vcasReadsRow.holds Try.pinned (OpenSpec.ofChange vcasReadsSpec)

/-- ITS FALSE NEIGHBOUR: 'it returns false'. Refute it at one input. -/
def vcasReadsWrong : ChangeSpec := { name := "vcasReads", fn := fun _ => fun
  | [d] => { results := [.lit (.bool false)], args := [d] }
  | _ => none }
def VcasReadsWrongFalsely : Prop := vcasReadsRow.holds Try.pinned (OpenSpec.ofChange vcasReadsWrong)

/-- 'shutterlaw09.VcasPast': WHATEVER THE INPUT: true; the input reads as it did. -/
def vcasPastSpec : ChangeSpec := { name := "vcasPast", fn := fun _ => fun
  | [d1, d2, d3] => { results := [.lit (.bool true)], args := [d1, d2, d3] }
  | _ => none }
def vcasPastRow : OpenClaim := { program := "ytenlgfagfpaenaa", sum := "ca2577000d674e4ec5e934820e61724bd6d66a8b70e8386d874fc7a2ccceb950", func := "shutter/shutterlaw09.VcasPast", spec := "vcasPast", inPlace := ["sync/atomic.StoreInt64"], unfollowed := true, recurses := true, apart := false }
def VcasPastSaid : Prop := vcasPastRow.holds Try.pinned (OpenSpec.ofChange vcasPastSpec)

/-- ITS FALSE NEIGHBOUR: 'it returns false'. Refute it at one input. -/
def vcasPastWrong : ChangeSpec := { name := "vcasPast", fn := fun _ => fun
  | [d1, d2, d3] => { results := [.lit (.bool false)], args := [d1, d2, d3] }
  | _ => none }
def VcasPastWrongFalsely : Prop := vcasPastRow.holds Try.pinned (OpenSpec.ofChange vcasPastWrong)

/-- 'shutterlaw09.VcasPlays': WHATEVER THE INPUT: true; the input reads as it did. -/
def vcasPlaysSpec : ChangeSpec := { name := "vcasPlays", fn := fun _ => fun
  | [d1, d2] => { results := [.lit (.bool true)], args := [d1, d2] }
  | _ => none }
def vcasPlaysRow : OpenClaim := { program := "ytenlgfagfpaenaa", sum := "ca2577000d674e4ec5e934820e61724bd6d66a8b70e8386d874fc7a2ccceb950", func := "shutter/shutterlaw09.VcasPlays", spec := "vcasPlays", inPlace := ["sync/atomic.StoreInt64"], unfollowed := true, recurses := true, apart := false }
def VcasPlaysSaid : Prop := vcasPlaysRow.holds Try.pinned (OpenSpec.ofChange vcasPlaysSpec)

/-- ITS FALSE NEIGHBOUR: 'it returns false'. Refute it at one input. -/
def vcasPlaysWrong : ChangeSpec := { name := "vcasPlays", fn := fun _ => fun
  | [d1, d2] => { results := [.lit (.bool false)], args := [d1, d2] }
  | _ => none }
def VcasPlaysWrongFalsely : Prop := vcasPlaysRow.holds Try.pinned (OpenSpec.ofChange vcasPlaysWrong)

/- THE SECOND FORM. 'bulk': how many values and letters a reading holds, each counted each time it is reached (what is shared counts as often as it is met; a slice's spare places count too). A statement '..UptoSaid' is the law's where the arguments, and the package variables that the reading takes, are together of bulk at most 1048576: NARROWER than '..Said'. Prove '..Said' where nothing that the law and all that it calls make is longer than what came in: it says more and counts as full. Else prove '..UptoSaid'. A law counts once. -/
mutual
def uptoBulk {H : Type} : DataW H → Nat
  | .lit (.string bytes) => bytes.length + 1
  | .lit _ => 1
  | .nil => 1
  | .ptr d => uptoBulk d + 1
  | .slice elems spare => uptoBulkAll elems + uptoBulkAll spare + 1
  | .agg parts => uptoBulkAll parts + 1
  | .iface _ d => uptoBulk d + 1
  | .map entries => uptoBulkEntries entries + 1
  | .held _ => 1
def uptoBulkAll {H : Type} : List (DataW H) → Nat
  | [] => 0
  | d :: r => uptoBulk d + uptoBulkAll r
def uptoBulkEntries {H : Type} : List (Lit × DataW H) → Nat
  | [] => 0
  | x :: r => uptoBulkEntry x + uptoBulkEntries r
def uptoBulkEntry {H : Type} : Lit × DataW H → Nat
  | (.string bytes, d) => bytes.length + uptoBulk d + 1
  | (_, d) => uptoBulk d + 1
 end
def uptoSmall : (H : Type) → List (DataW H) → Bool := fun _ ds => decide (uptoBulkAll ds ≤ 1048576)
def OpenSpec.upto (s : _root_.Go.ChangeSpec) : _root_.Go.OpenSpec := { _root_.Go.OpenSpec.ofChange s with cond := some uptoSmall }

/-- 'shutterlaw09.VcasVersions', WHERE WHAT IT READS IS OF BULK AT MOST 1048576: true; the input reads as it did. -/
def vcasVersionsUptoRow : OpenClaim := { program := "ytenlgfagfpaenaa", sum := "ca2577000d674e4ec5e934820e61724bd6d66a8b70e8386d874fc7a2ccceb950", func := "shutter/shutterlaw09.VcasVersions", spec := "vcasVersions", inPlace := ["sync/atomic.StoreInt64"], unfollowed := true, recurses := true, apart := false, narrowed := true }
def VcasVersionsUptoSaid : Prop := vcasVersionsUptoRow.holds Try.pinned (OpenSpec.upto vcasVersionsSpec)

/-- 'shutterlaw09.VcasNone', WHERE WHAT IT READS IS OF BULK AT MOST 1048576: true; the input reads as it did. -/
def vcasNoneUptoRow : OpenClaim := { program := "ytenlgfagfpaenaa", sum := "ca2577000d674e4ec5e934820e61724bd6d66a8b70e8386d874fc7a2ccceb950", func := "shutter/shutterlaw09.VcasNone", spec := "vcasNone", inPlace := ["sync/atomic.StoreInt64"], unfollowed := true, recurses := true, apart := false, narrowed := true }
def VcasNoneUptoSaid : Prop := vcasNoneUptoRow.holds Try.pinned (OpenSpec.upto vcasNoneSpec)

/-- 'shutterlaw09.VcasStamps', WHERE WHAT IT READS IS OF BULK AT MOST 1048576: true; the input reads as it did. -/
def vcasStampsUptoRow : OpenClaim := { program := "ytenlgfagfpaenaa", sum := "ca2577000d674e4ec5e934820e61724bd6d66a8b70e8386d874fc7a2ccceb950", func := "shutter/shutterlaw09.VcasStamps", spec := "vcasStamps", inPlace := ["sync/atomic.StoreInt64"], unfollowed := true, recurses := true, apart := false, narrowed := true }
def VcasStampsUptoSaid : Prop := vcasStampsUptoRow.holds Try.pinned (OpenSpec.upto vcasStampsSpec)

/-- 'shutterlaw09.VcasChain', WHERE WHAT IT READS IS OF BULK AT MOST 1048576: true; the input reads as it did. -/
def vcasChainUptoRow : OpenClaim := { program := "ytenlgfagfpaenaa", sum := "ca2577000d674e4ec5e934820e61724bd6d66a8b70e8386d874fc7a2ccceb950", func := "shutter/shutterlaw09.VcasChain", spec := "vcasChain", inPlace := ["sync/atomic.StoreInt64"], unfollowed := true, recurses := true, apart := false, narrowed := true }
def VcasChainUptoSaid : Prop := vcasChainUptoRow.holds Try.pinned (OpenSpec.upto vcasChainSpec)

/-- 'shutterlaw09.VcasReads', WHERE WHAT IT READS IS OF BULK AT MOST 1048576: true; the input reads as it did. -/
def vcasReadsUptoRow : OpenClaim := { program := "ytenlgfagfpaenaa", sum := "ca2577000d674e4ec5e934820e61724bd6d66a8b70e8386d874fc7a2ccceb950", func := "shutter/shutterlaw09.VcasReads", spec := "vcasReads", inPlace := ["sync/atomic.StoreInt64"], unfollowed := true, recurses := true, apart := false, narrowed := true }
def VcasReadsUptoSaid : Prop := vcasReadsUptoRow.holds Try.pinned (OpenSpec.upto vcasReadsSpec)

/-- 'shutterlaw09.VcasPast', WHERE WHAT IT READS IS OF BULK AT MOST 1048576: true; the input reads as it did. -/
def vcasPastUptoRow : OpenClaim := { program := "ytenlgfagfpaenaa", sum := "ca2577000d674e4ec5e934820e61724bd6d66a8b70e8386d874fc7a2ccceb950", func := "shutter/shutterlaw09.VcasPast", spec := "vcasPast", inPlace := ["sync/atomic.StoreInt64"], unfollowed := true, recurses := true, apart := false, narrowed := true }
def VcasPastUptoSaid : Prop := vcasPastUptoRow.holds Try.pinned (OpenSpec.upto vcasPastSpec)

/-- 'shutterlaw09.VcasPlays', WHERE WHAT IT READS IS OF BULK AT MOST 1048576: true; the input reads as it did. -/
def vcasPlaysUptoRow : OpenClaim := { program := "ytenlgfagfpaenaa", sum := "ca2577000d674e4ec5e934820e61724bd6d66a8b70e8386d874fc7a2ccceb950", func := "shutter/shutterlaw09.VcasPlays", spec := "vcasPlays", inPlace := ["sync/atomic.StoreInt64"], unfollowed := true, recurses := true, apart := false, narrowed := true }
def VcasPlaysUptoSaid : Prop := vcasPlaysUptoRow.holds Try.pinned (OpenSpec.upto vcasPlaysSpec)

end Rows
end Go.Proofs.Ytenlgfagfpaenaa
