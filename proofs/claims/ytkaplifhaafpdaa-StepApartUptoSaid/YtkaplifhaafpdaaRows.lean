/-
  No cell of these rows narrows 'for every input' (looked for: loops, veiled, ifaces, maps, wideKeys, modest, calm, conditions, laid).
  DERIVED. THE GIVEN ROWS OF THIS SEAT. 8 by the template 'for every input the law returns true; each argument reads behind the call as it read before'; 0 by the template 'total and deterministic' (their statements: YtkaplifhaafpdaaTotals.lean).
  GIVEN WITH THE SEED: the statements are not yours to turn. If you find one false, say at which input.
  Laid BY PROGRAM, IN A SANDBOX (cutbox-rows.mjs): the forced cells as the released guide's own fill.sh prints them over the translation 14d6d4201d48f6f3… (all of the seat's roots in one cut). By AI agents, Wed Nov 11 2026. No macro, syntax, notation, axiom, sorry.
-/
import Derived.Test.YtkaplifhaafpdaaChecked
import GoSem.Claim
import GoSem.ClaimJoined
import GoSem.ClaimMapViews
import Derived.JoinedTies
import Derived.KernelRfl
namespace Go.Proofs.Ytkaplifhaafpdaa
/- THE CELL 'sum', in the pinned program and in every row, IS THE sha256 OF THE DUMP (.gsa) THAT YtkaplifhaafpdaaProg.lean LOADS. Nothing in Lean hashes anything: it is a label: what it is worth is what the hold of that sum in a sandbox is worth. -/
noncomputable def Try.pinned : Pinned := { name := "ytkaplifhaafpdaa", sum := "14d6d4201d48f6f32a02e6f319ca5d4c1cfb4dcd9657f26cbddd17c590ccb9df", checked := Try.checked }
namespace Rows
def none {H : Type} : Left H := { results := [], args := [] }

/-- 'shutterlaw04.StepLoads': WHATEVER THE INPUT: true; the input reads as it did. -/
def stepLoadsSpec : ChangeSpec := { name := "stepLoads", fn := fun _ => fun
  | [d1, d2] => { results := [.lit (.bool true)], args := [d1, d2] }
  | _ => none }
def stepLoadsRow : OpenClaim := { program := "ytkaplifhaafpdaa", sum := "14d6d4201d48f6f32a02e6f319ca5d4c1cfb4dcd9657f26cbddd17c590ccb9df", func := "shutter/shutterlaw04.StepLoads", spec := "stepLoads", inPlace := ["sync/atomic.StoreInt64"], unfollowed := true, recurses := true, apart := false }
def StepLoadsSaid : Prop := stepLoadsRow.holds Try.pinned (OpenSpec.ofChange stepLoadsSpec)

/-- ITS FALSE NEIGHBOUR: 'it returns false'. Refute it at one input. -/
def stepLoadsWrong : ChangeSpec := { name := "stepLoads", fn := fun _ => fun
  | [d1, d2] => { results := [.lit (.bool false)], args := [d1, d2] }
  | _ => none }
def StepLoadsWrongFalsely : Prop := stepLoadsRow.holds Try.pinned (OpenSpec.ofChange stepLoadsWrong)

/-- 'shutterlaw04.StepLong': WHATEVER THE INPUT: true; the input reads as it did. -/
def stepLongSpec : ChangeSpec := { name := "stepLong", fn := fun _ => fun
  | [d1, d2] => { results := [.lit (.bool true)], args := [d1, d2] }
  | _ => none }
def stepLongRow : OpenClaim := { program := "ytkaplifhaafpdaa", sum := "14d6d4201d48f6f32a02e6f319ca5d4c1cfb4dcd9657f26cbddd17c590ccb9df", func := "shutter/shutterlaw04.StepLong", spec := "stepLong", inPlace := ["sync/atomic.StoreInt64"], unfollowed := true, recurses := true, apart := false }
def StepLongSaid : Prop := stepLongRow.holds Try.pinned (OpenSpec.ofChange stepLongSpec)

/-- ITS FALSE NEIGHBOUR: 'it returns false'. Refute it at one input. -/
def stepLongWrong : ChangeSpec := { name := "stepLong", fn := fun _ => fun
  | [d1, d2] => { results := [.lit (.bool false)], args := [d1, d2] }
  | _ => none }
def StepLongWrongFalsely : Prop := stepLongRow.holds Try.pinned (OpenSpec.ofChange stepLongWrong)

/-- 'shutterlaw04.StepPicks': WHATEVER THE INPUT: true; the input reads as it did. -/
def stepPicksSpec : ChangeSpec := { name := "stepPicks", fn := fun _ => fun
  | [d1, d2] => { results := [.lit (.bool true)], args := [d1, d2] }
  | _ => none }
def stepPicksRow : OpenClaim := { program := "ytkaplifhaafpdaa", sum := "14d6d4201d48f6f32a02e6f319ca5d4c1cfb4dcd9657f26cbddd17c590ccb9df", func := "shutter/shutterlaw04.StepPicks", spec := "stepPicks", inPlace := ["sync/atomic.StoreInt64"], unfollowed := true, recurses := true, apart := false }
def StepPicksSaid : Prop := stepPicksRow.holds Try.pinned (OpenSpec.ofChange stepPicksSpec)

/-- ITS FALSE NEIGHBOUR: 'it returns false'. Refute it at one input. -/
def stepPicksWrong : ChangeSpec := { name := "stepPicks", fn := fun _ => fun
  | [d1, d2] => { results := [.lit (.bool false)], args := [d1, d2] }
  | _ => none }
def StepPicksWrongFalsely : Prop := stepPicksRow.holds Try.pinned (OpenSpec.ofChange stepPicksWrong)

/-- 'shutterlaw04.StepApart': WHATEVER THE INPUT: true; the input reads as it did. -/
def stepApartSpec : ChangeSpec := { name := "stepApart", fn := fun _ => fun
  | [d1, d2, d3] => { results := [.lit (.bool true)], args := [d1, d2, d3] }
  | _ => none }
def stepApartRow : OpenClaim := { program := "ytkaplifhaafpdaa", sum := "14d6d4201d48f6f32a02e6f319ca5d4c1cfb4dcd9657f26cbddd17c590ccb9df", func := "shutter/shutterlaw04.StepApart", spec := "stepApart", inPlace := ["sync/atomic.StoreInt64"], unfollowed := true, recurses := true, apart := false }
def StepApartSaid : Prop := stepApartRow.holds Try.pinned (OpenSpec.ofChange stepApartSpec)

/-- ITS FALSE NEIGHBOUR: 'it returns false'. Refute it at one input. -/
def stepApartWrong : ChangeSpec := { name := "stepApart", fn := fun _ => fun
  | [d1, d2, d3] => { results := [.lit (.bool false)], args := [d1, d2, d3] }
  | _ => none }
def StepApartWrongFalsely : Prop := stepApartRow.holds Try.pinned (OpenSpec.ofChange stepApartWrong)

/-- 'shutterlaw04.StepAlone': WHATEVER THE INPUT: true; the input reads as it did. -/
def stepAloneSpec : ChangeSpec := { name := "stepAlone", fn := fun _ => fun
  | [d1, d2] => { results := [.lit (.bool true)], args := [d1, d2] }
  | _ => none }
def stepAloneRow : OpenClaim := { program := "ytkaplifhaafpdaa", sum := "14d6d4201d48f6f32a02e6f319ca5d4c1cfb4dcd9657f26cbddd17c590ccb9df", func := "shutter/shutterlaw04.StepAlone", spec := "stepAlone", inPlace := ["sync/atomic.StoreInt64"], unfollowed := true, recurses := true, apart := false }
def StepAloneSaid : Prop := stepAloneRow.holds Try.pinned (OpenSpec.ofChange stepAloneSpec)

/-- ITS FALSE NEIGHBOUR: 'it returns false'. Refute it at one input. -/
def stepAloneWrong : ChangeSpec := { name := "stepAlone", fn := fun _ => fun
  | [d1, d2] => { results := [.lit (.bool false)], args := [d1, d2] }
  | _ => none }
def StepAloneWrongFalsely : Prop := stepAloneRow.holds Try.pinned (OpenSpec.ofChange stepAloneWrong)

/-- 'shutterlaw04.StepRuns': WHATEVER THE INPUT: true; the input reads as it did. -/
def stepRunsSpec : ChangeSpec := { name := "stepRuns", fn := fun _ => fun
  | [d1, d2, d3] => { results := [.lit (.bool true)], args := [d1, d2, d3] }
  | _ => none }
def stepRunsRow : OpenClaim := { program := "ytkaplifhaafpdaa", sum := "14d6d4201d48f6f32a02e6f319ca5d4c1cfb4dcd9657f26cbddd17c590ccb9df", func := "shutter/shutterlaw04.StepRuns", spec := "stepRuns", inPlace := ["sync/atomic.StoreInt64"], unfollowed := true, recurses := true, apart := false }
def StepRunsSaid : Prop := stepRunsRow.holds Try.pinned (OpenSpec.ofChange stepRunsSpec)

/-- ITS FALSE NEIGHBOUR: 'it returns false'. Refute it at one input. -/
def stepRunsWrong : ChangeSpec := { name := "stepRuns", fn := fun _ => fun
  | [d1, d2, d3] => { results := [.lit (.bool false)], args := [d1, d2, d3] }
  | _ => none }
def StepRunsWrongFalsely : Prop := stepRunsRow.holds Try.pinned (OpenSpec.ofChange stepRunsWrong)

/-- 'shutterlaw04.StepHistory': WHATEVER THE INPUT: true; the input reads as it did. -/
def stepHistorySpec : ChangeSpec := { name := "stepHistory", fn := fun _ => fun
  | [d1, d2, d3] => { results := [.lit (.bool true)], args := [d1, d2, d3] }
  | _ => none }
def stepHistoryRow : OpenClaim := { program := "ytkaplifhaafpdaa", sum := "14d6d4201d48f6f32a02e6f319ca5d4c1cfb4dcd9657f26cbddd17c590ccb9df", func := "shutter/shutterlaw04.StepHistory", spec := "stepHistory", inPlace := ["sync/atomic.StoreInt64"], unfollowed := true, recurses := true, apart := false }
def StepHistorySaid : Prop := stepHistoryRow.holds Try.pinned (OpenSpec.ofChange stepHistorySpec)

/-- ITS FALSE NEIGHBOUR: 'it returns false'. Refute it at one input. -/
def stepHistoryWrong : ChangeSpec := { name := "stepHistory", fn := fun _ => fun
  | [d1, d2, d3] => { results := [.lit (.bool false)], args := [d1, d2, d3] }
  | _ => none }
def StepHistoryWrongFalsely : Prop := stepHistoryRow.holds Try.pinned (OpenSpec.ofChange stepHistoryWrong)

/-- 'shutterlaw04.StepNone': WHATEVER THE INPUT: true; the input reads as it did. -/
def stepNoneSpec : ChangeSpec := { name := "stepNone", fn := fun _ => fun
  | [d1, d2, d3] => { results := [.lit (.bool true)], args := [d1, d2, d3] }
  | _ => none }
def stepNoneRow : OpenClaim := { program := "ytkaplifhaafpdaa", sum := "14d6d4201d48f6f32a02e6f319ca5d4c1cfb4dcd9657f26cbddd17c590ccb9df", func := "shutter/shutterlaw04.StepNone", spec := "stepNone", inPlace := ["sync/atomic.StoreInt64"], unfollowed := true, recurses := true, apart := false }
def StepNoneSaid : Prop := stepNoneRow.holds Try.pinned (OpenSpec.ofChange stepNoneSpec)

/-- ITS FALSE NEIGHBOUR: 'it returns false'. Refute it at one input. -/
def stepNoneWrong : ChangeSpec := { name := "stepNone", fn := fun _ => fun
  | [d1, d2, d3] => { results := [.lit (.bool false)], args := [d1, d2, d3] }
  | _ => none }
def StepNoneWrongFalsely : Prop := stepNoneRow.holds Try.pinned (OpenSpec.ofChange stepNoneWrong)

/- THE SECOND FORM. 'bulk': how many values and letters a reading holds, each counted each time it is reached (what is shared counts as often as it is met; a slice's spare places count too). A statement '..UptoSaid' is the law's where the arguments, and the package variables that the reading takes, are together of bulk at most 1048576: NARROWER than '..Said'. Prove '..Said' where nothing that the law and all that it calls make is longer than what came in: it says more and counts as full. Else prove '..UptoSaid'. A law counts once. -/
mutual
def uptoBulk {H : Type} : DataW H → Nat
  | .lit (.string bytes) => bytes.length + 1
  | .lit _ => 1
  | .nil => 1
  | .ptr d => uptoBulk d + 1
  | .slice elems spare => uptoBulkAll elems + uptoBulkAll spare + 1
  | .agg parts => uptoBulkAll parts + 1
  | .iface _ d => uptoBulk d + 1
  | .map entries => uptoBulkEntries entries + 1
  | .held _ => 1
def uptoBulkAll {H : Type} : List (DataW H) → Nat
  | [] => 0
  | d :: r => uptoBulk d + uptoBulkAll r
def uptoBulkEntries {H : Type} : List (Lit × DataW H) → Nat
  | [] => 0
  | x :: r => uptoBulkEntry x + uptoBulkEntries r
def uptoBulkEntry {H : Type} : Lit × DataW H → Nat
  | (.string bytes, d) => bytes.length + uptoBulk d + 1
  | (_, d) => uptoBulk d + 1
 end
def uptoSmall : (H : Type) → List (DataW H) → Bool := fun _ ds => decide (uptoBulkAll ds ≤ 1048576)
def OpenSpec.upto (s : _root_.Go.ChangeSpec) : _root_.Go.OpenSpec := { _root_.Go.OpenSpec.ofChange s with cond := some uptoSmall }

/-- 'shutterlaw04.StepLoads', WHERE WHAT IT READS IS OF BULK AT MOST 1048576: true; the input reads as it did. -/
def stepLoadsUptoRow : OpenClaim := { program := "ytkaplifhaafpdaa", sum := "14d6d4201d48f6f32a02e6f319ca5d4c1cfb4dcd9657f26cbddd17c590ccb9df", func := "shutter/shutterlaw04.StepLoads", spec := "stepLoads", inPlace := ["sync/atomic.StoreInt64"], unfollowed := true, recurses := true, apart := false, narrowed := true }
def StepLoadsUptoSaid : Prop := stepLoadsUptoRow.holds Try.pinned (OpenSpec.upto stepLoadsSpec)

/-- 'shutterlaw04.StepLong', WHERE WHAT IT READS IS OF BULK AT MOST 1048576: true; the input reads as it did. -/
def stepLongUptoRow : OpenClaim := { program := "ytkaplifhaafpdaa", sum := "14d6d4201d48f6f32a02e6f319ca5d4c1cfb4dcd9657f26cbddd17c590ccb9df", func := "shutter/shutterlaw04.StepLong", spec := "stepLong", inPlace := ["sync/atomic.StoreInt64"], unfollowed := true, recurses := true, apart := false, narrowed := true }
def StepLongUptoSaid : Prop := stepLongUptoRow.holds Try.pinned (OpenSpec.upto stepLongSpec)

/-- 'shutterlaw04.StepPicks', WHERE WHAT IT READS IS OF BULK AT MOST 1048576: true; the input reads as it did. -/
def stepPicksUptoRow : OpenClaim := { program := "ytkaplifhaafpdaa", sum := "14d6d4201d48f6f32a02e6f319ca5d4c1cfb4dcd9657f26cbddd17c590ccb9df", func := "shutter/shutterlaw04.StepPicks", spec := "stepPicks", inPlace := ["sync/atomic.StoreInt64"], unfollowed := true, recurses := true, apart := false, narrowed := true }
def StepPicksUptoSaid : Prop := stepPicksUptoRow.holds Try.pinned (OpenSpec.upto stepPicksSpec)

/-- 'shutterlaw04.StepApart', WHERE WHAT IT READS IS OF BULK AT MOST 1048576: true; the input reads as it did. -/
def stepApartUptoRow : OpenClaim := { program := "ytkaplifhaafpdaa", sum := "14d6d4201d48f6f32a02e6f319ca5d4c1cfb4dcd9657f26cbddd17c590ccb9df", func := "shutter/shutterlaw04.StepApart", spec := "stepApart", inPlace := ["sync/atomic.StoreInt64"], unfollowed := true, recurses := true, apart := false, narrowed := true }
def StepApartUptoSaid : Prop := stepApartUptoRow.holds Try.pinned (OpenSpec.upto stepApartSpec)

/-- 'shutterlaw04.StepAlone', WHERE WHAT IT READS IS OF BULK AT MOST 1048576: true; the input reads as it did. -/
def stepAloneUptoRow : OpenClaim := { program := "ytkaplifhaafpdaa", sum := "14d6d4201d48f6f32a02e6f319ca5d4c1cfb4dcd9657f26cbddd17c590ccb9df", func := "shutter/shutterlaw04.StepAlone", spec := "stepAlone", inPlace := ["sync/atomic.StoreInt64"], unfollowed := true, recurses := true, apart := false, narrowed := true }
def StepAloneUptoSaid : Prop := stepAloneUptoRow.holds Try.pinned (OpenSpec.upto stepAloneSpec)

/-- 'shutterlaw04.StepRuns', WHERE WHAT IT READS IS OF BULK AT MOST 1048576: true; the input reads as it did. -/
def stepRunsUptoRow : OpenClaim := { program := "ytkaplifhaafpdaa", sum := "14d6d4201d48f6f32a02e6f319ca5d4c1cfb4dcd9657f26cbddd17c590ccb9df", func := "shutter/shutterlaw04.StepRuns", spec := "stepRuns", inPlace := ["sync/atomic.StoreInt64"], unfollowed := true, recurses := true, apart := false, narrowed := true }
def StepRunsUptoSaid : Prop := stepRunsUptoRow.holds Try.pinned (OpenSpec.upto stepRunsSpec)

/-- 'shutterlaw04.StepHistory', WHERE WHAT IT READS IS OF BULK AT MOST 1048576: true; the input reads as it did. -/
def stepHistoryUptoRow : OpenClaim := { program := "ytkaplifhaafpdaa", sum := "14d6d4201d48f6f32a02e6f319ca5d4c1cfb4dcd9657f26cbddd17c590ccb9df", func := "shutter/shutterlaw04.StepHistory", spec := "stepHistory", inPlace := ["sync/atomic.StoreInt64"], unfollowed := true, recurses := true, apart := false, narrowed := true }
def StepHistoryUptoSaid : Prop := stepHistoryUptoRow.holds Try.pinned (OpenSpec.upto stepHistorySpec)

/-- 'shutterlaw04.StepNone', WHERE WHAT IT READS IS OF BULK AT MOST 1048576: true; the input reads as it did. -/
def stepNoneUptoRow : OpenClaim := { program := "ytkaplifhaafpdaa", sum := "14d6d4201d48f6f32a02e6f319ca5d4c1cfb4dcd9657f26cbddd17c590ccb9df", func := "shutter/shutterlaw04.StepNone", spec := "stepNone", inPlace := ["sync/atomic.StoreInt64"], unfollowed := true, recurses := true, apart := false, narrowed := true }
def StepNoneUptoSaid : Prop := stepNoneUptoRow.holds Try.pinned (OpenSpec.upto stepNoneSpec)

end Rows
end Go.Proofs.Ytkaplifhaafpdaa
