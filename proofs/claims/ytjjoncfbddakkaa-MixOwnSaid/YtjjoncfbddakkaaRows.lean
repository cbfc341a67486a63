/-
  No cell of these rows narrows 'for every input' (looked for: loops, veiled, ifaces, maps, wideKeys, modest, calm, conditions, laid).
  DERIVED. THE GIVEN ROWS OF THIS SEAT. 9 by the template 'for every input the law returns true; each argument reads behind the call as it read before'; 0 by the template 'total and deterministic' (their statements: YtjjoncfbddakkaaTotals.lean).
  GIVEN WITH THE SEED: the statements are not yours to turn. If you find one false, say at which input.
  Laid BY PROGRAM, IN A SANDBOX (cutbox-rows.mjs): the forced cells as the released guide's own fill.sh prints them over the translation 41a7197f802ae4c1… (all of the seat's roots in one cut). By AI agents, Wed Nov 11 2026. No macro, syntax, notation, axiom, sorry.
-/
import Derived.Test.YtjjoncfbddakkaaChecked
import GoSem.Claim
import GoSem.ClaimJoined
import GoSem.ClaimMapViews
import Derived.JoinedTies
import Derived.KernelRfl
namespace Go.Proofs.Ytjjoncfbddakkaa
/- THE CELL 'sum', in the pinned program and in every row, IS THE sha256 OF THE DUMP (.gsa) THAT YtjjoncfbddakkaaProg.lean LOADS. Nothing in Lean hashes anything: it is a label: what it is worth is what the hold of that sum in a sandbox is worth. -/
noncomputable def Try.pinned : Pinned := { name := "ytjjoncfbddakkaa", sum := "41a7197f802ae4c1fdfc8755a7198d6765efdb5dda01cbacebf886c054f393a1", checked := Try.checked }
namespace Rows
def none {H : Type} : Left H := { results := [], args := [] }

/-- 'shutterlaw02.MixMixes': WHATEVER THE INPUT: true; the input reads as it did. -/
def mixMixesSpec : ChangeSpec := { name := "mixMixes", fn := fun _ => fun
  | [d] => { results := [.lit (.bool true)], args := [d] }
  | _ => none }
def mixMixesRow : OpenClaim := { program := "ytjjoncfbddakkaa", sum := "41a7197f802ae4c1fdfc8755a7198d6765efdb5dda01cbacebf886c054f393a1", func := "shutter/shutterlaw02.MixMixes", spec := "mixMixes", unfollowed := true, recurses := true, apart := false }
def MixMixesSaid : Prop := mixMixesRow.holds Try.pinned (OpenSpec.ofChange mixMixesSpec)

/-- ITS FALSE NEIGHBOUR: 'it returns false'. Refute it at one input. -/
def mixMixesWrong : ChangeSpec := { name := "mixMixes", fn := fun _ => fun
  | [d] => { results := [.lit (.bool false)], args := [d] }
  | _ => none }
def MixMixesWrongFalsely : Prop := mixMixesRow.holds Try.pinned (OpenSpec.ofChange mixMixesWrong)

/-- 'shutterlaw02.MixTurns': WHATEVER THE INPUT: true; the input reads as it did. -/
def mixTurnsSpec : ChangeSpec := { name := "mixTurns", fn := fun _ => fun
  | [d1, d2] => { results := [.lit (.bool true)], args := [d1, d2] }
  | _ => none }
def mixTurnsRow : OpenClaim := { program := "ytjjoncfbddakkaa", sum := "41a7197f802ae4c1fdfc8755a7198d6765efdb5dda01cbacebf886c054f393a1", func := "shutter/shutterlaw02.MixTurns", spec := "mixTurns", unfollowed := true, recurses := true, apart := false }
def MixTurnsSaid : Prop := mixTurnsRow.holds Try.pinned (OpenSpec.ofChange mixTurnsSpec)

/-- ITS FALSE NEIGHBOUR: 'it returns false'. Refute it at one input. -/
def mixTurnsWrong : ChangeSpec := { name := "mixTurns", fn := fun _ => fun
  | [d1, d2] => { results := [.lit (.bool false)], args := [d1, d2] }
  | _ => none }
def MixTurnsWrongFalsely : Prop := mixTurnsRow.holds Try.pinned (OpenSpec.ofChange mixTurnsWrong)

/-- 'shutterlaw02.MixCommon': WHATEVER THE INPUT: true; the input reads as it did. -/
def mixCommonSpec : ChangeSpec := { name := "mixCommon", fn := fun _ => fun
  | [d1, d2, d3] => { results := [.lit (.bool true)], args := [d1, d2, d3] }
  | _ => none }
def mixCommonRow : OpenClaim := { program := "ytjjoncfbddakkaa", sum := "41a7197f802ae4c1fdfc8755a7198d6765efdb5dda01cbacebf886c054f393a1", func := "shutter/shutterlaw02.MixCommon", spec := "mixCommon", unfollowed := true, recurses := true, apart := false }
def MixCommonSaid : Prop := mixCommonRow.holds Try.pinned (OpenSpec.ofChange mixCommonSpec)

/-- ITS FALSE NEIGHBOUR: 'it returns false'. Refute it at one input. -/
def mixCommonWrong : ChangeSpec := { name := "mixCommon", fn := fun _ => fun
  | [d1, d2, d3] => { results := [.lit (.bool false)], args := [d1, d2, d3] }
  | _ => none }
def MixCommonWrongFalsely : Prop := mixCommonRow.holds Try.pinned (OpenSpec.ofChange mixCommonWrong)

/-- 'shutterlaw02.MixRound': WHATEVER THE INPUT: true; the input reads as it did. -/
def mixRoundSpec : ChangeSpec := { name := "mixRound", fn := fun _ => fun
  | [d1, d2, d3] => { results := [.lit (.bool true)], args := [d1, d2, d3] }
  | _ => none }
def mixRoundRow : OpenClaim := { program := "ytjjoncfbddakkaa", sum := "41a7197f802ae4c1fdfc8755a7198d6765efdb5dda01cbacebf886c054f393a1", func := "shutter/shutterlaw02.MixRound", spec := "mixRound", unfollowed := true, recurses := true, apart := false }
def MixRoundSaid : Prop := mixRoundRow.holds Try.pinned (OpenSpec.ofChange mixRoundSpec)

/-- ITS FALSE NEIGHBOUR: 'it returns false'. Refute it at one input. -/
def mixRoundWrong : ChangeSpec := { name := "mixRound", fn := fun _ => fun
  | [d1, d2, d3] => { results := [.lit (.bool false)], args := [d1, d2, d3] }
  | _ => none }
def MixRoundWrongFalsely : Prop := mixRoundRow.holds Try.pinned (OpenSpec.ofChange mixRoundWrong)

/-- 'shutterlaw02.MixDigits': WHATEVER THE INPUT: true; the input reads as it did. -/
def mixDigitsSpec : ChangeSpec := { name := "mixDigits", fn := fun _ => fun
  | [d1, d2, d3] => { results := [.lit (.bool true)], args := [d1, d2, d3] }
  | _ => none }
def mixDigitsRow : OpenClaim := { program := "ytjjoncfbddakkaa", sum := "41a7197f802ae4c1fdfc8755a7198d6765efdb5dda01cbacebf886c054f393a1", func := "shutter/shutterlaw02.MixDigits", spec := "mixDigits", unfollowed := true, recurses := true, apart := false }
def MixDigitsSaid : Prop := mixDigitsRow.holds Try.pinned (OpenSpec.ofChange mixDigitsSpec)

/-- ITS FALSE NEIGHBOUR: 'it returns false'. Refute it at one input. -/
def mixDigitsWrong : ChangeSpec := { name := "mixDigits", fn := fun _ => fun
  | [d1, d2, d3] => { results := [.lit (.bool false)], args := [d1, d2, d3] }
  | _ => none }
def MixDigitsWrongFalsely : Prop := mixDigitsRow.holds Try.pinned (OpenSpec.ofChange mixDigitsWrong)

/-- 'shutterlaw02.MixOwn': WHATEVER THE INPUT: true; the input reads as it did. -/
def mixOwnSpec : ChangeSpec := { name := "mixOwn", fn := fun _ => fun
  | [d1, d2] => { results := [.lit (.bool true)], args := [d1, d2] }
  | _ => none }
def mixOwnRow : OpenClaim := { program := "ytjjoncfbddakkaa", sum := "41a7197f802ae4c1fdfc8755a7198d6765efdb5dda01cbacebf886c054f393a1", func := "shutter/shutterlaw02.MixOwn", spec := "mixOwn", unfollowed := true, recurses := true, apart := false }
def MixOwnSaid : Prop := mixOwnRow.holds Try.pinned (OpenSpec.ofChange mixOwnSpec)

/-- ITS FALSE NEIGHBOUR: 'it returns false'. Refute it at one input. -/
def mixOwnWrong : ChangeSpec := { name := "mixOwn", fn := fun _ => fun
  | [d1, d2] => { results := [.lit (.bool false)], args := [d1, d2] }
  | _ => none }
def MixOwnWrongFalsely : Prop := mixOwnRow.holds Try.pinned (OpenSpec.ofChange mixOwnWrong)

/-- 'shutterlaw02.MixJoins': WHATEVER THE INPUT: true; the input reads as it did. -/
def mixJoinsSpec : ChangeSpec := { name := "mixJoins", fn := fun _ => fun
  | [d] => { results := [.lit (.bool true)], args := [d] }
  | _ => none }
def mixJoinsRow : OpenClaim := { program := "ytjjoncfbddakkaa", sum := "41a7197f802ae4c1fdfc8755a7198d6765efdb5dda01cbacebf886c054f393a1", func := "shutter/shutterlaw02.MixJoins", spec := "mixJoins", unfollowed := true, recurses := true, apart := false }
def MixJoinsSaid : Prop := mixJoinsRow.holds Try.pinned (OpenSpec.ofChange mixJoinsSpec)

/-- ITS FALSE NEIGHBOUR: 'it returns false'. Refute it at one input. -/
def mixJoinsWrong : ChangeSpec := { name := "mixJoins", fn := fun _ => fun
  | [d] => { results := [.lit (.bool false)], args := [d] }
  | _ => none }
def MixJoinsWrongFalsely : Prop := mixJoinsRow.holds Try.pinned (OpenSpec.ofChange mixJoinsWrong)

/-- 'shutterlaw02.MixBack': WHATEVER THE INPUT: true; the input reads as it did. -/
def mixBackSpec : ChangeSpec := { name := "mixBack", fn := fun _ => fun
  | [d1, d2] => { results := [.lit (.bool true)], args := [d1, d2] }
  | _ => none }
def mixBackRow : OpenClaim := { program := "ytjjoncfbddakkaa", sum := "41a7197f802ae4c1fdfc8755a7198d6765efdb5dda01cbacebf886c054f393a1", func := "shutter/shutterlaw02.MixBack", spec := "mixBack", unfollowed := true, recurses := true, apart := false }
def MixBackSaid : Prop := mixBackRow.holds Try.pinned (OpenSpec.ofChange mixBackSpec)

/-- ITS FALSE NEIGHBOUR: 'it returns false'. Refute it at one input. -/
def mixBackWrong : ChangeSpec := { name := "mixBack", fn := fun _ => fun
  | [d1, d2] => { results := [.lit (.bool false)], args := [d1, d2] }
  | _ => none }
def MixBackWrongFalsely : Prop := mixBackRow.holds Try.pinned (OpenSpec.ofChange mixBackWrong)

/-- 'shuttertop.TopWays': WHATEVER THE INPUT: true; the input reads as it did. -/
def topWaysSpec : ChangeSpec := { name := "topWays", fn := fun _ => fun
  | [d1, d2, d3] => { results := [.lit (.bool true)], args := [d1, d2, d3] }
  | _ => none }
def topWaysRow : OpenClaim := { program := "ytjjoncfbddakkaa", sum := "41a7197f802ae4c1fdfc8755a7198d6765efdb5dda01cbacebf886c054f393a1", func := "shutter/shuttertop.TopWays", spec := "topWays", unfollowed := true, recurses := true, apart := false }
def TopWaysSaid : Prop := topWaysRow.holds Try.pinned (OpenSpec.ofChange topWaysSpec)

/-- ITS FALSE NEIGHBOUR: 'it returns false'. Refute it at one input. -/
def topWaysWrong : ChangeSpec := { name := "topWays", fn := fun _ => fun
  | [d1, d2, d3] => { results := [.lit (.bool false)], args := [d1, d2, d3] }
  | _ => none }
def TopWaysWrongFalsely : Prop := topWaysRow.holds Try.pinned (OpenSpec.ofChange topWaysWrong)

/- THE SECOND FORM. 'bulk': how many values and letters a reading holds, each counted each time it is reached (what is shared counts as often as it is met; a slice's spare places count too). A statement '..UptoSaid' is the law's where the arguments, and the package variables that the reading takes, are together of bulk at most 1048576: NARROWER than '..Said'. Prove '..Said' where nothing that the law and all that it calls make is longer than what came in: it says more and counts as full. Else prove '..UptoSaid'. A law counts once. -/
mutual
def uptoBulk {H : Type} : DataW H → Nat
  | .lit (.string bytes) => bytes.length + 1
  | .lit _ => 1
  | .nil => 1
  | .ptr d => uptoBulk d + 1
  | .slice elems spare => uptoBulkAll elems + uptoBulkAll spare + 1
  | .agg parts => uptoBulkAll parts + 1
  | .iface _ d => uptoBulk d + 1
  | .map entries => uptoBulkEntries entries + 1
  | .held _ => 1
def uptoBulkAll {H : Type} : List (DataW H) → Nat
  | [] => 0
  | d :: r => uptoBulk d + uptoBulkAll r
def uptoBulkEntries {H : Type} : List (Lit × DataW H) → Nat
  | [] => 0
  | x :: r => uptoBulkEntry x + uptoBulkEntries r
def uptoBulkEntry {H : Type} : Lit × DataW H → Nat
  | (.string bytes, d) => bytes.length + uptoBulk d + 1
  | (_, d) => uptoBulk d + 1
 end
def uptoSmall : (H : Type) → List (DataW H) → Bool := fun _ ds => decide (uptoBulkAll ds ≤ 1048576)
def OpenSpec.upto (s : _root_.Go.ChangeSpec) : _root_.Go.OpenSpec := { _root_.Go.OpenSpec.ofChange s with cond := some uptoSmall }

/-- 'shutterlaw02.MixMixes', WHERE WHAT IT READS IS OF BULK AT MOST 1048576: true; the input reads as it did. -/
def mixMixesUptoRow : OpenClaim := { program := "ytjjoncfbddakkaa", sum := "41a7197f802ae4c1fdfc8755a7198d6765efdb5dda01cbacebf886c054f393a1", func := "shutter/shutterlaw02.MixMixes", spec := "mixMixes", unfollowed := true, recurses := true, apart := false, narrowed := true }
def MixMixesUptoSaid : Prop := mixMixesUptoRow.holds Try.pinned (OpenSpec.upto mixMixesSpec)

/-- 'shutterlaw02.MixTurns', WHERE WHAT IT READS IS OF BULK AT MOST 1048576: true; the input reads as it did. -/
def mixTurnsUptoRow : OpenClaim := { program := "ytjjoncfbddakkaa", sum := "41a7197f802ae4c1fdfc8755a7198d6765efdb5dda01cbacebf886c054f393a1", func := "shutter/shutterlaw02.MixTurns", spec := "mixTurns", unfollowed := true, recurses := true, apart := false, narrowed := true }
def MixTurnsUptoSaid : Prop := mixTurnsUptoRow.holds Try.pinned (OpenSpec.upto mixTurnsSpec)

/-- 'shutterlaw02.MixCommon', WHERE WHAT IT READS IS OF BULK AT MOST 1048576: true; the input reads as it did. -/
def mixCommonUptoRow : OpenClaim := { program := "ytjjoncfbddakkaa", sum := "41a7197f802ae4c1fdfc8755a7198d6765efdb5dda01cbacebf886c054f393a1", func := "shutter/shutterlaw02.MixCommon", spec := "mixCommon", unfollowed := true, recurses := true, apart := false, narrowed := true }
def MixCommonUptoSaid : Prop := mixCommonUptoRow.holds Try.pinned (OpenSpec.upto mixCommonSpec)

/-- 'shutterlaw02.MixRound', WHERE WHAT IT READS IS OF BULK AT MOST 1048576: true; the input reads as it did. -/
def mixRoundUptoRow : OpenClaim := { program := "ytjjoncfbddakkaa", sum := "41a7197f802ae4c1fdfc8755a7198d6765efdb5dda01cbacebf886c054f393a1", func := "shutter/shutterlaw02.MixRound", spec := "mixRound", unfollowed := true, recurses := true, apart := false, narrowed := true }
def MixRoundUptoSaid : Prop := mixRoundUptoRow.holds Try.pinned (OpenSpec.upto mixRoundSpec)

/-- 'shutterlaw02.MixDigits', WHERE WHAT IT READS IS OF BULK AT MOST 1048576: true; the input reads as it did. -/
def mixDigitsUptoRow : OpenClaim := { program := "ytjjoncfbddakkaa", sum := "41a7197f802ae4c1fdfc8755a7198d6765efdb5dda01cbacebf886c054f393a1", func := "shutter/shutterlaw02.MixDigits", spec := "mixDigits", unfollowed := true, recurses := true, apart := false, narrowed := true }
def MixDigitsUptoSaid : Prop := mixDigitsUptoRow.holds Try.pinned (OpenSpec.upto mixDigitsSpec)

/-- 'shutterlaw02.MixOwn', WHERE WHAT IT READS IS OF BULK AT MOST 1048576: true; the input reads as it did. -/
def mixOwnUptoRow : OpenClaim := { program := "ytjjoncfbddakkaa", sum := "41a7197f802ae4c1fdfc8755a7198d6765efdb5dda01cbacebf886c054f393a1", func := "shutter/shutterlaw02.MixOwn", spec := "mixOwn", unfollowed := true, recurses := true, apart := false, narrowed := true }
def MixOwnUptoSaid : Prop := mixOwnUptoRow.holds Try.pinned (OpenSpec.upto mixOwnSpec)

/-- 'shutterlaw02.MixJoins', WHERE WHAT IT READS IS OF BULK AT MOST 1048576: true; the input reads as it did. -/
def mixJoinsUptoRow : OpenClaim := { program := "ytjjoncfbddakkaa", sum := "41a7197f802ae4c1fdfc8755a7198d6765efdb5dda01cbacebf886c054f393a1", func := "shutter/shutterlaw02.MixJoins", spec := "mixJoins", unfollowed := true, recurses := true, apart := false, narrowed := true }
def MixJoinsUptoSaid : Prop := mixJoinsUptoRow.holds Try.pinned (OpenSpec.upto mixJoinsSpec)

/-- 'shutterlaw02.MixBack', WHERE WHAT IT READS IS OF BULK AT MOST 1048576: true; the input reads as it did. -/
def mixBackUptoRow : OpenClaim := { program := "ytjjoncfbddakkaa", sum := "41a7197f802ae4c1fdfc8755a7198d6765efdb5dda01cbacebf886c054f393a1", func := "shutter/shutterlaw02.MixBack", spec := "mixBack", unfollowed := true, recurses := true, apart := false, narrowed := true }
def MixBackUptoSaid : Prop := mixBackUptoRow.holds Try.pinned (OpenSpec.upto mixBackSpec)

/-- 'shuttertop.TopWays', WHERE WHAT IT READS IS OF BULK AT MOST 1048576: true; the input reads as it did. -/
def topWaysUptoRow : OpenClaim := { program := "ytjjoncfbddakkaa", sum := "41a7197f802ae4c1fdfc8755a7198d6765efdb5dda01cbacebf886c054f393a1", func := "shutter/shuttertop.TopWays", spec := "topWays", unfollowed := true, recurses := true, apart := false, narrowed := true }
def TopWaysUptoSaid : Prop := topWaysUptoRow.holds Try.pinned (OpenSpec.upto topWaysSpec)

end Rows
end Go.Proofs.Ytjjoncfbddakkaa
