/-
  No cell of these rows narrows 'for every input' (looked for: loops, veiled, ifaces, maps, wideKeys, modest, calm, conditions, laid).
  DERIVED. THE GIVEN ROWS OF THIS SEAT. 11 by the template 'for every input the law returns true; each argument reads behind the call as it read before'; 0 by the template 'total and deterministic' (their statements: YtfbdgodebeggbaaTotals.lean).
  GIVEN WITH THE SEED: the statements are not yours to turn. If you find one false, say at which input.
  Laid BY PROGRAM, IN A SANDBOX (cutbox-rows.mjs): the forced cells as the released guide's own fill.sh prints them over the translation ca74c29a17ddafa9… (all of the seat's roots in one cut). By AI agents, Wed Nov 11 2026. No macro, syntax, notation, axiom, sorry.
-/
import Derived.Test.YtfbdgodebeggbaaChecked
import GoSem.Claim
import GoSem.ClaimJoined
import GoSem.ClaimMapViews
import Derived.JoinedTies
import Derived.KernelRfl
namespace Go.Proofs.Ytfbdgodebeggbaa
/- THE CELL 'sum', in the pinned program and in every row, IS THE sha256 OF THE DUMP (.gsa) THAT YtfbdgodebeggbaaProg.lean LOADS. Nothing in Lean hashes anything: it is a label: what it is worth is what the hold of that sum in a sandbox is worth. -/
noncomputable def Try.pinned : Pinned := { name := "ytfbdgodebeggbaa", sum := "ca74c29a17ddafa971421b5b682e59cc8224b8fd86d494a5b068fe18baae8ac8", checked := Try.checked }
namespace Rows
def none {H : Type} : Left H := { results := [], args := [] }

/-- 'shutterlaw08.CameraNone': WHATEVER THE INPUT: true; the input reads as it did. -/
def cameraNoneSpec : ChangeSpec := { name := "cameraNone", fn := fun _ => fun
  | [d1, d2] => { results := [.lit (.bool true)], args := [d1, d2] }
  | _ => none }
def cameraNoneRow : OpenClaim := { program := "ytfbdgodebeggbaa", sum := "ca74c29a17ddafa971421b5b682e59cc8224b8fd86d494a5b068fe18baae8ac8", func := "shutter/shutterlaw08.CameraNone", spec := "cameraNone", inPlace := ["sync/atomic.StoreInt64"], unfollowed := true, recurses := true, apart := false }
def CameraNoneSaid : Prop := cameraNoneRow.holds Try.pinned (OpenSpec.ofChange cameraNoneSpec)

/-- ITS FALSE NEIGHBOUR: 'it returns false'. Refute it at one input. -/
def cameraNoneWrong : ChangeSpec := { name := "cameraNone", fn := fun _ => fun
  | [d1, d2] => { results := [.lit (.bool false)], args := [d1, d2] }
  | _ => none }
def CameraNoneWrongFalsely : Prop := cameraNoneRow.holds Try.pinned (OpenSpec.ofChange cameraNoneWrong)

/-- 'shutterlaw08.CameraRuns': WHATEVER THE INPUT: true; the input reads as it did. -/
def cameraRunsSpec : ChangeSpec := { name := "cameraRuns", fn := fun _ => fun
  | [d] => { results := [.lit (.bool true)], args := [d] }
  | _ => none }
def cameraRunsRow : OpenClaim := { program := "ytfbdgodebeggbaa", sum := "ca74c29a17ddafa971421b5b682e59cc8224b8fd86d494a5b068fe18baae8ac8", func := "shutter/shutterlaw08.CameraRuns", spec := "cameraRuns", inPlace := ["sync/atomic.StoreInt64"], unfollowed := true, recurses := true, apart := false }
def CameraRunsSaid : Prop := cameraRunsRow.holds Try.pinned (OpenSpec.ofChange cameraRunsSpec)

/-- ITS FALSE NEIGHBOUR: 'it returns false'. Refute it at one input. -/
def cameraRunsWrong : ChangeSpec := { name := "cameraRuns", fn := fun _ => fun
  | [d] => { results := [.lit (.bool false)], args := [d] }
  | _ => none }
def CameraRunsWrongFalsely : Prop := cameraRunsRow.holds Try.pinned (OpenSpec.ofChange cameraRunsWrong)

/-- 'shutterlaw08.CameraRises': WHATEVER THE INPUT: true; the input reads as it did. -/
def cameraRisesSpec : ChangeSpec := { name := "cameraRises", fn := fun _ => fun
  | [d] => { results := [.lit (.bool true)], args := [d] }
  | _ => none }
def cameraRisesRow : OpenClaim := { program := "ytfbdgodebeggbaa", sum := "ca74c29a17ddafa971421b5b682e59cc8224b8fd86d494a5b068fe18baae8ac8", func := "shutter/shutterlaw08.CameraRises", spec := "cameraRises", inPlace := ["sync/atomic.StoreInt64"], unfollowed := true, recurses := true, apart := false }
def CameraRisesSaid : Prop := cameraRisesRow.holds Try.pinned (OpenSpec.ofChange cameraRisesSpec)

/-- ITS FALSE NEIGHBOUR: 'it returns false'. Refute it at one input. -/
def cameraRisesWrong : ChangeSpec := { name := "cameraRises", fn := fun _ => fun
  | [d] => { results := [.lit (.bool false)], args := [d] }
  | _ => none }
def CameraRisesWrongFalsely : Prop := cameraRisesRow.holds Try.pinned (OpenSpec.ofChange cameraRisesWrong)

/-- 'shutterlaw08.CameraAhead': WHATEVER THE INPUT: true; the input reads as it did. -/
def cameraAheadSpec : ChangeSpec := { name := "cameraAhead", fn := fun _ => fun
  | [d] => { results := [.lit (.bool true)], args := [d] }
  | _ => none }
def cameraAheadRow : OpenClaim := { program := "ytfbdgodebeggbaa", sum := "ca74c29a17ddafa971421b5b682e59cc8224b8fd86d494a5b068fe18baae8ac8", func := "shutter/shutterlaw08.CameraAhead", spec := "cameraAhead", inPlace := ["sync/atomic.StoreInt64"], unfollowed := true, recurses := true, apart := false }
def CameraAheadSaid : Prop := cameraAheadRow.holds Try.pinned (OpenSpec.ofChange cameraAheadSpec)

/-- ITS FALSE NEIGHBOUR: 'it returns false'. Refute it at one input. -/
def cameraAheadWrong : ChangeSpec := { name := "cameraAhead", fn := fun _ => fun
  | [d] => { results := [.lit (.bool false)], args := [d] }
  | _ => none }
def CameraAheadWrongFalsely : Prop := cameraAheadRow.holds Try.pinned (OpenSpec.ofChange cameraAheadWrong)

/-- 'shutterlaw08.CameraOnce': WHATEVER THE INPUT: true; the input reads as it did. -/
def cameraOnceSpec : ChangeSpec := { name := "cameraOnce", fn := fun _ => fun
  | [d] => { results := [.lit (.bool true)], args := [d] }
  | _ => none }
def cameraOnceRow : OpenClaim := { program := "ytfbdgodebeggbaa", sum := "ca74c29a17ddafa971421b5b682e59cc8224b8fd86d494a5b068fe18baae8ac8", func := "shutter/shutterlaw08.CameraOnce", spec := "cameraOnce", inPlace := ["sync/atomic.StoreInt64"], unfollowed := true, recurses := true, apart := false }
def CameraOnceSaid : Prop := cameraOnceRow.holds Try.pinned (OpenSpec.ofChange cameraOnceSpec)

/-- ITS FALSE NEIGHBOUR: 'it returns false'. Refute it at one input. -/
def cameraOnceWrong : ChangeSpec := { name := "cameraOnce", fn := fun _ => fun
  | [d] => { results := [.lit (.bool false)], args := [d] }
  | _ => none }
def CameraOnceWrongFalsely : Prop := cameraOnceRow.holds Try.pinned (OpenSpec.ofChange cameraOnceWrong)

/-- 'shutterlaw03.ArenaOwn': WHATEVER THE INPUT: true; the input reads as it did. -/
def arenaOwnSpec : ChangeSpec := { name := "arenaOwn", fn := fun _ => fun
  | [d] => { results := [.lit (.bool true)], args := [d] }
  | _ => none }
def arenaOwnRow : OpenClaim := { program := "ytfbdgodebeggbaa", sum := "ca74c29a17ddafa971421b5b682e59cc8224b8fd86d494a5b068fe18baae8ac8", func := "shutter/shutterlaw03.ArenaOwn", spec := "arenaOwn", inPlace := ["sync/atomic.StoreInt64"], unfollowed := true, recurses := true, apart := false }
def ArenaOwnSaid : Prop := arenaOwnRow.holds Try.pinned (OpenSpec.ofChange arenaOwnSpec)

/-- ITS FALSE NEIGHBOUR: 'it returns false'. Refute it at one input. -/
def arenaOwnWrong : ChangeSpec := { name := "arenaOwn", fn := fun _ => fun
  | [d] => { results := [.lit (.bool false)], args := [d] }
  | _ => none }
def ArenaOwnWrongFalsely : Prop := arenaOwnRow.holds Try.pinned (OpenSpec.ofChange arenaOwnWrong)

/-- 'shutterlaw03.ArenaTraces': WHATEVER THE INPUT: true; the input reads as it did. -/
def arenaTracesSpec : ChangeSpec := { name := "arenaTraces", fn := fun _ => fun
  | [d1, d2] => { results := [.lit (.bool true)], args := [d1, d2] }
  | _ => none }
def arenaTracesRow : OpenClaim := { program := "ytfbdgodebeggbaa", sum := "ca74c29a17ddafa971421b5b682e59cc8224b8fd86d494a5b068fe18baae8ac8", func := "shutter/shutterlaw03.ArenaTraces", spec := "arenaTraces", inPlace := ["sync/atomic.StoreInt64"], unfollowed := true, recurses := true, apart := false }
def ArenaTracesSaid : Prop := arenaTracesRow.holds Try.pinned (OpenSpec.ofChange arenaTracesSpec)

/-- ITS FALSE NEIGHBOUR: 'it returns false'. Refute it at one input. -/
def arenaTracesWrong : ChangeSpec := { name := "arenaTraces", fn := fun _ => fun
  | [d1, d2] => { results := [.lit (.bool false)], args := [d1, d2] }
  | _ => none }
def ArenaTracesWrongFalsely : Prop := arenaTracesRow.holds Try.pinned (OpenSpec.ofChange arenaTracesWrong)

/-- 'shutterlaw03.ArenaLive': WHATEVER THE INPUT: true; the input reads as it did. -/
def arenaLiveSpec : ChangeSpec := { name := "arenaLive", fn := fun _ => fun
  | [d] => { results := [.lit (.bool true)], args := [d] }
  | _ => none }
def arenaLiveRow : OpenClaim := { program := "ytfbdgodebeggbaa", sum := "ca74c29a17ddafa971421b5b682e59cc8224b8fd86d494a5b068fe18baae8ac8", func := "shutter/shutterlaw03.ArenaLive", spec := "arenaLive", inPlace := ["sync/atomic.StoreInt64"], unfollowed := true, recurses := true, apart := false }
def ArenaLiveSaid : Prop := arenaLiveRow.holds Try.pinned (OpenSpec.ofChange arenaLiveSpec)

/-- ITS FALSE NEIGHBOUR: 'it returns false'. Refute it at one input. -/
def arenaLiveWrong : ChangeSpec := { name := "arenaLive", fn := fun _ => fun
  | [d] => { results := [.lit (.bool false)], args := [d] }
  | _ => none }
def ArenaLiveWrongFalsely : Prop := arenaLiveRow.holds Try.pinned (OpenSpec.ofChange arenaLiveWrong)

/-- 'shutterlaw03.ArenaViews': WHATEVER THE INPUT: true; the input reads as it did. -/
def arenaViewsSpec : ChangeSpec := { name := "arenaViews", fn := fun _ => fun
  | [d] => { results := [.lit (.bool true)], args := [d] }
  | _ => none }
def arenaViewsRow : OpenClaim := { program := "ytfbdgodebeggbaa", sum := "ca74c29a17ddafa971421b5b682e59cc8224b8fd86d494a5b068fe18baae8ac8", func := "shutter/shutterlaw03.ArenaViews", spec := "arenaViews", inPlace := ["sync/atomic.StoreInt64"], unfollowed := true, recurses := true, apart := false }
def ArenaViewsSaid : Prop := arenaViewsRow.holds Try.pinned (OpenSpec.ofChange arenaViewsSpec)

/-- ITS FALSE NEIGHBOUR: 'it returns false'. Refute it at one input. -/
def arenaViewsWrong : ChangeSpec := { name := "arenaViews", fn := fun _ => fun
  | [d] => { results := [.lit (.bool false)], args := [d] }
  | _ => none }
def ArenaViewsWrongFalsely : Prop := arenaViewsRow.holds Try.pinned (OpenSpec.ofChange arenaViewsWrong)

/-- 'shutterlaw03.ArenaPlays': WHATEVER THE INPUT: true; the input reads as it did. -/
def arenaPlaysSpec : ChangeSpec := { name := "arenaPlays", fn := fun _ => fun
  | [d1, d2, d3] => { results := [.lit (.bool true)], args := [d1, d2, d3] }
  | _ => none }
def arenaPlaysRow : OpenClaim := { program := "ytfbdgodebeggbaa", sum := "ca74c29a17ddafa971421b5b682e59cc8224b8fd86d494a5b068fe18baae8ac8", func := "shutter/shutterlaw03.ArenaPlays", spec := "arenaPlays", inPlace := ["sync/atomic.StoreInt64"], unfollowed := true, recurses := true, apart := false }
def ArenaPlaysSaid : Prop := arenaPlaysRow.holds Try.pinned (OpenSpec.ofChange arenaPlaysSpec)

/-- ITS FALSE NEIGHBOUR: 'it returns false'. Refute it at one input. -/
def arenaPlaysWrong : ChangeSpec := { name := "arenaPlays", fn := fun _ => fun
  | [d1, d2, d3] => { results := [.lit (.bool false)], args := [d1, d2, d3] }
  | _ => none }
def ArenaPlaysWrongFalsely : Prop := arenaPlaysRow.holds Try.pinned (OpenSpec.ofChange arenaPlaysWrong)

/-- 'shutterlaw03.ArenaNone': WHATEVER THE INPUT: true; the input reads as it did. -/
def arenaNoneSpec : ChangeSpec := { name := "arenaNone", fn := fun _ => fun
  | [d] => { results := [.lit (.bool true)], args := [d] }
  | _ => none }
def arenaNoneRow : OpenClaim := { program := "ytfbdgodebeggbaa", sum := "ca74c29a17ddafa971421b5b682e59cc8224b8fd86d494a5b068fe18baae8ac8", func := "shutter/shutterlaw03.ArenaNone", spec := "arenaNone", inPlace := ["sync/atomic.StoreInt64"], unfollowed := true, recurses := true, apart := false }
def ArenaNoneSaid : Prop := arenaNoneRow.holds Try.pinned (OpenSpec.ofChange arenaNoneSpec)

/-- ITS FALSE NEIGHBOUR: 'it returns false'. Refute it at one input. -/
def arenaNoneWrong : ChangeSpec := { name := "arenaNone", fn := fun _ => fun
  | [d] => { results := [.lit (.bool false)], args := [d] }
  | _ => none }
def ArenaNoneWrongFalsely : Prop := arenaNoneRow.holds Try.pinned (OpenSpec.ofChange arenaNoneWrong)

/- THE SECOND FORM. 'bulk': how many values and letters a reading holds, each counted each time it is reached (what is shared counts as often as it is met; a slice's spare places count too). A statement '..UptoSaid' is the law's where the arguments, and the package variables that the reading takes, are together of bulk at most 1048576: NARROWER than '..Said'. Prove '..Said' where nothing that the law and all that it calls make is longer than what came in: it says more and counts as full. Else prove '..UptoSaid'. A law counts once. -/
mutual
def uptoBulk {H : Type} : DataW H → Nat
  | .lit (.string bytes) => bytes.length + 1
  | .lit _ => 1
  | .nil => 1
  | .ptr d => uptoBulk d + 1
  | .slice elems spare => uptoBulkAll elems + uptoBulkAll spare + 1
  | .agg parts => uptoBulkAll parts + 1
  | .iface _ d => uptoBulk d + 1
  | .map entries => uptoBulkEntries entries + 1
  | .held _ => 1
def uptoBulkAll {H : Type} : List (DataW H) → Nat
  | [] => 0
  | d :: r => uptoBulk d + uptoBulkAll r
def uptoBulkEntries {H : Type} : List (Lit × DataW H) → Nat
  | [] => 0
  | x :: r => uptoBulkEntry x + uptoBulkEntries r
def uptoBulkEntry {H : Type} : Lit × DataW H → Nat
  | (.string bytes, d) => bytes.length + uptoBulk d + 1
  | (_, d) => uptoBulk d + 1
 end
def uptoSmall : (H : Type) → List (DataW H) → Bool := fun _ ds => decide (uptoBulkAll ds ≤ 1048576)
def OpenSpec.upto (s : _root_.Go.ChangeSpec) : _root_.Go.OpenSpec := { _root_.Go.OpenSpec.ofChange s with cond := some uptoSmall }

/-- 'shutterlaw08.CameraNone', WHERE WHAT IT READS IS OF BULK AT MOST 1048576: true; the input reads as it did. -/
def cameraNoneUptoRow : OpenClaim := { program := "ytfbdgodebeggbaa", sum := "ca74c29a17ddafa971421b5b682e59cc8224b8fd86d494a5b068fe18baae8ac8", func := "shutter/shutterlaw08.CameraNone", spec := "cameraNone", inPlace := ["sync/atomic.StoreInt64"], unfollowed := true, recurses := true, apart := false, narrowed := true }
def CameraNoneUptoSaid : Prop := cameraNoneUptoRow.holds Try.pinned (OpenSpec.upto cameraNoneSpec)

/-- 'shutterlaw08.CameraRuns', WHERE WHAT IT READS IS OF BULK AT MOST 1048576: true; the input reads as it did. -/
def cameraRunsUptoRow : OpenClaim := { program := "ytfbdgodebeggbaa", sum := "ca74c29a17ddafa971421b5b682e59cc8224b8fd86d494a5b068fe18baae8ac8", func := "shutter/shutterlaw08.CameraRuns", spec := "cameraRuns", inPlace := ["sync/atomic.StoreInt64"], unfollowed := true, recurses := true, apart := false, narrowed := true }
def CameraRunsUptoSaid : Prop := cameraRunsUptoRow.holds Try.pinned (OpenSpec.upto cameraRunsSpec)

/-- 'shutterlaw08.CameraRises', WHERE WHAT IT READS IS OF BULK AT MOST 1048576: true; the input reads as it did. -/
def cameraRisesUptoRow : OpenClaim := { program := "ytfbdgodebeggbaa", sum := "ca74c29a17ddafa971421b5b682e59cc8224b8fd86d494a5b068fe18baae8ac8", func := "shutter/shutterlaw08.CameraRises", spec := "cameraRises", inPlace := ["sync/atomic.StoreInt64"], unfollowed := true, recurses := true, apart := false, narrowed := true }
def CameraRisesUptoSaid : Prop := cameraRisesUptoRow.holds Try.pinned (OpenSpec.upto cameraRisesSpec)

/-- 'shutterlaw08.CameraAhead', WHERE WHAT IT READS IS OF BULK AT MOST 1048576: true; the input reads as it did. -/
def cameraAheadUptoRow : OpenClaim := { program := "ytfbdgodebeggbaa", sum := "ca74c29a17ddafa971421b5b682e59cc8224b8fd86d494a5b068fe18baae8ac8", func := "shutter/shutterlaw08.CameraAhead", spec := "cameraAhead", inPlace := ["sync/atomic.StoreInt64"], unfollowed := true, recurses := true, apart := false, narrowed := true }
def CameraAheadUptoSaid : Prop := cameraAheadUptoRow.holds Try.pinned (OpenSpec.upto cameraAheadSpec)

/-- 'shutterlaw08.CameraOnce', WHERE WHAT IT READS IS OF BULK AT MOST 1048576: true; the input reads as it did. -/
def cameraOnceUptoRow : OpenClaim := { program := "ytfbdgodebeggbaa", sum := "ca74c29a17ddafa971421b5b682e59cc8224b8fd86d494a5b068fe18baae8ac8", func := "shutter/shutterlaw08.CameraOnce", spec := "cameraOnce", inPlace := ["sync/atomic.StoreInt64"], unfollowed := true, recurses := true, apart := false, narrowed := true }
def CameraOnceUptoSaid : Prop := cameraOnceUptoRow.holds Try.pinned (OpenSpec.upto cameraOnceSpec)

/-- 'shutterlaw03.ArenaOwn', WHERE WHAT IT READS IS OF BULK AT MOST 1048576: true; the input reads as it did. -/
def arenaOwnUptoRow : OpenClaim := { program := "ytfbdgodebeggbaa", sum := "ca74c29a17ddafa971421b5b682e59cc8224b8fd86d494a5b068fe18baae8ac8", func := "shutter/shutterlaw03.ArenaOwn", spec := "arenaOwn", inPlace := ["sync/atomic.StoreInt64"], unfollowed := true, recurses := true, apart := false, narrowed := true }
def ArenaOwnUptoSaid : Prop := arenaOwnUptoRow.holds Try.pinned (OpenSpec.upto arenaOwnSpec)

/-- 'shutterlaw03.ArenaTraces', WHERE WHAT IT READS IS OF BULK AT MOST 1048576: true; the input reads as it did. -/
def arenaTracesUptoRow : OpenClaim := { program := "ytfbdgodebeggbaa", sum := "ca74c29a17ddafa971421b5b682e59cc8224b8fd86d494a5b068fe18baae8ac8", func := "shutter/shutterlaw03.ArenaTraces", spec := "arenaTraces", inPlace := ["sync/atomic.StoreInt64"], unfollowed := true, recurses := true, apart := false, narrowed := true }
def ArenaTracesUptoSaid : Prop := arenaTracesUptoRow.holds Try.pinned (OpenSpec.upto arenaTracesSpec)

/-- 'shutterlaw03.ArenaLive', WHERE WHAT IT READS IS OF BULK AT MOST 1048576: true; the input reads as it did. -/
def arenaLiveUptoRow : OpenClaim := { program := "ytfbdgodebeggbaa", sum := "ca74c29a17ddafa971421b5b682e59cc8224b8fd86d494a5b068fe18baae8ac8", func := "shutter/shutterlaw03.ArenaLive", spec := "arenaLive", inPlace := ["sync/atomic.StoreInt64"], unfollowed := true, recurses := true, apart := false, narrowed := true }
def ArenaLiveUptoSaid : Prop := arenaLiveUptoRow.holds Try.pinned (OpenSpec.upto arenaLiveSpec)

/-- 'shutterlaw03.ArenaViews', WHERE WHAT IT READS IS OF BULK AT MOST 1048576: true; the input reads as it did. -/
def arenaViewsUptoRow : OpenClaim := { program := "ytfbdgodebeggbaa", sum := "ca74c29a17ddafa971421b5b682e59cc8224b8fd86d494a5b068fe18baae8ac8", func := "shutter/shutterlaw03.ArenaViews", spec := "arenaViews", inPlace := ["sync/atomic.StoreInt64"], unfollowed := true, recurses := true, apart := false, narrowed := true }
def ArenaViewsUptoSaid : Prop := arenaViewsUptoRow.holds Try.pinned (OpenSpec.upto arenaViewsSpec)

/-- 'shutterlaw03.ArenaPlays', WHERE WHAT IT READS IS OF BULK AT MOST 1048576: true; the input reads as it did. -/
def arenaPlaysUptoRow : OpenClaim := { program := "ytfbdgodebeggbaa", sum := "ca74c29a17ddafa971421b5b682e59cc8224b8fd86d494a5b068fe18baae8ac8", func := "shutter/shutterlaw03.ArenaPlays", spec := "arenaPlays", inPlace := ["sync/atomic.StoreInt64"], unfollowed := true, recurses := true, apart := false, narrowed := true }
def ArenaPlaysUptoSaid : Prop := arenaPlaysUptoRow.holds Try.pinned (OpenSpec.upto arenaPlaysSpec)

/-- 'shutterlaw03.ArenaNone', WHERE WHAT IT READS IS OF BULK AT MOST 1048576: true; the input reads as it did. -/
def arenaNoneUptoRow : OpenClaim := { program := "ytfbdgodebeggbaa", sum := "ca74c29a17ddafa971421b5b682e59cc8224b8fd86d494a5b068fe18baae8ac8", func := "shutter/shutterlaw03.ArenaNone", spec := "arenaNone", inPlace := ["sync/atomic.StoreInt64"], unfollowed := true, recurses := true, apart := false, narrowed := true }
def ArenaNoneUptoSaid : Prop := arenaNoneUptoRow.holds Try.pinned (OpenSpec.upto arenaNoneSpec)

end Rows
end Go.Proofs.Ytfbdgodebeggbaa
