/-
  No cell of these rows narrows 'for every input' (looked for: loops, veiled, ifaces, maps, wideKeys, modest, calm, conditions, laid).
  DERIVED. THE GIVEN ROWS OF THIS SEAT. 10 by the template 'for every input the law returns true; each argument reads behind the call as it read before'; 0 by the template 'total and deterministic' (their statements: YtagadbgbicebaaaTotals.lean).
  GIVEN WITH THE SEED: the statements are not yours to turn. If you find one false, say at which input.
  Laid BY PROGRAM, IN A SANDBOX (cutbox-rows.mjs): the forced cells as the released guide's own fill.sh prints them over the translation fc3b0b5e1247c947… (all of the seat's roots in one cut). By AI agents, Wed Nov 11 2026. No macro, syntax, notation, axiom, sorry.
-/
import Derived.Test.YtagadbgbicebaaaChecked
import GoSem.Claim
import GoSem.ClaimJoined
import GoSem.ClaimMapViews
import Derived.JoinedTies
import Derived.KernelRfl
namespace Go.Proofs.Ytagadbgbicebaaa
/- THE CELL 'sum', in the pinned program and in every row, IS THE sha256 OF THE DUMP (.gsa) THAT YtagadbgbicebaaaProg.lean LOADS. Nothing in Lean hashes anything: it is a label: what it is worth is what the hold of that sum in a sandbox is worth. -/
noncomputable def Try.pinned : Pinned := { name := "ytagadbgbicebaaa", sum := "fc3b0b5e1247c94726166a335d09ec1afc46ea84010161d71c09ad6e2b673a86", checked := Try.checked }
namespace Rows
def none {H : Type} : Left H := { results := [], args := [] }

/-- 'concourselaw05.FramePuts': WHATEVER THE INPUT: true; the input reads as it did. -/
def framePutsSpec : ChangeSpec := { name := "framePuts", fn := fun _ => fun
  | [d1, d2] => { results := [.lit (.bool true)], args := [d1, d2] }
  | _ => none }
def framePutsRow : OpenClaim := { program := "ytagadbgbicebaaa", sum := "fc3b0b5e1247c94726166a335d09ec1afc46ea84010161d71c09ad6e2b673a86", func := "concourse/concourselaw05.FramePuts", spec := "framePuts", apart := false }
def FramePutsSaid : Prop := framePutsRow.holds Try.pinned (OpenSpec.ofChange framePutsSpec)

/-- ITS FALSE NEIGHBOUR: 'it returns false'. Refute it at one input. -/
def framePutsWrong : ChangeSpec := { name := "framePuts", fn := fun _ => fun
  | [d1, d2] => { results := [.lit (.bool false)], args := [d1, d2] }
  | _ => none }
def FramePutsWrongFalsely : Prop := framePutsRow.holds Try.pinned (OpenSpec.ofChange framePutsWrong)

/-- 'concourselaw05.FrameTakes': WHATEVER THE INPUT: true; the input reads as it did. -/
def frameTakesSpec : ChangeSpec := { name := "frameTakes", fn := fun _ => fun
  | [d] => { results := [.lit (.bool true)], args := [d] }
  | _ => none }
def frameTakesRow : OpenClaim := { program := "ytagadbgbicebaaa", sum := "fc3b0b5e1247c94726166a335d09ec1afc46ea84010161d71c09ad6e2b673a86", func := "concourse/concourselaw05.FrameTakes", spec := "frameTakes", apart := false }
def FrameTakesSaid : Prop := frameTakesRow.holds Try.pinned (OpenSpec.ofChange frameTakesSpec)

/-- ITS FALSE NEIGHBOUR: 'it returns false'. Refute it at one input. -/
def frameTakesWrong : ChangeSpec := { name := "frameTakes", fn := fun _ => fun
  | [d] => { results := [.lit (.bool false)], args := [d] }
  | _ => none }
def FrameTakesWrongFalsely : Prop := frameTakesRow.holds Try.pinned (OpenSpec.ofChange frameTakesWrong)

/-- 'concourselaw05.FrameBack': WHATEVER THE INPUT: true; the input reads as it did. -/
def frameBackSpec : ChangeSpec := { name := "frameBack", fn := fun _ => fun
  | [d1, d2, d3] => { results := [.lit (.bool true)], args := [d1, d2, d3] }
  | _ => none }
def frameBackRow : OpenClaim := { program := "ytagadbgbicebaaa", sum := "fc3b0b5e1247c94726166a335d09ec1afc46ea84010161d71c09ad6e2b673a86", func := "concourse/concourselaw05.FrameBack", spec := "frameBack", apart := false }
def FrameBackSaid : Prop := frameBackRow.holds Try.pinned (OpenSpec.ofChange frameBackSpec)

/-- ITS FALSE NEIGHBOUR: 'it returns false'. Refute it at one input. -/
def frameBackWrong : ChangeSpec := { name := "frameBack", fn := fun _ => fun
  | [d1, d2, d3] => { results := [.lit (.bool false)], args := [d1, d2, d3] }
  | _ => none }
def FrameBackWrongFalsely : Prop := frameBackRow.holds Try.pinned (OpenSpec.ofChange frameBackWrong)

/-- 'concourselaw06.FeedTells': WHATEVER THE INPUT: true; the input reads as it did. -/
def feedTellsSpec : ChangeSpec := { name := "feedTells", fn := fun _ => fun
  | [d] => { results := [.lit (.bool true)], args := [d] }
  | _ => none }
def feedTellsRow : OpenClaim := { program := "ytagadbgbicebaaa", sum := "fc3b0b5e1247c94726166a335d09ec1afc46ea84010161d71c09ad6e2b673a86", func := "concourse/concourselaw06.FeedTells", spec := "feedTells", apart := false }
def FeedTellsSaid : Prop := feedTellsRow.holds Try.pinned (OpenSpec.ofChange feedTellsSpec)

/-- ITS FALSE NEIGHBOUR: 'it returns false'. Refute it at one input. -/
def feedTellsWrong : ChangeSpec := { name := "feedTells", fn := fun _ => fun
  | [d] => { results := [.lit (.bool false)], args := [d] }
  | _ => none }
def FeedTellsWrongFalsely : Prop := feedTellsRow.holds Try.pinned (OpenSpec.ofChange feedTellsWrong)

/-- 'concourselaw06.FeedPieces': WHATEVER THE INPUT: true; the input reads as it did. -/
def feedPiecesSpec : ChangeSpec := { name := "feedPieces", fn := fun _ => fun
  | [d] => { results := [.lit (.bool true)], args := [d] }
  | _ => none }
def feedPiecesRow : OpenClaim := { program := "ytagadbgbicebaaa", sum := "fc3b0b5e1247c94726166a335d09ec1afc46ea84010161d71c09ad6e2b673a86", func := "concourse/concourselaw06.FeedPieces", spec := "feedPieces", apart := false }
def FeedPiecesSaid : Prop := feedPiecesRow.holds Try.pinned (OpenSpec.ofChange feedPiecesSpec)

/-- ITS FALSE NEIGHBOUR: 'it returns false'. Refute it at one input. -/
def feedPiecesWrong : ChangeSpec := { name := "feedPieces", fn := fun _ => fun
  | [d] => { results := [.lit (.bool false)], args := [d] }
  | _ => none }
def FeedPiecesWrongFalsely : Prop := feedPiecesRow.holds Try.pinned (OpenSpec.ofChange feedPiecesWrong)

/-- 'concourselaw06.FeedNone': WHATEVER THE INPUT: true; the input reads as it did. -/
def feedNoneSpec : ChangeSpec := { name := "feedNone", fn := fun _ => fun
  | [d] => { results := [.lit (.bool true)], args := [d] }
  | _ => none }
def feedNoneRow : OpenClaim := { program := "ytagadbgbicebaaa", sum := "fc3b0b5e1247c94726166a335d09ec1afc46ea84010161d71c09ad6e2b673a86", func := "concourse/concourselaw06.FeedNone", spec := "feedNone", apart := false }
def FeedNoneSaid : Prop := feedNoneRow.holds Try.pinned (OpenSpec.ofChange feedNoneSpec)

/-- ITS FALSE NEIGHBOUR: 'it returns false'. Refute it at one input. -/
def feedNoneWrong : ChangeSpec := { name := "feedNone", fn := fun _ => fun
  | [d] => { results := [.lit (.bool false)], args := [d] }
  | _ => none }
def FeedNoneWrongFalsely : Prop := feedNoneRow.holds Try.pinned (OpenSpec.ofChange feedNoneWrong)

/-- 'concourselaw38.ConnOrder': WHATEVER THE INPUT: true; the input reads as it did. -/
def connOrderSpec : ChangeSpec := { name := "connOrder", fn := fun _ => fun
  | [d] => { results := [.lit (.bool true)], args := [d] }
  | _ => none }
def connOrderRow : OpenClaim := { program := "ytagadbgbicebaaa", sum := "fc3b0b5e1247c94726166a335d09ec1afc46ea84010161d71c09ad6e2b673a86", func := "concourse/concourselaw38.ConnOrder", spec := "connOrder", apart := false }
def ConnOrderSaid : Prop := connOrderRow.holds Try.pinned (OpenSpec.ofChange connOrderSpec)

/-- ITS FALSE NEIGHBOUR: 'it returns false'. Refute it at one input. -/
def connOrderWrong : ChangeSpec := { name := "connOrder", fn := fun _ => fun
  | [d] => { results := [.lit (.bool false)], args := [d] }
  | _ => none }
def ConnOrderWrongFalsely : Prop := connOrderRow.holds Try.pinned (OpenSpec.ofChange connOrderWrong)

/-- 'concourselaw38.ConnEnds': WHATEVER THE INPUT: true; the input reads as it did. -/
def connEndsSpec : ChangeSpec := { name := "connEnds", fn := fun _ => fun
  | [d] => { results := [.lit (.bool true)], args := [d] }
  | _ => none }
def connEndsRow : OpenClaim := { program := "ytagadbgbicebaaa", sum := "fc3b0b5e1247c94726166a335d09ec1afc46ea84010161d71c09ad6e2b673a86", func := "concourse/concourselaw38.ConnEnds", spec := "connEnds", apart := false }
def ConnEndsSaid : Prop := connEndsRow.holds Try.pinned (OpenSpec.ofChange connEndsSpec)

/-- ITS FALSE NEIGHBOUR: 'it returns false'. Refute it at one input. -/
def connEndsWrong : ChangeSpec := { name := "connEnds", fn := fun _ => fun
  | [d] => { results := [.lit (.bool false)], args := [d] }
  | _ => none }
def ConnEndsWrongFalsely : Prop := connEndsRow.holds Try.pinned (OpenSpec.ofChange connEndsWrong)

/-- 'concourselaw38.ConnSteps': WHATEVER THE INPUT: true; the input reads as it did. -/
def connStepsSpec : ChangeSpec := { name := "connSteps", fn := fun _ => fun
  | [d] => { results := [.lit (.bool true)], args := [d] }
  | _ => none }
def connStepsRow : OpenClaim := { program := "ytagadbgbicebaaa", sum := "fc3b0b5e1247c94726166a335d09ec1afc46ea84010161d71c09ad6e2b673a86", func := "concourse/concourselaw38.ConnSteps", spec := "connSteps", apart := false }
def ConnStepsSaid : Prop := connStepsRow.holds Try.pinned (OpenSpec.ofChange connStepsSpec)

/-- ITS FALSE NEIGHBOUR: 'it returns false'. Refute it at one input. -/
def connStepsWrong : ChangeSpec := { name := "connSteps", fn := fun _ => fun
  | [d] => { results := [.lit (.bool false)], args := [d] }
  | _ => none }
def ConnStepsWrongFalsely : Prop := connStepsRow.holds Try.pinned (OpenSpec.ofChange connStepsWrong)

/-- 'concourselaw38.ConnNone': WHATEVER THE INPUT: true; the input reads as it did. -/
def connNoneSpec : ChangeSpec := { name := "connNone", fn := fun _ => fun
  | [d] => { results := [.lit (.bool true)], args := [d] }
  | _ => none }
def connNoneRow : OpenClaim := { program := "ytagadbgbicebaaa", sum := "fc3b0b5e1247c94726166a335d09ec1afc46ea84010161d71c09ad6e2b673a86", func := "concourse/concourselaw38.ConnNone", spec := "connNone", apart := false }
def ConnNoneSaid : Prop := connNoneRow.holds Try.pinned (OpenSpec.ofChange connNoneSpec)

/-- ITS FALSE NEIGHBOUR: 'it returns false'. Refute it at one input. -/
def connNoneWrong : ChangeSpec := { name := "connNone", fn := fun _ => fun
  | [d] => { results := [.lit (.bool false)], args := [d] }
  | _ => none }
def ConnNoneWrongFalsely : Prop := connNoneRow.holds Try.pinned (OpenSpec.ofChange connNoneWrong)

/- THE SECOND FORM. 'bulk': how many values and letters a reading holds, each counted each time it is reached (what is shared counts as often as it is met; a slice's spare places count too). A statement '..UptoSaid' is the law's where the arguments, and the package variables that the reading takes, are together of bulk at most 1048576: NARROWER than '..Said'. Prove '..Said' where nothing that the law and all that it calls make is longer than what came in: it says more and counts as full. Else prove '..UptoSaid'. A law counts once. -/
mutual
def uptoBulk {H : Type} : DataW H → Nat
  | .lit (.string bytes) => bytes.length + 1
  | .lit _ => 1
  | .nil => 1
  | .ptr d => uptoBulk d + 1
  | .slice elems spare => uptoBulkAll elems + uptoBulkAll spare + 1
  | .agg parts => uptoBulkAll parts + 1
  | .iface _ d => uptoBulk d + 1
  | .map entries => uptoBulkEntries entries + 1
  | .held _ => 1
def uptoBulkAll {H : Type} : List (DataW H) → Nat
  | [] => 0
  | d :: r => uptoBulk d + uptoBulkAll r
def uptoBulkEntries {H : Type} : List (Lit × DataW H) → Nat
  | [] => 0
  | x :: r => uptoBulkEntry x + uptoBulkEntries r
def uptoBulkEntry {H : Type} : Lit × DataW H → Nat
  | (.string bytes, d) => bytes.length + uptoBulk d + 1
  | (_, d) => uptoBulk d + 1
 end
def uptoSmall : (H : Type) → List (DataW H) → Bool := fun _ ds => decide (uptoBulkAll ds ≤ 1048576)
def OpenSpec.upto (s : _root_.Go.ChangeSpec) : _root_.Go.OpenSpec := { _root_.Go.OpenSpec.ofChange s with cond := some uptoSmall }

/-- 'concourselaw05.FramePuts', WHERE WHAT IT READS IS OF BULK AT MOST 1048576: true; the input reads as it did. -/
def framePutsUptoRow : OpenClaim := { program := "ytagadbgbicebaaa", sum := "fc3b0b5e1247c94726166a335d09ec1afc46ea84010161d71c09ad6e2b673a86", func := "concourse/concourselaw05.FramePuts", spec := "framePuts", apart := false, narrowed := true }
def FramePutsUptoSaid : Prop := framePutsUptoRow.holds Try.pinned (OpenSpec.upto framePutsSpec)

/-- 'concourselaw05.FrameTakes', WHERE WHAT IT READS IS OF BULK AT MOST 1048576: true; the input reads as it did. -/
def frameTakesUptoRow : OpenClaim := { program := "ytagadbgbicebaaa", sum := "fc3b0b5e1247c94726166a335d09ec1afc46ea84010161d71c09ad6e2b673a86", func := "concourse/concourselaw05.FrameTakes", spec := "frameTakes", apart := false, narrowed := true }
def FrameTakesUptoSaid : Prop := frameTakesUptoRow.holds Try.pinned (OpenSpec.upto frameTakesSpec)

/-- 'concourselaw05.FrameBack', WHERE WHAT IT READS IS OF BULK AT MOST 1048576: true; the input reads as it did. -/
def frameBackUptoRow : OpenClaim := { program := "ytagadbgbicebaaa", sum := "fc3b0b5e1247c94726166a335d09ec1afc46ea84010161d71c09ad6e2b673a86", func := "concourse/concourselaw05.FrameBack", spec := "frameBack", apart := false, narrowed := true }
def FrameBackUptoSaid : Prop := frameBackUptoRow.holds Try.pinned (OpenSpec.upto frameBackSpec)

/-- 'concourselaw06.FeedTells', WHERE WHAT IT READS IS OF BULK AT MOST 1048576: true; the input reads as it did. -/
def feedTellsUptoRow : OpenClaim := { program := "ytagadbgbicebaaa", sum := "fc3b0b5e1247c94726166a335d09ec1afc46ea84010161d71c09ad6e2b673a86", func := "concourse/concourselaw06.FeedTells", spec := "feedTells", apart := false, narrowed := true }
def FeedTellsUptoSaid : Prop := feedTellsUptoRow.holds Try.pinned (OpenSpec.upto feedTellsSpec)

/-- 'concourselaw06.FeedPieces', WHERE WHAT IT READS IS OF BULK AT MOST 1048576: true; the input reads as it did. -/
def feedPiecesUptoRow : OpenClaim := { program := "ytagadbgbicebaaa", sum := "fc3b0b5e1247c94726166a335d09ec1afc46ea84010161d71c09ad6e2b673a86", func := "concourse/concourselaw06.FeedPieces", spec := "feedPieces", apart := false, narrowed := true }
def FeedPiecesUptoSaid : Prop := feedPiecesUptoRow.holds Try.pinned (OpenSpec.upto feedPiecesSpec)

/-- 'concourselaw06.FeedNone', WHERE WHAT IT READS IS OF BULK AT MOST 1048576: true; the input reads as it did. -/
def feedNoneUptoRow : OpenClaim := { program := "ytagadbgbicebaaa", sum := "fc3b0b5e1247c94726166a335d09ec1afc46ea84010161d71c09ad6e2b673a86", func := "concourse/concourselaw06.FeedNone", spec := "feedNone", apart := false, narrowed := true }
def FeedNoneUptoSaid : Prop := feedNoneUptoRow.holds Try.pinned (OpenSpec.upto feedNoneSpec)

/-- 'concourselaw38.ConnOrder', WHERE WHAT IT READS IS OF BULK AT MOST 1048576: true; the input reads as it did. -/
def connOrderUptoRow : OpenClaim := { program := "ytagadbgbicebaaa", sum := "fc3b0b5e1247c94726166a335d09ec1afc46ea84010161d71c09ad6e2b673a86", func := "concourse/concourselaw38.ConnOrder", spec := "connOrder", apart := false, narrowed := true }
def ConnOrderUptoSaid : Prop := connOrderUptoRow.holds Try.pinned (OpenSpec.upto connOrderSpec)

/-- 'concourselaw38.ConnEnds', WHERE WHAT IT READS IS OF BULK AT MOST 1048576: true; the input reads as it did. -/
def connEndsUptoRow : OpenClaim := { program := "ytagadbgbicebaaa", sum := "fc3b0b5e1247c94726166a335d09ec1afc46ea84010161d71c09ad6e2b673a86", func := "concourse/concourselaw38.ConnEnds", spec := "connEnds", apart := false, narrowed := true }
def ConnEndsUptoSaid : Prop := connEndsUptoRow.holds Try.pinned (OpenSpec.upto connEndsSpec)

/-- 'concourselaw38.ConnSteps', WHERE WHAT IT READS IS OF BULK AT MOST 1048576: true; the input reads as it did. -/
def connStepsUptoRow : OpenClaim := { program := "ytagadbgbicebaaa", sum := "fc3b0b5e1247c94726166a335d09ec1afc46ea84010161d71c09ad6e2b673a86", func := "concourse/concourselaw38.ConnSteps", spec := "connSteps", apart := false, narrowed := true }
def ConnStepsUptoSaid : Prop := connStepsUptoRow.holds Try.pinned (OpenSpec.upto connStepsSpec)

/-- 'concourselaw38.ConnNone', WHERE WHAT IT READS IS OF BULK AT MOST 1048576: true; the input reads as it did. -/
def connNoneUptoRow : OpenClaim := { program := "ytagadbgbicebaaa", sum := "fc3b0b5e1247c94726166a335d09ec1afc46ea84010161d71c09ad6e2b673a86", func := "concourse/concourselaw38.ConnNone", spec := "connNone", apart := false, narrowed := true }
def ConnNoneUptoSaid : Prop := connNoneUptoRow.holds Try.pinned (OpenSpec.upto connNoneSpec)

end Rows
end Go.Proofs.Ytagadbgbicebaaa
