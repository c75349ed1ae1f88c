/-
  No cell of these rows narrows 'for every input' (looked for: loops, veiled, ifaces, maps, wideKeys, modest, calm, conditions, laid).
  DERIVED. THE GIVEN ROWS OF THIS SEAT. 11 by the template 'for every input the law returns true; each argument reads behind the call as it read before'; 0 by the template 'total and deterministic' (their statements: YtnhanldefebjbaaTotals.lean).
  GIVEN WITH THE SEED: the statements are not yours to turn. If you find one false, say at which input.
  Laid BY PROGRAM, IN A SANDBOX (cutbox-rows.mjs): the forced cells as the released guide's own fill.sh prints them over the translation 49b5fe3747e1f4e2… (all of the seat's roots in one cut). By AI agents, Wed Nov 11 2026. No macro, syntax, notation, axiom, sorry.
-/
import Derived.Test.YtnhanldefebjbaaChecked
import GoSem.Claim
import GoSem.ClaimJoined
import GoSem.ClaimMapViews
import Derived.JoinedTies
import Derived.KernelRfl
namespace Go.Proofs.Ytnhanldefebjbaa
/- THE CELL 'sum', in the pinned program and in every row, IS THE sha256 OF THE DUMP (.gsa) THAT YtnhanldefebjbaaProg.lean LOADS. Nothing in Lean hashes anything: it is a label: what it is worth is what the hold of that sum in a sandbox is worth. -/
noncomputable def Try.pinned : Pinned := { name := "ytnhanldefebjbaa", sum := "49b5fe3747e1f4e260e44a54909d5388bff43d25e4412964db6607af7d12824d", checked := Try.checked }
namespace Rows
def none {H : Type} : Left H := { results := [], args := [] }

/-- 'concourselaw24.AccountSteps': WHATEVER THE INPUT: true; the input reads as it did. -/
def accountStepsSpec : ChangeSpec := { name := "accountSteps", fn := fun _ => fun
  | [d1, d2] => { results := [.lit (.bool true)], args := [d1, d2] }
  | _ => none }
def accountStepsRow : OpenClaim := { program := "ytnhanldefebjbaa", sum := "49b5fe3747e1f4e260e44a54909d5388bff43d25e4412964db6607af7d12824d", func := "concourse/concourselaw24.AccountSteps", spec := "accountSteps", unfollowed := true, recurses := true, apart := false }
def AccountStepsSaid : Prop := accountStepsRow.holds Try.pinned (OpenSpec.ofChange accountStepsSpec)

/-- ITS FALSE NEIGHBOUR: 'it returns false'. Refute it at one input. -/
def accountStepsWrong : ChangeSpec := { name := "accountSteps", fn := fun _ => fun
  | [d1, d2] => { results := [.lit (.bool false)], args := [d1, d2] }
  | _ => none }
def AccountStepsWrongFalsely : Prop := accountStepsRow.holds Try.pinned (OpenSpec.ofChange accountStepsWrong)

/-- 'concourselaw24.AccountKeeps': WHATEVER THE INPUT: true; the input reads as it did. -/
def accountKeepsSpec : ChangeSpec := { name := "accountKeeps", fn := fun _ => fun
  | [d1, d2] => { results := [.lit (.bool true)], args := [d1, d2] }
  | _ => none }
def accountKeepsRow : OpenClaim := { program := "ytnhanldefebjbaa", sum := "49b5fe3747e1f4e260e44a54909d5388bff43d25e4412964db6607af7d12824d", func := "concourse/concourselaw24.AccountKeeps", spec := "accountKeeps", unfollowed := true, recurses := true, apart := false }
def AccountKeepsSaid : Prop := accountKeepsRow.holds Try.pinned (OpenSpec.ofChange accountKeepsSpec)

/-- ITS FALSE NEIGHBOUR: 'it returns false'. Refute it at one input. -/
def accountKeepsWrong : ChangeSpec := { name := "accountKeeps", fn := fun _ => fun
  | [d1, d2] => { results := [.lit (.bool false)], args := [d1, d2] }
  | _ => none }
def AccountKeepsWrongFalsely : Prop := accountKeepsRow.holds Try.pinned (OpenSpec.ofChange accountKeepsWrong)

/-- 'concourselaw24.AccountNone': WHATEVER THE INPUT: true; the input reads as it did. -/
def accountNoneSpec : ChangeSpec := { name := "accountNone", fn := fun _ => fun
  | [d] => { results := [.lit (.bool true)], args := [d] }
  | _ => none }
def accountNoneRow : OpenClaim := { program := "ytnhanldefebjbaa", sum := "49b5fe3747e1f4e260e44a54909d5388bff43d25e4412964db6607af7d12824d", func := "concourse/concourselaw24.AccountNone", spec := "accountNone", unfollowed := true, recurses := true, apart := false }
def AccountNoneSaid : Prop := accountNoneRow.holds Try.pinned (OpenSpec.ofChange accountNoneSpec)

/-- ITS FALSE NEIGHBOUR: 'it returns false'. Refute it at one input. -/
def accountNoneWrong : ChangeSpec := { name := "accountNone", fn := fun _ => fun
  | [d] => { results := [.lit (.bool false)], args := [d] }
  | _ => none }
def AccountNoneWrongFalsely : Prop := accountNoneRow.holds Try.pinned (OpenSpec.ofChange accountNoneWrong)

/-- 'concourselaw23.BucketSteps': WHATEVER THE INPUT: true; the input reads as it did. -/
def bucketStepsSpec : ChangeSpec := { name := "bucketSteps", fn := fun _ => fun
  | [d1, d2, d3] => { results := [.lit (.bool true)], args := [d1, d2, d3] }
  | _ => none }
def bucketStepsRow : OpenClaim := { program := "ytnhanldefebjbaa", sum := "49b5fe3747e1f4e260e44a54909d5388bff43d25e4412964db6607af7d12824d", func := "concourse/concourselaw23.BucketSteps", spec := "bucketSteps", apart := false }
def BucketStepsSaid : Prop := bucketStepsRow.holds Try.pinned (OpenSpec.ofChange bucketStepsSpec)

/-- ITS FALSE NEIGHBOUR: 'it returns false'. Refute it at one input. -/
def bucketStepsWrong : ChangeSpec := { name := "bucketSteps", fn := fun _ => fun
  | [d1, d2, d3] => { results := [.lit (.bool false)], args := [d1, d2, d3] }
  | _ => none }
def BucketStepsWrongFalsely : Prop := bucketStepsRow.holds Try.pinned (OpenSpec.ofChange bucketStepsWrong)

/-- 'concourselaw23.BucketWindows': WHATEVER THE INPUT: true; the input reads as it did. -/
def bucketWindowsSpec : ChangeSpec := { name := "bucketWindows", fn := fun _ => fun
  | [d1, d2, d3] => { results := [.lit (.bool true)], args := [d1, d2, d3] }
  | _ => none }
def bucketWindowsRow : OpenClaim := { program := "ytnhanldefebjbaa", sum := "49b5fe3747e1f4e260e44a54909d5388bff43d25e4412964db6607af7d12824d", func := "concourse/concourselaw23.BucketWindows", spec := "bucketWindows", apart := false }
def BucketWindowsSaid : Prop := bucketWindowsRow.holds Try.pinned (OpenSpec.ofChange bucketWindowsSpec)

/-- ITS FALSE NEIGHBOUR: 'it returns false'. Refute it at one input. -/
def bucketWindowsWrong : ChangeSpec := { name := "bucketWindows", fn := fun _ => fun
  | [d1, d2, d3] => { results := [.lit (.bool false)], args := [d1, d2, d3] }
  | _ => none }
def BucketWindowsWrongFalsely : Prop := bucketWindowsRow.holds Try.pinned (OpenSpec.ofChange bucketWindowsWrong)

/-- 'concourselaw23.BucketNone': WHATEVER THE INPUT: true; the input reads as it did. -/
def bucketNoneSpec : ChangeSpec := { name := "bucketNone", fn := fun _ => fun
  | [d] => { results := [.lit (.bool true)], args := [d] }
  | _ => none }
def bucketNoneRow : OpenClaim := { program := "ytnhanldefebjbaa", sum := "49b5fe3747e1f4e260e44a54909d5388bff43d25e4412964db6607af7d12824d", func := "concourse/concourselaw23.BucketNone", spec := "bucketNone", apart := false }
def BucketNoneSaid : Prop := bucketNoneRow.holds Try.pinned (OpenSpec.ofChange bucketNoneSpec)

/-- ITS FALSE NEIGHBOUR: 'it returns false'. Refute it at one input. -/
def bucketNoneWrong : ChangeSpec := { name := "bucketNone", fn := fun _ => fun
  | [d] => { results := [.lit (.bool false)], args := [d] }
  | _ => none }
def BucketNoneWrongFalsely : Prop := bucketNoneRow.holds Try.pinned (OpenSpec.ofChange bucketNoneWrong)

/-- 'concourselaw23.BucketWaits': WHATEVER THE INPUT: true; the input reads as it did. -/
def bucketWaitsSpec : ChangeSpec := { name := "bucketWaits", fn := fun _ => fun
  | [d1, d2, d3] => { results := [.lit (.bool true)], args := [d1, d2, d3] }
  | _ => none }
def bucketWaitsRow : OpenClaim := { program := "ytnhanldefebjbaa", sum := "49b5fe3747e1f4e260e44a54909d5388bff43d25e4412964db6607af7d12824d", func := "concourse/concourselaw23.BucketWaits", spec := "bucketWaits", apart := false }
def BucketWaitsSaid : Prop := bucketWaitsRow.holds Try.pinned (OpenSpec.ofChange bucketWaitsSpec)

/-- ITS FALSE NEIGHBOUR: 'it returns false'. Refute it at one input. -/
def bucketWaitsWrong : ChangeSpec := { name := "bucketWaits", fn := fun _ => fun
  | [d1, d2, d3] => { results := [.lit (.bool false)], args := [d1, d2, d3] }
  | _ => none }
def BucketWaitsWrongFalsely : Prop := bucketWaitsRow.holds Try.pinned (OpenSpec.ofChange bucketWaitsWrong)

/-- 'concourselaw39.GateWindows': WHATEVER THE INPUT: true; the input reads as it did. -/
def gateWindowsSpec : ChangeSpec := { name := "gateWindows", fn := fun _ => fun
  | [d1, d2] => { results := [.lit (.bool true)], args := [d1, d2] }
  | _ => none }
def gateWindowsRow : OpenClaim := { program := "ytnhanldefebjbaa", sum := "49b5fe3747e1f4e260e44a54909d5388bff43d25e4412964db6607af7d12824d", func := "concourse/concourselaw39.GateWindows", spec := "gateWindows", unfollowed := true, recurses := true, apart := false }
def GateWindowsSaid : Prop := gateWindowsRow.holds Try.pinned (OpenSpec.ofChange gateWindowsSpec)

/-- ITS FALSE NEIGHBOUR: 'it returns false'. Refute it at one input. -/
def gateWindowsWrong : ChangeSpec := { name := "gateWindows", fn := fun _ => fun
  | [d1, d2] => { results := [.lit (.bool false)], args := [d1, d2] }
  | _ => none }
def GateWindowsWrongFalsely : Prop := gateWindowsRow.holds Try.pinned (OpenSpec.ofChange gateWindowsWrong)

/-- 'concourselaw39.GateLimits': WHATEVER THE INPUT: true; the input reads as it did. -/
def gateLimitsSpec : ChangeSpec := { name := "gateLimits", fn := fun _ => fun
  | [d1, d2] => { results := [.lit (.bool true)], args := [d1, d2] }
  | _ => none }
def gateLimitsRow : OpenClaim := { program := "ytnhanldefebjbaa", sum := "49b5fe3747e1f4e260e44a54909d5388bff43d25e4412964db6607af7d12824d", func := "concourse/concourselaw39.GateLimits", spec := "gateLimits", unfollowed := true, recurses := true, apart := false }
def GateLimitsSaid : Prop := gateLimitsRow.holds Try.pinned (OpenSpec.ofChange gateLimitsSpec)

/-- ITS FALSE NEIGHBOUR: 'it returns false'. Refute it at one input. -/
def gateLimitsWrong : ChangeSpec := { name := "gateLimits", fn := fun _ => fun
  | [d1, d2] => { results := [.lit (.bool false)], args := [d1, d2] }
  | _ => none }
def GateLimitsWrongFalsely : Prop := gateLimitsRow.holds Try.pinned (OpenSpec.ofChange gateLimitsWrong)

/-- 'concourselaw39.GateSteps': WHATEVER THE INPUT: true; the input reads as it did. -/
def gateStepsSpec : ChangeSpec := { name := "gateSteps", fn := fun _ => fun
  | [d1, d2] => { results := [.lit (.bool true)], args := [d1, d2] }
  | _ => none }
def gateStepsRow : OpenClaim := { program := "ytnhanldefebjbaa", sum := "49b5fe3747e1f4e260e44a54909d5388bff43d25e4412964db6607af7d12824d", func := "concourse/concourselaw39.GateSteps", spec := "gateSteps", unfollowed := true, recurses := true, apart := false }
def GateStepsSaid : Prop := gateStepsRow.holds Try.pinned (OpenSpec.ofChange gateStepsSpec)

/-- ITS FALSE NEIGHBOUR: 'it returns false'. Refute it at one input. -/
def gateStepsWrong : ChangeSpec := { name := "gateSteps", fn := fun _ => fun
  | [d1, d2] => { results := [.lit (.bool false)], args := [d1, d2] }
  | _ => none }
def GateStepsWrongFalsely : Prop := gateStepsRow.holds Try.pinned (OpenSpec.ofChange gateStepsWrong)

/-- 'concourselaw39.GateNone': WHATEVER THE INPUT: true; the input reads as it did. -/
def gateNoneSpec : ChangeSpec := { name := "gateNone", fn := fun _ => fun
  | [d1, d2, d3] => { results := [.lit (.bool true)], args := [d1, d2, d3] }
  | _ => none }
def gateNoneRow : OpenClaim := { program := "ytnhanldefebjbaa", sum := "49b5fe3747e1f4e260e44a54909d5388bff43d25e4412964db6607af7d12824d", func := "concourse/concourselaw39.GateNone", spec := "gateNone", unfollowed := true, recurses := true, apart := false }
def GateNoneSaid : Prop := gateNoneRow.holds Try.pinned (OpenSpec.ofChange gateNoneSpec)

/-- ITS FALSE NEIGHBOUR: 'it returns false'. Refute it at one input. -/
def gateNoneWrong : ChangeSpec := { name := "gateNone", fn := fun _ => fun
  | [d1, d2, d3] => { results := [.lit (.bool false)], args := [d1, d2, d3] }
  | _ => none }
def GateNoneWrongFalsely : Prop := gateNoneRow.holds Try.pinned (OpenSpec.ofChange gateNoneWrong)

/- THE SECOND FORM. 'bulk': how many values and letters a reading holds, each counted each time it is reached (what is shared counts as often as it is met; a slice's spare places count too). A statement '..UptoSaid' is the law's where the arguments, and the package variables that the reading takes, are together of bulk at most 1048576: NARROWER than '..Said'. Prove '..Said' where nothing that the law and all that it calls make is longer than what came in: it says more and counts as full. Else prove '..UptoSaid'. A law counts once. -/
mutual
def uptoBulk {H : Type} : DataW H → Nat
  | .lit (.string bytes) => bytes.length + 1
  | .lit _ => 1
  | .nil => 1
  | .ptr d => uptoBulk d + 1
  | .slice elems spare => uptoBulkAll elems + uptoBulkAll spare + 1
  | .agg parts => uptoBulkAll parts + 1
  | .iface _ d => uptoBulk d + 1
  | .map entries => uptoBulkEntries entries + 1
  | .held _ => 1
def uptoBulkAll {H : Type} : List (DataW H) → Nat
  | [] => 0
  | d :: r => uptoBulk d + uptoBulkAll r
def uptoBulkEntries {H : Type} : List (Lit × DataW H) → Nat
  | [] => 0
  | x :: r => uptoBulkEntry x + uptoBulkEntries r
def uptoBulkEntry {H : Type} : Lit × DataW H → Nat
  | (.string bytes, d) => bytes.length + uptoBulk d + 1
  | (_, d) => uptoBulk d + 1
 end
def uptoSmall : (H : Type) → List (DataW H) → Bool := fun _ ds => decide (uptoBulkAll ds ≤ 1048576)
def OpenSpec.upto (s : _root_.Go.ChangeSpec) : _root_.Go.OpenSpec := { _root_.Go.OpenSpec.ofChange s with cond := some uptoSmall }

/-- 'concourselaw24.AccountSteps', WHERE WHAT IT READS IS OF BULK AT MOST 1048576: true; the input reads as it did. -/
def accountStepsUptoRow : OpenClaim := { program := "ytnhanldefebjbaa", sum := "49b5fe3747e1f4e260e44a54909d5388bff43d25e4412964db6607af7d12824d", func := "concourse/concourselaw24.AccountSteps", spec := "accountSteps", unfollowed := true, recurses := true, apart := false, narrowed := true }
def AccountStepsUptoSaid : Prop := accountStepsUptoRow.holds Try.pinned (OpenSpec.upto accountStepsSpec)

/-- 'concourselaw24.AccountKeeps', WHERE WHAT IT READS IS OF BULK AT MOST 1048576: true; the input reads as it did. -/
def accountKeepsUptoRow : OpenClaim := { program := "ytnhanldefebjbaa", sum := "49b5fe3747e1f4e260e44a54909d5388bff43d25e4412964db6607af7d12824d", func := "concourse/concourselaw24.AccountKeeps", spec := "accountKeeps", unfollowed := true, recurses := true, apart := false, narrowed := true }
def AccountKeepsUptoSaid : Prop := accountKeepsUptoRow.holds Try.pinned (OpenSpec.upto accountKeepsSpec)

/-- 'concourselaw24.AccountNone', WHERE WHAT IT READS IS OF BULK AT MOST 1048576: true; the input reads as it did. -/
def accountNoneUptoRow : OpenClaim := { program := "ytnhanldefebjbaa", sum := "49b5fe3747e1f4e260e44a54909d5388bff43d25e4412964db6607af7d12824d", func := "concourse/concourselaw24.AccountNone", spec := "accountNone", unfollowed := true, recurses := true, apart := false, narrowed := true }
def AccountNoneUptoSaid : Prop := accountNoneUptoRow.holds Try.pinned (OpenSpec.upto accountNoneSpec)

/-- 'concourselaw23.BucketSteps', WHERE WHAT IT READS IS OF BULK AT MOST 1048576: true; the input reads as it did. -/
def bucketStepsUptoRow : OpenClaim := { program := "ytnhanldefebjbaa", sum := "49b5fe3747e1f4e260e44a54909d5388bff43d25e4412964db6607af7d12824d", func := "concourse/concourselaw23.BucketSteps", spec := "bucketSteps", apart := false, narrowed := true }
def BucketStepsUptoSaid : Prop := bucketStepsUptoRow.holds Try.pinned (OpenSpec.upto bucketStepsSpec)

/-- 'concourselaw23.BucketWindows', WHERE WHAT IT READS IS OF BULK AT MOST 1048576: true; the input reads as it did. -/
def bucketWindowsUptoRow : OpenClaim := { program := "ytnhanldefebjbaa", sum := "49b5fe3747e1f4e260e44a54909d5388bff43d25e4412964db6607af7d12824d", func := "concourse/concourselaw23.BucketWindows", spec := "bucketWindows", apart := false, narrowed := true }
def BucketWindowsUptoSaid : Prop := bucketWindowsUptoRow.holds Try.pinned (OpenSpec.upto bucketWindowsSpec)

/-- 'concourselaw23.BucketNone', WHERE WHAT IT READS IS OF BULK AT MOST 1048576: true; the input reads as it did. -/
def bucketNoneUptoRow : OpenClaim := { program := "ytnhanldefebjbaa", sum := "49b5fe3747e1f4e260e44a54909d5388bff43d25e4412964db6607af7d12824d", func := "concourse/concourselaw23.BucketNone", spec := "bucketNone", apart := false, narrowed := true }
def BucketNoneUptoSaid : Prop := bucketNoneUptoRow.holds Try.pinned (OpenSpec.upto bucketNoneSpec)

/-- 'concourselaw23.BucketWaits', WHERE WHAT IT READS IS OF BULK AT MOST 1048576: true; the input reads as it did. -/
def bucketWaitsUptoRow : OpenClaim := { program := "ytnhanldefebjbaa", sum := "49b5fe3747e1f4e260e44a54909d5388bff43d25e4412964db6607af7d12824d", func := "concourse/concourselaw23.BucketWaits", spec := "bucketWaits", apart := false, narrowed := true }
def BucketWaitsUptoSaid : Prop := bucketWaitsUptoRow.holds Try.pinned (OpenSpec.upto bucketWaitsSpec)

/-- 'concourselaw39.GateWindows', WHERE WHAT IT READS IS OF BULK AT MOST 1048576: true; the input reads as it did. -/
def gateWindowsUptoRow : OpenClaim := { program := "ytnhanldefebjbaa", sum := "49b5fe3747e1f4e260e44a54909d5388bff43d25e4412964db6607af7d12824d", func := "concourse/concourselaw39.GateWindows", spec := "gateWindows", unfollowed := true, recurses := true, apart := false, narrowed := true }
def GateWindowsUptoSaid : Prop := gateWindowsUptoRow.holds Try.pinned (OpenSpec.upto gateWindowsSpec)

/-- 'concourselaw39.GateLimits', WHERE WHAT IT READS IS OF BULK AT MOST 1048576: true; the input reads as it did. -/
def gateLimitsUptoRow : OpenClaim := { program := "ytnhanldefebjbaa", sum := "49b5fe3747e1f4e260e44a54909d5388bff43d25e4412964db6607af7d12824d", func := "concourse/concourselaw39.GateLimits", spec := "gateLimits", unfollowed := true, recurses := true, apart := false, narrowed := true }
def GateLimitsUptoSaid : Prop := gateLimitsUptoRow.holds Try.pinned (OpenSpec.upto gateLimitsSpec)

/-- 'concourselaw39.GateSteps', WHERE WHAT IT READS IS OF BULK AT MOST 1048576: true; the input reads as it did. -/
def gateStepsUptoRow : OpenClaim := { program := "ytnhanldefebjbaa", sum := "49b5fe3747e1f4e260e44a54909d5388bff43d25e4412964db6607af7d12824d", func := "concourse/concourselaw39.GateSteps", spec := "gateSteps", unfollowed := true, recurses := true, apart := false, narrowed := true }
def GateStepsUptoSaid : Prop := gateStepsUptoRow.holds Try.pinned (OpenSpec.upto gateStepsSpec)

/-- 'concourselaw39.GateNone', WHERE WHAT IT READS IS OF BULK AT MOST 1048576: true; the input reads as it did. -/
def gateNoneUptoRow : OpenClaim := { program := "ytnhanldefebjbaa", sum := "49b5fe3747e1f4e260e44a54909d5388bff43d25e4412964db6607af7d12824d", func := "concourse/concourselaw39.GateNone", spec := "gateNone", unfollowed := true, recurses := true, apart := false, narrowed := true }
def GateNoneUptoSaid : Prop := gateNoneUptoRow.holds Try.pinned (OpenSpec.upto gateNoneSpec)

end Rows
end Go.Proofs.Ytnhanldefebjbaa
