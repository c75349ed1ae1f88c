/-
  No cell of these rows narrows 'for every input' (looked for: loops, veiled, ifaces, maps, wideKeys, modest, calm, conditions, laid).
  DERIVED. THE GIVEN ROWS OF THIS SEAT. 7 by the template 'for every input the law returns true; each argument reads behind the call as it read before'; 0 by the template 'total and deterministic' (their statements: YtabhdigannalgaaTotals.lean).
  GIVEN WITH THE SEED: the statements are not yours to turn. If you find one false, say at which input.
  Laid BY PROGRAM, IN A SANDBOX (cutbox-rows.mjs): the forced cells as the released guide's own fill.sh prints them over the translation 043dd95edf2068fe… (all of the seat's roots in one cut). By AI agents, Wed Nov 11 2026. No macro, syntax, notation, axiom, sorry.
-/
import Derived.Test.YtabhdigannalgaaChecked
import GoSem.Claim
import GoSem.ClaimJoined
import GoSem.ClaimMapViews
import Derived.JoinedTies
import Derived.KernelRfl
namespace Go.Proofs.Ytabhdigannalgaa
/- THE CELL 'sum', in the pinned program and in every row, IS THE sha256 OF THE DUMP (.gsa) THAT YtabhdigannalgaaProg.lean LOADS. Nothing in Lean hashes anything: it is a label: what it is worth is what the hold of that sum in a sandbox is worth. -/
noncomputable def Try.pinned : Pinned := { name := "ytabhdigannalgaa", sum := "043dd95edf2068fe725b6a9c8ef4f02c8214a13b167b2272e30d1f6aa9cc6416", checked := Try.checked }
namespace Rows
def none {H : Type} : Left H := { results := [], args := [] }

/-- 'concourselaw25.DrrOrder': WHATEVER THE INPUT: true; the input reads as it did. -/
def drrOrderSpec : ChangeSpec := { name := "drrOrder", fn := fun _ => fun
  | [d] => { results := [.lit (.bool true)], args := [d] }
  | _ => none }
def drrOrderRow : OpenClaim := { program := "ytabhdigannalgaa", sum := "043dd95edf2068fe725b6a9c8ef4f02c8214a13b167b2272e30d1f6aa9cc6416", func := "concourse/concourselaw25.DrrOrder", spec := "drrOrder", unfollowed := true, recurses := true, apart := false }
def DrrOrderSaid : Prop := drrOrderRow.holds Try.pinned (OpenSpec.ofChange drrOrderSpec)

/-- ITS FALSE NEIGHBOUR: 'it returns false'. Refute it at one input. -/
def drrOrderWrong : ChangeSpec := { name := "drrOrder", fn := fun _ => fun
  | [d] => { results := [.lit (.bool false)], args := [d] }
  | _ => none }
def DrrOrderWrongFalsely : Prop := drrOrderRow.holds Try.pinned (OpenSpec.ofChange drrOrderWrong)

/-- 'concourselaw25.DrrFair': WHATEVER THE INPUT: true; the input reads as it did. -/
def drrFairSpec : ChangeSpec := { name := "drrFair", fn := fun _ => fun
  | [d] => { results := [.lit (.bool true)], args := [d] }
  | _ => none }
def drrFairRow : OpenClaim := { program := "ytabhdigannalgaa", sum := "043dd95edf2068fe725b6a9c8ef4f02c8214a13b167b2272e30d1f6aa9cc6416", func := "concourse/concourselaw25.DrrFair", spec := "drrFair", unfollowed := true, recurses := true, apart := false }
def DrrFairSaid : Prop := drrFairRow.holds Try.pinned (OpenSpec.ofChange drrFairSpec)

/-- ITS FALSE NEIGHBOUR: 'it returns false'. Refute it at one input. -/
def drrFairWrong : ChangeSpec := { name := "drrFair", fn := fun _ => fun
  | [d] => { results := [.lit (.bool false)], args := [d] }
  | _ => none }
def DrrFairWrongFalsely : Prop := drrFairRow.holds Try.pinned (OpenSpec.ofChange drrFairWrong)

/-- 'concourselaw25.DrrSteps': WHATEVER THE INPUT: true; the input reads as it did. -/
def drrStepsSpec : ChangeSpec := { name := "drrSteps", fn := fun _ => fun
  | [d] => { results := [.lit (.bool true)], args := [d] }
  | _ => none }
def drrStepsRow : OpenClaim := { program := "ytabhdigannalgaa", sum := "043dd95edf2068fe725b6a9c8ef4f02c8214a13b167b2272e30d1f6aa9cc6416", func := "concourse/concourselaw25.DrrSteps", spec := "drrSteps", unfollowed := true, recurses := true, apart := false }
def DrrStepsSaid : Prop := drrStepsRow.holds Try.pinned (OpenSpec.ofChange drrStepsSpec)

/-- ITS FALSE NEIGHBOUR: 'it returns false'. Refute it at one input. -/
def drrStepsWrong : ChangeSpec := { name := "drrSteps", fn := fun _ => fun
  | [d] => { results := [.lit (.bool false)], args := [d] }
  | _ => none }
def DrrStepsWrongFalsely : Prop := drrStepsRow.holds Try.pinned (OpenSpec.ofChange drrStepsWrong)

/-- 'concourselaw25.DrrNone': WHATEVER THE INPUT: true; the input reads as it did. -/
def drrNoneSpec : ChangeSpec := { name := "drrNone", fn := fun _ => fun
  | [d1, d2] => { results := [.lit (.bool true)], args := [d1, d2] }
  | _ => none }
def drrNoneRow : OpenClaim := { program := "ytabhdigannalgaa", sum := "043dd95edf2068fe725b6a9c8ef4f02c8214a13b167b2272e30d1f6aa9cc6416", func := "concourse/concourselaw25.DrrNone", spec := "drrNone", unfollowed := true, recurses := true, apart := false }
def DrrNoneSaid : Prop := drrNoneRow.holds Try.pinned (OpenSpec.ofChange drrNoneSpec)

/-- ITS FALSE NEIGHBOUR: 'it returns false'. Refute it at one input. -/
def drrNoneWrong : ChangeSpec := { name := "drrNone", fn := fun _ => fun
  | [d1, d2] => { results := [.lit (.bool false)], args := [d1, d2] }
  | _ => none }
def DrrNoneWrongFalsely : Prop := drrNoneRow.holds Try.pinned (OpenSpec.ofChange drrNoneWrong)

/-- 'concourselaw40.FlowsOrder': WHATEVER THE INPUT: true; the input reads as it did. -/
def flowsOrderSpec : ChangeSpec := { name := "flowsOrder", fn := fun _ => fun
  | [d] => { results := [.lit (.bool true)], args := [d] }
  | _ => none }
def flowsOrderRow : OpenClaim := { program := "ytabhdigannalgaa", sum := "043dd95edf2068fe725b6a9c8ef4f02c8214a13b167b2272e30d1f6aa9cc6416", func := "concourse/concourselaw40.FlowsOrder", spec := "flowsOrder", unfollowed := true, recurses := true, apart := false }
def FlowsOrderSaid : Prop := flowsOrderRow.holds Try.pinned (OpenSpec.ofChange flowsOrderSpec)

/-- ITS FALSE NEIGHBOUR: 'it returns false'. Refute it at one input. -/
def flowsOrderWrong : ChangeSpec := { name := "flowsOrder", fn := fun _ => fun
  | [d] => { results := [.lit (.bool false)], args := [d] }
  | _ => none }
def FlowsOrderWrongFalsely : Prop := flowsOrderRow.holds Try.pinned (OpenSpec.ofChange flowsOrderWrong)

/-- 'concourselaw40.FlowsSteps': WHATEVER THE INPUT: true; the input reads as it did. -/
def flowsStepsSpec : ChangeSpec := { name := "flowsSteps", fn := fun _ => fun
  | [d] => { results := [.lit (.bool true)], args := [d] }
  | _ => none }
def flowsStepsRow : OpenClaim := { program := "ytabhdigannalgaa", sum := "043dd95edf2068fe725b6a9c8ef4f02c8214a13b167b2272e30d1f6aa9cc6416", func := "concourse/concourselaw40.FlowsSteps", spec := "flowsSteps", unfollowed := true, recurses := true, apart := false }
def FlowsStepsSaid : Prop := flowsStepsRow.holds Try.pinned (OpenSpec.ofChange flowsStepsSpec)

/-- ITS FALSE NEIGHBOUR: 'it returns false'. Refute it at one input. -/
def flowsStepsWrong : ChangeSpec := { name := "flowsSteps", fn := fun _ => fun
  | [d] => { results := [.lit (.bool false)], args := [d] }
  | _ => none }
def FlowsStepsWrongFalsely : Prop := flowsStepsRow.holds Try.pinned (OpenSpec.ofChange flowsStepsWrong)

/-- 'concourselaw40.FlowsNone': WHATEVER THE INPUT: true; the input reads as it did. -/
def flowsNoneSpec : ChangeSpec := { name := "flowsNone", fn := fun _ => fun
  | [d] => { results := [.lit (.bool true)], args := [d] }
  | _ => none }
def flowsNoneRow : OpenClaim := { program := "ytabhdigannalgaa", sum := "043dd95edf2068fe725b6a9c8ef4f02c8214a13b167b2272e30d1f6aa9cc6416", func := "concourse/concourselaw40.FlowsNone", spec := "flowsNone", unfollowed := true, recurses := true, apart := false }
def FlowsNoneSaid : Prop := flowsNoneRow.holds Try.pinned (OpenSpec.ofChange flowsNoneSpec)

/-- ITS FALSE NEIGHBOUR: 'it returns false'. Refute it at one input. -/
def flowsNoneWrong : ChangeSpec := { name := "flowsNone", fn := fun _ => fun
  | [d] => { results := [.lit (.bool false)], args := [d] }
  | _ => none }
def FlowsNoneWrongFalsely : Prop := flowsNoneRow.holds Try.pinned (OpenSpec.ofChange flowsNoneWrong)

/- THE SECOND FORM. 'bulk': how many values and letters a reading holds, each counted each time it is reached (what is shared counts as often as it is met; a slice's spare places count too). A statement '..UptoSaid' is the law's where the arguments, and the package variables that the reading takes, are together of bulk at most 1048576: NARROWER than '..Said'. Prove '..Said' where nothing that the law and all that it calls make is longer than what came in: it says more and counts as full. Else prove '..UptoSaid'. A law counts once. -/
mutual
def uptoBulk {H : Type} : DataW H → Nat
  | .lit (.string bytes) => bytes.length + 1
  | .lit _ => 1
  | .nil => 1
  | .ptr d => uptoBulk d + 1
  | .slice elems spare => uptoBulkAll elems + uptoBulkAll spare + 1
  | .agg parts => uptoBulkAll parts + 1
  | .iface _ d => uptoBulk d + 1
  | .map entries => uptoBulkEntries entries + 1
  | .held _ => 1
def uptoBulkAll {H : Type} : List (DataW H) → Nat
  | [] => 0
  | d :: r => uptoBulk d + uptoBulkAll r
def uptoBulkEntries {H : Type} : List (Lit × DataW H) → Nat
  | [] => 0
  | x :: r => uptoBulkEntry x + uptoBulkEntries r
def uptoBulkEntry {H : Type} : Lit × DataW H → Nat
  | (.string bytes, d) => bytes.length + uptoBulk d + 1
  | (_, d) => uptoBulk d + 1
 end
def uptoSmall : (H : Type) → List (DataW H) → Bool := fun _ ds => decide (uptoBulkAll ds ≤ 1048576)
def OpenSpec.upto (s : _root_.Go.ChangeSpec) : _root_.Go.OpenSpec := { _root_.Go.OpenSpec.ofChange s with cond := some uptoSmall }

/-- 'concourselaw25.DrrOrder', WHERE WHAT IT READS IS OF BULK AT MOST 1048576: true; the input reads as it did. -/
def drrOrderUptoRow : OpenClaim := { program := "ytabhdigannalgaa", sum := "043dd95edf2068fe725b6a9c8ef4f02c8214a13b167b2272e30d1f6aa9cc6416", func := "concourse/concourselaw25.DrrOrder", spec := "drrOrder", unfollowed := true, recurses := true, apart := false, narrowed := true }
def DrrOrderUptoSaid : Prop := drrOrderUptoRow.holds Try.pinned (OpenSpec.upto drrOrderSpec)

/-- 'concourselaw25.DrrFair', WHERE WHAT IT READS IS OF BULK AT MOST 1048576: true; the input reads as it did. -/
def drrFairUptoRow : OpenClaim := { program := "ytabhdigannalgaa", sum := "043dd95edf2068fe725b6a9c8ef4f02c8214a13b167b2272e30d1f6aa9cc6416", func := "concourse/concourselaw25.DrrFair", spec := "drrFair", unfollowed := true, recurses := true, apart := false, narrowed := true }
def DrrFairUptoSaid : Prop := drrFairUptoRow.holds Try.pinned (OpenSpec.upto drrFairSpec)

/-- 'concourselaw25.DrrSteps', WHERE WHAT IT READS IS OF BULK AT MOST 1048576: true; the input reads as it did. -/
def drrStepsUptoRow : OpenClaim := { program := "ytabhdigannalgaa", sum := "043dd95edf2068fe725b6a9c8ef4f02c8214a13b167b2272e30d1f6aa9cc6416", func := "concourse/concourselaw25.DrrSteps", spec := "drrSteps", unfollowed := true, recurses := true, apart := false, narrowed := true }
def DrrStepsUptoSaid : Prop := drrStepsUptoRow.holds Try.pinned (OpenSpec.upto drrStepsSpec)

/-- 'concourselaw25.DrrNone', WHERE WHAT IT READS IS OF BULK AT MOST 1048576: true; the input reads as it did. -/
def drrNoneUptoRow : OpenClaim := { program := "ytabhdigannalgaa", sum := "043dd95edf2068fe725b6a9c8ef4f02c8214a13b167b2272e30d1f6aa9cc6416", func := "concourse/concourselaw25.DrrNone", spec := "drrNone", unfollowed := true, recurses := true, apart := false, narrowed := true }
def DrrNoneUptoSaid : Prop := drrNoneUptoRow.holds Try.pinned (OpenSpec.upto drrNoneSpec)

/-- 'concourselaw40.FlowsOrder', WHERE WHAT IT READS IS OF BULK AT MOST 1048576: true; the input reads as it did. -/
def flowsOrderUptoRow : OpenClaim := { program := "ytabhdigannalgaa", sum := "043dd95edf2068fe725b6a9c8ef4f02c8214a13b167b2272e30d1f6aa9cc6416", func := "concourse/concourselaw40.FlowsOrder", spec := "flowsOrder", unfollowed := true, recurses := true, apart := false, narrowed := true }
def FlowsOrderUptoSaid : Prop := flowsOrderUptoRow.holds Try.pinned (OpenSpec.upto flowsOrderSpec)

/-- 'concourselaw40.FlowsSteps', WHERE WHAT IT READS IS OF BULK AT MOST 1048576: true; the input reads as it did. -/
def flowsStepsUptoRow : OpenClaim := { program := "ytabhdigannalgaa", sum := "043dd95edf2068fe725b6a9c8ef4f02c8214a13b167b2272e30d1f6aa9cc6416", func := "concourse/concourselaw40.FlowsSteps", spec := "flowsSteps", unfollowed := true, recurses := true, apart := false, narrowed := true }
def FlowsStepsUptoSaid : Prop := flowsStepsUptoRow.holds Try.pinned (OpenSpec.upto flowsStepsSpec)

/-- 'concourselaw40.FlowsNone', WHERE WHAT IT READS IS OF BULK AT MOST 1048576: true; the input reads as it did. -/
def flowsNoneUptoRow : OpenClaim := { program := "ytabhdigannalgaa", sum := "043dd95edf2068fe725b6a9c8ef4f02c8214a13b167b2272e30d1f6aa9cc6416", func := "concourse/concourselaw40.FlowsNone", spec := "flowsNone", unfollowed := true, recurses := true, apart := false, narrowed := true }
def FlowsNoneUptoSaid : Prop := flowsNoneUptoRow.holds Try.pinned (OpenSpec.upto flowsNoneSpec)

end Rows
end Go.Proofs.Ytabhdigannalgaa
