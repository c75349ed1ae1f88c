/-
  No cell of these rows narrows 'for every input' (looked for: loops, veiled, ifaces, maps, wideKeys, modest, calm, conditions, laid).
  DERIVED. THE GIVEN ROWS OF THIS SEAT. 5 by the template 'for every input the law returns true; each argument reads behind the call as it read before'; 0 by the template 'total and deterministic' (their statements: YtipcgddcbnhejaaTotals.lean).
  GIVEN WITH THE SEED: the statements are not yours to turn. If you find one false, say at which input.
  Laid BY PROGRAM, IN A SANDBOX (cutbox-rows.mjs): the forced cells as the released guide's own fill.sh prints them over the translation 44c310f4a35dea2b… (all of the seat's roots in one cut). By AI agents, Wed Nov 11 2026. No macro, syntax, notation, axiom, sorry.
-/
import Derived.Test.YtipcgddcbnhejaaChecked
import GoSem.Claim
import GoSem.ClaimJoined
import GoSem.ClaimMapViews
import Derived.JoinedTies
import Derived.KernelRfl
namespace Go.Proofs.Ytipcgddcbnhejaa
/- THE CELL 'sum', in the pinned program and in every row, IS THE sha256 OF THE DUMP (.gsa) THAT YtipcgddcbnhejaaProg.lean LOADS. Nothing in Lean hashes anything: it is a label: what it is worth is what the hold of that sum in a sandbox is worth. -/
noncomputable def Try.pinned : Pinned := { name := "ytipcgddcbnhejaa", sum := "44c310f4a35dea2b7af149c6ea721c2021e677686314173ee6b6d865cf42cd9a", checked := Try.checked }
namespace Rows
def none {H : Type} : Left H := { results := [], args := [] }

/-- 'concourselaw32.DedupKeeps': WHATEVER THE INPUT: true; the input reads as it did. -/
def dedupKeepsSpec : ChangeSpec := { name := "dedupKeeps", fn := fun _ => fun
  | [d1, d2] => { results := [.lit (.bool true)], args := [d1, d2] }
  | _ => none }
def dedupKeepsRow : OpenClaim := { program := "ytipcgddcbnhejaa", sum := "44c310f4a35dea2b7af149c6ea721c2021e677686314173ee6b6d865cf42cd9a", func := "concourse/concourselaw32.DedupKeeps", spec := "dedupKeeps", apart := false }
def DedupKeepsSaid : Prop := dedupKeepsRow.holds Try.pinned (OpenSpec.ofChange dedupKeepsSpec)

/-- ITS FALSE NEIGHBOUR: 'it returns false'. Refute it at one input. -/
def dedupKeepsWrong : ChangeSpec := { name := "dedupKeeps", fn := fun _ => fun
  | [d1, d2] => { results := [.lit (.bool false)], args := [d1, d2] }
  | _ => none }
def DedupKeepsWrongFalsely : Prop := dedupKeepsRow.holds Try.pinned (OpenSpec.ofChange dedupKeepsWrong)

/-- 'concourselaw32.DedupPuts': WHATEVER THE INPUT: true; the input reads as it did. -/
def dedupPutsSpec : ChangeSpec := { name := "dedupPuts", fn := fun _ => fun
  | [d1, d2] => { results := [.lit (.bool true)], args := [d1, d2] }
  | _ => none }
def dedupPutsRow : OpenClaim := { program := "ytipcgddcbnhejaa", sum := "44c310f4a35dea2b7af149c6ea721c2021e677686314173ee6b6d865cf42cd9a", func := "concourse/concourselaw32.DedupPuts", spec := "dedupPuts", apart := false }
def DedupPutsSaid : Prop := dedupPutsRow.holds Try.pinned (OpenSpec.ofChange dedupPutsSpec)

/-- ITS FALSE NEIGHBOUR: 'it returns false'. Refute it at one input. -/
def dedupPutsWrong : ChangeSpec := { name := "dedupPuts", fn := fun _ => fun
  | [d1, d2] => { results := [.lit (.bool false)], args := [d1, d2] }
  | _ => none }
def DedupPutsWrongFalsely : Prop := dedupPutsRow.holds Try.pinned (OpenSpec.ofChange dedupPutsWrong)

/-- 'concourselaw32.DedupNone': WHATEVER THE INPUT: true; the input reads as it did. -/
def dedupNoneSpec : ChangeSpec := { name := "dedupNone", fn := fun _ => fun
  | [d1, d2] => { results := [.lit (.bool true)], args := [d1, d2] }
  | _ => none }
def dedupNoneRow : OpenClaim := { program := "ytipcgddcbnhejaa", sum := "44c310f4a35dea2b7af149c6ea721c2021e677686314173ee6b6d865cf42cd9a", func := "concourse/concourselaw32.DedupNone", spec := "dedupNone", apart := false }
def DedupNoneSaid : Prop := dedupNoneRow.holds Try.pinned (OpenSpec.ofChange dedupNoneSpec)

/-- ITS FALSE NEIGHBOUR: 'it returns false'. Refute it at one input. -/
def dedupNoneWrong : ChangeSpec := { name := "dedupNone", fn := fun _ => fun
  | [d1, d2] => { results := [.lit (.bool false)], args := [d1, d2] }
  | _ => none }
def DedupNoneWrongFalsely : Prop := dedupNoneRow.holds Try.pinned (OpenSpec.ofChange dedupNoneWrong)

/-- 'concourselaw33.TombSteps': WHATEVER THE INPUT: true; the input reads as it did. -/
def tombStepsSpec : ChangeSpec := { name := "tombSteps", fn := fun _ => fun
  | [d] => { results := [.lit (.bool true)], args := [d] }
  | _ => none }
def tombStepsRow : OpenClaim := { program := "ytipcgddcbnhejaa", sum := "44c310f4a35dea2b7af149c6ea721c2021e677686314173ee6b6d865cf42cd9a", func := "concourse/concourselaw33.TombSteps", spec := "tombSteps", unfollowed := true, recurses := true, apart := false }
def TombStepsSaid : Prop := tombStepsRow.holds Try.pinned (OpenSpec.ofChange tombStepsSpec)

/-- ITS FALSE NEIGHBOUR: 'it returns false'. Refute it at one input. -/
def tombStepsWrong : ChangeSpec := { name := "tombSteps", fn := fun _ => fun
  | [d] => { results := [.lit (.bool false)], args := [d] }
  | _ => none }
def TombStepsWrongFalsely : Prop := tombStepsRow.holds Try.pinned (OpenSpec.ofChange tombStepsWrong)

/-- 'concourselaw33.TombOnce': WHATEVER THE INPUT: true; the input reads as it did. -/
def tombOnceSpec : ChangeSpec := { name := "tombOnce", fn := fun _ => fun
  | [d1, d2] => { results := [.lit (.bool true)], args := [d1, d2] }
  | _ => none }
def tombOnceRow : OpenClaim := { program := "ytipcgddcbnhejaa", sum := "44c310f4a35dea2b7af149c6ea721c2021e677686314173ee6b6d865cf42cd9a", func := "concourse/concourselaw33.TombOnce", spec := "tombOnce", unfollowed := true, recurses := true, apart := false }
def TombOnceSaid : Prop := tombOnceRow.holds Try.pinned (OpenSpec.ofChange tombOnceSpec)

/-- ITS FALSE NEIGHBOUR: 'it returns false'. Refute it at one input. -/
def tombOnceWrong : ChangeSpec := { name := "tombOnce", fn := fun _ => fun
  | [d1, d2] => { results := [.lit (.bool false)], args := [d1, d2] }
  | _ => none }
def TombOnceWrongFalsely : Prop := tombOnceRow.holds Try.pinned (OpenSpec.ofChange tombOnceWrong)

/- THE SECOND FORM. 'bulk': how many values and letters a reading holds, each counted each time it is reached (what is shared counts as often as it is met; a slice's spare places count too). A statement '..UptoSaid' is the law's where the arguments, and the package variables that the reading takes, are together of bulk at most 1048576: NARROWER than '..Said'. Prove '..Said' where nothing that the law and all that it calls make is longer than what came in: it says more and counts as full. Else prove '..UptoSaid'. A law counts once. -/
mutual
def uptoBulk {H : Type} : DataW H → Nat
  | .lit (.string bytes) => bytes.length + 1
  | .lit _ => 1
  | .nil => 1
  | .ptr d => uptoBulk d + 1
  | .slice elems spare => uptoBulkAll elems + uptoBulkAll spare + 1
  | .agg parts => uptoBulkAll parts + 1
  | .iface _ d => uptoBulk d + 1
  | .map entries => uptoBulkEntries entries + 1
  | .held _ => 1
def uptoBulkAll {H : Type} : List (DataW H) → Nat
  | [] => 0
  | d :: r => uptoBulk d + uptoBulkAll r
def uptoBulkEntries {H : Type} : List (Lit × DataW H) → Nat
  | [] => 0
  | x :: r => uptoBulkEntry x + uptoBulkEntries r
def uptoBulkEntry {H : Type} : Lit × DataW H → Nat
  | (.string bytes, d) => bytes.length + uptoBulk d + 1
  | (_, d) => uptoBulk d + 1
 end
def uptoSmall : (H : Type) → List (DataW H) → Bool := fun _ ds => decide (uptoBulkAll ds ≤ 1048576)
def OpenSpec.upto (s : _root_.Go.ChangeSpec) : _root_.Go.OpenSpec := { _root_.Go.OpenSpec.ofChange s with cond := some uptoSmall }

/-- 'concourselaw32.DedupKeeps', WHERE WHAT IT READS IS OF BULK AT MOST 1048576: true; the input reads as it did. -/
def dedupKeepsUptoRow : OpenClaim := { program := "ytipcgddcbnhejaa", sum := "44c310f4a35dea2b7af149c6ea721c2021e677686314173ee6b6d865cf42cd9a", func := "concourse/concourselaw32.DedupKeeps", spec := "dedupKeeps", apart := false, narrowed := true }
def DedupKeepsUptoSaid : Prop := dedupKeepsUptoRow.holds Try.pinned (OpenSpec.upto dedupKeepsSpec)

/-- 'concourselaw32.DedupPuts', WHERE WHAT IT READS IS OF BULK AT MOST 1048576: true; the input reads as it did. -/
def dedupPutsUptoRow : OpenClaim := { program := "ytipcgddcbnhejaa", sum := "44c310f4a35dea2b7af149c6ea721c2021e677686314173ee6b6d865cf42cd9a", func := "concourse/concourselaw32.DedupPuts", spec := "dedupPuts", apart := false, narrowed := true }
def DedupPutsUptoSaid : Prop := dedupPutsUptoRow.holds Try.pinned (OpenSpec.upto dedupPutsSpec)

/-- 'concourselaw32.DedupNone', WHERE WHAT IT READS IS OF BULK AT MOST 1048576: true; the input reads as it did. -/
def dedupNoneUptoRow : OpenClaim := { program := "ytipcgddcbnhejaa", sum := "44c310f4a35dea2b7af149c6ea721c2021e677686314173ee6b6d865cf42cd9a", func := "concourse/concourselaw32.DedupNone", spec := "dedupNone", apart := false, narrowed := true }
def DedupNoneUptoSaid : Prop := dedupNoneUptoRow.holds Try.pinned (OpenSpec.upto dedupNoneSpec)

/-- 'concourselaw33.TombSteps', WHERE WHAT IT READS IS OF BULK AT MOST 1048576: true; the input reads as it did. -/
def tombStepsUptoRow : OpenClaim := { program := "ytipcgddcbnhejaa", sum := "44c310f4a35dea2b7af149c6ea721c2021e677686314173ee6b6d865cf42cd9a", func := "concourse/concourselaw33.TombSteps", spec := "tombSteps", unfollowed := true, recurses := true, apart := false, narrowed := true }
def TombStepsUptoSaid : Prop := tombStepsUptoRow.holds Try.pinned (OpenSpec.upto tombStepsSpec)

/-- 'concourselaw33.TombOnce', WHERE WHAT IT READS IS OF BULK AT MOST 1048576: true; the input reads as it did. -/
def tombOnceUptoRow : OpenClaim := { program := "ytipcgddcbnhejaa", sum := "44c310f4a35dea2b7af149c6ea721c2021e677686314173ee6b6d865cf42cd9a", func := "concourse/concourselaw33.TombOnce", spec := "tombOnce", unfollowed := true, recurses := true, apart := false, narrowed := true }
def TombOnceUptoSaid : Prop := tombOnceUptoRow.holds Try.pinned (OpenSpec.upto tombOnceSpec)

end Rows
end Go.Proofs.Ytipcgddcbnhejaa
