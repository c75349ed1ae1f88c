/-
  NARROWER THAN 'FOR EVERY INPUT', by the rows' own cells (each row's printed sentence says how): NamesFinds: loops · NamesOwn: loops · NamesParts: loops · CheckFinite: loops · CheckLess: loops.
  DERIVED. THE GIVEN ROWS OF THIS SEAT. 5 by the template 'for every input the law returns true; each argument reads behind the call as it read before'; 0 by the template 'total and deterministic' (their statements: YtagnclphmhjoiaaTotals.lean).
  GIVEN WITH THE SEED: the statements are not yours to turn. If you find one false, say at which input.
  Laid BY PROGRAM, IN A SANDBOX (cutbox-rows.mjs): the forced cells as the released guide's own fill.sh prints them over the translation 83c6a00486e47c47… (all of the seat's roots in one cut). By AI agents, Wed Nov 11 2026. No macro, syntax, notation, axiom, sorry.
-/
import Derived.Test.YtagnclphmhjoiaaChecked
import GoSem.Claim
import GoSem.ClaimJoined
import GoSem.ClaimMapViews
import Derived.JoinedTies
import Derived.KernelRfl
namespace Go.Proofs.Ytagnclphmhjoiaa
/- THE CELL 'sum', in the pinned program and in every row, IS THE sha256 OF THE DUMP (.gsa) THAT YtagnclphmhjoiaaProg.lean LOADS. Nothing in Lean hashes anything: it is a label: what it is worth is what the hold of that sum in a sandbox is worth. -/
noncomputable def Try.pinned : Pinned := { name := "ytagnclphmhjoiaa", sum := "83c6a00486e47c4723ff4be322ef3ce421e0d20fcb503b6a47ff589de0ced81d", checked := Try.checked }
namespace Rows
def none {H : Type} : Left H := { results := [], args := [] }

/-- 'concourselaw11.NamesFinds': WHATEVER THE INPUT: true; the input reads as it did. -/
def namesFindsSpec : ChangeSpec := { name := "namesFinds", fn := fun _ => fun
  | [d1, d2] => { results := [.lit (.bool true)], args := [d1, d2] }
  | _ => none }
def namesFindsRow : OpenClaim := { program := "ytagnclphmhjoiaa", sum := "83c6a00486e47c4723ff4be322ef3ce421e0d20fcb503b6a47ff589de0ced81d", func := "concourse/concourselaw11.NamesFinds", spec := "namesFinds", loops := true, apart := false }
def NamesFindsSaid : Prop := namesFindsRow.holds Try.pinned (OpenSpec.ofChange namesFindsSpec)

/-- ITS FALSE NEIGHBOUR: 'it returns false'. Refute it at one input. -/
def namesFindsWrong : ChangeSpec := { name := "namesFinds", fn := fun _ => fun
  | [d1, d2] => { results := [.lit (.bool false)], args := [d1, d2] }
  | _ => none }
def NamesFindsWrongFalsely : Prop := namesFindsRow.holds Try.pinned (OpenSpec.ofChange namesFindsWrong)

/-- 'concourselaw11.NamesOwn': WHATEVER THE INPUT: true; the input reads as it did. -/
def namesOwnSpec : ChangeSpec := { name := "namesOwn", fn := fun _ => fun
  | [d] => { results := [.lit (.bool true)], args := [d] }
  | _ => none }
def namesOwnRow : OpenClaim := { program := "ytagnclphmhjoiaa", sum := "83c6a00486e47c4723ff4be322ef3ce421e0d20fcb503b6a47ff589de0ced81d", func := "concourse/concourselaw11.NamesOwn", spec := "namesOwn", loops := true, apart := false }
def NamesOwnSaid : Prop := namesOwnRow.holds Try.pinned (OpenSpec.ofChange namesOwnSpec)

/-- ITS FALSE NEIGHBOUR: 'it returns false'. Refute it at one input. -/
def namesOwnWrong : ChangeSpec := { name := "namesOwn", fn := fun _ => fun
  | [d] => { results := [.lit (.bool false)], args := [d] }
  | _ => none }
def NamesOwnWrongFalsely : Prop := namesOwnRow.holds Try.pinned (OpenSpec.ofChange namesOwnWrong)

/-- 'concourselaw11.NamesParts': WHATEVER THE INPUT: true; the input reads as it did. -/
def namesPartsSpec : ChangeSpec := { name := "namesParts", fn := fun _ => fun
  | [d1, d2] => { results := [.lit (.bool true)], args := [d1, d2] }
  | _ => none }
def namesPartsRow : OpenClaim := { program := "ytagnclphmhjoiaa", sum := "83c6a00486e47c4723ff4be322ef3ce421e0d20fcb503b6a47ff589de0ced81d", func := "concourse/concourselaw11.NamesParts", spec := "namesParts", loops := true, apart := false }
def NamesPartsSaid : Prop := namesPartsRow.holds Try.pinned (OpenSpec.ofChange namesPartsSpec)

/-- ITS FALSE NEIGHBOUR: 'it returns false'. Refute it at one input. -/
def namesPartsWrong : ChangeSpec := { name := "namesParts", fn := fun _ => fun
  | [d1, d2] => { results := [.lit (.bool false)], args := [d1, d2] }
  | _ => none }
def NamesPartsWrongFalsely : Prop := namesPartsRow.holds Try.pinned (OpenSpec.ofChange namesPartsWrong)

/-- 'concourselaw12.CheckFinite': WHATEVER THE INPUT: true; the input reads as it did. -/
def checkFiniteSpec : ChangeSpec := { name := "checkFinite", fn := fun _ => fun
  | [d] => { results := [.lit (.bool true)], args := [d] }
  | _ => none }
def checkFiniteRow : OpenClaim := { program := "ytagnclphmhjoiaa", sum := "83c6a00486e47c4723ff4be322ef3ce421e0d20fcb503b6a47ff589de0ced81d", func := "concourse/concourselaw12.CheckFinite", spec := "checkFinite", unfollowed := true, recurses := true, loops := true, apart := false }
def CheckFiniteSaid : Prop := checkFiniteRow.holds Try.pinned (OpenSpec.ofChange checkFiniteSpec)

/-- ITS FALSE NEIGHBOUR: 'it returns false'. Refute it at one input. -/
def checkFiniteWrong : ChangeSpec := { name := "checkFinite", fn := fun _ => fun
  | [d] => { results := [.lit (.bool false)], args := [d] }
  | _ => none }
def CheckFiniteWrongFalsely : Prop := checkFiniteRow.holds Try.pinned (OpenSpec.ofChange checkFiniteWrong)

/-- 'concourselaw12.CheckLess': WHATEVER THE INPUT: true; the input reads as it did. -/
def checkLessSpec : ChangeSpec := { name := "checkLess", fn := fun _ => fun
  | [d] => { results := [.lit (.bool true)], args := [d] }
  | _ => none }
def checkLessRow : OpenClaim := { program := "ytagnclphmhjoiaa", sum := "83c6a00486e47c4723ff4be322ef3ce421e0d20fcb503b6a47ff589de0ced81d", func := "concourse/concourselaw12.CheckLess", spec := "checkLess", unfollowed := true, recurses := true, loops := true, apart := false }
def CheckLessSaid : Prop := checkLessRow.holds Try.pinned (OpenSpec.ofChange checkLessSpec)

/-- ITS FALSE NEIGHBOUR: 'it returns false'. Refute it at one input. -/
def checkLessWrong : ChangeSpec := { name := "checkLess", fn := fun _ => fun
  | [d] => { results := [.lit (.bool false)], args := [d] }
  | _ => none }
def CheckLessWrongFalsely : Prop := checkLessRow.holds Try.pinned (OpenSpec.ofChange checkLessWrong)

/- THE SECOND FORM. 'bulk': how many values and letters a reading holds, each counted each time it is reached (what is shared counts as often as it is met; a slice's spare places count too). A statement '..UptoSaid' is the law's where the arguments, and the package variables that the reading takes, are together of bulk at most 1048576: NARROWER than '..Said'. Prove '..Said' where nothing that the law and all that it calls make is longer than what came in: it says more and counts as full. Else prove '..UptoSaid'. A law counts once. -/
mutual
def uptoBulk {H : Type} : DataW H → Nat
  | .lit (.string bytes) => bytes.length + 1
  | .lit _ => 1
  | .nil => 1
  | .ptr d => uptoBulk d + 1
  | .slice elems spare => uptoBulkAll elems + uptoBulkAll spare + 1
  | .agg parts => uptoBulkAll parts + 1
  | .iface _ d => uptoBulk d + 1
  | .map entries => uptoBulkEntries entries + 1
  | .held _ => 1
def uptoBulkAll {H : Type} : List (DataW H) → Nat
  | [] => 0
  | d :: r => uptoBulk d + uptoBulkAll r
def uptoBulkEntries {H : Type} : List (Lit × DataW H) → Nat
  | [] => 0
  | x :: r => uptoBulkEntry x + uptoBulkEntries r
def uptoBulkEntry {H : Type} : Lit × DataW H → Nat
  | (.string bytes, d) => bytes.length + uptoBulk d + 1
  | (_, d) => uptoBulk d + 1
 end
def uptoSmall : (H : Type) → List (DataW H) → Bool := fun _ ds => decide (uptoBulkAll ds ≤ 1048576)
def OpenSpec.upto (s : _root_.Go.ChangeSpec) : _root_.Go.OpenSpec := { _root_.Go.OpenSpec.ofChange s with cond := some uptoSmall }

/-- 'concourselaw11.NamesFinds', WHERE WHAT IT READS IS OF BULK AT MOST 1048576: true; the input reads as it did. -/
def namesFindsUptoRow : OpenClaim := { program := "ytagnclphmhjoiaa", sum := "83c6a00486e47c4723ff4be322ef3ce421e0d20fcb503b6a47ff589de0ced81d", func := "concourse/concourselaw11.NamesFinds", spec := "namesFinds", loops := true, apart := false, narrowed := true }
def NamesFindsUptoSaid : Prop := namesFindsUptoRow.holds Try.pinned (OpenSpec.upto namesFindsSpec)

/-- 'concourselaw11.NamesOwn', WHERE WHAT IT READS IS OF BULK AT MOST 1048576: true; the input reads as it did. -/
def namesOwnUptoRow : OpenClaim := { program := "ytagnclphmhjoiaa", sum := "83c6a00486e47c4723ff4be322ef3ce421e0d20fcb503b6a47ff589de0ced81d", func := "concourse/concourselaw11.NamesOwn", spec := "namesOwn", loops := true, apart := false, narrowed := true }
def NamesOwnUptoSaid : Prop := namesOwnUptoRow.holds Try.pinned (OpenSpec.upto namesOwnSpec)

/-- 'concourselaw11.NamesParts', WHERE WHAT IT READS IS OF BULK AT MOST 1048576: true; the input reads as it did. -/
def namesPartsUptoRow : OpenClaim := { program := "ytagnclphmhjoiaa", sum := "83c6a00486e47c4723ff4be322ef3ce421e0d20fcb503b6a47ff589de0ced81d", func := "concourse/concourselaw11.NamesParts", spec := "namesParts", loops := true, apart := false, narrowed := true }
def NamesPartsUptoSaid : Prop := namesPartsUptoRow.holds Try.pinned (OpenSpec.upto namesPartsSpec)

/-- 'concourselaw12.CheckFinite', WHERE WHAT IT READS IS OF BULK AT MOST 1048576: true; the input reads as it did. -/
def checkFiniteUptoRow : OpenClaim := { program := "ytagnclphmhjoiaa", sum := "83c6a00486e47c4723ff4be322ef3ce421e0d20fcb503b6a47ff589de0ced81d", func := "concourse/concourselaw12.CheckFinite", spec := "checkFinite", unfollowed := true, recurses := true, loops := true, apart := false, narrowed := true }
def CheckFiniteUptoSaid : Prop := checkFiniteUptoRow.holds Try.pinned (OpenSpec.upto checkFiniteSpec)

/-- 'concourselaw12.CheckLess', WHERE WHAT IT READS IS OF BULK AT MOST 1048576: true; the input reads as it did. -/
def checkLessUptoRow : OpenClaim := { program := "ytagnclphmhjoiaa", sum := "83c6a00486e47c4723ff4be322ef3ce421e0d20fcb503b6a47ff589de0ced81d", func := "concourse/concourselaw12.CheckLess", spec := "checkLess", unfollowed := true, recurses := true, loops := true, apart := false, narrowed := true }
def CheckLessUptoSaid : Prop := checkLessUptoRow.holds Try.pinned (OpenSpec.upto checkLessSpec)

end Rows
end Go.Proofs.Ytagnclphmhjoiaa
