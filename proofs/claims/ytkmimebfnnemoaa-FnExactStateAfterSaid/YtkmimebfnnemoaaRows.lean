/-
  No cell of these rows narrows 'for every input' (looked for: loops, veiled, ifaces, maps, wideKeys, modest, calm, conditions, laid).
  DERIVED. THE GIVEN ROWS OF THIS SEAT. 5 by the template 'for every input the law returns true; each argument reads behind the call as it read before'; 0 by the template 'total and deterministic' (their statements: YtkmimebfnnemoaaTotals.lean).
  GIVEN WITH THE SEED: the statements are not yours to turn. If you find one false, say at which input.
  Laid BY PROGRAM, IN A SANDBOX (cutbox-rows.mjs): the forced cells as the released guide's own fill.sh prints them over the translation 5311b6a7bb44434e… (all of the seat's roots in one cut). By AI agents, Wed Nov 11 2026. No macro, syntax, notation, axiom, sorry.
-/
import Derived.Test.YtkmimebfnnemoaaChecked
import GoSem.Claim
import GoSem.ClaimJoined
import GoSem.ClaimMapViews
import Derived.JoinedTies
import Derived.KernelRfl
namespace Go.Proofs.Ytkmimebfnnemoaa
/- THE CELL 'sum', in the pinned program and in every row, IS THE sha256 OF THE DUMP (.gsa) THAT YtkmimebfnnemoaaProg.lean LOADS. Nothing in Lean hashes anything: it is a label: what it is worth is what the hold of that sum in a sandbox is worth. -/
noncomputable def Try.pinned : Pinned := { name := "ytkmimebfnnemoaa", sum := "5311b6a7bb44434e4069771878ba7068b55f514dbeeffb8132860c8abb8104ac", checked := Try.checked }
namespace Rows
def none {H : Type} : Left H := { results := [], args := [] }

/-- 'laws.FnExactHeardOk': WHATEVER THE INPUT: true; the input reads as it did. -/
def fnExactHeardOkSpec : ChangeSpec := { name := "fnExactHeardOk", fn := fun _ => fun
  | [d1, d2] => { results := [.lit (.bool true)], args := [d1, d2] }
  | _ => none }
def fnExactHeardOkRow : OpenClaim := { program := "ytkmimebfnnemoaa", sum := "5311b6a7bb44434e4069771878ba7068b55f514dbeeffb8132860c8abb8104ac", func := "loop.example/plansandpromises/laws.FnExactHeardOk", spec := "fnExactHeardOk", unfollowed := true, recurses := true, apart := false }
def FnExactHeardOkSaid : Prop := fnExactHeardOkRow.holds Try.pinned (OpenSpec.ofChange fnExactHeardOkSpec)

/-- ITS FALSE NEIGHBOUR: 'it returns false'. Refute it at one input. -/
def fnExactHeardOkWrong : ChangeSpec := { name := "fnExactHeardOk", fn := fun _ => fun
  | [d1, d2] => { results := [.lit (.bool false)], args := [d1, d2] }
  | _ => none }
def FnExactHeardOkWrongFalsely : Prop := fnExactHeardOkRow.holds Try.pinned (OpenSpec.ofChange fnExactHeardOkWrong)

/-- 'laws.FnExactStateAfter': WHATEVER THE INPUT: true; the input reads as it did. -/
def fnExactStateAfterSpec : ChangeSpec := { name := "fnExactStateAfter", fn := fun _ => fun
  | [d1, d2, d3] => { results := [.lit (.bool true)], args := [d1, d2, d3] }
  | _ => none }
def fnExactStateAfterRow : OpenClaim := { program := "ytkmimebfnnemoaa", sum := "5311b6a7bb44434e4069771878ba7068b55f514dbeeffb8132860c8abb8104ac", func := "loop.example/plansandpromises/laws.FnExactStateAfter", spec := "fnExactStateAfter", unfollowed := true, recurses := true, apart := false }
def FnExactStateAfterSaid : Prop := fnExactStateAfterRow.holds Try.pinned (OpenSpec.ofChange fnExactStateAfterSpec)

/-- ITS FALSE NEIGHBOUR: 'it returns false'. Refute it at one input. -/
def fnExactStateAfterWrong : ChangeSpec := { name := "fnExactStateAfter", fn := fun _ => fun
  | [d1, d2, d3] => { results := [.lit (.bool false)], args := [d1, d2, d3] }
  | _ => none }
def FnExactStateAfterWrongFalsely : Prop := fnExactStateAfterRow.holds Try.pinned (OpenSpec.ofChange fnExactStateAfterWrong)

/-- 'laws.FnExactVerdictOf': WHATEVER THE INPUT: true; the input reads as it did. -/
def fnExactVerdictOfSpec : ChangeSpec := { name := "fnExactVerdictOf", fn := fun _ => fun
  | [d1, d2, d3] => { results := [.lit (.bool true)], args := [d1, d2, d3] }
  | _ => none }
def fnExactVerdictOfRow : OpenClaim := { program := "ytkmimebfnnemoaa", sum := "5311b6a7bb44434e4069771878ba7068b55f514dbeeffb8132860c8abb8104ac", func := "loop.example/plansandpromises/laws.FnExactVerdictOf", spec := "fnExactVerdictOf", unfollowed := true, recurses := true, apart := false }
def FnExactVerdictOfSaid : Prop := fnExactVerdictOfRow.holds Try.pinned (OpenSpec.ofChange fnExactVerdictOfSpec)

/-- ITS FALSE NEIGHBOUR: 'it returns false'. Refute it at one input. -/
def fnExactVerdictOfWrong : ChangeSpec := { name := "fnExactVerdictOf", fn := fun _ => fun
  | [d1, d2, d3] => { results := [.lit (.bool false)], args := [d1, d2, d3] }
  | _ => none }
def FnExactVerdictOfWrongFalsely : Prop := fnExactVerdictOfRow.holds Try.pinned (OpenSpec.ofChange fnExactVerdictOfWrong)

/-- 'laws.FnExactFirstBad': WHATEVER THE INPUT: true; the input reads as it did. -/
def fnExactFirstBadSpec : ChangeSpec := { name := "fnExactFirstBad", fn := fun _ => fun
  | [d1, d2] => { results := [.lit (.bool true)], args := [d1, d2] }
  | _ => none }
def fnExactFirstBadRow : OpenClaim := { program := "ytkmimebfnnemoaa", sum := "5311b6a7bb44434e4069771878ba7068b55f514dbeeffb8132860c8abb8104ac", func := "loop.example/plansandpromises/laws.FnExactFirstBad", spec := "fnExactFirstBad", unfollowed := true, recurses := true, apart := false }
def FnExactFirstBadSaid : Prop := fnExactFirstBadRow.holds Try.pinned (OpenSpec.ofChange fnExactFirstBadSpec)

/-- ITS FALSE NEIGHBOUR: 'it returns false'. Refute it at one input. -/
def fnExactFirstBadWrong : ChangeSpec := { name := "fnExactFirstBad", fn := fun _ => fun
  | [d1, d2] => { results := [.lit (.bool false)], args := [d1, d2] }
  | _ => none }
def FnExactFirstBadWrongFalsely : Prop := fnExactFirstBadRow.holds Try.pinned (OpenSpec.ofChange fnExactFirstBadWrong)

/-- 'laws.FnExactWaitUntil': WHATEVER THE INPUT: true; the input reads as it did. -/
def fnExactWaitUntilSpec : ChangeSpec := { name := "fnExactWaitUntil", fn := fun _ => fun
  | [d1, d2] => { results := [.lit (.bool true)], args := [d1, d2] }
  | _ => none }
def fnExactWaitUntilRow : OpenClaim := { program := "ytkmimebfnnemoaa", sum := "5311b6a7bb44434e4069771878ba7068b55f514dbeeffb8132860c8abb8104ac", func := "loop.example/plansandpromises/laws.FnExactWaitUntil", spec := "fnExactWaitUntil", unfollowed := true, recurses := true, apart := false }
def FnExactWaitUntilSaid : Prop := fnExactWaitUntilRow.holds Try.pinned (OpenSpec.ofChange fnExactWaitUntilSpec)

/-- ITS FALSE NEIGHBOUR: 'it returns false'. Refute it at one input. -/
def fnExactWaitUntilWrong : ChangeSpec := { name := "fnExactWaitUntil", fn := fun _ => fun
  | [d1, d2] => { results := [.lit (.bool false)], args := [d1, d2] }
  | _ => none }
def FnExactWaitUntilWrongFalsely : Prop := fnExactWaitUntilRow.holds Try.pinned (OpenSpec.ofChange fnExactWaitUntilWrong)

/- THE SECOND FORM. 'bulk': how many values and letters a reading holds, each counted each time it is reached (what is shared counts as often as it is met; a slice's spare places count too). A statement '..UptoSaid' is the law's where the arguments, and the package variables that the reading takes, are together of bulk at most 1048576: NARROWER than '..Said'. Prove '..Said' where nothing that the law and all that it calls make is longer than what came in: it says more and counts as full. Else prove '..UptoSaid'. A law counts once. -/
mutual
def uptoBulk {H : Type} : DataW H → Nat
  | .lit (.string bytes) => bytes.length + 1
  | .lit _ => 1
  | .nil => 1
  | .ptr d => uptoBulk d + 1
  | .slice elems spare => uptoBulkAll elems + uptoBulkAll spare + 1
  | .agg parts => uptoBulkAll parts + 1
  | .iface _ d => uptoBulk d + 1
  | .map entries => uptoBulkEntries entries + 1
  | .held _ => 1
def uptoBulkAll {H : Type} : List (DataW H) → Nat
  | [] => 0
  | d :: r => uptoBulk d + uptoBulkAll r
def uptoBulkEntries {H : Type} : List (Lit × DataW H) → Nat
  | [] => 0
  | x :: r => uptoBulkEntry x + uptoBulkEntries r
def uptoBulkEntry {H : Type} : Lit × DataW H → Nat
  | (.string bytes, d) => bytes.length + uptoBulk d + 1
  | (_, d) => uptoBulk d + 1
 end
def uptoSmall : (H : Type) → List (DataW H) → Bool := fun _ ds => decide (uptoBulkAll ds ≤ 1048576)
def OpenSpec.upto (s : _root_.Go.ChangeSpec) : _root_.Go.OpenSpec := { _root_.Go.OpenSpec.ofChange s with cond := some uptoSmall }

/-- 'laws.FnExactHeardOk', WHERE WHAT IT READS IS OF BULK AT MOST 1048576: true; the input reads as it did. -/
def fnExactHeardOkUptoRow : OpenClaim := { program := "ytkmimebfnnemoaa", sum := "5311b6a7bb44434e4069771878ba7068b55f514dbeeffb8132860c8abb8104ac", func := "loop.example/plansandpromises/laws.FnExactHeardOk", spec := "fnExactHeardOk", unfollowed := true, recurses := true, apart := false, narrowed := true }
def FnExactHeardOkUptoSaid : Prop := fnExactHeardOkUptoRow.holds Try.pinned (OpenSpec.upto fnExactHeardOkSpec)

/-- 'laws.FnExactStateAfter', WHERE WHAT IT READS IS OF BULK AT MOST 1048576: true; the input reads as it did. -/
def fnExactStateAfterUptoRow : OpenClaim := { program := "ytkmimebfnnemoaa", sum := "5311b6a7bb44434e4069771878ba7068b55f514dbeeffb8132860c8abb8104ac", func := "loop.example/plansandpromises/laws.FnExactStateAfter", spec := "fnExactStateAfter", unfollowed := true, recurses := true, apart := false, narrowed := true }
def FnExactStateAfterUptoSaid : Prop := fnExactStateAfterUptoRow.holds Try.pinned (OpenSpec.upto fnExactStateAfterSpec)

/-- 'laws.FnExactVerdictOf', WHERE WHAT IT READS IS OF BULK AT MOST 1048576: true; the input reads as it did. -/
def fnExactVerdictOfUptoRow : OpenClaim := { program := "ytkmimebfnnemoaa", sum := "5311b6a7bb44434e4069771878ba7068b55f514dbeeffb8132860c8abb8104ac", func := "loop.example/plansandpromises/laws.FnExactVerdictOf", spec := "fnExactVerdictOf", unfollowed := true, recurses := true, apart := false, narrowed := true }
def FnExactVerdictOfUptoSaid : Prop := fnExactVerdictOfUptoRow.holds Try.pinned (OpenSpec.upto fnExactVerdictOfSpec)

/-- 'laws.FnExactFirstBad', WHERE WHAT IT READS IS OF BULK AT MOST 1048576: true; the input reads as it did. -/
def fnExactFirstBadUptoRow : OpenClaim := { program := "ytkmimebfnnemoaa", sum := "5311b6a7bb44434e4069771878ba7068b55f514dbeeffb8132860c8abb8104ac", func := "loop.example/plansandpromises/laws.FnExactFirstBad", spec := "fnExactFirstBad", unfollowed := true, recurses := true, apart := false, narrowed := true }
def FnExactFirstBadUptoSaid : Prop := fnExactFirstBadUptoRow.holds Try.pinned (OpenSpec.upto fnExactFirstBadSpec)

/-- 'laws.FnExactWaitUntil', WHERE WHAT IT READS IS OF BULK AT MOST 1048576: true; the input reads as it did. -/
def fnExactWaitUntilUptoRow : OpenClaim := { program := "ytkmimebfnnemoaa", sum := "5311b6a7bb44434e4069771878ba7068b55f514dbeeffb8132860c8abb8104ac", func := "loop.example/plansandpromises/laws.FnExactWaitUntil", spec := "fnExactWaitUntil", unfollowed := true, recurses := true, apart := false, narrowed := true }
def FnExactWaitUntilUptoSaid : Prop := fnExactWaitUntilUptoRow.holds Try.pinned (OpenSpec.upto fnExactWaitUntilSpec)

end Rows
end Go.Proofs.Ytkmimebfnnemoaa
