/-
  No cell of these rows narrows 'for every input' (looked for: loops, veiled, ifaces, maps, wideKeys, modest, calm, conditions, laid).
  DERIVED. THE GIVEN ROWS OF THIS SEAT. 8 by the template 'for every input the law returns true; each argument reads behind the call as it read before'; 0 by the template 'total and deterministic' (their statements: YtikapnphnkoelaaTotals.lean).
  GIVEN WITH THE SEED: the statements are not yours to turn. If you find one false, say at which input.
  Laid BY PROGRAM, IN A SANDBOX (cutbox-rows.mjs): the forced cells as the released guide's own fill.sh prints them over the translation 76cefde6c540ae57… (all of the seat's roots in one cut). By AI agents, Wed Nov 11 2026. No macro, syntax, notation, axiom, sorry.
-/
import Derived.Test.YtikapnphnkoelaaChecked
import GoSem.Claim
import GoSem.ClaimJoined
import GoSem.ClaimMapViews
import Derived.JoinedTies
import Derived.KernelRfl
namespace Go.Proofs.Ytikapnphnkoelaa
/- THE CELL 'sum', in the pinned program and in every row, IS THE sha256 OF THE DUMP (.gsa) THAT YtikapnphnkoelaaProg.lean LOADS. Nothing in Lean hashes anything: it is a label: what it is worth is what the hold of that sum in a sandbox is worth. -/
noncomputable def Try.pinned : Pinned := { name := "ytikapnphnkoelaa", sum := "76cefde6c540ae57a7dcc1b248dcb69b171f7b4eb883578881cf47e3d19c6bf1", checked := Try.checked }
namespace Rows
def none {H : Type} : Left H := { results := [], args := [] }

/-- 'laws.FnStateOk': WHATEVER THE INPUT: true; the input reads as it did. -/
def fnStateOkSpec : ChangeSpec := { name := "fnStateOk", fn := fun _ => fun
  | [d] => { results := [.lit (.bool true)], args := [d] }
  | _ => none }
def fnStateOkRow : OpenClaim := { program := "ytikapnphnkoelaa", sum := "76cefde6c540ae57a7dcc1b248dcb69b171f7b4eb883578881cf47e3d19c6bf1", func := "loop.example/plansandpromises/laws.FnStateOk", spec := "fnStateOk", unfollowed := true, recurses := true, apart := false }
def FnStateOkSaid : Prop := fnStateOkRow.holds Try.pinned (OpenSpec.ofChange fnStateOkSpec)

/-- ITS FALSE NEIGHBOUR: 'it returns false'. Refute it at one input. -/
def fnStateOkWrong : ChangeSpec := { name := "fnStateOk", fn := fun _ => fun
  | [d] => { results := [.lit (.bool false)], args := [d] }
  | _ => none }
def FnStateOkWrongFalsely : Prop := fnStateOkRow.holds Try.pinned (OpenSpec.ofChange fnStateOkWrong)

/-- 'laws.FnReadyOk': WHATEVER THE INPUT: true; the input reads as it did. -/
def fnReadyOkSpec : ChangeSpec := { name := "fnReadyOk", fn := fun _ => fun
  | [d] => { results := [.lit (.bool true)], args := [d] }
  | _ => none }
def fnReadyOkRow : OpenClaim := { program := "ytikapnphnkoelaa", sum := "76cefde6c540ae57a7dcc1b248dcb69b171f7b4eb883578881cf47e3d19c6bf1", func := "loop.example/plansandpromises/laws.FnReadyOk", spec := "fnReadyOk", unfollowed := true, recurses := true, apart := false }
def FnReadyOkSaid : Prop := fnReadyOkRow.holds Try.pinned (OpenSpec.ofChange fnReadyOkSpec)

/-- ITS FALSE NEIGHBOUR: 'it returns false'. Refute it at one input. -/
def fnReadyOkWrong : ChangeSpec := { name := "fnReadyOk", fn := fun _ => fun
  | [d] => { results := [.lit (.bool false)], args := [d] }
  | _ => none }
def FnReadyOkWrongFalsely : Prop := fnReadyOkRow.holds Try.pinned (OpenSpec.ofChange fnReadyOkWrong)

/-- 'laws.FnHeardOk': WHATEVER THE INPUT: true; the input reads as it did. -/
def fnHeardOkSpec : ChangeSpec := { name := "fnHeardOk", fn := fun _ => fun
  | [d] => { results := [.lit (.bool true)], args := [d] }
  | _ => none }
def fnHeardOkRow : OpenClaim := { program := "ytikapnphnkoelaa", sum := "76cefde6c540ae57a7dcc1b248dcb69b171f7b4eb883578881cf47e3d19c6bf1", func := "loop.example/plansandpromises/laws.FnHeardOk", spec := "fnHeardOk", unfollowed := true, recurses := true, apart := false }
def FnHeardOkSaid : Prop := fnHeardOkRow.holds Try.pinned (OpenSpec.ofChange fnHeardOkSpec)

/-- ITS FALSE NEIGHBOUR: 'it returns false'. Refute it at one input. -/
def fnHeardOkWrong : ChangeSpec := { name := "fnHeardOk", fn := fun _ => fun
  | [d] => { results := [.lit (.bool false)], args := [d] }
  | _ => none }
def FnHeardOkWrongFalsely : Prop := fnHeardOkRow.holds Try.pinned (OpenSpec.ofChange fnHeardOkWrong)

/-- 'laws.FnWindowOf': WHATEVER THE INPUT: true; the input reads as it did. -/
def fnWindowOfSpec : ChangeSpec := { name := "fnWindowOf", fn := fun _ => fun
  | [d] => { results := [.lit (.bool true)], args := [d] }
  | _ => none }
def fnWindowOfRow : OpenClaim := { program := "ytikapnphnkoelaa", sum := "76cefde6c540ae57a7dcc1b248dcb69b171f7b4eb883578881cf47e3d19c6bf1", func := "loop.example/plansandpromises/laws.FnWindowOf", spec := "fnWindowOf", unfollowed := true, recurses := true, apart := false }
def FnWindowOfSaid : Prop := fnWindowOfRow.holds Try.pinned (OpenSpec.ofChange fnWindowOfSpec)

/-- ITS FALSE NEIGHBOUR: 'it returns false'. Refute it at one input. -/
def fnWindowOfWrong : ChangeSpec := { name := "fnWindowOf", fn := fun _ => fun
  | [d] => { results := [.lit (.bool false)], args := [d] }
  | _ => none }
def FnWindowOfWrongFalsely : Prop := fnWindowOfRow.holds Try.pinned (OpenSpec.ofChange fnWindowOfWrong)

/-- 'laws.FnDeadlineOf': WHATEVER THE INPUT: true; the input reads as it did. -/
def fnDeadlineOfSpec : ChangeSpec := { name := "fnDeadlineOf", fn := fun _ => fun
  | [d] => { results := [.lit (.bool true)], args := [d] }
  | _ => none }
def fnDeadlineOfRow : OpenClaim := { program := "ytikapnphnkoelaa", sum := "76cefde6c540ae57a7dcc1b248dcb69b171f7b4eb883578881cf47e3d19c6bf1", func := "loop.example/plansandpromises/laws.FnDeadlineOf", spec := "fnDeadlineOf", unfollowed := true, recurses := true, apart := false }
def FnDeadlineOfSaid : Prop := fnDeadlineOfRow.holds Try.pinned (OpenSpec.ofChange fnDeadlineOfSpec)

/-- ITS FALSE NEIGHBOUR: 'it returns false'. Refute it at one input. -/
def fnDeadlineOfWrong : ChangeSpec := { name := "fnDeadlineOf", fn := fun _ => fun
  | [d] => { results := [.lit (.bool false)], args := [d] }
  | _ => none }
def FnDeadlineOfWrongFalsely : Prop := fnDeadlineOfRow.holds Try.pinned (OpenSpec.ofChange fnDeadlineOfWrong)

/-- 'laws.FnStateAfter': WHATEVER THE INPUT: true; the input reads as it did. -/
def fnStateAfterSpec : ChangeSpec := { name := "fnStateAfter", fn := fun _ => fun
  | [d] => { results := [.lit (.bool true)], args := [d] }
  | _ => none }
def fnStateAfterRow : OpenClaim := { program := "ytikapnphnkoelaa", sum := "76cefde6c540ae57a7dcc1b248dcb69b171f7b4eb883578881cf47e3d19c6bf1", func := "loop.example/plansandpromises/laws.FnStateAfter", spec := "fnStateAfter", unfollowed := true, recurses := true, apart := false }
def FnStateAfterSaid : Prop := fnStateAfterRow.holds Try.pinned (OpenSpec.ofChange fnStateAfterSpec)

/-- ITS FALSE NEIGHBOUR: 'it returns false'. Refute it at one input. -/
def fnStateAfterWrong : ChangeSpec := { name := "fnStateAfter", fn := fun _ => fun
  | [d] => { results := [.lit (.bool false)], args := [d] }
  | _ => none }
def FnStateAfterWrongFalsely : Prop := fnStateAfterRow.holds Try.pinned (OpenSpec.ofChange fnStateAfterWrong)

/-- 'laws.FnGoesOnOk': WHATEVER THE INPUT: true; the input reads as it did. -/
def fnGoesOnOkSpec : ChangeSpec := { name := "fnGoesOnOk", fn := fun _ => fun
  | [d] => { results := [.lit (.bool true)], args := [d] }
  | _ => none }
def fnGoesOnOkRow : OpenClaim := { program := "ytikapnphnkoelaa", sum := "76cefde6c540ae57a7dcc1b248dcb69b171f7b4eb883578881cf47e3d19c6bf1", func := "loop.example/plansandpromises/laws.FnGoesOnOk", spec := "fnGoesOnOk", unfollowed := true, recurses := true, apart := false }
def FnGoesOnOkSaid : Prop := fnGoesOnOkRow.holds Try.pinned (OpenSpec.ofChange fnGoesOnOkSpec)

/-- ITS FALSE NEIGHBOUR: 'it returns false'. Refute it at one input. -/
def fnGoesOnOkWrong : ChangeSpec := { name := "fnGoesOnOk", fn := fun _ => fun
  | [d] => { results := [.lit (.bool false)], args := [d] }
  | _ => none }
def FnGoesOnOkWrongFalsely : Prop := fnGoesOnOkRow.holds Try.pinned (OpenSpec.ofChange fnGoesOnOkWrong)

/-- 'laws.FnVerdictOf': WHATEVER THE INPUT: true; the input reads as it did. -/
def fnVerdictOfSpec : ChangeSpec := { name := "fnVerdictOf", fn := fun _ => fun
  | [d] => { results := [.lit (.bool true)], args := [d] }
  | _ => none }
def fnVerdictOfRow : OpenClaim := { program := "ytikapnphnkoelaa", sum := "76cefde6c540ae57a7dcc1b248dcb69b171f7b4eb883578881cf47e3d19c6bf1", func := "loop.example/plansandpromises/laws.FnVerdictOf", spec := "fnVerdictOf", unfollowed := true, recurses := true, apart := false }
def FnVerdictOfSaid : Prop := fnVerdictOfRow.holds Try.pinned (OpenSpec.ofChange fnVerdictOfSpec)

/-- ITS FALSE NEIGHBOUR: 'it returns false'. Refute it at one input. -/
def fnVerdictOfWrong : ChangeSpec := { name := "fnVerdictOf", fn := fun _ => fun
  | [d] => { results := [.lit (.bool false)], args := [d] }
  | _ => none }
def FnVerdictOfWrongFalsely : Prop := fnVerdictOfRow.holds Try.pinned (OpenSpec.ofChange fnVerdictOfWrong)

/- THE SECOND FORM. 'bulk': how many values and letters a reading holds, each counted each time it is reached (what is shared counts as often as it is met; a slice's spare places count too). A statement '..UptoSaid' is the law's where the arguments, and the package variables that the reading takes, are together of bulk at most 1048576: NARROWER than '..Said'. Prove '..Said' where nothing that the law and all that it calls make is longer than what came in: it says more and counts as full. Else prove '..UptoSaid'. A law counts once. -/
mutual
def uptoBulk {H : Type} : DataW H → Nat
  | .lit (.string bytes) => bytes.length + 1
  | .lit _ => 1
  | .nil => 1
  | .ptr d => uptoBulk d + 1
  | .slice elems spare => uptoBulkAll elems + uptoBulkAll spare + 1
  | .agg parts => uptoBulkAll parts + 1
  | .iface _ d => uptoBulk d + 1
  | .map entries => uptoBulkEntries entries + 1
  | .held _ => 1
def uptoBulkAll {H : Type} : List (DataW H) → Nat
  | [] => 0
  | d :: r => uptoBulk d + uptoBulkAll r
def uptoBulkEntries {H : Type} : List (Lit × DataW H) → Nat
  | [] => 0
  | x :: r => uptoBulkEntry x + uptoBulkEntries r
def uptoBulkEntry {H : Type} : Lit × DataW H → Nat
  | (.string bytes, d) => bytes.length + uptoBulk d + 1
  | (_, d) => uptoBulk d + 1
 end
def uptoSmall : (H : Type) → List (DataW H) → Bool := fun _ ds => decide (uptoBulkAll ds ≤ 1048576)
def OpenSpec.upto (s : _root_.Go.ChangeSpec) : _root_.Go.OpenSpec := { _root_.Go.OpenSpec.ofChange s with cond := some uptoSmall }

/-- 'laws.FnStateOk', WHERE WHAT IT READS IS OF BULK AT MOST 1048576: true; the input reads as it did. -/
def fnStateOkUptoRow : OpenClaim := { program := "ytikapnphnkoelaa", sum := "76cefde6c540ae57a7dcc1b248dcb69b171f7b4eb883578881cf47e3d19c6bf1", func := "loop.example/plansandpromises/laws.FnStateOk", spec := "fnStateOk", unfollowed := true, recurses := true, apart := false, narrowed := true }
def FnStateOkUptoSaid : Prop := fnStateOkUptoRow.holds Try.pinned (OpenSpec.upto fnStateOkSpec)

/-- 'laws.FnReadyOk', WHERE WHAT IT READS IS OF BULK AT MOST 1048576: true; the input reads as it did. -/
def fnReadyOkUptoRow : OpenClaim := { program := "ytikapnphnkoelaa", sum := "76cefde6c540ae57a7dcc1b248dcb69b171f7b4eb883578881cf47e3d19c6bf1", func := "loop.example/plansandpromises/laws.FnReadyOk", spec := "fnReadyOk", unfollowed := true, recurses := true, apart := false, narrowed := true }
def FnReadyOkUptoSaid : Prop := fnReadyOkUptoRow.holds Try.pinned (OpenSpec.upto fnReadyOkSpec)

/-- 'laws.FnHeardOk', WHERE WHAT IT READS IS OF BULK AT MOST 1048576: true; the input reads as it did. -/
def fnHeardOkUptoRow : OpenClaim := { program := "ytikapnphnkoelaa", sum := "76cefde6c540ae57a7dcc1b248dcb69b171f7b4eb883578881cf47e3d19c6bf1", func := "loop.example/plansandpromises/laws.FnHeardOk", spec := "fnHeardOk", unfollowed := true, recurses := true, apart := false, narrowed := true }
def FnHeardOkUptoSaid : Prop := fnHeardOkUptoRow.holds Try.pinned (OpenSpec.upto fnHeardOkSpec)

/-- 'laws.FnWindowOf', WHERE WHAT IT READS IS OF BULK AT MOST 1048576: true; the input reads as it did. -/
def fnWindowOfUptoRow : OpenClaim := { program := "ytikapnphnkoelaa", sum := "76cefde6c540ae57a7dcc1b248dcb69b171f7b4eb883578881cf47e3d19c6bf1", func := "loop.example/plansandpromises/laws.FnWindowOf", spec := "fnWindowOf", unfollowed := true, recurses := true, apart := false, narrowed := true }
def FnWindowOfUptoSaid : Prop := fnWindowOfUptoRow.holds Try.pinned (OpenSpec.upto fnWindowOfSpec)

/-- 'laws.FnDeadlineOf', WHERE WHAT IT READS IS OF BULK AT MOST 1048576: true; the input reads as it did. -/
def fnDeadlineOfUptoRow : OpenClaim := { program := "ytikapnphnkoelaa", sum := "76cefde6c540ae57a7dcc1b248dcb69b171f7b4eb883578881cf47e3d19c6bf1", func := "loop.example/plansandpromises/laws.FnDeadlineOf", spec := "fnDeadlineOf", unfollowed := true, recurses := true, apart := false, narrowed := true }
def FnDeadlineOfUptoSaid : Prop := fnDeadlineOfUptoRow.holds Try.pinned (OpenSpec.upto fnDeadlineOfSpec)

/-- 'laws.FnStateAfter', WHERE WHAT IT READS IS OF BULK AT MOST 1048576: true; the input reads as it did. -/
def fnStateAfterUptoRow : OpenClaim := { program := "ytikapnphnkoelaa", sum := "76cefde6c540ae57a7dcc1b248dcb69b171f7b4eb883578881cf47e3d19c6bf1", func := "loop.example/plansandpromises/laws.FnStateAfter", spec := "fnStateAfter", unfollowed := true, recurses := true, apart := false, narrowed := true }
def FnStateAfterUptoSaid : Prop := fnStateAfterUptoRow.holds Try.pinned (OpenSpec.upto fnStateAfterSpec)

/-- 'laws.FnGoesOnOk', WHERE WHAT IT READS IS OF BULK AT MOST 1048576: true; the input reads as it did. -/
def fnGoesOnOkUptoRow : OpenClaim := { program := "ytikapnphnkoelaa", sum := "76cefde6c540ae57a7dcc1b248dcb69b171f7b4eb883578881cf47e3d19c6bf1", func := "loop.example/plansandpromises/laws.FnGoesOnOk", spec := "fnGoesOnOk", unfollowed := true, recurses := true, apart := false, narrowed := true }
def FnGoesOnOkUptoSaid : Prop := fnGoesOnOkUptoRow.holds Try.pinned (OpenSpec.upto fnGoesOnOkSpec)

/-- 'laws.FnVerdictOf', WHERE WHAT IT READS IS OF BULK AT MOST 1048576: true; the input reads as it did. -/
def fnVerdictOfUptoRow : OpenClaim := { program := "ytikapnphnkoelaa", sum := "76cefde6c540ae57a7dcc1b248dcb69b171f7b4eb883578881cf47e3d19c6bf1", func := "loop.example/plansandpromises/laws.FnVerdictOf", spec := "fnVerdictOf", unfollowed := true, recurses := true, apart := false, narrowed := true }
def FnVerdictOfUptoSaid : Prop := fnVerdictOfUptoRow.holds Try.pinned (OpenSpec.upto fnVerdictOfSpec)

end Rows
end Go.Proofs.Ytikapnphnkoelaa
