/-
  No cell of these rows narrows 'for every input' (looked for: loops, veiled, ifaces, maps, wideKeys, modest, calm, conditions, laid).
  DERIVED. THE GIVEN ROWS OF THIS SEAT. 12 by the template 'for every input the law returns true; each argument reads behind the call as it read before'; 0 by the template 'total and deterministic' (their statements: YtopfhlopicjemaaTotals.lean).
  GIVEN WITH THE SEED: the statements are not yours to turn. If you find one false, say at which input.
  Laid BY PROGRAM, IN A SANDBOX (cutbox-rows.mjs): the forced cells as the released guide's own fill.sh prints them over the translation f7d513535769cff8… (all of the seat's roots in one cut). By AI agents, Wed Nov 11 2026. No macro, syntax, notation, axiom, sorry.
-/
import Derived.Test.YtopfhlopicjemaaChecked
import GoSem.Claim
import GoSem.ClaimJoined
import GoSem.ClaimMapViews
import Derived.JoinedTies
import Derived.KernelRfl
namespace Go.Proofs.Ytopfhlopicjemaa
/- THE CELL 'sum', in the pinned program and in every row, IS THE sha256 OF THE DUMP (.gsa) THAT YtopfhlopicjemaaProg.lean LOADS. Nothing in Lean hashes anything: it is a label: what it is worth is what the hold of that sum in a sandbox is worth. -/
noncomputable def Try.pinned : Pinned := { name := "ytopfhlopicjemaa", sum := "f7d513535769cff892031217cfcc51893aa548563ab9ec2dcbe7647cc949a18f", checked := Try.checked }
namespace Rows
def none {H : Type} : Left H := { results := [], args := [] }

/-- 'laws.FnExactOrderOk': WHATEVER THE INPUT: true; the input reads as it did. -/
def fnExactOrderOkSpec : ChangeSpec := { name := "fnExactOrderOk", fn := fun _ => fun
  | [d1, d2] => { results := [.lit (.bool true)], args := [d1, d2] }
  | _ => none }
def fnExactOrderOkRow : OpenClaim := { program := "ytopfhlopicjemaa", sum := "f7d513535769cff892031217cfcc51893aa548563ab9ec2dcbe7647cc949a18f", func := "loop.example/plansandpromises/laws.FnExactOrderOk", spec := "fnExactOrderOk", apart := false }
def FnExactOrderOkSaid : Prop := fnExactOrderOkRow.holds Try.pinned (OpenSpec.ofChange fnExactOrderOkSpec)

/-- ITS FALSE NEIGHBOUR: 'it returns false'. Refute it at one input. -/
def fnExactOrderOkWrong : ChangeSpec := { name := "fnExactOrderOk", fn := fun _ => fun
  | [d1, d2] => { results := [.lit (.bool false)], args := [d1, d2] }
  | _ => none }
def FnExactOrderOkWrongFalsely : Prop := fnExactOrderOkRow.holds Try.pinned (OpenSpec.ofChange fnExactOrderOkWrong)

/-- 'laws.FnOrderOk': WHATEVER THE INPUT: true; the input reads as it did. -/
def fnOrderOkSpec : ChangeSpec := { name := "fnOrderOk", fn := fun _ => fun
  | [d] => { results := [.lit (.bool true)], args := [d] }
  | _ => none }
def fnOrderOkRow : OpenClaim := { program := "ytopfhlopicjemaa", sum := "f7d513535769cff892031217cfcc51893aa548563ab9ec2dcbe7647cc949a18f", func := "loop.example/plansandpromises/laws.FnOrderOk", spec := "fnOrderOk", apart := false }
def FnOrderOkSaid : Prop := fnOrderOkRow.holds Try.pinned (OpenSpec.ofChange fnOrderOkSpec)

/-- ITS FALSE NEIGHBOUR: 'it returns false'. Refute it at one input. -/
def fnOrderOkWrong : ChangeSpec := { name := "fnOrderOk", fn := fun _ => fun
  | [d] => { results := [.lit (.bool false)], args := [d] }
  | _ => none }
def FnOrderOkWrongFalsely : Prop := fnOrderOkRow.holds Try.pinned (OpenSpec.ofChange fnOrderOkWrong)

/-- 'laws.FnExactProjectOk': WHATEVER THE INPUT: true; the input reads as it did. -/
def fnExactProjectOkSpec : ChangeSpec := { name := "fnExactProjectOk", fn := fun _ => fun
  | [d] => { results := [.lit (.bool true)], args := [d] }
  | _ => none }
def fnExactProjectOkRow : OpenClaim := { program := "ytopfhlopicjemaa", sum := "f7d513535769cff892031217cfcc51893aa548563ab9ec2dcbe7647cc949a18f", func := "loop.example/plansandpromises/laws.FnExactProjectOk", spec := "fnExactProjectOk", unfollowed := true, recurses := true, apart := false }
def FnExactProjectOkSaid : Prop := fnExactProjectOkRow.holds Try.pinned (OpenSpec.ofChange fnExactProjectOkSpec)

/-- ITS FALSE NEIGHBOUR: 'it returns false'. Refute it at one input. -/
def fnExactProjectOkWrong : ChangeSpec := { name := "fnExactProjectOk", fn := fun _ => fun
  | [d] => { results := [.lit (.bool false)], args := [d] }
  | _ => none }
def FnExactProjectOkWrongFalsely : Prop := fnExactProjectOkRow.holds Try.pinned (OpenSpec.ofChange fnExactProjectOkWrong)

/-- 'laws.FnProjectOk': WHATEVER THE INPUT: true; the input reads as it did. -/
def fnProjectOkSpec : ChangeSpec := { name := "fnProjectOk", fn := fun _ => fun
  | [d] => { results := [.lit (.bool true)], args := [d] }
  | _ => none }
def fnProjectOkRow : OpenClaim := { program := "ytopfhlopicjemaa", sum := "f7d513535769cff892031217cfcc51893aa548563ab9ec2dcbe7647cc949a18f", func := "loop.example/plansandpromises/laws.FnProjectOk", spec := "fnProjectOk", unfollowed := true, recurses := true, apart := false }
def FnProjectOkSaid : Prop := fnProjectOkRow.holds Try.pinned (OpenSpec.ofChange fnProjectOkSpec)

/-- ITS FALSE NEIGHBOUR: 'it returns false'. Refute it at one input. -/
def fnProjectOkWrong : ChangeSpec := { name := "fnProjectOk", fn := fun _ => fun
  | [d] => { results := [.lit (.bool false)], args := [d] }
  | _ => none }
def FnProjectOkWrongFalsely : Prop := fnProjectOkRow.holds Try.pinned (OpenSpec.ofChange fnProjectOkWrong)

/-- 'laws.FnExactBusyAt': WHATEVER THE INPUT: true; the input reads as it did. -/
def fnExactBusyAtSpec : ChangeSpec := { name := "fnExactBusyAt", fn := fun _ => fun
  | [d1, d2, d3] => { results := [.lit (.bool true)], args := [d1, d2, d3] }
  | _ => none }
def fnExactBusyAtRow : OpenClaim := { program := "ytopfhlopicjemaa", sum := "f7d513535769cff892031217cfcc51893aa548563ab9ec2dcbe7647cc949a18f", func := "loop.example/plansandpromises/laws.FnExactBusyAt", spec := "fnExactBusyAt", unfollowed := true, recurses := true, apart := false }
def FnExactBusyAtSaid : Prop := fnExactBusyAtRow.holds Try.pinned (OpenSpec.ofChange fnExactBusyAtSpec)

/-- ITS FALSE NEIGHBOUR: 'it returns false'. Refute it at one input. -/
def fnExactBusyAtWrong : ChangeSpec := { name := "fnExactBusyAt", fn := fun _ => fun
  | [d1, d2, d3] => { results := [.lit (.bool false)], args := [d1, d2, d3] }
  | _ => none }
def FnExactBusyAtWrongFalsely : Prop := fnExactBusyAtRow.holds Try.pinned (OpenSpec.ofChange fnExactBusyAtWrong)

/-- 'laws.FnBusyAt': WHATEVER THE INPUT: true; the input reads as it did. -/
def fnBusyAtSpec : ChangeSpec := { name := "fnBusyAt", fn := fun _ => fun
  | [d] => { results := [.lit (.bool true)], args := [d] }
  | _ => none }
def fnBusyAtRow : OpenClaim := { program := "ytopfhlopicjemaa", sum := "f7d513535769cff892031217cfcc51893aa548563ab9ec2dcbe7647cc949a18f", func := "loop.example/plansandpromises/laws.FnBusyAt", spec := "fnBusyAt", unfollowed := true, recurses := true, apart := false }
def FnBusyAtSaid : Prop := fnBusyAtRow.holds Try.pinned (OpenSpec.ofChange fnBusyAtSpec)

/-- ITS FALSE NEIGHBOUR: 'it returns false'. Refute it at one input. -/
def fnBusyAtWrong : ChangeSpec := { name := "fnBusyAt", fn := fun _ => fun
  | [d] => { results := [.lit (.bool false)], args := [d] }
  | _ => none }
def FnBusyAtWrongFalsely : Prop := fnBusyAtRow.holds Try.pinned (OpenSpec.ofChange fnBusyAtWrong)

/-- 'laws.FnExactEndOf': WHATEVER THE INPUT: true; the input reads as it did. -/
def fnExactEndOfSpec : ChangeSpec := { name := "fnExactEndOf", fn := fun _ => fun
  | [d1, d2] => { results := [.lit (.bool true)], args := [d1, d2] }
  | _ => none }
def fnExactEndOfRow : OpenClaim := { program := "ytopfhlopicjemaa", sum := "f7d513535769cff892031217cfcc51893aa548563ab9ec2dcbe7647cc949a18f", func := "loop.example/plansandpromises/laws.FnExactEndOf", spec := "fnExactEndOf", unfollowed := true, recurses := true, apart := false }
def FnExactEndOfSaid : Prop := fnExactEndOfRow.holds Try.pinned (OpenSpec.ofChange fnExactEndOfSpec)

/-- ITS FALSE NEIGHBOUR: 'it returns false'. Refute it at one input. -/
def fnExactEndOfWrong : ChangeSpec := { name := "fnExactEndOf", fn := fun _ => fun
  | [d1, d2] => { results := [.lit (.bool false)], args := [d1, d2] }
  | _ => none }
def FnExactEndOfWrongFalsely : Prop := fnExactEndOfRow.holds Try.pinned (OpenSpec.ofChange fnExactEndOfWrong)

/-- 'laws.FnCaseOk': WHATEVER THE INPUT: true; the input reads as it did. -/
def fnCaseOkSpec : ChangeSpec := { name := "fnCaseOk", fn := fun _ => fun
  | [d] => { results := [.lit (.bool true)], args := [d] }
  | _ => none }
def fnCaseOkRow : OpenClaim := { program := "ytopfhlopicjemaa", sum := "f7d513535769cff892031217cfcc51893aa548563ab9ec2dcbe7647cc949a18f", func := "loop.example/plansandpromises/laws.FnCaseOk", spec := "fnCaseOk", unfollowed := true, recurses := true, apart := false }
def FnCaseOkSaid : Prop := fnCaseOkRow.holds Try.pinned (OpenSpec.ofChange fnCaseOkSpec)

/-- ITS FALSE NEIGHBOUR: 'it returns false'. Refute it at one input. -/
def fnCaseOkWrong : ChangeSpec := { name := "fnCaseOk", fn := fun _ => fun
  | [d] => { results := [.lit (.bool false)], args := [d] }
  | _ => none }
def FnCaseOkWrongFalsely : Prop := fnCaseOkRow.holds Try.pinned (OpenSpec.ofChange fnCaseOkWrong)

/-- 'laws.FnExactCaseOk': WHATEVER THE INPUT: true; the input reads as it did. -/
def fnExactCaseOkSpec : ChangeSpec := { name := "fnExactCaseOk", fn := fun _ => fun
  | [d] => { results := [.lit (.bool true)], args := [d] }
  | _ => none }
def fnExactCaseOkRow : OpenClaim := { program := "ytopfhlopicjemaa", sum := "f7d513535769cff892031217cfcc51893aa548563ab9ec2dcbe7647cc949a18f", func := "loop.example/plansandpromises/laws.FnExactCaseOk", spec := "fnExactCaseOk", unfollowed := true, recurses := true, apart := false }
def FnExactCaseOkSaid : Prop := fnExactCaseOkRow.holds Try.pinned (OpenSpec.ofChange fnExactCaseOkSpec)

/-- ITS FALSE NEIGHBOUR: 'it returns false'. Refute it at one input. -/
def fnExactCaseOkWrong : ChangeSpec := { name := "fnExactCaseOk", fn := fun _ => fun
  | [d] => { results := [.lit (.bool false)], args := [d] }
  | _ => none }
def FnExactCaseOkWrongFalsely : Prop := fnExactCaseOkRow.holds Try.pinned (OpenSpec.ofChange fnExactCaseOkWrong)

/-- 'laws.FnDealOk': WHATEVER THE INPUT: true; the input reads as it did. -/
def fnDealOkSpec : ChangeSpec := { name := "fnDealOk", fn := fun _ => fun
  | [d] => { results := [.lit (.bool true)], args := [d] }
  | _ => none }
def fnDealOkRow : OpenClaim := { program := "ytopfhlopicjemaa", sum := "f7d513535769cff892031217cfcc51893aa548563ab9ec2dcbe7647cc949a18f", func := "loop.example/plansandpromises/laws.FnDealOk", spec := "fnDealOk", unfollowed := true, recurses := true, apart := false }
def FnDealOkSaid : Prop := fnDealOkRow.holds Try.pinned (OpenSpec.ofChange fnDealOkSpec)

/-- ITS FALSE NEIGHBOUR: 'it returns false'. Refute it at one input. -/
def fnDealOkWrong : ChangeSpec := { name := "fnDealOk", fn := fun _ => fun
  | [d] => { results := [.lit (.bool false)], args := [d] }
  | _ => none }
def FnDealOkWrongFalsely : Prop := fnDealOkRow.holds Try.pinned (OpenSpec.ofChange fnDealOkWrong)

/-- 'laws.FnExactDealOk': WHATEVER THE INPUT: true; the input reads as it did. -/
def fnExactDealOkSpec : ChangeSpec := { name := "fnExactDealOk", fn := fun _ => fun
  | [d] => { results := [.lit (.bool true)], args := [d] }
  | _ => none }
def fnExactDealOkRow : OpenClaim := { program := "ytopfhlopicjemaa", sum := "f7d513535769cff892031217cfcc51893aa548563ab9ec2dcbe7647cc949a18f", func := "loop.example/plansandpromises/laws.FnExactDealOk", spec := "fnExactDealOk", unfollowed := true, recurses := true, apart := false }
def FnExactDealOkSaid : Prop := fnExactDealOkRow.holds Try.pinned (OpenSpec.ofChange fnExactDealOkSpec)

/-- ITS FALSE NEIGHBOUR: 'it returns false'. Refute it at one input. -/
def fnExactDealOkWrong : ChangeSpec := { name := "fnExactDealOk", fn := fun _ => fun
  | [d] => { results := [.lit (.bool false)], args := [d] }
  | _ => none }
def FnExactDealOkWrongFalsely : Prop := fnExactDealOkRow.holds Try.pinned (OpenSpec.ofChange fnExactDealOkWrong)

/-- 'laws.FnExactKeepsCase': WHATEVER THE INPUT: true; the input reads as it did. -/
def fnExactKeepsCaseSpec : ChangeSpec := { name := "fnExactKeepsCase", fn := fun _ => fun
  | [d1, d2] => { results := [.lit (.bool true)], args := [d1, d2] }
  | _ => none }
def fnExactKeepsCaseRow : OpenClaim := { program := "ytopfhlopicjemaa", sum := "f7d513535769cff892031217cfcc51893aa548563ab9ec2dcbe7647cc949a18f", func := "loop.example/plansandpromises/laws.FnExactKeepsCase", spec := "fnExactKeepsCase", unfollowed := true, recurses := true, apart := false }
def FnExactKeepsCaseSaid : Prop := fnExactKeepsCaseRow.holds Try.pinned (OpenSpec.ofChange fnExactKeepsCaseSpec)

/-- ITS FALSE NEIGHBOUR: 'it returns false'. Refute it at one input. -/
def fnExactKeepsCaseWrong : ChangeSpec := { name := "fnExactKeepsCase", fn := fun _ => fun
  | [d1, d2] => { results := [.lit (.bool false)], args := [d1, d2] }
  | _ => none }
def FnExactKeepsCaseWrongFalsely : Prop := fnExactKeepsCaseRow.holds Try.pinned (OpenSpec.ofChange fnExactKeepsCaseWrong)

/- THE SECOND FORM. 'bulk': how many values and letters a reading holds, each counted each time it is reached (what is shared counts as often as it is met; a slice's spare places count too). A statement '..UptoSaid' is the law's where the arguments, and the package variables that the reading takes, are together of bulk at most 1048576: NARROWER than '..Said'. Prove '..Said' where nothing that the law and all that it calls make is longer than what came in: it says more and counts as full. Else prove '..UptoSaid'. A law counts once. -/
mutual
def uptoBulk {H : Type} : DataW H → Nat
  | .lit (.string bytes) => bytes.length + 1
  | .lit _ => 1
  | .nil => 1
  | .ptr d => uptoBulk d + 1
  | .slice elems spare => uptoBulkAll elems + uptoBulkAll spare + 1
  | .agg parts => uptoBulkAll parts + 1
  | .iface _ d => uptoBulk d + 1
  | .map entries => uptoBulkEntries entries + 1
  | .held _ => 1
def uptoBulkAll {H : Type} : List (DataW H) → Nat
  | [] => 0
  | d :: r => uptoBulk d + uptoBulkAll r
def uptoBulkEntries {H : Type} : List (Lit × DataW H) → Nat
  | [] => 0
  | x :: r => uptoBulkEntry x + uptoBulkEntries r
def uptoBulkEntry {H : Type} : Lit × DataW H → Nat
  | (.string bytes, d) => bytes.length + uptoBulk d + 1
  | (_, d) => uptoBulk d + 1
 end
def uptoSmall : (H : Type) → List (DataW H) → Bool := fun _ ds => decide (uptoBulkAll ds ≤ 1048576)
def OpenSpec.upto (s : _root_.Go.ChangeSpec) : _root_.Go.OpenSpec := { _root_.Go.OpenSpec.ofChange s with cond := some uptoSmall }

/-- 'laws.FnExactOrderOk', WHERE WHAT IT READS IS OF BULK AT MOST 1048576: true; the input reads as it did. -/
def fnExactOrderOkUptoRow : OpenClaim := { program := "ytopfhlopicjemaa", sum := "f7d513535769cff892031217cfcc51893aa548563ab9ec2dcbe7647cc949a18f", func := "loop.example/plansandpromises/laws.FnExactOrderOk", spec := "fnExactOrderOk", apart := false, narrowed := true }
def FnExactOrderOkUptoSaid : Prop := fnExactOrderOkUptoRow.holds Try.pinned (OpenSpec.upto fnExactOrderOkSpec)

/-- 'laws.FnOrderOk', WHERE WHAT IT READS IS OF BULK AT MOST 1048576: true; the input reads as it did. -/
def fnOrderOkUptoRow : OpenClaim := { program := "ytopfhlopicjemaa", sum := "f7d513535769cff892031217cfcc51893aa548563ab9ec2dcbe7647cc949a18f", func := "loop.example/plansandpromises/laws.FnOrderOk", spec := "fnOrderOk", apart := false, narrowed := true }
def FnOrderOkUptoSaid : Prop := fnOrderOkUptoRow.holds Try.pinned (OpenSpec.upto fnOrderOkSpec)

/-- 'laws.FnExactProjectOk', WHERE WHAT IT READS IS OF BULK AT MOST 1048576: true; the input reads as it did. -/
def fnExactProjectOkUptoRow : OpenClaim := { program := "ytopfhlopicjemaa", sum := "f7d513535769cff892031217cfcc51893aa548563ab9ec2dcbe7647cc949a18f", func := "loop.example/plansandpromises/laws.FnExactProjectOk", spec := "fnExactProjectOk", unfollowed := true, recurses := true, apart := false, narrowed := true }
def FnExactProjectOkUptoSaid : Prop := fnExactProjectOkUptoRow.holds Try.pinned (OpenSpec.upto fnExactProjectOkSpec)

/-- 'laws.FnProjectOk', WHERE WHAT IT READS IS OF BULK AT MOST 1048576: true; the input reads as it did. -/
def fnProjectOkUptoRow : OpenClaim := { program := "ytopfhlopicjemaa", sum := "f7d513535769cff892031217cfcc51893aa548563ab9ec2dcbe7647cc949a18f", func := "loop.example/plansandpromises/laws.FnProjectOk", spec := "fnProjectOk", unfollowed := true, recurses := true, apart := false, narrowed := true }
def FnProjectOkUptoSaid : Prop := fnProjectOkUptoRow.holds Try.pinned (OpenSpec.upto fnProjectOkSpec)

/-- 'laws.FnExactBusyAt', WHERE WHAT IT READS IS OF BULK AT MOST 1048576: true; the input reads as it did. -/
def fnExactBusyAtUptoRow : OpenClaim := { program := "ytopfhlopicjemaa", sum := "f7d513535769cff892031217cfcc51893aa548563ab9ec2dcbe7647cc949a18f", func := "loop.example/plansandpromises/laws.FnExactBusyAt", spec := "fnExactBusyAt", unfollowed := true, recurses := true, apart := false, narrowed := true }
def FnExactBusyAtUptoSaid : Prop := fnExactBusyAtUptoRow.holds Try.pinned (OpenSpec.upto fnExactBusyAtSpec)

/-- 'laws.FnBusyAt', WHERE WHAT IT READS IS OF BULK AT MOST 1048576: true; the input reads as it did. -/
def fnBusyAtUptoRow : OpenClaim := { program := "ytopfhlopicjemaa", sum := "f7d513535769cff892031217cfcc51893aa548563ab9ec2dcbe7647cc949a18f", func := "loop.example/plansandpromises/laws.FnBusyAt", spec := "fnBusyAt", unfollowed := true, recurses := true, apart := false, narrowed := true }
def FnBusyAtUptoSaid : Prop := fnBusyAtUptoRow.holds Try.pinned (OpenSpec.upto fnBusyAtSpec)

/-- 'laws.FnExactEndOf', WHERE WHAT IT READS IS OF BULK AT MOST 1048576: true; the input reads as it did. -/
def fnExactEndOfUptoRow : OpenClaim := { program := "ytopfhlopicjemaa", sum := "f7d513535769cff892031217cfcc51893aa548563ab9ec2dcbe7647cc949a18f", func := "loop.example/plansandpromises/laws.FnExactEndOf", spec := "fnExactEndOf", unfollowed := true, recurses := true, apart := false, narrowed := true }
def FnExactEndOfUptoSaid : Prop := fnExactEndOfUptoRow.holds Try.pinned (OpenSpec.upto fnExactEndOfSpec)

/-- 'laws.FnCaseOk', WHERE WHAT IT READS IS OF BULK AT MOST 1048576: true; the input reads as it did. -/
def fnCaseOkUptoRow : OpenClaim := { program := "ytopfhlopicjemaa", sum := "f7d513535769cff892031217cfcc51893aa548563ab9ec2dcbe7647cc949a18f", func := "loop.example/plansandpromises/laws.FnCaseOk", spec := "fnCaseOk", unfollowed := true, recurses := true, apart := false, narrowed := true }
def FnCaseOkUptoSaid : Prop := fnCaseOkUptoRow.holds Try.pinned (OpenSpec.upto fnCaseOkSpec)

/-- 'laws.FnExactCaseOk', WHERE WHAT IT READS IS OF BULK AT MOST 1048576: true; the input reads as it did. -/
def fnExactCaseOkUptoRow : OpenClaim := { program := "ytopfhlopicjemaa", sum := "f7d513535769cff892031217cfcc51893aa548563ab9ec2dcbe7647cc949a18f", func := "loop.example/plansandpromises/laws.FnExactCaseOk", spec := "fnExactCaseOk", unfollowed := true, recurses := true, apart := false, narrowed := true }
def FnExactCaseOkUptoSaid : Prop := fnExactCaseOkUptoRow.holds Try.pinned (OpenSpec.upto fnExactCaseOkSpec)

/-- 'laws.FnDealOk', WHERE WHAT IT READS IS OF BULK AT MOST 1048576: true; the input reads as it did. -/
def fnDealOkUptoRow : OpenClaim := { program := "ytopfhlopicjemaa", sum := "f7d513535769cff892031217cfcc51893aa548563ab9ec2dcbe7647cc949a18f", func := "loop.example/plansandpromises/laws.FnDealOk", spec := "fnDealOk", unfollowed := true, recurses := true, apart := false, narrowed := true }
def FnDealOkUptoSaid : Prop := fnDealOkUptoRow.holds Try.pinned (OpenSpec.upto fnDealOkSpec)

/-- 'laws.FnExactDealOk', WHERE WHAT IT READS IS OF BULK AT MOST 1048576: true; the input reads as it did. -/
def fnExactDealOkUptoRow : OpenClaim := { program := "ytopfhlopicjemaa", sum := "f7d513535769cff892031217cfcc51893aa548563ab9ec2dcbe7647cc949a18f", func := "loop.example/plansandpromises/laws.FnExactDealOk", spec := "fnExactDealOk", unfollowed := true, recurses := true, apart := false, narrowed := true }
def FnExactDealOkUptoSaid : Prop := fnExactDealOkUptoRow.holds Try.pinned (OpenSpec.upto fnExactDealOkSpec)

/-- 'laws.FnExactKeepsCase', WHERE WHAT IT READS IS OF BULK AT MOST 1048576: true; the input reads as it did. -/
def fnExactKeepsCaseUptoRow : OpenClaim := { program := "ytopfhlopicjemaa", sum := "f7d513535769cff892031217cfcc51893aa548563ab9ec2dcbe7647cc949a18f", func := "loop.example/plansandpromises/laws.FnExactKeepsCase", spec := "fnExactKeepsCase", unfollowed := true, recurses := true, apart := false, narrowed := true }
def FnExactKeepsCaseUptoSaid : Prop := fnExactKeepsCaseUptoRow.holds Try.pinned (OpenSpec.upto fnExactKeepsCaseSpec)

end Rows
end Go.Proofs.Ytopfhlopicjemaa
