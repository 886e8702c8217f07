/-
  No cell of these rows narrows 'for every input' (looked for: loops, veiled, ifaces, maps, wideKeys, modest, calm, conditions, laid).
  DERIVED. THE GIVEN ROWS OF THIS SEAT. 10 by the template 'for every input the law returns true; each argument reads behind the call as it read before'; 0 by the template 'total and deterministic' (their statements: YtookhelfbnhadaaTotals.lean).
  GIVEN WITH THE SEED: the statements are not yours to turn. If you find one false, say at which input.
  Laid BY PROGRAM, IN A SANDBOX (cutbox-rows.mjs): the forced cells as the released guide's own fill.sh prints them over the translation dc97d94923305ddc… (all of the seat's roots in one cut). By AI agents, Wed Nov 11 2026. No macro, syntax, notation, axiom, sorry.
-/
import Derived.Test.YtookhelfbnhadaaChecked
import GoSem.Claim
import GoSem.ClaimJoined
import GoSem.ClaimMapViews
import Derived.JoinedTies
import Derived.KernelRfl
namespace Go.Proofs.Ytookhelfbnhadaa
/- THE CELL 'sum', in the pinned program and in every row, IS THE sha256 OF THE DUMP (.gsa) THAT YtookhelfbnhadaaProg.lean LOADS. Nothing in Lean hashes anything: it is a label: what it is worth is what the hold of that sum in a sandbox is worth. -/
noncomputable def Try.pinned : Pinned := { name := "ytookhelfbnhadaa", sum := "dc97d94923305ddc9a38d090ba8bee80998e714e3ab70a4049f45a8e605ac5f5", checked := Try.checked }
namespace Rows
def none {H : Type} : Left H := { results := [], args := [] }

/-- 'laws.FnTermOk': WHATEVER THE INPUT: true; the input reads as it did. -/
def fnTermOkSpec : ChangeSpec := { name := "fnTermOk", fn := fun _ => fun
  | [d] => { results := [.lit (.bool true)], args := [d] }
  | _ => none }
def fnTermOkRow : OpenClaim := { program := "ytookhelfbnhadaa", sum := "dc97d94923305ddc9a38d090ba8bee80998e714e3ab70a4049f45a8e605ac5f5", func := "loop.example/plansandpromises/laws.FnTermOk", spec := "fnTermOk", unfollowed := true, recurses := true, apart := false }
def FnTermOkSaid : Prop := fnTermOkRow.holds Try.pinned (OpenSpec.ofChange fnTermOkSpec)

/-- ITS FALSE NEIGHBOUR: 'it returns false'. Refute it at one input. -/
def fnTermOkWrong : ChangeSpec := { name := "fnTermOk", fn := fun _ => fun
  | [d] => { results := [.lit (.bool false)], args := [d] }
  | _ => none }
def FnTermOkWrongFalsely : Prop := fnTermOkRow.holds Try.pinned (OpenSpec.ofChange fnTermOkWrong)

/-- 'laws.FnStepsOf': WHATEVER THE INPUT: true; the input reads as it did. -/
def fnStepsOfSpec : ChangeSpec := { name := "fnStepsOf", fn := fun _ => fun
  | [d] => { results := [.lit (.bool true)], args := [d] }
  | _ => none }
def fnStepsOfRow : OpenClaim := { program := "ytookhelfbnhadaa", sum := "dc97d94923305ddc9a38d090ba8bee80998e714e3ab70a4049f45a8e605ac5f5", func := "loop.example/plansandpromises/laws.FnStepsOf", spec := "fnStepsOf", unfollowed := true, recurses := true, apart := false }
def FnStepsOfSaid : Prop := fnStepsOfRow.holds Try.pinned (OpenSpec.ofChange fnStepsOfSpec)

/-- ITS FALSE NEIGHBOUR: 'it returns false'. Refute it at one input. -/
def fnStepsOfWrong : ChangeSpec := { name := "fnStepsOf", fn := fun _ => fun
  | [d] => { results := [.lit (.bool false)], args := [d] }
  | _ => none }
def FnStepsOfWrongFalsely : Prop := fnStepsOfRow.holds Try.pinned (OpenSpec.ofChange fnStepsOfWrong)

/-- 'laws.FnBackTerm': WHATEVER THE INPUT: true; the input reads as it did. -/
def fnBackTermSpec : ChangeSpec := { name := "fnBackTerm", fn := fun _ => fun
  | [d] => { results := [.lit (.bool true)], args := [d] }
  | _ => none }
def fnBackTermRow : OpenClaim := { program := "ytookhelfbnhadaa", sum := "dc97d94923305ddc9a38d090ba8bee80998e714e3ab70a4049f45a8e605ac5f5", func := "loop.example/plansandpromises/laws.FnBackTerm", spec := "fnBackTerm", unfollowed := true, recurses := true, apart := false }
def FnBackTermSaid : Prop := fnBackTermRow.holds Try.pinned (OpenSpec.ofChange fnBackTermSpec)

/-- ITS FALSE NEIGHBOUR: 'it returns false'. Refute it at one input. -/
def fnBackTermWrong : ChangeSpec := { name := "fnBackTerm", fn := fun _ => fun
  | [d] => { results := [.lit (.bool false)], args := [d] }
  | _ => none }
def FnBackTermWrongFalsely : Prop := fnBackTermRow.holds Try.pinned (OpenSpec.ofChange fnBackTermWrong)

/-- 'laws.FnGivenTerm': WHATEVER THE INPUT: true; the input reads as it did. -/
def fnGivenTermSpec : ChangeSpec := { name := "fnGivenTerm", fn := fun _ => fun
  | [d] => { results := [.lit (.bool true)], args := [d] }
  | _ => none }
def fnGivenTermRow : OpenClaim := { program := "ytookhelfbnhadaa", sum := "dc97d94923305ddc9a38d090ba8bee80998e714e3ab70a4049f45a8e605ac5f5", func := "loop.example/plansandpromises/laws.FnGivenTerm", spec := "fnGivenTerm", unfollowed := true, recurses := true, apart := false }
def FnGivenTermSaid : Prop := fnGivenTermRow.holds Try.pinned (OpenSpec.ofChange fnGivenTermSpec)

/-- ITS FALSE NEIGHBOUR: 'it returns false'. Refute it at one input. -/
def fnGivenTermWrong : ChangeSpec := { name := "fnGivenTerm", fn := fun _ => fun
  | [d] => { results := [.lit (.bool false)], args := [d] }
  | _ => none }
def FnGivenTermWrongFalsely : Prop := fnGivenTermRow.holds Try.pinned (OpenSpec.ofChange fnGivenTermWrong)

/-- 'laws.FnLeftTerm': WHATEVER THE INPUT: true; the input reads as it did. -/
def fnLeftTermSpec : ChangeSpec := { name := "fnLeftTerm", fn := fun _ => fun
  | [d] => { results := [.lit (.bool true)], args := [d] }
  | _ => none }
def fnLeftTermRow : OpenClaim := { program := "ytookhelfbnhadaa", sum := "dc97d94923305ddc9a38d090ba8bee80998e714e3ab70a4049f45a8e605ac5f5", func := "loop.example/plansandpromises/laws.FnLeftTerm", spec := "fnLeftTerm", unfollowed := true, recurses := true, apart := false }
def FnLeftTermSaid : Prop := fnLeftTermRow.holds Try.pinned (OpenSpec.ofChange fnLeftTermSpec)

/-- ITS FALSE NEIGHBOUR: 'it returns false'. Refute it at one input. -/
def fnLeftTermWrong : ChangeSpec := { name := "fnLeftTerm", fn := fun _ => fun
  | [d] => { results := [.lit (.bool false)], args := [d] }
  | _ => none }
def FnLeftTermWrongFalsely : Prop := fnLeftTermRow.holds Try.pinned (OpenSpec.ofChange fnLeftTermWrong)

/-- 'laws.FnLastsFor': WHATEVER THE INPUT: true; the input reads as it did. -/
def fnLastsForSpec : ChangeSpec := { name := "fnLastsFor", fn := fun _ => fun
  | [d] => { results := [.lit (.bool true)], args := [d] }
  | _ => none }
def fnLastsForRow : OpenClaim := { program := "ytookhelfbnhadaa", sum := "dc97d94923305ddc9a38d090ba8bee80998e714e3ab70a4049f45a8e605ac5f5", func := "loop.example/plansandpromises/laws.FnLastsFor", spec := "fnLastsFor", unfollowed := true, recurses := true, apart := false }
def FnLastsForSaid : Prop := fnLastsForRow.holds Try.pinned (OpenSpec.ofChange fnLastsForSpec)

/-- ITS FALSE NEIGHBOUR: 'it returns false'. Refute it at one input. -/
def fnLastsForWrong : ChangeSpec := { name := "fnLastsFor", fn := fun _ => fun
  | [d] => { results := [.lit (.bool false)], args := [d] }
  | _ => none }
def FnLastsForWrongFalsely : Prop := fnLastsForRow.holds Try.pinned (OpenSpec.ofChange fnLastsForWrong)

/-- 'laws.FnAlikeTerms': WHATEVER THE INPUT: true; the input reads as it did. -/
def fnAlikeTermsSpec : ChangeSpec := { name := "fnAlikeTerms", fn := fun _ => fun
  | [d] => { results := [.lit (.bool true)], args := [d] }
  | _ => none }
def fnAlikeTermsRow : OpenClaim := { program := "ytookhelfbnhadaa", sum := "dc97d94923305ddc9a38d090ba8bee80998e714e3ab70a4049f45a8e605ac5f5", func := "loop.example/plansandpromises/laws.FnAlikeTerms", spec := "fnAlikeTerms", unfollowed := true, recurses := true, apart := false }
def FnAlikeTermsSaid : Prop := fnAlikeTermsRow.holds Try.pinned (OpenSpec.ofChange fnAlikeTermsSpec)

/-- ITS FALSE NEIGHBOUR: 'it returns false'. Refute it at one input. -/
def fnAlikeTermsWrong : ChangeSpec := { name := "fnAlikeTerms", fn := fun _ => fun
  | [d] => { results := [.lit (.bool false)], args := [d] }
  | _ => none }
def FnAlikeTermsWrongFalsely : Prop := fnAlikeTermsRow.holds Try.pinned (OpenSpec.ofChange fnAlikeTermsWrong)

/-- 'laws.FnTrimTerm': WHATEVER THE INPUT: true; the input reads as it did. -/
def fnTrimTermSpec : ChangeSpec := { name := "fnTrimTerm", fn := fun _ => fun
  | [d] => { results := [.lit (.bool true)], args := [d] }
  | _ => none }
def fnTrimTermRow : OpenClaim := { program := "ytookhelfbnhadaa", sum := "dc97d94923305ddc9a38d090ba8bee80998e714e3ab70a4049f45a8e605ac5f5", func := "loop.example/plansandpromises/laws.FnTrimTerm", spec := "fnTrimTerm", unfollowed := true, recurses := true, apart := false }
def FnTrimTermSaid : Prop := fnTrimTermRow.holds Try.pinned (OpenSpec.ofChange fnTrimTermSpec)

/-- ITS FALSE NEIGHBOUR: 'it returns false'. Refute it at one input. -/
def fnTrimTermWrong : ChangeSpec := { name := "fnTrimTerm", fn := fun _ => fun
  | [d] => { results := [.lit (.bool false)], args := [d] }
  | _ => none }
def FnTrimTermWrongFalsely : Prop := fnTrimTermRow.holds Try.pinned (OpenSpec.ofChange fnTrimTermWrong)

/-- 'laws.FnNarrowedOf': WHATEVER THE INPUT: true; the input reads as it did. -/
def fnNarrowedOfSpec : ChangeSpec := { name := "fnNarrowedOf", fn := fun _ => fun
  | [d] => { results := [.lit (.bool true)], args := [d] }
  | _ => none }
def fnNarrowedOfRow : OpenClaim := { program := "ytookhelfbnhadaa", sum := "dc97d94923305ddc9a38d090ba8bee80998e714e3ab70a4049f45a8e605ac5f5", func := "loop.example/plansandpromises/laws.FnNarrowedOf", spec := "fnNarrowedOf", unfollowed := true, recurses := true, apart := false }
def FnNarrowedOfSaid : Prop := fnNarrowedOfRow.holds Try.pinned (OpenSpec.ofChange fnNarrowedOfSpec)

/-- ITS FALSE NEIGHBOUR: 'it returns false'. Refute it at one input. -/
def fnNarrowedOfWrong : ChangeSpec := { name := "fnNarrowedOf", fn := fun _ => fun
  | [d] => { results := [.lit (.bool false)], args := [d] }
  | _ => none }
def FnNarrowedOfWrongFalsely : Prop := fnNarrowedOfRow.holds Try.pinned (OpenSpec.ofChange fnNarrowedOfWrong)

/-- 'laws.FnCountsOf': WHATEVER THE INPUT: true; the input reads as it did. -/
def fnCountsOfSpec : ChangeSpec := { name := "fnCountsOf", fn := fun _ => fun
  | [d] => { results := [.lit (.bool true)], args := [d] }
  | _ => none }
def fnCountsOfRow : OpenClaim := { program := "ytookhelfbnhadaa", sum := "dc97d94923305ddc9a38d090ba8bee80998e714e3ab70a4049f45a8e605ac5f5", func := "loop.example/plansandpromises/laws.FnCountsOf", spec := "fnCountsOf", unfollowed := true, recurses := true, apart := false }
def FnCountsOfSaid : Prop := fnCountsOfRow.holds Try.pinned (OpenSpec.ofChange fnCountsOfSpec)

/-- ITS FALSE NEIGHBOUR: 'it returns false'. Refute it at one input. -/
def fnCountsOfWrong : ChangeSpec := { name := "fnCountsOf", fn := fun _ => fun
  | [d] => { results := [.lit (.bool false)], args := [d] }
  | _ => none }
def FnCountsOfWrongFalsely : Prop := fnCountsOfRow.holds Try.pinned (OpenSpec.ofChange fnCountsOfWrong)

/- THE SECOND FORM. 'bulk': how many values and letters a reading holds, each counted each time it is reached (what is shared counts as often as it is met; a slice's spare places count too). A statement '..UptoSaid' is the law's where the arguments, and the package variables that the reading takes, are together of bulk at most 1048576: NARROWER than '..Said'. Prove '..Said' where nothing that the law and all that it calls make is longer than what came in: it says more and counts as full. Else prove '..UptoSaid'. A law counts once. -/
mutual
def uptoBulk {H : Type} : DataW H → Nat
  | .lit (.string bytes) => bytes.length + 1
  | .lit _ => 1
  | .nil => 1
  | .ptr d => uptoBulk d + 1
  | .slice elems spare => uptoBulkAll elems + uptoBulkAll spare + 1
  | .agg parts => uptoBulkAll parts + 1
  | .iface _ d => uptoBulk d + 1
  | .map entries => uptoBulkEntries entries + 1
  | .held _ => 1
def uptoBulkAll {H : Type} : List (DataW H) → Nat
  | [] => 0
  | d :: r => uptoBulk d + uptoBulkAll r
def uptoBulkEntries {H : Type} : List (Lit × DataW H) → Nat
  | [] => 0
  | x :: r => uptoBulkEntry x + uptoBulkEntries r
def uptoBulkEntry {H : Type} : Lit × DataW H → Nat
  | (.string bytes, d) => bytes.length + uptoBulk d + 1
  | (_, d) => uptoBulk d + 1
 end
def uptoSmall : (H : Type) → List (DataW H) → Bool := fun _ ds => decide (uptoBulkAll ds ≤ 1048576)
def OpenSpec.upto (s : _root_.Go.ChangeSpec) : _root_.Go.OpenSpec := { _root_.Go.OpenSpec.ofChange s with cond := some uptoSmall }

/-- 'laws.FnTermOk', WHERE WHAT IT READS IS OF BULK AT MOST 1048576: true; the input reads as it did. -/
def fnTermOkUptoRow : OpenClaim := { program := "ytookhelfbnhadaa", sum := "dc97d94923305ddc9a38d090ba8bee80998e714e3ab70a4049f45a8e605ac5f5", func := "loop.example/plansandpromises/laws.FnTermOk", spec := "fnTermOk", unfollowed := true, recurses := true, apart := false, narrowed := true }
def FnTermOkUptoSaid : Prop := fnTermOkUptoRow.holds Try.pinned (OpenSpec.upto fnTermOkSpec)

/-- 'laws.FnStepsOf', WHERE WHAT IT READS IS OF BULK AT MOST 1048576: true; the input reads as it did. -/
def fnStepsOfUptoRow : OpenClaim := { program := "ytookhelfbnhadaa", sum := "dc97d94923305ddc9a38d090ba8bee80998e714e3ab70a4049f45a8e605ac5f5", func := "loop.example/plansandpromises/laws.FnStepsOf", spec := "fnStepsOf", unfollowed := true, recurses := true, apart := false, narrowed := true }
def FnStepsOfUptoSaid : Prop := fnStepsOfUptoRow.holds Try.pinned (OpenSpec.upto fnStepsOfSpec)

/-- 'laws.FnBackTerm', WHERE WHAT IT READS IS OF BULK AT MOST 1048576: true; the input reads as it did. -/
def fnBackTermUptoRow : OpenClaim := { program := "ytookhelfbnhadaa", sum := "dc97d94923305ddc9a38d090ba8bee80998e714e3ab70a4049f45a8e605ac5f5", func := "loop.example/plansandpromises/laws.FnBackTerm", spec := "fnBackTerm", unfollowed := true, recurses := true, apart := false, narrowed := true }
def FnBackTermUptoSaid : Prop := fnBackTermUptoRow.holds Try.pinned (OpenSpec.upto fnBackTermSpec)

/-- 'laws.FnGivenTerm', WHERE WHAT IT READS IS OF BULK AT MOST 1048576: true; the input reads as it did. -/
def fnGivenTermUptoRow : OpenClaim := { program := "ytookhelfbnhadaa", sum := "dc97d94923305ddc9a38d090ba8bee80998e714e3ab70a4049f45a8e605ac5f5", func := "loop.example/plansandpromises/laws.FnGivenTerm", spec := "fnGivenTerm", unfollowed := true, recurses := true, apart := false, narrowed := true }
def FnGivenTermUptoSaid : Prop := fnGivenTermUptoRow.holds Try.pinned (OpenSpec.upto fnGivenTermSpec)

/-- 'laws.FnLeftTerm', WHERE WHAT IT READS IS OF BULK AT MOST 1048576: true; the input reads as it did. -/
def fnLeftTermUptoRow : OpenClaim := { program := "ytookhelfbnhadaa", sum := "dc97d94923305ddc9a38d090ba8bee80998e714e3ab70a4049f45a8e605ac5f5", func := "loop.example/plansandpromises/laws.FnLeftTerm", spec := "fnLeftTerm", unfollowed := true, recurses := true, apart := false, narrowed := true }
def FnLeftTermUptoSaid : Prop := fnLeftTermUptoRow.holds Try.pinned (OpenSpec.upto fnLeftTermSpec)

/-- 'laws.FnLastsFor', WHERE WHAT IT READS IS OF BULK AT MOST 1048576: true; the input reads as it did. -/
def fnLastsForUptoRow : OpenClaim := { program := "ytookhelfbnhadaa", sum := "dc97d94923305ddc9a38d090ba8bee80998e714e3ab70a4049f45a8e605ac5f5", func := "loop.example/plansandpromises/laws.FnLastsFor", spec := "fnLastsFor", unfollowed := true, recurses := true, apart := false, narrowed := true }
def FnLastsForUptoSaid : Prop := fnLastsForUptoRow.holds Try.pinned (OpenSpec.upto fnLastsForSpec)

/-- 'laws.FnAlikeTerms', WHERE WHAT IT READS IS OF BULK AT MOST 1048576: true; the input reads as it did. -/
def fnAlikeTermsUptoRow : OpenClaim := { program := "ytookhelfbnhadaa", sum := "dc97d94923305ddc9a38d090ba8bee80998e714e3ab70a4049f45a8e605ac5f5", func := "loop.example/plansandpromises/laws.FnAlikeTerms", spec := "fnAlikeTerms", unfollowed := true, recurses := true, apart := false, narrowed := true }
def FnAlikeTermsUptoSaid : Prop := fnAlikeTermsUptoRow.holds Try.pinned (OpenSpec.upto fnAlikeTermsSpec)

/-- 'laws.FnTrimTerm', WHERE WHAT IT READS IS OF BULK AT MOST 1048576: true; the input reads as it did. -/
def fnTrimTermUptoRow : OpenClaim := { program := "ytookhelfbnhadaa", sum := "dc97d94923305ddc9a38d090ba8bee80998e714e3ab70a4049f45a8e605ac5f5", func := "loop.example/plansandpromises/laws.FnTrimTerm", spec := "fnTrimTerm", unfollowed := true, recurses := true, apart := false, narrowed := true }
def FnTrimTermUptoSaid : Prop := fnTrimTermUptoRow.holds Try.pinned (OpenSpec.upto fnTrimTermSpec)

/-- 'laws.FnNarrowedOf', WHERE WHAT IT READS IS OF BULK AT MOST 1048576: true; the input reads as it did. -/
def fnNarrowedOfUptoRow : OpenClaim := { program := "ytookhelfbnhadaa", sum := "dc97d94923305ddc9a38d090ba8bee80998e714e3ab70a4049f45a8e605ac5f5", func := "loop.example/plansandpromises/laws.FnNarrowedOf", spec := "fnNarrowedOf", unfollowed := true, recurses := true, apart := false, narrowed := true }
def FnNarrowedOfUptoSaid : Prop := fnNarrowedOfUptoRow.holds Try.pinned (OpenSpec.upto fnNarrowedOfSpec)

/-- 'laws.FnCountsOf', WHERE WHAT IT READS IS OF BULK AT MOST 1048576: true; the input reads as it did. -/
def fnCountsOfUptoRow : OpenClaim := { program := "ytookhelfbnhadaa", sum := "dc97d94923305ddc9a38d090ba8bee80998e714e3ab70a4049f45a8e605ac5f5", func := "loop.example/plansandpromises/laws.FnCountsOf", spec := "fnCountsOf", unfollowed := true, recurses := true, apart := false, narrowed := true }
def FnCountsOfUptoSaid : Prop := fnCountsOfUptoRow.holds Try.pinned (OpenSpec.upto fnCountsOfSpec)

end Rows
end Go.Proofs.Ytookhelfbnhadaa
