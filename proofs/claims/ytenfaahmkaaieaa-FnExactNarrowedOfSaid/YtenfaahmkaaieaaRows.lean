/-
  No cell of these rows narrows 'for every input' (looked for: loops, veiled, ifaces, maps, wideKeys, modest, calm, conditions, laid).
  DERIVED. THE GIVEN ROWS OF THIS SEAT. 12 by the template 'for every input the law returns true; each argument reads behind the call as it read before'; 0 by the template 'total and deterministic' (their statements: YtenfaahmkaaieaaTotals.lean).
  GIVEN WITH THE SEED: the statements are not yours to turn. If you find one false, say at which input.
  Laid BY PROGRAM, IN A SANDBOX (cutbox-rows.mjs): the forced cells as the released guide's own fill.sh prints them over the translation f9783ef082e04771… (all of the seat's roots in one cut). By AI agents, Wed Nov 11 2026. No macro, syntax, notation, axiom, sorry.
-/
import Derived.Test.YtenfaahmkaaieaaChecked
import GoSem.Claim
import GoSem.ClaimJoined
import GoSem.ClaimMapViews
import Derived.JoinedTies
import Derived.KernelRfl
namespace Go.Proofs.Ytenfaahmkaaieaa
/- THE CELL 'sum', in the pinned program and in every row, IS THE sha256 OF THE DUMP (.gsa) THAT YtenfaahmkaaieaaProg.lean LOADS. Nothing in Lean hashes anything: it is a label: what it is worth is what the hold of that sum in a sandbox is worth. -/
noncomputable def Try.pinned : Pinned := { name := "ytenfaahmkaaieaa", sum := "f9783ef082e04771158d48f06ed6a1c564ced2058a958396ccdeba004e072563", checked := Try.checked }
namespace Rows
def none {H : Type} : Left H := { results := [], args := [] }

/-- 'laws.FnExactTermOk': WHATEVER THE INPUT: true; the input reads as it did. -/
def fnExactTermOkSpec : ChangeSpec := { name := "fnExactTermOk", fn := fun _ => fun
  | [d] => { results := [.lit (.bool true)], args := [d] }
  | _ => none }
def fnExactTermOkRow : OpenClaim := { program := "ytenfaahmkaaieaa", sum := "f9783ef082e04771158d48f06ed6a1c564ced2058a958396ccdeba004e072563", func := "loop.example/plansandpromises/laws.FnExactTermOk", spec := "fnExactTermOk", apart := false }
def FnExactTermOkSaid : Prop := fnExactTermOkRow.holds Try.pinned (OpenSpec.ofChange fnExactTermOkSpec)

/-- ITS FALSE NEIGHBOUR: 'it returns false'. Refute it at one input. -/
def fnExactTermOkWrong : ChangeSpec := { name := "fnExactTermOk", fn := fun _ => fun
  | [d] => { results := [.lit (.bool false)], args := [d] }
  | _ => none }
def FnExactTermOkWrongFalsely : Prop := fnExactTermOkRow.holds Try.pinned (OpenSpec.ofChange fnExactTermOkWrong)

/-- 'laws.FnExactStepsOf': WHATEVER THE INPUT: true; the input reads as it did. -/
def fnExactStepsOfSpec : ChangeSpec := { name := "fnExactStepsOf", fn := fun _ => fun
  | [d] => { results := [.lit (.bool true)], args := [d] }
  | _ => none }
def fnExactStepsOfRow : OpenClaim := { program := "ytenfaahmkaaieaa", sum := "f9783ef082e04771158d48f06ed6a1c564ced2058a958396ccdeba004e072563", func := "loop.example/plansandpromises/laws.FnExactStepsOf", spec := "fnExactStepsOf", apart := false }
def FnExactStepsOfSaid : Prop := fnExactStepsOfRow.holds Try.pinned (OpenSpec.ofChange fnExactStepsOfSpec)

/-- ITS FALSE NEIGHBOUR: 'it returns false'. Refute it at one input. -/
def fnExactStepsOfWrong : ChangeSpec := { name := "fnExactStepsOf", fn := fun _ => fun
  | [d] => { results := [.lit (.bool false)], args := [d] }
  | _ => none }
def FnExactStepsOfWrongFalsely : Prop := fnExactStepsOfRow.holds Try.pinned (OpenSpec.ofChange fnExactStepsOfWrong)

/-- 'laws.FnExactGivenTerm': WHATEVER THE INPUT: true; the input reads as it did. -/
def fnExactGivenTermSpec : ChangeSpec := { name := "fnExactGivenTerm", fn := fun _ => fun
  | [d1, d2, d3] => { results := [.lit (.bool true)], args := [d1, d2, d3] }
  | _ => none }
def fnExactGivenTermRow : OpenClaim := { program := "ytenfaahmkaaieaa", sum := "f9783ef082e04771158d48f06ed6a1c564ced2058a958396ccdeba004e072563", func := "loop.example/plansandpromises/laws.FnExactGivenTerm", spec := "fnExactGivenTerm", apart := false }
def FnExactGivenTermSaid : Prop := fnExactGivenTermRow.holds Try.pinned (OpenSpec.ofChange fnExactGivenTermSpec)

/-- ITS FALSE NEIGHBOUR: 'it returns false'. Refute it at one input. -/
def fnExactGivenTermWrong : ChangeSpec := { name := "fnExactGivenTerm", fn := fun _ => fun
  | [d1, d2, d3] => { results := [.lit (.bool false)], args := [d1, d2, d3] }
  | _ => none }
def FnExactGivenTermWrongFalsely : Prop := fnExactGivenTermRow.holds Try.pinned (OpenSpec.ofChange fnExactGivenTermWrong)

/-- 'laws.FnExactLengthsOf': WHATEVER THE INPUT: true; the input reads as it did. -/
def fnExactLengthsOfSpec : ChangeSpec := { name := "fnExactLengthsOf", fn := fun _ => fun
  | [d] => { results := [.lit (.bool true)], args := [d] }
  | _ => none }
def fnExactLengthsOfRow : OpenClaim := { program := "ytenfaahmkaaieaa", sum := "f9783ef082e04771158d48f06ed6a1c564ced2058a958396ccdeba004e072563", func := "loop.example/plansandpromises/laws.FnExactLengthsOf", spec := "fnExactLengthsOf", recurses := true, apart := false }
def FnExactLengthsOfSaid : Prop := fnExactLengthsOfRow.holds Try.pinned (OpenSpec.ofChange fnExactLengthsOfSpec)

/-- ITS FALSE NEIGHBOUR: 'it returns false'. Refute it at one input. -/
def fnExactLengthsOfWrong : ChangeSpec := { name := "fnExactLengthsOf", fn := fun _ => fun
  | [d] => { results := [.lit (.bool false)], args := [d] }
  | _ => none }
def FnExactLengthsOfWrongFalsely : Prop := fnExactLengthsOfRow.holds Try.pinned (OpenSpec.ofChange fnExactLengthsOfWrong)

/-- 'laws.FnExactAlikeTerms': WHATEVER THE INPUT: true; the input reads as it did. -/
def fnExactAlikeTermsSpec : ChangeSpec := { name := "fnExactAlikeTerms", fn := fun _ => fun
  | [d1, d2] => { results := [.lit (.bool true)], args := [d1, d2] }
  | _ => none }
def fnExactAlikeTermsRow : OpenClaim := { program := "ytenfaahmkaaieaa", sum := "f9783ef082e04771158d48f06ed6a1c564ced2058a958396ccdeba004e072563", func := "loop.example/plansandpromises/laws.FnExactAlikeTerms", spec := "fnExactAlikeTerms", recurses := true, apart := false }
def FnExactAlikeTermsSaid : Prop := fnExactAlikeTermsRow.holds Try.pinned (OpenSpec.ofChange fnExactAlikeTermsSpec)

/-- ITS FALSE NEIGHBOUR: 'it returns false'. Refute it at one input. -/
def fnExactAlikeTermsWrong : ChangeSpec := { name := "fnExactAlikeTerms", fn := fun _ => fun
  | [d1, d2] => { results := [.lit (.bool false)], args := [d1, d2] }
  | _ => none }
def FnExactAlikeTermsWrongFalsely : Prop := fnExactAlikeTermsRow.holds Try.pinned (OpenSpec.ofChange fnExactAlikeTermsWrong)

/-- 'laws.FnExactBackTerm': WHATEVER THE INPUT: true; the input reads as it did. -/
def fnExactBackTermSpec : ChangeSpec := { name := "fnExactBackTerm", fn := fun _ => fun
  | [d] => { results := [.lit (.bool true)], args := [d] }
  | _ => none }
def fnExactBackTermRow : OpenClaim := { program := "ytenfaahmkaaieaa", sum := "f9783ef082e04771158d48f06ed6a1c564ced2058a958396ccdeba004e072563", func := "loop.example/plansandpromises/laws.FnExactBackTerm", spec := "fnExactBackTerm", recurses := true, apart := false }
def FnExactBackTermSaid : Prop := fnExactBackTermRow.holds Try.pinned (OpenSpec.ofChange fnExactBackTermSpec)

/-- ITS FALSE NEIGHBOUR: 'it returns false'. Refute it at one input. -/
def fnExactBackTermWrong : ChangeSpec := { name := "fnExactBackTerm", fn := fun _ => fun
  | [d] => { results := [.lit (.bool false)], args := [d] }
  | _ => none }
def FnExactBackTermWrongFalsely : Prop := fnExactBackTermRow.holds Try.pinned (OpenSpec.ofChange fnExactBackTermWrong)

/-- 'laws.FnExactLeftTerm': WHATEVER THE INPUT: true; the input reads as it did. -/
def fnExactLeftTermSpec : ChangeSpec := { name := "fnExactLeftTerm", fn := fun _ => fun
  | [d] => { results := [.lit (.bool true)], args := [d] }
  | _ => none }
def fnExactLeftTermRow : OpenClaim := { program := "ytenfaahmkaaieaa", sum := "f9783ef082e04771158d48f06ed6a1c564ced2058a958396ccdeba004e072563", func := "loop.example/plansandpromises/laws.FnExactLeftTerm", spec := "fnExactLeftTerm", recurses := true, apart := false }
def FnExactLeftTermSaid : Prop := fnExactLeftTermRow.holds Try.pinned (OpenSpec.ofChange fnExactLeftTermSpec)

/-- ITS FALSE NEIGHBOUR: 'it returns false'. Refute it at one input. -/
def fnExactLeftTermWrong : ChangeSpec := { name := "fnExactLeftTerm", fn := fun _ => fun
  | [d] => { results := [.lit (.bool false)], args := [d] }
  | _ => none }
def FnExactLeftTermWrongFalsely : Prop := fnExactLeftTermRow.holds Try.pinned (OpenSpec.ofChange fnExactLeftTermWrong)

/-- 'laws.FnExactLastOf': WHATEVER THE INPUT: true; the input reads as it did. -/
def fnExactLastOfSpec : ChangeSpec := { name := "fnExactLastOf", fn := fun _ => fun
  | [d1, d2] => { results := [.lit (.bool true)], args := [d1, d2] }
  | _ => none }
def fnExactLastOfRow : OpenClaim := { program := "ytenfaahmkaaieaa", sum := "f9783ef082e04771158d48f06ed6a1c564ced2058a958396ccdeba004e072563", func := "loop.example/plansandpromises/laws.FnExactLastOf", spec := "fnExactLastOf", recurses := true, apart := false }
def FnExactLastOfSaid : Prop := fnExactLastOfRow.holds Try.pinned (OpenSpec.ofChange fnExactLastOfSpec)

/-- ITS FALSE NEIGHBOUR: 'it returns false'. Refute it at one input. -/
def fnExactLastOfWrong : ChangeSpec := { name := "fnExactLastOf", fn := fun _ => fun
  | [d1, d2] => { results := [.lit (.bool false)], args := [d1, d2] }
  | _ => none }
def FnExactLastOfWrongFalsely : Prop := fnExactLastOfRow.holds Try.pinned (OpenSpec.ofChange fnExactLastOfWrong)

/-- 'laws.FnExactTrimTerm': WHATEVER THE INPUT: true; the input reads as it did. -/
def fnExactTrimTermSpec : ChangeSpec := { name := "fnExactTrimTerm", fn := fun _ => fun
  | [d] => { results := [.lit (.bool true)], args := [d] }
  | _ => none }
def fnExactTrimTermRow : OpenClaim := { program := "ytenfaahmkaaieaa", sum := "f9783ef082e04771158d48f06ed6a1c564ced2058a958396ccdeba004e072563", func := "loop.example/plansandpromises/laws.FnExactTrimTerm", spec := "fnExactTrimTerm", recurses := true, apart := false }
def FnExactTrimTermSaid : Prop := fnExactTrimTermRow.holds Try.pinned (OpenSpec.ofChange fnExactTrimTermSpec)

/-- ITS FALSE NEIGHBOUR: 'it returns false'. Refute it at one input. -/
def fnExactTrimTermWrong : ChangeSpec := { name := "fnExactTrimTerm", fn := fun _ => fun
  | [d] => { results := [.lit (.bool false)], args := [d] }
  | _ => none }
def FnExactTrimTermWrongFalsely : Prop := fnExactTrimTermRow.holds Try.pinned (OpenSpec.ofChange fnExactTrimTermWrong)

/-- 'laws.FnExactLastsFor': WHATEVER THE INPUT: true; the input reads as it did. -/
def fnExactLastsForSpec : ChangeSpec := { name := "fnExactLastsFor", fn := fun _ => fun
  | [d1, d2] => { results := [.lit (.bool true)], args := [d1, d2] }
  | _ => none }
def fnExactLastsForRow : OpenClaim := { program := "ytenfaahmkaaieaa", sum := "f9783ef082e04771158d48f06ed6a1c564ced2058a958396ccdeba004e072563", func := "loop.example/plansandpromises/laws.FnExactLastsFor", spec := "fnExactLastsFor", recurses := true, apart := false }
def FnExactLastsForSaid : Prop := fnExactLastsForRow.holds Try.pinned (OpenSpec.ofChange fnExactLastsForSpec)

/-- ITS FALSE NEIGHBOUR: 'it returns false'. Refute it at one input. -/
def fnExactLastsForWrong : ChangeSpec := { name := "fnExactLastsFor", fn := fun _ => fun
  | [d1, d2] => { results := [.lit (.bool false)], args := [d1, d2] }
  | _ => none }
def FnExactLastsForWrongFalsely : Prop := fnExactLastsForRow.holds Try.pinned (OpenSpec.ofChange fnExactLastsForWrong)

/-- 'laws.FnExactNarrowedOf': WHATEVER THE INPUT: true; the input reads as it did. -/
def fnExactNarrowedOfSpec : ChangeSpec := { name := "fnExactNarrowedOf", fn := fun _ => fun
  | [d] => { results := [.lit (.bool true)], args := [d] }
  | _ => none }
def fnExactNarrowedOfRow : OpenClaim := { program := "ytenfaahmkaaieaa", sum := "f9783ef082e04771158d48f06ed6a1c564ced2058a958396ccdeba004e072563", func := "loop.example/plansandpromises/laws.FnExactNarrowedOf", spec := "fnExactNarrowedOf", recurses := true, apart := false }
def FnExactNarrowedOfSaid : Prop := fnExactNarrowedOfRow.holds Try.pinned (OpenSpec.ofChange fnExactNarrowedOfSpec)

/-- ITS FALSE NEIGHBOUR: 'it returns false'. Refute it at one input. -/
def fnExactNarrowedOfWrong : ChangeSpec := { name := "fnExactNarrowedOf", fn := fun _ => fun
  | [d] => { results := [.lit (.bool false)], args := [d] }
  | _ => none }
def FnExactNarrowedOfWrongFalsely : Prop := fnExactNarrowedOfRow.holds Try.pinned (OpenSpec.ofChange fnExactNarrowedOfWrong)

/-- 'laws.FnExactCountsOf': WHATEVER THE INPUT: true; the input reads as it did. -/
def fnExactCountsOfSpec : ChangeSpec := { name := "fnExactCountsOf", fn := fun _ => fun
  | [d] => { results := [.lit (.bool true)], args := [d] }
  | _ => none }
def fnExactCountsOfRow : OpenClaim := { program := "ytenfaahmkaaieaa", sum := "f9783ef082e04771158d48f06ed6a1c564ced2058a958396ccdeba004e072563", func := "loop.example/plansandpromises/laws.FnExactCountsOf", spec := "fnExactCountsOf", recurses := true, apart := false }
def FnExactCountsOfSaid : Prop := fnExactCountsOfRow.holds Try.pinned (OpenSpec.ofChange fnExactCountsOfSpec)

/-- ITS FALSE NEIGHBOUR: 'it returns false'. Refute it at one input. -/
def fnExactCountsOfWrong : ChangeSpec := { name := "fnExactCountsOf", fn := fun _ => fun
  | [d] => { results := [.lit (.bool false)], args := [d] }
  | _ => none }
def FnExactCountsOfWrongFalsely : Prop := fnExactCountsOfRow.holds Try.pinned (OpenSpec.ofChange fnExactCountsOfWrong)

/- THE SECOND FORM. 'bulk': how many values and letters a reading holds, each counted each time it is reached (what is shared counts as often as it is met; a slice's spare places count too). A statement '..UptoSaid' is the law's where the arguments, and the package variables that the reading takes, are together of bulk at most 1048576: NARROWER than '..Said'. Prove '..Said' where nothing that the law and all that it calls make is longer than what came in: it says more and counts as full. Else prove '..UptoSaid'. A law counts once. -/
mutual
def uptoBulk {H : Type} : DataW H → Nat
  | .lit (.string bytes) => bytes.length + 1
  | .lit _ => 1
  | .nil => 1
  | .ptr d => uptoBulk d + 1
  | .slice elems spare => uptoBulkAll elems + uptoBulkAll spare + 1
  | .agg parts => uptoBulkAll parts + 1
  | .iface _ d => uptoBulk d + 1
  | .map entries => uptoBulkEntries entries + 1
  | .held _ => 1
def uptoBulkAll {H : Type} : List (DataW H) → Nat
  | [] => 0
  | d :: r => uptoBulk d + uptoBulkAll r
def uptoBulkEntries {H : Type} : List (Lit × DataW H) → Nat
  | [] => 0
  | x :: r => uptoBulkEntry x + uptoBulkEntries r
def uptoBulkEntry {H : Type} : Lit × DataW H → Nat
  | (.string bytes, d) => bytes.length + uptoBulk d + 1
  | (_, d) => uptoBulk d + 1
 end
def uptoSmall : (H : Type) → List (DataW H) → Bool := fun _ ds => decide (uptoBulkAll ds ≤ 1048576)
def OpenSpec.upto (s : _root_.Go.ChangeSpec) : _root_.Go.OpenSpec := { _root_.Go.OpenSpec.ofChange s with cond := some uptoSmall }

/-- 'laws.FnExactTermOk', WHERE WHAT IT READS IS OF BULK AT MOST 1048576: true; the input reads as it did. -/
def fnExactTermOkUptoRow : OpenClaim := { program := "ytenfaahmkaaieaa", sum := "f9783ef082e04771158d48f06ed6a1c564ced2058a958396ccdeba004e072563", func := "loop.example/plansandpromises/laws.FnExactTermOk", spec := "fnExactTermOk", apart := false, narrowed := true }
def FnExactTermOkUptoSaid : Prop := fnExactTermOkUptoRow.holds Try.pinned (OpenSpec.upto fnExactTermOkSpec)

/-- 'laws.FnExactStepsOf', WHERE WHAT IT READS IS OF BULK AT MOST 1048576: true; the input reads as it did. -/
def fnExactStepsOfUptoRow : OpenClaim := { program := "ytenfaahmkaaieaa", sum := "f9783ef082e04771158d48f06ed6a1c564ced2058a958396ccdeba004e072563", func := "loop.example/plansandpromises/laws.FnExactStepsOf", spec := "fnExactStepsOf", apart := false, narrowed := true }
def FnExactStepsOfUptoSaid : Prop := fnExactStepsOfUptoRow.holds Try.pinned (OpenSpec.upto fnExactStepsOfSpec)

/-- 'laws.FnExactGivenTerm', WHERE WHAT IT READS IS OF BULK AT MOST 1048576: true; the input reads as it did. -/
def fnExactGivenTermUptoRow : OpenClaim := { program := "ytenfaahmkaaieaa", sum := "f9783ef082e04771158d48f06ed6a1c564ced2058a958396ccdeba004e072563", func := "loop.example/plansandpromises/laws.FnExactGivenTerm", spec := "fnExactGivenTerm", apart := false, narrowed := true }
def FnExactGivenTermUptoSaid : Prop := fnExactGivenTermUptoRow.holds Try.pinned (OpenSpec.upto fnExactGivenTermSpec)

/-- 'laws.FnExactLengthsOf', WHERE WHAT IT READS IS OF BULK AT MOST 1048576: true; the input reads as it did. -/
def fnExactLengthsOfUptoRow : OpenClaim := { program := "ytenfaahmkaaieaa", sum := "f9783ef082e04771158d48f06ed6a1c564ced2058a958396ccdeba004e072563", func := "loop.example/plansandpromises/laws.FnExactLengthsOf", spec := "fnExactLengthsOf", recurses := true, apart := false, narrowed := true }
def FnExactLengthsOfUptoSaid : Prop := fnExactLengthsOfUptoRow.holds Try.pinned (OpenSpec.upto fnExactLengthsOfSpec)

/-- 'laws.FnExactAlikeTerms', WHERE WHAT IT READS IS OF BULK AT MOST 1048576: true; the input reads as it did. -/
def fnExactAlikeTermsUptoRow : OpenClaim := { program := "ytenfaahmkaaieaa", sum := "f9783ef082e04771158d48f06ed6a1c564ced2058a958396ccdeba004e072563", func := "loop.example/plansandpromises/laws.FnExactAlikeTerms", spec := "fnExactAlikeTerms", recurses := true, apart := false, narrowed := true }
def FnExactAlikeTermsUptoSaid : Prop := fnExactAlikeTermsUptoRow.holds Try.pinned (OpenSpec.upto fnExactAlikeTermsSpec)

/-- 'laws.FnExactBackTerm', WHERE WHAT IT READS IS OF BULK AT MOST 1048576: true; the input reads as it did. -/
def fnExactBackTermUptoRow : OpenClaim := { program := "ytenfaahmkaaieaa", sum := "f9783ef082e04771158d48f06ed6a1c564ced2058a958396ccdeba004e072563", func := "loop.example/plansandpromises/laws.FnExactBackTerm", spec := "fnExactBackTerm", recurses := true, apart := false, narrowed := true }
def FnExactBackTermUptoSaid : Prop := fnExactBackTermUptoRow.holds Try.pinned (OpenSpec.upto fnExactBackTermSpec)

/-- 'laws.FnExactLeftTerm', WHERE WHAT IT READS IS OF BULK AT MOST 1048576: true; the input reads as it did. -/
def fnExactLeftTermUptoRow : OpenClaim := { program := "ytenfaahmkaaieaa", sum := "f9783ef082e04771158d48f06ed6a1c564ced2058a958396ccdeba004e072563", func := "loop.example/plansandpromises/laws.FnExactLeftTerm", spec := "fnExactLeftTerm", recurses := true, apart := false, narrowed := true }
def FnExactLeftTermUptoSaid : Prop := fnExactLeftTermUptoRow.holds Try.pinned (OpenSpec.upto fnExactLeftTermSpec)

/-- 'laws.FnExactLastOf', WHERE WHAT IT READS IS OF BULK AT MOST 1048576: true; the input reads as it did. -/
def fnExactLastOfUptoRow : OpenClaim := { program := "ytenfaahmkaaieaa", sum := "f9783ef082e04771158d48f06ed6a1c564ced2058a958396ccdeba004e072563", func := "loop.example/plansandpromises/laws.FnExactLastOf", spec := "fnExactLastOf", recurses := true, apart := false, narrowed := true }
def FnExactLastOfUptoSaid : Prop := fnExactLastOfUptoRow.holds Try.pinned (OpenSpec.upto fnExactLastOfSpec)

/-- 'laws.FnExactTrimTerm', WHERE WHAT IT READS IS OF BULK AT MOST 1048576: true; the input reads as it did. -/
def fnExactTrimTermUptoRow : OpenClaim := { program := "ytenfaahmkaaieaa", sum := "f9783ef082e04771158d48f06ed6a1c564ced2058a958396ccdeba004e072563", func := "loop.example/plansandpromises/laws.FnExactTrimTerm", spec := "fnExactTrimTerm", recurses := true, apart := false, narrowed := true }
def FnExactTrimTermUptoSaid : Prop := fnExactTrimTermUptoRow.holds Try.pinned (OpenSpec.upto fnExactTrimTermSpec)

/-- 'laws.FnExactLastsFor', WHERE WHAT IT READS IS OF BULK AT MOST 1048576: true; the input reads as it did. -/
def fnExactLastsForUptoRow : OpenClaim := { program := "ytenfaahmkaaieaa", sum := "f9783ef082e04771158d48f06ed6a1c564ced2058a958396ccdeba004e072563", func := "loop.example/plansandpromises/laws.FnExactLastsFor", spec := "fnExactLastsFor", recurses := true, apart := false, narrowed := true }
def FnExactLastsForUptoSaid : Prop := fnExactLastsForUptoRow.holds Try.pinned (OpenSpec.upto fnExactLastsForSpec)

/-- 'laws.FnExactNarrowedOf', WHERE WHAT IT READS IS OF BULK AT MOST 1048576: true; the input reads as it did. -/
def fnExactNarrowedOfUptoRow : OpenClaim := { program := "ytenfaahmkaaieaa", sum := "f9783ef082e04771158d48f06ed6a1c564ced2058a958396ccdeba004e072563", func := "loop.example/plansandpromises/laws.FnExactNarrowedOf", spec := "fnExactNarrowedOf", recurses := true, apart := false, narrowed := true }
def FnExactNarrowedOfUptoSaid : Prop := fnExactNarrowedOfUptoRow.holds Try.pinned (OpenSpec.upto fnExactNarrowedOfSpec)

/-- 'laws.FnExactCountsOf', WHERE WHAT IT READS IS OF BULK AT MOST 1048576: true; the input reads as it did. -/
def fnExactCountsOfUptoRow : OpenClaim := { program := "ytenfaahmkaaieaa", sum := "f9783ef082e04771158d48f06ed6a1c564ced2058a958396ccdeba004e072563", func := "loop.example/plansandpromises/laws.FnExactCountsOf", spec := "fnExactCountsOf", recurses := true, apart := false, narrowed := true }
def FnExactCountsOfUptoSaid : Prop := fnExactCountsOfUptoRow.holds Try.pinned (OpenSpec.upto fnExactCountsOfSpec)

end Rows
end Go.Proofs.Ytenfaahmkaaieaa
