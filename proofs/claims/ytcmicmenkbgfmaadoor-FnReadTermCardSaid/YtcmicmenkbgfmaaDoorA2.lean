/- Copies of integer rows (laws.toIntS), and the two OrderOk functions. -/
import Derived.Test.YtcmicmenkbgfmaaDoorA1
import Derived.Deep.OwnRows
namespace Go.Proofs.YtcmicmenkbgfmaaDoor
open Go.RowKit

theorem int_info : (Tryd.prog.info? 3).map (fun i => (i.zero, i.size, i.bytes)) = some (some (.int .i64 0), 1, 8) := by kernel_rfl

theorem drewN_self (w : World) : ∃ m, w = w.drewN m := ⟨0, rfl⟩


/-- The order's property: each number in 0..many-1 (as the machine computes that), none twice, as many as many, many in 0..6. -/
def OrdUp (xs : List Int) (q : Int) (k : Nat) : Prop := ∀ i, i < k → InR (xs.getD i 0) 0 q ∧ ∀ j, j < i → xs.getD j 0 ≠ xs.getD i 0
def OrdOk (xs : List Int) (many : Int) : Prop := OrdUp xs (wrap64 (many - 1)) xs.length ∧ InR many 0 6 ∧ (xs.length : Int) = many



end Go.Proofs.YtcmicmenkbgfmaaDoor
