/- The laws' helper alive. -/
import Derived.Test.YtcmicmenkbgfmaaDoorP1
namespace Go.Proofs.YtcmicmenkbgfmaaDoor
open Go.RowKit

theorem bnds0 (w : World) : BndsAt w none 0 [] := ⟨rfl, fun h => absurd h (Nat.lt_irrefl 0)⟩
theorem plOk_one : PlOk 1 [] := ⟨⟨by decide, by decide⟩, by decide, fun b hb => by simp at hb⟩
theorem plOk_zero : ¬ PlOk 0 [] := fun h => by have := h.1.1; omega
theorem alive_any (w : World) : Calls Tryd.prog 11 #[] w (Bl w (.bool true)) := by
  go_enter Tryd.func11, Tryd.ntmps11
  go_wp2_with (fail)
  refine kB (iPlanOk_any 1 none 0 0 [] _ (bnds0 _)) ?_ (fun _ h _ => absurd plOk_one h.out)
  intro w1 _ hb1
  go_wp2_with (fail)
  refine kB (iPlanOk_any 0 none 0 0 [] _ (bnds0 _)) (fun _ h _ => absurd h.out plOk_zero) ?_
  intro w2 _ hb2
  go_wp2
  go_ret
  exact ⟨rfl, hb1.trans (hb2.mono hb1.size)⟩

end Go.Proofs.YtcmicmenkbgfmaaDoor
