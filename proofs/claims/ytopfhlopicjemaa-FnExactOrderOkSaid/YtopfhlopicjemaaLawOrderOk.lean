/- FnExactOrderOk: the program's OrderOk answers as the reference's does, and leaves its order as it was; for every order and number. No condition. -/
import Derived.Test.YtopfhlopicjemaaA2
namespace Go.Proofs.Ytopfhlopicjemaa
open Go.RowKit

theorem FnExactOrderOk_any (A : Option Addr) (n c : Nat) (xs : List Int) (many : Int) (w : World) (hI : IntsAt w A n xs) :
    Calls Try.prog 3 #[.slice A n c, .int .i64 many] w fun e w' => e = .returned (.bool true) ∧ Below w.heap.size w w' := by
  by_cases hn : n ≤ 1048576
  · skip
    go_enter Try.func3, Try.ntmps3
    go_wp2_with (fail)
    refine kNew (toIntS_any A n c xs w hI hn) ?_
    intro A1 c1 w1 hc1 hI1 hb1 hf1
    go_wp2_with (fail)
    refine kW (sOrderOk_any A1 n c1 xs many w1 hI1 hn) ?_
    intro m2
    go_wp2_with (fail)
    refine kNew (toIntS_any A n c xs (w1.drewN m2) ((hI.below hb1).drewN m2) hn) ?_
    intro A3 c3 w3 hc3 hI3 hb3 hf3
    go_wp2_with (fail)
    refine kW (iOrderOk_any A3 n c3 xs many w3 hI3 hn hc3) ?_
    intro m4
    have hb4 : Below w.heap.size w (w3.drewN m4) := below_drewN (hb1.trans (below_drewN (Below.refl _ _) m2) |>.trans (hb3.mono hb1.size)) m4
    have hsz : w.heap.size ≤ w3.heap.size := hb4.size
    go_wp2_with (fail)
    refine kNew (toIntS_any A n c xs (w3.drewN m4) (hI.below hb4) hn) ?_
    intro A5 c5 w5 hc5 hI5 hb5 hf5
    go_wp2_with (fail)
    have hI3' : IntsAt w5 A3 n xs := (hI3.drewN m4).below hb5
    refine kQ (eqIntS_any A3 A5 n c3 n c5 xs xs w5 hI3' hI5 (by omega)) ?_ ?_
    · intro m6 _
      go_wp2
      go_ret
      exact ⟨rfl, below_drewN (hb4.trans (hb5.mono hsz)) m6⟩
    · intro m6 hne
      exact absurd rfl hne.out
  · go_enter Try.func3, Try.ntmps3
    go_wp2
    go_ret
    exact ⟨rfl, Below.refl _ _⟩
end Go.Proofs.Ytopfhlopicjemaa
