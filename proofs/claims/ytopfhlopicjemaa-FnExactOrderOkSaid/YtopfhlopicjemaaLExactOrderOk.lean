/- The walk of FnExactOrderOk: the program and the reference answer alike, and the arguments are left as they were. -/
import Derived.Test.YtopfhlopicjemaaK0
namespace Go.Proofs.Ytopfhlopicjemaa
open Go.RowKit

set_option maxHeartbeats 1000000 in
theorem FnExactOrderOk_any (A0 : Option Addr) (n0 : Nat) (c0 : Nat) (x0 : List Int) (a1 : Int) (w : World) (F0 : n0 ≤ 9223372036854775807 ∧ IntsAt w A0 n0 x0) :
    Calls Try.prog 3 #[.slice A0 n0 c0, .int .i64 a1] w fun e w' => e = .returned (.bool true) ∧ Below w.heap.size w w' := by
  obtain ⟨hm0, h0⟩ := F0
  have hB0 : Below w.heap.size w w := Below.refl w.heap.size w
  by_cases hn0 : n0 ≤ 1048576
  rotate_left
  · go_enter Try.func3, Try.ntmps3
    go_wp2
    go_ret
    exact ⟨rfl, hB0⟩
  go_enter Try.func3, Try.ntmps3
  go_wp2_with (fail)
  refine kNew (toIntS_any A0 n0 c0 x0 _ (h0.below hB0) hn0) ?_
  intro A0s c0s w1 hc0s h0s hb1 hf0s
  have hB1 : Below w.heap.size w w1 := hB0.trans (hb1.mono hB0.size)
  go_wp2_with (fail)
  refine kBV (Bl.of_quiet (sOrderOk_any A0s n0 c0s x0 a1 _ h0s hn0)) ?_
  intro w2 hb2
  have hB2 : Below w.heap.size w w2 := hB1.trans (hb2.mono hB1.size)
  replace h0s := h0s.below hb2
  go_wp2_with (fail)
  refine kNew (toIntS_any A0 n0 c0 x0 _ (h0.below hB2) hn0) ?_
  intro A0x c0x w3 hc0x h0x hb3 hf0x
  have hB3 : Below w.heap.size w w3 := hB2.trans (hb3.mono hB2.size)
  replace h0s := h0s.below hb3
  go_wp2_with (fail)
  refine kBV (Bl.of_quiet (iOrderOk_any A0x n0 c0x x0 a1 _ h0x hn0 hc0x)) ?_
  intro w4 hb4
  have hB4 : Below w.heap.size w w4 := hB3.trans (hb4.mono hB3.size)
  replace h0s := h0s.below hb4
  replace h0x := h0x.below hb4
  go_wp2_with (fail)
  refine kNew (toIntS_any A0 n0 c0 x0 _ (h0.below hB4) hn0) ?_
  intro A0v c0v w5 hc0v h0v hb5 hf0v
  have hB5 : Below w.heap.size w w5 := hB4.trans (hb5.mono hB4.size)
  replace h0s := h0s.below hb5
  replace h0x := h0x.below hb5
  go_wp2_with (fail)
  refine kQ (eqIntS_any A0x A0v n0 c0x n0 c0v x0 x0 _ h0x h0v (by omega)) ?_ ?_
  rotate_left
  · intro _ hne; exact absurd rfl hne.out
  intro m6 _
  have hb6 := below_drewN (Below.refl w5.heap.size w5) m6
  have hB6 : Below w.heap.size w (w5.drewN m6) := below_drewN hB5 m6
  replace h0s := h0s.drewN m6
  replace h0x := h0x.drewN m6
  replace h0v := h0v.drewN m6
  go_wp2
  go_ret
  exact ⟨rfl, hB6⟩

end Go.Proofs.Ytopfhlopicjemaa
