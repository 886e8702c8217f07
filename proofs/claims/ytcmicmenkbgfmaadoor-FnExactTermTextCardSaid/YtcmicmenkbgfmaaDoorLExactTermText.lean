/- The walk of FnExactTermText: the program and the reference answer alike, and the arguments are left as they were. -/
import Derived.Test.YtcmicmenkbgfmaaDoorRT5
namespace Go.Proofs.YtcmicmenkbgfmaaDoor
open Go.RowKit

theorem text_eq {S T : ByteArray} (h : S.data.toList = T.data.toList) : S = T := ByteArray.ext (Array.toList_inj.1 h)
set_option maxHeartbeats 1000000 in
theorem FnExactTermText_any (A0 : Option Addr) (n0 : Nat) (c0 : Nat) (x0 : List (Int × Int × Int)) (w : World) (F0 : n0 ≤ 9223372036854775807 ∧ MarksAt w A0 n0 x0) :
    Calls Tryd.prog 6 #[.slice A0 n0 c0] w fun e w' => e = .returned (.bool true) ∧ Below w.heap.size w w' := by
  obtain ⟨hm0, h0⟩ := F0
  have hB0 : Below w.heap.size w w := Below.refl w.heap.size w
  go_enter Tryd.func6, Tryd.ntmps6
  go_wp2_with (fail)
  refine kSz (szMarkS_ok A0 n0 c0 1048576 _ hm0 (by omega)) ?_ ?_
  rotate_left
  · intro r0 w1 hr0 hb1
    go_wp2
    go_ret
    exact ⟨rfl, hB0.trans (hb1.mono hB0.size)⟩
  intro r0 w1 hp0 hr0 hs0 hb1
  have hB1 : Below w.heap.size w w1 := hB0.trans (hb1.mono hB0.size)
  go_wp2_with (fail)
  refine kNewMarksAt (toMarkS_any A0 n0 c0 x0 _ (h0.below hB1) hp0.out) ?_
  intro A0s c0s w2 hc0s h0s hb2 hf0s
  have hB2 : Below w.heap.size w w2 := hB1.trans (hb2.mono hB1.size)
  go_wp2_with (fail)
  refine kStr (n := 75) (sTermText_any A0s n0 c0s x0 _ h0s hc0s hp0.out) (textV_len x0) ?_
  intro S1 w3 hS1 hz1 hb3
  have hB3 : Below w.heap.size w w3 := hB2.trans (hb3.mono hB2.size)
  replace h0s := h0s.below hb3
  go_wp2_with (fail)
  refine kNewMarksAt (toMarkS_any A0 n0 c0 x0 _ (h0.below hB3) hp0.out) ?_
  intro A0x c0x w4 hc0x h0x hb4 hf0x
  have hB4 : Below w.heap.size w w4 := hB3.trans (hb4.mono hB3.size)
  replace h0s := h0s.below hb4
  go_wp2_with (fail)
  refine kStr (n := 75) (iTermText_any A0x n0 c0x x0 _ h0x hp0.out) (textV_len x0) ?_
  intro S2 w5 hS2 hz2 hb5
  obtain rfl : S1 = S2 := text_eq (hS1.out.trans hS2.out.symm)
  have hB5 : Below w.heap.size w w5 := hB4.trans (hb5.mono hB4.size)
  replace h0s := h0s.below hb5
  replace h0x := h0x.below hb5
  go_wp2_with (fail)
  refine kNewMarksAt (toMarkS_any A0 n0 c0 x0 _ (h0.below hB5) hp0.out) ?_
  intro A0v c0v w6 hc0v h0v hb6 hf0v
  have hB6 : Below w.heap.size w w6 := hB5.trans (hb6.mono hB5.size)
  replace h0s := h0s.below hb6
  replace h0x := h0x.below hb6
  go_wp2_with (fail)
  refine kB (eqMarkS_any A0x A0v n0 c0x n0 c0v x0 x0 _ h0x h0v (by have := hp0.out; omega)) ?_ ?_
  rotate_left
  · intro _ hne _; exact absurd rfl hne.out
  intro w7 _ hb7
  have hB7 : Below w.heap.size w w7 := hB6.trans (hb7.mono hB6.size)
  replace h0s := h0s.below hb7
  replace h0x := h0x.below hb7
  replace h0v := h0v.below hb7
  go_wp2
  go_ret
  exact ⟨rfl, hB7⟩

end Go.Proofs.YtcmicmenkbgfmaaDoor
