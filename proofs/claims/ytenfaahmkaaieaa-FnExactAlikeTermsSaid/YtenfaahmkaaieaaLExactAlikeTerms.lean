/- The walk of FnExactAlikeTerms: the program and the reference answer alike, and the arguments are left as they were. -/
import Derived.Test.YtenfaahmkaaieaaM8
namespace Go.Proofs.Ytenfaahmkaaieaa
open Go.RowKit

set_option maxHeartbeats 1000000 in
theorem FnExactAlikeTerms_any (A0 : Option Addr) (n0 : Nat) (c0 : Nat) (x0 : List (Int × Int × Int)) (A1 : Option Addr) (n1 : Nat) (c1 : Nat) (x1 : List (Int × Int × Int)) (w : World) (F0 : n0 ≤ 9223372036854775807 ∧ MarksAt w A0 n0 x0) (F1 : n1 ≤ 9223372036854775807 ∧ MarksAt w A1 n1 x1) :
    Calls Try.prog 7 #[.slice A0 n0 c0, .slice A1 n1 c1] w fun e w' => e = .returned (.bool true) ∧ Below w.heap.size w w' := by
  obtain ⟨hm0, h0⟩ := F0
  obtain ⟨hm1, h1⟩ := F1
  have hB0 : Below w.heap.size w w := Below.refl w.heap.size w
  go_enter Try.func7, Try.ntmps7
  go_wp2_with (fail)
  refine kSz (szMarkS_ok A0 n0 c0 1048576 _ hm0 (by omega)) ?_ ?_
  rotate_left
  · intro r0 w1 hr0 hb1
    go_wp2
    go_ret
    exact ⟨rfl, hB0.trans (hb1.mono hB0.size)⟩
  intro r0 w1 hp0 hr0 hs0 hb1
  have hB1 : Below w.heap.size w w1 := hB0.trans (hb1.mono hB0.size)
  go_wp2_with (fail)
  refine kSz (szMarkS_ok A1 n1 c1 r0 _ hm1 ⟨hr0, hs0⟩) ?_ ?_
  rotate_left
  · intro r1 w2 hr1 hb2
    go_wp2
    go_ret
    exact ⟨rfl, hB1.trans (hb2.mono hB1.size)⟩
  intro r1 w2 hp1 hr1 hs1 hb2
  have hB2 : Below w.heap.size w w2 := hB1.trans (hb2.mono hB1.size)
  go_wp2_with (fail)
  refine kNewMarksAt (toMarkS_any A0 n0 c0 x0 _ (h0.below hB2) hp0.out) ?_
  intro A0s c0s w3 hc0s h0s hb3 hf0s
  have hB3 : Below w.heap.size w w3 := hB2.trans (hb3.mono hB2.size)
  go_wp2_with (fail)
  refine kNewMarksAt (toMarkS_any A1 n1 c1 x1 _ (h1.below hB3) hp1.out) ?_
  intro A1s c1s w4 hc1s h1s hb4 hf1s
  have hB4 : Below w.heap.size w w4 := hB3.trans (hb4.mono hB3.size)
  replace h0s := h0s.below hb4
  go_wp2_with (fail)
  refine kBV (sAlikeTerms_any A0s n0 c0s x0 A1s n1 c1s x1 _ h0s h1s hp0.out hp1.out hc0s hc1s) ?_
  intro w5 hb5
  have hB5 : Below w.heap.size w w5 := hB4.trans (hb5.mono hB4.size)
  replace h0s := h0s.below hb5
  replace h1s := h1s.below hb5
  go_wp2_with (fail)
  refine kNewMarksAt (toMarkS_any A0 n0 c0 x0 _ (h0.below hB5) hp0.out) ?_
  intro A0x c0x w6 hc0x h0x hb6 hf0x
  have hB6 : Below w.heap.size w w6 := hB5.trans (hb6.mono hB5.size)
  replace h0s := h0s.below hb6
  replace h1s := h1s.below hb6
  go_wp2_with (fail)
  refine kNewMarksAt (toMarkS_any A1 n1 c1 x1 _ (h1.below hB6) hp1.out) ?_
  intro A1x c1x w7 hc1x h1x hb7 hf1x
  have hB7 : Below w.heap.size w w7 := hB6.trans (hb7.mono hB6.size)
  replace h0s := h0s.below hb7
  replace h1s := h1s.below hb7
  replace h0x := h0x.below hb7
  go_wp2_with (fail)
  refine kBV (iAlikeTerms_any A0x n0 c0x x0 A1x n1 c1x x1 _ h0x h1x hp0.out hp1.out) ?_
  intro w8 hb8
  have hB8 : Below w.heap.size w w8 := hB7.trans (hb8.mono hB7.size)
  replace h0s := h0s.below hb8
  replace h1s := h1s.below hb8
  replace h0x := h0x.below hb8
  replace h1x := h1x.below hb8
  go_wp2_with (fail)
  refine kNewMarksAt (toMarkS_any A0 n0 c0 x0 _ (h0.below hB8) hp0.out) ?_
  intro A0v c0v w9 hc0v h0v hb9 hf0v
  have hB9 : Below w.heap.size w w9 := hB8.trans (hb9.mono hB8.size)
  replace h0s := h0s.below hb9
  replace h1s := h1s.below hb9
  replace h0x := h0x.below hb9
  replace h1x := h1x.below hb9
  go_wp2_with (fail)
  refine kB (eqMarkS_any A0x A0v n0 c0x n0 c0v x0 x0 _ h0x h0v (by have := hp0.out; omega)) ?_ ?_
  rotate_left
  · intro _ hne _; exact absurd rfl hne.out
  intro w10 _ hb10
  have hB10 : Below w.heap.size w w10 := hB9.trans (hb10.mono hB9.size)
  replace h0s := h0s.below hb10
  replace h1s := h1s.below hb10
  replace h0x := h0x.below hb10
  replace h1x := h1x.below hb10
  replace h0v := h0v.below hb10
  go_wp2_with (fail)
  refine kNewMarksAt (toMarkS_any A1 n1 c1 x1 _ (h1.below hB10) hp1.out) ?_
  intro A1v c1v w11 hc1v h1v hb11 hf1v
  have hB11 : Below w.heap.size w w11 := hB10.trans (hb11.mono hB10.size)
  replace h0s := h0s.below hb11
  replace h1s := h1s.below hb11
  replace h0x := h0x.below hb11
  replace h1x := h1x.below hb11
  replace h0v := h0v.below hb11
  go_wp2_with (fail)
  refine kB (eqMarkS_any A1x A1v n1 c1x n1 c1v x1 x1 _ h1x h1v (by have := hp1.out; omega)) ?_ ?_
  rotate_left
  · intro _ hne _; exact absurd rfl hne.out
  intro w12 _ hb12
  have hB12 : Below w.heap.size w w12 := hB11.trans (hb12.mono hB11.size)
  replace h0s := h0s.below hb12
  replace h1s := h1s.below hb12
  replace h0x := h0x.below hb12
  replace h1x := h1x.below hb12
  replace h0v := h0v.below hb12
  replace h1v := h1v.below hb12
  go_wp2
  go_ret
  exact ⟨rfl, hB12⟩

end Go.Proofs.Ytenfaahmkaaieaa
