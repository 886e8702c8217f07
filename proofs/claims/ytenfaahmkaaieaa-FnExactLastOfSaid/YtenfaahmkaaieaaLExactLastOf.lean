/- The walk of FnExactLastOf: the program and the reference answer alike, and the arguments are left as they were. -/
import Derived.Test.YtenfaahmkaaieaaME
namespace Go.Proofs.Ytenfaahmkaaieaa
open Go.RowKit

set_option maxHeartbeats 1000000 in
theorem FnExactLastOf_any (A0 : Option Addr) (n0 : Nat) (c0 : Nat) (x0 : List (Int × Int × Int)) (A1 : Option Addr) (n1 : Nat) (c1 : Nat) (x1 : List Int) (w : World) (F0 : n0 ≤ 9223372036854775807 ∧ MarksAt w A0 n0 x0) (F1 : n1 ≤ 9223372036854775807 ∧ IntsAt w A1 n1 x1) :
    Calls Try.prog 10 #[.slice A0 n0 c0, .slice A1 n1 c1] w fun e w' => e = .returned (.bool true) ∧ Below w.heap.size w w' := by
  obtain ⟨hm0, h0⟩ := F0
  obtain ⟨hm1, h1⟩ := F1
  have hB0 : Below w.heap.size w w := Below.refl w.heap.size w
  by_cases hn1 : n1 ≤ 1048576
  rotate_left
  · go_enter Try.func10, Try.ntmps10
    go_wp2
    go_ret
    exact ⟨rfl, hB0⟩
  obtain ⟨⟨L0, L1⟩, HLen⟩ : ∃ q, Hid (LastF x0 x1 = q) := ⟨_, rfl⟩
  go_enter Try.func10, Try.ntmps10
  go_wp2_with (fail)
  refine kSz (szMarkS_ok A0 n0 c0 1048576 _ hm0 (by omega)) ?_ ?_
  rotate_left
  · intro r0 w1 hr0 hb1
    go_wp2
    go_ret
    exact ⟨rfl, hB0.trans (hb1.mono hB0.size)⟩
  intro r0 w1 hp0 hr0 hs0 hb1
  have hB1 : Below w.heap.size w w1 := hB0.trans (hb1.mono hB0.size)
  go_wp2_with (fail)
  refine kNewMarksAt (toMarkS_any A0 n0 c0 x0 _ (h0.below hB1) hp0.out) ?_
  intro A0s c0s w2 hc0s h0s hb2 hf0s
  have hB2 : Below w.heap.size w w2 := hB1.trans (hb2.mono hB1.size)
  go_wp2_with (fail)
  refine kNew (toIntS_any A1 n1 c1 x1 _ (h1.below hB2) hn1) ?_
  intro A1s c1s w3 hc1s h1s hb3 hf1s
  have hB3 : Below w.heap.size w w3 := hB2.trans (hb3.mono hB2.size)
  replace h0s := h0s.below hb3
  go_wp2_with (fail)
  refine kBV (sLastOf_any A0s n0 c0s x0 A1s n1 c1s x1 _ h0s h1s hp0.out hn1 hc0s hc1s) ?_
  intro w4 hb4
  have hB4 : Below w.heap.size w w4 := hB3.trans (hb4.mono hB3.size)
  replace h0s := h0s.below hb4
  replace h1s := h1s.below hb4
  rw [HLen.out]
  simp only [lastW]
  go_wp2_with (fail)
  refine kNewMarksAt (toMarkS_any A0 n0 c0 x0 _ (h0.below hB4) hp0.out) ?_
  intro A0x c0x w5 hc0x h0x hb5 hf0x
  have hB5 : Below w.heap.size w w5 := hB4.trans (hb5.mono hB4.size)
  replace h0s := h0s.below hb5
  replace h1s := h1s.below hb5
  go_wp2_with (fail)
  refine kNew (toIntS_any A1 n1 c1 x1 _ (h1.below hB5) hn1) ?_
  intro A1x c1x w6 hc1x h1x hb6 hf1x
  have hB6 : Below w.heap.size w w6 := hB5.trans (hb6.mono hB5.size)
  replace h0s := h0s.below hb6
  replace h1s := h1s.below hb6
  replace h0x := h0x.below hb6
  go_wp2_with (fail)
  refine kBV (iLastOf_any A0x n0 c0x x0 A1x n1 c1x x1 _ h0x h1x hp0.out hn1 hc0x hc1x) ?_
  intro w7 hb7
  have hB7 : Below w.heap.size w w7 := hB6.trans (hb7.mono hB6.size)
  replace h0s := h0s.below hb7
  replace h1s := h1s.below hb7
  replace h0x := h0x.below hb7
  replace h1x := h1x.below hb7
  rw [HLen.out]
  simp only [lastW]
  go_wp2_with (fail)
  refine kNewMarksAt (toMarkS_any A0 n0 c0 x0 _ (h0.below hB7) hp0.out) ?_
  intro A0v c0v w8 hc0v h0v hb8 hf0v
  have hB8 : Below w.heap.size w w8 := hB7.trans (hb8.mono hB7.size)
  replace h0s := h0s.below hb8
  replace h1s := h1s.below hb8
  replace h0x := h0x.below hb8
  replace h1x := h1x.below hb8
  go_wp2_with (fail)
  refine kB (eqMarkS_any A0x A0v n0 c0x n0 c0v x0 x0 _ h0x h0v (by have := hp0.out; omega)) ?_ ?_
  rotate_left
  · intro _ hne _; exact absurd rfl hne.out
  intro w9 _ hb9
  have hB9 : Below w.heap.size w w9 := hB8.trans (hb9.mono hB8.size)
  replace h0s := h0s.below hb9
  replace h1s := h1s.below hb9
  replace h0x := h0x.below hb9
  replace h1x := h1x.below hb9
  replace h0v := h0v.below hb9
  go_wp2_with (fail)
  refine kNew (toIntS_any A1 n1 c1 x1 _ (h1.below hB9) hn1) ?_
  intro A1v c1v w10 hc1v h1v hb10 hf1v
  have hB10 : Below w.heap.size w w10 := hB9.trans (hb10.mono hB9.size)
  replace h0s := h0s.below hb10
  replace h1s := h1s.below hb10
  replace h0x := h0x.below hb10
  replace h1x := h1x.below hb10
  replace h0v := h0v.below hb10
  go_wp2_with (fail)
  refine kQ (eqIntS_any A1x A1v n1 c1x n1 c1v x1 x1 _ h1x h1v (by omega)) ?_ ?_
  rotate_left
  · intro _ hne; exact absurd rfl hne.out
  intro m11 _
  have hb11 := below_drewN (Below.refl w10.heap.size w10) m11
  have hB11 : Below w.heap.size w (w10.drewN m11) := below_drewN hB10 m11
  replace h0s := h0s.drewN m11
  replace h1s := h1s.drewN m11
  replace h0x := h0x.drewN m11
  replace h1x := h1x.drewN m11
  replace h0v := h0v.drewN m11
  replace h1v := h1v.drewN m11
  go_wp2
  go_ret
  exact ⟨rfl, hB11⟩

end Go.Proofs.Ytenfaahmkaaieaa
