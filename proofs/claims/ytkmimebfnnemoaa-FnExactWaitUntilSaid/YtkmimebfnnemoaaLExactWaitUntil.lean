/- The walk of FnExactWaitUntil: the program and the reference answer alike, and the arguments are left as they were. -/
import Derived.Test.YtkmimebfnnemoaaW2
import Derived.Test.YtkmimebfnnemoaaK3
namespace Go.Proofs.Ytkmimebfnnemoaa
open Go.RowKit

set_option maxHeartbeats 1000000 in
theorem FnExactWaitUntil_any (p0 : Int) (A0 : Option Addr) (n0 : Nat) (c0 : Nat) (x0 : List Bd) (A1 : Option Addr) (n1 : Nat) (c1 : Nat) (x1 : List (Int × Int)) (w : World) (F0 : n0 ≤ 9223372036854775807 ∧ BndsAt w A0 n0 x0) (F1 : n1 ≤ 9223372036854775807 ∧ HapsAt w A1 n1 x1) :
    Calls Try.prog 7 #[.agg #[.int .i64 p0, .slice A0 n0 c0], .slice A1 n1 c1] w fun e w' => e = .returned (.bool true) ∧ Below w.heap.size w w' := by
  obtain ⟨hm0, h0⟩ := F0
  obtain ⟨hm1, h1⟩ := F1
  have hB0 : Below w.heap.size w (w.alloc (.cells #[.int .i64 p0, .slice A0 n0 c0] 24)) := (Below.refl w.heap.size w).alloc (Nat.le_refl _) _
  go_enter Try.func7, Try.ntmps7
  go_wp2_with (fail)
  refine kSz (szPlan_any p0 A0 n0 c0 1048576 _ hm0 (by omega)) ?_ ?_
  rotate_left
  · intro r0 w1 hr0 hb1
    go_wp2
    go_ret
    exact ⟨rfl, hB0.trans (hb1.mono hB0.size)⟩
  intro r0 w1 hp0 hr0 hs0 hb1
  have hB1 : Below w.heap.size w w1 := hB0.trans (hb1.mono hB0.size)
  have e00 : w1.cell? ⟨w.heap.size, 0, none⟩ = some (.int .i64 p0) := keep hb1 (by simp [go_sem])
  have e01 : w1.cell? ⟨w.heap.size, 1, none⟩ = some (.slice A0 n0 c0) := keep hb1 (by simp [go_sem])
  go_wp2_with (fail)
  refine kSz (szHappeningS_ok A1 n1 c1 r0 _ hm1 ⟨hr0, hs0⟩) ?_ ?_
  rotate_left
  · intro r1 w2 hr1 hb2
    go_wp2
    go_ret
    exact ⟨rfl, hB1.trans (hb2.mono hB1.size)⟩
  intro r1 w2 hp1 hr1 hs1 hb2
  have hB2 : Below w.heap.size w w2 := hB1.trans (hb2.mono hB1.size)
  replace e00 := keep hb2 e00
  replace e01 := keep hb2 e01
  go_wp2_with (fail)
  refine kPlan (toPlan_any p0 A0 n0 c0 x0 _ (h0.below hB2) hp0.out) ?_
  intro A0s c0s w3 hc0s h0s hb3 hf0s
  have hB3 : Below w.heap.size w w3 := hB2.trans (hb3.mono hB2.size)
  replace e00 := keep hb3 e00
  replace e01 := keep hb3 e01
  go_wp2_with (fail)
  refine kNewHapsAt (toHappeningS_any A1 n1 c1 x1 _ (h1.below hB3) hp1.out) ?_
  intro A1s c1s w4 hc1s h1s hb4 hf1s
  have hB4 : Below w.heap.size w w4 := hB3.trans (hb4.mono hB3.size)
  replace e00 := keep hb4 e00
  replace e01 := keep hb4 e01
  replace h0s := h0s.below hb4
  go_wp2_with (fail)
  refine kBV (sWaitUntil_any p0 A0s n0 c0s x0 A1s n1 c1s x1 _ h0s h1s hp0.out hp1.out) ?_
  intro w5 hb5
  have hB5 : Below w.heap.size w w5 := hB4.trans (hb5.mono hB4.size)
  replace e00 := keep hb5 e00
  replace e01 := keep hb5 e01
  replace h0s := h0s.below hb5
  replace h1s := h1s.below hb5
  go_wp2_with (fail)
  refine kPlan (toPlan_any p0 A0 n0 c0 x0 _ (h0.below hB5) hp0.out) ?_
  intro A0x c0x w6 hc0x h0x hb6 hf0x
  have hB6 : Below w.heap.size w w6 := hB5.trans (hb6.mono hB5.size)
  replace e00 := keep hb6 e00
  replace e01 := keep hb6 e01
  replace h0s := h0s.below hb6
  replace h1s := h1s.below hb6
  have hx0 : Below w6.heap.size w6 (w6.alloc (.cells #[.int .i64 p0, .slice A0x n0 c0x] 31)) := (Below.refl _ _).alloc (Nat.le_refl _) _
  have hy0 : Below w.heap.size w (w6.alloc (.cells #[.int .i64 p0, .slice A0x n0 c0x] 31)) := hB6.trans (hx0.mono hB6.size)
  have hz0 : w.heap.size + 0 < w6.heap.size := by have := hB6.size; have := cell_lt e00; have := cell_lt e01; simp at *; omega
  replace h0s := h0s.below hx0
  replace h1s := h1s.below hx0
  replace h0x := h0x.below hx0
  go_wp2_with (fail)
  refine kNewHapsAt (toHappeningS_any A1 n1 c1 x1 _ (h1.below hy0) hp1.out) ?_
  intro A1x c1x w7 hc1x h1x hb7 hf1x
  have hB7 : Below w.heap.size w w7 := hy0.trans (hb7.mono hy0.size)
  replace e00 := keep hb7 (keep hx0 e00)
  replace e01 := keep hb7 (keep hx0 e01)
  have x00 : w7.cell? ⟨w6.heap.size, 0, none⟩ = some (.int .i64 p0) := keep hb7 (by simp [go_sem])
  have x01 : w7.cell? ⟨w6.heap.size, 1, none⟩ = some (.slice A0x n0 c0x) := keep hb7 (by simp [go_sem])
  replace h0s := h0s.below hb7
  replace h1s := h1s.below hb7
  replace h0x := h0x.below hb7
  go_wp2_with (fail)
  refine kBV (iWaitUntil_any p0 A0x n0 c0x x0 A1x n1 c1x x1 _ h0x h1x hp0.out hp1.out) ?_
  intro w8 hb8
  have hB8 : Below w.heap.size w w8 := hB7.trans (hb8.mono hB7.size)
  replace e00 := keep hb8 e00
  replace e01 := keep hb8 e01
  replace x00 := keep hb8 x00
  replace x01 := keep hb8 x01
  replace h0s := h0s.below hb8
  replace h1s := h1s.below hb8
  replace h0x := h0x.below hb8
  replace h1x := h1x.below hb8
  go_wp2_with (fail)
  go_region_held3 (fun w' => w'.cell? ⟨w6.heap.size, 0, none⟩ = some (.int .i64 p0) ∧ w'.cell? ⟨w6.heap.size, 1, none⟩ = some (.slice A0x n0 c0x) ∧ w'.cell? ⟨w.heap.size, 0, none⟩ = some (.int .i64 p0) ∧ w'.cell? ⟨w.heap.size, 1, none⟩ = some (.slice A0 n0 c0))
    (first | exact ⟨x00, x01, e00, e01⟩ | exact ⟨keep hb10 (keep hb9 x00), keep hb10 (keep hb9 x01), keep hb10 (keep hb9 e00), keep hb10 (keep hb9 e01)⟩ | exact ⟨keep hb9 x00, keep hb9 x01, keep hb9 e00, keep hb9 e01⟩)
    (first
      | (go_at_call 11; refine kPlan (toPlan_any p0 A0 n0 c0 x0 _ ((h0.below hB8).drewN 1) hp0.out) ?_; intro A0v c0v w9 hc0v h0v hb9 hf0v)
      | (go_at_call 14; refine kBV (eqPlan_any p0 A0x n0 c0x x0 A0v c0v _ ((h0x.drewN 1).below hb9) h0v hp0.out) ?_; intro w10 hb10))
  have hB10 : Below w.heap.size w w10 := ((hB8.drew).trans (hb9.mono hB8.size)).trans (hb10.mono (Nat.le_trans hB8.size hb9.size))
  replace e00 := keep hb10 (keep hb9 (show (w8.drew).cell? _ = _ from e00))
  replace e01 := keep hb10 (keep hb9 (show (w8.drew).cell? _ = _ from e01))
  replace x00 := keep hb10 (keep hb9 (show (w8.drew).cell? _ = _ from x00))
  replace x01 := keep hb10 (keep hb9 (show (w8.drew).cell? _ = _ from x01))
  replace h0s := ((h0s.drewN 1).below hb9).below hb10
  replace h1s := ((h1s.drewN 1).below hb9).below hb10
  replace h0x := ((h0x.drewN 1).below hb9).below hb10
  replace h1x := ((h1x.drewN 1).below hb9).below hb10
  go_wp2_with (fail)
  refine kNewHapsAt (toHappeningS_any A1 n1 c1 x1 _ (h1.below hB10) hp1.out) ?_
  intro A1v c1v w11 hc1v h1v hb11 hf1v
  have hB11 : Below w.heap.size w w11 := hB10.trans (hb11.mono hB10.size)
  replace e00 := keep hb11 e00
  replace e01 := keep hb11 e01
  replace x00 := keep hb11 x00
  replace x01 := keep hb11 x01
  replace h0s := h0s.below hb11
  replace h1s := h1s.below hb11
  replace h0x := h0x.below hb11
  replace h1x := h1x.below hb11
  go_wp2_with (fail)
  refine kB (eqHappeningS_any A1x A1v n1 c1x n1 c1v x1 x1 _ h1x h1v (by have := hp1.out; omega)) ?_ ?_
  rotate_left
  · intro _ hne _; exact absurd rfl hne.out
  intro w12 _ hb12
  have hB12 : Below w.heap.size w w12 := hB11.trans (hb12.mono hB11.size)
  replace e00 := keep hb12 e00
  replace e01 := keep hb12 e01
  replace x00 := keep hb12 x00
  replace x01 := keep hb12 x01
  replace h0s := h0s.below hb12
  replace h1s := h1s.below hb12
  replace h0x := h0x.below hb12
  replace h1x := h1x.below hb12
  replace h1v := h1v.below hb12
  go_wp2
  go_ret
  exact ⟨rfl, hB12⟩

end Go.Proofs.Ytkmimebfnnemoaa
