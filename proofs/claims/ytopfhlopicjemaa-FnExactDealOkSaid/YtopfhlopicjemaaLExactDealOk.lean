/- The walk of FnExactDealOk: the program and the reference answer alike, and the arguments are left as they were. -/
import Derived.Test.YtopfhlopicjemaaD2
namespace Go.Proofs.Ytopfhlopicjemaa
open Go.RowKit

set_option maxHeartbeats 1000000 in
theorem FnExactDealOk_any (p0 : Int) (A0 : Option Addr) (n0 : Nat) (c0 : Nat) (x0 : List Bd) (C0 : Option Addr) (m0 : Nat) (d0 : Nat) (l0 : List (Int × Int × Int × Int)) (w : World) (F0 : n0 ≤ 9223372036854775807 ∧ m0 ≤ 9223372036854775807 ∧ BndsAt w A0 n0 x0 ∧ PromsAt w C0 m0 l0) :
    Calls Try.prog 13 #[.agg #[.int .i64 p0, .slice A0 n0 c0, .slice C0 m0 d0]] w fun e w' => e = .returned (.bool true) ∧ Below w.heap.size w w' := by
  obtain ⟨hm0, hk0, h0, g0⟩ := F0
  have hB0 : Below w.heap.size w (w.alloc (.cells #[.int .i64 p0, .slice A0 n0 c0, .slice C0 m0 d0] 71)) := (Below.refl w.heap.size w).alloc (Nat.le_refl _) _
  go_enter Try.func13, Try.ntmps13
  go_wp2_with (fail)
  refine kSz (szDeal_any p0 A0 n0 c0 C0 m0 d0 1048576 _ hm0 hk0 (by omega)) ?_ ?_
  rotate_left
  · intro r0 w1 hr0 hb1
    go_wp2
    go_ret
    exact ⟨rfl, hB0.trans (hb1.mono hB0.size)⟩
  intro r0 w1 hp0 hr0 hs0 hb1
  have hB1 : Below w.heap.size w w1 := hB0.trans (hb1.mono hB0.size)
  have e00 : w1.cell? ⟨w.heap.size, 0, none⟩ = some (.int .i64 p0) := keep hb1 (by simp [go_sem])
  have e01 : w1.cell? ⟨w.heap.size, 1, none⟩ = some (.slice A0 n0 c0) := keep hb1 (by simp [go_sem])
  have e02 : w1.cell? ⟨w.heap.size, 2, none⟩ = some (.slice C0 m0 d0) := keep hb1 (by simp [go_sem])
  go_wp2_with (fail)
  refine kDeal (toDeal_any p0 A0 n0 c0 x0 C0 m0 d0 l0 _ (h0.below hB1) (g0.below hB1) hp0.out.1 hp0.out.2) ?_
  intro A0s c0s C0s d0s w2 hc0s hd0s h0s g0s hb2
  have hB2 : Below w.heap.size w w2 := hB1.trans (hb2.mono hB1.size)
  replace e00 := keep hb2 e00
  replace e01 := keep hb2 e01
  replace e02 := keep hb2 e02
  go_wp2_with (fail)
  refine kBV (sDealOk_any p0 A0s n0 c0s x0 C0s m0 d0s l0 _ h0s g0s hp0.out.1 hp0.out.2) ?_
  intro w3 hb3
  have hB3 : Below w.heap.size w w3 := hB2.trans (hb3.mono hB2.size)
  replace e00 := keep hb3 e00
  replace e01 := keep hb3 e01
  replace e02 := keep hb3 e02
  replace h0s := h0s.below hb3
  replace g0s := g0s.below hb3
  go_wp2_with (fail)
  refine kDeal (toDeal_any p0 A0 n0 c0 x0 C0 m0 d0 l0 _ (h0.below hB3) (g0.below hB3) hp0.out.1 hp0.out.2) ?_
  intro A0x c0x C0x d0x w4 hc0x hd0x h0x g0x hb4
  have hB4 : Below w.heap.size w w4 := hB3.trans (hb4.mono hB3.size)
  replace e00 := keep hb4 e00
  replace e01 := keep hb4 e01
  replace e02 := keep hb4 e02
  replace h0s := h0s.below hb4
  replace g0s := g0s.below hb4
  have hx0 : Below w4.heap.size w4 (w4.alloc (.cells #[.int .i64 p0, .slice A0x n0 c0x, .slice C0x m0 d0x] 66)) := (Below.refl _ _).alloc (Nat.le_refl _) _
  have hy0 : Below w.heap.size w (w4.alloc (.cells #[.int .i64 p0, .slice A0x n0 c0x, .slice C0x m0 d0x] 66)) := hB4.trans (hx0.mono hB4.size)
  have hz0 : w.heap.size + 0 < w4.heap.size := by have := hB4.size; have := cell_lt e00; have := cell_lt e02; simp at *; omega
  replace h0s := h0s.below hx0
  replace g0s := g0s.below hx0
  replace h0x := h0x.below hx0
  replace g0x := g0x.below hx0
  go_wp2_with (fail)
  refine kBV (iDealOk_any p0 A0x n0 c0x x0 C0x m0 d0x l0 _ h0x g0x hp0.out.1 hp0.out.2) ?_
  intro w5 hb5
  have hB5 : Below w.heap.size w w5 := hy0.trans (hb5.mono hy0.size)
  replace e00 := keep hb5 (keep hx0 e00)
  replace e01 := keep hb5 (keep hx0 e01)
  replace e02 := keep hb5 (keep hx0 e02)
  have x00 : w5.cell? ⟨w4.heap.size, 0, none⟩ = some (.int .i64 p0) := keep hb5 (by simp [go_sem])
  have x01 : w5.cell? ⟨w4.heap.size, 1, none⟩ = some (.slice A0x n0 c0x) := keep hb5 (by simp [go_sem])
  have x02 : w5.cell? ⟨w4.heap.size, 2, none⟩ = some (.slice C0x m0 d0x) := keep hb5 (by simp [go_sem])
  replace h0s := h0s.below hb5
  replace g0s := g0s.below hb5
  replace h0x := h0x.below hb5
  replace g0x := g0x.below hb5
  go_wp2_with (fail)
  go_region_held3 (fun w' => w'.cell? ⟨w4.heap.size, 0, none⟩ = some (.int .i64 p0) ∧ w'.cell? ⟨w4.heap.size, 1, none⟩ = some (.slice A0x n0 c0x) ∧ w'.cell? ⟨w4.heap.size, 2, none⟩ = some (.slice C0x m0 d0x) ∧ w'.cell? ⟨w.heap.size, 0, none⟩ = some (.int .i64 p0) ∧ w'.cell? ⟨w.heap.size, 1, none⟩ = some (.slice A0 n0 c0) ∧ w'.cell? ⟨w.heap.size, 2, none⟩ = some (.slice C0 m0 d0))
    (first | exact ⟨x00, x01, x02, e00, e01, e02⟩ | exact ⟨keep hb7 (keep hb6 x00), keep hb7 (keep hb6 x01), keep hb7 (keep hb6 x02), keep hb7 (keep hb6 e00), keep hb7 (keep hb6 e01), keep hb7 (keep hb6 e02)⟩ | exact ⟨keep hb6 x00, keep hb6 x01, keep hb6 x02, keep hb6 e00, keep hb6 e01, keep hb6 e02⟩)
    (first
      | (go_at_call 43; refine kDeal (toDeal_any p0 A0 n0 c0 x0 C0 m0 d0 l0 _ ((h0.below hB5).drewN 1) ((g0.below hB5).drewN 1) hp0.out.1 hp0.out.2) ?_; intro A0v c0v C0v d0v w6 hc0v hd0v h0v g0v hb6)
      | (go_at_call 44; refine kBV (eqDeal_any p0 A0x n0 c0x x0 C0x m0 d0x l0 A0v c0v C0v d0v _ ((h0x.drewN 1).below hb6) ((g0x.drewN 1).below hb6) h0v g0v hp0.out.1 hp0.out.2) ?_; intro w7 hb7))
  have hB7 : Below w.heap.size w w7 := ((hB5.drew).trans (hb6.mono hB5.size)).trans (hb7.mono (Nat.le_trans hB5.size hb6.size))
  replace e00 := keep hb7 (keep hb6 (show (w5.drew).cell? _ = _ from e00))
  replace e01 := keep hb7 (keep hb6 (show (w5.drew).cell? _ = _ from e01))
  replace e02 := keep hb7 (keep hb6 (show (w5.drew).cell? _ = _ from e02))
  replace x00 := keep hb7 (keep hb6 (show (w5.drew).cell? _ = _ from x00))
  replace x01 := keep hb7 (keep hb6 (show (w5.drew).cell? _ = _ from x01))
  replace x02 := keep hb7 (keep hb6 (show (w5.drew).cell? _ = _ from x02))
  replace h0s := ((h0s.drewN 1).below hb6).below hb7
  replace g0s := ((g0s.drewN 1).below hb6).below hb7
  replace h0x := ((h0x.drewN 1).below hb6).below hb7
  replace g0x := ((g0x.drewN 1).below hb6).below hb7
  go_wp2
  go_ret
  exact ⟨rfl, hB7⟩

end Go.Proofs.Ytopfhlopicjemaa
