/- The walk of FnExactKeepsCase: the program and the reference answer alike, and the arguments are left as they were. -/
import Derived.Test.YtopfhlopicjemaaC3
namespace Go.Proofs.Ytopfhlopicjemaa
open Go.RowKit

set_option maxHeartbeats 1000000 in
theorem FnExactKeepsCase_any (p0 : Int) (A0 : Option Addr) (n0 : Nat) (c0 : Nat) (x0 : List Bd) (C0 : Option Addr) (m0 : Nat) (d0 : Nat) (l0 : List (List Bd)) (A1 : Option Addr) (n1 : Nat) (c1 : Nat) (x1 : List Int) (w : World) (F0 : n0 ≤ 9223372036854775807 ∧ m0 ≤ 9223372036854775807 ∧ BndsAt w A0 n0 x0 ∧ BndssAt w C0 m0 l0) (F1 : n1 ≤ 9223372036854775807 ∧ IntsAt w A1 n1 x1) :
    Calls Try.prog 14 #[.agg #[.int .i64 p0, .slice A0 n0 c0, .slice C0 m0 d0], .slice A1 n1 c1] w fun e w' => e = .returned (.bool true) ∧ Below w.heap.size w w' := by
  obtain ⟨hm0, hk0, h0, g0⟩ := F0
  obtain ⟨hm1, h1⟩ := F1
  have hB0 : Below w.heap.size w (w.alloc (.cells #[.int .i64 p0, .slice A0 n0 c0, .slice C0 m0 d0] 59)) := (Below.refl w.heap.size w).alloc (Nat.le_refl _) _
  by_cases hn1 : n1 ≤ 1048576
  rotate_left
  · go_enter Try.func14, Try.ntmps14
    go_wp2
    go_ret
    exact ⟨rfl, hB0⟩
  go_enter Try.func14, Try.ntmps14
  go_wp2_with (fail)
  refine kSz (szCase_any p0 A0 n0 c0 C0 m0 d0 l0 1048576 _ (g0.below hB0) hm0 hk0 (by omega)) ?_ ?_
  rotate_left
  · intro r0 w1 hr0 hb1
    go_wp2
    go_ret
    exact ⟨rfl, hB0.trans (hb1.mono hB0.size)⟩
  intro r0 w1 hp0 hr0 hs0 hb1
  have hB1 : Below w.heap.size w w1 := hB0.trans (hb1.mono hB0.size)
  have e00 : w1.cell? ⟨w.heap.size, 0, none⟩ = some (.int .i64 p0) := keep hb1 (by simp [go_sem])
  have e01 : w1.cell? ⟨w.heap.size, 1, none⟩ = some (.slice A0 n0 c0) := keep hb1 (by simp [go_sem])
  have e02 : w1.cell? ⟨w.heap.size, 2, none⟩ = some (.slice C0 m0 d0) := keep hb1 (by simp [go_sem])
  go_wp2_with (fail)
  refine kCase (toCase_any p0 A0 n0 c0 x0 C0 m0 d0 l0 _ (h0.below hB1) (g0.below hB1) hp0.out.1 hp0.out.2.1 hp0.out.2.2) ?_
  intro A0s c0s C0s d0s w2 hc0s hd0s h0s g0s hb2
  have hB2 : Below w.heap.size w w2 := hB1.trans (hb2.mono hB1.size)
  replace e00 := keep hb2 e00
  replace e01 := keep hb2 e01
  replace e02 := keep hb2 e02
  go_wp2_with (fail)
  refine kNew (toIntS_any A1 n1 c1 x1 _ (h1.below hB2) hn1) ?_
  intro A1s c1s w3 hc1s h1s hb3 hf1s
  have hB3 : Below w.heap.size w w3 := hB2.trans (hb3.mono hB2.size)
  replace e00 := keep hb3 e00
  replace e01 := keep hb3 e01
  replace e02 := keep hb3 e02
  replace h0s := h0s.below hb3
  replace g0s := g0s.below hb3
  go_wp2_with (fail)
  refine kBV (sKeepsCase_any p0 A0s n0 c0s x0 C0s m0 d0s l0 A1s n1 c1s x1 _ h0s g0s h1s hp0.out.1 hp0.out.2.1 hp0.out.2.2 hn1) ?_
  intro w4 hb4
  have hB4 : Below w.heap.size w w4 := hB3.trans (hb4.mono hB3.size)
  replace e00 := keep hb4 e00
  replace e01 := keep hb4 e01
  replace e02 := keep hb4 e02
  replace h0s := h0s.below hb4
  replace g0s := g0s.below hb4
  replace h1s := h1s.below hb4
  go_wp2_with (fail)
  refine kCase (toCase_any p0 A0 n0 c0 x0 C0 m0 d0 l0 _ (h0.below hB4) (g0.below hB4) hp0.out.1 hp0.out.2.1 hp0.out.2.2) ?_
  intro A0x c0x C0x d0x w5 hc0x hd0x h0x g0x hb5
  have hB5 : Below w.heap.size w w5 := hB4.trans (hb5.mono hB4.size)
  replace e00 := keep hb5 e00
  replace e01 := keep hb5 e01
  replace e02 := keep hb5 e02
  replace h0s := h0s.below hb5
  replace g0s := g0s.below hb5
  replace h1s := h1s.below hb5
  have hx0 : Below w5.heap.size w5 (w5.alloc (.cells #[.int .i64 p0, .slice A0x n0 c0x, .slice C0x m0 d0x] 51)) := (Below.refl _ _).alloc (Nat.le_refl _) _
  have hy0 : Below w.heap.size w (w5.alloc (.cells #[.int .i64 p0, .slice A0x n0 c0x, .slice C0x m0 d0x] 51)) := hB5.trans (hx0.mono hB5.size)
  have hz0 : w.heap.size + 0 < w5.heap.size := by have := hB5.size; have := cell_lt e00; have := cell_lt e02; simp at *; omega
  replace h0s := h0s.below hx0
  replace g0s := g0s.below hx0
  replace h1s := h1s.below hx0
  replace h0x := h0x.below hx0
  replace g0x := g0x.below hx0
  go_wp2_with (fail)
  refine kNew (toIntS_any A1 n1 c1 x1 _ (h1.below hy0) hn1) ?_
  intro A1x c1x w6 hc1x h1x hb6 hf1x
  have hB6 : Below w.heap.size w w6 := hy0.trans (hb6.mono hy0.size)
  replace e00 := keep hb6 (keep hx0 e00)
  replace e01 := keep hb6 (keep hx0 e01)
  replace e02 := keep hb6 (keep hx0 e02)
  have x00 : w6.cell? ⟨w5.heap.size, 0, none⟩ = some (.int .i64 p0) := keep hb6 (by simp [go_sem])
  have x01 : w6.cell? ⟨w5.heap.size, 1, none⟩ = some (.slice A0x n0 c0x) := keep hb6 (by simp [go_sem])
  have x02 : w6.cell? ⟨w5.heap.size, 2, none⟩ = some (.slice C0x m0 d0x) := keep hb6 (by simp [go_sem])
  replace h0s := h0s.below hb6
  replace g0s := g0s.below hb6
  replace h1s := h1s.below hb6
  replace h0x := h0x.below hb6
  replace g0x := g0x.below hb6
  go_wp2_with (fail)
  refine kBV (iKeepsCase_any p0 A0x n0 c0x x0 C0x m0 d0x l0 A1x n1 c1x x1 _ h0x g0x h1x hp0.out.1 hp0.out.2.1 hp0.out.2.2 hn1) ?_
  intro w7 hb7
  have hB7 : Below w.heap.size w w7 := hB6.trans (hb7.mono hB6.size)
  replace e00 := keep hb7 e00
  replace e01 := keep hb7 e01
  replace e02 := keep hb7 e02
  replace x00 := keep hb7 x00
  replace x01 := keep hb7 x01
  replace x02 := keep hb7 x02
  replace h0s := h0s.below hb7
  replace g0s := g0s.below hb7
  replace h1s := h1s.below hb7
  replace h0x := h0x.below hb7
  replace g0x := g0x.below hb7
  replace h1x := h1x.below hb7
  go_wp2_with (fail)
  go_region_held3 (fun w' => w'.cell? ⟨w5.heap.size, 0, none⟩ = some (.int .i64 p0) ∧ w'.cell? ⟨w5.heap.size, 1, none⟩ = some (.slice A0x n0 c0x) ∧ w'.cell? ⟨w5.heap.size, 2, none⟩ = some (.slice C0x m0 d0x) ∧ w'.cell? ⟨w.heap.size, 0, none⟩ = some (.int .i64 p0) ∧ w'.cell? ⟨w.heap.size, 1, none⟩ = some (.slice A0 n0 c0) ∧ w'.cell? ⟨w.heap.size, 2, none⟩ = some (.slice C0 m0 d0))
    (first | exact ⟨x00, x01, x02, e00, e01, e02⟩ | exact ⟨keep hb9 (keep hb8 x00), keep hb9 (keep hb8 x01), keep hb9 (keep hb8 x02), keep hb9 (keep hb8 e00), keep hb9 (keep hb8 e01), keep hb9 (keep hb8 e02)⟩ | exact ⟨keep hb8 x00, keep hb8 x01, keep hb8 x02, keep hb8 e00, keep hb8 e01, keep hb8 e02⟩)
    (first
      | (go_at_call 37; refine kCase (toCase_any p0 A0 n0 c0 x0 C0 m0 d0 l0 _ ((h0.below hB7).drewN 1) ((g0.below hB7).drewN 1) hp0.out.1 hp0.out.2.1 hp0.out.2.2) ?_; intro A0v c0v C0v d0v w8 hc0v hd0v h0v g0v hb8)
      | (go_at_call 38; refine kBV (eqCase_any p0 A0x n0 c0x x0 C0x m0 d0x l0 A0v c0v C0v d0v _ ((h0x.drewN 1).below hb8) ((g0x.drewN 1).below hb8) h0v g0v hp0.out.1 hp0.out.2.1 hp0.out.2.2) ?_; intro w9 hb9))
  have hB9 : Below w.heap.size w w9 := ((hB7.drew).trans (hb8.mono hB7.size)).trans (hb9.mono (Nat.le_trans hB7.size hb8.size))
  replace e00 := keep hb9 (keep hb8 (show (w7.drew).cell? _ = _ from e00))
  replace e01 := keep hb9 (keep hb8 (show (w7.drew).cell? _ = _ from e01))
  replace e02 := keep hb9 (keep hb8 (show (w7.drew).cell? _ = _ from e02))
  replace x00 := keep hb9 (keep hb8 (show (w7.drew).cell? _ = _ from x00))
  replace x01 := keep hb9 (keep hb8 (show (w7.drew).cell? _ = _ from x01))
  replace x02 := keep hb9 (keep hb8 (show (w7.drew).cell? _ = _ from x02))
  replace h0s := ((h0s.drewN 1).below hb8).below hb9
  replace g0s := ((g0s.drewN 1).below hb8).below hb9
  replace h1s := ((h1s.drewN 1).below hb8).below hb9
  replace h0x := ((h0x.drewN 1).below hb8).below hb9
  replace g0x := ((g0x.drewN 1).below hb8).below hb9
  replace h1x := ((h1x.drewN 1).below hb8).below hb9
  go_wp2_with (fail)
  refine kNew (toIntS_any A1 n1 c1 x1 _ (h1.below hB9) hn1) ?_
  intro A1v c1v w10 hc1v h1v hb10 hf1v
  have hB10 : Below w.heap.size w w10 := hB9.trans (hb10.mono hB9.size)
  replace e00 := keep hb10 e00
  replace e01 := keep hb10 e01
  replace e02 := keep hb10 e02
  replace x00 := keep hb10 x00
  replace x01 := keep hb10 x01
  replace x02 := keep hb10 x02
  replace h0s := h0s.below hb10
  replace g0s := g0s.below hb10
  replace h1s := h1s.below hb10
  replace h0x := h0x.below hb10
  replace g0x := g0x.below hb10
  replace h1x := h1x.below hb10
  go_wp2_with (fail)
  refine kQ (eqIntS_any A1x A1v n1 c1x n1 c1v x1 x1 _ h1x h1v (by omega)) ?_ ?_
  rotate_left
  · intro _ hne; exact absurd rfl hne.out
  intro m11 _
  have hb11 := below_drewN (Below.refl w10.heap.size w10) m11
  have hB11 : Below w.heap.size w (w10.drewN m11) := below_drewN hB10 m11
  replace h0s := h0s.drewN m11
  replace g0s := g0s.drewN m11
  replace h1s := h1s.drewN m11
  replace h0x := h0x.drewN m11
  replace g0x := g0x.drewN m11
  replace h1x := h1x.drewN m11
  replace h1v := h1v.drewN m11
  go_wp2
  go_ret
  exact ⟨rfl, hB11⟩

end Go.Proofs.Ytopfhlopicjemaa
