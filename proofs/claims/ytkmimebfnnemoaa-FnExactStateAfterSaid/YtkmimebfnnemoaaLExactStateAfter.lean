/- The walk of FnExactStateAfter. Printed by gen_xsa.py. -/
import Derived.Test.YtkmimebfnnemoaaOS
import Derived.Test.YtkmimebfnnemoaaK3
namespace Go.Proofs.Ytkmimebfnnemoaa
open Go.RowKit

theorem kMarkP {Pr : Program} {f : FuncId} {args : Array Value} {w : World} {R : Ending → World → Prop} {v : Int} {row : Option Nat}
    (h : Calls Pr f args w fun en w' => en = .returned (.int .i64 v) ∧ w.grownBy w' row) (h1 : ∀ w', w.grownBy w' row → R (.returned (.int .i64 v)) w') : Calls Pr f args w R :=
  h.mono fun e w' ⟨he, hg⟩ => by subst he; exact h1 w' hg

set_option maxRecDepth 100000 in
set_option maxHeartbeats 2000000 in
theorem FnExactStateAfter_any (p0 : Int) (A0 : Option Addr) (n0 : Nat) (c0 : Nat) (x0 : List Bd) (A1 : Option Addr) (n1 : Nat) (c1 : Nat) (x1 : List (Int × Int)) (a2 : Int) (w : World) (F0 : n0 ≤ 9223372036854775807 ∧ BndsAt w A0 n0 x0) (F1 : n1 ≤ 9223372036854775807 ∧ HapsAt w A1 n1 x1) :
    Calls Try.prog 4 #[.agg #[.int .i64 p0, .slice A0 n0 c0], .slice A1 n1 c1, .int .i64 a2] w fun e w' => e = .returned (.bool true) ∧ Below w.heap.size w w' := by
  obtain ⟨hm0, h0⟩ := F0
  obtain ⟨hm1, h1⟩ := F1
  obtain ⟨nw, ds, b, hds, HS⟩ := saV_one p0 x0 x1 a2
  replace hds := Lib.hid (show ds.length ≤ 1048576 by omega)
  have HSX := Lib.hid HS
  clear HS
  have hB0 : Below w.heap.size w (w.alloc (.cells #[.int .i64 p0, .slice A0 n0 c0] 24)) := (Below.refl w.heap.size w).alloc (Nat.le_refl _) _
  go_enter Try.func4, Try.ntmps4
  go_wp2_with (fail)
  refine kSz (szPlan_any p0 A0 n0 c0 1048576 _ hm0 (by omega)) ?_ ?_
  rotate_left
  · intro r0 w1 hr0 hb1
    go_wp2
    go_ret
    exact ⟨rfl, hB0.trans (hb1.mono hB0.size)⟩
  intro r0 w1 hp0 hr0 hs0 hb1
  have hB1 : Below w.heap.size w w1 := hB0.trans (hb1.mono hB0.size)
  have e00 : w1.cell? ⟨w.heap.size, 0, none⟩ = some (.int .i64 p0) := keep hb1 (by simp [go_sem])
  have e01 : w1.cell? ⟨w.heap.size, 1, none⟩ = some (.slice A0 n0 c0) := keep hb1 (by simp [go_sem])
  go_wp2_with (fail)
  refine kSz (szHappeningS_ok A1 n1 c1 r0 _ hm1 ⟨hr0, hs0⟩) ?_ ?_
  rotate_left
  · intro r1 w2 hr1 hb2
    go_wp2
    go_ret
    exact ⟨rfl, hB1.trans (hb2.mono hB1.size)⟩
  intro r1 w2 hp1 hr1 hs1 hb2
  have hB2 : Below w.heap.size w w2 := hB1.trans (hb2.mono hB1.size)
  replace e00 := keep hb2 e00
  replace e01 := keep hb2 e01
  go_wp2_with (fail)
  refine kPlanO (toPlan_own p0 A0 n0 c0 x0 _ (h0.below hB2) hp0.out) ?_
  intro As0 cs0 w3 hs0 hb3 
  have hB3 : Below w.heap.size w w3 := hB2.trans (hb3.mono hB2.size)
  replace e00 := keep hb3 e00
  replace e01 := keep hb3 e01
  go_wp2_with (fail)
  refine kNewOwnH (toHappeningS_own A1 n1 c1 x1 _ (h1.below hB3) hp1.out) ?_
  intro As1 cs1 w4 hs1 hb4 
  have hB4 : Below w.heap.size w w4 := hB3.trans (hb4.mono hB3.size)
  replace e00 := keep hb4 e00
  replace e01 := keep hb4 e01
  replace hs0 := own_below hs0 hb4
  have hcs := (sStateAfter_any p0 As0 n0 cs0 x0 As1 n1 cs1 x1 a2 _ (OwnB.at_ hs0) (OwnH.at_ hs1) hp0.out hp1.out).mono (HSX.out _)
  go_wp2_with (fail)
  refine kSt hcs ?_
  intro Aw cw w5 hw hb5 
  have hB5 : Below w.heap.size w w5 := hB4.trans (hb5.mono hB4.size)
  replace e00 := keep hb5 e00
  replace e01 := keep hb5 e01
  clear hcs hs0 hs1
  have lhw := Lib.hid (show ∀ k, Value.ownBlock (.slice Aw ds.length cw) = some k → w4.heap.size ≤ k ∧ k < w5.heap.size from fun k hk => by have h1 := (hw.lt k hk).1; have h2 := (hw.lt k hk).2; (try simp at h1 h2); omega)
  have hz5 : w.heap.size < w5.heap.size := cell_lt e00
  have hx5 : Below w5.heap.size w5 (w5.alloc (.cells #[.int .i64 nw, .slice Aw ds.length cw] 40)) := (Below.refl _ _).alloc (Nat.le_refl _) _
  go_wp2_with (fail)
  refine kPlanO (toPlan_own p0 A0 n0 c0 x0 _ (h0.below (hB5.trans (hx5.mono hB5.size))) hp0.out) ?_
  intro Ax cx w6 hx hb6 
  have hB6 : Below w.heap.size w w6 := (hB5.trans (hx5.mono hB5.size)).trans (hb6.mono (Nat.le_trans hB5.size hx5.size))
  replace e00 := keep hb6 (keep hx5 e00)
  replace e01 := keep hb6 (keep hx5 e01)
  replace hw := own_below (own_below hw hx5) hb6
  have g0 : w6.cell? ⟨w5.heap.size, 0, none⟩ = some (.int .i64 nw) := keep hb6 (by simp [go_sem])
  have g1 : w6.cell? ⟨w5.heap.size, 1, none⟩ = some (.slice Aw ds.length cw) := keep hb6 (by simp [go_sem])
  have lhx := Lib.hid (show ∀ k, Value.ownBlock (.slice Ax n0 cx) = some k → w5.heap.size < k ∧ k < w6.heap.size from fun k hk => by have h1 := (hx.lt k hk).1; have h2 := (hx.lt k hk).2; (try simp at h1 h2); omega)
  have hz6 : w5.heap.size < w6.heap.size := cell_lt g0
  have hx6 : Below w6.heap.size w6 (w6.alloc (.cells #[.int .i64 p0, .slice Ax n0 cx] 31)) := (Below.refl _ _).alloc (Nat.le_refl _) _
  go_wp2_with (fail)
  refine kNewOwnH (toHappeningS_own A1 n1 c1 x1 _ (h1.below (hB6.trans (hx6.mono hB6.size))) hp1.out) ?_
  intro Ay cy w7 hy hb7 
  have hB7 : Below w.heap.size w w7 := (hB6.trans (hx6.mono hB6.size)).trans (hb7.mono (Nat.le_trans hB6.size hx6.size))
  replace e00 := keep hb7 (keep hx6 e00)
  replace e01 := keep hb7 (keep hx6 e01)
  replace g0 := keep hb7 (keep hx6 g0)
  replace g1 := keep hb7 (keep hx6 g1)
  replace hw := own_below (own_below hw hx6) hb7
  replace hx := own_below (own_below hx hx6) hb7
  have x00 : w7.cell? ⟨w6.heap.size, 0, none⟩ = some (.int .i64 p0) := keep hb7 (by simp [go_sem])
  have x01 : w7.cell? ⟨w6.heap.size, 1, none⟩ = some (.slice Ax n0 cx) := keep hb7 (by simp [go_sem])
  have lhy := Lib.hid (show ∀ k, Value.ownBlock (.slice Ay n1 cy) = some k → w6.heap.size < k ∧ k < w7.heap.size from fun k hk => by have h1 := (hy.lt k hk).1; have h2 := (hy.lt k hk).2; (try simp at h1 h2); omega)
  have hci := (iStateAfter_any p0 Ax n0 cx x0 Ay n1 cy x1 a2 _ (OwnB.at_ hx) (OwnH.at_ hy) hp0.out hp1.out).mono (HSX.out _)
  go_wp2_with (fail)
  refine kSt hci ?_
  intro Ag cg w8 hg hb8 
  have hB8 : Below w.heap.size w w8 := hB7.trans (hb8.mono hB7.size)
  replace e00 := keep hb8 e00
  replace e01 := keep hb8 e01
  replace g0 := keep hb8 g0
  replace g1 := keep hb8 g1
  replace x00 := keep hb8 x00
  replace x01 := keep hb8 x01
  replace hw := own_below hw hb8
  replace hx := own_below hx hb8
  replace hy := own_below hy hb8
  clear hci
  have lhg := Lib.hid (show ∀ k, Value.ownBlock (.slice Ag ds.length cg) = some k → w7.heap.size ≤ k ∧ k < w8.heap.size from fun k hk => by have h1 := (hg.lt k hk).1; have h2 := (hg.lt k hk).2; (try simp at h1 h2); omega)
  have hz7 : w6.heap.size < w8.heap.size := cell_lt x00
  have hz8 : w5.heap.size < w8.heap.size := cell_lt g0
  have hx8 : Below w8.heap.size w8 (w8.alloc (.cells #[.int .i64 nw, .slice Ag ds.length cg] 40)) := (Below.refl _ _).alloc (Nat.le_refl _) _
  go_wp2_with (fail)
  refine kBV (eqState_any nw Ag Aw ds.length cg cw ds _ (OwnZ.at_ (own_below hg hx8)) (OwnZ.at_ (own_below hw hx8)) hds.out) ?_
  intro w9 hb9 
  have hB9 : Below w.heap.size w w9 := (hB8.trans (hx8.mono hB8.size)).trans (hb9.mono (Nat.le_trans hB8.size hx8.size))
  replace e00 := keep hb9 (keep hx8 e00)
  replace e01 := keep hb9 (keep hx8 e01)
  replace g0 := keep hb9 (keep hx8 g0)
  replace g1 := keep hb9 (keep hx8 g1)
  replace x00 := keep hb9 (keep hx8 x00)
  replace x01 := keep hb9 (keep hx8 x01)
  replace hw := own_below (own_below hw hx8) hb9
  replace hx := own_below (own_below hx hx8) hb9
  replace hy := own_below (own_below hy hx8) hb9
  replace hg := own_below (own_below hg hx8) hb9
  have k0 : w9.cell? ⟨w8.heap.size, 0, none⟩ = some (.int .i64 nw) := keep hb9 (by simp [go_sem])
  have k1 : w9.cell? ⟨w8.heap.size, 1, none⟩ = some (.slice Ag ds.length cg) := keep hb9 (by simp [go_sem])
  have hz7g := hb8.size
  have hz67 : w6.heap.size < w7.heap.size := by have := hb7.size; simp at this; omega
  have hz9 := Lib.hid (And.intro hz5 (And.intro hz6 (And.intro hz67 hz7g)))
  clear hz7g hz67
  go_wp2_with (fail)
  go_region_held3 (fun w' => w'.cell? ⟨w6.heap.size, 0, none⟩ = some (.int .i64 p0) ∧ w'.cell? ⟨w6.heap.size, 1, none⟩ = some (.slice Ax n0 cx) ∧ w'.cell? ⟨w.heap.size, 0, none⟩ = some (.int .i64 p0) ∧ w'.cell? ⟨w.heap.size, 1, none⟩ = some (.slice A0 n0 c0))
    (first | exact ⟨x00, x01, e00, e01⟩ | exact ⟨keep hb11 (keep hb10 x00), keep hb11 (keep hb10 x01), keep hb11 (keep hb10 e00), keep hb11 (keep hb10 e01)⟩ | exact ⟨keep hb10 x00, keep hb10 x01, keep hb10 e00, keep hb10 e01⟩)
    (first
      | (go_at_call 11; refine kPlan (toPlan_any p0 A0 n0 c0 x0 _ ((h0.below hB9).drewN 1) hp0.out) ?_; intro A0v c0v w10 hc0v h0v hb10 hf0v)
      | (go_at_call 14; refine kBV (eqPlan_any p0 Ax n0 cx x0 A0v c0v _ ((((OwnB.at_ hx).drewN 1).below hb10)) h0v hp0.out) ?_; intro w11 hb11))
  have hB11 : Below w.heap.size w w11 := ((hB9.drew).trans (hb10.mono hB9.size)).trans (hb11.mono (Nat.le_trans hB9.size hb10.size))
  replace e00 := keep hb11 (keep hb10 (show (w9.drew).cell? _ = _ from e00))
  replace e01 := keep hb11 (keep hb10 (show (w9.drew).cell? _ = _ from e01))
  replace g0 := keep hb11 (keep hb10 (show (w9.drew).cell? _ = _ from g0))
  replace g1 := keep hb11 (keep hb10 (show (w9.drew).cell? _ = _ from g1))
  replace x00 := keep hb11 (keep hb10 (show (w9.drew).cell? _ = _ from x00))
  replace x01 := keep hb11 (keep hb10 (show (w9.drew).cell? _ = _ from x01))
  replace k0 := keep hb11 (keep hb10 (show (w9.drew).cell? _ = _ from k0))
  replace k1 := keep hb11 (keep hb10 (show (w9.drew).cell? _ = _ from k1))
  replace hw := own_below (own_below (own_drewN hw 1) hb10) hb11
  replace hx := own_below (own_below (own_drewN hx 1) hb10) hb11
  replace hy := own_below (own_below (own_drewN hy 1) hb10) hb11
  replace hg := own_below (own_below (own_drewN hg 1) hb10) hb11
  go_wp2_with (fail)
  refine kNewHapsAt (toHappeningS_any A1 n1 c1 x1 _ (h1.below hB11) hp1.out) ?_
  intro A1v c1v w12 hc1v h1v hb12 hf1v 
  have hB12 : Below w.heap.size w w12 := hB11.trans (hb12.mono hB11.size)
  replace e00 := keep hb12 e00
  replace e01 := keep hb12 e01
  replace g0 := keep hb12 g0
  replace g1 := keep hb12 g1
  replace x00 := keep hb12 x00
  replace x01 := keep hb12 x01
  replace k0 := keep hb12 k0
  replace k1 := keep hb12 k1
  replace hw := own_below hw hb12
  replace hx := own_below hx hb12
  replace hy := own_below hy hb12
  replace hg := own_below hg hb12
  go_wp2_with (fail)
  refine kB (eqHappeningS_any Ay A1v n1 cy n1 c1v x1 x1 _ (OwnH.at_ hy) h1v (by have := hp1.out; omega)) ?_ ?_
  rotate_left
  · intro _ hne _; exact absurd rfl hne.out
  intro w13 _ hb13 
  have hB13 : Below w.heap.size w w13 := hB12.trans (hb13.mono hB12.size)
  replace e00 := keep hb13 e00
  replace e01 := keep hb13 e01
  replace g0 := keep hb13 g0
  replace g1 := keep hb13 g1
  replace x00 := keep hb13 x00
  replace x01 := keep hb13 x01
  replace k0 := keep hb13 k0
  replace k1 := keep hb13 k1
  replace hw := own_below hw hb13
  replace hx := own_below hx hb13
  replace hy := own_below hy hb13
  replace hg := own_below hg hb13
  go_wp2_with (fail)
  refine kMarkP (markPlan_any p0 _ Ax n0 cx x0 _ hx hp0.out) ?_
  intro w14 gx
  have hB14 : Below w.heap.size w w14 := hB13.grown gx hB13.size (fun k hk => by have := (lhx.out k hk).1; have := hz9.out; omega)
  replace e00 := gx.cell e00 (fun hk => by have hq := lhx.out _ hk.symm; dsimp only at hq; have := hz9.out; omega)
  replace e01 := gx.cell e01 (fun hk => by have hq := lhx.out _ hk.symm; dsimp only at hq; have := hz9.out; omega)
  replace g0 := gx.cell g0 (fun hk => by have hq := lhx.out _ hk.symm; dsimp only at hq; have := hz9.out; omega)
  replace g1 := gx.cell g1 (fun hk => by have hq := lhx.out _ hk.symm; dsimp only at hq; have := hz9.out; omega)
  replace k0 := gx.cell k0 (fun hk => by have hq := lhx.out _ hk.symm; dsimp only at hq; have := hz9.out; omega)
  replace k1 := gx.cell k1 (fun hk => by have hq := lhx.out _ hk.symm; dsimp only at hq; have := hz9.out; omega)
  replace hw := own_keptZ hw gx (fun k hk hq => by have := lhw.out k hk; have := lhx.out k hq; have := hz9.out; omega)
  replace hy := own_keptZ hy gx (fun k hk hq => by have := lhy.out k hk; have := lhx.out k hq; have := hz9.out; omega)
  replace hg := own_keptZ hg gx (fun k hk hq => by have := lhg.out k hk; have := lhx.out k hq; have := hz9.out; omega)
  clear hx x00 x01
  go_wp2_with (fail)
  refine kMarkP (markHappeningS_any _ Ay n1 cy x1 (1 + 3 * (n0 : Int)) _ hy hp1.out (by have := hp0.out; omega)) ?_
  intro w15 gy
  have hB15 : Below w.heap.size w w15 := hB14.grown gy hB14.size (fun k hk => by have := (lhy.out k hk).1; have := hz9.out; omega)
  replace e00 := gy.cell e00 (fun hk => by have hq := lhy.out _ hk.symm; dsimp only at hq; have := hz9.out; omega)
  replace e01 := gy.cell e01 (fun hk => by have hq := lhy.out _ hk.symm; dsimp only at hq; have := hz9.out; omega)
  replace g0 := gy.cell g0 (fun hk => by have hq := lhy.out _ hk.symm; dsimp only at hq; have := hz9.out; omega)
  replace g1 := gy.cell g1 (fun hk => by have hq := lhy.out _ hk.symm; dsimp only at hq; have := hz9.out; omega)
  replace k0 := gy.cell k0 (fun hk => by have hq := lhy.out _ hk.symm; dsimp only at hq; have := hz9.out; omega)
  replace k1 := gy.cell k1 (fun hk => by have hq := lhy.out _ hk.symm; dsimp only at hq; have := hz9.out; omega)
  replace hw := own_keptZ hw gy (fun k hk hq => by have := lhw.out k hk; have := lhy.out k hq; have := hz9.out; omega)
  replace hg := own_keptZ hg gy (fun k hk hq => by have := lhg.out k hk; have := lhy.out k hq; have := hz9.out; omega)
  clear hy
  have hneg : ¬ (1 + 3 * (n0 : Int) + 2 * (n1 : Int)) < 0 := by omega
  go_wp2_with (fail)
  refine kBV (eqState_any nw Ag Aw ds.length cg cw ds _ (OwnZ.at_ hg) (OwnZ.at_ hw) hds.out) ?_
  intro w16 hb16 
  have hB16 : Below w.heap.size w w16 := hB15.trans (hb16.mono hB15.size)
  replace e00 := keep hb16 e00
  replace e01 := keep hb16 e01
  replace g0 := keep hb16 g0
  replace g1 := keep hb16 g1
  replace k0 := keep hb16 k0
  replace k1 := keep hb16 k1
  replace hw := own_below hw hb16
  replace hg := own_below hg hb16
  go_wp2_with (fail)
  refine kMarkBound (markState_any nw _ Ag ds.length cg ds _ hg hds.out) ?_
  intro w17 hg' gg
  have hB17 : Below w.heap.size w w17 := hB16.grown gg hB16.size (fun k hk => by have := (lhg.out k hk).1; have := hz9.out; omega)
  replace e00 := gg.cell e00 (fun hk => by have hq := lhg.out _ hk.symm; dsimp only at hq; have := hz9.out; omega)
  replace e01 := gg.cell e01 (fun hk => by have hq := lhg.out _ hk.symm; dsimp only at hq; have := hz9.out; omega)
  replace g0 := gg.cell g0 (fun hk => by have hq := lhg.out _ hk.symm; dsimp only at hq; have := hz9.out; omega)
  replace g1 := gg.cell g1 (fun hk => by have hq := lhg.out _ hk.symm; dsimp only at hq; have := hz9.out; omega)
  replace k0 := gg.cell k0 (fun hk => by have hq := lhg.out _ hk.symm; dsimp only at hq; have := hz9.out; omega)
  replace k1 := gg.cell k1 (fun hk => by have hq := lhg.out _ hk.symm; dsimp only at hq; have := hz9.out; omega)
  replace hw := own_keptZ hw gg (fun k hk hq => by have := lhw.out k hk; have := lhg.out k hq; have := hz9.out; omega)
  clear hg
  have hneg2 : ¬ (1 + (ds.length : Int)) < 0 := by omega
  go_wp2_with (fail)
  refine kBV (heldState_any nw Ag ds.length cg _ (OwnZ.at_ hg') hds.out) ?_
  intro w18 hb18 
  have hB18 : Below w.heap.size w w18 := hB17.trans (hb18.mono hB17.size)
  replace e00 := keep hb18 e00
  replace e01 := keep hb18 e01
  replace g0 := keep hb18 g0
  replace g1 := keep hb18 g1
  replace k0 := keep hb18 k0
  replace k1 := keep hb18 k1
  replace hw := own_below hw hb18
  replace hg' := own_below hg' hb18
  go_wp2_with (fail)
  refine kPlanO (toPlan_own p0 A0 n0 c0 x0 _ (h0.below hB18) hp0.out) ?_
  intro As0 cs0 w19 hs0 hb19 
  have hB19 : Below w.heap.size w w19 := hB18.trans (hb19.mono hB18.size)
  replace e00 := keep hb19 e00
  replace e01 := keep hb19 e01
  replace g0 := keep hb19 g0
  replace g1 := keep hb19 g1
  replace k0 := keep hb19 k0
  replace k1 := keep hb19 k1
  replace hw := own_below hw hb19
  replace hg' := own_below hg' hb19
  go_wp2_with (fail)
  refine kNewOwnH (toHappeningS_own A1 n1 c1 x1 _ (h1.below hB19) hp1.out) ?_
  intro As1 cs1 w20 hs1 hb20 
  have hB20 : Below w.heap.size w w20 := hB19.trans (hb20.mono hB19.size)
  replace e00 := keep hb20 e00
  replace e01 := keep hb20 e01
  replace g0 := keep hb20 g0
  replace g1 := keep hb20 g1
  replace k0 := keep hb20 k0
  replace k1 := keep hb20 k1
  replace hw := own_below hw hb20
  replace hg' := own_below hg' hb20
  replace hs0 := own_below hs0 hb20
  have hci := (iStateAfter_any p0 As0 n0 cs0 x0 As1 n1 cs1 x1 a2 _ (OwnB.at_ hs0) (OwnH.at_ hs1) hp0.out hp1.out).mono (HSX.out _)
  go_wp2_with (fail)
  refine kSt hci ?_
  intro Ah ch w21 hh hb21 
  have hB21 : Below w.heap.size w w21 := hB20.trans (hb21.mono hB20.size)
  replace e00 := keep hb21 e00
  replace e01 := keep hb21 e01
  replace g0 := keep hb21 g0
  replace g1 := keep hb21 g1
  replace k0 := keep hb21 k0
  replace k1 := keep hb21 k1
  replace hw := own_below hw hb21
  replace hg' := own_below hg' hb21
  clear hci hs0 hs1
  have hz21 : w5.heap.size < w21.heap.size := cell_lt g0
  have hz22 : w8.heap.size < w21.heap.size := cell_lt k0
  have hx21 : Below w21.heap.size w21 (w21.alloc (.cells #[.int .i64 nw, .slice Ah ds.length ch] 40)) := (Below.refl _ _).alloc (Nat.le_refl _) _
  go_wp2_with (fail)
  refine kBV (eqState_any nw Ah Aw ds.length ch cw ds _ (OwnZ.at_ (own_below hh hx21)) (OwnZ.at_ (own_below hw hx21)) hds.out) ?_
  intro w22 hb22 
  have hB22 : Below w.heap.size w w22 := (hB21.trans (hx21.mono hB21.size)).trans (hb22.mono (Nat.le_trans hB21.size hx21.size))
  replace e00 := keep hb22 (keep hx21 e00)
  replace e01 := keep hb22 (keep hx21 e01)
  replace g0 := keep hb22 (keep hx21 g0)
  replace g1 := keep hb22 (keep hx21 g1)
  replace k0 := keep hb22 (keep hx21 k0)
  replace k1 := keep hb22 (keep hx21 k1)
  replace hw := own_below (own_below hw hx21) hb22
  replace hg' := own_below (own_below hg' hx21) hb22
  replace hh := own_below (own_below hh hx21) hb22
  go_wp2_with (fail)
  refine kBV (heldState_any nw Ag ds.length cg _ (OwnZ.at_ hg') hds.out) ?_
  intro w23 hb23 
  have hB23 : Below w.heap.size w w23 := hB22.trans (hb23.mono hB22.size)
  replace e00 := keep hb23 e00
  replace e01 := keep hb23 e01
  replace g0 := keep hb23 g0
  replace g1 := keep hb23 g1
  replace k0 := keep hb23 k0
  replace k1 := keep hb23 k1
  replace hw := own_below hw hb23
  replace hg' := own_below hg' hb23
  replace hh := own_below hh hb23
  go_wp2
  go_ret
  exact ⟨rfl, hB23⟩

end Go.Proofs.Ytkmimebfnnemoaa
