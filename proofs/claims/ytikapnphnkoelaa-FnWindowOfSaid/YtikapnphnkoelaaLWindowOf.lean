/- The walk of FnWindowOf: for every code the law returns true, and the code is left as it was. -/
import Derived.Test.YtikapnphnkoelaaW9
import Derived.Test.YtikapnphnkoelaaW10
set_option linter.unusedSimpArgs false
namespace Go.Proofs.Ytikapnphnkoelaa
open Go.RowKit

set_option maxRecDepth 100000 in
set_option maxHeartbeats 8000000 in
theorem FnWindowOf_any (A0 : Option Addr) (n0 c0 : Nat) (w : World) (F0 : n0 ≤ 9223372036854775807 ∧ n0 ≤ c0 ∧ BytsAt w w.heap.size A0 n0) :
    Calls Try.prog 6 #[.slice A0 n0 c0] w fun e w' => e = .returned (.bool true) ∧ Below w.heap.size w w' := by
  obtain ⟨hm0, hc0, h0⟩ := F0
  by_cases hn : n0 ≤ 1048576
  rotate_left
  · go_enter Try.func6, Try.ntmps6
    go_wp2
    go_ret
    exact ⟨rfl, Below.refl _ _⟩
  go_enter Try.func6, Try.ntmps6
  go_wp2_with (fail)
  refine kDPoint (DrawWindowOf_any A0 n0 c0 w h0 hm0 hc0) ?_
  intro pts A n c xs now D m d ds i w1 hnc hmd hrow htim hb1
  have HL := Lib.hid htim.len
  have hls := LS.made hb1 hrow htim ⟨hnc.2, hmd.2⟩ pts now c d 25 28
  obtain ⟨w2, HW2⟩ : ∃ q, Hid ((w1.alloc (.cells #[.int .i64 pts, .slice A n c] 25)).alloc (.cells #[.int .i64 now, .slice D m d] 28) = q) := ⟨_, rfl⟩
  rw [HW2.out] at hls
  have L2 := Lib.hid hls
  clear hls hb1 hrow htim
  go_wp2_with (fail)
  rw [HW2.out]
  obtain ⟨P, HPP⟩ : ∃ q, Hid (w1.heap.size = q) := ⟨_, rfl⟩
  rw [HPP.out] at L2 ⊢
  obtain ⟨p0, p1, s0, s1, hpl⟩ := L2.out.cells
  refine kWin (iWindowOf_any pts A n c xs now D m d ds i w2 L2.out.row L2.out.tim (by omega)) ?_ ?_
  · intro w3 hwin hb3
    have L3 := Lib.hid (L2.out.next hb3)
    clear p0 p1 s0 s1 hpl hb3
    obtain ⟨p0, p1, s0, s1, hpl⟩ := L3.out.cells
    obtain ⟨N, j, rfl, rfl, hjN, hN6, hl⟩ := hwin.out.nat
    have hlo : now ≤ loW (cl (T0 xs) N) now ds j N := loW_now _ _ _ _ _
    have HLH := Lib.hid (fun h : Goes (N : Int) xs now ds => lo_hi h hjN hwin.out.2.2)
    rw [show ((N : Nat) : Int).toNat = N from rfl, show ((j : Nat) : Int).toNat = j from rfl]
    have hw2 := sWindowOf_any (N : Int) A n c xs now D m d ds (j : Int) w3 L3.out.row L3.out.tim (by omega)
    have hw3 : Calls Try.prog 25 #[.agg #[.int .i64 (N : Int), .slice A n c], .agg #[.int .i64 now, .slice D m d], .int .i64 (j : Int)] w3 (Bl w3 (.tuple #[.int .i64 (loW (cl (T0 xs) N) now ds j N), .int .i64 (hiW (cl (T0 xs) N) ds j N), .bool true])) :=
      hw2.mono fun e w' ⟨hb, h⟩ => by
        rcases h with ⟨-, he⟩ | ⟨hno, -⟩
        · exact ⟨he, hb⟩
        · exact absurd hwin.out hno
    obtain ⟨lo, HLO⟩ : ∃ q, Hid (loW (cl (T0 xs) N) now ds j N = q) := ⟨_, rfl⟩
    obtain ⟨hi, HHI⟩ : ∃ q, Hid (hiW (cl (T0 xs) N) ds j N = q) := ⟨_, rfl⟩
    rw [HLO.out, HHI.out] at hw3 HLH
    rw [HLO.out] at hlo
    rw [HLO.out, HHI.out]
    have HW3 := Lib.hid hw3
    clear hw2 hw3 hl
    go_wp2_with (fail)
    refine kBV HW3.out ?_
    intro w4 hb4
    have L4 := Lib.hid (L3.out.next hb4)
    clear p0 p1 s0 s1 hpl hb4
    obtain ⟨p0, p1, s0, s1, hpl⟩ := L4.out.cells
    go_wp2_with (fail)
    refine kB (iGoesOnOk_any (N : Int) A n c xs now D m d ds _ L4.out.row L4.out.tim) ?_ ?_
    · intro w5 hg hb5
      have hle := HLH.out hg.out
      have HB5 := Lib.hid (L4.out.below.trans (hb5.mono L4.out.below.size))
      clear hb5
      go_wp2
      go_ret
      exact ⟨rfl, HB5.out⟩
    · intro w5 hg hb5
      have HB5 := Lib.hid (L4.out.below.trans (hb5.mono L4.out.below.size))
      clear hb5
      go_wp2
      go_ret
      exact ⟨rfl, HB5.out⟩
  · intro w3 hwin hb3
    have L3 := Lib.hid (L2.out.next hb3)
    clear p0 p1 s0 s1 hpl hb3
    obtain ⟨p0, p1, s0, s1, hpl⟩ := L3.out.cells
    go_wp2_with (fail)
    refine kWin (sWindowOf_any pts A n c xs now D m d ds i w3 L3.out.row L3.out.tim (by omega)) (fun _ h _ => absurd h.out hwin.out) ?_
    intro w4 _ hb4
    have L4 := Lib.hid (L3.out.next hb4)
    clear p0 p1 s0 s1 hpl hb4
    obtain ⟨p0, p1, s0, s1, hpl⟩ := L4.out.cells
    go_wp2_with (fail)
    refine kBV (alive_any _) ?_
    intro w5 hb5
    go_wp2
    go_ret
    exact ⟨rfl, L4.out.below.trans (hb5.mono L4.out.below.size)⟩

end Go.Proofs.Ytikapnphnkoelaa
