/- The walk of FnGoesOnOk: for every code the law returns true, and the code is left as it was. -/
import Derived.Test.YtikapnphnkoelaaW9
import Derived.Test.YtikapnphnkoelaaW10
set_option linter.unusedSimpArgs false
namespace Go.Proofs.Ytikapnphnkoelaa
open Go.RowKit

set_option maxRecDepth 100000 in
set_option maxHeartbeats 8000000 in
theorem FnGoesOnOk_any (A0 : Option Addr) (n0 c0 : Nat) (w : World) (F0 : n0 ≤ 9223372036854775807 ∧ n0 ≤ c0 ∧ BytsAt w w.heap.size A0 n0) :
    Calls Try.prog 9 #[.slice A0 n0 c0] w fun e w' => e = .returned (.bool true) ∧ Below w.heap.size w w' := by
  obtain ⟨hm0, hc0, h0⟩ := F0
  by_cases hn : n0 ≤ 1048576
  rotate_left
  · go_enter Try.func9, Try.ntmps9
    go_wp2
    go_ret
    exact ⟨rfl, Below.refl _ _⟩
  go_enter Try.func9, Try.ntmps9
  go_wp2_with (fail)
  refine kDState (DrawGoesOnOk_any A0 n0 c0 w h0 hm0 hc0) ?_
  intro pts A n c xs now D m d ds w1 hnc hmd hrow htim hb1
  have HL := Lib.hid htim.len
  have hls := LS.made hb1 hrow htim ⟨hnc.2, hmd.2⟩ pts now c d 25 28
  obtain ⟨w2, HW2⟩ : ∃ q, Hid ((w1.alloc (.cells #[.int .i64 pts, .slice A n c] 25)).alloc (.cells #[.int .i64 now, .slice D m d] 28) = q) := ⟨_, rfl⟩
  rw [HW2.out] at hls
  have L2 := Lib.hid hls
  clear hls hb1 hrow htim
  go_wp2_with (fail)
  rw [HW2.out]
  obtain ⟨P, HPP⟩ : ∃ q, Hid (w1.heap.size = q) := ⟨_, rfl⟩
  rw [HPP.out] at L2 ⊢
  obtain ⟨p0, p1, s0, s1, hpl⟩ := L2.out.cells
  obtain ⟨ok, HOK⟩ : ∃ q, Hid (B (Goes pts xs now ds) = q) := ⟨_, rfl⟩
  have hi1 := iGoesOnOk_any pts A n c xs now D m d ds w2 L2.out.row L2.out.tim
  rw [HOK.out] at hi1
  refine kBV hi1 ?_
  intro w3 hb3
  clear hi1
  have L3 := Lib.hid (L2.out.next hb3)
  clear p0 p1 s0 s1 hpl hb3
  obtain ⟨p0, p1, s0, s1, hpl⟩ := L3.out.cells
  have hi2 := sGoesOnOk_any pts A n c xs now D m d ds w3 L3.out.row L3.out.tim (by omega)
  rw [HOK.out] at hi2
  have HI2 := Lib.hid hi2
  clear hi2
  go_wp2_with (fail)
  refine kBV HI2.out ?_
  intro w4 hb4
  have L4 := Lib.hid (L3.out.next hb4)
  clear p0 p1 s0 s1 hpl hb4
  obtain ⟨p0, p1, s0, s1, hpl⟩ := L4.out.cells
  clear HI2
  go_wp2_with (fail)
  refine kB (sStateOk_any pts A n c xs now D m d ds _ L4.out.row L4.out.tim (by omega)) ?_ ?_
  rotate_left
  · intro w5 hst hb5
    have hokf : ok = false := by rw [← HOK.out]; exact B_false fun hh => hst.out hh.1
    subst hokf
    have L5 := Lib.hid (L4.out.next hb5)
    clear p0 p1 s0 s1 hpl hb5
    obtain ⟨p0, p1, s0, s1, hpl⟩ := L5.out.cells
    go_wp2_with (fail)
    refine kBV (alive_any _) ?_
    intro w6 hb6
    go_wp2
    go_ret
    exact ⟨rfl, L5.out.below.trans (hb6.mono L5.out.below.size)⟩
  · intro w5 hst hb5
    obtain ⟨N, rfl, hN1, hN6⟩ := hst.out.1.1.nat
    obtain rfl : N = m := by have h1 := hst.out.2.1; have h2 := HL.out; omega
    have L5 := Lib.hid (L4.out.next hb5)
    clear p0 p1 s0 s1 hpl hb5
    obtain ⟨p0, p1, s0, s1, hpl⟩ := L5.out.cells
    by_cases hleft : (-1 : Int) ∈ ds
    rotate_left
    · have HKP := Lib.hid (show B (KpOk (N : Int) xs ds) = ok from by rw [← HOK.out]; exact B_congr (goes_done hst.out hleft).symm)
      have hq := hasIntW_any D N d ds (-1) w5 L5.out.tim (by omega)
      rw [B_false hleft] at hq
      have HQ := Lib.hid hq
      clear hq hleft
      go_wp2_with (fail)
      refine kW HQ.out ?_
      intro mm
      have hi3 := iKeepsOk_any (N : Int) A n c xs D N d ds (w5.drewN mm) (L5.out.row.drewN mm) (L5.out.tim.drewN mm) (by omega) (by omega)
      rw [HKP.out] at hi3
      have HI3 := Lib.hid hi3
      clear hi3
      go_wp2_with (fail)
      refine kBV HI3.out ?_
      intro w6 hb6
      have HB6 := Lib.hid (show Below w.heap.size w w6 from (below_drewN L5.out.below mm).trans (hb6.mono L5.out.below.size))
      clear hb6
      cases ok
      all_goals
        go_wp2
        go_ret
        exact ⟨rfl, HB6.out⟩
    · have HOX := Lib.hid (open_of_mem HL.out hleft)
      have HMAY := Lib.hid (show ok = true → ∃ j, j < N ∧ RdyOk (N : Int) xs now ds (j : Int) ∧ loW (cl (T0 xs) N) now ds j N ≤ hiW (cl (T0 xs) N) ds j N ∧ loW (cl (T0 xs) N) now ds j N ≤ dlW (cl (T0 xs) N) ds N N from fun h => may_some (of_B (HOK.out.trans h)) HOX.out)
      have hq := hasIntW_any D N d ds (-1) w5 L5.out.tim (by omega)
      rw [B_true hleft] at hq
      have HQ := Lib.hid hq
      clear hq hleft
      go_wp2_with (fail)
      refine kW HQ.out ?_
      intro mm
      obtain ⟨w6, HW6⟩ : ∃ q, Hid (w5.drewN mm = q) := ⟨_, rfl⟩
      rw [HW6.out]
      have L6 := Lib.hid (show LS w w6 P N A n c xs now D N d ds from HW6.out ▸ L5.out.next (below_drewN (Below.refl _ _) mm))
      clear p0 p1 s0 s1 hpl
      obtain ⟨p0, p1, s0, s1, hpl⟩ := L6.out.cells
      have HDE := Lib.hid (show Dl (N : Int) xs now ds = dlW (cl (T0 xs) N) ds N N by unfold Dl; rw [B_true hst.out]; rfl)
      have hdl := iDeadlineOf_any (N : Int) A n c xs now D N d ds w6 L6.out.row L6.out.tim
      rw [HDE.out] at hdl
      obtain ⟨dl, HDL⟩ : ∃ q, Hid (dlW (cl (T0 xs) N) ds N N = q) := ⟨_, rfl⟩
      rw [HDL.out] at hdl HMAY
      have HD := Lib.hid hdl
      clear hdl
      go_wp2_with (fail)
      refine kBV HD.out ?_
      intro w7 hb7
      have L7 := Lib.hid (L6.out.next hb7)
      clear p0 p1 s0 s1 hpl hb7
      obtain ⟨p0, p1, s0, s1, hpl⟩ := L7.out.cells
      go_wp2_with (fail)
      go_loopw [7, 9] (fun s i wr => ∃ (k : Nat) (bm : Bool), k ≤ N ∧ i = .int .i64 k ∧ s = .bool bm ∧ (bm = false → ∀ x, x < k → ¬ (RdyOk (N : Int) xs now ds (x : Int) ∧ loW (cl (T0 xs) N) now ds x N ≤ hiW (cl (T0 xs) N) ds x N ∧ loW (cl (T0 xs) N) now ds x N ≤ dl)) ∧ LS w wr P N A n c xs now D N d ds) (fun _ i _ => N - (intOf i).toNat)
      case atStart => exact ⟨0, false, Nat.zero_le _, rfl, rfl, fun _ x hx => by omega, L7.out⟩
      case round =>
        obtain ⟨wo, rfl⟩ : ∃ wo : World, wo = wr := ⟨_, rfl⟩
        clear p0 p1 s0 s1 hpl L7
        obtain ⟨k, bm, hk, rfl, rfl, hbm, hls⟩ := hrel
        have LO := Lib.hid hls
        have HBM := Lib.hid hbm
        obtain ⟨p0, p1, s0, s1, hpl⟩ := hls.cells
        clear hls hbm
        by_cases hkN : k < N
        · have hkI : (k : Int) < (N : Int) := by omega
          have HNO := Lib.hid (fun (hb : bm = false) (h : ¬ (RdyOk (N : Int) xs now ds (k : Int) ∧ loW (cl (T0 xs) N) now ds k N ≤ hiW (cl (T0 xs) N) ds k N ∧ loW (cl (T0 xs) N) now ds k N ≤ dl)) (x : Nat) (hx : x < k + 1) => show ¬ (RdyOk (N : Int) xs now ds (x : Int) ∧ loW (cl (T0 xs) N) now ds x N ≤ hiW (cl (T0 xs) N) ds x N ∧ loW (cl (T0 xs) N) now ds x N ≤ dl) from by
            rcases Nat.lt_or_ge x k with h5 | h5
            · exact HBM.out hb x h5
            · obtain rfl : x = k := by omega
              exact h)
          go_wp2_with (fail)
          refine kWin (iWindowOf_any (N : Int) A n c xs now D N d ds (k : Int) wo LO.out.row LO.out.tim (by omega)) ?_ ?_
          · intro w8 hwin hb8
            have L8 := Lib.hid (LO.out.next hb8)
            clear p0 p1 s0 s1 hpl hb8
            obtain ⟨p0, p1, s0, s1, hpl⟩ := L8.out.cells
            rw [show ((N : Nat) : Int).toNat = N from rfl, show ((k : Nat) : Int).toNat = k from rfl]
            obtain ⟨lo, HLO⟩ : ∃ q, Hid (loW (cl (T0 xs) N) now ds k N = q) := ⟨_, rfl⟩
            obtain ⟨hi, HHI⟩ : ∃ q, Hid (hiW (cl (T0 xs) N) ds k N = q) := ⟨_, rfl⟩
            rw [HLO.out, HHI.out] at HNO ⊢
            cases bm with
            | true =>
              go_wp2
              go_roundw
              case rel => exact ⟨k + 1, true, by omega, by go_num, (by first | rfl | trivial | (simp; omega)), (fun e => by cases e), L8.out⟩
              case measure => simp [intOf]; omega
            | false =>
              go_wp2_with (fail)
              refine kB (iReadyOk_any (N : Int) A n c xs now D N d ds (k : Int) w8 L8.out.row L8.out.tim (by omega)) ?_ ?_
              · intro w9 hr hb9
                have L9 := Lib.hid (L8.out.next hb9)
                clear hb9
                by_cases h1 : lo ≤ hi
                · by_cases h2 : lo ≤ dl
                  · go_wp2
                    go_roundw
                    case rel => exact ⟨k + 1, true, by omega, by go_num, (by first | rfl | trivial | (simp; omega)), (fun e => by cases e), L9.out⟩
                    case measure => simp [intOf]; omega
                  · have HN1 := Lib.hid (HNO.out (by first | rfl | trivial) (fun h => h2 h.2.2))
                    go_wp2
                    go_roundw
                    case rel => exact ⟨k + 1, false, by omega, by go_num, (by first | rfl | trivial | (simp; omega)), fun _ => HN1.out, L9.out⟩
                    case measure => simp [intOf]; omega
                · have HN1 := Lib.hid (HNO.out (by first | rfl | trivial) (fun h => h1 h.2.1))
                  go_wp2
                  go_roundw
                  case rel => exact ⟨k + 1, false, by omega, by go_num, (by first | rfl | trivial | (simp; omega)), fun _ => HN1.out, L9.out⟩
                  case measure => simp [intOf]; omega
              · intro w9 hr hb9
                have L9 := Lib.hid (L8.out.next hb9)
                have HN1 := Lib.hid (HNO.out (by first | rfl | trivial) (fun h => hr.out h.1))
                clear hb9
                go_wp2
                go_roundw
                case rel => exact ⟨k + 1, false, by omega, by go_num, (by first | rfl | trivial | (simp; omega)), fun _ => HN1.out, L9.out⟩
                case measure => simp [intOf]; omega
          · intro w8 hwin hb8
            have L8 := Lib.hid (LO.out.next hb8)
            clear hb8
            cases bm with
            | true =>
              go_wp2
              go_roundw
              case rel => exact ⟨k + 1, true, by omega, by go_num, (by first | rfl | trivial | (simp; omega)), (fun e => by cases e), L8.out⟩
              case measure => simp [intOf]; omega
            | false =>
              have HN1 := Lib.hid (HNO.out (by first | rfl | trivial) (fun h => hwin.out h.1.1))
              go_wp2
              go_roundw
              case rel => exact ⟨k + 1, false, by omega, by go_num, (by first | rfl | trivial | (simp; omega)), fun _ => HN1.out, L8.out⟩
              case measure => simp [intOf]; omega
        · obtain rfl : k = N := by omega
          cases ok with
          | false =>
            go_wp2
            go_ret
            exact ⟨rfl, LO.out.below⟩
          | true =>
            have hbt : bm = true := by
              cases bm
              · obtain ⟨j, hj, h⟩ := HMAY.out rfl
                exact absurd h (HBM.out rfl j hj)
              · rfl
            subst hbt
            go_wp2
            go_ret
            exact ⟨rfl, LO.out.below⟩

end Go.Proofs.Ytikapnphnkoelaa
