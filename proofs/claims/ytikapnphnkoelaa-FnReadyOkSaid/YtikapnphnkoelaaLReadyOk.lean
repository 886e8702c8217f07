/- The walk of FnReadyOk: for every code the law returns true, and the code is left as it was. -/
import Derived.Test.YtikapnphnkoelaaW9
import Derived.Test.YtikapnphnkoelaaW10
set_option linter.unusedSimpArgs false
namespace Go.Proofs.Ytikapnphnkoelaa
open Go.RowKit

set_option maxRecDepth 100000 in
set_option maxHeartbeats 8000000 in
theorem FnReadyOk_any (A0 : Option Addr) (n0 c0 : Nat) (w : World) (F0 : n0 ≤ 9223372036854775807 ∧ n0 ≤ c0 ∧ BytsAt w w.heap.size A0 n0) :
    Calls Try.prog 4 #[.slice A0 n0 c0] w fun e w' => e = .returned (.bool true) ∧ Below w.heap.size w w' := by
  obtain ⟨hm0, hc0, h0⟩ := F0
  by_cases hn : n0 ≤ 1048576
  rotate_left
  · go_enter Try.func4, Try.ntmps4
    go_wp2
    go_ret
    exact ⟨rfl, Below.refl _ _⟩
  go_enter Try.func4, Try.ntmps4
  go_wp2_with (fail)
  refine kDPoint (DrawReadyOk_any A0 n0 c0 w h0 hm0 hc0) ?_
  intro pts A n c xs now D m d ds i w1 hnc hmd hrow htim hb1
  have HL := Lib.hid htim.len
  have hls := LS.made hb1 hrow htim ⟨hnc.2, hmd.2⟩ pts now c d 25 28
  obtain ⟨w2, HW2⟩ : ∃ q, Hid ((w1.alloc (.cells #[.int .i64 pts, .slice A n c] 25)).alloc (.cells #[.int .i64 now, .slice D m d] 28) = q) := ⟨_, rfl⟩
  rw [HW2.out] at hls
  have L2 := Lib.hid hls
  clear hls hb1 hrow htim
  go_wp2_with (fail)
  rw [HW2.out]
  obtain ⟨P, HPP⟩ : ∃ q, Hid (w1.heap.size = q) := ⟨_, rfl⟩
  rw [HPP.out] at L2 ⊢
  obtain ⟨p0, p1, s0, s1, hpl⟩ := L2.out.cells
  obtain ⟨ok, HOK⟩ : ∃ q, Hid (B (RdyOk pts xs now ds i) = q) := ⟨_, rfl⟩
  have hi1 := iReadyOk_any pts A n c xs now D m d ds i w2 L2.out.row L2.out.tim (by omega)
  rw [HOK.out] at hi1
  refine kBV hi1 ?_
  intro w3 hb3
  clear hi1
  have L3 := Lib.hid (L2.out.next hb3)
  clear p0 p1 s0 s1 hpl hb3
  obtain ⟨p0, p1, s0, s1, hpl⟩ := L3.out.cells
  have hi2 := sReadyOk_any pts A n c xs now D m d ds i w3 L3.out.row L3.out.tim (by omega)
  rw [HOK.out] at hi2
  have HI2 := Lib.hid hi2
  clear hi2
  go_wp2_with (fail)
  refine kBV HI2.out ?_
  intro w4 hb4
  have L4 := Lib.hid (L3.out.next hb4)
  clear p0 p1 s0 s1 hpl hb4
  obtain ⟨p0, p1, s0, s1, hpl⟩ := L4.out.cells
  clear HI2
  go_wp2_with (fail)
  refine kB (sStateOk_any pts A n c xs now D m d ds _ L4.out.row L4.out.tim (by omega)) ?_ ?_
  rotate_left
  · intro w5 hst hb5
    have hokf : ok = false := by rw [← HOK.out]; exact B_false fun hh => hst.out hh.1.1
    subst hokf
    have L5 := Lib.hid (L4.out.next hb5)
    clear p0 p1 s0 s1 hpl hb5
    obtain ⟨p0, p1, s0, s1, hpl⟩ := L5.out.cells
    go_wp2_with (fail)
    refine kBV (alive_any _) ?_
    intro w6 hb6
    go_wp2
    go_ret
    exact ⟨rfl, L5.out.below.trans (hb6.mono L5.out.below.size)⟩
  · intro w5 hst hb5
    obtain ⟨N, rfl, hN1, hN6⟩ := hst.out.1.1.nat
    obtain rfl : N = m := by have h1 := hst.out.2.1; have h2 := HL.out; omega
    have L5 := Lib.hid (L4.out.next hb5)
    clear p0 p1 s0 s1 hpl hb5
    obtain ⟨p0, p1, s0, s1, hpl⟩ := L5.out.cells
    have HRO := Lib.hid (show ∀ k, k < N → ok = true → RdyOk (N : Int) xs now ds (k : Int) → 0 ≤ cl (T0 xs) N i.toNat k from fun k hk h1 h2 => (of_B (HOK.out.trans h1)).2 k hk h2.1.2.2)
    have HOP := Lib.hid (fun (k : Nat) (hk : k < N) => openAt_iff HL.out hk)
    have HRS := Lib.hid (ready_some hst.out)
    go_wp2_with (fail)
    go_loopw [7, 8, 9] (fun s l i wr => ∃ (k : Nat) (bs bl : Bool), k ≤ N ∧ i = .int .i64 k ∧ s = .bool bs ∧ l = .bool bl ∧ (bs = true ↔ ∃ x, x < k ∧ RdyOk (N : Int) xs now ds (x : Int)) ∧ (bl = true ↔ ∃ x, x < k ∧ ds.getD x 0 = -1) ∧ LS w wr P N A n c xs now D N d ds) (fun _ _ i _ => N - (intOf i).toNat)
    case atStart => exact ⟨0, false, false, Nat.zero_le _, rfl, rfl, rfl, ⟨(fun h => by cases h), (fun ⟨x, hx, _⟩ => by omega)⟩, ⟨(fun h => by cases h), (fun ⟨x, hx, _⟩ => by omega)⟩, L5.out⟩
    case round =>
      obtain ⟨wo, rfl⟩ : ∃ wo : World, wo = wr := ⟨_, rfl⟩
      clear p0 p1 s0 s1 hpl L5
      obtain ⟨k, rs, rl, hk, rfl, rfl, rfl, hrs, hrl, hls⟩ := hrel
      have LO := Lib.hid hls
      have HRS1 := Lib.hid hrs
      have HRL1 := Lib.hid hrl
      obtain ⟨p0, p1, s0, s1, hpl⟩ := hls.cells
      clear hls hrs hrl
      by_cases hkN : k < N
      · have hkI : (k : Int) < (N : Int) := by omega
        obtain ⟨rk, HRK⟩ : ∃ q, Hid (B (RdyOk (N : Int) xs now ds (k : Int)) = q) := ⟨_, rfl⟩
        have hi1 := iReadyOk_any (N : Int) A n c xs now D N d ds (k : Int) wo LO.out.row LO.out.tim (by omega)
        rw [HRK.out] at hi1
        have HI1 := Lib.hid hi1
        clear hi1
        have HRK2 := Lib.hid (show rk = true ↔ RdyOk (N : Int) xs now ds (k : Int) from ⟨fun h => of_B (HRK.out.trans h), fun h => by rw [← HRK.out]; exact B_true h⟩)
        have HNS := Lib.hid (show ((rs || rk) = true ↔ ∃ x, x < k + 1 ∧ RdyOk (N : Int) xs now ds (x : Int)) from by
          rw [Bool.or_eq_true, HRS1.out, HRK2.out]
          constructor
          · rintro (⟨x, hx, h⟩ | h)
            · exact ⟨x, by omega, h⟩
            · exact ⟨k, by omega, h⟩
          · rintro ⟨x, hx, h⟩
            rcases Nat.lt_or_ge x k with h5 | h5
            · exact .inl ⟨x, h5, h⟩
            · obtain rfl : x = k := by omega
              exact .inr h)
        have HNL := Lib.hid (show ((rl || (ds.getD k 0 == -1)) = true ↔ ∃ x, x < k + 1 ∧ ds.getD x 0 = -1) from by
          rw [Bool.or_eq_true, HRL1.out, beq_iff_eq]
          constructor
          · rintro (⟨x, hx, h⟩ | h)
            · exact ⟨x, by omega, h⟩
            · exact ⟨k, by omega, h⟩
          · rintro ⟨x, hx, h⟩
            rcases Nat.lt_or_ge x k with h5 | h5
            · exact .inl ⟨x, h5, h⟩
            · obtain rfl : x = k := by omega
              exact .inr h)
        have HNN := Lib.hid (show ok = true → rk = true → 0 ≤ cl (T0 xs) N i.toNat k from fun h1 h2 => HRO.out k hkN h1 (HRK2.out.1 h2))
        go_wp2_with (fail)
        refine kBV HI1.out ?_
        intro w6 hb6
        have L6 := Lib.hid (LO.out.next hb6)
        clear p0 p1 s0 s1 hpl hb6
        obtain ⟨p0, p1, s0, s1, hpl⟩ := L6.out.cells
        obtain ⟨b, off, rfl, hc⟩ := L6.out.tim.cells (by omega)
        have c0 := hc k (by omega)
        have hkm : (k : Int) < (N : Int) := by omega
        obtain ⟨y, HY⟩ : ∃ q, Hid (ds.getD k 0 = q) := ⟨_, rfl⟩
        rw [HY.out] at c0 HNL
        obtain ⟨yb, HYB⟩ : ∃ q, Hid ((y == -1) = q) := ⟨_, rfl⟩
        rw [HYB.out] at HNL
        have hyb := HYB.out
        clear hc
        cases rs <;> cases rl
        all_goals
          go_wp2_with (fail)
          refine kMost (iMostOf_any (N : Int) A n c xs i (k : Int) _ L6.out.row) ?_ ?_
          · intro w7 hmo hb7
            have L7 := Lib.hid (L6.out.next hb7)
            clear hb7
            rw [show ((N : Nat) : Int).toNat = N from rfl, show ((k : Nat) : Int).toNat = k from rfl]
            have hnn := HNN.out
            obtain ⟨z, HZ⟩ : ∃ q, Hid (cl (T0 xs) N i.toNat k = q) := ⟨_, rfl⟩
            rw [HZ.out] at hnn ⊢
            cases ok <;> cases rk
            case true.true =>
              have hz := hnn rfl rfl
              clear hnn
              go_wp2
              go_roundw
              case rel => exact ⟨k + 1, _, _, by omega, by go_num, rfl, rfl, HNS.out, HNL.out, L7.out⟩
              case measure => simp [intOf]; omega
            all_goals
              clear hnn
              go_wp2
              go_roundw
              case rel => exact ⟨k + 1, _, _, by omega, by go_num, rfl, rfl, HNS.out, HNL.out, L7.out⟩
              case measure => simp [intOf]; omega
          · intro w7 hmo hb7
            have L7 := Lib.hid (L6.out.next hb7)
            clear hb7
            cases ok <;> cases rk
            all_goals
              go_wp2
              go_roundw
              case rel => exact ⟨k + 1, _, _, by omega, by go_num, rfl, rfl, HNS.out, HNL.out, L7.out⟩
              case measure => simp [intOf]; omega
      · obtain rfl : k = N := by omega
        have hrr : rs = rl := by
          have h1 := HRS1.out
          have h2 := HRL1.out
          cases rs <;> cases rl
          · rfl
          · exact absurd (h1.2 (HRS.out (h2.1 rfl))) (by decide)
          · obtain ⟨x, hx, h⟩ := h1.1 rfl
            exact absurd (h2.2 ⟨x, hx, h.1.2.2⟩) (by decide)
          · rfl
        subst hrr
        cases rs
        all_goals
          go_wp2
          go_ret
          exact ⟨rfl, LO.out.below⟩

end Go.Proofs.Ytikapnphnkoelaa
