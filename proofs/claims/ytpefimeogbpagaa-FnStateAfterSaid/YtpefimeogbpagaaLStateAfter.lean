/- The walk of FnStateAfter: for every code the law returns true, and the code is left as it was. -/
import Derived.Test.YtpefimeogbpagaaW14
set_option linter.unusedSimpArgs false
namespace Go.Proofs.Ytpefimeogbpagaa
open Go.RowKit

set_option maxRecDepth 100000 in
set_option maxHeartbeats 8000000 in
theorem FnStateAfter_any (A0 : Option Addr) (n0 c0 : Nat) (w : World) (F0 : n0 ≤ 9223372036854775807 ∧ n0 ≤ c0 ∧ BytsAt w w.heap.size A0 n0) :
    Calls Try.prog 3 #[.slice A0 n0 c0] w fun e w' => e = .returned (.bool true) ∧ Below w.heap.size w w' := by
  obtain ⟨hm0, hc0, h0⟩ := F0
  by_cases hn : n0 ≤ 1048576
  rotate_left
  · go_enter Try.func3, Try.ntmps3
    go_wp2
    go_ret
    exact ⟨rfl, Below.refl _ _⟩
  go_enter Try.func3, Try.ntmps3
  go_wp2_with (fail)
  refine kDLater (DrawStateAfter_any A0 n0 c0 w h0 hm0 hc0) ?_
  intro pts A n c xs D m d hs now w1 hnc hmd hrow hhap hb1
  have HL := Lib.hid hhap.len
  have hls := LP.made hb1 hrow hhap pts c 25
  obtain ⟨w2, HW2⟩ : ∃ q, Hid (w1.alloc (.cells #[.int .i64 pts, .slice A n c] 25) = q) := ⟨_, rfl⟩
  rw [HW2.out] at hls
  have L2 := Lib.hid hls
  clear hls hb1 hrow hhap
  go_wp2_with (fail)
  rw [HW2.out]
  obtain ⟨P, HPP⟩ : ∃ q, Hid (w1.heap.size = q) := ⟨_, rfl⟩
  rw [HPP.out] at L2 ⊢
  obtain ⟨p0, p1⟩ := L2.out.s
  have hpl := L2.out.lt
  have HIA := Lib.hid (fun (W : World) (h : BndsAt W A n xs) (g : HapsAt W D m hs) => iStateAfter_any pts A n c xs D m d hs now W h g (by omega) (by omega))
  have HSA := Lib.hid (fun (W : World) (h : BndsAt W A n xs) (g : HapsAt W D m hs) => sStateAfter_any pts A n c xs D m d hs now W h g (by omega) (by omega))
  by_cases hsa : SaOk pts xs hs now
  rotate_left
  · refine kSaN (HIA.out w2 L2.out.row L2.out.hap) hsa ?_
    intro A1 n1 c1 w3 hown3 hb3
    have HS1 := Lib.hid (OwnZ.at_ hown3)
    obtain rfl : 0 = n1 := by have := HS1.out.len; simpa using this
    have L3 := Lib.hid (L2.out.next hb3)
    clear p0 p1 hpl hb3
    obtain ⟨p0, p1⟩ := L3.out.s
    have hpl := L3.out.lt
    obtain ⟨w4, HW4⟩ : ∃ q, Hid (w3.alloc (.cells #[.int .i64 0, .slice A1 0 c1] 31) = q) := ⟨_, rfl⟩
    have hb4 : Below w3.heap.size w3 w4 := HW4.out ▸ (Below.refl _ _).alloc (Nat.le_refl _) _
    have s0 : w4.cell? ⟨w3.heap.size, 0, none⟩ = some (.int .i64 0) := HW4.out ▸ by simp [go_sem]
    have s1 : w4.cell? ⟨w3.heap.size, 1, none⟩ = some (.slice A1 0 c1) := HW4.out ▸ by simp [go_sem]
    have HS4 := Lib.hid (HS1.out.below hb4)
    have HNO := Lib.hid hsa
    clear hown3 hsa
    go_wp2_with (fail)
    rw [HW4.out]
    have L4 := Lib.hid (L3.out.next hb4)
    clear p0 p1 hpl hb4
    obtain ⟨p0, p1⟩ := L4.out.s
    have hpl := L4.out.lt
    obtain ⟨T, HTT⟩ : ∃ q, Hid (w3.heap.size = q) := ⟨_, rfl⟩
    rw [HTT.out] at s0 s1 ⊢
    refine kSaN (HSA.out w4 L4.out.row L4.out.hap) HNO.out ?_
    intro A2 n2 c2 w5 hown5 hb5
    have HT5 := Lib.hid (OwnZ.at_ hown5)
    obtain rfl : 0 = n2 := by have := HT5.out.len; simpa using this
    have HS5 := Lib.hid (HS4.out.below hb5)
    replace s0 := keep hb5 s0
    replace s1 := keep hb5 s1
    clear hown5
    have L5 := Lib.hid (L4.out.next hb5)
    clear p0 p1 hpl hb5
    obtain ⟨p0, p1⟩ := L5.out.s
    have hpl := L5.out.lt
    obtain ⟨w6, HW6⟩ : ∃ q, Hid (w5.alloc (.cells #[.int .i64 0, .slice A2 0 c2] 31) = q) := ⟨_, rfl⟩
    have hb6 : Below w5.heap.size w5 w6 := HW6.out ▸ (Below.refl _ _).alloc (Nat.le_refl _) _
    have r0 : w6.cell? ⟨w5.heap.size, 0, none⟩ = some (.int .i64 0) := HW6.out ▸ by simp [go_sem]
    have r1 : w6.cell? ⟨w5.heap.size, 1, none⟩ = some (.slice A2 0 c2) := HW6.out ▸ by simp [go_sem]
    have HS6 := Lib.hid (HS5.out.below hb6)
    have HT6 := Lib.hid (HT5.out.below hb6)
    have htl : T < w5.heap.size := cell_lt s0
    go_wp2_with (fail)
    rw [HW6.out]
    replace s0 := keep hb6 s0
    replace s1 := keep hb6 s1
    have L6 := Lib.hid (L5.out.next hb6)
    clear p0 p1 hpl hb6
    obtain ⟨p0, p1⟩ := L6.out.s
    have hpl := L6.out.lt
    obtain ⟨U, HUU⟩ : ∃ q, Hid (w5.heap.size = q) := ⟨_, rfl⟩
    rw [HUU.out] at r0 r1 ⊢
    refine kBV (sameStateE_any 0 A1 A2 0 c1 0 c2 [] w6 HS6.out HT6.out (by omega)) ?_
    intro w7 hb7
    replace s0 := keep hb7 s0
    replace s1 := keep hb7 s1
    have HS7 := Lib.hid (HS6.out.below hb7)
    have L7 := Lib.hid (L6.out.next hb7)
    clear p0 p1 hpl hb7
    obtain ⟨p0, p1⟩ := L7.out.s
    have hpl := L7.out.lt
    go_wp2_with (fail)
    refine kBV (sameStateE_any 0 A1 none 0 c1 0 0 [] w7 HS7.out ⟨rfl, fun h => absurd h (by decide)⟩ (by omega)) ?_
    intro w8 hb8
    have L8 := Lib.hid (L7.out.next hb8)
    clear p0 p1 hpl hb8
    obtain ⟨p0, p1⟩ := L8.out.s
    have hpl := L8.out.lt
    go_wp2_with (fail)
    refine kBV (alive_any _) ?_
    intro w9 hb9
    go_wp2
    go_ret
    exact ⟨rfl, L8.out.below.trans (hb9.mono L8.out.below.size)⟩
  · have hpos := hsa.1.2.1.nat
    obtain ⟨N, rfl, hN1, hN6⟩ := hpos
    have HNO := Lib.hid hsa
    refine kSaY (HIA.out w2 L2.out.row L2.out.hap) hsa ?_
    intro A1 n1 c1 w3 hown3 hb3
    have HS1 := Lib.hid (show IntsAt w3 A1 n1 (DsA N hs) from OwnZ.at_ hown3)
    obtain rfl : N = n1 := by have h1 := HS1.out.len; rw [DsA_len hN1] at h1; exact h1
    have HHIT := Lib.hid (show ∀ j, j < m → (DsA N hs).getD (hs.getD j (0, 0)).1.toNat 0 = (hs.getD j (0, 0)).2 ∧ 0 ≤ (hs.getD j (0, 0)).1 ∧ (hs.getD j (0, 0)).1 < (N : Int) from fun j hj => by
      have h1 := DsA_hit hsa.1.1 ⟨hN1, hN6⟩ hs.length (Nat.le_refl _) j (by rw [HL.out]; exact hj)
      rw [List.take_length] at h1
      have h2 := hsa.1.1.inP ⟨hN1, hN6⟩ (k := j) (by rw [HL.out]; exact hj)
      exact ⟨h1, by omega, h2.2⟩)
    have HCNT := Lib.hid (show ((DsA N hs).count (-1) : Int) = (N : Int) - 1 - (m : Int) from by
      have h1 := DsA_count hsa.1.1 ⟨hN1, hN6⟩ hs.length (Nat.le_refl _)
      rw [List.take_length, HL.out] at h1
      omega)
    have HST := Lib.hid (show StOk (N : Int) xs now (DsA N hs) from DsA_st hsa.1 hsa.2)
    obtain ⟨ds, HDS⟩ : ∃ q, Hid (DsA N hs = q) := ⟨_, rfl⟩
    rw [HDS.out] at HS1 HHIT HCNT HST
    have L3 := Lib.hid (L2.out.next hb3)
    clear p0 p1 hpl hb3
    obtain ⟨p0, p1⟩ := L3.out.s
    have hpl := L3.out.lt
    obtain ⟨w4, HW4⟩ : ∃ q, Hid (w3.alloc (.cells #[.int .i64 now, .slice A1 N c1] 31) = q) := ⟨_, rfl⟩
    have hb4 : Below w3.heap.size w3 w4 := HW4.out ▸ (Below.refl _ _).alloc (Nat.le_refl _) _
    have s0 : w4.cell? ⟨w3.heap.size, 0, none⟩ = some (.int .i64 now) := HW4.out ▸ by simp [go_sem]
    have s1 : w4.cell? ⟨w3.heap.size, 1, none⟩ = some (.slice A1 N c1) := HW4.out ▸ by simp [go_sem]
    have HS4 := Lib.hid (HS1.out.below hb4)
    clear hown3 hsa
    go_wp2_with (fail)
    rw [HW4.out]
    have L4 := Lib.hid (L3.out.next hb4)
    clear p0 p1 hpl hb4
    obtain ⟨p0, p1⟩ := L4.out.s
    have hpl := L4.out.lt
    obtain ⟨T, HTT⟩ : ∃ q, Hid (w3.heap.size = q) := ⟨_, rfl⟩
    rw [HTT.out] at s0 s1 ⊢
    refine kSaY (HSA.out w4 L4.out.row L4.out.hap) HNO.out ?_
    intro A2 n2 c2 w5 hown5 hb5
    have HT5 := Lib.hid (show IntsAt w5 A2 n2 ds from HDS.out ▸ OwnZ.at_ hown5)
    obtain rfl : N = n2 := by have h1 := HT5.out.len; have h2 := HS1.out.len; omega
    have HS5 := Lib.hid (HS4.out.below hb5)
    replace s0 := keep hb5 s0
    replace s1 := keep hb5 s1
    clear hown5
    have L5 := Lib.hid (L4.out.next hb5)
    clear p0 p1 hpl hb5
    obtain ⟨p0, p1⟩ := L5.out.s
    have hpl := L5.out.lt
    obtain ⟨w6, HW6⟩ : ∃ q, Hid (w5.alloc (.cells #[.int .i64 now, .slice A2 N c2] 31) = q) := ⟨_, rfl⟩
    have hb6 : Below w5.heap.size w5 w6 := HW6.out ▸ (Below.refl _ _).alloc (Nat.le_refl _) _
    have r0 : w6.cell? ⟨w5.heap.size, 0, none⟩ = some (.int .i64 now) := HW6.out ▸ by simp [go_sem]
    have r1 : w6.cell? ⟨w5.heap.size, 1, none⟩ = some (.slice A2 N c2) := HW6.out ▸ by simp [go_sem]
    have HS6 := Lib.hid (HS5.out.below hb6)
    have HT6 := Lib.hid (HT5.out.below hb6)
    have htl : T < w5.heap.size := cell_lt s0
    go_wp2_with (fail)
    rw [HW6.out]
    replace s0 := keep hb6 s0
    replace s1 := keep hb6 s1
    have L6 := Lib.hid (L5.out.next hb6)
    clear p0 p1 hpl hb6
    obtain ⟨p0, p1⟩ := L6.out.s
    have hpl := L6.out.lt
    obtain ⟨U, HUU⟩ : ∃ q, Hid (w5.heap.size = q) := ⟨_, rfl⟩
    rw [HUU.out] at r0 r1 ⊢
    refine kBV (sameStateE_any now A1 A2 N c1 N c2 ds w6 HS6.out HT6.out (by omega)) ?_
    intro w7 hb7
    replace s0 := keep hb7 s0
    replace s1 := keep hb7 s1
    replace r0 := keep hb7 r0
    replace r1 := keep hb7 r1
    have HS7 := Lib.hid (HS6.out.below hb7)
    have HT7 := Lib.hid (HT6.out.below hb7)
    have L7 := Lib.hid (L6.out.next hb7)
    clear p0 p1 hpl hb7
    obtain ⟨p0, p1⟩ := L7.out.s
    have hpl := L7.out.lt
    go_wp2_with (fail)
    go_loopw [10, 11] (fun l i wr => ∃ k q : Nat, k ≤ N ∧ i = .int .i64 k ∧ l = .int .i64 q ∧ q ≤ k ∧ q = (ds.take k).count (-1) ∧ wr = w7) (fun _ i _ => N - (intOf i).toNat)
    case atStart => exact ⟨0, 0, Nat.zero_le _, rfl, rfl, Nat.le_refl _, rfl, rfl⟩
    case round =>
      obtain ⟨k, q, hk, rfl, rfl, hqk, hq, hwr⟩ := hrel
      obtain rfl : w7 = wr := hwr.symm
      have HQ := Lib.hid hq
      clear hq
      by_cases hkN : k < N
      · obtain ⟨b, off, rfl, hc⟩ := HT7.out.cells (by omega)
        have c0 := hc k hkN
        obtain ⟨y, HY⟩ : ∃ z, Hid (ds.getD k 0 = z) := ⟨_, rfl⟩
        rw [HY.out] at c0
        have hkl : k < ds.length := by have := HT7.out.len; omega
        have HSTEP := Lib.hid (show (ds.take (k + 1)).count (-1) = q + (if y = -1 then 1 else 0) from by
          rw [HQ.out, List.take_add_one, List.count_append]
          have h1 : ds[k]? = some y := by rw [← HY.out]; simp [List.getD, hkl]
          rw [h1]
          by_cases hy : y = -1
          · subst hy; simp
          · rw [if_neg hy]; simp [hy])
        clear hc
        by_cases hy : y = -1
        · subst hy
          go_wp2
          go_roundw
          case rel => exact ⟨k + 1, q + 1, by omega, by go_num, by go_num, by omega, by have := HSTEP.out; rw [if_pos rfl] at this; exact this.symm, by trivial⟩
          case measure => simp [intOf]; omega
        · have hyb : (y == -1) = false := by simpa using hy
          have HSN := Lib.hid (show q = (ds.take (k + 1)).count (-1) from by have := HSTEP.out; rw [if_neg hy] at this; exact this.symm)
          clear HSTEP hy
          go_wp2
          go_roundw
          case rel => exact ⟨k + 1, q, by omega, by go_num, by trivial, by omega, HSN.out, by trivial⟩
          case measure => simp [intOf]; omega
      · obtain rfl : k = N := by omega
        have hqe : (q : Int) = (k : Int) - 1 - (m : Int) := by
          rw [← HCNT.out, HQ.out, List.take_of_length_le (by have := HT7.out.len; omega)]
        go_wp2_with (fail)
        go_loopw [12] (fun i wr => ∃ (j mm : Nat), j ≤ m ∧ i = .int .i64 j ∧ wr = w7.drewN mm) (fun i _ => m - (intOf i).toNat)
        case atStart => exact ⟨0, 0, Nat.zero_le _, rfl, rfl⟩
        case round =>
          obtain ⟨j, mm, hj, rfl, rfl⟩ := hrel
          by_cases hjm : j < m
          · obtain ⟨b, off, rfl, hc⟩ := L7.out.hap.cells (by omega)
            obtain ⟨d0, d1⟩ := hc j hjm
            obtain ⟨hhit, hx0, hx1⟩ := HHIT.out j hjm
            obtain ⟨x, HX⟩ : ∃ z, Hid (hs.getD j (0, 0) = z) := ⟨_, rfl⟩
            rw [HX.out] at d0 d1 hhit hx0 hx1
            obtain ⟨x0, x1⟩ := x
            simp only at d0 d1 hhit hx0 hx1
            obtain ⟨X, rfl⟩ := Int.eq_ofNat_of_zero_le hx0
            obtain ⟨b', off', rfl, hc'⟩ := HT7.out.cells (by omega)
            have hXk : X < k := by omega
            have e0 := hc' X hXk
            rw [show ((X : Nat) : Int).toNat = X from rfl] at hhit
            rw [hhit] at e0
            clear hc hc' hhit hx0
            go_wp2
            go_quiet (fail)
            go_wp2
            go_roundw
            case rel => exact ⟨j + 1, _, by omega, by go_num, rfl⟩
            case measure => simp [intOf]; omega
          · obtain rfl : j = m := by omega
            have L9 := Lib.hid (L7.out.next (below_drewN (Below.refl _ _) mm))
            have hi3 := iStateOk_any (k : Int) A n c xs now A1 k c1 ds (w7.drewN mm) L9.out.row (HS7.out.drewN mm)
            rw [B_true HST.out] at hi3
            have HI3 := Lib.hid hi3
            clear hi3
            go_wp2_with (fail)
            refine kBV HI3.out ?_
            intro w10 hb10
            have L10 := Lib.hid (L9.out.next hb10)
            have s0' := keep hb10 (show (w7.drewN mm).cell? _ = _ from s0)
            have p0' := L10.out.s.1
            clear hb10
            go_wp2
            go_ret
            exact ⟨rfl, L10.out.below⟩

end Go.Proofs.Ytpefimeogbpagaa
