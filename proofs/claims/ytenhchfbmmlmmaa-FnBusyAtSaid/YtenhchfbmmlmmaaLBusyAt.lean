/- The walk of FnBusyAt: for every code the law returns true, and the code is left as it was. -/
import Derived.Test.YtenhchfbmmlmmaaBH
import Derived.Test.YtenhchfbmmlmmaaAL
set_option linter.unusedSimpArgs false
set_option linter.unusedVariables false
namespace Go.Proofs.Ytenhchfbmmlmmaa
open Go.RowKit

theorem sumT_congr {f g : Nat → Int} {T : Nat} (h : ∀ t, t < T → f t = g t) : sumT f T = sumT g T := by
  induction T with
  | zero => rfl
  | succ T ih => simp only [sumT]; rw [ih (fun t ht => h t (by omega)), h T (by omega)]
theorem sumT_bd (xs bs : List Int) (m : Nat) (hm : m ≤ 6) : ∀ T : Nat, 0 ≤ sumT (fun t => busyN xs bs (t : Int) m) T ∧ sumT (fun t => busyN xs bs (t : Int) m) T ≤ 6 * (T : Int)
  | 0 => ⟨Int.le_refl _, by simp [sumT]⟩
  | T + 1 => by
    obtain ⟨h1, h2⟩ := sumT_bd xs bs m hm T
    obtain ⟨h3, h4⟩ := busyN_bd xs bs (T : Int) m
    simp only [sumT]
    push_cast
    omega
theorem endN_max (xs bs : List Int) {E : Int} (h0 : 0 ≤ E) : ∀ K : Nat, (∀ k, k < K → bs.getD k 0 + xs.getD k 0 ≤ E) → endN xs bs K ≤ E
  | 0, _ => h0
  | K + 1, h => by
    have h1 := endN_max xs bs h0 K (fun k hk => h k (by omega))
    have h2 := h K (by omega)
    simp only [endN]
    omega
theorem sumL_bd (xs : List Int) : ∀ K : Nat, (∀ k, k < K → 1 ≤ xs.getD k 0 ∧ xs.getD k 0 ≤ 20) → 0 ≤ sumL xs K ∧ sumL xs K ≤ 20 * (K : Int)
  | 0, _ => ⟨Int.le_refl _, by simp [sumL]⟩
  | K + 1, h => by
    obtain ⟨h1, h2⟩ := sumL_bd xs K (fun k hk => h k (by omega))
    obtain ⟨h3, h4⟩ := h K (by omega)
    simp only [sumL]
    push_cast
    omega
/-- The project's box. -/
structure BL (w0 w : World) (P : Nat) (A : Option Addr) (n c : Nat) (A' : Option Addr) (n' c' : Nat) (D : Option Addr) (m : Nat) (xs ys bs : List Int) : Prop where
  below : Below w0.heap.size w0 w
  p0 : w.cell? ⟨P, 0, none⟩ = some (.slice A n c)
  p1 : w.cell? ⟨P, 1, none⟩ = some (.slice A' n' c')
  rx : IntsAt w A n xs
  ry : IntsAt w A' n' ys
  rb : IntsAt w D m bs
theorem BL.next {w0 w w' : World} {P n c n' c' m : Nat} {A A' D : Option Addr} {xs ys bs : List Int} (h : BL w0 w P A n c A' n' c' D m xs ys bs) (hb : Below w.heap.size w w') : BL w0 w' P A n c A' n' c' D m xs ys bs :=
  ⟨h.below.trans (hb.mono h.below.size), keep hb h.p0, keep hb h.p1, h.rx.below hb, h.ry.below hb, h.rb.below hb⟩
theorem BL.cells {w0 w : World} {P n c n' c' m : Nat} {A A' D : Option Addr} {xs ys bs : List Int} (h : BL w0 w P A n c A' n' c' D m xs ys bs) : w.cell? ⟨P, 0, none⟩ = some (.slice A n c) ∧ w.cell? ⟨P, 1, none⟩ = some (.slice A' n' c') ∧ P < w.heap.size := ⟨h.p0, h.p1, cell_lt h.p0⟩
set_option maxRecDepth 100000 in
set_option maxHeartbeats 8000000 in
theorem FnBusyAt_any (A0 : Option Addr) (n0 c0 : Nat) (w : World) (F0 : n0 ≤ 9223372036854775807 ∧ n0 ≤ c0 ∧ BytsAt w w.heap.size A0 n0) :
    Calls Try.prog 3 #[.slice A0 n0 c0] w fun e w' => e = .returned (.bool true) ∧ Below w.heap.size w w' := by
  obtain ⟨hm0, hc0, h0⟩ := F0
  by_cases hn : n0 ≤ 1048576
  rotate_left
  · go_enter Try.func3, Try.ntmps3
    go_wp2
    go_ret
    exact ⟨rfl, Below.refl _ _⟩
  go_enter Try.func3, Try.ntmps3
  go_wp2_with (fail)
  refine (DrawBusyAt_any A0 n0 c0 w h0 hm0 hc0).mono ?_
  rintro e w1 ⟨A, n, c, A', n', c', xs, ys, D, m, d, bs, t, rfl, ⟨hn10, hn10', hm10⟩, hx, hy, hz, hbd, hb1⟩
  have HLX := Lib.hid hx.len
  have HLB := Lib.hid hz.len
  have HBD := Lib.hid hbd
  obtain ⟨w2, HW2⟩ : ∃ q, Hid (w1.alloc (.cells #[.slice A n c, .slice A' n' c'] 25) = q) := ⟨_, rfl⟩
  have hb2 : Below w1.heap.size w1 w2 := HW2.out ▸ (Below.refl _ _).alloc (Nat.le_refl _) _
  have L2 := Lib.hid (show BL w w2 w1.heap.size A n c A' n' c' D m xs ys bs from ⟨hb1.trans (hb2.mono hb1.size), HW2.out ▸ by simp [go_sem], HW2.out ▸ by simp [go_sem], hx.below hb2, hy.below hb2, hz.below hb2⟩)
  clear hx hy hz hbd hb1 hb2
  go_wp2_with (fail)
  rw [HW2.out]
  obtain ⟨P, HPP⟩ : ∃ q, Hid (w1.heap.size = q) := ⟨_, rfl⟩
  rw [HPP.out] at L2 ⊢
  obtain ⟨p0, p1, hpl⟩ := L2.out.cells
  obtain ⟨r, HRR⟩ : ∃ q, Hid (busyR xs ys bs t = q) := ⟨_, rfl⟩
  have hi1 := iBusyAt_any A n c xs A' n' c' ys D m d bs t w2 L2.out.rx L2.out.ry L2.out.rb (by omega) (by omega) (by omega)
  rw [HRR.out] at hi1
  refine kBV hi1 ?_
  intro w3 hb3
  have L3 := Lib.hid (L2.out.next hb3)
  clear hi1 p0 p1 hpl hb3
  obtain ⟨p0, p1, hpl⟩ := L3.out.cells
  have hi2 := sBusyAt_any A n c xs A' n' c' ys D m d bs t w3 L3.out.rx L3.out.ry L3.out.rb (by omega) (by omega) (by omega)
  rw [HRR.out] at hi2
  have HI2 := Lib.hid hi2
  clear hi2
  go_wp2_with (fail)
  refine kBV HI2.out ?_
  intro w4 hb4
  have L4 := Lib.hid (L3.out.next hb4)
  clear HI2 p0 p1 hpl hb4
  obtain ⟨p0, p1, hpl⟩ := L4.out.cells
  by_cases hfit : Fit xs ys bs ∧ InR t 0 2000
  rotate_left
  · have hr : r = -1 := by rw [← HRR.out]; unfold busyR; rw [B_false hfit]; rfl
    clear hfit
    subst hr
    go_wp2_with (fail)
    refine kBV (alive_any _) ?_
    intro w5 hb5
    go_wp2
    go_ret
    exact ⟨rfl, L4.out.below.trans (hb5.mono L4.out.below.size)⟩
  obtain ⟨hF, hT⟩ := hfit
  have hn6 : n ≤ 6 := by rw [← HLX.out]; exact hF.1.2.2.1
  obtain rfl : m = n := by have h1 := hF.2.1; have h2 := HLX.out; have h3 := HLB.out; omega
  have hr0 : 0 ≤ r := by rw [← HRR.out]; unfold busyR; rw [B_true ⟨hF, hT⟩]; exact (busyN_bd xs bs t _).1
  have HXV := Lib.hid (fun (k : Nat) (hk : k < m) => allIn_at hF.1.1 (k := k) (by rw [HLX.out]; exact hk))
  have HBV := Lib.hid (fun (k : Nat) (hk : k < m) => allIn_at hF.2.2 (k := k) (by rw [HLB.out]; exact hk))
  have hE1 : endN xs bs m ≤ 140 := endN_max xs bs (by omega) m (fun k hk => by have := HBD.out k hk; have := (HXV.out k hk).2; omega)
  have hE0 := endN_nonneg xs bs m
  have HER := Lib.hid (show endR xs ys bs = endN xs bs m by unfold endR; rw [B_true hF, HLB.out]; rfl)
  have HBR := Lib.hid (fun (y : Int) (h1 : 0 ≤ y) (h2 : y ≤ 2000) => show busyR xs ys bs y = busyN xs bs y m from by unfold busyR; rw [B_true ⟨hF, h1, h2⟩, HLB.out]; rfl)
  have HSUM := Lib.hid (sumT_busy xs bs (endN xs bs m).toNat m (fun k hk => ⟨(HBV.out k hk).1, by have := (HXV.out k hk).1; omega, by have := endN_le xs bs m k hk; omega⟩))
  have HEND := Lib.hid (busy_end xs bs (endN xs bs m) m (fun k hk => endN_le xs bs m k hk))
  have HSB := Lib.hid (fun T => sumT_bd xs bs m hn6 T)
  have HLS := Lib.hid (fun K (hK : K ≤ m) => sumL_bd xs K (fun k hk => HXV.out k (by omega)))
  obtain ⟨E, HE⟩ : ∃ q, Hid (endN xs bs m = q) := ⟨_, rfl⟩
  rw [HE.out] at hE1 hE0 HER HSUM HEND
  obtain ⟨T, rfl⟩ := Int.eq_ofNat_of_zero_le hE0
  have hT140 : T ≤ 140 := by omega
  have HSUM2 := Lib.hid (show sumT (fun t => busyN xs bs (t : Int) m) T = sumL xs m from HSUM.out)
  have hi3 := iEndOf_any A m c xs A' n' c' ys D m d bs w4 L4.out.rx L4.out.ry L4.out.rb (by omega) (by omega) (by omega)
  rw [HER.out] at hi3
  have HI3 := Lib.hid hi3
  clear hi3 HSUM hF hT
  go_wp2_with (fail)
  refine kBV HI3.out ?_
  intro w5 hb5
  have L5 := Lib.hid (L4.out.next hb5)
  clear HI3 p0 p1 hpl hb5
  obtain ⟨p0, p1, hpl⟩ := L5.out.cells
  go_wp2_with (fail)
  go_loopw [7, 9] (fun s i wr => ∃ k : Nat, k ≤ T ∧ i = .int .i64 k ∧ s = .int .i64 (sumT (fun t => busyN xs bs (t : Int) m) k) ∧ BL w wr P A m c A' n' c' D m xs ys bs) (fun _ i _ => T - (intOf i).toNat)
  case atStart => exact ⟨0, Nat.zero_le _, rfl, rfl, L5.out⟩
  case round =>
    obtain ⟨wo, rfl⟩ : ∃ wo : World, wo = wr := ⟨_, rfl⟩
    clear p0 p1 hpl L5
    obtain ⟨k, hk, rfl, rfl, hbl⟩ := hrel
    have LO := Lib.hid hbl
    obtain ⟨p0, p1, hpl⟩ := hbl.cells
    clear hbl
    by_cases hkT : k < T
    · have hkI : (k : Int) < (T : Int) := by omega
      have hi4 := iBusyAt_any A m c xs A' n' c' ys D m d bs (k : Int) wo LO.out.rx LO.out.ry LO.out.rb (by omega) (by omega) (by omega)
      rw [HBR.out (k : Int) (by omega) (by omega)] at hi4
      have HI4 := Lib.hid hi4
      have HST := Lib.hid (show sumT (fun t => busyN xs bs (t : Int) m) (k + 1) = sumT (fun t => busyN xs bs (t : Int) m) k + busyN xs bs (k : Int) m from rfl)
      obtain ⟨hs0, hs1⟩ := HSB.out k
      obtain ⟨hb0, hb1⟩ := busyN_bd xs bs (k : Int) m
      obtain ⟨s, HS⟩ : ∃ q, Hid (sumT (fun t => busyN xs bs (t : Int) m) k = q) := ⟨_, rfl⟩
      obtain ⟨b, HB⟩ : ∃ q, Hid (busyN xs bs (k : Int) m = q) := ⟨_, rfl⟩
      rw [HB.out] at HI4 HST hb0 hb1
      rw [HS.out] at HST hs0 hs1 ⊢
      clear hi4
      go_wp2_with (fail)
      refine kBV HI4.out ?_
      intro w6 hb6
      have L6 := Lib.hid (LO.out.next hb6)
      clear hb6
      go_wp2
      go_roundw
      case rel => exact ⟨k + 1, by omega, by go_num, by rw [HST.out], L6.out⟩
      case measure => simp [intOf]; omega
    · obtain rfl : k = T := by omega
      rw [HSUM2.out]
      go_wp2_with (fail)
      go_loopw [10, 11] (fun s i wr => ∃ k : Nat, k ≤ m ∧ i = .int .i64 k ∧ s = .int .i64 (sumL xs k) ∧ BL w wr P A m c A' n' c' D m xs ys bs) (fun _ i _ => m - (intOf i).toNat)
      case atStart => exact ⟨0, Nat.zero_le _, rfl, rfl, LO.out⟩
      case round =>
        obtain ⟨wp, rfl⟩ : ∃ wp : World, wp = wr := ⟨_, rfl⟩
        clear p0 p1 hpl LO
        obtain ⟨j, hj, rfl, rfl, hbl⟩ := hrel
        have LP := Lib.hid hbl
        obtain ⟨p0, p1, hpl⟩ := hbl.cells
        clear hbl
        by_cases hjm : j < m
        · have hjI : (j : Int) < (m : Int) := by omega
          obtain ⟨xb, xo, rfl, hxc⟩ := LP.out.rx.cells (by omega)
          have cx := hxc j hjm
          have HST := Lib.hid (show sumL xs (j + 1) = sumL xs j + xs.getD j 0 from rfl)
          obtain ⟨hx0, hx1⟩ := HXV.out j hjm
          obtain ⟨hs0, hs1⟩ := HLS.out j (by omega)
          obtain ⟨x, HX⟩ : ∃ q, Hid (xs.getD j 0 = q) := ⟨_, rfl⟩
          obtain ⟨s, HS⟩ : ∃ q, Hid (sumL xs j = q) := ⟨_, rfl⟩
          rw [HX.out] at cx HST hx0 hx1
          rw [HS.out] at HST hs0 hs1 ⊢
          clear hxc
          go_wp2
          try (go_region; go_wp2)
          go_roundw
          case rel => exact ⟨j + 1, by omega, by go_num, by rw [HST.out], by first | exact LP.out | exact LP.out.next (below_drewN (Below.refl _ _) _)⟩
          case measure => simp [intOf]; omega
        · obtain rfl : j = m := by omega
          have hi5 := iBusyAt_any A j c xs A' n' c' ys D j d bs (k : Int) wp LP.out.rx LP.out.ry LP.out.rb (by omega) (by omega) (by omega)
          rw [HBR.out (k : Int) (by omega) (by omega), HEND.out] at hi5
          have HI5 := Lib.hid hi5
          clear hi5
          obtain ⟨s, HS⟩ : ∃ q, Hid (sumL xs j = q) := ⟨_, rfl⟩
          rw [HS.out]
          go_wp2_with (fail)
          refine kBV HI5.out ?_
          intro w7 hb7
          have L7 := Lib.hid (LP.out.next hb7)
          clear hb7
          go_wp2_with (fail)
          refine kBV (alive_any _) ?_
          intro w8 hb8
          go_wp2
          go_ret
          exact ⟨rfl, L7.out.below.trans (hb8.mono L7.out.below.size)⟩

end Go.Proofs.Ytenhchfbmmlmmaa
