/- The walk of FnStateOk: for every code the law returns true, and the code is left as it was. -/
import Derived.Test.YtikapnphnkoelaaW9
import Derived.Test.YtikapnphnkoelaaOA
import Derived.Test.YtikapnphnkoelaaOZ
set_option linter.unusedSimpArgs false
namespace Go.Proofs.Ytikapnphnkoelaa
open Go.RowKit

set_option maxRecDepth 100000 in
set_option maxHeartbeats 8000000 in
theorem FnStateOk_any (A0 : Option Addr) (n0 c0 : Nat) (w : World) (F0 : n0 ≤ 9223372036854775807 ∧ n0 ≤ c0 ∧ BytsAt w w.heap.size A0 n0) :
    Calls Try.prog 3 #[.slice A0 n0 c0] w fun e w' => e = .returned (.bool true) ∧ Below w.heap.size w w' := by
  obtain ⟨hm0, hc0, h0⟩ := F0
  by_cases hn : n0 ≤ 1048576
  rotate_left
  · go_enter Try.func3, Try.ntmps3
    go_wp2
    go_ret
    exact ⟨rfl, Below.refl _ _⟩
  go_enter Try.func3, Try.ntmps3
  go_wp2_with (fail)
  refine kDState (DrawStateOk_any A0 n0 c0 w h0 hm0 hc0) ?_
  intro pts A n c xs now D m d ds w1 hnc hmd hrow htim hb1
  have HL := Lib.hid htim.len
  have hls := LS.made hb1 hrow htim ⟨hnc.2, hmd.2⟩ pts now c d 25 28
  obtain ⟨w2, HW2⟩ : ∃ q, Hid ((w1.alloc (.cells #[.int .i64 pts, .slice A n c] 25)).alloc (.cells #[.int .i64 now, .slice D m d] 28) = q) := ⟨_, rfl⟩
  rw [HW2.out] at hls
  have L2 := Lib.hid hls
  clear hls hb1 hrow htim
  go_wp2_with (fail)
  rw [HW2.out]
  obtain ⟨P, HPP⟩ : ∃ q, Hid (w1.heap.size = q) := ⟨_, rfl⟩
  rw [HPP.out] at L2 ⊢
  obtain ⟨p0, p1, s0, s1, hpl⟩ := L2.out.cells
  obtain ⟨ok, HOK⟩ : ∃ q, Hid (B (StOk pts xs now ds) = q) := ⟨_, rfl⟩
  have hi1 := iStateOk_any pts A n c xs now D m d ds w2 L2.out.row L2.out.tim
  rw [HOK.out] at hi1
  refine kBV hi1 ?_
  intro w3 hb3
  clear hi1
  have L3 := Lib.hid (L2.out.next hb3)
  clear p0 p1 s0 s1 hpl hb3
  obtain ⟨p0, p1, s0, s1, hpl⟩ := L3.out.cells
  have hi2 := sStateOk_any pts A n c xs now D m d ds w3 L3.out.row L3.out.tim (by omega)
  rw [HOK.out] at hi2
  go_wp2_with (fail)
  refine kBV hi2 ?_
  intro w4 hb4
  clear hi2
  have L4 := Lib.hid (L3.out.next hb4)
  clear p0 p1 s0 s1 hpl hb4
  obtain ⟨p0, p1, s0, s1, hpl⟩ := L4.out.cells
  cases ok with
  | false =>
    go_wp2_with (fail)
    go_loopw [6] (fun i wr => i = .int .i64 1 ∧ wr = w4) (fun _ _ => 0)
    case atStart => exact ⟨rfl, rfl⟩
    case round =>
      obtain ⟨rfl, rfl⟩ := hrel
      go_wp2_with (fail)
      all_goals
        refine kBV (alive_any _) ?_
        intro w5 hb5
        go_wp2
        go_ret
        exact ⟨rfl, L4.out.below.trans (hb5.mono L4.out.below.size)⟩
  | true =>
    have hok := of_B HOK.out
    have HST := Lib.hid hok
    have hm1 : 1 ≤ m := by have h1 := hok.2.1; have h2 := (StOk.pos hok.1).1; have h3 := HL.out; omega
    obtain ⟨hn0, hn1⟩ := hok.2.2.1
    have HNA := Lib.hid (show D = none → m = 0 from fun e => by
      obtain ⟨b, off, e', _⟩ := L4.out.tim.cells (by omega); rw [e] at e'; cases e')
    clear hok
    have hm8 := L4.out.room.2
    go_wp2_with (fail)
    go_loopw [6] (fun i wr => ∃ k : Nat, 1 ≤ k ∧ k ≤ m ∧ i = .int .i64 k ∧ LS w wr P pts A n c xs now D m d ds) (fun i _ => m - (intOf i).toNat)
    case atStart => exact ⟨1, Nat.le_refl _, hm1, rfl, L4.out⟩
    case round =>
      obtain ⟨wo, rfl⟩ : ∃ wo : World, wo = wr := ⟨_, rfl⟩
      clear p0 p1 s0 s1 hpl L4
      obtain ⟨k, hk1, hk, rfl, hls⟩ := hrel
      have LO := Lib.hid hls
      obtain ⟨p0, p1, s0, s1, hpl⟩ := hls.cells
      clear hls
      by_cases hkm : k < m
      · have HOW := Lib.hid (own_litZ (q := wo.heap.size) (w := wo) rfl wo.heap.size 3 1 #[] 0 (Nat.le_refl _) (by decide) rfl)
        have hbe : Below wo.heap.size wo (wo.alloc (.cells #[] 3)) := (Below.refl _ _).alloc (Nat.le_refl _) _
        have HNEW := Lib.hid (fun (ad : Addr) (e : D = some ad) => IntsAt.newsZ (LO.out.tim.below hbe) e)
        have HBE := Lib.hid hbe
        have hkI : (k : Int) < (m : Int) := by omega
        clear hbe
        go_wp2_with (first
          | (at_builtin; refine wpl_appX rowZ rfl _ _ (by rfl) wo.heap.size _ 0 [] (by rfl) HOW.out D m d (vI ds) (by rfl) HNA.out (by rw [vI_len, HL.out]) HNEW.out (vI_one _) m (Nat.zero_add _) (vI ds) (List.nil_append _) (by omega) HBE.out.size ?_
             intro A1 c1 wB hownB hgrow hat
             obtain ⟨g, rfl, hgB, hgl⟩ := own_cellsZ hownB (by omega)
             obtain ⟨b', off', e', hd⟩ := (OwnZ.at_ (show OwnZ wB wo.heap.size (some ⟨g, 0, none⟩) m c1 ds from hownB)).cells (by omega)
             cases e'
             have d0 := hd k hkm
             rw [Nat.zero_add] at d0
             have g0 := hownB.frozenAt k
             have hmc1 := OwnZ.cap (show OwnZ wB wo.heap.size (some ⟨g, 0, none⟩) m c1 ds from hownB)
             have hbB := HBE.out.grown hgrow HBE.out.size (fun k hk => by have h5 : wo.heap.size = k := Option.some.inj hk; omega)
             have HOB := Lib.hid (show OwnZ wB wo.heap.size (some ⟨g, 0, none⟩) m c1 ds from hownB)
             have HBB := Lib.hid (hbB.setCell (p := ⟨g, k, none⟩) hgB (.int .i64 (-1)))
             have p0 := keep hbB p0
             have p1 := keep hbB p1
             have s0 := keep hbB s0
             have s1 := keep hbB s1
             have hne1 : ¬ P = g := by omega
             have hne2 : ¬ P + 1 = g := by omega
             clear hd hownB hgrow hat hbB))
        have HOS := Lib.hid (show OwnZ (wB.setCell ⟨g, k, none⟩ (.int .i64 (-1))) wo.heap.size (some ⟨g, 0, none⟩) m c1 (ds.set k (-1)) from by
          have h1 := own_setZ HOB.out k (.int .i64 (-1))
          show World.ownsRow _ _ _ _ _ _ (vI _)
          rw [show vI (ds.set k (-1)) = (vI ds).set k (.int .i64 (-1)) by simp [vI, List.map_set]]
          exact h1)
        refine kB (iStateOk_any pts A n c xs now (some ⟨g, 0, none⟩) m c1 (ds.set k (-1)) _ (LO.out.row.below HBB.out) (OwnZ.at_ HOS.out)) ?_ (fun _ h _ => absurd (HST.out.unset hk1) h.out)
        intro w5 _ hb5
        have L5 := Lib.hid (LO.out.next (HBB.out.trans (hb5.mono HBB.out.size)))
        clear hb5
        go_wp2
        go_roundw
        case rel => exact ⟨k + 1, by omega, by omega, by go_num, L5.out⟩
        case measure => simp [intOf]; omega
      · obtain rfl : k = m := by omega
        by_cases hnow : 2000 ≤ now
        · go_wp2_with (fail)
          refine kBV (alive_any _) ?_
          intro w5 hb5
          go_wp2
          go_ret
          exact ⟨rfl, LO.out.below.trans (hb5.mono LO.out.below.size)⟩
        · go_wp2_with (fail)
          refine kB (iStateOk_any pts A n c xs (now + 1) D k d ds _ LO.out.row LO.out.tim) ?_ (fun _ h _ => absurd (HST.out.later (by omega) (by omega)) h.out)
          intro w5 _ hb5
          have L5 := Lib.hid (LO.out.next hb5)
          clear hb5
          go_wp2_with (fail)
          refine kBV (alive_any _) ?_
          intro w6 hb6
          go_wp2
          go_ret
          exact ⟨rfl, L5.out.below.trans (hb6.mono L5.out.below.size)⟩

end Go.Proofs.Ytikapnphnkoelaa
