/- The walk of FnDeadlineOf: for every code the law returns true, and the code is left as it was. -/
import Derived.Test.YtikapnphnkoelaaW9
import Derived.Test.YtikapnphnkoelaaW10
set_option linter.unusedSimpArgs false
namespace Go.Proofs.Ytikapnphnkoelaa
open Go.RowKit

set_option maxRecDepth 100000 in
set_option maxHeartbeats 8000000 in
theorem FnDeadlineOf_any (A0 : Option Addr) (n0 c0 : Nat) (w : World) (F0 : n0 ≤ 9223372036854775807 ∧ n0 ≤ c0 ∧ BytsAt w w.heap.size A0 n0) :
    Calls Try.prog 7 #[.slice A0 n0 c0] w fun e w' => e = .returned (.bool true) ∧ Below w.heap.size w w' := by
  obtain ⟨hm0, hc0, h0⟩ := F0
  by_cases hn : n0 ≤ 1048576
  rotate_left
  · go_enter Try.func7, Try.ntmps7
    go_wp2
    go_ret
    exact ⟨rfl, Below.refl _ _⟩
  go_enter Try.func7, Try.ntmps7
  go_wp2_with (fail)
  refine kDState (DrawDeadlineOf_any A0 n0 c0 w h0 hm0 hc0) ?_
  intro pts A n c xs now D m d ds w1 hnc hmd hrow htim hb1
  have HL := Lib.hid htim.len
  have hls := LS.made hb1 hrow htim ⟨hnc.2, hmd.2⟩ pts now c d 25 28
  obtain ⟨w2, HW2⟩ : ∃ q, Hid ((w1.alloc (.cells #[.int .i64 pts, .slice A n c] 25)).alloc (.cells #[.int .i64 now, .slice D m d] 28) = q) := ⟨_, rfl⟩
  rw [HW2.out] at hls
  have L2 := Lib.hid hls
  clear hls hb1 hrow htim
  go_wp2_with (fail)
  rw [HW2.out]
  obtain ⟨P, HPP⟩ : ∃ q, Hid (w1.heap.size = q) := ⟨_, rfl⟩
  rw [HPP.out] at L2 ⊢
  obtain ⟨p0, p1, s0, s1, hpl⟩ := L2.out.cells
  obtain ⟨dl, HDL⟩ : ∃ q, Hid (Dl pts xs now ds = q) := ⟨_, rfl⟩
  have hi1 := iDeadlineOf_any pts A n c xs now D m d ds w2 L2.out.row L2.out.tim
  rw [HDL.out] at hi1
  refine kBV hi1 ?_
  intro w3 hb3
  clear hi1
  have L3 := Lib.hid (L2.out.next hb3)
  clear p0 p1 s0 s1 hpl hb3
  obtain ⟨p0, p1, s0, s1, hpl⟩ := L3.out.cells
  have hi2 := sDeadlineOf_any pts A n c xs now D m d ds w3 L3.out.row L3.out.tim (by omega)
  rw [HDL.out] at hi2
  have HI2 := Lib.hid hi2
  clear hi2
  go_wp2_with (fail)
  refine kBV HI2.out ?_
  intro w4 hb4
  have L4 := Lib.hid (L3.out.next hb4)
  clear p0 p1 s0 s1 hpl hb4
  obtain ⟨p0, p1, s0, s1, hpl⟩ := L4.out.cells
  by_cases hst : StOk pts xs now ds
  rotate_left
  · have hdl : dl = -1 := by rw [← HDL.out]; unfold Dl; rw [B_false hst]; rfl
    have HNS := Lib.hid hst
    clear hst HI2
    subst hdl
    go_wp2_with (fail)
    refine kB (sStateOk_any pts A n c xs now D m d ds _ L4.out.row L4.out.tim (by omega)) (fun _ h _ => absurd h.out HNS.out) ?_
    intro w5 _ hb5
    have L5 := Lib.hid (L4.out.next hb5)
    clear p0 p1 s0 s1 hpl hb5
    obtain ⟨p0, p1, s0, s1, hpl⟩ := L5.out.cells
    go_wp2_with (fail)
    refine kBV (alive_any _) ?_
    intro w6 hb6
    go_wp2
    go_ret
    exact ⟨rfl, L5.out.below.trans (hb6.mono L5.out.below.size)⟩
  · have HST := Lib.hid hst
    obtain ⟨N, rfl, hN1, hN6⟩ := hst.1.1.nat
    have HDE := Lib.hid (show dl = dlW (cl (T0 xs) N) ds N N by rw [← HDL.out]; unfold Dl; rw [B_true hst]; rfl)
    obtain ⟨hn0, hn1⟩ := hst.2.2.1
    have HGD := Lib.hid (fun (hg : Goes (N : Int) xs now ds) (now' : Int) (h1 : now ≤ now') (h2 : now' ≤ 2000) => show Goes (N : Int) xs now' ds ↔ now' ≤ dl from by rw [HDE.out]; exact goes_deadline hg (hst.later h1 h2))
    have HGN := Lib.hid (fun (hg : Goes (N : Int) xs now ds) => show now ≤ dl from by rw [HDE.out]; exact (goes_deadline hg hst).1 hg)
    clear hst HI2
    have hway : ∀ w5 : World, LS w w5 P N A n c xs now D m d ds → True := fun _ _ => trivial
    clear hway
    by_cases hneg : dl < 0
    · go_wp2_with (fail)
      refine kB (sStateOk_any (N : Int) A n c xs now D m d ds _ L4.out.row L4.out.tim (by omega)) ?_ (fun _ h _ => absurd HST.out h.out)
      intro w5 _ hb5
      have L5 := Lib.hid (L4.out.next hb5)
      clear p0 p1 s0 s1 hpl hb5
      obtain ⟨p0, p1, s0, s1, hpl⟩ := L5.out.cells
      go_wp2_with (fail)
      refine kB (iGoesOnOk_any (N : Int) A n c xs now D m d ds _ L5.out.row L5.out.tim) (fun _ h _ => absurd (HGN.out h.out) (by omega)) ?_
      intro w6 _ hb6
      have L6 := Lib.hid (L5.out.next hb6)
      clear p0 p1 s0 s1 hpl hb6
      obtain ⟨p0, p1, s0, s1, hpl⟩ := L6.out.cells
      go_wp2_with (fail)
      refine kBV (alive_any _) ?_
      intro w7 hb7
      go_wp2
      go_ret
      exact ⟨rfl, L6.out.below.trans (hb7.mono L6.out.below.size)⟩
    · go_wp2_with (fail)
      refine kB (iGoesOnOk_any (N : Int) A n c xs now D m d ds _ L4.out.row L4.out.tim) ?_ ?_
      rotate_left
      · intro w6 _ hb6
        have L6 := Lib.hid (L4.out.next hb6)
        clear p0 p1 s0 s1 hpl hb6
        obtain ⟨p0, p1, s0, s1, hpl⟩ := L6.out.cells
        go_wp2_with (fail)
        refine kBV (alive_any _) ?_
        intro w7 hb7
        go_wp2
        go_ret
        exact ⟨rfl, L6.out.below.trans (hb7.mono L6.out.below.size)⟩
      · intro w6 hg hb6
        have hnd := HGN.out hg.out
        have L6 := Lib.hid (L4.out.next hb6)
        clear p0 p1 s0 s1 hpl hb6
        obtain ⟨p0, p1, s0, s1, hpl⟩ := L6.out.cells
        by_cases h1 : 2000 < dl
        · by_cases h2 : dl < 100000
          · go_wp2
            go_ret
            exact ⟨rfl, L6.out.below⟩
          · go_wp2
            go_ret
            exact ⟨rfl, L6.out.below⟩
        · have HG1 := Lib.hid ((HGD.out hg.out dl hnd (by omega)).2 (Int.le_refl _))
          go_wp2_with (fail)
          refine kB (iGoesOnOk_any (N : Int) A n c xs dl D m d ds _ L6.out.row L6.out.tim) ?_ (fun _ h _ => absurd HG1.out h.out)
          intro w7 _ hb7
          have L7 := Lib.hid (L6.out.next hb7)
          clear p0 p1 s0 s1 hpl hb7
          obtain ⟨p0, p1, s0, s1, hpl⟩ := L7.out.cells
          by_cases h3 : 1999 < dl
          · go_wp2
            go_ret
            exact ⟨rfl, L7.out.below⟩
          · have HG2 := Lib.hid (show ¬ Goes (N : Int) xs (dl + 1) ds from fun h => by have := (HGD.out hg.out (dl + 1) (by omega) (by omega)).1 h; omega)
            go_wp2_with (fail)
            refine kB (iGoesOnOk_any (N : Int) A n c xs (dl + 1) D m d ds _ L7.out.row L7.out.tim) (fun _ h _ => absurd h.out HG2.out) ?_
            intro w8 _ hb8
            go_wp2
            go_ret
            exact ⟨rfl, L7.out.below.trans (hb8.mono L7.out.below.size)⟩

end Go.Proofs.Ytikapnphnkoelaa
