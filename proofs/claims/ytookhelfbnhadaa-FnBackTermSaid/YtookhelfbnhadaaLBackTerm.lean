/- The walk of FnBackTerm: for every code the law returns true, and the code is left as it was. -/
import Derived.Test.YtookhelfbnhadaaDR6
import Derived.Test.YtookhelfbnhadaaAL
import Derived.Test.YtookhelfbnhadaaSM
import Derived.Test.YtookhelfbnhadaaQ2
import Derived.Test.YtookhelfbnhadaaME
namespace Go.Proofs.Ytookhelfbnhadaa
open Go.RowKit

theorem TIs.ne_nil {xs : List Mk} {x : Tm} (h : TIs xs x) : 0 < xs.length := by rw [← h.2.1]; exact marks_pos x

set_option maxRecDepth 100000 in
set_option maxHeartbeats 2000000 in
theorem FnBackTerm_any (A0 : Option Addr) (n0 c0 : Nat) (w : World) (F0 : n0 ≤ 9223372036854775807 ∧ n0 ≤ c0 ∧ BytsAt w w.heap.size A0 n0) :
    Calls Try.prog 5 #[.slice A0 n0 c0] w fun e w' => e = .returned (.bool true) ∧ Below w.heap.size w w' := by
  obtain ⟨hm0, hc0, h0⟩ := F0
  by_cases hn : n0 ≤ 1048576
  rotate_left
  · go_enter Try.func5, Try.ntmps5
    go_wp2
    go_ret
    exact ⟨rfl, Below.refl _ _⟩
  go_enter Try.func5, Try.ntmps5
  go_wp2_with (fail)
  refine kDrawnT (drawBackTerm_any A0 n0 c0 w h0 hm0 hc0) ?_
  intro g c xs w1 hown hl hb1
  have hcap := OwnM.cap hown
  have HM := Lib.hid (OwnM.at_ hown)
  have HB1 := Lib.hid hb1
  clear hown hb1
  obtain ⟨R, HR⟩ : ∃ q, Hid (BackF xs = q) := ⟨_, rfl⟩
  have hRl : R.length ≤ xs.length := by rw [← HR.out]; exact backF_len xs
  have hci := iBackTerm_any (some ⟨g, 0, none⟩) xs.length c xs w1 HM.out (by omega)
  rw [HR.out] at hci
  go_wp2_with (fail)
  refine kNewM hci ?_
  intro A2 c2 w2 h2 hb2
  clear hci
  have HB2 := Lib.hid (HB1.out.trans (hb2.mono HB1.out.size))
  have HM2 := Lib.hid (HM.out.below hb2)
  have HR2 := Lib.hid (OwnM.at_ h2)
  have hcap2 := OwnM.cap h2
  clear hb2 h2
  have hcs := sBackTerm_any (some ⟨g, 0, none⟩) xs.length c xs w2 HM2.out (by omega) hcap
  rw [HR.out] at hcs
  go_wp2_with (fail)
  refine kNewM hcs ?_
  intro A3 c3 w3 h3 hb3
  clear hcs
  have HB3 := Lib.hid (HB2.out.trans (hb3.mono HB2.out.size))
  have HM3 := Lib.hid (HM2.out.below hb3)
  have HR3 := Lib.hid (HR2.out.below hb3)
  have HS3 := Lib.hid (OwnM.at_ h3)
  clear hb3 h3
  go_wp2_with (fail)
  refine kQ (sameMarks_any A2 A3 R.length c2 R.length c3 R R _ HR3.out HS3.out (by omega)) ?_ (fun _ h => absurd rfl h.out)
  intro m3 _
  have HB4 := Lib.hid (below_drewN HB3.out m3)
  have HM4 := Lib.hid (HM3.out.drewN m3)
  have HR4 := Lib.hid (HR3.out.drewN m3)
  obtain ⟨w4, HW4⟩ : ∃ q, Hid (w3.drewN m3 = q) := ⟨_, rfl⟩
  rw [HW4.out] at HB4 HM4 HR4 ⊢
  by_cases hT : TOk xs
  · obtain ⟨x, hx⟩ := hT
    have HX := Lib.hid (show TIs xs x from hx)
    have hRx : R = marksOf (backT x) := by rw [← HR.out]; exact onT_pos hx
    have HY := Lib.hid (show TIs R (backT x) by rw [hRx]; exact backT_is hx)
    have HBB := Lib.hid (show BackF R = xs by rw [show BackF R = _ from onT_pos HY.out, backT_back, hx.2.1])
    have HST := Lib.hid (show StepsV R = StepsV xs by rw [steps_of HY.out, steps_of hx, backT_steps])
    have hpos : 0 < R.length := HY.out.ne_nil
    have hposb : ((R.length : Int) == 0) = false := by rw [beq_eq_false_iff_ne]; omega
    clear hx hRx
    go_wp2_with (fail)
    refine kB (iTermOk_any A2 R.length c2 R _ HR4.out (by omega)) ?_ (fun _ h _ => absurd ⟨_, HY.out⟩ h.out)
    intro w5 _ hb5
    have HB5 := Lib.hid (HB4.out.trans (hb5.mono HB4.out.size))
    have HM5 := Lib.hid (HM4.out.below hb5)
    have HR5 := Lib.hid (HR4.out.below hb5)
    clear hb5
    obtain ⟨S, HSS⟩ : ∃ q, Hid (StepsV xs = q) := ⟨_, rfl⟩
    have hi1 := iStepsOf_any A2 R.length c2 R w5 HR5.out (by omega)
    rw [HST.out, HSS.out] at hi1
    go_wp2_with (fail)
    refine kBV hi1 ?_
    intro w6 hb6
    clear hi1
    have HB6 := Lib.hid (HB5.out.trans (hb6.mono HB5.out.size))
    have HM6 := Lib.hid (HM5.out.below hb6)
    have HR6 := Lib.hid (HR5.out.below hb6)
    clear hb6
    have hi2 := iStepsOf_any (some ⟨g, 0, none⟩) xs.length c xs w6 HM6.out (by omega)
    rw [HSS.out] at hi2
    go_wp2_with (fail)
    refine kBV hi2 ?_
    intro w7 hb7
    clear hi2
    have HB7 := Lib.hid (HB6.out.trans (hb7.mono HB6.out.size))
    have HM7 := Lib.hid (HM6.out.below hb7)
    have HR7 := Lib.hid (HR6.out.below hb7)
    clear hb7
    have hi3 := iBackTerm_any A2 R.length c2 R w7 HR7.out (by omega)
    rw [HBB.out] at hi3
    go_wp2_with (fail)
    refine kNewM hi3 ?_
    intro A8 c8 w8 h8 hb8
    clear hi3
    have HB8 := Lib.hid (HB7.out.trans (hb8.mono HB7.out.size))
    have HM8 := Lib.hid (HM7.out.below hb8)
    have HS8 := Lib.hid (OwnM.at_ h8)
    clear hb8 h8
    go_wp2_with (fail)
    refine kQ (sameMarks_any A8 (some ⟨g, 0, none⟩) xs.length c8 xs.length c xs xs _ HS8.out HM8.out (by omega)) ?_ (fun _ h => absurd rfl h.out)
    intro m8 _
    go_wp2
    go_ret
    exact ⟨rfl, below_drewN HB8.out m8⟩
  · have HT := Lib.hid hT
    have hR0 : R = [] := by rw [← HR.out]; exact onT_neg hT
    subst hR0
    clear hT
    go_wp2_with (fail)
    refine kB (iTermOk_any (some ⟨g, 0, none⟩) xs.length c xs _ HM4.out (by omega)) (fun _ h _ => absurd h.out HT.out) ?_
    intro w5 _ hb5
    have HB5 := Lib.hid (HB4.out.trans (hb5.mono HB4.out.size))
    clear hb5
    go_wp2_with (fail)
    refine kBV (alive_any _) ?_
    intro w6 hb6
    go_wp2
    go_ret
    exact ⟨rfl, HB5.out.trans (hb6.mono HB5.out.size)⟩

end Go.Proofs.Ytookhelfbnhadaa
