/- The walk of FnTrimTerm: for every code the law returns true, and the code is left as it was. -/
import Derived.Test.YtookhelfbnhadaaDR6
import Derived.Test.YtookhelfbnhadaaAL
import Derived.Test.YtookhelfbnhadaaSM
import Derived.Test.YtookhelfbnhadaaQ2
import Derived.Test.YtookhelfbnhadaaMJ
import Derived.Test.YtookhelfbnhadaaN5
namespace Go.Proofs.Ytookhelfbnhadaa
open Go.RowKit

theorem trim_is {xs : List Mk} {x : Tm} (h : TIs xs x) : TIs (marksOf (trimT x)) (trimT x) := ⟨trimT_wf h.1, rfl, by have h1 := trimT_marks x; have h2 := h.2.2; rw [← h.2.1] at h2; omega⟩

set_option maxRecDepth 100000 in
set_option maxHeartbeats 2000000 in
theorem FnTrimTerm_any (A0 : Option Addr) (n0 c0 : Nat) (w : World) (F0 : n0 ≤ 9223372036854775807 ∧ n0 ≤ c0 ∧ BytsAt w w.heap.size A0 n0) :
    Calls Try.prog 10 #[.slice A0 n0 c0] w fun e w' => e = .returned (.bool true) ∧ Below w.heap.size w w' := by
  obtain ⟨hm0, hc0, h0⟩ := F0
  by_cases hn : n0 ≤ 1048576
  rotate_left
  · go_enter Try.func10, Try.ntmps10
    go_wp2
    go_ret
    exact ⟨rfl, Below.refl _ _⟩
  go_enter Try.func10, Try.ntmps10
  go_wp2_with (fail)
  refine kDrawnT (drawTrimTerm_any A0 n0 c0 w h0 hm0 hc0) ?_
  intro g c xs w1 hown hl hb1
  have hcap := OwnM.cap hown
  have HM := Lib.hid (OwnM.at_ hown)
  have HB1 := Lib.hid hb1
  clear hown hb1
  obtain ⟨R, HR⟩ : ∃ q, Hid (TrimF xs = q) := ⟨_, rfl⟩
  have hRl : R.length ≤ xs.length := by rw [← HR.out]; exact trimF_len xs
  have hci := iTrimTerm_any (some ⟨g, 0, none⟩) xs.length c xs w1 HM.out (by omega)
  rw [HR.out] at hci
  go_wp2_with (fail)
  refine kNewM hci ?_
  intro A2 c2 w2 h2 hb2
  clear hci
  have HB2 := Lib.hid (HB1.out.trans (hb2.mono HB1.out.size))
  have HM2 := Lib.hid (HM.out.below hb2)
  have HR2 := Lib.hid (OwnM.at_ h2)
  have hcap2 := OwnM.cap h2
  clear hb2 h2
  have hcs := sTrimTerm_any (some ⟨g, 0, none⟩) xs.length c xs w2 HM2.out (by omega) hcap
  rw [HR.out] at hcs
  go_wp2_with (fail)
  refine kNewM hcs ?_
  intro A3 c3 w3 h3 hb3
  clear hcs
  have HB3 := Lib.hid (HB2.out.trans (hb3.mono HB2.out.size))
  have HM3 := Lib.hid (HM2.out.below hb3)
  have HR3 := Lib.hid (HR2.out.below hb3)
  have HS3 := Lib.hid (OwnM.at_ h3)
  clear hb3 h3
  go_wp2_with (fail)
  refine kQ (sameMarks_any A2 A3 R.length c2 R.length c3 R R _ HR3.out HS3.out (by omega)) ?_ (fun _ h => absurd rfl h.out)
  intro m3 _
  have HB4 := Lib.hid (below_drewN HB3.out m3)
  have HM4 := Lib.hid (HM3.out.drewN m3)
  have HR4 := Lib.hid (HR3.out.drewN m3)
  obtain ⟨w4, HW4⟩ : ∃ q, Hid (w3.drewN m3 = q) := ⟨_, rfl⟩
  rw [HW4.out] at HB4 HM4 HR4 ⊢
  by_cases hT : TOk xs
  · obtain ⟨x, hx⟩ := hT
    have HX := Lib.hid (show TIs xs x from hx)
    have hRx : R = marksOf (trimT x) := by rw [← HR.out]; exact onT_pos hx
    have HY := Lib.hid (show TIs R (trimT x) by rw [hRx]; exact trim_is hx)
    have HBB := Lib.hid (show TrimF R = R by rw [show TrimF R = _ from onT_pos HY.out, trim_trim hx.1, hRx])
    have HCC := Lib.hid (show CntF R = CntF xs by rw [show CntF R = _ from onT_pos HY.out, show CntF xs = _ from onT_pos HX.out, cntsT_congr HY.out.1 hx.1 (trim_cnt hx.1)])
    have HAL := Lib.hid (show AlikeP R xs from ⟨⟨_, HY.out⟩, ⟨_, HX.out⟩, by rw [show LenF R = _ from onT_pos HY.out, show LenF xs = _ from onT_pos HX.out, len_of_cnt HY.out.1 hx.1 (trim_cnt hx.1)]⟩)
    have hpos : 0 < R.length := tIs_pos HY.out
    have hposb : ((R.length : Int) == 0) = false := by rw [beq_eq_false_iff_ne]; omega
    clear hx hRx
    go_wp2_with (fail)
    refine kB (iTermOk_any A2 R.length c2 R _ HR4.out (by omega)) ?_ (fun _ h _ => absurd ⟨_, HY.out⟩ h.out)
    intro w5 _ hb5
    have HB5 := Lib.hid (HB4.out.trans (hb5.mono HB4.out.size))
    have HM5 := Lib.hid (HM4.out.below hb5)
    have HR5 := Lib.hid (HR4.out.below hb5)
    clear hb5
    obtain ⟨C, HC⟩ : ∃ q, Hid (CntF xs = q) := ⟨_, rfl⟩
    have hCl : C.length ≤ 1048576 := by rw [← HC.out]; exact Nat.le_trans (cntF_len xs) (by decide)
    have hi1 := iCountsOf_any A2 R.length c2 R w5 HR5.out (by omega)
    rw [HCC.out, HC.out] at hi1
    go_wp2_with (fail)
    refine kNewI hi1 ?_
    intro A6 c6 w6 h6 hb6
    clear hi1
    have HB6 := Lib.hid (HB5.out.trans (hb6.mono HB5.out.size))
    have HM6 := Lib.hid (HM5.out.below hb6)
    have HR6 := Lib.hid (HR5.out.below hb6)
    have HC6 := Lib.hid (OwnI.at_ h6)
    clear hb6 h6
    have hi2 := iCountsOf_any (some ⟨g, 0, none⟩) xs.length c xs w6 HM6.out (by omega)
    rw [HC.out] at hi2
    go_wp2_with (fail)
    refine kNewI hi2 ?_
    intro A7 c7 w7 h7 hb7
    clear hi2
    have HB7 := Lib.hid (HB6.out.trans (hb7.mono HB6.out.size))
    have HM7 := Lib.hid (HM6.out.below hb7)
    have HR7 := Lib.hid (HR6.out.below hb7)
    have HC7 := Lib.hid (HC6.out.below hb7)
    have HE7 := Lib.hid (OwnI.at_ h7)
    clear hb7 h7
    go_wp2_with (fail)
    refine kQ (sameInts_any A6 A7 C.length c6 C.length c7 C C _ HC7.out HE7.out (by omega)) ?_ (fun _ h => absurd rfl h.out)
    intro m7 _
    have HB8 := Lib.hid (below_drewN HB7.out m7)
    have HM8 := Lib.hid (HM7.out.drewN m7)
    have HR8 := Lib.hid (HR7.out.drewN m7)
    obtain ⟨w8, HW8⟩ : ∃ q, Hid (w7.drewN m7 = q) := ⟨_, rfl⟩
    rw [HW8.out] at HB8 HM8 HR8 ⊢
    go_wp2_with (fail)
    refine kB (iAlikeTerms_any A2 R.length c2 R (some ⟨g, 0, none⟩) xs.length c xs _ HR8.out HM8.out (by omega) (by omega)) ?_ (fun _ h _ => absurd HAL.out h.out)
    intro w9 _ hb9
    have HB9 := Lib.hid (HB8.out.trans (hb9.mono HB8.out.size))
    have HM9 := Lib.hid (HM8.out.below hb9)
    have HR9 := Lib.hid (HR8.out.below hb9)
    clear hb9
    have hi3 := iTrimTerm_any A2 R.length c2 R w9 HR9.out (by omega)
    rw [HBB.out] at hi3
    go_wp2_with (fail)
    refine kNewM hi3 ?_
    intro A10 c10 w10 h10 hb10
    clear hi3
    have HB10 := Lib.hid (HB9.out.trans (hb10.mono HB9.out.size))
    have HR10 := Lib.hid (HR9.out.below hb10)
    have HS10 := Lib.hid (OwnM.at_ h10)
    clear hb10 h10
    go_wp2_with (fail)
    refine kQ (sameMarks_any A10 A2 R.length c10 R.length c2 R R _ HS10.out HR10.out (by omega)) ?_ (fun _ h => absurd rfl h.out)
    intro m11 _
    go_wp2
    go_ret
    exact ⟨rfl, below_drewN HB10.out m11⟩
  · have HT := Lib.hid hT
    have hR0 : R = [] := by rw [← HR.out]; exact onT_neg hT
    subst hR0
    clear hT
    go_wp2_with (fail)
    refine kB (iTermOk_any (some ⟨g, 0, none⟩) xs.length c xs _ HM4.out (by omega)) (fun _ h _ => absurd h.out HT.out) ?_
    intro w5 _ hb5
    have HB5 := Lib.hid (HB4.out.trans (hb5.mono HB4.out.size))
    clear hb5
    go_wp2_with (fail)
    refine kBV (alive_any _) ?_
    intro w6 hb6
    go_wp2
    go_ret
    exact ⟨rfl, HB5.out.trans (hb6.mono HB5.out.size)⟩

end Go.Proofs.Ytookhelfbnhadaa
