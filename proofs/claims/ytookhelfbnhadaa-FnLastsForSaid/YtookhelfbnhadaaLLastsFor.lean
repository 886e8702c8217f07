/- The walk of FnLastsFor: for every code the law returns true, and the code is left as it was. -/
import Derived.Test.YtookhelfbnhadaaDR7
import Derived.Test.YtookhelfbnhadaaAL
import Derived.Test.YtookhelfbnhadaaSM
namespace Go.Proofs.Ytookhelfbnhadaa
open Go.RowKit

set_option maxRecDepth 100000 in
set_option maxHeartbeats 2000000 in
theorem FnLastsFor_any (A0 : Option Addr) (n0 c0 : Nat) (w : World) (F0 : n0 ≤ 9223372036854775807 ∧ n0 ≤ c0 ∧ BytsAt w w.heap.size A0 n0) :
    Calls Try.prog 8 #[.slice A0 n0 c0] w fun e w' => e = .returned (.bool true) ∧ Below w.heap.size w w' := by
  obtain ⟨hm0, hc0, h0⟩ := F0
  by_cases hn : n0 ≤ 1048576
  rotate_left
  · go_enter Try.func8, Try.ntmps8
    go_wp2
    go_ret
    exact ⟨rfl, Below.refl _ _⟩
  go_enter Try.func8, Try.ntmps8
  go_wp2_with (fail)
  refine kDrawnTI (drawLastsFor_any A0 n0 c0 w h0 hm0 hc0) ?_
  intro g c xs tot w1 hown hl ht0 ht1 hb1
  have hcap := OwnM.cap hown
  have HM1 := Lib.hid (OwnM.at_ hown)
  have HB1 := Lib.hid hb1
  clear hown hb1
  obtain ⟨R, HR⟩ : ∃ q, Hid (ForF xs tot = q) := ⟨_, rfl⟩
  obtain ⟨ok, HOK⟩ : ∃ q, Hid (B (ForP xs tot) = q) := ⟨_, rfl⟩
  have hRl : R.length ≤ 1048576 := by rw [← HR.out]; exact forF_len xs tot
  have hi1 := iLastsFor_any (some ⟨g, 0, none⟩) xs.length c xs tot w1 HM1.out (by omega)
  rw [HR.out, HOK.out] at hi1
  go_wp2_with (fail)
  refine kNewIB hi1 ?_
  intro A2 c2 w2 h2 hb2
  clear hi1
  have hcap2 := OwnI.cap h2
  have HB2 := Lib.hid (HB1.out.trans (hb2.mono HB1.out.size))
  have HM2 := Lib.hid (HM1.out.below hb2)
  have HR2 := Lib.hid (OwnI.at_ h2)
  clear h2 hb2
  have hs1 := sLastsFor_any (some ⟨g, 0, none⟩) xs.length c xs tot w2 HM2.out (by omega) hcap
  rw [HR.out, HOK.out] at hs1
  go_wp2_with (fail)
  refine kNewIB hs1 ?_
  intro A3 c3 w3 h3 hb3
  clear hs1
  have HB3 := Lib.hid (HB2.out.trans (hb3.mono HB2.out.size))
  have HM3 := Lib.hid (HM2.out.below hb3)
  have HR3 := Lib.hid (HR2.out.below hb3)
  have HS3 := Lib.hid (OwnI.at_ h3)
  clear h3 hb3
  go_wp2_with (fail)
  refine kQ (sameInts_any A2 A3 R.length c2 R.length c3 R R _ HR3.out HS3.out (by omega)) ?_ (fun _ h => absurd rfl h.out)
  intro m3 _
  have HB4 := Lib.hid (below_drewN HB3.out m3)
  have HM4 := Lib.hid (HM3.out.drewN m3)
  have HR4 := Lib.hid (HR3.out.drewN m3)
  obtain ⟨w4, HW4⟩ : ∃ q, Hid (w3.drewN m3 = q) := ⟨_, rfl⟩
  rw [HW4.out] at HB4 HM4 HR4 ⊢
  have hi2 := iLengthsOf_any (some ⟨g, 0, none⟩) xs.length c xs w4 HM4.out (by omega)
  have HPD := Lib.hid (show ForP xs tot ↔ ((LenF xs).2.2 = true ∧ InR tot (LenF xs).1 (LenF xs).2.1) from Iff.rfl)
  obtain ⟨L, HL⟩ : ∃ q, Hid (LenF xs = q) := ⟨_, rfl⟩
  rw [HL.out] at hi2 HPD
  obtain ⟨lo, hi, lok⟩ := L
  simp only at HPD
  cases ok with
  | true =>
    have hP := of_B HOK.out
    have hlf := lastF_for hP
    rw [HR.out] at hlf
    obtain ⟨hlf, hpos⟩ := hlf
    obtain ⟨hlk, hin⟩ := HPD.out.1 hP
    obtain ⟨hin0, hin1⟩ := hin
    subst hlk
    clear hP
    go_wp2_with (fail)
    refine kBV hi2 ?_
    intro w5 hb5
    clear hi2
    simp only [lenV]
    have HB5 := Lib.hid (HB4.out.trans (hb5.mono HB4.out.size))
    have HM5 := Lib.hid (HM4.out.below hb5)
    have HR5 := Lib.hid (HR4.out.below hb5)
    clear hb5
    have hi3 := iLastOf_any (some ⟨g, 0, none⟩) xs.length c xs A2 R.length c2 R w5 HM5.out HR5.out (by omega) (by omega) hcap hcap2
    rw [hlf] at hi3
    go_wp2_with (fail)
    refine kBV hi3 ?_
    intro w6 hb6
    clear hi3 hlf
    simp only [lastW]
    have HB6 := Lib.hid (HB5.out.trans (hb6.mono HB5.out.size))
    clear hb6
    go_wp2
    go_ret
    exact ⟨rfl, HB6.out⟩
  | false =>
    have hN := not_of_B HOK.out
    have hR0 : R = [] := by rw [← HR.out]; exact forF_neg hN
    subst hR0
    have hnot : ¬ (lok = true ∧ InR tot lo hi) := fun h => hN (HPD.out.2 h)
    clear hN
    go_wp2_with (fail)
    refine kBV hi2 ?_
    intro w5 hb5
    clear hi2
    simp only [lenV]
    have HB5 := Lib.hid (HB4.out.trans (hb5.mono HB4.out.size))
    clear hb5
    cases lok with
    | false =>
      clear hnot
      go_wp2_with (fail)
      refine kBV (alive_any _) ?_
      intro w6 hb6
      go_wp2
      go_ret
      exact ⟨rfl, HB5.out.trans (hb6.mono HB5.out.size)⟩
    | true =>
      by_cases hq : tot < lo
      · clear hnot
        go_wp2_with (fail)
        refine kBV (alive_any _) ?_
        intro w6 hb6
        go_wp2
        go_ret
        exact ⟨rfl, HB5.out.trans (hb6.mono HB5.out.size)⟩
      · have hq2 : hi < tot := by
          rcases Int.lt_or_le hi tot with h | h
          · exact h
          · exact absurd ⟨rfl, by unfold InR; omega⟩ hnot
        clear hnot
        go_wp2_with (fail)
        refine kBV (alive_any _) ?_
        intro w6 hb6
        go_wp2
        go_ret
        exact ⟨rfl, HB5.out.trans (hb6.mono HB5.out.size)⟩

end Go.Proofs.Ytookhelfbnhadaa
