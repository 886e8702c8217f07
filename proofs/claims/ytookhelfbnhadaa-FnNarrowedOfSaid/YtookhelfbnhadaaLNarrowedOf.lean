/- The walk of FnNarrowedOf: for every code the law returns true, and the code is left as it was. -/
import Derived.Test.YtookhelfbnhadaaDR6
import Derived.Test.YtookhelfbnhadaaAL
import Derived.Test.YtookhelfbnhadaaSM
import Derived.Test.YtookhelfbnhadaaG2
namespace Go.Proofs.Ytookhelfbnhadaa
open Go.RowKit

set_option maxRecDepth 100000 in
set_option maxHeartbeats 40000000 in
theorem FnNarrowedOf_any (A0 : Option Addr) (n0 c0 : Nat) (w : World) (F0 : n0 ≤ 9223372036854775807 ∧ n0 ≤ c0 ∧ BytsAt w w.heap.size A0 n0) :
    Calls Try.prog 11 #[.slice A0 n0 c0] w fun e w' => e = .returned (.bool true) ∧ Below w.heap.size w w' := by
  obtain ⟨hm0, hc0, h0⟩ := F0
  by_cases hn : n0 ≤ 1048576
  rotate_left
  · go_enter Try.func11, Try.ntmps11
    go_wp2
    go_ret
    exact ⟨rfl, Below.refl _ _⟩
  go_enter Try.func11, Try.ntmps11
  go_wp2_with (fail)
  refine kDrawnT (drawNarrowedOf_any A0 n0 c0 w h0 hm0 hc0) ?_
  intro g c xs w1 hown hl hb1
  have hcap := OwnM.cap hown
  have HM1 := Lib.hid (OwnM.at_ hown)
  have HB1 := Lib.hid hb1
  clear hown hb1
  have hRl := narF_len xs
  have HPD := Lib.hid (show NarP xs ↔ (LenF xs).2.2 = true from Iff.rfl)
  have HLAW := Lib.hid (fun lo hi => narrow_law (xs := xs) (lo := lo) (hi := hi))
  have HNO := Lib.hid (fun lo hi => narF_no (xs := xs) (lo := lo) (hi := hi))
  obtain ⟨R, HR⟩ : ∃ q, Hid (NarF xs = q) := ⟨_, rfl⟩
  obtain ⟨ok, HOK⟩ : ∃ q, Hid (B (NarP xs) = q) := ⟨_, rfl⟩
  rw [HR.out] at hRl HLAW HNO
  have hi1 := iNarrowedOf_any (some ⟨g, 0, none⟩) xs.length c xs w1 HM1.out (by omega)
  rw [HR.out, HOK.out] at hi1
  go_wp2_with (fail)
  refine kNewMB hi1 ?_
  intro A2 c2 w2 h2 hb2
  clear hi1
  have hcap2 := OwnM.cap h2
  have HB2 := Lib.hid (HB1.out.trans (hb2.mono HB1.out.size))
  have HM2 := Lib.hid (HM1.out.below hb2)
  have HR2 := Lib.hid (OwnM.at_ h2)
  clear hb2 h2
  have hs1 := sNarrowedOf_any (some ⟨g, 0, none⟩) xs.length c xs w2 HM2.out (by omega) hcap
  rw [HR.out, HOK.out] at hs1
  go_wp2_with (fail)
  refine kNewMB hs1 ?_
  intro A3 c3 w3 h3 hb3
  clear hs1
  have HB3 := Lib.hid (HB2.out.trans (hb3.mono HB2.out.size))
  have HM3 := Lib.hid (HM2.out.below hb3)
  have HR3 := Lib.hid (HR2.out.below hb3)
  have HS3 := Lib.hid (OwnM.at_ h3)
  clear hb3 h3
  go_wp2_with (fail)
  refine kQ (sameMarks_any A2 A3 R.length c2 R.length c3 R R _ HR3.out HS3.out (by omega)) ?_ (fun _ h => absurd rfl h.out)
  intro m3 _
  have HB4 := Lib.hid (below_drewN HB3.out m3)
  have HM4 := Lib.hid (HM3.out.drewN m3)
  have HR4 := Lib.hid (HR3.out.drewN m3)
  have HS4 := Lib.hid (HS3.out.drewN m3)
  obtain ⟨w4, HW4⟩ : ∃ q, Hid (w3.drewN m3 = q) := ⟨_, rfl⟩
  rw [HW4.out] at HB4 HM4 HR4 HS4 ⊢
  have hi2 := iLengthsOf_any (some ⟨g, 0, none⟩) xs.length c xs w4 HM4.out (by omega)
  obtain ⟨L, HL⟩ : ∃ q, Hid (LenF xs = q) := ⟨_, rfl⟩
  rw [HL.out] at hi2 HPD HLAW HNO
  obtain ⟨lo, hi, may⟩ := L
  go_wp2_with (fail)
  refine kBV hi2 ?_
  intro w5 hb5
  clear hi2
  simp only [lenV]
  have HB5 := Lib.hid (HB4.out.trans (hb5.mono HB4.out.size))
  have HM5 := Lib.hid (HM4.out.below hb5)
  have HR5 := Lib.hid (HR4.out.below hb5)
  have HS5 := Lib.hid (HS4.out.below hb5)
  clear hb5
  have HME := Lib.hid (show ok = may from by
    rw [← HOK.out]
    cases hmay : may with
    | true => exact B_true (HPD.out.2 hmay)
    | false => exact B_false (fun hh => by have h2 := HPD.out.1 hh; rw [hmay] at h2; cases h2))
  cases may with
  | false =>
    obtain rfl : ok = false := HME.out
    have hr0 : R.length = 0 := by rw [HNO.out lo hi rfl]; rfl
    go_wp2_with (fail)
    refine kBV (alive_any _) ?_
    intro w6 hb6
    go_wp2
    go_ret
    exact ⟨rfl, HB5.out.trans (hb6.mono HB5.out.size)⟩
  | true =>
    obtain rfl : ok = true := HME.out
    obtain ⟨hT, hR11, hCC, hNN, hNP, hSt⟩ := HLAW.out lo hi rfl
    have HT := Lib.hid hT
    have HCC := Lib.hid hCC
    have HST := Lib.hid hSt
    have HNN := Lib.hid hNN
    have HNP := Lib.hid hNP
    clear hT hCC hSt hNN hNP
    obtain ⟨n, HRN⟩ : ∃ q, Hid (R.length = q) := ⟨_, rfl⟩
    have HRE5 := Lib.hid (show MarksAt w5 A2 n R from by have := HR5.out; rw [HRN.out] at this; exact this)
    have HSE5 := Lib.hid (show MarksAt w5 A3 n R from by have := HS5.out; rw [HRN.out] at this; exact this)
    rw [HRN.out] at hRl hR11 HST hcap2 ⊢
    have hi3 := iNarrowedOf_any A2 n c2 R w5 HRE5.out (by omega)
    rw [HNN.out, B_true HNP.out] at hi3
    go_wp2_with (fail)
    refine kNewMB hi3 ?_
    intro A6 c6 w6 h6 hb6
    clear hi3
    rw [HRN.out] at h6 ⊢
    have HB6 := Lib.hid (HB5.out.trans (hb6.mono HB5.out.size))
    have HM6 := Lib.hid (HM5.out.below hb6)
    have HR6 := Lib.hid (HRE5.out.below hb6)
    have HS6 := Lib.hid (HSE5.out.below hb6)
    have HG6 := Lib.hid (OwnM.at_ h6)
    clear hb6 h6
    go_wp2_with (fail)
    go_loopw [13, 14] (fun st i wr => ∃ k : Nat, k ≤ n ∧ i = .int .i64 k ∧ st = .int .i64 ((stepsIn (R.take k) : Nat) : Int) ∧ Below w6.heap.size w6 wr) (fun _ i _ => n - (intOf i).toNat)
    case atStart => exact ⟨0, Nat.zero_le _, rfl, rfl, Below.refl _ _⟩
    case round =>
      obtain ⟨wo, rfl⟩ : ∃ wo : World, wo = wr := ⟨_, rfl⟩
      obtain ⟨k, hk, rfl, rfl, hb⟩ := hrel
      have HB := Lib.hid hb
      clear hb
      by_cases hlt : k < n
      · obtain ⟨b1, o1, rfl, e0', e1', e2'⟩ := HS6.out.at_ hlt
        have c0' := keep HB.out e0'
        have c1' := keep HB.out e1'
        have c2' := keep HB.out e2'
        have hkr : k < R.length := by rw [HRN.out]; exact hlt
        have hst := Lib.hid (stepsIn_take_succ hkr)
        have hsle : stepsIn (R.take k) ≤ 11 := by have h1 := stepsIn_le (R.take k); rw [List.length_take] at h1; omega
        have HSK := Lib.hid (HST.out k hlt)
        obtain ⟨s, HSS⟩ : ∃ q, Hid (stepsIn (R.take k) = q) := ⟨_, rfl⟩
        rw [HSS.out] at hst hsle HSK ⊢
        obtain ⟨y, HYY⟩ : ∃ q, Hid (R.getD k (0, 0, 0) = q) := ⟨_, rfl⟩
        rw [HYY.out] at c0' c1' c2' e1' e2' hst HSK
        obtain ⟨y0, y1, y2⟩ := y
        simp only at c0' c1' c2' e1' e2' hst HSK
        by_cases hy0 : y0 = 0
        · obtain ⟨a, b, hab, ha0, ha1, hb0, hb1, ⟨hga, hla⟩, ⟨hgb, hlb⟩, hnc, hnd⟩ := HSK.out hy0
          subst hy0
          simp only [Prod.mk.injEq] at hab
          obtain ⟨-, rfl, rfl⟩ := hab
          have HGA := Lib.hid (B_true hga)
          have HGB := Lib.hid (B_true hgb)
          have HLA := Lib.hid hla
          have HLB := Lib.hid hlb
          have HNC := Lib.hid hnc
          have HND := Lib.hid hnd
          clear hga hla hgb hlb hnc hnd
          have C1 := Lib.hid e1'
          have C2 := Lib.hid e2'
          clear e0' e1' e2'
          have h11 : ∀ v, (GivF xs (s : Int) v).length ≤ 11 := fun v => by
            unfold GivF
            split
            · simp [outG]; exact hl
            · exact Nat.zero_le _
          have H11 := Lib.hid h11
          clear h11
          have hg10 := iGivenTerm_any (some ⟨g, 0, none⟩) xs.length c xs (s : Int) (y1) wo (HM6.out.below HB.out) (by omega) (by omega)
          have hu10 := H11.out (y1)
          obtain ⟨U1, HF10⟩ : ∃ q, Hid (GivF xs (s : Int) (y1) = q) := ⟨_, rfl⟩
          rw [HF10.out] at hg10 hu10
          rw [HGA.out] at hg10
          go_wp2_with (fail)
          refine kNewMB hg10 ?_
          intro A10 c10 w10 h10 hb10
          clear hg10
          have HB10 := Lib.hid ((HB.out).trans (hb10.mono (HB.out).size))
          have HU10 := Lib.hid (OwnM.at_ h10)
          replace c1' := keep HB10.out C1.out
          replace c2' := keep HB10.out C2.out
          clear hb10 h10
          have hg11 := iGivenTerm_any (some ⟨g, 0, none⟩) xs.length c xs (s : Int) (y2) w10 (HM6.out.below HB10.out) (by omega) (by omega)
          have hu11 := H11.out (y2)
          obtain ⟨U2, HF11⟩ : ∃ q, Hid (GivF xs (s : Int) (y2) = q) := ⟨_, rfl⟩
          rw [HF11.out] at hg11 hu11
          rw [HGB.out] at hg11
          go_wp2_with (fail)
          refine kNewMB hg11 ?_
          intro A11 c11 w11 h11 hb11
          clear hg11
          have HB11 := Lib.hid ((HB10.out).trans (hb11.mono (HB10.out).size))
          have HU11 := Lib.hid (OwnM.at_ h11)
          replace HU10 := Lib.hid (HU10.out.below hb11)
          replace c1' := keep HB11.out C1.out
          replace c2' := keep HB11.out C2.out
          clear hb11 h11
          have hl12 := iLengthsOf_any A10 U1.length c10 U1 w11 HU10.out (by omega)
          obtain ⟨L12, HQ12⟩ : ∃ q, Hid (LenF U1 = q) := ⟨_, rfl⟩
          rw [HQ12.out] at hl12
          go_wp2_with (fail)
          refine kBV hl12 ?_
          intro w12 hb12
          clear hl12
          have HB12 := Lib.hid ((HB11.out).trans (hb12.mono (HB11.out).size))
          replace HU11 := Lib.hid (HU11.out.below hb12)
          replace c1' := keep HB12.out C1.out
          replace c2' := keep HB12.out C2.out
          clear hb12
          obtain ⟨p1, p2, p3⟩ := L12
          obtain rfl : p3 = true := by have h1 := HLA.out; rw [HF10.out, HQ12.out] at h1; exact h1
          simp only [lenV]
          have hl13 := iLengthsOf_any A11 U2.length c11 U2 w12 HU11.out (by omega)
          obtain ⟨L13, HQ13⟩ : ∃ q, Hid (LenF U2 = q) := ⟨_, rfl⟩
          rw [HQ13.out] at hl13
          go_wp2_with (fail)
          refine kBV hl13 ?_
          intro w13 hb13
          clear hl13
          have HB13 := Lib.hid ((HB12.out).trans (hb13.mono (HB12.out).size))
          replace c1' := keep HB13.out C1.out
          replace c2' := keep HB13.out C2.out
          clear hb13
          obtain ⟨q1, q2, q3⟩ := L13
          obtain rfl : q3 = true := by have h1 := HLB.out; rw [HF11.out, HQ13.out] at h1; exact h1
          simp only [lenV]
          have hg14 := iGivenTerm_any (some ⟨g, 0, none⟩) xs.length c xs (s : Int) ((y1 - 1)) w13 (HM6.out.below HB13.out) (by omega) (by omega)
          have hu14 := H11.out ((y1 - 1))
          obtain ⟨U3, HF14⟩ : ∃ q, Hid (GivF xs (s : Int) ((y1 - 1)) = q) := ⟨_, rfl⟩
          rw [HF14.out] at hg14 hu14
          obtain ⟨three, HTH⟩ : ∃ q, Hid (B (GivP xs (s : Int) (y1 - 1)) = q) := ⟨_, rfl⟩
          rw [HTH.out] at hg14
          go_wp2_with (fail)
          refine kNewMB hg14 ?_
          intro A14 c14 w14 h14 hb14
          clear hg14
          have HB14 := Lib.hid ((HB13.out).trans (hb14.mono (HB13.out).size))
          have HU14 := Lib.hid (OwnM.at_ h14)
          replace c1' := keep HB14.out C1.out
          replace c2' := keep HB14.out C2.out
          clear hb14 h14
          have hg15 := iGivenTerm_any (some ⟨g, 0, none⟩) xs.length c xs (s : Int) ((y2 + 1)) w14 (HM6.out.below HB14.out) (by omega) (by omega)
          have hu15 := H11.out ((y2 + 1))
          obtain ⟨U4, HF15⟩ : ∃ q, Hid (GivF xs (s : Int) ((y2 + 1)) = q) := ⟨_, rfl⟩
          rw [HF15.out] at hg15 hu15
          obtain ⟨four, HFO⟩ : ∃ q, Hid (B (GivP xs (s : Int) (y2 + 1)) = q) := ⟨_, rfl⟩
          rw [HFO.out] at hg15
          go_wp2_with (fail)
          refine kNewMB hg15 ?_
          intro A15 c15 w15 h15 hb15
          clear hg15
          have HB15 := Lib.hid ((HB14.out).trans (hb15.mono (HB14.out).size))
          have HU15 := Lib.hid (OwnM.at_ h15)
          replace HU14 := Lib.hid (HU14.out.below hb15)
          replace c1' := keep HB15.out C1.out
          replace c2' := keep HB15.out C2.out
          clear hb15 h15
          have hl16 := iLengthsOf_any A14 U3.length c14 U3 w15 HU14.out (by omega)
          obtain ⟨L16, HQ16⟩ : ∃ q, Hid (LenF U3 = q) := ⟨_, rfl⟩
          rw [HQ16.out] at hl16
          go_wp2_with (fail)
          refine kBV hl16 ?_
          intro w16 hb16
          clear hl16
          have HB16 := Lib.hid ((HB15.out).trans (hb16.mono (HB15.out).size))
          replace HU15 := Lib.hid (HU15.out.below hb16)
          replace c1' := keep HB16.out C1.out
          replace c2' := keep HB16.out C2.out
          clear hb16
          obtain ⟨r1, r2, less⟩ := L16
          simp only [lenV]
          have hl17 := iLengthsOf_any A15 U4.length c15 U4 w16 HU15.out (by omega)
          obtain ⟨L17, HQ17⟩ : ∃ q, Hid (LenF U4 = q) := ⟨_, rfl⟩
          rw [HQ17.out] at hl17
          go_wp2_with (fail)
          refine kBV hl17 ?_
          intro w17 hb17
          clear hl17
          have HB17 := Lib.hid ((HB16.out).trans (hb17.mono (HB16.out).size))
          replace c1' := keep HB17.out C1.out
          replace c2' := keep HB17.out C2.out
          clear hb17
          obtain ⟨t1, t2, more⟩ := L17
          simp only [lenV]
          have h3 : three = false ∨ (three = true ∧ less = false) := by
            cases hth : three with
            | false => exact .inl rfl
            | true =>
              refine .inr ⟨rfl, ?_⟩
              cases hle : less with
              | false => rfl
              | true => exact absurd ⟨of_B (HTH.out.trans hth), by rw [HF14.out, HQ16.out]; exact hle⟩ HNC.out
          have h4 : four = false ∨ (four = true ∧ more = false) := by
            cases hth : four with
            | false => exact .inl rfl
            | true =>
              refine .inr ⟨rfl, ?_⟩
              cases hle : more with
              | false => rfl
              | true => exact absurd ⟨of_B (HFO.out.trans hth), by rw [HF15.out, HQ17.out]; exact hle⟩ HND.out
          have hsI0 : (0 : Int) ≤ (s : Int) := by omega
          have hsI : (s : Int) ≤ 11 := by omega
          rcases h3 with rfl | ⟨rfl, rfl⟩ <;> rcases h4 with rfl | ⟨rfl, rfl⟩
          all_goals
            go_wp2
            go_roundw
            case rel => exact ⟨k + 1, by omega, by go_num, by rw [hst.out, if_pos trivial]; go_num, HB17.out⟩
            case measure => simp [intOf]; omega
        · have hyb : (y0 == 0) = false := by simpa using hy0
          have HY0 := Lib.hid hy0
          clear hy0
          go_wp2
          go_roundw
          case rel => exact ⟨k + 1, by omega, by go_num, by rw [hst.out, if_neg HY0.out, Nat.add_zero], HB.out⟩
          case measure => simp [intOf]; omega
      · obtain rfl : n = k := by omega
        have HBo := Lib.hid (HB6.out.trans (HB.out.mono HB6.out.size))
        have HMo := Lib.hid (HM6.out.below HB.out)
        have HRo := Lib.hid (HR6.out.below HB.out)
        have HGo := Lib.hid (HG6.out.below HB.out)
        go_wp2_with (fail)
        refine kB (iTermOk_any A2 n c2 R _ HRo.out (by omega)) ?_ (fun _ h _ => absurd HT.out h.out)
        intro w7 _ hb7
        have HB7 := Lib.hid (HBo.out.trans (hb7.mono HBo.out.size))
        have HM7 := Lib.hid (HMo.out.below hb7)
        have HR7 := Lib.hid (HRo.out.below hb7)
        have HG7 := Lib.hid (HGo.out.below hb7)
        clear hb7
        have hcl := cntF_len xs
        have hi4 := iCountsOf_any A2 n c2 R w7 HR7.out (by omega)
        rw [HCC.out] at hi4
        obtain ⟨C, HC⟩ : ∃ q, Hid (CntF xs = q) := ⟨_, rfl⟩
        rw [HC.out] at hi4 hcl
        go_wp2_with (fail)
        refine kNewI hi4 ?_
        intro A8 c8 w8 h8 hb8
        clear hi4
        have HB8 := Lib.hid (HB7.out.trans (hb8.mono HB7.out.size))
        have HM8 := Lib.hid (HM7.out.below hb8)
        have HR8 := Lib.hid (HR7.out.below hb8)
        have HG8 := Lib.hid (HG7.out.below hb8)
        have HC8 := Lib.hid (OwnI.at_ h8)
        clear hb8 h8
        have hi5 := iCountsOf_any (some ⟨g, 0, none⟩) xs.length c xs w8 HM8.out (by omega)
        rw [HC.out] at hi5
        go_wp2_with (fail)
        refine kNewI hi5 ?_
        intro A9 c9 w9 h9 hb9
        clear hi5
        have HB9 := Lib.hid (HB8.out.trans (hb9.mono HB8.out.size))
        have HR9 := Lib.hid (HR8.out.below hb9)
        have HG9 := Lib.hid (HG8.out.below hb9)
        have HC9 := Lib.hid (HC8.out.below hb9)
        have HE9 := Lib.hid (OwnI.at_ h9)
        clear hb9 h9
        go_wp2_with (fail)
        refine kQ (sameInts_any A8 A9 C.length c8 C.length c9 C C _ HC9.out HE9.out (by omega)) ?_ (fun _ h => absurd rfl h.out)
        intro m9 _
        have HBp := Lib.hid (below_drewN HB9.out m9)
        have HRp := Lib.hid (HR9.out.drewN m9)
        have HGp := Lib.hid (HG9.out.drewN m9)
        obtain ⟨w10, HW10⟩ : ∃ q, Hid (w9.drewN m9 = q) := ⟨_, rfl⟩
        rw [HW10.out] at HBp HRp HGp ⊢
        go_wp2_with (fail)
        refine kQ (sameMarks_any A6 A2 n c6 n c2 R R _ HGp.out HRp.out (by omega)) ?_ (fun _ h => absurd rfl h.out)
        intro m11 _
        go_wp2
        go_ret
        exact ⟨rfl, below_drewN HBp.out m11⟩

end Go.Proofs.Ytookhelfbnhadaa
