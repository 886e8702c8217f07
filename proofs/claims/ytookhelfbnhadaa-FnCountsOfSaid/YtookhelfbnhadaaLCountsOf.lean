/- The walk of FnCountsOf: for every code the law returns true, and the code is left as it was. -/
import Derived.Test.YtookhelfbnhadaaDR6
import Derived.Test.YtookhelfbnhadaaAL
import Derived.Test.YtookhelfbnhadaaSM
import Derived.Test.YtookhelfbnhadaaG3
import Derived.Test.YtookhelfbnhadaaQ2
import Derived.Test.YtookhelfbnhadaaMC
import Derived.Laws.OwnMore
namespace Go.Proofs.Ytookhelfbnhadaa
open Go.RowKit

theorem counts_back (xs : List Mk) : CntF (BackF xs) = CntF xs := by
  by_cases h : TOk xs
  · obtain ⟨x, hx⟩ := h
    have e : BackF xs = marksOf (backT x) := onT_pos hx
    have ht : TIs (BackF xs) (backT x) := by rw [e]; exact backT_is hx
    rw [show CntF (BackF xs) = _ from onT_pos ht, show CntF xs = _ from onT_pos hx, cntsT_congr ht.1 hx.1 (cnt_back x)]
  · have e : BackF xs = [] := onT_neg h
    have e2 : CntF [] = [] := onT_neg (fun ⟨y, hy⟩ => by have := tIs_pos hy; simp at this)
    rw [e, e2, show CntF xs = [] from onT_neg h]

set_option maxRecDepth 100000 in
set_option maxHeartbeats 40000000 in
theorem FnCountsOf_any (A0 : Option Addr) (n0 c0 : Nat) (w : World) (F0 : n0 ≤ 9223372036854775807 ∧ n0 ≤ c0 ∧ BytsAt w w.heap.size A0 n0) :
    Calls Try.prog 12 #[.slice A0 n0 c0] w fun e w' => e = .returned (.bool true) ∧ Below w.heap.size w w' := by
  obtain ⟨hm0, hc0, h0⟩ := F0
  by_cases hn : n0 ≤ 1048576
  rotate_left
  · go_enter Try.func12, Try.ntmps12
    go_wp2
    go_ret
    exact ⟨rfl, Below.refl _ _⟩
  go_enter Try.func12, Try.ntmps12
  go_wp2_with (fail)
  refine kDrawnT (drawCountsOf_any A0 n0 c0 w h0 hm0 hc0) ?_
  intro g c xs w1 hown hl hb1
  have hcap := OwnM.cap hown
  have HM1 := Lib.hid (OwnM.at_ hown)
  have HB1 := Lib.hid hb1
  clear hown hb1
  have hcl := cntF_len xs
  have HOKL := Lib.hid (fun lo hi => lenF_ok (xs := xs) (lo := lo) (hi := hi))
  have HNOL := Lib.hid (fun lo hi => lenF_no (xs := xs) (lo := lo) (hi := hi))
  have HBK := Lib.hid (counts_back xs)
  obtain ⟨C, HCC⟩ : ∃ q, Hid (CntF xs = q) := ⟨_, rfl⟩
  rw [HCC.out] at hcl HOKL HNOL
  have hi1 := iCountsOf_any (some ⟨g, 0, none⟩) xs.length c xs w1 HM1.out (by omega)
  rw [HCC.out] at hi1
  go_wp2_with (fail)
  refine kNewI hi1 ?_
  intro A7 c7 w2 h2 hb2
  clear hi1
  have HB2 := Lib.hid (HB1.out.trans (hb2.mono HB1.out.size))
  have HM2 := Lib.hid (HM1.out.below hb2)
  have HC2 := Lib.hid (OwnI.at_ h2)
  have hcap7 := OwnI.cap h2
  clear hb2 h2
  have hs1 := sCountsOf_any (some ⟨g, 0, none⟩) xs.length c xs w2 HM2.out (by omega) hcap
  rw [HCC.out] at hs1
  go_wp2_with (fail)
  refine kNewI hs1 ?_
  intro A3 c3 w3 h3 hb3
  clear hs1
  have HB3 := Lib.hid (HB2.out.trans (hb3.mono HB2.out.size))
  have HM3 := Lib.hid (HM2.out.below hb3)
  have HC3 := Lib.hid (HC2.out.below hb3)
  have HD3 := Lib.hid (OwnI.at_ h3)
  clear hb3 h3
  go_wp2_with (fail)
  refine kQ (sameInts_any A7 A3 C.length c7 C.length c3 C C _ HC3.out HD3.out (by omega)) ?_ (fun _ h => absurd rfl h.out)
  intro m3 _
  have HB4 := Lib.hid (below_drewN HB3.out m3)
  have HM4 := Lib.hid (HM3.out.drewN m3)
  have HC4 := Lib.hid (HC3.out.drewN m3)
  obtain ⟨w4, HW4⟩ : ∃ q, Hid (w3.drewN m3 = q) := ⟨_, rfl⟩
  rw [HW4.out] at HB4 HM4 HC4 ⊢
  have hi2 := iLengthsOf_any (some ⟨g, 0, none⟩) xs.length c xs w4 HM4.out (by omega)
  obtain ⟨L, HL⟩ : ∃ q, Hid (LenF xs = q) := ⟨_, rfl⟩
  rw [HL.out] at hi2 HOKL HNOL
  obtain ⟨lo, hi, ok⟩ := L
  go_wp2_with (fail)
  refine kBV hi2 ?_
  intro w5 hb5
  clear hi2
  simp only [lenV]
  have HB5 := Lib.hid (HB4.out.trans (hb5.mono HB4.out.size))
  have HM5 := Lib.hid (HM4.out.below hb5)
  have HC5 := Lib.hid (HC4.out.below hb5)
  clear hb5
  cases ok with
  | false =>
    have hr0 : C.length = 0 := by rw [HNOL.out lo hi rfl]; rfl
    go_wp2_with (fail)
    refine kBV (alive_any _) ?_
    intro w6 hb6
    go_wp2
    go_ret
    exact ⟨rfl, HB5.out.trans (hb6.mono HB5.out.size)⟩
  | true =>
    obtain ⟨x, hx, hce, hhi, hh0, hh1⟩ := HOKL.out lo hi rfl
    have HX := Lib.hid hx
    obtain ⟨N, HNN⟩ : ∃ q, Hid (C.length = q) := ⟨_, rfl⟩
    have hNI : (N : Int) = hi + 1 := by
      have h1 := cntL_len x
      rw [← hce, hhi, HNN.out] at h1
      omega
    have HCG := Lib.hid (show ∀ j, j < N → C.getD j 0 = (cntT x (j : Int) : Int) from fun j hj => by
      rw [hce]; exact cntL_get (by rw [hhi]; omega))
    have HLR := Lib.hid (show lenR x = (lo, hi, true) from by have := HL.out; rwa [show LenF xs = lenR x from onT_pos hx] at this)
    have HGE := Lib.hid (show ∀ k : Nat, k < N → (0 < cntT x (k : Int) ↔ lo ≤ (k : Int)) from fun k hk => by
      have h1 := HLR.out
      unfold lenR at h1
      split at h1
      · cases h1
      · rename_i hok
        have e0 : (lenS x).1 = lo := by rw [h1]
        have e2 : (lenS x).2.2 = true := by rw [h1]
        rw [cnt_pos hx.1, e0, e2, hhi]
        exact ⟨fun h => h.2.1, fun h => ⟨rfl, h, by omega⟩⟩)
    have HNI := Lib.hid hNI
    have hNp : 0 < N := by omega
    have HSM := Lib.hid (cnt_small hx.1 (by rw [hx.2.1]; exact hx.2.2))
    have hN1 : (N : Int) ≤ hi + 1 := by omega
    have hN2 : hi + 1 ≤ (N : Int) := by omega
    have hsv : StepsV xs = (stepsT x : Int) := steps_of hx
    have HSV := Lib.hid hsv
    have hsp := stepsT_pos x
    have hs11 := hx.steps
    have HC5' := Lib.hid (show IntsAt w5 A7 N C from by have := HC5.out; rw [HNN.out] at this; exact this)
    rw [HNN.out] at hcl hcap7 ⊢
    clear hx hce hhi hNI hsv
    go_wp2_with (fail)
    go_loopw [8] (fun i wr => ∃ k : Nat, k ≤ N ∧ i = .int .i64 k ∧ ∃ m : Nat, wr = w5.drewN m) (fun i _ => N - (intOf i).toNat)
    case atStart => exact ⟨0, Nat.zero_le _, rfl, 0, rfl⟩
    case round =>
      obtain ⟨k, hk, rfl, m, rfl⟩ := hrel
      have HCk := Lib.hid (HC5'.out.drewN m)
      by_cases hlt : k < N
      · obtain ⟨b1, o1, rfl, hd1⟩ := HCk.out.cells (by omega)
        have d1 := hd1 k hlt
        rw [HCG.out k hlt] at d1
        have hge := HGE.out k hlt
        obtain ⟨z, HZ⟩ : ∃ z : Nat, Hid (cntT x (k : Int) = z) := ⟨_, rfl⟩
        rw [HZ.out] at d1 hge
        have HGK := Lib.hid hge
        have hkI0 : (0 : Int) ≤ (k : Int) := by omega
        have hkI1 : (k : Int) < (N : Int) := by omega
        have hzI : ¬ (z : Int) < 0 := by omega
        clear hd1 hge
        by_cases hlo : lo ≤ (k : Int)
        · have hz1 : (0 : Int) < (z : Int) := by have := HGK.out.2 hlo; omega
          go_wp2
          go_roundw
          case rel => exact ⟨k + 1, by omega, by go_num, m, rfl⟩
          case measure => simp [intOf] <;> omega
        · have hz1 : ¬ (0 : Int) < (z : Int) := fun h => hlo (HGK.out.1 (by omega))
          go_wp2
          go_roundw
          case rel => exact ⟨k + 1, by omega, by go_num, m, rfl⟩
          case measure => simp [intOf] <;> omega
      · obtain rfl : N = k := by omega
        have HB5' := Lib.hid (below_drewN HB5.out m)
        have HM5' := Lib.hid (HM5.out.drewN m)
        have HC5'' := Lib.hid (HC5'.out.drewN m)
        obtain ⟨w6, HW6⟩ : ∃ q, Hid (w5.drewN m = q) := ⟨_, rfl⟩
        rw [HW6.out] at HB5' HM5' HC5'' ⊢
        have hi3 := sStepsOf_any (some ⟨g, 0, none⟩) xs.length c xs w6 HM5'.out (by omega)
        rw [HSV.out] at hi3
        obtain ⟨S, HSS⟩ : ∃ q, Hid (stepsT x = q) := ⟨_, rfl⟩
        rw [HSS.out] at hi3 hsp hs11
        go_wp2_with (fail)
        refine kBV hi3 ?_
        intro w7 hb7
        clear hi3
        have HB7 := Lib.hid (HB5'.out.trans (hb7.mono HB5'.out.size))
        have HM7 := Lib.hid (HM5'.out.below hb7)
        have HC7 := Lib.hid (HC5''.out.below hb7)
        clear hb7
        replace HSS := Lib.hid (show S = stepsT x from HSS.out.symm)
        by_cases hS2 : S ≤ 2
        · have hmk : ∀ W : World, (Instr.makeSlice 37 (.int .i64 (N : Int)) (.int .i64 (N : Int))).run Try.prog W = .ok (.slice (some ⟨W.heap.size, 0, none⟩) N N) (W.alloc (.cells (madeCells #[.int .i64 0] N) 3)) :=
            fun W => run_make_row' _ _ _ 8 Try.underlying37 int_info rfl _ _ N (by omega) (by omega) W
          obtain ⟨w8, HW8⟩ : ∃ z, Hid (w7.alloc (.cells (madeCells #[.int .i64 0] N) 3) = z) := ⟨_, rfl⟩
          have HB78 := Lib.hid (show Below w7.heap.size w7 w8 from HW8.out ▸ (Below.refl _ _).alloc (Nat.le_refl _) _)
          rcases (show S = 1 ∨ S = 2 by omega) with rfl | rfl
          ·
            have HEND := Lib.hid (fun (N : Nat) (C : List Int) (h1 : C.length = N) (h2 : ∀ j, j < N → C.getD j 0 = (cntT x (j : Int) : Int)) => mnL_end HX.out (S := 1) (W := 1) HSS.out (by decide) rfl h1 h2)
            have HLE := Lib.hid (fun a b j (ha : a < 20) (hb : b ≤ 1) => (by have h1 := mnP_le (lawF xs 1) 1 a b j ha hb; rw [law_count HX.out (S := 1) (W := 1) HSS.out (by decide) rfl j] at h1; exact Nat.le_trans h1 (cnt_small HX.out.1 (by rw [HX.out.2.1]; exact HX.out.2.2) _) : mnP (lawF xs 1) 1 a b j ≤ 64000000))
            have HO8 := Lib.hid (show OwnI w8 w7.heap.size (some ⟨w7.heap.size, 0, none⟩) N N (mnL (lawF xs 1) 1 0 0 N) from HW8.out ▸ by
              have h1 := own_lit w7 w7.heap.size 3 1 (madeCells #[.int .i64 0] N) N (Nat.le_refl _) (by unfold maxLen; omega) (by rw [size_madeCells]; omega)
              rw [toList_madeCells_one] at h1
              show World.ownsRow _ _ _ _ _ _ (vI _)
              have e : vI (mnL (lawF xs 1) 1 0 0 N) = List.replicate N (.int .i64 0) := by rw [mnL_zero]; simp [vI]
              rw [e]; exact h1)
            go_wp2_with (fail)
            rw [HW8.out]
            go_loopw [11, 12] (fun i _ wr => ∃ a : Nat, a ≤ 20 ∧ i = .int .i64 a ∧ OwnI wr w7.heap.size (some ⟨w7.heap.size, 0, none⟩) N N (mnL (lawF xs 1) 1 a 0 N) ∧ Below w7.heap.size w7 wr) (fun i _ _ => 20 - (intOf i).toNat)
            case atStart => exact ⟨0, Nat.zero_le _, rfl, HO8.out, HB78.out⟩
            case round =>
              obtain ⟨wo, rfl⟩ : ∃ wo : World, wo = wr := ⟨_, rfl⟩
              obtain ⟨a, ha20, rfl, hown, hb⟩ := hrel
              have HO := Lib.hid hown
              have HB := Lib.hid hb
              clear hown hb
              by_cases hlt : a < 20
              · have HROW := Lib.hid (mnL_row (lawF xs 1) 1 a N)
                have hltI : (a : Int) < 20 := by omega
                go_wp2_with (fail)
                go_loopw [12] (fun i wr => ∃ b : Nat, b ≤ 1 ∧ i = .int .i64 b ∧ OwnI wr w7.heap.size (some ⟨w7.heap.size, 0, none⟩) N N (mnL (lawF xs 1) 1 a b N) ∧ Below w7.heap.size w7 wr) (fun i _ => 1 - (intOf i).toNat)
                case atStart => exact ⟨0, Nat.zero_le _, rfl, HO.out, HB.out⟩
                case round =>
                  obtain ⟨wi, rfl⟩ : ∃ wi : World, wi = wr := ⟨_, rfl⟩
                  obtain ⟨b, hbW, rfl, hown, hb⟩ := hrel
                  have HOI := Lib.hid hown
                  have HBI := Lib.hid hb
                  clear hown hb
                  by_cases hbq : b < 1
                  · obtain rfl : b = 0 := by omega
                    have HLE2 := Lib.hid (fun j => HLE.out a (0 + 1) j hlt (by omega))
                    obtain ⟨wq, HWQ⟩ : ∃ z, Hid (wi.alloc (.cells #[.int .i64 (a : Int), .int .i64 0] 3) = z) := ⟨_, rfl⟩
                    have hbq' : Below wi.heap.size wi wq := HWQ.out ▸ (Below.refl _ _).alloc (Nat.le_refl _) _
                    have HIQ := Lib.hid (show IntsAt wq (some ⟨wi.heap.size, 0, none⟩) 1 [(a : Int)] from HWQ.out ▸ ⟨rfl, fun _ => ⟨wi.heap.size, 0, rfl, fun j hj => by
                      match j, hj with
                      | 0, _ => simp [go_sem]
            ⟩⟩)
                    have hi6 := iLastOf_any (some ⟨g, 0, none⟩) xs.length c xs (some ⟨wi.heap.size, 0, none⟩) 1 2 [(a : Int)] wq ((HM7.out.below HBI.out).below hbq') HIQ.out (by omega) (by omega) hcap (by omega)
                    have hfe : LastF xs [(a : Int)] = lawF xs 1 a 0 := rfl
                    rw [hfe] at hi6
                    clear hfe
                    have HOQ := Lib.hid (own_below HOI.out hbq')
                    have HBQ := Lib.hid (HBI.out.trans (hbq'.mono HBI.out.size))
                    clear hbq'
                    have HMISS := Lib.hid (mnL_miss (lawF xs 1) 1 a 0 N)
                    have HHIT := Lib.hid (fun m => mnL_hit (lawF xs 1) 1 a 0 N m)
                    have HSTEP := Lib.hid (fun m => mnP_hit (lawF xs 1) 1 a 0 m)
                    obtain ⟨P, HP⟩ : ∃ z, Hid (lawF xs 1 a 0 = z) := ⟨_, rfl⟩
                    rw [HP.out] at hi6 HMISS HHIT HSTEP
                    obtain ⟨nn, can⟩ := P
                    go_wp2_with (fail)
                    rw [HWQ.out]
                    refine kBV hi6 ?_
                    intro wl hbl
                    clear hi6
                    simp only [lastW]
                    have HOL := Lib.hid (own_below HOQ.out hbl)
                    have HBL := Lib.hid (HBQ.out.trans (hbl.mono HBQ.out.size))
                    clear hbl
                    have hcase : (can = true ∧ 0 ≤ nn ∧ nn < (N : Int)) ∨ can = false ∨ (can = true ∧ nn < 0) ∨ (can = true ∧ 0 ≤ nn ∧ (N : Int) ≤ nn) := by
                      cases can with
                      | false => exact .inr (.inl rfl)
                      | true =>
                        rcases Int.lt_or_le nn 0 with h | h
                        · exact .inr (.inr (.inl ⟨rfl, h⟩))
                        · rcases Int.lt_or_le nn (N : Int) with h2 | h2
                          · exact .inl ⟨rfl, h, h2⟩
                          · exact .inr (.inr (.inr ⟨rfl, h, h2⟩))
                    rcases hcase with ⟨rfl, hn0', hn1'⟩ | hmiss
                    · obtain ⟨m, rfl⟩ := Int.eq_ofNat_of_zero_le hn0'
                      have hmN : m < N := by omega
                      obtain ⟨b3, o3, e3, hd3⟩ := (OwnI.at_ HOL.out).cells (by omega)
                      cases e3
                      have d3 := hd3 m hmN
                      rw [Nat.zero_add, mnL_get _ _ _ _ hmN] at d3
                      have f3 := HOL.out.frozenAt m
                      have hle := HLE2.out m
                      rw [HSTEP.out m rfl] at hle
                      have HST := Lib.hid (HHIT.out m rfl)
                      obtain ⟨z0, HZ0⟩ : ∃ z : Int, Hid ((mnP (lawF xs 1) 1 a 0 m : Int) = z) := ⟨_, rfl⟩
                      have hb0 : 0 ≤ z0 ∧ z0 ≤ 64000000 := by rw [← HZ0.out]; omega
                      obtain ⟨hz0, hz1⟩ := hb0
                      rw [HZ0.out] at d3 HST
                      have hmI0 : (0 : Int) ≤ (m : Int) := by omega
                      have hmI1 : (m : Int) < (N : Int) := by omega
                      clear hd3 hle
                      go_wp2
                      go_roundw
                      case rel =>
                        have h1 := own_set HOL.out m (.int .i64 (z0 + 1))
                        have hg := (HOL.out.stored m (.int .i64 (z0 + 1))).2
                        have e : vI (mnL (lawF xs 1) 1 a (0 + 1) N) = (vI (mnL (lawF xs 1) 1 a 0 N)).set m (.int .i64 (z0 + 1)) := by rw [HST.out]; simp [vI, List.map_set]
                        refine ⟨0 + 1, by omega, by go_num, ?_, HBL.out.grown hg HBL.out.size (fun j hj => by cases hj; exact Nat.le_refl _)⟩
                        show World.ownsRow _ _ _ _ _ _ (vI _)
                        rw [e]; exact h1
                      case measure => simp [intOf] <;> omega
                    · have HST := Lib.hid (HMISS.out (fun hh => by rcases hmiss with h | h | h <;> (try simp only at hh) <;> (first | (rw [h] at hh; exact absurd hh.1 (by simp)) | omega)))
                      rcases hmiss with rfl | ⟨rfl, h1⟩ | ⟨rfl, h1, h2⟩
                      all_goals
                        go_wp2
                        go_roundw
                        case rel => first | exact ⟨0 + 1, by omega, by go_num, by rw [HST.out]; exact HOL.out, HBL.out⟩ | exact ⟨_, _, _, _, _, _, _, _, _, _, _, _, _, _, _, _, _, _, _, _, _, _, _, _, _, _, _, _, _, _, _, _, _, _, _, _, _, _, _, _, _, _, _, _, ⟨0 + 1, by omega, by go_num, by rw [HST.out]; exact HOL.out, HBL.out⟩, rfl⟩
                        case measure => simp [intOf] <;> omega
                  · obtain rfl : b = 1 := by omega
                    go_wp2
                    go_roundw
                    case rel => exact ⟨a + 1, by omega, by go_num, by rw [← HROW.out]; exact HOI.out, HBI.out⟩
                    case measure => simp [intOf] <;> omega
              · obtain rfl : a = 20 := by omega
                have HEQ := Lib.hid (HEND.out N C HNN.out HCG.out)
                rw [HEQ.out] at HO
                have HSo := Lib.hid (OwnI.at_ HO.out)
                have HCo := Lib.hid (HC7.out.below HB.out)
                have HMo := Lib.hid (HM7.out.below HB.out)
                have HBo := Lib.hid (HB7.out.trans (HB.out.mono HB7.out.size))
                go_wp2_with (fail)
                refine kQ (sameInts_any (some ⟨w7.heap.size, 0, none⟩) A7 N N N c7 C C _ HSo.out HCo.out (by omega)) ?_ (fun _ h => absurd rfl h.out)
                intro m9 _
                have HBz := Lib.hid (below_drewN HBo.out m9)
                have HMz := Lib.hid (HMo.out.drewN m9)
                have HCz := Lib.hid (HCo.out.drewN m9)
                obtain ⟨wz, HWZ⟩ : ∃ q, Hid (wo.drewN m9 = q) := ⟨_, rfl⟩
                rw [HWZ.out] at HBz HMz HCz ⊢
                go_wp2_with (fail)
                refine kNewM (iBackTerm_any (some ⟨g, 0, none⟩) xs.length c xs _ HMz.out (by omega)) ?_
                intro A12 c12 w12 h12 hb12
                have HB12 := Lib.hid (HBz.out.trans (hb12.mono HBz.out.size))
                have HC12 := Lib.hid (HCz.out.below hb12)
                have HK12 := Lib.hid (OwnM.at_ h12)
                clear hb12 h12
                have hi8 := iCountsOf_any A12 (BackF xs).length c12 (BackF xs) w12 HK12.out (by have := backF_len xs; omega)
                rw [HBK.out, HCC.out] at hi8
                go_wp2_with (fail)
                refine kNewI hi8 ?_
                intro A13 c13 w13 h13 hb13
                clear hi8
                rw [HNN.out] at h13 ⊢
                have HB13 := Lib.hid (HB12.out.trans (hb13.mono HB12.out.size))
                have HC13 := Lib.hid (HC12.out.below hb13)
                have HD13 := Lib.hid (OwnI.at_ h13)
                clear hb13 h13
                go_wp2_with (fail)
                refine kQ (sameInts_any A13 A7 N c13 N c7 C C _ HD13.out HC13.out (by omega)) ?_ (fun _ h => absurd rfl h.out)
                intro m14 _
                go_wp2
                go_ret
                exact ⟨rfl, below_drewN HB13.out m14⟩
          ·
            have HEND := Lib.hid (fun (N : Nat) (C : List Int) (h1 : C.length = N) (h2 : ∀ j, j < N → C.getD j 0 = (cntT x (j : Int) : Int)) => mnL_end HX.out (S := 2) (W := 20) HSS.out (by decide) rfl h1 h2)
            have HLE := Lib.hid (fun a b j (ha : a < 20) (hb : b ≤ 20) => (by have h1 := mnP_le (lawF xs 2) 20 a b j ha hb; rw [law_count HX.out (S := 2) (W := 20) HSS.out (by decide) rfl j] at h1; exact Nat.le_trans h1 (cnt_small HX.out.1 (by rw [HX.out.2.1]; exact HX.out.2.2) _) : mnP (lawF xs 2) 20 a b j ≤ 64000000))
            have HO8 := Lib.hid (show OwnI w8 w7.heap.size (some ⟨w7.heap.size, 0, none⟩) N N (mnL (lawF xs 2) 20 0 0 N) from HW8.out ▸ by
              have h1 := own_lit w7 w7.heap.size 3 1 (madeCells #[.int .i64 0] N) N (Nat.le_refl _) (by unfold maxLen; omega) (by rw [size_madeCells]; omega)
              rw [toList_madeCells_one] at h1
              show World.ownsRow _ _ _ _ _ _ (vI _)
              have e : vI (mnL (lawF xs 2) 20 0 0 N) = List.replicate N (.int .i64 0) := by rw [mnL_zero]; simp [vI]
              rw [e]; exact h1)
            go_wp2_with (fail)
            rw [HW8.out]
            go_loopw [11, 12] (fun i _ wr => ∃ a : Nat, a ≤ 20 ∧ i = .int .i64 a ∧ OwnI wr w7.heap.size (some ⟨w7.heap.size, 0, none⟩) N N (mnL (lawF xs 2) 20 a 0 N) ∧ Below w7.heap.size w7 wr) (fun i _ _ => 20 - (intOf i).toNat)
            case atStart => exact ⟨0, Nat.zero_le _, rfl, HO8.out, HB78.out⟩
            case round =>
              obtain ⟨wo, rfl⟩ : ∃ wo : World, wo = wr := ⟨_, rfl⟩
              obtain ⟨a, ha20, rfl, hown, hb⟩ := hrel
              have HO := Lib.hid hown
              have HB := Lib.hid hb
              clear hown hb
              by_cases hlt : a < 20
              · have HROW := Lib.hid (mnL_row (lawF xs 2) 20 a N)
                have hltI : (a : Int) < 20 := by omega
                go_wp2_with (fail)
                go_loopw [12] (fun i wr => ∃ b : Nat, b ≤ 20 ∧ i = .int .i64 b ∧ OwnI wr w7.heap.size (some ⟨w7.heap.size, 0, none⟩) N N (mnL (lawF xs 2) 20 a b N) ∧ Below w7.heap.size w7 wr) (fun i _ => 20 - (intOf i).toNat)
                case atStart => exact ⟨0, Nat.zero_le _, rfl, HO.out, HB.out⟩
                case round =>
                  obtain ⟨wi, rfl⟩ : ∃ wi : World, wi = wr := ⟨_, rfl⟩
                  obtain ⟨b, hbW, rfl, hown, hb⟩ := hrel
                  have HOI := Lib.hid hown
                  have HBI := Lib.hid hb
                  clear hown hb
                  by_cases hbq : b < 20
                  · skip
                    have HLE2 := Lib.hid (fun j => HLE.out a (b + 1) j hlt (by omega))
                    obtain ⟨wq, HWQ⟩ : ∃ z, Hid (wi.alloc (.cells #[.int .i64 (a : Int), .int .i64 (b : Int)] 3) = z) := ⟨_, rfl⟩
                    have hbq' : Below wi.heap.size wi wq := HWQ.out ▸ (Below.refl _ _).alloc (Nat.le_refl _) _
                    have HIQ := Lib.hid (show IntsAt wq (some ⟨wi.heap.size, 0, none⟩) 2 [(a : Int), (b : Int)] from HWQ.out ▸ ⟨rfl, fun _ => ⟨wi.heap.size, 0, rfl, fun j hj => by
                      match j, hj with
                      | 0, _ => simp [go_sem]
                      | 1, _ => simp [go_sem]⟩⟩)
                    have hi6 := iLastOf_any (some ⟨g, 0, none⟩) xs.length c xs (some ⟨wi.heap.size, 0, none⟩) 2 2 [(a : Int), (b : Int)] wq ((HM7.out.below HBI.out).below hbq') HIQ.out (by omega) (by omega) hcap (by omega)
                    have hfe : LastF xs [(a : Int), (b : Int)] = lawF xs 2 a b := rfl
                    rw [hfe] at hi6
                    clear hfe
                    have HOQ := Lib.hid (own_below HOI.out hbq')
                    have HBQ := Lib.hid (HBI.out.trans (hbq'.mono HBI.out.size))
                    clear hbq'
                    have HMISS := Lib.hid (mnL_miss (lawF xs 2) 20 a b N)
                    have HHIT := Lib.hid (fun m => mnL_hit (lawF xs 2) 20 a b N m)
                    have HSTEP := Lib.hid (fun m => mnP_hit (lawF xs 2) 20 a b m)
                    obtain ⟨P, HP⟩ : ∃ z, Hid (lawF xs 2 a b = z) := ⟨_, rfl⟩
                    rw [HP.out] at hi6 HMISS HHIT HSTEP
                    obtain ⟨nn, can⟩ := P
                    go_wp2_with (fail)
                    rw [HWQ.out]
                    refine kBV hi6 ?_
                    intro wl hbl
                    clear hi6
                    simp only [lastW]
                    have HOL := Lib.hid (own_below HOQ.out hbl)
                    have HBL := Lib.hid (HBQ.out.trans (hbl.mono HBQ.out.size))
                    clear hbl
                    have hcase : (can = true ∧ 0 ≤ nn ∧ nn < (N : Int)) ∨ can = false ∨ (can = true ∧ nn < 0) ∨ (can = true ∧ 0 ≤ nn ∧ (N : Int) ≤ nn) := by
                      cases can with
                      | false => exact .inr (.inl rfl)
                      | true =>
                        rcases Int.lt_or_le nn 0 with h | h
                        · exact .inr (.inr (.inl ⟨rfl, h⟩))
                        · rcases Int.lt_or_le nn (N : Int) with h2 | h2
                          · exact .inl ⟨rfl, h, h2⟩
                          · exact .inr (.inr (.inr ⟨rfl, h, h2⟩))
                    rcases hcase with ⟨rfl, hn0', hn1'⟩ | hmiss
                    · obtain ⟨m, rfl⟩ := Int.eq_ofNat_of_zero_le hn0'
                      have hmN : m < N := by omega
                      obtain ⟨b3, o3, e3, hd3⟩ := (OwnI.at_ HOL.out).cells (by omega)
                      cases e3
                      have d3 := hd3 m hmN
                      rw [Nat.zero_add, mnL_get _ _ _ _ hmN] at d3
                      have f3 := HOL.out.frozenAt m
                      have hle := HLE2.out m
                      rw [HSTEP.out m rfl] at hle
                      have HST := Lib.hid (HHIT.out m rfl)
                      obtain ⟨z0, HZ0⟩ : ∃ z : Int, Hid ((mnP (lawF xs 2) 20 a b m : Int) = z) := ⟨_, rfl⟩
                      have hb0 : 0 ≤ z0 ∧ z0 ≤ 64000000 := by rw [← HZ0.out]; omega
                      obtain ⟨hz0, hz1⟩ := hb0
                      rw [HZ0.out] at d3 HST
                      have hmI0 : (0 : Int) ≤ (m : Int) := by omega
                      have hmI1 : (m : Int) < (N : Int) := by omega
                      clear hd3 hle
                      go_wp2
                      go_roundw
                      case rel =>
                        have h1 := own_set HOL.out m (.int .i64 (z0 + 1))
                        have hg := (HOL.out.stored m (.int .i64 (z0 + 1))).2
                        have e : vI (mnL (lawF xs 2) 20 a (b + 1) N) = (vI (mnL (lawF xs 2) 20 a b N)).set m (.int .i64 (z0 + 1)) := by rw [HST.out]; simp [vI, List.map_set]
                        refine ⟨b + 1, by omega, by go_num, ?_, HBL.out.grown hg HBL.out.size (fun j hj => by cases hj; exact Nat.le_refl _)⟩
                        show World.ownsRow _ _ _ _ _ _ (vI _)
                        rw [e]; exact h1
                      case measure => simp [intOf] <;> omega
                    · have HST := Lib.hid (HMISS.out (fun hh => by rcases hmiss with h | h | h <;> (try simp only at hh) <;> (first | (rw [h] at hh; exact absurd hh.1 (by simp)) | omega)))
                      rcases hmiss with rfl | ⟨rfl, h1⟩ | ⟨rfl, h1, h2⟩
                      all_goals
                        go_wp2
                        go_roundw
                        case rel => first | exact ⟨b + 1, by omega, by go_num, by rw [HST.out]; exact HOL.out, HBL.out⟩ | exact ⟨_, _, _, _, _, _, _, _, _, _, _, _, _, _, _, _, _, _, _, _, _, _, _, _, _, _, _, _, _, _, _, _, _, _, _, _, _, _, _, _, _, _, _, _, ⟨b + 1, by omega, by go_num, by rw [HST.out]; exact HOL.out, HBL.out⟩, rfl⟩
                        case measure => simp [intOf] <;> omega
                  · obtain rfl : b = 20 := by omega
                    go_wp2
                    go_roundw
                    case rel => exact ⟨a + 1, by omega, by go_num, by rw [← HROW.out]; exact HOI.out, HBI.out⟩
                    case measure => simp [intOf] <;> omega
              · obtain rfl : a = 20 := by omega
                have HEQ := Lib.hid (HEND.out N C HNN.out HCG.out)
                rw [HEQ.out] at HO
                have HSo := Lib.hid (OwnI.at_ HO.out)
                have HCo := Lib.hid (HC7.out.below HB.out)
                have HMo := Lib.hid (HM7.out.below HB.out)
                have HBo := Lib.hid (HB7.out.trans (HB.out.mono HB7.out.size))
                go_wp2_with (fail)
                refine kQ (sameInts_any (some ⟨w7.heap.size, 0, none⟩) A7 N N N c7 C C _ HSo.out HCo.out (by omega)) ?_ (fun _ h => absurd rfl h.out)
                intro m9 _
                have HBz := Lib.hid (below_drewN HBo.out m9)
                have HMz := Lib.hid (HMo.out.drewN m9)
                have HCz := Lib.hid (HCo.out.drewN m9)
                obtain ⟨wz, HWZ⟩ : ∃ q, Hid (wo.drewN m9 = q) := ⟨_, rfl⟩
                rw [HWZ.out] at HBz HMz HCz ⊢
                go_wp2_with (fail)
                refine kNewM (iBackTerm_any (some ⟨g, 0, none⟩) xs.length c xs _ HMz.out (by omega)) ?_
                intro A12 c12 w12 h12 hb12
                have HB12 := Lib.hid (HBz.out.trans (hb12.mono HBz.out.size))
                have HC12 := Lib.hid (HCz.out.below hb12)
                have HK12 := Lib.hid (OwnM.at_ h12)
                clear hb12 h12
                have hi8 := iCountsOf_any A12 (BackF xs).length c12 (BackF xs) w12 HK12.out (by have := backF_len xs; omega)
                rw [HBK.out, HCC.out] at hi8
                go_wp2_with (fail)
                refine kNewI hi8 ?_
                intro A13 c13 w13 h13 hb13
                clear hi8
                rw [HNN.out] at h13 ⊢
                have HB13 := Lib.hid (HB12.out.trans (hb13.mono HB12.out.size))
                have HC13 := Lib.hid (HC12.out.below hb13)
                have HD13 := Lib.hid (OwnI.at_ h13)
                clear hb13 h13
                go_wp2_with (fail)
                refine kQ (sameInts_any A13 A7 N c13 N c7 C C _ HD13.out HC13.out (by omega)) ?_ (fun _ h => absurd rfl h.out)
                intro m14 _
                go_wp2
                go_ret
                exact ⟨rfl, below_drewN HB13.out m14⟩
        · have hSI : ¬ (S : Int) ≤ 2 := by omega
          have HBz := HB7
          have HMz := HM7
          have HCz := HC7
          go_wp2_with (fail)
          refine kNewM (iBackTerm_any (some ⟨g, 0, none⟩) xs.length c xs _ HMz.out (by omega)) ?_
          intro A12 c12 w12 h12 hb12
          have HB12 := Lib.hid (HBz.out.trans (hb12.mono HBz.out.size))
          have HC12 := Lib.hid (HCz.out.below hb12)
          have HK12 := Lib.hid (OwnM.at_ h12)
          clear hb12 h12
          have hi8 := iCountsOf_any A12 (BackF xs).length c12 (BackF xs) w12 HK12.out (by have := backF_len xs; omega)
          rw [HBK.out, HCC.out] at hi8
          go_wp2_with (fail)
          refine kNewI hi8 ?_
          intro A13 c13 w13 h13 hb13
          clear hi8
          rw [HNN.out] at h13 ⊢
          have HB13 := Lib.hid (HB12.out.trans (hb13.mono HB12.out.size))
          have HC13 := Lib.hid (HC12.out.below hb13)
          have HD13 := Lib.hid (OwnI.at_ h13)
          clear hb13 h13
          go_wp2_with (fail)
          refine kQ (sameInts_any A13 A7 N c13 N c7 C C _ HD13.out HC13.out (by omega)) ?_ (fun _ h => absurd rfl h.out)
          intro m14 _
          go_wp2
          go_ret
          exact ⟨rfl, below_drewN HB13.out m14⟩

end Go.Proofs.Ytookhelfbnhadaa

