/- The walk of FnGivenTerm: for every code the law returns true, and the code is left as it was. -/
import Derived.Test.YtookhelfbnhadaaDR8
import Derived.Test.YtookhelfbnhadaaAL
import Derived.Test.YtookhelfbnhadaaSM
import Derived.Test.YtookhelfbnhadaaG1
import Derived.Test.YtookhelfbnhadaaN5
import Derived.BigRegion
import Derived.Laws.OwnMore
namespace Go.Proofs.Ytookhelfbnhadaa
open Go.RowKit

set_option maxRecDepth 100000 in
set_option maxHeartbeats 40000000 in
theorem FnGivenTerm_any (A0 : Option Addr) (n0 c0 : Nat) (w : World) (F0 : n0 ≤ 9223372036854775807 ∧ n0 ≤ c0 ∧ BytsAt w w.heap.size A0 n0) :
    Calls Try.prog 6 #[.slice A0 n0 c0] w fun e w' => e = .returned (.bool true) ∧ Below w.heap.size w w' := by
  obtain ⟨hm0, hc0, h0⟩ := F0
  by_cases hn : n0 ≤ 1048576
  rotate_left
  · go_enter Try.func6, Try.ntmps6
    go_wp2
    go_ret
    exact ⟨rfl, Below.refl _ _⟩
  go_enter Try.func6, Try.ntmps6
  go_wp2_with (fail)
  refine kDrawnTII (drawGivenTerm_any A0 n0 c0 w h0 hm0 hc0) ?_
  intro g c xs st la w1 hown hl hst0 hst1 hla0 hla1 hb1
  have hcap := OwnM.cap hown
  have HM1 := Lib.hid (OwnM.at_ hown)
  have HB1 := Lib.hid hb1
  clear hown hb1
  have HRX := Lib.hid (show B (GivP xs st la) = true → TOk (GivF xs st la) from fun h => by
    have hp := of_B h
    obtain ⟨x, hx⟩ := hp.1
    have h2 := (anyG_iff hx.1 st la)
    rw [hx.2.1] at h2
    have h3 := h2.1 hp.2
    have h4 := (given_round (show TIs xs x from hx) (s := st.toNat) (by omega) la.toNat).1
    have e1 : ((st.toNat : Nat) : Int) = st := by omega
    have e2 : ((la.toNat : Nat) : Int) = la := by omega
    rw [e1, e2] at h4
    exact h4 h)
  have HRL := Lib.hid (show (GivF xs st la).length ≤ 11 from by
    unfold GivF
    split
    · simp [outG]; exact hl
    · exact Nat.zero_le _)
  have HNO := Lib.hid (show B (GivP xs st la) = false → GivF xs st la = [] from fun h => by unfold GivF; rw [if_neg (not_of_B h)])
  have HPT := Lib.hid (show ∀ x, TIs xs x → B (GivP xs st la) = true → 0 ≤ st ∧ st < (stepsT x : Int) from fun x hx h => by
    have h2 := (anyG_iff hx.1 st la)
    rw [hx.2.1] at h2
    have h3 := h2.1 (of_B h).2
    exact ⟨h3.1, h3.2.1⟩)
  have HPN := Lib.hid (show B (GivP xs st la) = true → TOk xs from fun h => (of_B h).1)
  obtain ⟨R, HR⟩ : ∃ q, Hid (GivF xs st la = q) := ⟨_, rfl⟩
  obtain ⟨ok, HOK⟩ : ∃ q, Hid (B (GivP xs st la) = q) := ⟨_, rfl⟩
  rw [HR.out, HOK.out] at HRX HNO
  rw [HR.out] at HRL
  rw [HOK.out] at HPT HPN
  have hRl := HRL.out
  have hi1 := iGivenTerm_any (some ⟨g, 0, none⟩) xs.length c xs st la w1 HM1.out (by omega) (by omega)
  rw [HR.out, HOK.out] at hi1
  go_wp2_with (fail)
  refine kNewMB hi1 ?_
  intro A2 c2 w2 h2 hb2
  clear hi1
  have HB2 := Lib.hid (HB1.out.trans (hb2.mono HB1.out.size))
  have HM2 := Lib.hid (HM1.out.below hb2)
  have HR2 := Lib.hid (OwnM.at_ h2)
  clear hb2 h2
  have hs1 := sGivenTerm_any (some ⟨g, 0, none⟩) xs.length c xs st la w2 HM2.out (by omega)
  rw [HR.out, HOK.out] at hs1
  go_wp2_with (fail)
  refine kNewMB hs1 ?_
  intro A3 c3 w3 h3 hb3
  clear hs1
  have HB3 := Lib.hid (HB2.out.trans (hb3.mono HB2.out.size))
  have HM3 := Lib.hid (HM2.out.below hb3)
  have HR3 := Lib.hid (HR2.out.below hb3)
  have HS3 := Lib.hid (OwnM.at_ h3)
  clear hb3 h3
  go_wp2_with (fail)
  refine kQ (sameMarks_any A2 A3 R.length c2 R.length c3 R R _ HR3.out HS3.out (by omega)) ?_ (fun _ h => absurd rfl h.out)
  intro m3 _
  have HB4 := Lib.hid (below_drewN HB3.out m3)
  have HM4 := Lib.hid (HM3.out.drewN m3)
  have HR4 := Lib.hid (HR3.out.drewN m3)
  obtain ⟨w4, HW4⟩ : ∃ q, Hid (w3.drewN m3 = q) := ⟨_, rfl⟩
  rw [HW4.out] at HB4 HM4 HR4 ⊢
  by_cases hT : TOk xs
  · obtain ⟨x, hx⟩ := hT
    have HX := Lib.hid (show TIs xs x from hx)
    have hsv : StepsV xs = (stepsT x : Int) := by rw [stepsV_pos ⟨x, hx⟩, ← hx.2.1, stepsIn_marks hx.1]
    have HSV := Lib.hid hsv
    go_wp2_with (fail)
    refine kB (sTermOk_any (some ⟨g, 0, none⟩) xs.length c xs _ HM4.out (by omega)) ?_ (fun _ h _ => absurd ⟨_, HX.out⟩ h.out)
    intro w5 _ hb5
    have HB5 := Lib.hid (HB4.out.trans (hb5.mono HB4.out.size))
    have HM5 := Lib.hid (HM4.out.below hb5)
    have HR5 := Lib.hid (HR4.out.below hb5)
    clear hb5 hx hsv
    have HALIVE := Lib.hid (show ok = false → R.length = 0 from fun h => by rw [HNO.out h]; rfl)
    by_cases hq0 : st < 0
    · have hokf : ok = false := by
        cases hok : ok with
        | false => rfl
        | true => have := HPT.out x HX.out hok; omega
      subst hokf
      have hr0 := HALIVE.out rfl
      go_wp2_with (fail)
      refine kBV (alive_any _) ?_
      intro w6 hb6
      go_wp2
      go_ret
      exact ⟨rfl, HB5.out.trans (hb6.mono HB5.out.size)⟩
    · have hi2 := sStepsOf_any (some ⟨g, 0, none⟩) xs.length c xs w5 HM5.out (by omega)
      rw [HSV.out] at hi2
      obtain ⟨S, HSS⟩ : ∃ q, Hid (stepsT x = q) := ⟨_, rfl⟩
      rw [HSS.out] at hi2
      go_wp2_with (fail)
      refine kBV hi2 ?_
      intro w6 hb6
      clear hi2
      have HB6 := Lib.hid (HB5.out.trans (hb6.mono HB5.out.size))
      have HM6 := Lib.hid (HM5.out.below hb6)
      have HR6 := Lib.hid (HR5.out.below hb6)
      clear hb6
      by_cases hq1 : (S : Int) ≤ st
      · have hokf : ok = false := by
          cases hok : ok with
          | false => rfl
          | true => have := HPT.out x HX.out hok; have := HSS.out; omega
        subst hokf
        have hr0 := HALIVE.out rfl
        go_wp2_with (fail)
        refine kBV (alive_any _) ?_
        intro w7 hb7
        go_wp2
        go_ret
        exact ⟨rfl, HB6.out.trans (hb7.mono HB6.out.size)⟩
      · obtain ⟨s, rfl⟩ := Int.eq_ofNat_of_zero_le (show 0 ≤ st by omega)
        have hsS : s < stepsT x := by have := HSS.out; omega
        have HGR := Lib.hid (fun n => given_round HX.out hsS n)
        have HGE := Lib.hid (fun (N : Nat) (C : List Int) (h1 : C.length = N) (h2 : ∀ j, j < N → C.getD j 0 = (cntT x (j : Int) : Int)) => gvL_end HX.out.1 hsS h1 h2)
        have HGL := Lib.hid (fun n (hn : n < 20) k j => Nat.le_trans (gvP_le HX.out.1 hsS hn k j) (cnt_small HX.out.1 (by rw [HX.out.2.1]; exact HX.out.2.2) _))
        have HCG := Lib.hid (show ∀ j, j < (CntF xs).length → (CntF xs).getD j 0 = (cntT x (j : Int) : Int) from fun j hj => by
          have e : CntF xs = cntsT x := onT_pos HX.out
          rw [e] at hj ⊢
          exact cntsT_get x j hj)
        have hcl := cntF_len xs
        have hi3 := iCountsOf_any (some ⟨g, 0, none⟩) xs.length c xs w6 HM6.out (by omega)
        obtain ⟨C, HC⟩ : ∃ q, Hid (CntF xs = q) := ⟨_, rfl⟩
        rw [HC.out] at hi3 hcl HGR HCG
        go_wp2_with (fail)
        refine kNewI hi3 ?_
        intro A7 c7 w7 h7 hb7
        clear hi3
        obtain ⟨N, HNN⟩ : ∃ q, Hid (C.length = q) := ⟨_, rfl⟩
        rw [HNN.out] at hcl HGR HCG h7 ⊢
        have HB7 := Lib.hid (HB6.out.trans (hb7.mono HB6.out.size))
        have HM7 := Lib.hid (HM6.out.below hb7)
        have HR7 := Lib.hid (HR6.out.below hb7)
        have HC7 := Lib.hid (OwnI.at_ h7)
        clear hb7 h7
        have hmk : ∀ W : World, (Instr.makeSlice 37 (.int .i64 (N : Int)) (.int .i64 (N : Int))).run Try.prog W = .ok (.slice (some ⟨W.heap.size, 0, none⟩) N N) (W.alloc (.cells (madeCells #[.int .i64 0] N) 3)) :=
          fun W => run_make_row' _ _ _ 8 Try.underlying37 int_info rfl _ _ N (by omega) (by omega) W
        obtain ⟨w8, HW8⟩ : ∃ z, Hid (w7.alloc (.cells (madeCells #[.int .i64 0] N) 3) = z) := ⟨_, rfl⟩
        have hb78 : Below w7.heap.size w7 w8 := HW8.out ▸ (Below.refl _ _).alloc (Nat.le_refl _) _
        have HB78 := Lib.hid hb78
        have HO8 := Lib.hid (show OwnI w8 w7.heap.size (some ⟨w7.heap.size, 0, none⟩) N N (gvL x s 0 0 N) from HW8.out ▸ by
          have h1 := own_lit w7 w7.heap.size 3 1 (madeCells #[.int .i64 0] N) N (Nat.le_refl _) (by unfold maxLen; omega) (by rw [size_madeCells]; omega)
          rw [toList_madeCells_one] at h1
          show World.ownsRow _ _ _ _ _ _ (vI _)
          have e : vI (gvL x s 0 0 N) = List.replicate N (.int .i64 0) := by rw [gvL_zero]; simp [vI]
          rw [e]; exact h1)
        clear hb78
        go_wp2_with (fail)
        rw [HW8.out]
        go_loopw [12, 13, 14, 15, 16] (fun i _ _ _ _ wr => ∃ n : Nat, n ≤ 20 ∧ i = .int .i64 n ∧ OwnI wr w7.heap.size (some ⟨w7.heap.size, 0, none⟩) N N (gvL x s n 0 N) ∧ Below w7.heap.size w7 wr) (fun i _ _ _ _ _ => 20 - (intOf i).toNat)
        case atStart => exact ⟨0, Nat.zero_le _, rfl, HO8.out, HB78.out⟩
        case round =>
          obtain ⟨wo, rfl⟩ : ∃ wo : World, wo = wr := ⟨_, rfl⟩
          obtain ⟨n, hn20, rfl, hown, hb⟩ := hrel
          have HO := Lib.hid hown
          have HB := Lib.hid hb
          have HMo := Lib.hid (HM7.out.below hb)
          clear hown hb
          by_cases hlt : n < 20
          · obtain ⟨hg1, hg2, hg3, hg4, hg5, hg6⟩ := HGR.out n
            have HGN := Lib.hid (fun k (hk : ∀ j, k ≤ j → j < N → gf x s n j = 0) => gvL_row x s n k N hk)
            have HLE := Lib.hid (HGL.out n hlt)
            have hi4 := iGivenTerm_any (some ⟨g, 0, none⟩) xs.length c xs (s : Int) (n : Int) wo HMo.out (by omega) (by omega)
            obtain ⟨U, HU⟩ : ∃ q, Hid (GivF xs (s : Int) (n : Int) = q) := ⟨_, rfl⟩
            obtain ⟨can, HCAN⟩ : ∃ q, Hid (B (GivP xs (s : Int) (n : Int)) = q) := ⟨_, rfl⟩
            rw [HU.out, HCAN.out] at hi4
            rw [HU.out] at hg2 hg3 hg4 hg5 hg6
            rw [HCAN.out] at hg6
            obtain ⟨Q, HQ⟩ : ∃ q, Hid (CntF U = q) := ⟨_, rfl⟩
            rw [HQ.out] at hg3 hg4 hg5 hg6
            have HG3 := Lib.hid hg3
            have HG4 := Lib.hid hg4
            have HG6 := Lib.hid hg6
            clear hg1 hg3 hg4 hg6
            go_wp2_with (fail)
            refine kNewMB hi4 ?_
            intro A9 c9 w9 h9 hb9
            clear hi4
            have HB9 := Lib.hid (HB.out.trans (hb9.mono HB.out.size))
            have HO9 := Lib.hid (own_below HO.out hb9)
            have HU9 := Lib.hid (OwnM.at_ h9)
            clear hb9 h9
            have hi5 := iCountsOf_any A9 U.length c9 U w9 HU9.out (by omega)
            rw [HQ.out] at hi5
            go_wp2_with (fail)
            refine kNewI hi5 ?_
            intro A10 c10 w10 h10 hb10
            clear hi5
            have HB10 := Lib.hid (HB9.out.trans (hb10.mono HB9.out.size))
            have HO10 := Lib.hid (own_below HO9.out hb10)
            have HQ10 := Lib.hid (OwnI.at_ h10)
            have HQB := Lib.hid (show ∀ a, A10 = some a → w7.heap.size < a.block from fun a ha => by
              obtain ⟨A', c', e, _, hA, _⟩ := own_cells h10
              cases e
              have h1 := hA a ha
              have h2 : w7.heap.size < w8.heap.size := HW8.out ▸ by simp
              have h3 := HO9.out.lt w7.heap.size rfl
              omega)
            obtain ⟨q, HQL⟩ : ∃ z, Hid (Q.length = z) := ⟨_, rfl⟩
            rw [HQL.out] at hg5 HQ10 HG3 HG4 ⊢
            clear hb10 h10
            cases can with
            | false =>
              have hq0' : q = 0 := by have h1 := HQL.out; rw [HG6.out rfl] at h1; simpa using h1.symm
              subst hq0'
              have HROW := Lib.hid (HGN.out 0 (fun j _ _ => HG4.out j (Nat.zero_le _)))
              go_wp2_with (fail)
              refine wp_loop_rounds 1 ?_
              rw [rounds_succ]
              go_wp2
              go_roundw
              case rel => exact ⟨n + 1, by omega, by go_num, by rw [← HROW.out]; exact HO10.out, HB10.out⟩
              case measure => simp [intOf]; omega
            | true =>
              go_wp2_with (fail)
              go_loopw [16] (fun i wr => ∃ k : Nat, k ≤ q ∧ i = .int .i64 k ∧ OwnI wr w7.heap.size (some ⟨w7.heap.size, 0, none⟩) N N (gvL x s n k N) ∧ IntsAt wr A10 q Q ∧ Below w7.heap.size w7 wr) (fun i _ => q - (intOf i).toNat)
              case atStart => exact ⟨0, Nat.zero_le _, rfl, HO10.out, HQ10.out, HB10.out⟩
              case round =>
                obtain ⟨wi, rfl⟩ : ∃ wi : World, wi = wr := ⟨_, rfl⟩
                obtain ⟨k, hk, rfl, hown, hqa, hb⟩ := hrel
                have HOI := Lib.hid hown
                have HBI := Lib.hid hb
                have HQI := Lib.hid hqa
                clear hown hb hqa
                by_cases hkq : k < q
                · have hkN : k < N := by omega
                  obtain ⟨b1, o1, rfl, hd1⟩ := HQI.out.cells (by omega)
                  have d1 := hd1 k hkq
                  obtain ⟨b3, o3, e3, hd3⟩ := (OwnI.at_ HOI.out).cells (by omega)
                  cases e3
                  have d3 := hd3 k hkN
                  rw [Nat.zero_add] at d3
                  rw [gvL_get x s n k hkN] at d3
                  rw [HG3.out k hkq] at d1
                  have f3 := HOI.out.frozenAt k
                  have hbd := HLE.out (k + 1) k
                  rw [gvP_step, if_pos rfl] at hbd
                  have HST := Lib.hid (gvL_step x s n k N)
                  have hne := HQB.out _ rfl
                  simp only at hne
                  obtain ⟨x0, HX0⟩ : ∃ z : Int, Hid ((gf x s n k : Int) = z) := ⟨_, rfl⟩
                  obtain ⟨z0, HZ0⟩ : ∃ z : Int, Hid ((gvP x s n k k : Int) = z) := ⟨_, rfl⟩
                  have hb0 : 0 ≤ x0 ∧ 0 ≤ z0 ∧ z0 + x0 ≤ 64000000 := by
                    rw [← HX0.out, ← HZ0.out]
                    omega
                  obtain ⟨hb1', hb2', hb3'⟩ := hb0
                  rw [HX0.out] at d1 HST
                  rw [HZ0.out] at d3 HST
                  have hkI0 : (0 : Int) ≤ (k : Int) := by omega
                  have hkI1 : (k : Int) < (q : Int) := by omega
                  have hkI2 : (k : Int) < (N : Int) := by omega
                  clear hd1 hd3 hbd
                  go_wp2_with (fail)
                  go_region
                  all_goals
                    go_wp2
                    go_roundw
                    case rel =>
                      have h1 := own_set HOI.out k (.int .i64 (z0 + x0))
                      have hg := (HOI.out.stored k (.int .i64 (z0 + x0))).2
                      have e : vI (gvL x s n (k + 1) N) = (vI (gvL x s n k N)).set k (.int .i64 (z0 + x0)) := by rw [HST.out]; simp [vI, List.map_set]
                      refine ⟨k + 1, by omega, by go_num, ?_, (HQI.out.setCell (fun a ha => by cases ha; simp only; omega) _).drewN 1, (HBI.out.grown hg HBI.out.size (fun j hj => by cases hj; exact Nat.le_refl _)).drew⟩
                      show World.ownsRow _ _ _ _ _ _ (vI _)
                      rw [e]; exact h1
                    case measure => simp [intOf]; omega
                · obtain rfl : q = k := by omega
                  have HROW := Lib.hid (HGN.out q (fun j hj _ => HG4.out j hj))
                  go_wp2
                  go_roundw
                  case rel => exact ⟨n + 1, by omega, by go_num, by rw [← HROW.out]; exact HOI.out, HBI.out⟩
                  case measure => simp [intOf]; omega
          · obtain rfl : n = 20 := by omega
            have HEQ := Lib.hid (HGE.out N C HNN.out HCG.out)
            rw [HEQ.out] at HO
            have HSo := Lib.hid (OwnI.at_ HO.out)
            have HCo := Lib.hid (HC7.out.below HB.out)
            have HRo := Lib.hid (HR7.out.below HB.out)
            have HBo := Lib.hid (HB7.out.trans (HB.out.mono HB7.out.size))
            go_wp2_with (fail)
            refine kQ (sameInts_any (some ⟨w7.heap.size, 0, none⟩) A7 N N N c7 C C _ HSo.out HCo.out (by omega)) ?_ (fun _ h => absurd rfl h.out)
            intro m9 _
            have HBp := Lib.hid (below_drewN HBo.out m9)
            have HRp := Lib.hid (HRo.out.drewN m9)
            cases ok with
            | false =>
              go_wp2_with (fail)
              refine kBV (alive_any _) ?_
              intro w12 hb12
              go_wp2
              go_ret
              exact ⟨rfl, HBp.out.trans (hb12.mono HBp.out.size)⟩
            | true =>
              go_wp2_with (fail)
              refine kB (iTermOk_any A2 R.length c2 R _ HRp.out (by omega)) ?_ (fun _ h _ => absurd (HRX.out trivial) h.out)
              intro w11 _ hb11
              have HBq := Lib.hid (HBp.out.trans (hb11.mono HBp.out.size))
              clear hb11
              go_wp2_with (fail)
              refine kBV (alive_any _) ?_
              intro w12 hb12
              go_wp2
              go_ret
              exact ⟨rfl, HBq.out.trans (hb12.mono HBq.out.size)⟩
  · have HT := Lib.hid hT
    have hokf : ok = false := by
      cases hok : ok with
      | false => rfl
      | true => exact absurd (HPN.out hok) hT
    subst hokf
    have hr0 : R.length = 0 := by rw [HNO.out rfl]; rfl
    clear hT
    go_wp2_with (fail)
    refine kB (sTermOk_any (some ⟨g, 0, none⟩) xs.length c xs _ HM4.out (by omega)) (fun _ h _ => absurd h.out HT.out) ?_
    intro w5 _ hb5
    have HB5 := Lib.hid (HB4.out.trans (hb5.mono HB4.out.size))
    clear hb5
    go_wp2_with (fail)
    refine kBV (alive_any _) ?_
    intro w6 hb6
    go_wp2
    go_ret
    exact ⟨rfl, HB5.out.trans (hb6.mono HB5.out.size)⟩

end Go.Proofs.Ytookhelfbnhadaa
