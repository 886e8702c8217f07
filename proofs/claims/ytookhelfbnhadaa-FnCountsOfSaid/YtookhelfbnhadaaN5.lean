/- Counts of a row of marks: both CountsOf. -/
import Derived.Test.YtookhelfbnhadaaN3
import Derived.Test.YtookhelfbnhadaaN4
import Derived.Test.YtookhelfbnhadaaM8
import Derived.Laws.OwnMore
import Derived.Deep.OwnRows
namespace Go.Proofs.Ytookhelfbnhadaa
open Go.RowKit Go.Maps

/-- The counts of a row. -/
noncomputable def CntF (xs : List Mk) : List Int := onT [] cntsT xs
theorem cntF_len (xs : List Mk) : (CntF xs).length ≤ 210 := by
  by_cases h : TOk xs
  · obtain ⟨x, hx⟩ := h
    rw [CntF, onT_pos hx, cntsT]
    have h1 := lenS_bd hx.1
    have h2 := TIs.steps hx
    split
    · exact Nat.zero_le _
    · simp; omega
  · rw [CntF, onT_neg h]; exact Nat.zero_le _
theorem lenF_ok {xs : List Mk} {lo hi : Int} (h : LenF xs = (lo, hi, true)) : ∃ x, TIs xs x ∧ CntF xs = cntL x ∧ (lenS x).2.1 = hi ∧ 0 ≤ hi ∧ hi ≤ 209 := by
  by_cases hT : TOk xs
  · obtain ⟨x, hx⟩ := hT
    rw [show LenF xs = lenR x from onT_pos hx] at h
    unfold lenR at h
    split at h
    · cases h
    · rename_i hok
      have h1 := lenS_bd hx.1
      have h2 := TIs.steps hx
      have e : (lenS x).2.1 = hi := by rw [h]
      refine ⟨x, hx, ?_, e, by omega, by omega⟩
      rw [show CntF xs = cntsT x from onT_pos hx, cntsT, if_neg hok, cntL]
  · rw [show LenF xs = _ from onT_neg hT] at h; cases h
theorem lenF_no {xs : List Mk} {lo hi : Int} (h : LenF xs = (lo, hi, false)) : CntF xs = [] := by
  by_cases hT : TOk xs
  · obtain ⟨x, hx⟩ := hT
    rw [show LenF xs = lenR x from onT_pos hx] at h
    rw [show CntF xs = cntsT x from onT_pos hx, cntsT]
    unfold lenR at h
    split at h
    · rename_i hok; rw [if_pos hok]
    · rename_i hok; rw [h] at hok; exact absurd rfl hok
  · exact onT_neg hT

set_option maxHeartbeats 1000000 in
theorem sCountsOf_any (A : Option Addr) (n c : Nat) (xs : List Mk) (w : World) (h : MarksAt w A n xs) (hn : n ≤ 1048576) (hc : n ≤ c) :
    Calls Try.prog 47 #[.slice A n c] w (NewI w (CntF xs)) := by
  have hsl := sLengthsOf_any A n c xs w h hn hc
  have HK := Lib.hid (fun lo hi => lenF_ok (xs := xs) (lo := lo) (hi := hi))
  have HK0 := Lib.hid (fun lo hi => lenF_no (xs := xs) (lo := lo) (hi := hi))
  obtain ⟨L, HL⟩ : ∃ q, Hid (LenF xs = q) := ⟨_, rfl⟩
  rw [HL.out] at hsl HK HK0
  obtain ⟨lo, hi, ok⟩ := L
  cases ok with
  | false =>
    rw [HK0.out lo hi rfl]
    go_enter Try.func47, Try.ntmps47
    go_wp2_with (fail)
    refine kBV hsl ?_
    intro w1 hb1
    clear hsl
    simp only [lenV]
    go_wp2
    go_ret
    exact ⟨some ⟨w1.heap.size, 0, none⟩, 0, rfl, OwnI.empty w1 _ hb1.size, hb1.alloc hb1.size _⟩
  | true =>
    obtain ⟨x, hx, hce, he, hh0, hh1⟩ := HK.out lo hi rfl
    have HX := Lib.hid hx
    have hll : (cntL x).length = (hi + 1).toNat := by rw [cntL_len, he]
    rw [hce]
    obtain ⟨R, HR⟩ : ∃ z, Hid (cntL x = z) := ⟨_, rfl⟩
    have HC := Lib.hid (l12Counts_any x hx.1)
    rw [HR.out] at hll HC ⊢
    obtain ⟨m, HM⟩ : ∃ z, Hid (R.length = z) := ⟨_, rfl⟩
    rw [HM.out] at hll
    have hmI : hi + 1 = (m : Int) := by omega
    have hl11 := hx.len h
    clear hx hce he hll
    go_enter Try.func47, Try.ntmps47
    go_wp2_with (fail)
    refine kBV hsl ?_
    intro w1 hb1
    clear hsl
    simp only [lenV]
    have HB1 := Lib.hid hb1
    clear hb1
    go_wp2_with (fail)
    refine kNewI (HC.out A n c _ (HX.out.at_ (h.below HB1.out)) hc hl11) ?_
    intro A' c' w2 hown hb2
    have HB2 := Lib.hid (HB1.out.trans (hb2.mono HB1.out.size))
    have hcap := OwnI.cap hown
    have HO := Lib.hid (own_base hown HB1.out.size)
    rw [HM.out] at hcap HO ⊢
    have hcI : (m : Int) ≤ (c' : Int) := by omega
    have hmI0 : (0 : Int) ≤ (m : Int) := by omega
    clear hb2 hown
    go_wp2
    go_ret
    have hm := HM.out
    exact ⟨A', c', by rw [hm]; first | (simp; done) | rfl, by rw [hm]; exact HO.out, HB2.out⟩

set_option maxRecDepth 100000 in
set_option maxHeartbeats 2000000 in
theorem iCountsOf_any (A : Option Addr) (n c : Nat) (xs : List Mk) (w : World) (h : MarksAt w A n xs) (hn : n ≤ 1048576) :
    Calls Try.prog 27 #[.slice A n c] w (NewI w (CntF xs)) := by
  have hsl := iLengthsOf_any A n c xs w h hn
  have HK := Lib.hid (fun lo hi => lenF_ok (xs := xs) (lo := lo) (hi := hi))
  have HK0 := Lib.hid (fun lo hi => lenF_no (xs := xs) (lo := lo) (hi := hi))
  obtain ⟨L, HL⟩ : ∃ q, Hid (LenF xs = q) := ⟨_, rfl⟩
  rw [HL.out] at hsl HK HK0
  obtain ⟨lo, hi, ok⟩ := L
  cases ok with
  | false =>
    rw [HK0.out lo hi rfl]
    go_enter Try.func27, Try.ntmps27
    go_wp2_with (fail)
    refine kBV hsl ?_
    intro w1 hb1
    clear hsl
    simp only [lenV]
    go_wp2
    go_ret
    exact ⟨none, 0, rfl, OwnI.nil w1 _, hb1⟩
  | true =>
    obtain ⟨x, hx, hce, he, hh0, hh1⟩ := HK.out lo hi rfl
    have HX := Lib.hid hx
    have hll : (cntL x).length = (hi + 1).toNat := by rw [cntL_len, he]
    have HG := Lib.hid (fun j => cntL_get (t := x) (j := j))
    rw [he] at HG
    rw [hce]
    obtain ⟨R, HR⟩ : ∃ z, Hid (cntL x = z) := ⟨_, rfl⟩
    have hml : (marksOf x).length ≤ 11 := by rw [hx.2.1]; exact hx.2.2
    have HC := Lib.hid (counts_any x hx.1 hml)
    rw [HR.out] at hll HG ⊢
    obtain ⟨m, HM⟩ : ∃ z, Hid (R.length = z) := ⟨_, rfl⟩
    rw [HM.out] at hll
    have hmI : hi + 1 = (m : Int) := by omega
    have hm210 : m ≤ 210 := by omega
    have HGM := Lib.hid (show ∀ j, j < m → R.getD j 0 = (cntT x (j : Int) : Int) from fun j hj => HG.out j (by omega))
    have hmk : ∀ W : World, (Instr.makeSlice 37 (.int .i64 (m : Int)) (.int .i64 (m : Int))).run Try.prog W = .ok (.slice (some ⟨W.heap.size, 0, none⟩) m m) (W.alloc (.cells (madeCells #[.int .i64 0] m) 3)) :=
      fun W => run_make_row' _ _ _ 8 Try.underlying37 int_info rfl _ _ m (by omega) (by omega) W
    clear hx hce he hll hml
    go_enter Try.func27, Try.ntmps27
    go_wp2_with (fail)
    refine kBV hsl ?_
    intro w1 hb1
    clear hsl
    simp only [lenV]
    have HB1 := Lib.hid hb1
    clear hb1
    go_wp2_with (fail)
    refine kBuild (iBuild_any A n c xs _ (h.below HB1.out) hn) (fun _ hne _ => absurd ⟨x, HX.out⟩ hne.out) ?_
    intro w2 y a HY hb2 hpt
    obtain rfl : y = x := TIs.eq HY.out HX.out
    have HB2 := Lib.hid (HB1.out.trans (hb2.mono HB1.out.size))
    have HPT := Lib.hid hpt
    clear hb2 hpt
    go_wp2_with (fail)
    refine kNewC (HC.out a _ HPT.out) ?_
    intro B D w3 hB hown hC hb3
    have HB3 := Lib.hid (HB2.out.trans (hb3.mono HB2.out.size))
    have HO3 := Lib.hid hown
    have HCM := Lib.hid hC
    have hBl : B < w3.heap.size := hown.lt
    clear hb3 hC hown
    obtain ⟨w4, HW4⟩ : ∃ z, Hid (w3.alloc (.cells (madeCells #[.int .i64 0] m) 3) = z) := ⟨_, rfl⟩
    have HB4 := Lib.hid (show Below w.heap.size w w4 from HW4.out ▸ HB3.out.alloc HB3.out.size _)
    have HO4 := Lib.hid (show OwnC w4 B 210 D from HW4.out ▸ HO3.out.alloc _)
    have HR4 := Lib.hid (show OwnI w4 w.heap.size (some ⟨w3.heap.size, 0, none⟩) m m (List.replicate m 0) from HW4.out ▸ by
      have h1 := own_lit w3 w.heap.size 3 1 (madeCells #[.int .i64 0] m) m HB3.out.size (by unfold maxLen; omega) (by rw [size_madeCells]; omega)
      rw [toList_madeCells_one] at h1
      show World.ownsRow _ _ _ _ _ _ (vI _)
      have e : vI (List.replicate m 0) = List.replicate m (.int .i64 0) := by simp [vI]
      rw [e]; exact h1)
    go_wp2_with (fail)
    rw [HW4.out]
    go_loopw [8, 25] (fun _ i wr => ∃ k : Nat, k ≤ m ∧ i = .int .i64 k ∧ OwnI wr w.heap.size (some ⟨w3.heap.size, 0, none⟩) m m (R.take k ++ List.replicate (m - k) 0) ∧ OwnC wr B 210 D ∧ Below w.heap.size w wr) (fun _ i _ => m - (intOf i).toNat)
    case atStart => exact ⟨0, Nat.zero_le _, rfl, by simpa using HR4.out, HO4.out, HB4.out⟩
    case round =>
      obtain ⟨wo, rfl⟩ : ∃ wo : World, wo = wr := ⟨_, rfl⟩
      obtain ⟨k, hk, rfl, hrow, hmap, hb⟩ := hrel
      have HRW := Lib.hid hrow
      have HMP := Lib.hid hmap
      have HB := Lib.hid hb
      clear hrow hmap hb
      by_cases hlt : k < m
      · obtain ⟨b', off', e', hd⟩ := (OwnI.at_ HRW.out).cells (by omega)
        cases e'
        have d0 := hd k hlt
        rw [Nat.zero_add] at d0
        clear hd
        have f0 := HRW.out.frozenAt k
        have hkI : (k : Int) < (m : Int) := by omega
        go_wp2_with (first
          | (at_lookup; refine wpList_lookup_own_int _ rfl _ _ 65 rfl 3 3 .i64 lawI Try.underlying65 Try.underlying3 (zeroI _) B 210 D rfl HMP.out _ _ rfl (keyOf_int_mk Try.underlying3 (a := (k : Int)) (WalkArith.wf_i64 (by omega))) ?_
             intro v had hwv
             have HV := Lib.hid (HCM.out.at_c had))
          | go_in)
        go_roundw
        case rel =>
          have hs1 := own_set HRW.out k (.int .i64 v)
          have hg1 := (HRW.out.stored k (.int .i64 v)).2
          refine ⟨k + 1, by omega, by go_num, ?_, HMP.out.kept hg1 (fun e => by injection e; omega), HB.out.grown hg1 HB.out.size (fun j hj => by cases hj; exact HB3.out.size)⟩
          have hkr : k < R.length := by rw [HM.out]; exact hlt
          have hlen : (R.take k).length = k := by rw [List.length_take]; omega
          have e1 : List.replicate (m - k) (0 : Int) = 0 :: List.replicate (m - (k + 1)) 0 := by
            rw [show m - k = (m - (k + 1)) + 1 by omega, List.replicate_succ]
          have h2 := set1 (List.replicate (m - (k + 1)) 0) (R.take k) 0 v
          rw [hlen] at h2
          rw [e1, h2] at hs1
          have e2 : R.take (k + 1) = R.take k ++ [v] := by
            rw [List.take_succ_eq_append_getElem hkr]
            congr 2
            have h3 : R[k] = R.getD k 0 := by simp [List.getD, hkr]
            rw [h3, HGM.out k hlt, HV.out]
          show World.ownsRow _ _ _ _ _ _ (vI _)
          rw [e2, List.append_assoc]; exact hs1
        case measure => simp [intOf]; omega
      · obtain rfl : k = m := by omega
        go_wp2
        go_ret
        have hm := HM.out
        refine ⟨some ⟨w3.heap.size, 0, none⟩, k, by rw [hm]; first | (simp; done) | rfl, ?_, HB.out⟩
        have := HRW.out
        rw [Nat.sub_self, List.replicate_zero, List.append_nil, List.take_of_length_le (by omega)] at this
        rw [hm]; exact this

end Go.Proofs.Ytookhelfbnhadaa
