/- The walk of FnReadTerm: for every code the law returns true, and the code is left as it was. -/
import Derived.Test.YtcmicmenkbgfmaaDoorRU6
import Derived.Test.YtcmicmenkbgfmaaDoorRS5
import Derived.Test.YtcmicmenkbgfmaaDoorDRT
import Derived.Test.YtcmicmenkbgfmaaDoorAL
import Derived.Test.YtcmicmenkbgfmaaDoorSM
set_option linter.unusedSimpArgs false
namespace Go.Proofs.YtcmicmenkbgfmaaDoor
open Go.RowKit

theorem readV_cases (s : List UInt8) (h : (readV s).2 = true) : ∃ t, TIs (readV s).1 t ∧ textT t = s := by
  by_cases h0 : ∃ p : List Mk × Bool, ReadP s p.1 p.2
  · obtain ⟨p, hp⟩ := h0
    have h1 := readV_eq hp
    rw [h1.2] at h
    rcases hp with ⟨-, h2, -⟩ | ⟨h2, -, -⟩
    · rw [h1.1]; exact h2
    · rw [h2] at h; cases h
  · unfold readV at h
    rw [dif_neg h0] at h
    cases h
theorem readV_lenT (s : List UInt8) : (readV s).1.length ≤ 11 := by
  by_cases h : ∃ p : List Mk × Bool, ReadP s p.1 p.2
  · obtain ⟨p, hp⟩ := h
    rw [(readV_eq hp).1]
    rcases hp with ⟨-, ⟨t, ht, -⟩, -⟩ | ⟨-, h1, -⟩
    · exact ht.2.2
    · rw [h1]; simp
  · unfold readV
    rw [dif_neg h]; simp
theorem readV_false (s : List UInt8) (h : (readV s).2 = false) : (readV s).1 = [] := by
  by_cases h0 : ∃ p : List Mk × Bool, ReadP s p.1 p.2
  · obtain ⟨p, hp⟩ := h0
    have h1 := readV_eq hp
    rw [h1.2] at h
    rcases hp with ⟨h2, -, -⟩ | ⟨-, h2, -⟩
    · rw [h2] at h; cases h
    · rw [h1.1, h2]
  · unfold readV
    rw [dif_neg h0]

set_option maxRecDepth 100000 in
set_option maxHeartbeats 8000000 in
theorem FnReadTerm_any (A0 : Option Addr) (n0 c0 : Nat) (w : World) (F0 : n0 ≤ 9223372036854775807 ∧ n0 ≤ c0 ∧ BytsAt w w.heap.size A0 n0) (hG : GV w) :
    Calls Tryd.prog 5 #[.slice A0 n0 c0] w fun e w' => e = .returned (.bool true) ∧ Below w.heap.size w w' := by
  obtain ⟨hm0, hc0, h0⟩ := F0
  have HG := Lib.hid hG
  clear hG
  by_cases hn : n0 ≤ 1048576
  rotate_left
  · go_enter Tryd.func5, Tryd.ntmps5
    go_wp2
    go_ret
    exact ⟨rfl, Below.refl _ _⟩
  go_enter Tryd.func5, Tryd.ntmps5
  go_wp2_with (fail)
  refine kDrawnS (drawReadTerm_any A0 n0 c0 w h0 hm0 hc0) ?_
  intro S w1 hz hb1
  have HB1 := Lib.hid hb1
  clear hb1
  have HRD := Lib.hid (fun (W : World) (g : GV W) => iReadTermD_any S W g)
  have HRS := Lib.hid (fun W : World => sReadTerm_any S W)
  have HYES := Lib.hid (readV_cases S.data.toList)
  have HNO := Lib.hid (readV_false S.data.toList)
  have HLE := Lib.hid (readV_lenT S.data.toList)
  obtain ⟨R, HR⟩ : ∃ q, Hid ((readV S.data.toList).1 = q) := ⟨_, rfl⟩
  obtain ⟨bb, HBB⟩ : ∃ q, Hid ((readV S.data.toList).2 = q) := ⟨_, rfl⟩
  rw [HR.out] at HRD HRS HYES HNO HLE
  rw [HBB.out] at HRD HRS HYES HNO
  go_wp2_with (fail)
  refine kNewMBD (HRD.out _ (HG.out.below HB1.out)) ?_
  intro A2 c2 w2 hown2 hd2 hb2
  have HB2 := Lib.hid (on0 HB1.out hb2)
  have HM2 := Lib.hid (OwnM.at_ hown2)
  clear hown2 hb2
  go_wp2_with (fail)
  refine kNewMB (HRS.out _) ?_
  intro A3 c3 w3 hown3 hb3
  have HB3 := Lib.hid (on0 HB2.out hb3)
  have HM3 := Lib.hid (HM2.out.below hb3)
  have HX3 := Lib.hid (OwnM.at_ hown3)
  clear hown3 hb3
  have hsm := sameMarks_any A2 A3 R.length c2 R.length c3 R R w3 HM3.out HX3.out (by have := HLE.out; omega)
  rw [B_true (show EqMks R R from rfl)] at hsm
  have HSM := Lib.hid hsm
  clear hsm
  go_wp2_with (fail)
  refine kW HSM.out ?_
  intro mm
  have HB4 := Lib.hid (below_drewN HB3.out mm)
  have HM4 := Lib.hid (show MarksAt (w3.drewN mm) A2 R.length R from HM3.out.below (below_drewN (Below.refl _ _) mm))
  obtain ⟨w4, HW4⟩ : ∃ q, Hid (w3.drewN mm = q) := ⟨_, rfl⟩
  rw [HW4.out] at HB4 HM4 ⊢
  cases bb with
  | false =>
    obtain rfl : R = [] := HNO.out rfl
    go_wp2_with (fail)
    refine kBV (alive_any _) ?_
    intro w5 hb5
    go_wp2
    go_ret
    exact ⟨rfl, on0 HB4.out hb5⟩
  | true =>
    obtain ⟨t, ht, hts⟩ := HYES.out rfl
    have HT := Lib.hid ht
    have HTS := Lib.hid hts
    have hle := textT_le ht.1 rfl (by rw [ht.2.1]; exact ht.2.2)
    have hs75 : S.size ≤ 75 := by rw [← sz_list, ← hts]; exact hle
    have HBR := Lib.hid (fun h : DerV (40 :: (textT t ++ [41])) => readV_no (no_brack ht.1 hle h))
    have HTX := Lib.hid (show textV R = S.data.toList by rw [textV_of ht]; exact hts)
    have HTK := Lib.hid (show TOk R from ⟨t, ht⟩)
    have h11 : R.length ≤ 11 := HLE.out
    obtain ⟨S2, HS2⟩ : ∃ q, Hid ((ByteArray.mk #[40]) ++ S ++ (ByteArray.mk #[41]) = q) := ⟨_, rfl⟩
    have HSL := Lib.hid (show S2.data.toList = 40 :: (textT t ++ [41]) by rw [← HS2.out, cat_list, cat_list, HTS.out]; rfl)
    have HRD2 := Lib.hid (fun (W : World) (g : GV W) => iReadTermD_any S2 W g)
    rw [HSL.out] at HRD2
    obtain ⟨R2, HR2⟩ : ∃ q, Hid ((readV (40 :: (textT t ++ [41]))).1 = q) := ⟨_, Lib.hid rfl⟩
    obtain ⟨b2, HB2B⟩ : ∃ q, Hid ((readV (40 :: (textT t ++ [41]))).2 = q) := ⟨_, Lib.hid rfl⟩
    rw [HR2.out, HB2B.out] at HRD2 HBR
    clear ht hts hd2 hle
    go_wp2_with (fail)
    rw [HS2.out]
    refine kNewMBD (HRD2.out _ (HG.out.below HB4.out)) ?_
    intro A5 c5 w5 hown5 hd5 hb5
    have HB5 := Lib.hid (on0 HB4.out hb5)
    have HM5 := Lib.hid (HM4.out.below hb5)
    obtain ⟨-, hb2⟩ := HBR.out hd5.out
    subst hb2
    clear hown5 hb5 hd5
    obtain ⟨n, HLN⟩ : ∃ q, Hid (R.length = q) := ⟨_, rfl⟩
    rw [HLN.out] at HM5 h11 ⊢
    go_wp2_with (fail)
    refine kStr (n := 75) (iTermText_any A2 n c2 R _ HM5.out (by omega)) (textV_len R) ?_
    intro S3 w6 hS3 hz3 hb6
    have HB6 := Lib.hid (on0 HB5.out hb6)
    have HM6 := Lib.hid (HM5.out.below hb6)
    clear hb6
    obtain rfl : S = S3 := text_eq' (by rw [hS3.out, HTX.out])
    have HIT := Lib.hid (show Calls Tryd.prog 10 #[.slice A2 n c2] w6 (Bl w6 (.bool true)) by
      have h1 := iTermOk_any A2 n c2 R w6 HM6.out (by omega)
      rwa [B_true HTK.out] at h1)
    go_wp2_with (fail)
    refine kBV HIT.out ?_
    intro w7 hb7
    go_wp2
    go_ret
    exact ⟨rfl, on0 HB6.out hb7⟩

end Go.Proofs.YtcmicmenkbgfmaaDoor
