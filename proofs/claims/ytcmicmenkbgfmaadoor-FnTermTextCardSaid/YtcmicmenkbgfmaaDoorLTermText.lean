/- The walk of FnTermText: for every code the law returns true, and the code is left as it was. -/
import Derived.Test.YtcmicmenkbgfmaaDoorRU6
import Derived.Test.YtcmicmenkbgfmaaDoorDR6
import Derived.Test.YtcmicmenkbgfmaaDoorAL
import Derived.Test.YtcmicmenkbgfmaaDoorSM
set_option linter.unusedSimpArgs false
namespace Go.Proofs.YtcmicmenkbgfmaaDoor
open Go.RowKit

set_option maxRecDepth 100000 in
set_option maxHeartbeats 8000000 in
theorem FnTermText_any (A0 : Option Addr) (n0 c0 : Nat) (w : World) (F0 : n0 ≤ 9223372036854775807 ∧ n0 ≤ c0 ∧ BytsAt w w.heap.size A0 n0) (hG : GV w) :
    Calls Tryd.prog 3 #[.slice A0 n0 c0] w fun e w' => e = .returned (.bool true) ∧ Below w.heap.size w w' := by
  obtain ⟨hm0, hc0, h0⟩ := F0
  have HG := Lib.hid hG
  clear hG
  by_cases hn : n0 ≤ 1048576
  rotate_left
  · go_enter Tryd.func3, Tryd.ntmps3
    go_wp2
    go_ret
    exact ⟨rfl, Below.refl _ _⟩
  go_enter Tryd.func3, Tryd.ntmps3
  go_wp2_with (fail)
  refine kDrawnT (drawTermText_any A0 n0 c0 w h0 hm0 hc0) ?_
  intro g c xs w1 hown hl hb1
  have HC := Lib.hid (OwnM.cap hown)
  have HM1 := Lib.hid (OwnM.at_ hown)
  have HB1 := Lib.hid hb1
  clear hown hb1
  have HTV := Lib.hid (textV_len xs)
  obtain ⟨L, HL⟩ : ∃ q, Hid (textV xs = q) := ⟨_, rfl⟩
  rw [HL.out] at HTV
  obtain ⟨n, HLN⟩ : ∃ q, Hid (xs.length = q) := ⟨_, rfl⟩
  rw [HLN.out] at HC HM1 hl ⊢
  have HI := Lib.hid (fun (W : World) (h : MarksAt W (some ⟨g, 0, none⟩) n xs) => iTermText_any (some ⟨g, 0, none⟩) n c xs W h (by omega))
  have HS := Lib.hid (fun (W : World) (h : MarksAt W (some ⟨g, 0, none⟩) n xs) => sTermText_any (some ⟨g, 0, none⟩) n c xs W h HC.out (by omega))
  rw [HL.out] at HI HS
  go_wp2_with (fail)
  refine kStr (n := 75) (HI.out _ HM1.out) HTV.out ?_
  intro S w2 hS hz hb2
  have HB2 := Lib.hid (on0 HB1.out hb2)
  have HM2 := Lib.hid (HM1.out.below hb2)
  clear hb2
  go_wp2_with (fail)
  refine kStr (n := 75) (HS.out _ HM2.out) HTV.out ?_
  intro S2 w3 hS2 hz2 hb3
  have HB3 := Lib.hid (on0 HB2.out hb3)
  have HM3 := Lib.hid (HM2.out.below hb3)
  obtain rfl : S = S2 := text_eq' (hS.out.trans hS2.out.symm)
  clear hb3
  by_cases ht : TOk xs
  · have HOK := Lib.hid (show RdOk S.data.toList xs by
      obtain ⟨t, ht⟩ := ht
      exact ⟨t, ht, by rw [hS.out, ← HL.out, textV_of ht]⟩)
    have hq := neq_list (S := S) (T := ⟨#[]⟩) (fun e => HOK.out.len.2 (by rw [e]))
    have hq0 : (S.toList == []) = false := by simpa using hq
    have HRD := Lib.hid (fun (W : World) (g : GV W) => iReadTermD_any S W g)
    have HV := Lib.hid (fun h : DerV S.data.toList => readV_text h HOK.out)
    obtain ⟨R, HR⟩ : ∃ q, Hid ((readV S.data.toList).1 = q) := ⟨_, rfl⟩
    obtain ⟨bb, HBB⟩ : ∃ q, Hid ((readV S.data.toList).2 = q) := ⟨_, rfl⟩
    rw [HR.out, HBB.out] at HRD HV
    clear ht
    go_wp2_with (fail)
    refine kNewMBD (HRD.out _ (HG.out.below HB3.out)) ?_
    intro A4 c4 w4 hown4 hd4 hb4
    obtain ⟨hv1, hv2⟩ := HV.out hd4.out
    subst hv2
    subst hv1
    have HB4 := Lib.hid (on0 HB3.out hb4)
    have HM4 := Lib.hid (HM3.out.below hb4)
    have HO4 := Lib.hid (OwnM.at_ hown4)
    rw [HLN.out] at HO4 ⊢
    have hsm := sameMarks_any A4 (some ⟨g, 0, none⟩) n c4 n c R R w4 HO4.out HM4.out (by omega)
    rw [B_true (show EqMks R R from rfl)] at hsm
    have HSM := Lib.hid hsm
    clear hsm hown4 hb4 hd4
    go_wp2_with (fail)
    refine kW HSM.out ?_
    intro mm
    go_wp2
    go_ret
    exact ⟨rfl, below_drewN HB4.out mm⟩
  · obtain rfl : S = ⟨#[]⟩ := text_eq' (by rw [hS.out, ← HL.out, textV_no ht])
    have HIT := Lib.hid (show Calls Tryd.prog 10 #[.slice (some ⟨g, 0, none⟩) n c] w3 (Bl w3 (.bool false)) by
      have h1 := iTermOk_any (some ⟨g, 0, none⟩) n c xs w3 HM3.out (by omega)
      rwa [B_false ht] at h1)
    clear ht hz hz2
    go_wp2_with (fail)
    refine kBV HIT.out ?_
    intro w4 hb4
    have HB4 := Lib.hid (on0 HB3.out hb4)
    clear hb4
    go_wp2_with (fail)
    refine kBV (alive_any _) ?_
    intro w5 hb5
    go_wp2
    go_ret
    exact ⟨rfl, on0 HB4.out hb5⟩

end Go.Proofs.YtcmicmenkbgfmaaDoor
