/- Until when one may wait: both WaitUntil functions. -/
import Derived.Test.YtkmimebfnnemoaaW1
namespace Go.Proofs.Ytkmimebfnnemoaa
open Go.RowKit

/-- What WaitUntil answers. -/
noncomputable def Wu (p : Int) (bs : List Bd) (hs : List Hp) : Int :=
  if B (SaOk p bs hs (lastT hs hs.length) ∧ Goes p bs (lastT hs hs.length) (DsA p.toNat hs)) = true then min (dlW (cl (T0 bs) p.toNat) (DsA p.toNat hs) p.toNat p.toNat) 2000 else -1
theorem Wu_no {p : Int} {bs : List Bd} {hs : List Hp} (h : ¬ (SaOk p bs hs (lastT hs hs.length) ∧ Goes p bs (lastT hs hs.length) (DsA p.toNat hs))) : Wu p bs hs = -1 := by unfold Wu; rw [B_false h]; rfl
theorem Wu_yes {p : Int} {bs : List Bd} {hs : List Hp} (h : SaOk p bs hs (lastT hs hs.length)) (h2 : Goes p bs (lastT hs hs.length) (DsA p.toNat hs)) : Wu p bs hs = min (dlW (cl (T0 bs) p.toNat) (DsA p.toNat hs) p.toNat p.toNat) 2000 := by unfold Wu; rw [B_true ⟨h, h2⟩]; rfl
theorem SaOk_last {p : Int} {bs : List Bd} {hs : List Hp} (h : HrdOk p bs hs) : SaOk p bs hs (lastT hs hs.length) := ⟨h, Int.le_refl _, (lastT_bd h.1 (Nat.le_refl _)).2⟩
/-- Broken later exactly past the deadline. -/
theorem Vd_later {P : Nat} {bs : List Bd} {hs : List Hp} {now : Int} (h : HrdOk (P : Int) bs hs) (hg : Goes (P : Int) bs (lastT hs hs.length) (DsA P hs)) (hn : InR now (lastT hs hs.length) 2000) :
    Vd (P : Int) bs hs now = 2 ↔ ¬ now ≤ dlW (cl (T0 bs) P) (DsA P hs) P P := by
  have hs2 := DsA_st h hn
  have hd := goes_deadline hg hs2
  have hsa : SaOk (P : Int) bs hs now := ⟨h, hn⟩
  constructor
  · intro hv hle
    have hgo : Goes (P : Int) bs now (DsA (P : Int).toNat hs) := hd.2 hle
    by_cases hl : Left (DsA (P : Int).toNat hs)
    · rw [Vd_one hsa hgo hl] at hv; omega
    · rw [Vd_zero hsa hgo hl] at hv; omega
  · intro hv
    exact Vd_two hsa (fun hgo => hv (hd.1 hgo))
theorem Vd_last {P : Nat} {bs : List Bd} {hs : List Hp} (h : HrdOk (P : Int) bs hs) : Vd (P : Int) bs hs (lastT hs hs.length) = 2 ↔ ¬ Goes (P : Int) bs (lastT hs hs.length) (DsA P hs) := by
  have hsa := SaOk_last h
  constructor
  · intro hv hgo
    have hgo' : Goes (P : Int) bs (lastT hs hs.length) (DsA (P : Int).toNat hs) := hgo
    by_cases hl : Left (DsA (P : Int).toNat hs)
    · rw [Vd_one hsa hgo' hl] at hv; omega
    · rw [Vd_zero hsa hgo' hl] at hv; omega
  · intro hv
    exact Vd_two hsa hv

set_option maxRecDepth 100000 in
set_option maxHeartbeats 2000000 in
theorem iWaitUntil_any (p : Int) (A : Option Addr) (n c : Nat) (bs : List Bd) (D : Option Addr) (m d : Nat) (hs : List Hp) (w : World) (h : BndsAt w A n bs) (g : HapsAt w D m hs) (hn : n ≤ 1048576) (hm : m ≤ 1048576) :
    Calls Try.prog 28 #[.agg #[.int .i64 p, .slice A n c], .slice D m d] w (Bl w (.int .i64 (Wu p bs hs))) := by
  have HL := Lib.hid g.len
  have hB0 : Below w.heap.size w (w.alloc (.cells #[.int .i64 p, .slice A n c] 31)) := (Below.refl w.heap.size w).alloc (Nat.le_refl _) _
  have HH := Lib.hid (h.below hB0)
  have HG := Lib.hid (g.below hB0)
  clear h g
  go_enter Try.func28, Try.ntmps28
  go_wp2_with (fail)
  refine kB (iHeardOk_any p A n c bs D m d hs _ HH.out HG.out hn hm) ?_ ?_
  · intro w1 hf hb1
    obtain ⟨P, rfl, hP1, hP6⟩ := hf.out.2.1.nat
    have hB1 : Below w.heap.size w w1 := hB0.trans (hb1.mono hB0.size)
    have e0 : w1.cell? ⟨w.heap.size, 0, none⟩ = some (.int .i64 (P : Int)) := keep hb1 (by simp [go_sem])
    have e1 : w1.cell? ⟨w.heap.size, 1, none⟩ = some (.slice A n c) := keep hb1 (by simp [go_sem])
    have HH1 := Lib.hid (HH.out.below hb1)
    have HG1 := Lib.hid (HG.out.below hb1)
    have HB1 := Lib.hid hB1
    clear hb1 hB1
    have hcall := broken_any (P : Int) A n c bs D m d hs w1 HH1.out HG1.out hn hm
    rw [show lastT hs m = lastT hs hs.length by rw [HL.out], show B (Vd (P : Int) bs hs (lastT hs hs.length) = 2) = B (¬ Goes (P : Int) bs (lastT hs hs.length) (DsA P hs)) from B_congr (Vd_last hf.out)] at hcall
    go_wp2_with (fail)
    refine kB hcall ?_ ?_
    · intro w2 hg hb2
      go_wp2
      go_ret
      exact ⟨ret_i (Wu_no (fun hh => hg.out hh.2)).symm, HB1.out.trans (hb2.mono HB1.out.size)⟩
    · intro w2 hg0 hb2
      have hg : Goes (P : Int) bs (lastT hs hs.length) (DsA P hs) := Classical.byContradiction fun hh => hg0.out hh
      have HWU := Lib.hid (Wu_yes (SaOk_last hf.out) hg)
      have HVL := Lib.hid (fun now hn => Vd_later (now := now) hf.out hg hn)
      have hbd := lastT_bd hf.out.1 (Nat.le_refl hs.length)
      have hdl : lastT hs hs.length ≤ dlW (cl (T0 bs) P) (DsA P hs) P P := (goes_deadline hg (DsA_st hf.out ⟨Int.le_refl _, hbd.2⟩)).1 hg
      obtain ⟨hl0, hl1⟩ := hbd
      have HB2 := Lib.hid (HB1.out.trans (hb2.mono HB1.out.size))
      have HE := Lib.hid (And.intro (keep hb2 e0) (keep hb2 e1))
      have HH2 := Lib.hid (HH1.out.below hb2)
      have HG2 := Lib.hid (HG1.out.below hb2)
      have hlt := lastTime_any D m d hs w2 HG2.out hm
      rw [show lastT hs m = lastT hs hs.length by rw [HL.out]] at hlt
      obtain ⟨lt, HLT⟩ : ∃ q, Hid (lastT hs hs.length = q) := ⟨_, rfl⟩
      obtain ⟨dl, HDL⟩ : ∃ q, Hid (dlW (cl (T0 bs) P) (DsA P hs) P P = q) := ⟨_, rfl⟩
      rw [HLT.out] at hl0 hl1 hdl hlt HVL
      rw [HDL.out] at hdl HVL
      clear hg hb2 hcall e0 e1 hg0
      go_wp2_with (fail)
      refine kV hlt ?_
      clear hlt
      go_wp2
      go_loopw [5, 6] (fun l u wr => ∃ (L U : Int), l = .int .i64 L ∧ u = .int .i64 U ∧ lt ≤ L ∧ L ≤ U ∧ U ≤ 2000 ∧ L ≤ dl ∧ (U = 2000 ∨ dl ≤ U) ∧ Below w2.heap.size w2 wr) (fun l u _ => (intOf u - intOf l).toNat)
      case atStart => exact ⟨lt, 2000, rfl, rfl, Int.le_refl _, hl1, Int.le_refl _, hdl, .inl rfl, Below.refl _ _⟩
      case round =>
        obtain ⟨wo, rfl⟩ : ∃ wo : World, wo = wr := ⟨_, rfl⟩
        obtain ⟨L, U, rfl, rfl, h1, h2, h3, h4, h5, hb⟩ := hrel
        have HB := Lib.hid hb
        have H5 := Lib.hid h5
        have e0 := keep hb HE.out.1
        have e1 := keep hb HE.out.2
        clear hb h5
        by_cases hlu : L < U
        · have hmid0 : L < (L + U + 1) / 2 := by omega
          have hmid1 : (L + U + 1) / 2 ≤ U := by omega
          have hVc := iVerdictOf_any (P : Int) A n c bs D m d hs ((L + U + 1) / 2) wo (HH2.out.below HB.out) (HG2.out.below HB.out) hn hm
          have hvl := HVL.out ((L + U + 1) / 2) ⟨by omega, by omega⟩
          obtain ⟨v, HV⟩ : ∃ q, Hid (Vd (P : Int) bs hs ((L + U + 1) / 2) = q) := ⟨_, rfl⟩
          rw [HV.out] at hVc hvl
          have HVC := Lib.hid hVc
          have HVW := Lib.hid hvl
          have HM := Lib.hid (And.intro hmid0 hmid1)
          clear hVc hvl hmid0 hmid1
          go_wp2_with (fail)
          refine kBV (HVC.out) ?_
          intro w3 hb3
          obtain ⟨hm0, hm1⟩ := HM.out
          by_cases hv : v = 2
          · have hgt := HVW.out.1 hv
            subst hv
            go_wp2
            go_roundw
            case rel => exact ⟨L, (L + U + 1) / 2 - 1, rfl, by go_num, h1, by omega, by omega, h4, .inr (by omega), HB.out.trans (hb3.mono HB.out.size)⟩
            case measure => simp [intOf]; omega
          · have hle : (L + U + 1) / 2 ≤ dl := Classical.byContradiction fun hh => hv (HVW.out.2 (by omega))
            have hv' : (v == 2) = false := by simpa using hv
            go_wp2
            go_roundw
            case rel => exact ⟨(L + U + 1) / 2, U, rfl, rfl, by omega, by omega, h3, hle, H5.out, HB.out.trans (hb3.mono HB.out.size)⟩
            case measure => simp [intOf]; omega
        · obtain rfl : L = U := by omega
          go_wp2
          go_ret
          refine ⟨ret_i ?_, HB2.out.trans (HB.out.mono HB2.out.size)⟩
          have h5 := H5.out
          rw [HWU.out, show (P : Int).toNat = P from rfl, HDL.out]
          omega
  · intro w1 hf hb1
    go_wp2
    go_ret
    exact ⟨ret_i (Wu_no (fun hh => hf.out hh.1.1)).symm, hB0.trans (hb1.mono hB0.size)⟩

set_option maxRecDepth 100000 in
set_option maxHeartbeats 2000000 in
theorem sWaitUntil_any (p : Int) (A : Option Addr) (n c : Nat) (bs : List Bd) (D : Option Addr) (m d : Nat) (hs : List Hp) (w : World) (h : BndsAt w A n bs) (g : HapsAt w D m hs) (hn : n ≤ 1048576) (hm : m ≤ 1048576) :
    Calls Try.prog 27 #[.agg #[.int .i64 p, .slice A n c], .slice D m d] w (Bl w (.int .i64 (Wu p bs hs))) := by
  have HL := Lib.hid g.len
  obtain ⟨w0, HW0⟩ : ∃ q, Hid (w.alloc (.cells #[.int .i64 p, .slice A n c] 31) = q) := ⟨_, rfl⟩
  have hA0 : Below w.heap.size w w0 := HW0.out ▸ (Below.refl w.heap.size w).alloc (Nat.le_refl _) _
  have s0 : w0.cell? ⟨w.heap.size, 0, none⟩ = some (.int .i64 p) := HW0.out ▸ by simp [go_sem]
  have s1 : w0.cell? ⟨w.heap.size, 1, none⟩ = some (.slice A n c) := HW0.out ▸ by simp [go_sem]
  have HB0 := Lib.hid hA0
  have HH := Lib.hid (h.below hA0)
  have HG := Lib.hid (g.below hA0)
  have HGW := Lib.hid g
  clear hA0 h g
  have hsa := sStateAfter_any p A n c bs D m d hs (lastT hs m) w0 HH.out HG.out hn hm
  rw [show lastT hs m = lastT hs hs.length by rw [HL.out]] at hsa
  obtain ⟨l, HLT⟩ : ∃ q, Hid (lastT hs hs.length = q) := ⟨_, rfl⟩
  have HLM := Lib.hid (show lastT hs m = l by rw [← HL.out]; exact HLT.out)
  rw [HLT.out] at hsa
  have HSA := Lib.hid hsa
  have HWN := Lib.hid (Wu_no (p := p) (bs := bs) (hs := hs))
  have HWY := Lib.hid (Wu_yes (p := p) (bs := bs) (hs := hs))
  rw [HLT.out] at HWN HWY
  clear hsa
  by_cases h0 : m = 0
  · have hl : l = 0 := by have := HLM.out; unfold lastT at this; rw [if_pos h0] at this; exact this.symm
    have h0' : ¬ (0 : Int) < (m : Int) := by omega
    have HM0 := Lib.hid h0
    have HL0 := Lib.hid hl
    clear h0
    subst hl
    go_enter Try.func27, Try.ntmps27
    go_wp2_with (fail)
    rw [HW0.out]
    refine HSA.out.mono ?_
    rintro e w1 (⟨hok, A1, n1, c1', rfl, hown, hb1⟩ | ⟨hok, A1, n1, c1', rfl, hown, hb1⟩)
    · have HOK := Lib.hid hok
      obtain ⟨P, hpP, hP1, hP6⟩ := hok.1.2.1.nat
      subst hpP
      have HST := Lib.hid (DsA_st hok.1 (by rw [HLT.out]; exact ⟨Int.le_refl _, hok.2.2⟩))
      have HB1 := Lib.hid (HB0.out.trans (hb1.mono HB0.out.size))
      have e0 := keep hb1 s0
      have e1 := keep hb1 s1
      have hsw : w.heap.size < w1.heap.size := cell_lt e0
      obtain ⟨w2, HW2⟩ : ∃ q, Hid (w1.alloc (.cells #[.int .i64 0, .slice A1 n1 c1'] 40) = q) := ⟨_, rfl⟩
      have hb2 : Below w1.heap.size w1 w2 := HW2.out ▸ (Below.refl _ _).alloc (Nat.le_refl _) _
      have HI := Lib.hid ((OwnZ.at_ hown).below hb2)
      have HH2 := Lib.hid ((HH.out.below hb1).below hb2)
      have t0 : w2.cell? ⟨w1.heap.size, 0, none⟩ = some (.int .i64 0) := HW2.out ▸ by simp [go_sem]
      have t1 : w2.cell? ⟨w1.heap.size, 1, none⟩ = some (.slice A1 n1 c1') := HW2.out ▸ by simp [go_sem]
      have e0' := keep hb2 e0
      have e1' := keep hb2 e1
      have HB2 := Lib.hid (HB1.out.trans (hb2.mono HB1.out.size))
      clear hok hown hb1 hb2
      have HDS := Lib.hid (rfl : DsA (P : Int).toNat hs = DsA P hs)
      go_wp2_with (fail)
      rw [HW2.out]
      clear e0 e1 hsw
      refine kB (sGoesOnOk_any (P : Int) A n c bs 0 A1 n1 c1' (DsA P hs) w2 HH2.out HI.out hn) ?_ ?_
      · intro w3 hg hb3
        replace e0' := keep hb3 e0'
        replace e1' := keep hb3 e1'
        replace t0 := keep hb3 t0
        replace t1 := keep hb3 t1
        have HB3 := Lib.hid (HB2.out.trans (hb3.mono HB2.out.size))
        have hdc := sDeadlineOf_any (P : Int) A n c bs 0 A1 n1 c1' (DsA P hs) w3 (HH2.out.below hb3) (HI.out.below hb3) hn
        rw [show Dl (P : Int) bs 0 (DsA P hs) = dlW (cl (T0 bs) P) (DsA P hs) P P by unfold Dl; rw [B_true HST.out]; rfl] at hdc
        have HWW := Lib.hid (HWY.out HOK.out hg.out)
        obtain ⟨dl, HDL⟩ : ∃ q, Hid (dlW (cl (T0 bs) P) (DsA P hs) P P = q) := ⟨_, rfl⟩
        rw [HDL.out] at hdc
        have HDC := Lib.hid hdc
        clear hb3 hdc
        go_wp2_with (fail)
        refine kBV HDC.out ?_
        intro w4 hb4
        go_wp2
        go_ret
        exact ⟨ret_i (by rw [HWW.out, show (P : Int).toNat = P from rfl, HDL.out]), HB3.out.trans (hb4.mono HB3.out.size)⟩
      · intro w3 hg hb3
        go_wp2
        go_ret
        exact ⟨ret_i (HWN.out (fun hh => hg.out hh.2)).symm, HB2.out.trans (hb3.mono HB2.out.size)⟩
    · have HOK := Lib.hid hok
      have HB1 := Lib.hid (HB0.out.trans (hb1.mono HB0.out.size))
      clear hok hown hb1
      go_wp2
      go_ret
      exact ⟨ret_i (HWN.out (fun hh => HOK.out hh.1)).symm, HB1.out.alloc HB1.out.size _⟩
  · obtain ⟨k1, HK1⟩ : ∃ k1, Hid (m = k1 + 1) := ⟨m - 1, Lib.hid (by omega)⟩
    obtain ⟨b, off, rfl, hc⟩ := HGW.out.cells (by omega)
    obtain ⟨-, c1⟩ := hc k1 (by have := HK1.out; omega)
    have hl : (hs.getD k1 (0, 0)).2 = l := by have := HLM.out; unfold lastT at this; rw [if_neg h0, HK1.out, Nat.add_sub_cancel] at this; exact this
    rw [hl] at c1
    have hk1 : (m : Int) - 1 = (k1 : Int) := by have := HK1.out; omega
    have h0' : (0 : Int) < (m : Int) := by omega
    have hk1m : k1 < m := by have := HK1.out; omega
    have hbl : b < w.heap.size := cell_lt c1
    clear hc hl
    go_enter Try.func27, Try.ntmps27
    go_wp2_with (fail)
    rw [HW0.out]
    refine HSA.out.mono ?_
    rintro e w1 (⟨hok, A1, n1, c1', rfl, hown, hb1⟩ | ⟨hok, A1, n1, c1', rfl, hown, hb1⟩)
    · have HOK := Lib.hid hok
      obtain ⟨P, hpP, hP1, hP6⟩ := hok.1.2.1.nat
      subst hpP
      have HST := Lib.hid (DsA_st hok.1 (by rw [HLT.out]; exact ⟨Int.le_refl _, hok.2.2⟩))
      have HB1 := Lib.hid (HB0.out.trans (hb1.mono HB0.out.size))
      have e0 := keep hb1 s0
      have e1 := keep hb1 s1
      have hsw : w.heap.size < w1.heap.size := cell_lt e0
      obtain ⟨w2, HW2⟩ : ∃ q, Hid (w1.alloc (.cells #[.int .i64 l, .slice A1 n1 c1'] 40) = q) := ⟨_, rfl⟩
      have hb2 : Below w1.heap.size w1 w2 := HW2.out ▸ (Below.refl _ _).alloc (Nat.le_refl _) _
      have HI := Lib.hid ((OwnZ.at_ hown).below hb2)
      have HH2 := Lib.hid ((HH.out.below hb1).below hb2)
      have t0 : w2.cell? ⟨w1.heap.size, 0, none⟩ = some (.int .i64 l) := HW2.out ▸ by simp [go_sem]
      have t1 : w2.cell? ⟨w1.heap.size, 1, none⟩ = some (.slice A1 n1 c1') := HW2.out ▸ by simp [go_sem]
      have e0' := keep hb2 e0
      have e1' := keep hb2 e1
      have HB2 := Lib.hid (HB1.out.trans (hb2.mono HB1.out.size))
      clear hok hown hb1 hb2
      have HDS := Lib.hid (rfl : DsA (P : Int).toNat hs = DsA P hs)
      go_wp2_with (fail)
      rw [HW2.out]
      clear e0 e1 hsw
      refine kB (sGoesOnOk_any (P : Int) A n c bs l A1 n1 c1' (DsA P hs) w2 HH2.out HI.out hn) ?_ ?_
      · intro w3 hg hb3
        replace e0' := keep hb3 e0'
        replace e1' := keep hb3 e1'
        replace t0 := keep hb3 t0
        replace t1 := keep hb3 t1
        have HB3 := Lib.hid (HB2.out.trans (hb3.mono HB2.out.size))
        have hdc := sDeadlineOf_any (P : Int) A n c bs l A1 n1 c1' (DsA P hs) w3 (HH2.out.below hb3) (HI.out.below hb3) hn
        rw [show Dl (P : Int) bs l (DsA P hs) = dlW (cl (T0 bs) P) (DsA P hs) P P by unfold Dl; rw [B_true HST.out]; rfl] at hdc
        have HWW := Lib.hid (HWY.out HOK.out hg.out)
        obtain ⟨dl, HDL⟩ : ∃ q, Hid (dlW (cl (T0 bs) P) (DsA P hs) P P = q) := ⟨_, rfl⟩
        rw [HDL.out] at hdc
        have HDC := Lib.hid hdc
        clear hb3 hdc
        go_wp2_with (fail)
        refine kBV HDC.out ?_
        intro w4 hb4
        go_wp2
        go_ret
        exact ⟨ret_i (by rw [HWW.out, show (P : Int).toNat = P from rfl, HDL.out]), HB3.out.trans (hb4.mono HB3.out.size)⟩
      · intro w3 hg hb3
        go_wp2
        go_ret
        exact ⟨ret_i (HWN.out (fun hh => hg.out hh.2)).symm, HB2.out.trans (hb3.mono HB2.out.size)⟩
    · have HOK := Lib.hid hok
      have HB1 := Lib.hid (HB0.out.trans (hb1.mono HB0.out.size))
      clear hok hown hb1
      go_wp2
      go_ret
      exact ⟨ret_i (HWN.out (fun hh => HOK.out hh.1)).symm, HB1.out.alloc HB1.out.size _⟩

end Go.Proofs.Ytkmimebfnnemoaa
