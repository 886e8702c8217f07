/- The counts of a part by the reference: l12Counts. -/
import Derived.Test.YtookhelfbnhadaaN1
import Derived.Test.YtookhelfbnhadaaMF
import Derived.Test.YtookhelfbnhadaaO5
import Derived.Lib.MinMax
import Derived.BigRegion
import Derived.Laws.OwnMore
import Derived.Deep.RegionHeldLaw
import Derived.Deep.DrawnRows
namespace Go.Proofs.Ytookhelfbnhadaa
open Go.RowKit
attribute [local go_sem ↓] Go.wp_at_zero Go.wp_at_succ

set_option maxRecDepth 100000 in
set_option maxHeartbeats 2000000 in
theorem l12Counts_step (l h : Int) (wf : Wf (.step l h)) (A : Option Addr) (n c : Nat) (w : World) (hm : MarksAt w A n (marksOf (.step l h))) (hc : n ≤ c) :
    Calls Try.prog 71 #[.slice A n c] w (NewI w (cntL (.step l h))) := by
  obtain ⟨b, off, rfl⟩ := hm.some (by rw [← hm.len]; simp [marksOf])
  obtain ⟨-, rfl, c0, c1, c2⟩ := MarksAt.one (x := []) hm
  simp only [List.length_nil, Nat.zero_mul, Nat.add_zero, Nat.zero_add] at c0 c1 c2 hc ⊢
  clear hm
  have HCL := Lib.hid (cntL_step wf)
  obtain ⟨hw0, hw1, hw2⟩ := wf
  obtain ⟨H, rfl⟩ := Int.eq_ofNat_of_zero_le (show 0 ≤ h by omega)
  obtain ⟨L, HL⟩ : ∃ q, Hid (cntL (.step l (H : Int)) = q) := ⟨_, rfl⟩
  rw [HL.out] at HCL ⊢
  have HLN := Lib.hid (show L.length = H + 1 by rw [HCL.out]; simp)
  have HLG := Lib.hid (show ∀ k, k < H + 1 → L.take (k + 1) = L.take k ++ [if l ≤ (k : Int) then 1 else 0] by
    intro k hk
    have hkl : k < L.length := by rw [HLN.out]; exact hk
    rw [List.take_succ_eq_append_getElem hkl]
    congr 1
    have : L[k] = L.getD k 0 := by simp [List.getD, hkl]
    rw [this, HCL.out]
    simp [List.getD, hk])
  obtain ⟨w0, HW0⟩ : ∃ q, Hid (w.alloc (.cells #[.int .i64 0, .int .i64 l, .int .i64 (H : Int)] 27) = q) := ⟨_, rfl⟩
  have hA0 : Below w.heap.size w w0 := HW0.out ▸ (Below.refl w.heap.size w).alloc (Nat.le_refl _) _
  have s0 : w0.cell? ⟨w.heap.size, 0, none⟩ = some (.int .i64 0) := HW0.out ▸ by simp [go_sem]
  have s1 : w0.cell? ⟨w.heap.size, 1, none⟩ = some (.int .i64 l) := HW0.out ▸ by simp [go_sem]
  have s2 : w0.cell? ⟨w.heap.size, 2, none⟩ = some (.int .i64 (H : Int)) := HW0.out ▸ by simp [go_sem]
  have HB0 := Lib.hid hA0
  have HZ := Lib.hid (show w0.heap.size = w.heap.size + 1 from HW0.out ▸ by simp)
  have HS0 := Lib.hid s0
  have HS1 := Lib.hid s1
  have HS2 := Lib.hid s2
  clear hA0
  go_enter Try.func71, Try.ntmps71
  go_wp2_with (fail)
  rw [HW0.out]
  obtain ⟨sb, HSB⟩ : ∃ q, Hid (w.heap.size = q) := ⟨_, rfl⟩
  rw [HSB.out] at s0 s1 s2 HS0 HS1 HS2 HB0 HZ ⊢
  go_wp2
  go_loopw [5, 6, 7] (fun o i _ wr => ∃ (k : Nat) (Av : Option Addr) (cv : Nat), k ≤ H + 1 ∧ i = .int .i64 k ∧ o = .slice Av k cv ∧ OwnI wr w0.heap.size Av k cv (L.take k) ∧ Below w0.heap.size w0 wr) (fun _ i _ _ => H + 1 - (intOf i).toNat)
  case atStart => exact ⟨0, some ⟨sb + 1, 0, none⟩, 0, Nat.zero_le _, rfl, rfl, own_lit_at HZ.out w0.heap.size _ 1 #[] 0 (Nat.le_refl _) (by decide) rfl, (Below.refl _ _).alloc (Nat.le_refl _) _⟩
  case round =>
    obtain ⟨wo, rfl⟩ : ∃ wo : World, wo = wr := ⟨_, rfl⟩
    obtain ⟨k, Av, cv, hk, rfl, rfl, hown, hb⟩ := hrel
    have HO := Lib.hid hown
    have HB := Lib.hid hb
    replace s1 := keep hb s1
    replace s2 := keep hb s2
    clear hown hb s0
    by_cases hlt : k < H + 1
    · have hs := HLG.out k hlt
      have HSN := Lib.hid hs
      clear hs
      by_cases hl : l ≤ (k : Int)
      · go_wp2_with (at_builtin; refine wpl_app rowI rfl _ _ (by rfl) w0.heap.size _ k (vI (L.take k)) (by rfl) (HO.out.alloc _) ⟨wo.heap.size, 0, none⟩ 1 1 (vI [1]) (by rfl) rfl (cell_one_at (by simp) _ _) (vI_one _) (by decide) (by omega) (by have := HB.out.size; simp; omega) ?_; intro g' cap' wB hownB hgrow hat hltB)
        go_wp2
        go_roundw
        case rel =>
          refine ⟨k + 1, some ⟨g', 0, none⟩, cap', by omega, by go_num, rfl, ?_, (HB.out.alloc HB.out.size _).grown hgrow (by have := HB.out.size; simp; omega) (fun j hj => (HO.out.lt j hj).1)⟩
          show World.ownsRow _ _ _ _ _ _ (vI _)
          rw [HSN.out, if_pos hl, vI_append]; exact hownB
        case measure => simp [intOf]; omega
      · go_wp2_with (at_builtin; refine wpl_app rowI rfl _ _ (by rfl) w0.heap.size _ k (vI (L.take k)) (by rfl) (HO.out.alloc _) ⟨wo.heap.size, 0, none⟩ 1 1 (vI [0]) (by rfl) rfl (cell_one_at (by simp) _ _) (vI_one _) (by decide) (by omega) (by have := HB.out.size; simp; omega) ?_; intro g' cap' wB hownB hgrow hat hltB)
        go_wp2
        go_roundw
        case rel =>
          refine ⟨k + 1, some ⟨g', 0, none⟩, cap', by omega, by go_num, rfl, ?_, (HB.out.alloc HB.out.size _).grown hgrow (by have := HB.out.size; simp; omega) (fun j hj => (HO.out.lt j hj).1)⟩
          show World.ownsRow _ _ _ _ _ _ (vI _)
          rw [HSN.out, if_neg hl, vI_append]; exact hownB
        case measure => simp [intOf]; omega
    · obtain rfl : k = H + 1 := by omega
      go_wp2
      go_ret
      have hl2 := HLN.out
      refine ⟨Av, cv, by rw [hl2]; first | (simp; done) | rfl, ?_, ?_⟩
      · rw [hl2, HSB.out]
        have := HO.out
        rw [List.take_of_length_le (by omega)] at this
        exact own_base this (by rw [HZ.out]; omega)
      · rw [HSB.out]; exact HB0.out.trans (HB.out.mono (by rw [HZ.out]; omega))

theorem IntsAt.grown {w w' : World} {g n : Nat} {xs : List Int} {row : Option Nat} (h : IntsAt w (some ⟨g, 0, none⟩) n xs) (hg : w.grownBy w' row) (hne : some g ≠ row) : IntsAt w' (some ⟨g, 0, none⟩) n xs :=
  ⟨h.len, fun hn => by
    obtain ⟨b, off, e, hc⟩ := h.cells hn
    cases e
    exact ⟨g, 0, rfl, fun j hj => hg.cell (hc j hj) hne⟩⟩

set_option maxRecDepth 100000 in
set_option maxHeartbeats 4000000 in
theorem l12Counts_one (a : Tm) (h : Int) (wf : Wf (.one a h)) (ih : ∀ (A : Option Addr) (n c : Nat) (w : World), MarksAt w A n (marksOf a) → n ≤ c → n ≤ 11 → Calls Try.prog 71 #[.slice A n c] w (NewI w (cntL a)))
    (A : Option Addr) (n c : Nat) (w : World) (hm : MarksAt w A n (marksOf (.one a h))) (hc : n ≤ c) (hn : n ≤ 11) : Calls Try.prog 71 #[.slice A n c] w (NewI w (cntL (.one a h))) := by
  obtain ⟨b, off, rfl⟩ := hm.some (by rw [← hm.len]; simp [marksOf])
  obtain ⟨ha, rfl, c0, c1, c2⟩ := MarksAt.one hm
  clear hm
  have hcl := cntL_one wf
  obtain ⟨wa, hw0, hw1⟩ := wf
  have hbd := lenS_bd wa
  have hla := cntL_len a
  have hsa := stepsT_le a
  obtain ⟨p, HP⟩ : ∃ q, Hid ((marksOf a).length = q) := ⟨_, rfl⟩
  rw [HP.out] at ha c0 c1 c2 hc hn hsa ⊢
  simp only at c0 c1 c2
  obtain ⟨hi, HHI⟩ : ∃ z, Hid ((lenS a).2.1 = z) := ⟨_, rfl⟩
  rw [HHI.out] at hcl hbd hla
  obtain ⟨L, HL⟩ : ∃ z, Hid (cntL a = z) := ⟨_, rfl⟩
  rw [HL.out] at hcl hla ih
  obtain ⟨m, hmI, hm0, hm1, hmc⟩ : ∃ m : Nat, min (L.length : Int) (h + 1) = (m : Int) ∧ 0 < m ∧ m ≤ L.length ∧ cntL (.one a h) = L.take m := ⟨(min (hi + 1) (h + 1)).toNat, by omega, by omega, by omega, hcl⟩
  have hL2 : L.length ≤ 210 := by omega
  rw [hmc]
  have hml : (L.take m).length = m := by rw [List.length_take]; omega
  have HML := Lib.hid hml
  have IH := Lib.hid ih
  obtain ⟨l, HLL⟩ : ∃ z, Hid (L.length = z) := ⟨_, rfl⟩
  rw [HLL.out] at hmI hm1 hL2
  have hmI0 : (0 : Int) ≤ (m : Int) := by omega
  have hmI1 : (m : Int) ≤ (l : Int) := by omega
  have hpI : (p : Int) ≤ (c : Int) := by omega
  clear hcl hbd hla hsa hmc hml ih
  obtain ⟨w0, HW0⟩ : ∃ q, Hid ((w.alloc (.cells #[.int .i64 3, .int .i64 0, .int .i64 h] 27)).alloc (.cells #[] 3) = q) := ⟨_, rfl⟩
  have HB0 := Lib.hid (show Below w.heap.size w w0 from HW0.out ▸ ((Below.refl w.heap.size w).alloc (Nat.le_refl _) _).alloc (by simp) _)
  have s0 : w0.cell? ⟨w.heap.size, 0, none⟩ = some (.int .i64 3) := HW0.out ▸ keep (a := ⟨w.heap.size, 0, none⟩) ((Below.refl _ _).alloc (Nat.le_refl _) _) (by simp [go_sem])
  have s2 : w0.cell? ⟨w.heap.size, 2, none⟩ = some (.int .i64 h) := HW0.out ▸ keep (a := ⟨w.heap.size, 2, none⟩) ((Below.refl _ _).alloc (Nat.le_refl _) _) (by simp [go_sem])
  have HOE := Lib.hid (show OwnI w0 w.heap.size (some ⟨w.heap.size + 1, 0, none⟩) 0 0 [] from HW0.out ▸ own_lit_at (by simp) w.heap.size _ 1 #[] 0 (by simp) (by decide) rfl)
  have HHA := Lib.hid (ha.below HB0.out)
  go_enter Try.func71, Try.ntmps71
  go_wp2_with (fail)
  rw [HW0.out]
  obtain ⟨sb, HSB⟩ : ∃ q, Hid (w.heap.size = q) := ⟨_, rfl⟩
  rw [HSB.out] at s0 s2 HOE ⊢
  refine kNewI (IH.out (some ⟨b, off, none⟩) p c _ HHA.out (by omega) (by omega)) ?_
  intro A1 c1' w1 hown1 hb1
  have HB1 := Lib.hid (HB0.out.trans (hb1.mono HB0.out.size))
  have hcap := OwnI.cap hown1
  have HE1 := Lib.hid (own_below HOE.out hb1)
  replace s2 := keep hb1 s2
  rw [HLL.out] at hown1 hcap ⊢
  obtain ⟨g1, rfl, hg1a, hg1⟩ := own_cellsD hown1 (by omega)
  have HC1 := Lib.hid ((OwnI.at_ hown1).cut hm1)
  have hcI : (m : Int) ≤ (c1' : Int) := by omega
  clear hb1 hown1
  go_wp2_with (at_builtin; refine wpl_appE rowI rfl _ _ (by rfl) sb (sb + 1) 0 0 (vI []) (by rfl) HE1.out ⟨g1, 0, none⟩ m c1' (vI (L.take m)) (by rfl) (by rw [vI_len, HML.out]) (IntsAt.news HC1.out) (vI_one _) m (Nat.zero_add _) (vI (L.take m)) (List.nil_append _) (by omega) (by rw [← HSB.out]; exact HB1.out.size) ?_; intro g' cap' wB hownB hgrow hat hltB)
  go_wp2
  go_ret
  have hml := HML.out
  have hsz := HB1.out.size
  refine ⟨some ⟨g', 0, none⟩, cap', by rw [hml]; first | (simp; done) | rfl, ?_, HB1.out.grown hgrow HB1.out.size (fun k hk => by have := HSB.out; cases hk; omega)⟩
  rw [hml, HSB.out]; exact hownB

set_option maxRecDepth 100000 in
set_option maxHeartbeats 8000000 in
theorem l12Counts_both (x y : Tm) (wf : Wf (.two 2 x y))
    (ihx : ∀ (A : Option Addr) (n c : Nat) (w : World), MarksAt w A n (marksOf x) → n ≤ c → n ≤ 11 → Calls Try.prog 71 #[.slice A n c] w (NewI w (cntL x)))
    (ihy : ∀ (A : Option Addr) (n c : Nat) (w : World), MarksAt w A n (marksOf y) → n ≤ c → n ≤ 11 → Calls Try.prog 71 #[.slice A n c] w (NewI w (cntL y)))
    (A : Option Addr) (n c : Nat) (w : World) (hm : MarksAt w A n (marksOf (.two 2 x y))) (hc : n ≤ c) (hn : n ≤ 11) : Calls Try.prog 71 #[.slice A n c] w (NewI w (cntL (.two 2 x y))) := by
  have hcl := cntL_both (k := 2) (by decide) x y
  obtain ⟨b, off, rfl⟩ := hm.some (by rw [← hm.len]; exact marks_pos _)
  obtain ⟨hx, hy, rfl, c0, c1, c2⟩ := MarksAt.two hm
  have HAH := Lib.hid (show Ahead (marksOf (.two 2 x y)) (marksOf x) ((marksOf x).length + (marksOf y).length) 1 from ⟨[y], (by intro z hz; obtain rfl := List.mem_singleton.1 hz; exact wf.2.2), rfl, by rw [allMarks_one, marksOf]; exact List.take_left' (by simp)⟩)
  have hbx := lenS_bd wf.2.1
  have hby := lenS_bd wf.2.2
  have hsx := stepsT_le x
  have hsy := stepsT_le y
  have hq0 := marks_pos y
  have hp0 := marks_pos x
  have HSM := Lib.hid (cnt_small wf (by rw [marksOf, List.length_append, List.length_append, List.length_singleton]; omega))
  have hl1 := cntL_len x
  have hl2 := cntL_len y
  have HG1 := Lib.hid (fun j => cntL_get (t := x) (j := j))
  have HG2 := Lib.hid (fun j => cntL_get (t := y) (j := j))
  obtain ⟨p, HP⟩ : ∃ q, Hid ((marksOf x).length = q) := ⟨_, rfl⟩
  obtain ⟨q, HQ⟩ : ∃ q, Hid ((marksOf y).length = q) := ⟨_, rfl⟩
  rw [HP.out] at hx hy c0 c1 c2 hc hn hsx HAH hp0 ⊢
  rw [HQ.out] at hy c0 c1 c2 hc hn hsy hq0 HAH ⊢
  rw [HP.out, HQ.out] at hm
  have HQP := Lib.hid (show p + q - p = q by omega)
  obtain ⟨r, HRR⟩ : ∃ r, Hid (p + q = r) := ⟨_, rfl⟩
  rw [HRR.out] at c0 c1 c2 hc hn HAH hm HQP ⊢
  have hr1 : p + q ≤ r := by rw [← HRR.out]; exact Nat.le_refl _
  have hr2 : r ≤ p + q := by rw [← HRR.out]; exact Nat.le_refl _
  obtain ⟨hi1, HH1⟩ : ∃ z, Hid ((lenS x).2.1 = z) := ⟨_, rfl⟩
  obtain ⟨hi2, HH2⟩ : ∃ z, Hid ((lenS y).2.1 = z) := ⟨_, rfl⟩
  rw [HH1.out, HH2.out] at hcl
  rw [HH1.out] at hbx hl1 HG1
  rw [HH2.out] at hby hl2 HG2
  obtain ⟨-, -, hbx0, hbx1⟩ := hbx
  obtain ⟨-, -, hby0, hby1⟩ := hby
  obtain ⟨L1, HL1⟩ : ∃ z, Hid (cntL x = z) := ⟨_, rfl⟩
  obtain ⟨L2, HL2⟩ : ∃ z, Hid (cntL y = z) := ⟨_, rfl⟩
  rw [HL1.out] at hl1 ihx HG1
  rw [HL2.out] at hl2 ihy HG2
  have IHX := Lib.hid ihx
  have IHY := Lib.hid ihy
  have hp1 : hi1 ≤ 209 := by omega
  have hp2 : hi2 ≤ 209 := by omega
  obtain ⟨n1, HN1⟩ : ∃ z, Hid (L1.length = z) := ⟨_, rfl⟩
  obtain ⟨n2, HN2⟩ : ∃ z, Hid (L2.length = z) := ⟨_, rfl⟩
  rw [HN1.out] at hl1
  rw [HN2.out] at hl2
  have hn1 : (n1 : Int) = hi1 + 1 := by omega
  have hn2 : (n2 : Int) = hi2 + 1 := by omega
  have HN1' := Lib.hid hn1
  have HN2' := Lib.hid hn2
  have h1p : 0 < n1 := by omega
  have h2p : 0 < n2 := by omega
  have h1m : n1 ≤ 210 := by omega
  have h2m : n2 ≤ 210 := by omega
  simp only at c0 c1 c2
  have hcp : ¬ c = p := by omega
  obtain ⟨L, HL⟩ : ∃ z, Hid (cntL (.two 2 x y) = z) := ⟨_, rfl⟩
  obtain ⟨m, HMM⟩ : ∃ z, Hid ((min (hi1 + 1) (hi2 + 1)).toNat = z) := ⟨_, rfl⟩
  rw [HL.out, HMM.out] at hcl
  rw [HL.out]
  have hm1 : m ≤ n1 := by rw [← HMM.out]; omega
  have hm2 : m ≤ n2 := by rw [← HMM.out]; omega
  have hm3 : n1 ≤ m ∨ n2 ≤ m := by rw [← HMM.out]; omega
  have HLN := Lib.hid (show L.length = m by rw [hcl]; simp)
  have HCB := Lib.hid (cnt_both (k := 2) (by decide) x y)
  have HLG := Lib.hid (show ∀ k, k < m → L.take (k + 1) = L.take k ++ [L1.getD k 0 * L2.getD k 0] ∧ 0 ≤ L1.getD k 0 * L2.getD k 0 ∧ L1.getD k 0 * L2.getD k 0 ≤ 64000000 by
    intro k hk
    have hkl : k < L.length := by rw [HLN.out]; exact hk
    have e1 : L1.getD k 0 = (cntT x (k : Int) : Int) := HG1.out k (by omega)
    have e2 : L2.getD k 0 = (cntT y (k : Int) : Int) := HG2.out k (by omega)
    rw [e1, e2]
    refine ⟨?_, ?_⟩
    · rw [List.take_succ_eq_append_getElem hkl]
      congr 1
      have : L[k] = L.getD k 0 := by simp [List.getD, hkl]
      rw [this, hcl]
      simp [List.getD, hk]
    · have h1 := HSM.out (k : Int)
      rw [HCB.out] at h1
      rw [← Int.natCast_mul]
      omega)
  clear hcl
  have hI1 : (0 : Int) ≤ (p : Int) := by omega
  have hI2 : (p : Int) ≤ (c : Int) := by omega
  have hI3 : (p : Int) ≤ (r : Int) := by omega
  have hI4 : (r : Int) ≤ (c : Int) := by omega
  have hI5 : (r : Int) < (r : Int) + 1 := by omega
  have hI6 : (r : Int) + 1 ≤ (c : Int) := by omega
  have hI7 : (0 : Int) ≤ (r : Int) := by omega
  obtain ⟨w0, HW0⟩ : ∃ q, Hid ((w.alloc (.cells #[.int .i64 2, .int .i64 0, .int .i64 0] 27)).alloc (.cells #[] 3) = q) := ⟨_, rfl⟩
  have HB0 := Lib.hid (show Below w.heap.size w w0 from HW0.out ▸ ((Below.refl w.heap.size w).alloc (Nat.le_refl _) _).alloc (by simp) _)
  have s0 : w0.cell? ⟨w.heap.size, 0, none⟩ = some (.int .i64 2) := HW0.out ▸ keep (a := ⟨w.heap.size, 0, none⟩) ((Below.refl _ _).alloc (Nat.le_refl _) _) (by simp [go_sem])
  have HOE := Lib.hid (show OwnI w0 w.heap.size (some ⟨w.heap.size + 1, 0, none⟩) 0 0 [] from HW0.out ▸ own_lit_at (by simp) w.heap.size _ 1 #[] 0 (by simp) (by decide) rfl)
  have HZ := Lib.hid (show w0.heap.size = w.heap.size + 2 from HW0.out ▸ by simp)
  have HM := Lib.hid (hm.below HB0.out)
  have HX := Lib.hid (hx.below HB0.out)
  have HY := Lib.hid (hy.below HB0.out)
  clear ihx ihy hm hx hy hbx1 hby1 hsx hsy hl1 hl2 hn1 hn2
  go_enter Try.func71, Try.ntmps71
  go_wp2_with (fail)
  rw [HW0.out]
  obtain ⟨sb, HSB⟩ : ∃ q, Hid (w.heap.size = q) := ⟨_, rfl⟩
  rw [HSB.out] at s0 HOE HZ ⊢
  refine kV (l11Starts_at (some ⟨b, off, none⟩) (r + 1) c r _ (marksOf x) _ _ HM.out (by omega) (by omega) HAH.out ?_) ?_
  · push_cast; omega
  rw [HP.out]
  go_wp2_with (fail)
  refine kNewI (IHX.out (some ⟨b, off, none⟩) p c _ HX.out (by omega) (by omega)) ?_
  intro A1 c1' w1 hown1 hb1
  have HB1 := Lib.hid (HB0.out.trans (hb1.mono HB0.out.size))
  have HO1 := Lib.hid hown1
  have HE1 := Lib.hid (own_below HOE.out hb1)
  have hs1 : w0.heap.size ≤ w1.heap.size := hb1.size
  replace s0 := keep hb1 s0
  have HY1 := Lib.hid (HY.out.below hb1)
  clear hb1 hown1
  go_wp2_with (fail)
  (try rw [HQP.out])
  refine kNewI (IHY.out (some ⟨b, off + p * 3, none⟩) q (c - p) _ HY1.out (by omega) (by omega)) ?_
  intro A2 c2' w2 hown2 hb2
  have HB2 := Lib.hid (HB1.out.trans (hb2.mono HB1.out.size))
  have HO1' := Lib.hid (own_below HO1.out hb2)
  have HE2 := Lib.hid (own_below HE1.out hb2)
  have HO2 := Lib.hid hown2
  replace s0 := keep hb2 s0
  have hs2 : w1.heap.size ≤ w2.heap.size := hb2.size
  rw [HN1.out] at HO1 HO1' ⊢
  rw [HN2.out] at HO2 ⊢
  obtain ⟨g1, rfl, hg1a, hg1⟩ := own_cellsD HO1'.out h1p
  obtain ⟨g2, rfl, hg2a, hg2⟩ := own_cellsD HO2.out h2p
  have HA1 := Lib.hid (OwnI.at_ HO1'.out)
  have HA2 := Lib.hid (OwnI.at_ HO2.out)
  clear hb2 hown2
  go_wp2_with (fail)
  go_loopw [5, 12] (fun o i wr => ∃ (k : Nat) (Av : Option Addr) (cv : Nat), k ≤ m ∧ i = .int .i64 k ∧ o = .slice Av k cv ∧ OwnI wr sb Av k cv (L.take k) ∧ (∀ z, (Value.slice Av k cv).ownBlock = some z → z ≠ g1 ∧ z ≠ g2) ∧
      IntsAt wr (some ⟨g1, 0, none⟩) n1 L1 ∧ IntsAt wr (some ⟨g2, 0, none⟩) n2 L2 ∧ w2.heap.size ≤ wr.heap.size ∧ Below w.heap.size w wr) (fun _ i _ => m - (intOf i).toNat)
  case atStart => exact ⟨0, some ⟨sb + 1, 0, none⟩, 0, Nat.zero_le _, rfl, rfl, HE2.out, fun z hz => (by have := HZ.out; simp only [Value.ownBlock] at hz; cases hz; omega), HA1.out, HA2.out, Nat.le_refl _, HB2.out⟩
  case round =>
    obtain ⟨wo, rfl⟩ : ∃ wo : World, wo = wr := ⟨_, rfl⟩
    obtain ⟨k, Av, cv, hk, rfl, rfl, hown, hap, ha1, ha2, hws, hb⟩ := hrel
    have HO := Lib.hid hown
    have HB := Lib.hid hb
    have HAP := Lib.hid hap
    have HI1 := Lib.hid ha1
    have HI2 := Lib.hid ha2
    clear hown hb hap ha1 ha2
    by_cases hlt : k < m
    · obtain ⟨hs, hp0', hp1'⟩ := HLG.out k hlt
      have HSN := Lib.hid hs
      obtain ⟨b1, o1, e1, hd1⟩ := HI1.out.cells h1p
      cases e1
      have d1 := hd1 k (by omega)
      obtain ⟨b2, o2, e2, hd2⟩ := HI2.out.cells h2p
      cases e2
      have d2 := hd2 k (by omega)
      rw [Nat.zero_add] at d1 d2
      obtain ⟨x0, HX0⟩ : ∃ z, Hid (L1.getD k 0 = z) := ⟨_, rfl⟩
      obtain ⟨y0, HY0⟩ : ∃ z, Hid (L2.getD k 0 = z) := ⟨_, rfl⟩
      rw [HX0.out] at d1 hp0' hp1' HSN
      rw [HY0.out] at d2 hp0' hp1' HSN
      have HWR := Lib.hid (wrap_id (x := x0 * y0) (by omega) (by omega))
      have D1 := Lib.hid d1
      have D2 := Lib.hid d2
      have hkI0 : (0 : Int) ≤ (k : Int) := by omega
      have hkI1 : (k : Int) < (n1 : Int) := by omega
      have hkI2 : (k : Int) < (n2 : Int) := by omega
      have hg1o : g1 < wo.heap.size := by omega
      have hg2o : g2 < wo.heap.size := by omega
      clear hs hd1 hd2
      go_wp2_with (fail)
      go_region_held_law (fun w' => w'.cell? ⟨g1, k, none⟩ = some (.int .i64 x0) ∧ w'.cell? ⟨g2, k, none⟩ = some (.int .i64 y0))
        (first | exact ⟨d1, d2⟩ | exact hS | exact ⟨keep (show Below wo.heap.size wo _ from (by repeat (first | exact Below.refl _ _ | refine Below.alloc ?_ (by simp) _ | apply Below.drew))) d1, keep (show Below wo.heap.size wo _ from (by repeat (first | exact Below.refl _ _ | refine Below.alloc ?_ (by simp) _ | apply Below.drew))) d2⟩)
        ((refine step_app rowI (by rfl) _ _ (by rfl) sb _ k (vI (L.take k)) (by rfl) (own_below HO.out (by repeat (first | exact Below.refl _ _ | refine Below.alloc ?_ (by simp) _ | apply Below.drew))) ⟨wo.heap.size, 0, none⟩ 1 1 [_] (by rfl) (by rfl) (cell_one_at (by simp) _ _) (by intro u hu; simp only [List.mem_singleton] at hu; subst hu; rfl) (by decide) (by omega) (by have := HB.out.size; have := HSB.out; simp <;> omega) ?_
          intro g' cap' wB hownB hgrow hat hltB
          have hne1 : some g1 ≠ Value.ownBlock (.slice Av k cv) := fun e => (HAP.out _ e.symm).1 rfl
          have hne2 : some g2 ≠ Value.ownBlock (.slice Av k cv) := fun e => (HAP.out _ e.symm).2 rfl
          have hS := And.intro (hgrow.cell (keep (show Below wo.heap.size wo _ from (by repeat (first | exact Below.refl _ _ | refine Below.alloc ?_ (by simp) _ | apply Below.drew))) d1) hne1) (hgrow.cell (keep (show Below wo.heap.size wo _ from (by repeat (first | exact Below.refl _ _ | refine Below.alloc ?_ (by simp) _ | apply Below.drew))) d2) hne2)))
      all_goals
        (try rw [HWR.out] at hownB)
        go_wp2
        go_roundw
        case rel =>
          have hgs := hgrow.size
          simp at hgs
          refine ⟨k + 1, some ⟨g', 0, none⟩, cap', by omega, by go_num, rfl, ?_, fun z hz => ?_, (HI1.out.below (show Below wo.heap.size wo _ from (by repeat (first | exact Below.refl _ _ | refine Below.alloc ?_ (by simp) _ | apply Below.drew)))).grown hgrow hne1, (HI2.out.below (show Below wo.heap.size wo _ from (by repeat (first | exact Below.refl _ _ | refine Below.alloc ?_ (by simp) _ | apply Below.drew)))).grown hgrow hne2, by omega, (HB.out.trans ((show Below wo.heap.size wo _ from (by repeat (first | exact Below.refl _ _ | refine Below.alloc ?_ (by simp) _ | apply Below.drew))).mono HB.out.size)).grown hgrow (by have := HB.out.size; simp <;> omega) (fun j hj => by have := (HO.out.lt j hj).1; have := HSB.out; omega)⟩
          · show World.ownsRow _ _ _ _ _ _ (vI _)
            rw [HSN.out, vI_append]; exact hownB
          · simp only [Value.ownBlock] at hz
            cases hz
            rcases hat with h1 | h1
            · exact HAP.out _ h1
            · simp at h1; omega
        case measure => simp [intOf]; omega
    · obtain rfl : k = m := by omega
      have hcl : ∀ Q : Prop, ((¬ (k : Int) < (n1 : Int)) → Q) → (((k : Int) < (n1 : Int)) → (¬ (k : Int) < (n2 : Int)) → Q) → Q := fun Q f g => by
        by_cases h : (k : Int) < (n1 : Int)
        · exact g h (by omega)
        · exact f h
      have HRES := Lib.hid (show NewI w L (.returned (.slice Av k cv)) wo from by
        have hl2 := HLN.out
        have h1 := HO.out
        rw [List.take_of_length_le (by omega)] at h1
        exact ⟨Av, cv, by rw [hl2], by rw [hl2, HSB.out]; exact h1, HB.out⟩)
      apply hcl
      · intro hq1
        clear hcl
        go_wp2
        go_ret
        exact HRES.out
      · intro hq1 hq2
        clear hcl
        go_wp2
        go_ret
        exact HRES.out

set_option maxRecDepth 100000 in
set_option maxHeartbeats 8000000 in
theorem l12Counts_then (x y : Tm) (wf : Wf (.two 1 x y))
    (ihx : ∀ (A : Option Addr) (n c : Nat) (w : World), MarksAt w A n (marksOf x) → n ≤ c → n ≤ 11 → Calls Try.prog 71 #[.slice A n c] w (NewI w (cntL x)))
    (ihy : ∀ (A : Option Addr) (n c : Nat) (w : World), MarksAt w A n (marksOf y) → n ≤ c → n ≤ 11 → Calls Try.prog 71 #[.slice A n c] w (NewI w (cntL y)))
    (A : Option Addr) (n c : Nat) (w : World) (hm : MarksAt w A n (marksOf (.two 1 x y))) (hc : n ≤ c) (hn : n ≤ 11) : Calls Try.prog 71 #[.slice A n c] w (NewI w (cntL (.two 1 x y))) := by
  obtain ⟨b, off, rfl⟩ := hm.some (by rw [← hm.len]; exact marks_pos _)
  obtain ⟨hx, hy, rfl, c0, c1, c2⟩ := MarksAt.two hm
  have HAH := Lib.hid (show Ahead (marksOf (.two 1 x y)) (marksOf x) ((marksOf x).length + (marksOf y).length) 1 from ⟨[y], (by intro z hz; obtain rfl := List.mem_singleton.1 hz; exact wf.2.2), rfl, by rw [allMarks_one, marksOf]; exact List.take_left' (by simp)⟩)
  have hbx := lenS_bd wf.2.1
  have hby := lenS_bd wf.2.2
  have hsx := stepsT_le x
  have hsy := stepsT_le y
  have hq0 := marks_pos y
  have hp0 := marks_pos x
  have HSM := Lib.hid (cnt_small wf (by rw [marksOf, List.length_append, List.length_append, List.length_singleton]; omega))
  have hl1 := cntL_len x
  have hl2 := cntL_len y
  have HG1 := Lib.hid (fun j => cntL_get (t := x) (j := j))
  have HG2 := Lib.hid (fun j => cntL_get (t := y) (j := j))
  obtain ⟨p, HP⟩ : ∃ q, Hid ((marksOf x).length = q) := ⟨_, rfl⟩
  obtain ⟨q, HQ⟩ : ∃ q, Hid ((marksOf y).length = q) := ⟨_, rfl⟩
  rw [HP.out] at hx hy c0 c1 c2 hc hn hsx HAH hp0 ⊢
  rw [HQ.out] at hy c0 c1 c2 hc hn hsy hq0 HAH ⊢
  rw [HP.out, HQ.out] at hm
  have HQP := Lib.hid (show p + q - p = q by omega)
  obtain ⟨r, HRR⟩ : ∃ r, Hid (p + q = r) := ⟨_, rfl⟩
  rw [HRR.out] at c0 c1 c2 hc hn HAH hm HQP ⊢
  have hr1 : p + q ≤ r := by rw [← HRR.out]; exact Nat.le_refl _
  have hr2 : r ≤ p + q := by rw [← HRR.out]; exact Nat.le_refl _
  obtain ⟨hi1, HH1⟩ : ∃ z, Hid ((lenS x).2.1 = z) := ⟨_, rfl⟩
  obtain ⟨hi2, HH2⟩ : ∃ z, Hid ((lenS y).2.1 = z) := ⟨_, rfl⟩
  rw [HH1.out] at hbx hl1 HG1
  rw [HH2.out] at hby hl2 HG2
  obtain ⟨-, -, hbx0, hbx1⟩ := hbx
  obtain ⟨-, -, hby0, hby1⟩ := hby
  obtain ⟨L1, HL1⟩ : ∃ z, Hid (cntL x = z) := ⟨_, rfl⟩
  obtain ⟨L2, HL2⟩ : ∃ z, Hid (cntL y = z) := ⟨_, rfl⟩
  rw [HL1.out] at hl1 ihx HG1
  rw [HL2.out] at hl2 ihy HG2
  have IHX := Lib.hid ihx
  have IHY := Lib.hid ihy
  have hp1 : hi1 ≤ 209 := by omega
  have hp2 : hi2 ≤ 209 := by omega
  obtain ⟨n1, HN1⟩ : ∃ z, Hid (L1.length = z) := ⟨_, rfl⟩
  obtain ⟨n2, HN2⟩ : ∃ z, Hid (L2.length = z) := ⟨_, rfl⟩
  rw [HN1.out] at hl1
  rw [HN2.out] at hl2
  have hn1 : (n1 : Int) = hi1 + 1 := by omega
  have hn2 : (n2 : Int) = hi2 + 1 := by omega
  have HN1' := Lib.hid hn1
  have HN2' := Lib.hid hn2
  have h1p : 0 < n1 := by omega
  have h2p : 0 < n2 := by omega
  have h1m : n1 ≤ 210 := by omega
  have h2m : n2 ≤ 210 := by omega
  simp only at c0 c1 c2
  have hcp : ¬ c = p := by omega
  obtain ⟨N, HNN⟩ : ∃ z, Hid (n1 + n2 - 1 = z) := ⟨_, rfl⟩
  have hNI : (N : Int) = hi1 + hi2 + 1 := by rw [← HNN.out]; omega
  have hNle : N ≤ 420 := by rw [← HNN.out]; omega
  have hNlt : ∀ i j : Nat, i < n1 → j < n2 → i + j < N := fun i j hi hj => by rw [← HNN.out]; omega
  have HNL := Lib.hid hNlt
  have hmax : max ((n1 : Int) + (n2 : Int) - 1) 0 = (N : Int) := by rw [← HNN.out]; omega
  have HEND := Lib.hid (show cvL x y n1 0 N = cntL (.two 1 x y) from cvL_end wf.2.1 wf.2.2 n1 N (by rw [HH1.out]; omega) (by rw [HH1.out, HH2.out]; exact hNI))
  have HROW := Lib.hid (fun i => cvL_row (a := x) wf.2.2 i n2 N (by rw [HH2.out]; omega))
  have HBD := Lib.hid (fun i j n => cvP_le (b := y) wf.2.1 i j n)
  rw [← HEND.out]
  have hmk : ∀ W : World, (Instr.makeSlice 37 (.int .i64 (N : Int)) (.int .i64 (N : Int))).run Try.prog W = .ok (.slice (some ⟨W.heap.size, 0, none⟩) N N) (W.alloc (.cells (madeCells #[.int .i64 0] N) 3)) :=
    fun W => run_make_row' _ _ _ 8 Try.underlying37 int_info rfl _ _ N (by omega) (by omega) W
  clear hNI hNlt
  have hI1 : (0 : Int) ≤ (p : Int) := by omega
  have hI2 : (p : Int) ≤ (c : Int) := by omega
  have hI3 : (p : Int) ≤ (r : Int) := by omega
  have hI4 : (r : Int) ≤ (c : Int) := by omega
  have hI5 : (r : Int) < (r : Int) + 1 := by omega
  have hI6 : (r : Int) + 1 ≤ (c : Int) := by omega
  have hI7 : (0 : Int) ≤ (r : Int) := by omega
  obtain ⟨w0, HW0⟩ : ∃ q, Hid ((w.alloc (.cells #[.int .i64 1, .int .i64 0, .int .i64 0] 27)).alloc (.cells #[] 3) = q) := ⟨_, rfl⟩
  have HB0 := Lib.hid (show Below w.heap.size w w0 from HW0.out ▸ ((Below.refl w.heap.size w).alloc (Nat.le_refl _) _).alloc (by simp) _)
  have s0 : w0.cell? ⟨w.heap.size, 0, none⟩ = some (.int .i64 1) := HW0.out ▸ keep (a := ⟨w.heap.size, 0, none⟩) ((Below.refl _ _).alloc (Nat.le_refl _) _) (by simp [go_sem])
  have HOE := Lib.hid (show OwnI w0 w.heap.size (some ⟨w.heap.size + 1, 0, none⟩) 0 0 [] from HW0.out ▸ own_lit_at (by simp) w.heap.size _ 1 #[] 0 (by simp) (by decide) rfl)
  have HZ := Lib.hid (show w0.heap.size = w.heap.size + 2 from HW0.out ▸ by simp)
  have HM := Lib.hid (hm.below HB0.out)
  have HX := Lib.hid (hx.below HB0.out)
  have HY := Lib.hid (hy.below HB0.out)
  clear ihx ihy hm hx hy hbx1 hby1 hsx hsy hl1 hl2 hn1 hn2
  go_enter Try.func71, Try.ntmps71
  go_wp2_with (fail)
  rw [HW0.out]
  obtain ⟨sb, HSB⟩ : ∃ q, Hid (w.heap.size = q) := ⟨_, rfl⟩
  rw [HSB.out] at s0 HOE HZ ⊢
  refine kV (l11Starts_at (some ⟨b, off, none⟩) (r + 1) c r _ (marksOf x) _ _ HM.out (by omega) (by omega) HAH.out ?_) ?_
  · push_cast; omega
  rw [HP.out]
  go_wp2_with (fail)
  refine kNewI (IHX.out (some ⟨b, off, none⟩) p c _ HX.out (by omega) (by omega)) ?_
  intro A1 c1' w1 hown1 hb1
  have HB1 := Lib.hid (HB0.out.trans (hb1.mono HB0.out.size))
  have HO1 := Lib.hid hown1
  have HE1 := Lib.hid (own_below HOE.out hb1)
  have hs1 : w0.heap.size ≤ w1.heap.size := hb1.size
  replace s0 := keep hb1 s0
  have HY1 := Lib.hid (HY.out.below hb1)
  clear hb1 hown1
  go_wp2_with (fail)
  (try rw [HQP.out])
  refine kNewI (IHY.out (some ⟨b, off + p * 3, none⟩) q (c - p) _ HY1.out (by omega) (by omega)) ?_
  intro A2 c2' w2 hown2 hb2
  have HB2 := Lib.hid (HB1.out.trans (hb2.mono HB1.out.size))
  have HO1' := Lib.hid (own_below HO1.out hb2)
  have HE2 := Lib.hid (own_below HE1.out hb2)
  have HO2 := Lib.hid hown2
  replace s0 := keep hb2 s0
  have hs2 : w1.heap.size ≤ w2.heap.size := hb2.size
  rw [HN1.out] at HO1 HO1' ⊢
  rw [HN2.out] at HO2 ⊢
  obtain ⟨g1, rfl, hg1a, hg1⟩ := own_cellsD HO1'.out h1p
  obtain ⟨g2, rfl, hg2a, hg2⟩ := own_cellsD HO2.out h2p
  have HA1 := Lib.hid (OwnI.at_ HO1'.out)
  have HA2 := Lib.hid (OwnI.at_ HO2.out)
  clear hb2 hown2
  have hw2s : w2.heap.size < w2.heap.size + 1 := Nat.lt_succ_self _
  obtain ⟨w3, HW3⟩ : ∃ z, Hid (w2.alloc (.cells (madeCells #[.int .i64 0] N) 3) = z) := ⟨_, rfl⟩
  have HB3 := Lib.hid (show Below w.heap.size w w3 from HW3.out ▸ HB2.out.alloc HB2.out.size _)
  have hb23 : Below w2.heap.size w2 w3 := HW3.out ▸ (Below.refl _ _).alloc (Nat.le_refl _) _
  have HA13 := Lib.hid (HA1.out.below hb23)
  have HA23 := Lib.hid (HA2.out.below hb23)
  have HR3 := Lib.hid (show OwnI w3 w2.heap.size (some ⟨w2.heap.size, 0, none⟩) N N (cvL x y 0 0 N) from HW3.out ▸ by
    have h1 := own_lit w2 w2.heap.size 3 1 (madeCells #[.int .i64 0] N) N (Nat.le_refl _) (by unfold maxLen; omega) (by rw [size_madeCells]; omega)
    rw [toList_madeCells_one] at h1
    show World.ownsRow _ _ _ _ _ _ (vI _)
    have e : vI (cvL x y 0 0 N) = List.replicate N (.int .i64 0) := by rw [cvL_zero]; simp [vI]
    rw [e]; exact h1)
  clear hb23
  go_wp2_with (fail)
  rw [HW3.out]
  obtain ⟨bm, HBM⟩ : ∃ z, Hid (w2.heap.size = z) := ⟨_, rfl⟩
  rw [HBM.out] at HR3 hg1 hg2 ⊢
  go_loopw [13, 14] (fun i _ wr => ∃ k : Nat, k ≤ n1 ∧ i = .int .i64 k ∧ OwnI wr bm (some ⟨bm, 0, none⟩) N N (cvL x y k 0 N) ∧ IntsAt wr (some ⟨g1, 0, none⟩) n1 L1 ∧ IntsAt wr (some ⟨g2, 0, none⟩) n2 L2 ∧ Below w.heap.size w wr) (fun i _ _ => n1 - (intOf i).toNat)
  case atStart => exact ⟨0, Nat.zero_le _, rfl, HR3.out, HA13.out, HA23.out, HB3.out⟩
  case round =>
    obtain ⟨wo, rfl⟩ : ∃ wo : World, wo = wr := ⟨_, rfl⟩
    obtain ⟨k, hk, rfl, hown, ha1, ha2, hb⟩ := hrel
    have HO := Lib.hid hown
    have HB := Lib.hid hb
    have HI1 := Lib.hid ha1
    have HI2 := Lib.hid ha2
    clear hown hb ha1 ha2
    by_cases hlt : k < n1
    · have hkI0 : (0 : Int) ≤ (k : Int) := by omega
      have hkI1 : (k : Int) < (n1 : Int) := by omega
      go_wp2_with (fail)
      go_loopw [14] (fun j wr => ∃ l : Nat, l ≤ n2 ∧ j = .int .i64 l ∧ OwnI wr bm (some ⟨bm, 0, none⟩) N N (cvL x y k l N) ∧ IntsAt wr (some ⟨g1, 0, none⟩) n1 L1 ∧ IntsAt wr (some ⟨g2, 0, none⟩) n2 L2 ∧ Below w.heap.size w wr) (fun j _ => n2 - (intOf j).toNat)
      case atStart => exact ⟨0, Nat.zero_le _, rfl, HO.out, HI1.out, HI2.out, HB.out⟩
      case round =>
        obtain ⟨wi, rfl⟩ : ∃ wi : World, wi = wr := ⟨_, rfl⟩
        obtain ⟨l, hl, rfl, hown, ha1, ha2, hb⟩ := hrel
        have HOI := Lib.hid hown
        have HBI := Lib.hid hb
        have HJ1 := Lib.hid ha1
        have HJ2 := Lib.hid ha2
        clear hown hb ha1 ha2
        by_cases hll : l < n2
        · have hs := HNL.out k l hlt hll
          obtain ⟨b1, o1, e1, hd1⟩ := HJ1.out.cells h1p
          cases e1
          have d1 := hd1 k hlt
          obtain ⟨b2, o2, e2, hd2⟩ := HJ2.out.cells h2p
          cases e2
          have d2 := hd2 l hll
          obtain ⟨b3, o3, e3, hd3⟩ := (OwnI.at_ HOI.out).cells (by omega)
          cases e3
          have d3 := hd3 (k + l) hs
          rw [Nat.zero_add] at d1 d2 d3
          rw [cvL_get x y k l hs] at d3
          rw [HG1.out k (by have := HN1'.out; omega)] at d1
          rw [HG2.out l (by have := HN2'.out; omega)] at d2
          have f3 := HOI.out.frozenAt (k + l)
          have hbd := Nat.le_trans (HBD.out k (l + 1) ((k + l : Nat) : Int)) (HSM.out _)
          rw [cvP_step, if_pos (by push_cast; rfl)] at hbd
          have HST := Lib.hid (cvL_step x y k l N)
          obtain ⟨x0, HX0⟩ : ∃ z : Int, Hid ((cntT x (k : Int) : Int) = z) := ⟨_, rfl⟩
          obtain ⟨y0, HY0⟩ : ∃ z : Int, Hid ((cntT y (l : Int) : Int) = z) := ⟨_, rfl⟩
          obtain ⟨z0, HZ0⟩ : ∃ z : Int, Hid ((cvP x y k l ((k + l : Nat) : Int) : Int) = z) := ⟨_, rfl⟩
          have hb0 : 0 ≤ x0 * y0 ∧ 0 ≤ z0 ∧ z0 + x0 * y0 ≤ 64000000 := by
            rw [← HX0.out, ← HY0.out, ← HZ0.out, ← Int.natCast_mul]
            omega
          obtain ⟨hb1', hb2', hb3'⟩ := hb0
          rw [HX0.out] at d1 HST
          rw [HY0.out] at d2 HST
          rw [HZ0.out] at d3 HST
          have hlI0 : (0 : Int) ≤ (l : Int) := by omega
          have hlI1 : (l : Int) < (n2 : Int) := by omega
          have hsI : (k : Int) + (l : Int) < (N : Int) := by omega
          clear hd1 hd2 hd3 hbd
          go_wp2_with (fail)
          go_region
          all_goals
            go_wp2
            go_roundw
            case rel =>
              have h1 := own_set HOI.out (k + l) (.int .i64 (z0 + x0 * y0))
              have hg := (HOI.out.stored (k + l) (.int .i64 (z0 + x0 * y0))).2
              have e : vI (cvL x y k (l + 1) N) = (vI (cvL x y k l N)).set (k + l) (.int .i64 (z0 + x0 * y0)) := by rw [HST.out]; simp [vI, List.map_set]
              have h3 := HB2.out.size
              rw [HBM.out] at h3
              refine ⟨l + 1, by omega, by go_num, ?_, (HJ1.out.grown hg (fun e => by injection e; omega)).drewN 1, (HJ2.out.grown hg (fun e => by injection e; omega)).drewN 1, (HBI.out.grown hg HBI.out.size (fun j hj => by cases hj; exact h3)).drew⟩
              show World.ownsRow _ _ _ _ _ _ (vI _)
              rw [e]; exact h1
            case measure => simp [intOf]; omega
        · obtain rfl : l = n2 := by omega
          go_wp2
          go_roundw
          case rel => exact ⟨k + 1, by omega, by go_num, by rw [← HROW.out]; exact HOI.out, HJ1.out, HJ2.out, HBI.out⟩
          case measure => simp [intOf]; omega
    · obtain rfl : k = n1 := by omega
      go_wp2
      go_ret
      have hll : (cvL x y k 0 N).length = N := cvL_len ..
      have h3 := HB2.out.size
      rw [HBM.out] at h3
      exact ⟨some ⟨bm, 0, none⟩, N, by rw [hll]; first | (simp; done) | rfl, by rw [hll]; exact own_base HO.out h3, HB.out⟩

theorem l12Counts_any (t : Tm) : Wf t → ∀ (A : Option Addr) (n c : Nat) (w : World), MarksAt w A n (marksOf t) → n ≤ c → n ≤ 11 → Calls Try.prog 71 #[.slice A n c] w (NewI w (cntL t)) := by
  induction t with
  | step l h => intro wf A n c w hm hc _; exact l12Counts_step l h wf A n c w hm hc
  | one a h ih => intro wf; exact l12Counts_one a h wf (ih wf.1)
  | two k x y ihx ihy =>
    intro wf
    rcases wf.1 with rfl | rfl
    · exact l12Counts_then x y wf (ihx wf.2.1) (ihy wf.2.2)
    · exact l12Counts_both x y wf (ihx wf.2.1) (ihy wf.2.2)

end Go.Proofs.Ytookhelfbnhadaa
