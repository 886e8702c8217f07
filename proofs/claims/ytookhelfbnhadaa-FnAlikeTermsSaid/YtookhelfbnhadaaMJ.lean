/- (*part).trimmed. -/
import Derived.Test.YtookhelfbnhadaaMG
import Derived.Deep.RegionLaw
namespace Go.Proofs.Ytookhelfbnhadaa
open Go.RowKit

theorem kid_len {t k : Tm} (h : k ∈ kidsT t) : (marksOf k).length ≤ (marksOf t).length := by
  cases t with
  | step l hh => simp [kidsT] at h
  | two kk a b =>
    simp [kidsT] at h
    rcases h with rfl | rfl
    all_goals simp only [marksOf, List.length_append, List.length_singleton]; omega
  | one a hh =>
    simp [kidsT] at h
    subst h
    simp only [marksOf, List.length_append, List.length_singleton]; omega

set_option maxRecDepth 100000 in
set_option maxHeartbeats 40000000 in
theorem trimmed_any (t : Tm) : Wf t → (marksOf t).length ≤ 1000 → ∀ (a : Addr) (w : World), Pt TT w t a → Calls Try.prog 67 #[.pointer (some a)] w (NewPt w (trimT t)) := by
  induction t using kids_ind with
  | h t ih =>
  intro wf hlen a w hp
  obtain ⟨b, off, A, c, ps, rfl, _, c0, c1, c2, c3, hps, hpl, hk⟩ := hp.open
  have HOK := Lib.hid (markT_ok wf)
  have HAR := Lib.hid (markT_arity wf)
  have hp2 : ps.length ≤ 2 := by rw [hpl]; exact kidsT_len t
  have hbl : b < w.heap.size := cell_lt c0
  obtain ⟨m, HM⟩ : ∃ q, Hid (markT t = q) := ⟨_, rfl⟩
  rw [HM.out] at c0 c1 c2 HOK HAR
  obtain ⟨m0, m1, m2⟩ := m
  simp only at c0 c1 c2
  have HK := Lib.hid hk
  have HPL := Lib.hid hpl
  have IH := Lib.hid (fun k (hk : k < (kidsT t).length) => ih ((kidsT t).getD k dflt) (by simp [List.getD, hk]) (wf.kid (by simp [List.getD, hk])) (Nat.le_trans (kid_len (by simp [List.getD, hk])) hlen))
  clear ih hk hpl hp
  have hB0 : Below w.heap.size w (w.alloc (.cells #[.int .i64 m0, .int .i64 m1, .int .i64 m2, .slice none 0 0] 82)) := (Below.refl w.heap.size w).alloc (Nat.le_refl _) _
  have HN := Lib.hid (Node.new w 82 54 (m0, m1, m2))
  have HB0 := Lib.hid hB0
  clear hB0
  go_enter Try.func67, Try.ntmps67
  go_wp2
  go_loopw [20] (fun i wr => ∃ (k : Nat) (Av : Option Addr) (cv : Nat) (qs : List Addr), k ≤ ps.length ∧ i = .int .i64 k ∧ Node wr w.heap.size 82 54 (m0, m1, m2) Av k cv (((kidsT t).map trimT).take k) qs ∧ Below w.heap.size w wr) (fun i _ => ps.length - (intOf i).toNat)
  case atStart => exact ⟨0, none, 0, [], Nat.zero_le _, rfl, HN.out, HB0.out⟩
  case round =>
    obtain ⟨wo, rfl⟩ : ∃ wo : World, wo = wr := ⟨_, rfl⟩
    obtain ⟨k, Av, cv, qs, hk, rfl, hno, hb⟩ := hrel
    have HNO := Lib.hid hno
    have HB := Lib.hid hb
    clear hno hb
    have e3 : wo.cell? ⟨w.heap.size, 3, none⟩ = some (.slice Av k cv) := (HNO.out.blk.cell 3).trans rfl
    by_cases hlt : k < ps.length
    · have HKL := Lib.hid (show k < (kidsT t).length by rw [← HPL.out]; exact hlt)
      obtain ⟨kb, ko, rfl, _, hc⟩ := (hps.below HB.out).cells (by omega)
      have k0 := hc k hlt
      have HPK := Lib.hid ((HK.out k hlt).below HB.out)
      obtain ⟨ks, HKS⟩ : ∃ q, Hid ((kidsT t).getD k dflt = q) := ⟨_, rfl⟩
      have IHK := Lib.hid (IH.out k HKL.out)
      rw [HKS.out] at HPK IHK
      obtain ⟨pk, HPKN⟩ : ∃ q, Hid (ps.getD k a0 = q) := ⟨_, rfl⟩
      rw [HPKN.out] at k0 HPK
      have hwl : w.heap.size < wo.heap.size := HNO.out.blk.lt
      clear hc
      go_wp2_with (fail)
      go_region_law
        (first
          | (go_simp; go_at_call 67; refine kNewPt (IHK.out pk _ (HPK.out.below (by repeat (first | exact Below.refl _ _ | refine Below.alloc ?_ (by simp) _ | apply Below.drew)))) ?_; intro aN wA hpA hbA; have e3A := keep hbA e3; have hwA : w.heap.size < wA.heap.size := cell_lt e3A)
          | (refine step_app rowP (by rfl) _ _ (by rfl) (w.heap.size + 1) _ k (vP qs) (by rfl) (own_below (own_below HNO.out.own ((Below.refl wo.heap.size wo).drew.trans hbA)) (by repeat (first | exact Below.refl _ _ | refine Below.alloc ?_ (by simp) _ | apply Below.drew))) ⟨wA.heap.size, 0, none⟩ 1 1 (vP [aN]) (by rfl) rfl (cell_one_at (by simp) _ _) (vP_one _) (by decide) (by omega) (by have := hbA.size; simp at *; omega) ?_
             intro g' cap' wB hownB hgrow hat hltB
             have HBLK := Lib.hid (HNO.out.blkB ((Below.refl wo.heap.size wo).drew.trans hbA) ((Below.refl _ _).alloc (Nat.le_refl _) _) hgrow)
             have hS := And.intro (show wB.cell? ⟨w.heap.size, 3, none⟩ = some (.slice Av k cv) from (HBLK.out.cell 3).trans rfl) (HBLK.out.frozen 3)
             have eS := hS.1
             have fS := hS.2))
      all_goals
        have hbA' : Below wo.heap.size wo wA := (Below.refl wo.heap.size wo).drew.trans hbA
        have HST := Lib.hid (HNO.out.step hbA' hpA (fun b hb => hb) ((Below.refl _ _).alloc (Nat.le_refl _) _) hownB hgrow (hat.imp id (fun h => Nat.le_of_eq h.symm)))
        have HBW := Lib.hid (((((HB.out.trans (hbA'.mono HB.out.size)).alloc (Nat.le_trans HB.out.size hbA'.size) _).grown hgrow (by have := HB.out.size; have := hbA'.size; simp; omega) (fun k hk => by have := (HNO.out.own.lt k hk).1; omega)).setCell (p := ⟨w.heap.size, 3, none⟩) (Nat.le_refl _) (.slice (some ⟨g', 0, none⟩) (k + 1) cap')))
        clear hgrow hat hownB
        go_wp2
        go_roundw
        case rel =>
          refine ⟨k + 1, some ⟨g', 0, none⟩, cap', qs ++ [aN], by omega, by go_num, ?_, HBW.out⟩
          have e : ((kidsT t).map trimT).take (k + 1) = ((kidsT t).map trimT).take k ++ [trimT ks] := by
            have h1 : k < (kidsT t).length := HKL.out
            rw [List.take_succ_eq_append_getElem (by simpa using h1)]
            have h2 := HKS.out
            simp only [List.getD, List.getElem?_eq_getElem h1, Option.getD_some] at h2
            simp [h2]
          rw [e]
          exact HST.out
        case measure => simp [intOf]; omega
    · obtain rfl : k = ps.length := by omega
      have hts : ((kidsT t).map trimT).take ps.length = (kidsT t).map trimT := List.take_of_length_le (by simp [HPL.out])
      have HD := Lib.hid HNO.out
      rw [hts] at HD
      replace c0 := keep HB.out c0
      replace c1 := keep HB.out c1
      replace c2 := keep HB.out c2
      clear hts hlt hk
      have HNL := Lib.hid (fun (x : Tm) (h3 : Wf x) => lengths_any x h3)
      cases t with
      | step l hh =>
        have hm0 : m0 = 0 := by have := HM.out; simp [markT] at this; exact this.1.symm
        have HP := Lib.hid (show Pt (fun b => w.heap.size ≤ b) wo (trimT (.step l hh)) ⟨w.heap.size, 0, none⟩ by
          have h1 := HD.out.done (D := fun b => w.heap.size ≤ b) (fun b hb => hb) HOK.out (by rw [HAR.out, HPL.out])
          have h2 := HM.out
          rw [← h2] at h1
          exact h1)
        subst hm0
        go_wp2
        go_ret
        exact ⟨_, rfl, HP.out, HB.out⟩
      | two kk x y =>
        have hm0 : m0 = 1 ∨ m0 = 2 := by have := HM.out; simp [markT] at this; have h2 := wf.1; rw [this.1] at h2; exact h2
        have HP := Lib.hid (show Pt (fun b => w.heap.size ≤ b) wo (trimT (.two kk x y)) ⟨w.heap.size, 0, none⟩ by
          have h1 := HD.out.done (D := fun b => w.heap.size ≤ b) (fun b hb => hb) HOK.out (by rw [HAR.out, HPL.out])
          have h2 := HM.out
          rw [← h2] at h1
          exact h1)
        rcases hm0 with rfl | rfl
        all_goals
          go_wp2
          go_ret
          exact ⟨_, rfl, HP.out, HB.out⟩
      | one x hh =>
        have hm0 : m0 = 3 ∧ m1 = 0 ∧ m2 = hh := by have := HM.out; simp [markT] at this; exact ⟨this.1.symm, this.2.1.symm, this.2.2.symm⟩
        obtain ⟨rfl, rfl, rfl⟩ := hm0
        have hp1 : ps.length = 1 := HPL.out
        rw [hp1] at HD e3
        obtain ⟨q0, rfl⟩ : ∃ q0, qs = [q0] := by
          have h1 := HD.out.qlen
          match qs, h1 with
          | [q0], _ => exact ⟨q0, rfl⟩
        obtain ⟨g, rfl, hg0, hg1⟩ := own_cellsD HD.out.own (by decide)
        have hq0 := HD.out.own.cellAt 0 (by decide)
        have eq0 : (vP [q0])[0]? = some (.pointer (some q0)) := rfl
        rw [eq0] at hq0
        have HK0 := Lib.hid (HD.out.kids 0 (by decide))
        have hk0 : Pt (fun b => w.heap.size < b ∧ some b ≠ (Value.slice (some ⟨g, 0, none⟩) 1 cv).ownBlock) wo (trimT x) q0 := HK0.out
        have HKT := Lib.hid hk0.tt
        have HWX := Lib.hid (trimT_wf wf.1)
        have heq := lenI_eq HWX.out
        have HPN := Lib.hid (show ∀ W, Pt (fun b => w.heap.size < b ∧ some b ≠ (Value.slice (some ⟨g, 0, none⟩) 1 cv).ownBlock) W (trimT x) q0 → Pt (fun b => w.heap.size ≤ b) W (trimT x) q0 from fun W h => h.weaken fun b _ hb => Nat.le_of_lt hb.1)
        have HPW := Lib.hid (hk0.weaken (D' := fun b => w.heap.size ≤ b) fun b _ hb => Nat.le_of_lt hb.1)
        have HPD := Lib.hid (show Pt (fun b => w.heap.size ≤ b) wo (.one (trimT x) m2) ⟨w.heap.size, 0, none⟩ from
          HD.out.done (D := fun b => w.heap.size ≤ b) (fun b hb => hb) HOK.out (by rw [HAR.out]; rfl))
        have HLN := Lib.hid (lengths_any (trimT x) HWX.out (by have h1 := stepsT_le (trimT x); have h2 := trimT_marks x; have h3 : (marksOf x).length ≤ (marksOf (.one x m2)).length := kid_len (by simp [kidsT]); omega) q0)
        obtain ⟨L', HL'⟩ : ∃ q, Hid (lenI (trimT x) = q) := ⟨_, rfl⟩
        rw [HL'.out] at HLN
        obtain ⟨lo, hi, ok⟩ := L'
        have HCUT := Lib.hid (show (ok = true ∧ hi ≤ m2) → trimT (.one x m2) = trimT x from fun hc => by
          have h1 := heq.1
          rw [HL'.out] at h1
          have h2 := heq.2 (by rw [← h1]; exact hc.1)
          rw [HL'.out] at h2
          simp only [trimT]
          rw [if_pos (by rw [← h2]; exact hc)])
        have HNOT := Lib.hid (show ¬ (ok = true ∧ hi ≤ m2) → trimT (.one x m2) = .one (trimT x) m2 from fun hc => by
          simp only [trimT]
          rw [if_neg (fun hh => hc (by
            have h2 := heq.2 hh.1
            rw [HL'.out] at h2
            rw [← h2] at hh
            exact hh))])
        clear heq hk0
        by_cases hcut : ok = true ∧ hi ≤ m2
        · have HF := Lib.hid (HCUT.out hcut)
          obtain ⟨hok, hhi⟩ := hcut
          subst hok
          go_wp2_with (fail)
          refine kW (HLN.out _ HKT.out) ?_
          intro m
          simp only [lenV]
          go_wp2
          go_ret
          exact ⟨_, rfl, by rw [HF.out]; exact HPW.out.drewN _, below_drewN HB.out _⟩
        · have HF := Lib.hid (HNOT.out hcut)
          cases ok with
          | true =>
            have hhi : ¬ hi ≤ m2 := fun hh => hcut ⟨rfl, hh⟩
            clear hcut
            go_wp2_with (fail)
            refine kW (HLN.out _ HKT.out) ?_
            intro m
            simp only [lenV]
            go_wp2
            go_ret
            exact ⟨_, rfl, by rw [HF.out]; exact HPD.out.drewN _, below_drewN HB.out _⟩
          | false =>
            clear hcut
            go_wp2_with (fail)
            refine kW (HLN.out _ HKT.out) ?_
            intro m
            simp only [lenV]
            go_wp2
            go_ret
            exact ⟨_, rfl, by rw [HF.out]; exact HPD.out.drewN _, below_drewN HB.out _⟩

noncomputable def TrimF (xs : List Mk) : List Mk := onT [] (fun x => marksOf (trimT x)) xs
theorem trimF_len (xs : List Mk) : (TrimF xs).length ≤ xs.length := by
  by_cases h : TOk xs
  · obtain ⟨x, hx⟩ := h
    rw [TrimF, onT_pos hx, ← hx.2.1]; exact trimT_marks x
  · rw [TrimF, onT_neg h]; exact Nat.zero_le _

set_option maxHeartbeats 1000000 in
theorem sTrimTerm_any (A : Option Addr) (n c : Nat) (xs : List Mk) (w : World) (h : MarksAt w A n xs) (hn : n ≤ 1048576) (hc : n ≤ c) :
    Calls Try.prog 42 #[.slice A n c] w (NewM w (TrimF xs)) := by
  by_cases hT : TOk xs
  · obtain ⟨x, hx⟩ := hT
    have HX := Lib.hid (show TIs xs x from hx)
    rw [show TrimF xs = _ from onT_pos HX.out]
    clear hx
    go_enter Try.func42, Try.ntmps42
    go_wp2_with (fail)
    refine kB (sTermOk_any A n c xs _ h hn) ?_ (fun _ hne _ => absurd ⟨x, HX.out⟩ hne.out)
    intro w1 _ hb1
    go_wp2_with (fail)
    refine kNewM (l13Trim_any x HX.out.1 A n c _ (HX.out.at_ (h.below hb1)) hc (HX.out.len h)) ?_
    intro A' c' w2 hown hb2
    go_wp2
    go_ret
    exact ⟨A', c', rfl, own_base hown hb1.size, hb1.trans (hb2.mono hb1.size)⟩
  · rw [show TrimF xs = _ from onT_neg hT]
    have HT := Lib.hid hT
    clear hT
    go_enter Try.func42, Try.ntmps42
    go_wp2_with (fail)
    refine kB (sTermOk_any A n c xs _ h hn) (fun _ hne _ => absurd hne.out HT.out) ?_
    intro w1 hp hb1
    go_wp2
    go_ret
    exact ⟨some ⟨w1.heap.size, 0, none⟩, 0, rfl, OwnM.empty w1 _ hb1.size, hb1.alloc hb1.size _⟩

set_option maxHeartbeats 1000000 in
theorem iTrimTerm_any (A : Option Addr) (n c : Nat) (xs : List Mk) (w : World) (h : MarksAt w A n xs) (hn : n ≤ 1048576) :
    Calls Try.prog 41 #[.slice A n c] w (NewM w (TrimF xs)) := by
  by_cases hT : TOk xs
  · obtain ⟨x, hx⟩ := hT
    have HX := Lib.hid (show TIs xs x from hx)
    rw [show TrimF xs = _ from onT_pos HX.out]
    have hl0 : (marksOf x).length ≤ 11 := by rw [hx.2.1]; exact hx.2.2
    have hl : (marksOf (trimT x)).length ≤ 11 := Nat.le_trans (trimT_marks x) hl0
    clear hx
    go_enter Try.func41, Try.ntmps41
    go_wp2_with (fail)
    refine kBuild (iBuild_any A n c xs _ h hn) (fun _ hne _ => absurd ⟨x, HX.out⟩ hne.out) ?_
    intro w1 y a HY hb1 hpt
    obtain rfl : y = x := TIs.eq HY.out HX.out
    go_wp2_with (fail)
    refine kNewPt (trimmed_any y HX.out.1 (by omega) a _ hpt) ?_
    intro a2 w2 hp2 hb2
    go_wp2_with (fail)
    refine kNewM (marks_any (trimT y) (by omega) a2 _ hp2.tt) ?_
    intro A' c' w3 hown hb3
    have h12 := hb1.trans (hb2.mono hb1.size)
    go_wp2
    go_ret
    exact ⟨A', c', rfl, own_base hown h12.size, h12.trans (hb3.mono h12.size)⟩
  · rw [show TrimF xs = _ from onT_neg hT]
    have HT := Lib.hid hT
    clear hT
    go_enter Try.func41, Try.ntmps41
    go_wp2_with (fail)
    refine kBuild (iBuild_any A n c xs _ h hn) ?_ (fun _ x _ hne _ _ => absurd ⟨x, hne.out⟩ HT.out)
    intro w1 hp hb1
    go_wp2
    go_ret
    exact ⟨none, 0, rfl, OwnM.nil w1 _, hb1⟩

end Go.Proofs.Ytookhelfbnhadaa
