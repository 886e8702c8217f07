/- Terms without needless marks: plain facts; l13Trim, (*part).trimmed, both TrimTerm. -/
import Derived.Test.YtookhelfbnhadaaMC
import Derived.Deep.DrawnRows
namespace Go.Proofs.Ytookhelfbnhadaa
open Go.RowKit
attribute [local go_sem ↓] Go.wp_at_zero Go.wp_at_succ

def trimT : Tm → Tm
  | .step l h => .step l h
  | .two k a b => .two k (trimT a) (trimT b)
  | .one a h => if (lenS (trimT a)).2.2 = true ∧ (lenS (trimT a)).2.1 ≤ h then trimT a else .one (trimT a) h
theorem trimT_wf {t : Tm} (w : Wf t) : Wf (trimT t) := by
  induction t with
  | step l h => exact w
  | two k a b iha ihb => exact ⟨w.1, iha w.2.1, ihb w.2.2⟩
  | one a h ih =>
    simp only [trimT]
    split
    · exact ih w.1
    · exact ⟨ih w.1, w.2⟩
theorem trimT_marks (t : Tm) : (marksOf (trimT t)).length ≤ (marksOf t).length := by
  induction t with
  | step l h => exact Nat.le_refl _
  | two k a b iha ihb => simp only [trimT, marksOf, List.length_append, List.length_singleton]; omega
  | one a h ih =>
    simp only [trimT]
    split
    · simp only [marksOf, List.length_append, List.length_singleton]; omega
    · simp only [marksOf, List.length_append, List.length_singleton]; omega

set_option maxRecDepth 100000 in
set_option maxHeartbeats 40000000 in
theorem l13Trim_any (t : Tm) : Wf t → ∀ (A : Option Addr) (n c : Nat) (w : World), MarksAt w A n (marksOf t) → n ≤ c → n ≤ 11 →
    Calls Try.prog 68 #[.slice A n c] w (NewM w (marksOf (trimT t))) := by
  induction t with
  | step l h =>
    intro wf A n c w hm hc hn
    obtain ⟨b, off, rfl⟩ := hm.some (by rw [← hm.len]; simp [marksOf])
    have hm2 := hm
    obtain ⟨-, rfl, c0, c1, c2⟩ := MarksAt.one (x := []) hm2
    simp only [List.length_nil, Nat.zero_mul, Nat.add_zero, Nat.zero_add] at c0 c1 c2 hc hn ⊢
    have HM := Lib.hid hm
    clear hm hm2
    go_enter Try.func68, Try.ntmps68
    go_wp2_with (at_builtin; refine wpl_app rowM rfl _ _ (by rfl) w.heap.size _ 0 (v3 []) (by rfl) (OwnM.empty w _ (Nat.le_refl _)) ⟨b, off, none⟩ 1 c (v3 [(0, l, h)]) (by rfl) rfl (MarksAt.news (HM.out.below ((Below.refl _ _).alloc (Nat.le_refl _) _))) (v3_one _) (by decide) (by omega) (by simp) ?_; intro g' cap' wB hownB hgrow hat hltB)
    go_wp2
    go_ret
    exact ⟨some ⟨g', 0, none⟩, cap', rfl, hownB, ((Below.refl w.heap.size w).alloc (Nat.le_refl _) _).grown hgrow (by simp) (fun k hk => by cases hk; exact Nat.le_refl _)⟩
  | one a h ih =>
    intro wf A n c w hm hc hn
    obtain ⟨b, off, rfl⟩ := hm.some (by rw [← hm.len]; simp [marksOf])
    obtain ⟨ha, rfl, c0, c1, c2⟩ := MarksAt.one hm
    clear hm
    have IH := Lib.hid (ih wf.1)
    have HWF := Lib.hid (trimT_wf wf.1)
    have hlr := trimT_marks a
    have hlp := marks_pos (trimT a)
    have HLE := Lib.hid (l12Lengths_any (trimT a) HWF.out)
    simp only [trimT]
    obtain ⟨L, HL⟩ : ∃ q, Hid (lenS (trimT a) = q) := ⟨_, rfl⟩
    obtain ⟨lo, hi, ok⟩ := L
    rw [HL.out] at HLE ⊢
    simp only
    obtain ⟨p, HP⟩ : ∃ q, Hid ((marksOf a).length = q) := ⟨_, rfl⟩
    rw [HP.out] at ha c0 c1 c2 hc hn hlr ⊢
    obtain ⟨r, HR⟩ : ∃ q, Hid ((marksOf (trimT a)).length = q) := ⟨_, rfl⟩
    rw [HR.out] at hlr hlp
    simp only at c0 c1 c2
    clear ih
    by_cases hcut : ok = true ∧ hi ≤ h
    · rw [if_pos hcut]
      obtain ⟨hok, hhi⟩ := hcut
      subst hok
      go_enter Try.func68, Try.ntmps68
      go_wp2_with (fail)
      refine kNewM (IH.out (some ⟨b, off, none⟩) p c _ ha (by omega) (by omega)) ?_
      intro A' c' w1 hown hb1
      rw [HR.out] at hown ⊢
      have HO := Lib.hid hown
      have HB1 := Lib.hid hb1
      clear hown hb1
      go_wp2_with (fail)
      refine kBV (HLE.out A' r c' _ (OwnM.at_ HO.out) (OwnM.cap HO.out) (by omega)) ?_
      intro w2 hb2
      simp only [lenV]
      have HB2 := Lib.hid (HB1.out.trans (hb2.mono HB1.out.size))
      have HO2 := Lib.hid (own_below HO.out hb2)
      replace c0 := keep HB2.out c0
      replace c1 := keep HB2.out c1
      replace c2 := keep HB2.out c2
      clear hb2
      go_wp2
      go_ret
      exact ⟨A', c', by rw [HR.out]; rfl, by rw [HR.out]; exact HO2.out, HB2.out⟩
    · rw [if_neg hcut]
      cases ok with
      | true =>
        have hhi : ¬ hi ≤ h := fun hh => hcut ⟨rfl, hh⟩
        clear hcut
        go_enter Try.func68, Try.ntmps68
        go_wp2_with (fail)
        refine kNewM (IH.out (some ⟨b, off, none⟩) p c _ ha (by omega) (by omega)) ?_
        intro A' c' w1 hown hb1
        rw [HR.out] at hown ⊢
        have HO := Lib.hid hown
        have HB1 := Lib.hid hb1
        clear hown hb1
        go_wp2_with (fail)
        refine kBV (HLE.out A' r c' _ (OwnM.at_ HO.out) (OwnM.cap HO.out) (by omega)) ?_
        intro w2 hb2
        simp only [lenV]
        have HB2 := Lib.hid (HB1.out.trans (hb2.mono HB1.out.size))
        have HO2 := Lib.hid (own_below HO.out hb2)
        replace c0 := keep HB2.out c0
        replace c1 := keep HB2.out c1
        replace c2 := keep HB2.out c2
        clear hb2
        go_wp2_with (at_builtin; refine wpl_app rowM rfl _ _ (by rfl) w.heap.size _ r (v3 (marksOf (trimT a))) (by rfl) (HO2.out.alloc _) ⟨w2.heap.size, 0, none⟩ 1 1 (v3 [(3, 0, h)]) (by rfl) rfl (cell3_at (by simp) _ _) (v3_one _) (by decide) (by omega) (by have := HB2.out.size; simp; omega) ?_; intro g' cap' wB hownB hgrow hat hltB)
        go_wp2
        go_ret
        have hl2 : (marksOf (.one (trimT a) h)).length = r + 1 := by rw [marksOf, List.length_append, HR.out]; rfl
        refine ⟨some ⟨g', 0, none⟩, cap', by rw [hl2]; rfl, ?_, (HB2.out.alloc HB2.out.size _).grown hgrow (by have := HB2.out.size; simp; omega) (fun k hk => (HO2.out.lt k hk).1)⟩
        show World.ownsRow _ _ _ _ _ _ (v3 _)
        rw [hl2, marksOf, v3_append]; exact hownB
      | false =>
        clear hcut
        go_enter Try.func68, Try.ntmps68
        go_wp2_with (fail)
        refine kNewM (IH.out (some ⟨b, off, none⟩) p c _ ha (by omega) (by omega)) ?_
        intro A' c' w1 hown hb1
        rw [HR.out] at hown ⊢
        have HO := Lib.hid hown
        have HB1 := Lib.hid hb1
        clear hown hb1
        go_wp2_with (fail)
        refine kBV (HLE.out A' r c' _ (OwnM.at_ HO.out) (OwnM.cap HO.out) (by omega)) ?_
        intro w2 hb2
        simp only [lenV]
        have HB2 := Lib.hid (HB1.out.trans (hb2.mono HB1.out.size))
        have HO2 := Lib.hid (own_below HO.out hb2)
        replace c0 := keep HB2.out c0
        replace c1 := keep HB2.out c1
        replace c2 := keep HB2.out c2
        clear hb2
        go_wp2_with (at_builtin; refine wpl_app rowM rfl _ _ (by rfl) w.heap.size _ r (v3 (marksOf (trimT a))) (by rfl) (HO2.out.alloc _) ⟨w2.heap.size, 0, none⟩ 1 1 (v3 [(3, 0, h)]) (by rfl) rfl (cell3_at (by simp) _ _) (v3_one _) (by decide) (by omega) (by have := HB2.out.size; simp; omega) ?_; intro g' cap' wB hownB hgrow hat hltB)
        go_wp2
        go_ret
        have hl2 : (marksOf (.one (trimT a) h)).length = r + 1 := by rw [marksOf, List.length_append, HR.out]; rfl
        refine ⟨some ⟨g', 0, none⟩, cap', by rw [hl2]; rfl, ?_, (HB2.out.alloc HB2.out.size _).grown hgrow (by have := HB2.out.size; simp; omega) (fun k hk => (HO2.out.lt k hk).1)⟩
        show World.ownsRow _ _ _ _ _ _ (v3 _)
        rw [hl2, marksOf, v3_append]; exact hownB
  | two k x y ihx ihy =>
    intro wf A n c w hm hc hn
    obtain ⟨b, off, rfl⟩ := hm.some (by rw [← hm.len]; exact marks_pos _)
    obtain ⟨hx, hy, rfl, c0, c1, c2⟩ := MarksAt.two hm
    have HAH := Lib.hid (show Ahead (marksOf (.two k x y)) (marksOf x) ((marksOf x).length + (marksOf y).length) 1 from ⟨[y], (by intro z hz; obtain rfl := List.mem_singleton.1 hz; exact wf.2.2), rfl, by rw [allMarks_one, marksOf]; exact List.take_left' (by simp)⟩)
    have IHX := Lib.hid (ihx wf.2.1)
    have IHY := Lib.hid (ihy wf.2.2)
    have hq0 := marks_pos y
    have hp0 := marks_pos x
    have hlx := trimT_marks x
    have hly := trimT_marks y
    have hr1p := marks_pos (trimT x)
    have hr2p := marks_pos (trimT y)
    obtain ⟨R1, HR1⟩ : ∃ q, Hid (marksOf (trimT x) = q) := ⟨_, rfl⟩
    obtain ⟨R2, HR2⟩ : ∃ q, Hid (marksOf (trimT y) = q) := ⟨_, rfl⟩
    have HF := Lib.hid (show marksOf (trimT (.two k x y)) = R1 ++ R2 ++ [(k, 0, 0)] by rw [trimT, marksOf, HR1.out, HR2.out])
    obtain ⟨p, HP⟩ : ∃ q, Hid ((marksOf x).length = q) := ⟨_, rfl⟩
    obtain ⟨q, HQ⟩ : ∃ q, Hid ((marksOf y).length = q) := ⟨_, rfl⟩
    rw [HP.out] at hx hy c0 c1 c2 hc hn HAH hlx hp0 ⊢
    rw [HQ.out] at hy c0 c1 c2 hc hn hq0 HAH hly ⊢
    rw [HP.out, HQ.out] at hm
    rw [HR1.out] at hlx IHX hr1p
    rw [HR2.out] at hly IHY hr2p
    have hr1 : p + q ≤ p + q := Nat.le_refl _
    have hr2 : p + q ≤ p + q := Nat.le_refl _
    have HQP := Lib.hid (show p + q - p = q by omega)
    obtain ⟨r, HRR⟩ : ∃ r, Hid (p + q = r) := ⟨_, rfl⟩
    rw [HRR.out] at c0 c1 c2 hc hn HAH hm HQP ⊢
    replace hr1 : p + q ≤ r := by rw [← HRR.out]; exact Nat.le_refl _
    replace hr2 : r ≤ p + q := by rw [← HRR.out]; exact Nat.le_refl _
    have HM := Lib.hid hm
    have HX := Lib.hid hx
    have HY := Lib.hid hy
    simp only at c0 c1 c2
    have hcp : ¬ c = p := by omega
    have hI1 : (0 : Int) ≤ (p : Int) := by omega
    have hI2 : (p : Int) ≤ (c : Int) := by omega
    have hI3 : (p : Int) ≤ (r : Int) := by omega
    have hI4 : (r : Int) ≤ (c : Int) := by omega
    have hI5 : (r : Int) < (r : Int) + 1 := by omega
    have hI6 : (r : Int) + 1 ≤ (c : Int) := by omega
    have hI7 : (0 : Int) ≤ (r : Int) := by omega
    have C0 := Lib.hid c0
    have C1 := Lib.hid c1
    have C2 := Lib.hid c2
    have hbl : b < w.heap.size := cell_lt c0
    clear ihx ihy hm hx hy
    rcases wf.1 with rfl | rfl
    · go_enter Try.func68, Try.ntmps68
      go_wp2_with (fail)
      refine kV (l11Starts_at (some ⟨b, off, none⟩) (r + 1) c r _ (marksOf x) _ _ HM.out (by omega) (by omega) HAH.out ?_) ?_
      · push_cast; omega
      rw [HP.out]
      go_wp2_with (fail)
      go_region_held_law (fun w' => w'.cell? ⟨b, off + r * 3, none⟩ = some (.int .i64 1) ∧ w'.cell? ⟨b, off + r * 3 + 1, none⟩ = some (.int .i64 0) ∧ w'.cell? ⟨b, off + r * 3 + 2, none⟩ = some (.int .i64 0))
        (first | exact ⟨c0, c1, c2⟩ | exact ⟨keep hbB C0.out, keep hbB C1.out, keep hbB C2.out⟩ | exact ⟨keep hb3 C0.out, keep hb3 C1.out, keep hb3 C2.out⟩ | exact ⟨keep (hb3.alloc hb3.size _) C0.out, keep (hb3.alloc hb3.size _) C1.out, keep (hb3.alloc hb3.size _) C2.out⟩ | exact ⟨keep hbw2 C0.out, keep hbw2 C1.out, keep hbw2 C2.out⟩ | exact ⟨keep (hbw2.alloc hbw2.size _) C0.out, keep (hbw2.alloc hbw2.size _) C1.out, keep (hbw2.alloc hbw2.size _) C2.out⟩ | exact ⟨keep hbw1 C0.out, keep hbw1 C1.out, keep hbw1 C2.out⟩ | exact ⟨keep (hbw1.alloc hbw1.size _) C0.out, keep (hbw1.alloc hbw1.size _) C1.out, keep (hbw1.alloc hbw1.size _) C2.out⟩ | exact ⟨keep (show Below w.heap.size w _ from (by repeat (first | exact Below.refl _ _ | refine Below.alloc ?_ (by simp) _ | apply Below.drew))) c0, keep (show Below w.heap.size w _ from (by repeat (first | exact Below.refl _ _ | refine Below.alloc ?_ (by simp) _ | apply Below.drew))) c1, keep (show Below w.heap.size w _ from (by repeat (first | exact Below.refl _ _ | refine Below.alloc ?_ (by simp) _ | apply Below.drew))) c2⟩)
        (first
          | (go_at_call 68; with_reducible refine kNewM (IHX.out (some ⟨b, off, none⟩) p c _ ?_ (by omega) (by omega)) ?_; exact HX.out.below (by repeat (first | exact Below.refl _ _ | refine Below.alloc ?_ (by simp) _ | apply Below.drew)); intro A1 c1' w1 hown1 hb1
             have hbw1 := Below.trans (show Below w.heap.size w _ from (by repeat (first | exact Below.refl _ _ | refine Below.alloc ?_ (by simp) _ | apply Below.drew))) (hb1.mono (by simp))
             obtain ⟨g1, rfl, hg1a, hg1⟩ := own_cellsD hown1 hr1p)
          | (go_at_call 68; (try rw [HQP.out]); with_reducible refine kNewM (IHY.out (some ⟨b, off + p * 3, none⟩) q (c - p) _ ?_ (by omega) (by omega)) ?_; exact HY.out.below (by first | exact hbw1 | exact hbw1.alloc hbw1.size _); intro A2 c2' w2 hown2 hb2
             have hbw2 := Below.trans (by first | exact hbw1 | exact hbw1.alloc hbw1.size _) (hb2.mono (by have := hbw1.size; simp; omega))
             have hown1' := own_below (by first | exact hown1 | exact hown1.alloc _) hb2
             obtain ⟨g2, rfl, hg2a, hg2⟩ := own_cellsD hown2 hr2p)
          | (refine step_app rowM (by rfl) _ _ (by rfl) w.heap.size _ R1.length (v3 R1) (by rfl) (by first | exact own_base hown1' (by simp) | exact own_base (hown1'.alloc _) (by simp)) ⟨g2, 0, none⟩ R2.length c2' (v3 R2) (by rfl) (v3_len _) (by first | exact MarksAt.news (OwnM.at_ hown2) | exact MarksAt.news (OwnM.at_ (hown2.alloc _))) (v3_one _) hr2p (by omega) (by have := hbw2.size; simp; omega) ?_
             intro g3 cap3 w3 hown3 hgrow3 hat3 hlt3
             have hb3 : Below w.heap.size w w3 := Below.grown (by first | exact hbw2 | exact hbw2.alloc hbw2.size _) hgrow3 (by have := hbw2.size; simp; omega) (fun k hk => by have := (hown1'.lt k hk).1; simp at this; omega))
          | (refine step_app rowM (by rfl) _ _ (by rfl) w.heap.size _ (R1.length + R2.length) (v3 R1 ++ v3 R2) (by rfl) (by first | exact hown3 | exact hown3.alloc _) _ 1 1 (v3 [(1, 0, 0)]) (by rfl) (by rfl)
               (by first
                 | exact cell3_at (by simp) _ _
                 | exact fun j u hu => hgrow3.cell (cell3_at (by simp) _ _ j u hu) (fun e => by have := (hown1'.lt _ e.symm).2; simp [addr_add] at this)
                 | exact fun j u hu => hgrow3.cell (keep hb2 (cell3_at (by simp) _ _ j u hu)) (fun e => by have h1 := hown1'.lt _ e.symm; have h2 := hown1.lt _ e.symm; (simp [addr_add] at h1 h2 <;> omega))
                 | exact fun j u hu => hgrow3.cell (keep hb2 (keep hb1 (cell3_at (by simp) _ _ j u hu))) (fun e => by have h1 := hown1'.lt _ e.symm; have h2 := hown1.lt _ e.symm; (simp [addr_add] at h1 h2 <;> omega))) (v3_one _) (by decide) (by omega) (by have := hb3.size; simp; omega) ?_
             intro g' cap' wB hownB hgrow hat hltB
             have hbB : Below w.heap.size w wB := Below.grown (by first | exact hb3 | exact hb3.alloc hb3.size _) hgrow (by have := hb3.size; simp; omega) (fun k hk => (hown3.lt k hk).1)))
      all_goals
        go_wp2
        go_ret
        have hl2 : (marksOf (trimT (.two 1 x y))).length = R1.length + R2.length + 1 := by rw [HF.out]; simp; omega
        refine ⟨some ⟨g', 0, none⟩, cap', by rw [hl2]; first | (simp; done) | rfl, ?_, hbB⟩
        show World.ownsRow _ _ _ _ _ _ (v3 _)
        rw [hl2, HF.out, v3_append, v3_append]; exact hownB
    · go_enter Try.func68, Try.ntmps68
      go_wp2_with (fail)
      refine kV (l11Starts_at (some ⟨b, off, none⟩) (r + 1) c r _ (marksOf x) _ _ HM.out (by omega) (by omega) HAH.out ?_) ?_
      · push_cast; omega
      rw [HP.out]
      go_wp2_with (fail)
      go_region_held_law (fun w' => w'.cell? ⟨b, off + r * 3, none⟩ = some (.int .i64 2) ∧ w'.cell? ⟨b, off + r * 3 + 1, none⟩ = some (.int .i64 0) ∧ w'.cell? ⟨b, off + r * 3 + 2, none⟩ = some (.int .i64 0))
        (first | exact ⟨c0, c1, c2⟩ | exact ⟨keep hbB C0.out, keep hbB C1.out, keep hbB C2.out⟩ | exact ⟨keep hb3 C0.out, keep hb3 C1.out, keep hb3 C2.out⟩ | exact ⟨keep (hb3.alloc hb3.size _) C0.out, keep (hb3.alloc hb3.size _) C1.out, keep (hb3.alloc hb3.size _) C2.out⟩ | exact ⟨keep hbw2 C0.out, keep hbw2 C1.out, keep hbw2 C2.out⟩ | exact ⟨keep (hbw2.alloc hbw2.size _) C0.out, keep (hbw2.alloc hbw2.size _) C1.out, keep (hbw2.alloc hbw2.size _) C2.out⟩ | exact ⟨keep hbw1 C0.out, keep hbw1 C1.out, keep hbw1 C2.out⟩ | exact ⟨keep (hbw1.alloc hbw1.size _) C0.out, keep (hbw1.alloc hbw1.size _) C1.out, keep (hbw1.alloc hbw1.size _) C2.out⟩ | exact ⟨keep (show Below w.heap.size w _ from (by repeat (first | exact Below.refl _ _ | refine Below.alloc ?_ (by simp) _ | apply Below.drew))) c0, keep (show Below w.heap.size w _ from (by repeat (first | exact Below.refl _ _ | refine Below.alloc ?_ (by simp) _ | apply Below.drew))) c1, keep (show Below w.heap.size w _ from (by repeat (first | exact Below.refl _ _ | refine Below.alloc ?_ (by simp) _ | apply Below.drew))) c2⟩)
        (first
          | (go_at_call 68; with_reducible refine kNewM (IHX.out (some ⟨b, off, none⟩) p c _ ?_ (by omega) (by omega)) ?_; exact HX.out.below (by repeat (first | exact Below.refl _ _ | refine Below.alloc ?_ (by simp) _ | apply Below.drew)); intro A1 c1' w1 hown1 hb1
             have hbw1 := Below.trans (show Below w.heap.size w _ from (by repeat (first | exact Below.refl _ _ | refine Below.alloc ?_ (by simp) _ | apply Below.drew))) (hb1.mono (by simp))
             obtain ⟨g1, rfl, hg1a, hg1⟩ := own_cellsD hown1 hr1p)
          | (go_at_call 68; (try rw [HQP.out]); with_reducible refine kNewM (IHY.out (some ⟨b, off + p * 3, none⟩) q (c - p) _ ?_ (by omega) (by omega)) ?_; exact HY.out.below (by first | exact hbw1 | exact hbw1.alloc hbw1.size _); intro A2 c2' w2 hown2 hb2
             have hbw2 := Below.trans (by first | exact hbw1 | exact hbw1.alloc hbw1.size _) (hb2.mono (by have := hbw1.size; simp; omega))
             have hown1' := own_below (by first | exact hown1 | exact hown1.alloc _) hb2
             obtain ⟨g2, rfl, hg2a, hg2⟩ := own_cellsD hown2 hr2p)
          | (refine step_app rowM (by rfl) _ _ (by rfl) w.heap.size _ R1.length (v3 R1) (by rfl) (by first | exact own_base hown1' (by simp) | exact own_base (hown1'.alloc _) (by simp)) ⟨g2, 0, none⟩ R2.length c2' (v3 R2) (by rfl) (v3_len _) (by first | exact MarksAt.news (OwnM.at_ hown2) | exact MarksAt.news (OwnM.at_ (hown2.alloc _))) (v3_one _) hr2p (by omega) (by have := hbw2.size; simp; omega) ?_
             intro g3 cap3 w3 hown3 hgrow3 hat3 hlt3
             have hb3 : Below w.heap.size w w3 := Below.grown (by first | exact hbw2 | exact hbw2.alloc hbw2.size _) hgrow3 (by have := hbw2.size; simp; omega) (fun k hk => by have := (hown1'.lt k hk).1; simp at this; omega))
          | (refine step_app rowM (by rfl) _ _ (by rfl) w.heap.size _ (R1.length + R2.length) (v3 R1 ++ v3 R2) (by rfl) (by first | exact hown3 | exact hown3.alloc _) _ 1 1 (v3 [(2, 0, 0)]) (by rfl) (by rfl)
               (by first
                 | exact cell3_at (by simp) _ _
                 | exact fun j u hu => hgrow3.cell (cell3_at (by simp) _ _ j u hu) (fun e => by have := (hown1'.lt _ e.symm).2; simp [addr_add] at this)
                 | exact fun j u hu => hgrow3.cell (keep hb2 (cell3_at (by simp) _ _ j u hu)) (fun e => by have h1 := hown1'.lt _ e.symm; have h2 := hown1.lt _ e.symm; (simp [addr_add] at h1 h2 <;> omega))
                 | exact fun j u hu => hgrow3.cell (keep hb2 (keep hb1 (cell3_at (by simp) _ _ j u hu))) (fun e => by have h1 := hown1'.lt _ e.symm; have h2 := hown1.lt _ e.symm; (simp [addr_add] at h1 h2 <;> omega))) (v3_one _) (by decide) (by omega) (by have := hb3.size; simp; omega) ?_
             intro g' cap' wB hownB hgrow hat hltB
             have hbB : Below w.heap.size w wB := Below.grown (by first | exact hb3 | exact hb3.alloc hb3.size _) hgrow (by have := hb3.size; simp; omega) (fun k hk => (hown3.lt k hk).1)))
      all_goals
        go_wp2
        go_ret
        have hl2 : (marksOf (trimT (.two 2 x y))).length = R1.length + R2.length + 1 := by rw [HF.out]; simp; omega
        refine ⟨some ⟨g', 0, none⟩, cap', by rw [hl2]; first | (simp; done) | rfl, ?_, hbB⟩
        show World.ownsRow _ _ _ _ _ _ (v3 _)
        rw [hl2, HF.out, v3_append, v3_append]; exact hownB

end Go.Proofs.Ytookhelfbnhadaa
