/- Terms with narrowed steps: l13Narrow. -/
import Derived.Test.YtookhelfbnhadaaMK
import Derived.Lib.MinMax
import Derived.Deep.DrawnRows
namespace Go.Proofs.Ytookhelfbnhadaa
open Go.RowKit
attribute [local go_sem ↓] Go.wp_at_zero Go.wp_at_succ

set_option maxRecDepth 100000 in
set_option maxHeartbeats 40000000 in
theorem l13Narrow_any (t : Tm) : Wf t → ∀ (A : Option Addr) (n c : Nat) (lo hi : Int) (w : World), MarksAt w A n (marksOf t) → n ≤ c → n ≤ 11 → -(1000 * (12 - (n : Int))) ≤ lo → lo ≤ 1000 * (12 - (n : Int)) → -(1000 * (12 - (n : Int))) ≤ hi → hi ≤ 1000 * (12 - (n : Int)) →
    Calls Try.prog 70 #[.slice A n c, .int .i64 lo, .int .i64 hi] w (NewM w (marksOf (narS t lo hi))) := by
  induction t with
  | step l h =>
    intro wf A n c lo hi w hm hc hn hl0 hl1 hh0 hh1
    obtain ⟨b, off, rfl⟩ := hm.some (by rw [← hm.len]; simp [marksOf])
    obtain ⟨-, rfl, c0, c1, c2⟩ := MarksAt.one (x := []) hm
    simp only [List.length_nil, Nat.zero_mul, Nat.add_zero, Nat.zero_add] at c0 c1 c2 hc hn ⊢
    clear hm hl0 hl1 hh0 hh1
    have hA0 : Below w.heap.size w (w.alloc (.cells #[.int .i64 0, .int .i64 l, .int .i64 h] 27)) := (Below.refl w.heap.size w).alloc (Nat.le_refl _) _
    go_enter Try.func70, Try.ntmps70
    go_wp2
    go_ret
    exact ⟨some ⟨w.heap.size + 1, 0, none⟩, 1, rfl, own_lit_at (by simp) w.heap.size _ 3 #[.int .i64 0, .int .i64 (max l lo), .int .i64 (min h hi)] 1 hA0.size (by decide) rfl, hA0.alloc hA0.size _⟩
  | one a h ih =>
    intro wf A n c lo hi w hm hc hn hl0 hl1 hh0 hh1
    obtain ⟨b, off, rfl⟩ := hm.some (by rw [← hm.len]; simp [marksOf])
    obtain ⟨ha, rfl, c0, c1, c2⟩ := MarksAt.one hm
    clear hm
    have hw := wf.2
    obtain ⟨hw0, hw1⟩ := hw
    have IH := Lib.hid (ih wf.1)
    have hlr := narS_marks a lo (min hi h)
    have hp0 := marks_pos a
    obtain ⟨R, HR⟩ : ∃ q, Hid (marksOf (narS a lo (min hi h)) = q) := ⟨_, rfl⟩
    have HF := Lib.hid (show marksOf (narS (.one a h) lo hi) = R ++ [(3, 0, h)] by rw [narS, marksOf, HR.out])
    rw [HR.out] at hlr
    have hlr1 := Nat.le_of_eq hlr
    have hlr2 := Nat.le_of_eq hlr.symm
    clear hlr
    obtain ⟨p, HP⟩ : ∃ q, Hid ((marksOf a).length = q) := ⟨_, rfl⟩
    rw [HP.out] at ha c0 c1 c2 hc hn hl0 hl1 hh0 hh1 hlr1 hlr2 hp0 ⊢
    simp only at c0 c1 c2
    push_cast at hl0 hl1 hh0 hh1
    have HC := Lib.hid (show ∀ (w : World), MarksAt w (some ⟨b, off, none⟩) p (marksOf a) → Calls Try.prog 70 #[.slice (some ⟨b, off, none⟩) p c, .int .i64 lo, .int .i64 (min hi h)] w (NewM w R) from fun w hm => by
      have h := IH.out (some ⟨b, off, none⟩) p c lo (min hi h) w hm (by omega) (by omega) (by omega) (by omega) (by omega) (by omega)
      rwa [HR.out] at h)
    have hA0 : Below w.heap.size w (w.alloc (.cells #[.int .i64 3, .int .i64 0, .int .i64 h] 27)) := (Below.refl w.heap.size w).alloc (Nat.le_refl _) _
    have HHA := Lib.hid (ha.below hA0)
    obtain ⟨w0, HW0⟩ : ∃ q, Hid (w.alloc (.cells #[.int .i64 3, .int .i64 0, .int .i64 h] 27) = q) := ⟨_, rfl⟩
    have s0 : w0.cell? ⟨w.heap.size, 0, none⟩ = some (.int .i64 3) := HW0.out ▸ by simp [go_sem]
    have s1 : w0.cell? ⟨w.heap.size, 1, none⟩ = some (.int .i64 0) := HW0.out ▸ by simp [go_sem]
    have s2 : w0.cell? ⟨w.heap.size, 2, none⟩ = some (.int .i64 h) := HW0.out ▸ by simp [go_sem]
    rw [HW0.out] at hA0 HHA
    have HB0 := Lib.hid hA0
    have hpI : (p : Int) ≤ (c : Int) := by omega
    have hpI0 : (0 : Int) ≤ (p : Int) := by omega
    clear ih IH
    go_enter Try.func70, Try.ntmps70
    go_wp2_with (fail)
    rw [HW0.out]
    obtain ⟨sb, HSB⟩ : ∃ q, Hid (w.heap.size = q) := ⟨_, rfl⟩
    rw [HSB.out] at s0 s1 s2 HB0 hA0 ⊢
    go_region_held_law (fun w' => w'.cell? ⟨sb, 0, none⟩ = some (.int .i64 3) ∧ w'.cell? ⟨sb, 1, none⟩ = some (.int .i64 0) ∧ w'.cell? ⟨sb, 2, none⟩ = some (.int .i64 h))
      (first | exact ⟨s0, s1, s2⟩ | exact ⟨keep hbB s0, keep hbB s1, keep hbB s2⟩ | exact ⟨keep (hbA.alloc hbA.size _) s0, keep (hbA.alloc hbA.size _) s1, keep (hbA.alloc hbA.size _) s2⟩ | exact ⟨keep hbA s0, keep hbA s1, keep hbA s2⟩ | exact ⟨keep (show Below w0.heap.size w0 _ from (by repeat (first | exact Below.refl _ _ | refine Below.alloc ?_ (by simp) _ | apply Below.drew))) s0, keep (show Below w0.heap.size w0 _ from (by repeat (first | exact Below.refl _ _ | refine Below.alloc ?_ (by simp) _ | apply Below.drew))) s1, keep (show Below w0.heap.size w0 _ from (by repeat (first | exact Below.refl _ _ | refine Below.alloc ?_ (by simp) _ | apply Below.drew))) s2⟩)
      (first
        | (go_at_call 70; with_reducible refine kNewM (HC.out _ ?_) ?_; exact HHA.out.below (by repeat (first | exact Below.refl _ _ | refine Below.alloc ?_ (by simp) _ | apply Below.drew)); intro A' c' wA hownA hbA'
           have hbA : Below w0.heap.size w0 wA := Below.trans (show Below w0.heap.size w0 _ from (by repeat (first | exact Below.refl _ _ | refine Below.alloc ?_ (by simp) _ | apply Below.drew))) (hbA'.mono (by simp)))
        | (refine step_app rowM (by rfl) _ _ (by rfl) w0.heap.size _ R.length (v3 R) (by rfl) (by first | exact own_base (own_below hownA (by repeat (first | exact Below.refl _ _ | refine Below.alloc ?_ (by simp) _ | apply Below.drew))) (by simp)) _ 1 1 (v3 [(3, 0, h)]) (by rfl) (by rfl) (by first | exact cell3_at (by simp) _ _ | exact fun j u hu => keep hbA' (cell3_at (by simp) _ _ j u hu)) (v3_one _) (by decide) (by omega) (by have := hbA.size; simp; omega) ?_
           intro g' cap' wB hownB hgrow hat hltB
           have hbB : Below w0.heap.size w0 wB := Below.grown (by first | exact hbA | exact hbA.alloc hbA.size _) hgrow (by have := hbA.size; simp; omega) (fun k hk => by have := (hownA.lt k hk).1; simp at this; omega)))
    all_goals
      simp only [List.getElem_toArray, List.getElem_cons_succ, List.getElem_cons_zero]
      go_wp2
      go_ret
      have hl2 : (marksOf (narS (.one a h) lo hi)).length = R.length + 1 := by rw [HF.out]; simp
      have hs := HB0.out.size
      rw [HSB.out] at hs
      refine ⟨some ⟨g', 0, none⟩, cap', by rw [hl2]; first | (simp; done) | rfl, ?_, ?_⟩
      · show World.ownsRow _ _ _ _ _ _ (v3 _)
        rw [hl2, HF.out, v3_append, HSB.out]; exact own_base hownB hs
      · rw [HSB.out]; exact HB0.out.trans (hbB.mono hs)
  | two k x y ihx ihy =>
    intro wf A n c lo hi w hm hc hn hl0 hl1 hh0 hh1
    obtain ⟨b, off, rfl⟩ := hm.some (by rw [← hm.len]; exact marks_pos _)
    obtain ⟨hx, hy, rfl, c0, c1, c2⟩ := MarksAt.two hm
    have HAH := Lib.hid (show Ahead (marksOf (.two k x y)) (marksOf x) ((marksOf x).length + (marksOf y).length) 1 from ⟨[y], (by intro z hz; obtain rfl := List.mem_singleton.1 hz; exact wf.2.2), rfl, by rw [allMarks_one, marksOf]; exact List.take_left' (by simp)⟩)
    have IHX := Lib.hid (ihx wf.2.1)
    have IHY := Lib.hid (ihy wf.2.2)
    have hbx := lenS_bd wf.2.1
    have hby := lenS_bd wf.2.2
    have hsx := stepsT_le x
    have hsy := stepsT_le y
    have hq0 := marks_pos y
    have hp0 := marks_pos x
    have HNX := Lib.hid (narS_marks x)
    have HNY := Lib.hid (narS_marks y)
    have HLX := Lib.hid (l12Lengths_any x wf.2.1)
    have HLY := Lib.hid (l12Lengths_any y wf.2.2)
    have HNS := Lib.hid (show narS (.two k x y) lo hi = _ from rfl)
    obtain ⟨L, HLx⟩ : ∃ q, Hid (lenS x = q) := ⟨_, rfl⟩
    obtain ⟨lo1, hi1, ok1⟩ := L
    obtain ⟨L, HLy⟩ : ∃ q, Hid (lenS y = q) := ⟨_, rfl⟩
    obtain ⟨lo2, hi2, ok2⟩ := L
    rw [HLx.out] at hbx HLX
    rw [HLy.out] at hby HLY
    simp only at hbx hby
    obtain ⟨p, HP⟩ : ∃ q, Hid ((marksOf x).length = q) := ⟨_, rfl⟩
    obtain ⟨q, HQ⟩ : ∃ q, Hid ((marksOf y).length = q) := ⟨_, rfl⟩
    rw [HP.out] at hx hy c0 c1 c2 hc hn hl0 hl1 hh0 hh1 hsx HAH hp0 HNX ⊢
    rw [HQ.out] at hy c0 c1 c2 hc hn hl0 hl1 hh0 hh1 hsy hq0 HAH HNY ⊢
    rw [HP.out, HQ.out] at hm
    obtain ⟨s1', HS1⟩ : ∃ q, Hid (stepsT x = q) := ⟨_, rfl⟩
    obtain ⟨s2', HS2⟩ : ∃ q, Hid (stepsT y = q) := ⟨_, rfl⟩
    rw [HS1.out] at hbx hsx
    rw [HS2.out] at hby hsy
    have HQP := Lib.hid (show p + q - p = q by omega)
    obtain ⟨r, HRR⟩ : ∃ r, Hid (p + q = r) := ⟨_, rfl⟩
    rw [HRR.out] at c0 c1 c2 hc hn hl0 hl1 hh0 hh1 HAH hm HQP ⊢
    have hr1 : p + q ≤ r := by rw [← HRR.out]; exact Nat.le_refl _
    have hr2 : r ≤ p + q := by rw [← HRR.out]; exact Nat.le_refl _
    have hA0 : Below w.heap.size w (w.alloc (.cells #[.int .i64 k, .int .i64 0, .int .i64 0] 27)) := (Below.refl w.heap.size w).alloc (Nat.le_refl _) _
    have HM := Lib.hid (hm.below hA0)
    have HX := Lib.hid (hx.below hA0)
    have HY := Lib.hid (hy.below hA0)
    simp only at c0 c1 c2
    push_cast at hl0 hl1 hh0 hh1
    obtain ⟨hbx0, hbx1, hbx2, hbx3⟩ := hbx
    obtain ⟨hby0, hby1, hby2, hby3⟩ := hby
    have hx209 : lo1 ≤ 209 ∧ hi1 ≤ 209 := by omega
    have hy209 : lo2 ≤ 209 ∧ hi2 ≤ 209 := by omega
    obtain ⟨hx3, hx4⟩ := hx209
    obtain ⟨hy3, hy4⟩ := hy209
    have hcp : ¬ c = p := by omega
    have hI1 : (0 : Int) ≤ (p : Int) := by omega
    have hI2 : (p : Int) ≤ (c : Int) := by omega
    have hI3 : (p : Int) ≤ (r : Int) := by omega
    have hI4 : (r : Int) ≤ (c : Int) := by omega
    have hI5 : (r : Int) < (r : Int) + 1 := by omega
    have hI6 : (r : Int) + 1 ≤ (c : Int) := by omega
    have hI7 : (0 : Int) ≤ (r : Int) := by omega
    clear ihx ihy hm hx hy hbx1 hbx3 hby1 hby3 hsx hsy
    obtain ⟨w0, HW0⟩ : ∃ q, Hid (w.alloc (.cells #[.int .i64 k, .int .i64 0, .int .i64 0] 27) = q) := ⟨_, rfl⟩
    rw [HW0.out] at hA0 HM HX HY
    rcases wf.1 with rfl | rfl
    ·
      have s0 : w0.cell? ⟨w.heap.size, 0, none⟩ = some (.int .i64 1) := HW0.out ▸ by simp [go_sem]
      have s1 : w0.cell? ⟨w.heap.size, 1, none⟩ = some (.int .i64 0) := HW0.out ▸ by simp [go_sem]
      have s2 : w0.cell? ⟨w.heap.size, 2, none⟩ = some (.int .i64 0) := HW0.out ▸ by simp [go_sem]
      have HNS1 := Lib.hid (show narS (.two 1 x y) lo hi = .two 1 (narS x (max lo1 (lo - hi2)) (min hi1 (hi - lo2))) (narS y (max lo2 (lo - hi1)) (min hi2 (hi - lo1))) by rw [narS, HLx.out, HLy.out]; rfl)
      have hl1' := HNX.out (max lo1 (lo - hi2)) (min hi1 (hi - lo2))
      have hl2' := HNY.out (max lo2 (lo - hi1)) (min hi2 (hi - lo1))
      obtain ⟨R1, HR1⟩ : ∃ q, Hid (marksOf (narS x (max lo1 (lo - hi2)) (min hi1 (hi - lo2))) = q) := ⟨_, rfl⟩
      obtain ⟨R2, HR2⟩ : ∃ q, Hid (marksOf (narS y (max lo2 (lo - hi1)) (min hi2 (hi - lo1))) = q) := ⟨_, rfl⟩
      rw [HR1.out] at hl1'
      rw [HR2.out] at hl2'
      have hl1a := Nat.le_of_eq hl1'
      have hl1b := Nat.le_of_eq hl1'.symm
      have hl2a := Nat.le_of_eq hl2'
      have hl2b := Nat.le_of_eq hl2'.symm
      clear hl1' hl2'
      have HF := Lib.hid (show marksOf (narS (.two 1 x y) lo hi) = R1 ++ R2 ++ [(1, 0, 0)] by rw [HNS1.out, marksOf, HR1.out, HR2.out])
      have HCX := Lib.hid (show ∀ (w : World), MarksAt w (some ⟨b, off, none⟩) p (marksOf x) → Calls Try.prog 70 #[.slice (some ⟨b, off, none⟩) p c, .int .i64 (max lo1 (lo - hi2)), .int .i64 (min hi1 (hi - lo2))] w (NewM w R1) from fun w hm => by
        have h := IHX.out (some ⟨b, off, none⟩) p c (max lo1 (lo - hi2)) (min hi1 (hi - lo2)) w hm (by omega) (by omega) (by omega) (by omega) (by omega) (by omega)
        rwa [HR1.out] at h)
      have HCY := Lib.hid (show ∀ (w : World), MarksAt w (some ⟨b, off + p * 3, none⟩) q (marksOf y) → Calls Try.prog 70 #[.slice (some ⟨b, off + p * 3, none⟩) q (c - p), .int .i64 (max lo2 (lo - hi1)), .int .i64 (min hi2 (hi - lo1))] w (NewM w R2) from fun w hm => by
        have h := IHY.out (some ⟨b, off + p * 3, none⟩) q (c - p) (max lo2 (lo - hi1)) (min hi2 (hi - lo1)) w hm (by omega) (by omega) (by omega) (by omega) (by omega) (by omega)
        rwa [HR2.out] at h)
      have hr1p : 0 < R1.length := by omega
      have hr2p : 0 < R2.length := by omega
      go_enter Try.func70, Try.ntmps70
      go_wp2_with (fail)
      rw [HW0.out]
      refine kV (l11Starts_at (some ⟨b, off, none⟩) (r + 1) c r _ (marksOf x) _ _ HM.out (by omega) (by omega) HAH.out ?_) ?_
      · push_cast; omega
      rw [HP.out]
      go_wp2_with (fail)
      refine kBV (HLX.out (some ⟨b, off, none⟩) p c _ HX.out (by omega) (by omega)) ?_
      intro w1 hb1
      simp only [lenV]
      have HB1 := Lib.hid hb1
      clear hb1
      go_wp2_with (fail)
      (try rw [HQP.out])
      refine kBV (HLY.out (some ⟨b, off + p * 3, none⟩) q (c - p) _ (HY.out.below HB1.out) (by omega) (by omega)) ?_
      intro w2 hb2
      simp only [lenV]
      have HB2 := Lib.hid (HB1.out.trans (hb2.mono HB1.out.size))
      replace s0 := keep HB2.out s0
      replace s1 := keep HB2.out s1
      replace s2 := keep HB2.out s2
      clear hb2
      go_wp2_with (fail)
      refine kNewM (HCX.out _ (HX.out.below HB2.out)) ?_
      intro A1 c1' w3 hown1 hb3
      have HB3 := Lib.hid (HB2.out.trans (hb3.mono HB2.out.size))
      have HO3 := Lib.hid (own_base hown1 HB2.out.size)
      replace s0 := keep hb3 s0
      replace s1 := keep hb3 s1
      replace s2 := keep hb3 s2
      clear hb3 hown1
      go_wp2_with (fail)
      (try rw [HQP.out])
      refine kNewM (HCY.out _ (HY.out.below HB3.out)) ?_
      intro A2 c2' w4 hown2 hb4
      have HB4 := Lib.hid (HB3.out.trans (hb4.mono HB3.out.size))
      have HO4 := Lib.hid (own_below HO3.out hb4)
      have HP4 := Lib.hid (own_base hown2 HB3.out.size)
      replace s0 := keep hb4 s0
      replace s1 := keep hb4 s1
      replace s2 := keep hb4 s2
      clear hb4 hown2
      obtain ⟨g1, rfl, hg1a, hg1⟩ := own_cellsD HO4.out hr1p
      obtain ⟨g2, rfl, hg2a, hg2⟩ := own_cellsD HP4.out hr2p
      have hs4 := HB4.out.size
      go_wp2_with (fail)
      obtain ⟨sb, HSB⟩ : ∃ q, Hid (w.heap.size = q) := ⟨_, rfl⟩
      have hsb : sb < w0.heap.size := by rw [← HSB.out, ← HW0.out]; simp
      rw [HSB.out] at s0 s1 s2 hA0 ⊢
      go_region_held_law (fun w' => w'.cell? ⟨sb, 0, none⟩ = some (.int .i64 1) ∧ w'.cell? ⟨sb, 1, none⟩ = some (.int .i64 0) ∧ w'.cell? ⟨sb, 2, none⟩ = some (.int .i64 0))
        (first | exact ⟨s0, s1, s2⟩ | exact hS6 | exact hS5 | exact ⟨keep ((Below.refl _ _).alloc (Nat.le_refl _) _) hS5.1, keep ((Below.refl _ _).alloc (Nat.le_refl _) _) hS5.2.1, keep ((Below.refl _ _).alloc (Nat.le_refl _) _) hS5.2.2⟩ | exact ⟨keep (show Below w4.heap.size w4 _ from (by repeat (first | exact Below.refl _ _ | refine Below.alloc ?_ (by simp) _ | apply Below.drew))) s0, keep (show Below w4.heap.size w4 _ from (by repeat (first | exact Below.refl _ _ | refine Below.alloc ?_ (by simp) _ | apply Below.drew))) s1, keep (show Below w4.heap.size w4 _ from (by repeat (first | exact Below.refl _ _ | refine Below.alloc ?_ (by simp) _ | apply Below.drew))) s2⟩)
        (first
          | (refine step_app rowM (by rfl) _ _ (by rfl) w0.heap.size _ R1.length (v3 R1) (by rfl) (own_below HO4.out (by repeat (first | exact Below.refl _ _ | refine Below.alloc ?_ (by simp) _ | apply Below.drew))) ⟨g2, 0, none⟩ R2.length c2' (v3 R2) (by rfl) (v3_len _) (MarksAt.news ((OwnM.at_ HP4.out).below (by repeat (first | exact Below.refl _ _ | refine Below.alloc ?_ (by simp) _ | apply Below.drew)))) (v3_one _) hr2p (by omega) (by simp <;> omega) ?_
             intro g5 cap5 w5 hown5 hgrow5 hat5 hlt5
             have hb5 : Below w0.heap.size w0 w5 := Below.grown (HB4.out.trans ((show Below w4.heap.size w4 _ from (by repeat (first | exact Below.refl _ _ | refine Below.alloc ?_ (by simp) _ | apply Below.drew))).mono hs4)) hgrow5 (by simp <;> omega) (fun k hk => (HO4.out.lt k hk).1)
             have hne5 : some sb ≠ Value.ownBlock (.slice (some ⟨g1, 0, none⟩) R1.length c1') := fun e => by have h1 := (HO4.out.lt sb e.symm).1; omega
             have hS5 := And.intro (hgrow5.cell (keep (show Below w4.heap.size w4 _ from (by repeat (first | exact Below.refl _ _ | refine Below.alloc ?_ (by simp) _ | apply Below.drew))) s0) hne5) (And.intro (hgrow5.cell (keep (show Below w4.heap.size w4 _ from (by repeat (first | exact Below.refl _ _ | refine Below.alloc ?_ (by simp) _ | apply Below.drew))) s1) hne5) (hgrow5.cell (keep (show Below w4.heap.size w4 _ from (by repeat (first | exact Below.refl _ _ | refine Below.alloc ?_ (by simp) _ | apply Below.drew))) s2) hne5)))
          | (refine step_app rowM (by rfl) _ _ (by rfl) w0.heap.size _ (R1.length + R2.length) (v3 R1 ++ v3 R2) (by rfl) (by first | exact hown5 | exact hown5.alloc _) _ 1 1 (v3 [(1, 0, 0)]) (by rfl) (by rfl) (by first | exact cell3_at (by simp) _ _ | exact fun j u hu => hgrow5.cell (cell3_at (by simp) _ _ j u hu) (fun e => by have := (HO4.out.lt _ e.symm).2; simp [addr_add] at this)) (v3_one _) (by decide) (by omega) (by have := hb5.size; simp <;> omega) ?_
             intro g' cap' wB hownB hgrow hat hltB
             have hbB : Below w0.heap.size w0 wB := Below.grown (by first | exact hb5 | exact hb5.alloc hb5.size _) hgrow (by have := hb5.size; simp <;> omega) (fun k hk => (hown5.lt k hk).1)
             have hS6 : wB.cell? ⟨sb, 0, none⟩ = some (.int .i64 1) ∧ wB.cell? ⟨sb, 1, none⟩ = some (.int .i64 0) ∧ wB.cell? ⟨sb, 2, none⟩ = some (.int .i64 0) := by
               have hne6 : some sb ≠ Value.ownBlock (.slice (some ⟨g5, 0, none⟩) (R1.length + R2.length) cap5) := fun e => by have h1 := (hown5.lt sb e.symm).1; omega
               first
                 | exact ⟨hgrow.cell hS5.1 hne6, hgrow.cell hS5.2.1 hne6, hgrow.cell hS5.2.2 hne6⟩
                 | exact ⟨hgrow.cell (keep ((Below.refl _ _).alloc (Nat.le_refl _) _) hS5.1) hne6, hgrow.cell (keep ((Below.refl _ _).alloc (Nat.le_refl _) _) hS5.2.1) hne6, hgrow.cell (keep ((Below.refl _ _).alloc (Nat.le_refl _) _) hS5.2.2) hne6⟩))
      all_goals
        simp only [List.getElem_toArray, List.getElem_cons_succ, List.getElem_cons_zero]
        go_wp2
        go_ret
        have hl2 : (marksOf (narS (.two 1 x y) lo hi)).length = R1.length + R2.length + 1 := by rw [HF.out]; simp; omega
        have hs := hA0.size
        rw [HSB.out] at hs
        refine ⟨some ⟨g', 0, none⟩, cap', by rw [hl2]; first | (simp; done) | rfl, ?_, ?_⟩
        · show World.ownsRow _ _ _ _ _ _ (v3 _)
          rw [hl2, HF.out, v3_append, v3_append, HSB.out]; exact own_base hownB hs
        · rw [HSB.out]; exact hA0.trans (hbB.mono hs)
    ·
      have s0 : w0.cell? ⟨w.heap.size, 0, none⟩ = some (.int .i64 2) := HW0.out ▸ by simp [go_sem]
      have s1 : w0.cell? ⟨w.heap.size, 1, none⟩ = some (.int .i64 0) := HW0.out ▸ by simp [go_sem]
      have s2 : w0.cell? ⟨w.heap.size, 2, none⟩ = some (.int .i64 0) := HW0.out ▸ by simp [go_sem]
      have HNS2 := Lib.hid (show narS (.two 2 x y) lo hi = .two 2 (narS x (max (max lo1 lo2) lo) (min (min hi1 hi2) hi)) (narS y (max (max lo1 lo2) lo) (min (min hi1 hi2) hi)) by rw [narS, HLx.out, HLy.out]; rfl)
      rw [show max (max lo1 lo2) lo = max lo1 (max lo2 lo) by omega, show min (min hi1 hi2) hi = min hi1 (min hi2 hi) by omega] at HNS2
      obtain ⟨f, HFF⟩ : ∃ f, Hid (max lo1 (max lo2 lo) = f) := ⟨_, rfl⟩
      obtain ⟨t, HTT⟩ : ∃ t, Hid (min hi1 (min hi2 hi) = t) := ⟨_, rfl⟩
      rw [HFF.out, HTT.out] at HNS2
      have hf0 : -(1000 * (12 - ((r : Int) + 1))) ≤ f := by rw [← HFF.out]; omega
      have hf1 : f ≤ 1000 * (12 - ((r : Int) + 1)) + 209 := by rw [← HFF.out]; omega
      have ht0 : -(1000 * (12 - ((r : Int) + 1))) ≤ t := by rw [← HTT.out]; omega
      have ht1 : t ≤ 1000 * (12 - ((r : Int) + 1)) := by rw [← HTT.out]; omega
      have hl1' := HNX.out f t
      have hl2' := HNY.out f t
      obtain ⟨R1, HR1⟩ : ∃ q, Hid (marksOf (narS x f t) = q) := ⟨_, rfl⟩
      obtain ⟨R2, HR2⟩ : ∃ q, Hid (marksOf (narS y f t) = q) := ⟨_, rfl⟩
      rw [HR1.out] at hl1'
      rw [HR2.out] at hl2'
      have hl1a := Nat.le_of_eq hl1'
      have hl1b := Nat.le_of_eq hl1'.symm
      have hl2a := Nat.le_of_eq hl2'
      have hl2b := Nat.le_of_eq hl2'.symm
      clear hl1' hl2'
      have HF := Lib.hid (show marksOf (narS (.two 2 x y) lo hi) = R1 ++ R2 ++ [(2, 0, 0)] by rw [HNS2.out, marksOf, HR1.out, HR2.out])
      have HCX := Lib.hid (show ∀ (w : World), MarksAt w (some ⟨b, off, none⟩) p (marksOf x) → Calls Try.prog 70 #[.slice (some ⟨b, off, none⟩) p c, .int .i64 f, .int .i64 t] w (NewM w R1) from fun w hm => by
        have h := IHX.out (some ⟨b, off, none⟩) p c f t w hm (by omega) (by omega) (by omega) (by omega) (by omega) (by omega)
        rwa [HR1.out] at h)
      have HCY := Lib.hid (show ∀ (w : World), MarksAt w (some ⟨b, off + p * 3, none⟩) q (marksOf y) → Calls Try.prog 70 #[.slice (some ⟨b, off + p * 3, none⟩) q (c - p), .int .i64 f, .int .i64 t] w (NewM w R2) from fun w hm => by
        have h := IHY.out (some ⟨b, off + p * 3, none⟩) q (c - p) f t w hm (by omega) (by omega) (by omega) (by omega) (by omega) (by omega)
        rwa [HR2.out] at h)
      have hr1p : 0 < R1.length := by omega
      have hr2p : 0 < R2.length := by omega
      go_enter Try.func70, Try.ntmps70
      go_wp2_with (fail)
      rw [HW0.out]
      refine kV (l11Starts_at (some ⟨b, off, none⟩) (r + 1) c r _ (marksOf x) _ _ HM.out (by omega) (by omega) HAH.out ?_) ?_
      · push_cast; omega
      rw [HP.out]
      go_wp2_with (fail)
      refine kBV (HLX.out (some ⟨b, off, none⟩) p c _ HX.out (by omega) (by omega)) ?_
      intro w1 hb1
      simp only [lenV]
      have HB1 := Lib.hid hb1
      clear hb1
      go_wp2_with (fail)
      (try rw [HQP.out])
      refine kBV (HLY.out (some ⟨b, off + p * 3, none⟩) q (c - p) _ (HY.out.below HB1.out) (by omega) (by omega)) ?_
      intro w2 hb2
      simp only [lenV]
      have HB2 := Lib.hid (HB1.out.trans (hb2.mono HB1.out.size))
      have HX2 := Lib.hid (HX.out.below HB2.out)
      have HY2 := Lib.hid (HY.out.below HB2.out)
      replace s0 := keep HB2.out s0
      replace s1 := keep HB2.out s1
      replace s2 := keep HB2.out s2
      clear hb2
      go_wp2_with (fail)
      rw [HFF.out, HTT.out]
      obtain ⟨sb, HSB⟩ : ∃ q, Hid (w.heap.size = q) := ⟨_, rfl⟩
      have hsb : sb < w0.heap.size := by rw [← HSB.out, ← HW0.out]; simp
      rw [HSB.out] at s0 s1 s2 hA0 ⊢
      have C0 := Lib.hid s0
      have C1 := Lib.hid s1
      have C2 := Lib.hid s2
      go_region_held_law (fun w' => w'.cell? ⟨sb, 0, none⟩ = some (.int .i64 2) ∧ w'.cell? ⟨sb, 1, none⟩ = some (.int .i64 0) ∧ w'.cell? ⟨sb, 2, none⟩ = some (.int .i64 0))
        (first | exact ⟨s0, s1, s2⟩ | exact ⟨keep hbB C0.out, keep hbB C1.out, keep hbB C2.out⟩ | exact ⟨keep hb3 C0.out, keep hb3 C1.out, keep hb3 C2.out⟩ | exact ⟨keep (hb3.alloc hb3.size _) C0.out, keep (hb3.alloc hb3.size _) C1.out, keep (hb3.alloc hb3.size _) C2.out⟩ | exact ⟨keep hbw2 C0.out, keep hbw2 C1.out, keep hbw2 C2.out⟩ | exact ⟨keep (hbw2.alloc hbw2.size _) C0.out, keep (hbw2.alloc hbw2.size _) C1.out, keep (hbw2.alloc hbw2.size _) C2.out⟩ | exact ⟨keep hbw1 C0.out, keep hbw1 C1.out, keep hbw1 C2.out⟩ | exact ⟨keep (hbw1.alloc hbw1.size _) C0.out, keep (hbw1.alloc hbw1.size _) C1.out, keep (hbw1.alloc hbw1.size _) C2.out⟩ | exact ⟨keep (show Below w2.heap.size w2 _ from (by repeat (first | exact Below.refl _ _ | refine Below.alloc ?_ (by simp) _ | apply Below.drew))) s0, keep (show Below w2.heap.size w2 _ from (by repeat (first | exact Below.refl _ _ | refine Below.alloc ?_ (by simp) _ | apply Below.drew))) s1, keep (show Below w2.heap.size w2 _ from (by repeat (first | exact Below.refl _ _ | refine Below.alloc ?_ (by simp) _ | apply Below.drew))) s2⟩)
        (first
          | (go_at_call 70; with_reducible refine kNewM (HCX.out _ ?_) ?_; exact HX2.out.below (by repeat (first | exact Below.refl _ _ | refine Below.alloc ?_ (by simp) _ | apply Below.drew)); intro A1 c1' wa hown1 hb1
             have hbw1 := Below.trans (show Below w2.heap.size w2 _ from (by repeat (first | exact Below.refl _ _ | refine Below.alloc ?_ (by simp) _ | apply Below.drew))) (hb1.mono (by simp))
             obtain ⟨g1, rfl, hg1a, hg1⟩ := own_cellsD hown1 hr1p)
          | (go_at_call 70; (try rw [HQP.out]); with_reducible refine kNewM (HCY.out _ ?_) ?_; exact HY2.out.below (by first | exact hbw1 | exact hbw1.alloc hbw1.size _); intro A2 c2' wb hown2 hb2
             have hbw2 := Below.trans (by first | exact hbw1 | exact hbw1.alloc hbw1.size _) (hb2.mono (by have := hbw1.size; simp; omega))
             have hown1' := own_below (by first | exact hown1 | exact hown1.alloc _) hb2
             obtain ⟨g2, rfl, hg2a, hg2⟩ := own_cellsD hown2 hr2p)
          | (refine step_app rowM (by rfl) _ _ (by rfl) w2.heap.size _ R1.length (v3 R1) (by rfl) (by first | exact own_base hown1' (by simp) | exact own_base (hown1'.alloc _) (by simp)) ⟨g2, 0, none⟩ R2.length c2' (v3 R2) (by rfl) (v3_len _) (by first | exact MarksAt.news (OwnM.at_ hown2) | exact MarksAt.news (OwnM.at_ (hown2.alloc _))) (v3_one _) hr2p (by omega) (by have := hbw2.size; simp; omega) ?_
             intro g3 cap3 w3 hown3 hgrow3 hat3 hlt3
             have hb3 : Below w2.heap.size w2 w3 := Below.grown (by first | exact hbw2 | exact hbw2.alloc hbw2.size _) hgrow3 (by have := hbw2.size; simp; omega) (fun k hk => by have := (hown1'.lt k hk).1; simp at this; omega))
          | (refine step_app rowM (by rfl) _ _ (by rfl) w2.heap.size _ (R1.length + R2.length) (v3 R1 ++ v3 R2) (by rfl) (by first | exact hown3 | exact hown3.alloc _) _ 1 1 (v3 [(2, 0, 0)]) (by rfl) (by rfl)
               (by first
                 | exact cell3_at (by simp) _ _
                 | exact fun j u hu => hgrow3.cell (cell3_at (by simp) _ _ j u hu) (fun e => by have := (hown1'.lt _ e.symm).2; simp [addr_add] at this)
                 | exact fun j u hu => hgrow3.cell (keep hb2 (cell3_at (by simp) _ _ j u hu)) (fun e => by have h1 := hown1'.lt _ e.symm; have h2 := hown1.lt _ e.symm; (simp [addr_add] at h1 h2 <;> omega))
                 | exact fun j u hu => hgrow3.cell (keep hb2 (keep hb1 (cell3_at (by simp) _ _ j u hu))) (fun e => by have h1 := hown1'.lt _ e.symm; have h2 := hown1.lt _ e.symm; (simp [addr_add] at h1 h2 <;> omega))) (v3_one _) (by decide) (by omega) (by have := hb3.size; simp; omega) ?_
             intro g' cap' wB hownB hgrow hat hltB
             have hbB : Below w2.heap.size w2 wB := Below.grown (by first | exact hb3 | exact hb3.alloc hb3.size _) hgrow (by have := hb3.size; simp; omega) (fun k hk => (hown3.lt k hk).1)))
      all_goals
        simp only [List.getElem_toArray, List.getElem_cons_succ, List.getElem_cons_zero]
        go_wp2
        go_ret
        have hl2 : (marksOf (narS (.two 2 x y) lo hi)).length = R1.length + R2.length + 1 := by rw [HF.out]; simp; omega
        have hs := hA0.size
        rw [HSB.out] at hs
        have hs2 := HB2.out.size
        refine ⟨some ⟨g', 0, none⟩, cap', by rw [hl2]; first | (simp; done) | rfl, ?_, ?_⟩
        · show World.ownsRow _ _ _ _ _ _ (v3 _)
          rw [hl2, HF.out, v3_append, v3_append, HSB.out]; exact own_base hownB (Nat.le_trans hs hs2)
        · rw [HSB.out]; exact hA0.trans ((HB2.out.trans (hbB.mono hs2)).mono hs)

end Go.Proofs.Ytookhelfbnhadaa
