/- Terms run back: plain facts; l11Back, (*part).back, both BackTerm. -/
import Derived.Test.YtookhelfbnhadaaMA
namespace Go.Proofs.Ytookhelfbnhadaa
open Go.RowKit

def backT : Tm → Tm
  | .step l h => .step l h
  | .two k a b => if k = 1 then .two k (backT b) (backT a) else .two k (backT a) (backT b)
  | .one a h => .one (backT a) h
theorem backT_marks (t : Tm) : (marksOf (backT t)).length = (marksOf t).length := by
  induction t with
  | step l h => rfl
  | two k a b iha ihb =>
    simp only [backT]
    split <;> simp only [marksOf, List.length_append, iha, ihb, List.length_singleton] <;> omega
  | one a h ih => simp only [backT, marksOf, List.length_append, ih]

set_option maxRecDepth 100000 in
set_option maxHeartbeats 2000000 in
theorem l11Back_any (t : Tm) : Wf t → ∀ (A : Option Addr) (n c : Nat) (w : World), MarksAt w A n (marksOf t) → n ≤ c → n ≤ 11 →
    Calls Try.prog 55 #[.slice A n c] w (NewM w (marksOf (backT t))) := by
  induction t with
  | step l h =>
    intro wf A n c w hm hc hn
    obtain ⟨b, off, rfl⟩ := hm.some (by rw [← hm.len]; simp [marksOf])
    have hm2 := hm
    obtain ⟨-, rfl, c0, c1, c2⟩ := MarksAt.one (x := []) hm2
    simp only [List.length_nil, Nat.zero_mul, Nat.add_zero, Nat.zero_add] at c0 c1 c2 hc hn ⊢
    have HM := Lib.hid hm
    clear hm hm2
    go_enter Try.func55, Try.ntmps55
    go_wp2_with (at_builtin; refine wpl_app rowM rfl _ _ (by rfl) w.heap.size _ 0 (v3 []) (by rfl) (OwnM.empty w _ (Nat.le_refl _)) ⟨b, off, none⟩ 1 c (v3 [(0, l, h)]) (by rfl) rfl (MarksAt.news (HM.out.below ((Below.refl _ _).alloc (Nat.le_refl _) _))) (v3_one _) (by decide) (by omega) (by simp) ?_; intro g' cap' wB hownB hgrow hat hltB)
    go_wp2
    go_ret
    exact ⟨some ⟨g', 0, none⟩, cap', rfl, hownB, ((Below.refl w.heap.size w).alloc (Nat.le_refl _) _).grown hgrow (by simp) (fun k hk => by cases hk; exact Nat.le_refl _)⟩
  | one a h ih =>
    intro wf A n c w hm hc hn
    obtain ⟨b, off, rfl⟩ := hm.some (by rw [← hm.len]; simp [marksOf])
    obtain ⟨ha, rfl, c0, c1, c2⟩ := MarksAt.one hm
    clear hm
    have IH := Lib.hid (ih wf.1)
    have HLB := Lib.hid (backT_marks a)
    obtain ⟨R, HR⟩ : ∃ q, Hid (marksOf (backT a) = q) := ⟨_, rfl⟩
    have HF := Lib.hid (show marksOf (backT (.one a h)) = R ++ [(3, 0, h)] by rw [backT, marksOf, HR.out])
    obtain ⟨p, HP⟩ : ∃ q, Hid ((marksOf a).length = q) := ⟨_, rfl⟩
    rw [HP.out] at ha c0 c1 c2 hc hn HLB ⊢
    rw [HR.out] at HLB IH
    simp only at c0 c1 c2
    clear ih
    go_enter Try.func55, Try.ntmps55
    go_wp2_with (fail)
    go_region_held_law (fun w' => w'.cell? ⟨b, off + p * 3, none⟩ = some (.int .i64 3) ∧ w'.cell? ⟨b, off + p * 3 + 1, none⟩ = some (.int .i64 0) ∧ w'.cell? ⟨b, off + p * 3 + 2, none⟩ = some (.int .i64 h))
      (first | exact ⟨c0, c1, c2⟩ | exact ⟨keep hbB c0, keep hbB c1, keep hbB c2⟩ | exact ⟨keep hbw c0, keep hbw c1, keep hbw c2⟩ | exact ⟨keep (hbw.alloc hbw.size _) c0, keep (hbw.alloc hbw.size _) c1, keep (hbw.alloc hbw.size _) c2⟩ | exact ⟨keep (show Below w.heap.size w _ from (by repeat (first | exact Below.refl _ _ | refine Below.alloc ?_ (by simp) _ | apply Below.drew))) c0, keep (show Below w.heap.size w _ from (by repeat (first | exact Below.refl _ _ | refine Below.alloc ?_ (by simp) _ | apply Below.drew))) c1, keep (show Below w.heap.size w _ from (by repeat (first | exact Below.refl _ _ | refine Below.alloc ?_ (by simp) _ | apply Below.drew))) c2⟩)
      (first
        | (go_at_call 55; refine kNewM (IH.out (some ⟨b, off, none⟩) p c _ (ha.below (by repeat (first | exact Below.refl _ _ | refine Below.alloc ?_ (by simp) _ | apply Below.drew))) (by omega) (by omega)) ?_; intro A' c' wA hownA hbA
           have hbw := Below.trans (show Below w.heap.size w _ from (by repeat (first | exact Below.refl _ _ | refine Below.alloc ?_ (by simp) _ | apply Below.drew))) (hbA.mono (by simp)))
        | (refine step_app rowM (by rfl) _ _ (by rfl) w.heap.size _ R.length (v3 R) (by rfl) (by first | exact own_base (own_below hownA (by repeat (first | exact Below.refl _ _ | refine Below.alloc ?_ (by simp) _ | apply Below.drew))) (by simp)) _ 1 1 (v3 [(3, 0, h)]) (by rfl) (by rfl) (by first | exact cell3_at (by simp) _ _ | exact fun j u hu => keep hbA (cell3_at (by simp) _ _ j u hu)) (v3_one _) (by decide) (by have := HLB.out; omega) (by have := hbw.size; simp; omega) ?_
           intro g' cap' wB hownB hgrow hat hltB
           have hbB : Below w.heap.size w wB := Below.grown (by first | exact hbw | exact hbw.alloc hbw.size _) hgrow (by have := hbw.size; simp; omega) (fun k hk => by have := (hownA.lt k hk).1; simp at this; omega)))
    all_goals
      go_wp2
      go_ret
      have hl2 : (marksOf (backT (.one a h))).length = R.length + 1 := by rw [HF.out]; simp
      refine ⟨some ⟨g', 0, none⟩, cap', by rw [hl2]; first | (simp; done) | rfl, ?_, hbB⟩
      show World.ownsRow _ _ _ _ _ _ (v3 _)
      rw [hl2, HF.out, v3_append]; exact hownB
  | two k x y ihx ihy =>
    intro wf A n c w hm hc hn
    obtain ⟨b, off, rfl⟩ := hm.some (by rw [← hm.len]; exact marks_pos _)
    obtain ⟨hx, hy, rfl, c0, c1, c2⟩ := MarksAt.two hm
    have HAH := Lib.hid (show Ahead (marksOf (.two k x y)) (marksOf x) ((marksOf x).length + (marksOf y).length) 1 from ⟨[y], (by intro z hz; obtain rfl := List.mem_singleton.1 hz; exact wf.2.2), rfl, by rw [allMarks_one, marksOf]; exact List.take_left' (by simp)⟩)
    have IHX := Lib.hid (ihx wf.2.1)
    have IHY := Lib.hid (ihy wf.2.2)
    have hq0 := marks_pos y
    have hp0 := marks_pos x
    have HLX := Lib.hid (backT_marks x)
    have HLY := Lib.hid (backT_marks y)
    obtain ⟨R1, HR1⟩ : ∃ q, Hid (marksOf (backT x) = q) := ⟨_, rfl⟩
    obtain ⟨R2, HR2⟩ : ∃ q, Hid (marksOf (backT y) = q) := ⟨_, rfl⟩
    obtain ⟨p, HP⟩ : ∃ q, Hid ((marksOf x).length = q) := ⟨_, rfl⟩
    obtain ⟨q, HQ⟩ : ∃ q, Hid ((marksOf y).length = q) := ⟨_, rfl⟩
    rw [HP.out] at hx hy c0 c1 c2 hc hn HAH HLX hp0 ⊢
    rw [HQ.out] at hy c0 c1 c2 hc hn hq0 HAH HLY ⊢
    rw [HP.out, HQ.out] at hm
    rw [HR1.out] at HLX IHX
    rw [HR2.out] at HLY IHY
    have HM := Lib.hid hm
    have HX := Lib.hid hx
    have HY := Lib.hid hy
    simp only at c0 c1 c2
    have hcp : ¬ c = p := by omega
    clear ihx ihy hm hx hy
    have C0 := Lib.hid c0
    have C1 := Lib.hid c1
    have C2 := Lib.hid c2
    rcases wf.1 with rfl | rfl
    · have HF := Lib.hid (show marksOf (backT (.two 1 x y)) = R2 ++ R1 ++ [(1, 0, 0)] by rw [backT]; simp [marksOf, HR1.out, HR2.out])
      go_enter Try.func55, Try.ntmps55
      go_wp2_with (fail)
      refine kV (l11Starts_at (some ⟨b, off, none⟩) (p + q + 1) c (p + q) _ (marksOf x) _ _ HM.out (by omega) (by omega) HAH.out ?_) ?_
      · push_cast; omega
      rw [HP.out]
      go_wp2_with (fail)
      refine kNewM (IHX.out (some ⟨b, off, none⟩) p c _ HX.out (by omega) (by omega)) ?_
      intro A1 c1' w1 hown1 hb1
      have HB1 := Lib.hid hb1
      have HO1 := Lib.hid hown1
      replace c0 := keep hb1 c0
      replace c1 := keep hb1 c1
      replace c2 := keep hb1 c2
      clear hb1 hown1
      go_wp2_with (fail)
      refine kNewM (IHY.out (some ⟨b, off + p * 3, none⟩) q (c - p) _ (HY.out.below HB1.out) (by omega) (by omega)) ?_
      intro A2 c2' w2 hown2 hb2
      have HO1' := Lib.hid (own_below HO1.out hb2)
      have HO2 := Lib.hid (own_base hown2 HB1.out.size)
      have HB2 := Lib.hid (HB1.out.trans (hb2.mono HB1.out.size))
      replace c0 := keep hb2 c0
      replace c1 := keep hb2 c1
      replace c2 := keep hb2 c2
      clear hb2 hown2
      obtain ⟨g1, rfl, -, hg1⟩ := own_cellsD HO1'.out (by have := HLX.out; omega)
      obtain ⟨g2, rfl, -, hg2⟩ := own_cellsD HO2.out (by have := HLY.out; omega)
      have hr1 : R1.length ≤ 11 := by have := HLX.out; omega
      have hr2 : R2.length ≤ 11 := by have := HLY.out; omega
      have hr1p : 0 < R1.length := by have := HLX.out; omega
      have hr2p : 0 < R2.length := by have := HLY.out; omega
      go_wp2_with (fail)
      go_region_held_law (fun w' => w'.cell? ⟨b, off + (p + q) * 3, none⟩ = some (.int .i64 1) ∧ w'.cell? ⟨b, off + (p + q) * 3 + 1, none⟩ = some (.int .i64 0) ∧ w'.cell? ⟨b, off + (p + q) * 3 + 2, none⟩ = some (.int .i64 0))
        (first | exact ⟨c0, c1, c2⟩ | exact hS4 | exact hS3 | exact ⟨keep ((Below.refl _ _).alloc (Nat.le_refl _) _) hS3.1, keep ((Below.refl _ _).alloc (Nat.le_refl _) _) hS3.2.1, keep ((Below.refl _ _).alloc (Nat.le_refl _) _) hS3.2.2⟩ | exact ⟨keep (show Below w2.heap.size w2 _ from (by repeat (first | exact Below.refl _ _ | refine Below.alloc ?_ (by simp) _ | apply Below.drew))) c0, keep (show Below w2.heap.size w2 _ from (by repeat (first | exact Below.refl _ _ | refine Below.alloc ?_ (by simp) _ | apply Below.drew))) c1, keep (show Below w2.heap.size w2 _ from (by repeat (first | exact Below.refl _ _ | refine Below.alloc ?_ (by simp) _ | apply Below.drew))) c2⟩)
        (first
          | (refine step_app rowM (by rfl) _ _ (by rfl) w.heap.size _ R2.length (v3 R2) (by rfl) (own_below HO2.out (by repeat (first | exact Below.refl _ _ | refine Below.alloc ?_ (by simp) _ | apply Below.drew))) ⟨g1, 0, none⟩ R1.length c1' (v3 R1) (by rfl) (v3_len _) (MarksAt.news ((OwnM.at_ HO1'.out).below (by repeat (first | exact Below.refl _ _ | refine Below.alloc ?_ (by simp) _ | apply Below.drew)))) (v3_one _) hr1p (by omega) (by have := HB2.out.size; simp; omega) ?_
             intro g3 cap3 w3 hown3 hgrow3 hat3 hlt3
             have hb3 : Below w.heap.size w w3 := Below.grown (HB2.out.trans ((show Below w2.heap.size w2 _ from (by repeat (first | exact Below.refl _ _ | refine Below.alloc ?_ (by simp) _ | apply Below.drew))).mono HB2.out.size)) hgrow3 (by have := HB2.out.size; simp; omega) (fun k hk => (HO2.out.lt k hk).1)
             have hne3 : some b ≠ Value.ownBlock (.slice (some ⟨g2, 0, none⟩) R2.length c2') := fun e => by have h1 := (HO2.out.lt b e.symm).1; have h2 := cell_lt C0.out; simp at h2; omega
             have hS3 := And.intro (hgrow3.cell (keep (show Below w2.heap.size w2 _ from (by repeat (first | exact Below.refl _ _ | refine Below.alloc ?_ (by simp) _ | apply Below.drew))) c0) hne3) (And.intro (hgrow3.cell (keep (show Below w2.heap.size w2 _ from (by repeat (first | exact Below.refl _ _ | refine Below.alloc ?_ (by simp) _ | apply Below.drew))) c1) hne3) (hgrow3.cell (keep (show Below w2.heap.size w2 _ from (by repeat (first | exact Below.refl _ _ | refine Below.alloc ?_ (by simp) _ | apply Below.drew))) c2) hne3)))
          | (refine step_app rowM (by rfl) _ _ (by rfl) w.heap.size _ (R2.length + R1.length) (v3 R2 ++ v3 R1) (by rfl) (by first | exact hown3 | exact hown3.alloc _) _ 1 1 (v3 [(1, 0, 0)]) (by rfl) (by rfl) (by first | exact cell3_at (by simp) _ _ | exact fun j u hu => hgrow3.cell (cell3_at (by simp) _ _ j u hu) (fun e => by have := (HO2.out.lt _ e.symm).2; simp [addr_add] at this)) (v3_one _) (by decide) (by omega) (by have := hb3.size; simp; omega) ?_
             intro g' cap' wB hownB hgrow hat hltB
             have hbB : Below w.heap.size w wB := Below.grown (by first | exact hb3 | exact hb3.alloc hb3.size _) hgrow (by have := hb3.size; simp; omega) (fun k hk => (hown3.lt k hk).1)
             have hS4 : wB.cell? ⟨b, off + (p + q) * 3, none⟩ = some (.int .i64 1) ∧ wB.cell? ⟨b, off + (p + q) * 3 + 1, none⟩ = some (.int .i64 0) ∧ wB.cell? ⟨b, off + (p + q) * 3 + 2, none⟩ = some (.int .i64 0) := ⟨keep hbB C0.out, keep hbB C1.out, keep hbB C2.out⟩))
      all_goals
        go_wp2
        go_ret
        have hl2 : (marksOf (backT (.two 1 x y))).length = R2.length + R1.length + 1 := by rw [HF.out]; simp; omega
        refine ⟨some ⟨g', 0, none⟩, cap', by rw [hl2]; first | (simp; done) | rfl, ?_, hbB⟩
        show World.ownsRow _ _ _ _ _ _ (v3 _)
        rw [hl2, HF.out, v3_append, v3_append]; exact hownB
    · have HF := Lib.hid (show marksOf (backT (.two 2 x y)) = R1 ++ R2 ++ [(2, 0, 0)] by rw [backT]; simp [marksOf, HR1.out, HR2.out])
      go_enter Try.func55, Try.ntmps55
      go_wp2_with (fail)
      refine kV (l11Starts_at (some ⟨b, off, none⟩) (p + q + 1) c (p + q) _ (marksOf x) _ _ HM.out (by omega) (by omega) HAH.out ?_) ?_
      · push_cast; omega
      rw [HP.out]
      go_wp2_with (fail)
      refine kNewM (IHX.out (some ⟨b, off, none⟩) p c _ HX.out (by omega) (by omega)) ?_
      intro A1 c1' w1 hown1 hb1
      have HB1 := Lib.hid hb1
      have HO1 := Lib.hid hown1
      replace c0 := keep hb1 c0
      replace c1 := keep hb1 c1
      replace c2 := keep hb1 c2
      clear hb1 hown1
      go_wp2_with (fail)
      refine kNewM (IHY.out (some ⟨b, off + p * 3, none⟩) q (c - p) _ (HY.out.below HB1.out) (by omega) (by omega)) ?_
      intro A2 c2' w2 hown2 hb2
      have HO1' := Lib.hid (own_below HO1.out hb2)
      have HO2 := Lib.hid (own_base hown2 HB1.out.size)
      have HB2 := Lib.hid (HB1.out.trans (hb2.mono HB1.out.size))
      replace c0 := keep hb2 c0
      replace c1 := keep hb2 c1
      replace c2 := keep hb2 c2
      clear hb2 hown2
      obtain ⟨g1, rfl, -, hg1⟩ := own_cellsD HO1'.out (by have := HLX.out; omega)
      obtain ⟨g2, rfl, -, hg2⟩ := own_cellsD HO2.out (by have := HLY.out; omega)
      have hr1 : R1.length ≤ 11 := by have := HLX.out; omega
      have hr2 : R2.length ≤ 11 := by have := HLY.out; omega
      have hr1p : 0 < R1.length := by have := HLX.out; omega
      have hr2p : 0 < R2.length := by have := HLY.out; omega
      go_wp2_with (fail)
      go_region_held_law (fun w' => w'.cell? ⟨b, off + (p + q) * 3, none⟩ = some (.int .i64 2) ∧ w'.cell? ⟨b, off + (p + q) * 3 + 1, none⟩ = some (.int .i64 0) ∧ w'.cell? ⟨b, off + (p + q) * 3 + 2, none⟩ = some (.int .i64 0))
        (first | exact ⟨c0, c1, c2⟩ | exact hS4 | exact hS3 | exact ⟨keep ((Below.refl _ _).alloc (Nat.le_refl _) _) hS3.1, keep ((Below.refl _ _).alloc (Nat.le_refl _) _) hS3.2.1, keep ((Below.refl _ _).alloc (Nat.le_refl _) _) hS3.2.2⟩ | exact ⟨keep (show Below w2.heap.size w2 _ from (by repeat (first | exact Below.refl _ _ | refine Below.alloc ?_ (by simp) _ | apply Below.drew))) c0, keep (show Below w2.heap.size w2 _ from (by repeat (first | exact Below.refl _ _ | refine Below.alloc ?_ (by simp) _ | apply Below.drew))) c1, keep (show Below w2.heap.size w2 _ from (by repeat (first | exact Below.refl _ _ | refine Below.alloc ?_ (by simp) _ | apply Below.drew))) c2⟩)
        (first
          | (refine step_app rowM (by rfl) _ _ (by rfl) w.heap.size _ R1.length (v3 R1) (by rfl) (own_below HO1'.out (by repeat (first | exact Below.refl _ _ | refine Below.alloc ?_ (by simp) _ | apply Below.drew))) ⟨g2, 0, none⟩ R2.length c2' (v3 R2) (by rfl) (v3_len _) (MarksAt.news ((OwnM.at_ HO2.out).below (by repeat (first | exact Below.refl _ _ | refine Below.alloc ?_ (by simp) _ | apply Below.drew)))) (v3_one _) hr2p (by omega) (by have := HB2.out.size; simp; omega) ?_
             intro g3 cap3 w3 hown3 hgrow3 hat3 hlt3
             have hb3 : Below w.heap.size w w3 := Below.grown (HB2.out.trans ((show Below w2.heap.size w2 _ from (by repeat (first | exact Below.refl _ _ | refine Below.alloc ?_ (by simp) _ | apply Below.drew))).mono HB2.out.size)) hgrow3 (by have := HB2.out.size; simp; omega) (fun k hk => (HO1'.out.lt k hk).1)
             have hne3 : some b ≠ Value.ownBlock (.slice (some ⟨g1, 0, none⟩) R1.length c1') := fun e => by have h1 := (HO1'.out.lt b e.symm).1; have h2 := cell_lt C0.out; simp at h2; omega
             have hS3 := And.intro (hgrow3.cell (keep (show Below w2.heap.size w2 _ from (by repeat (first | exact Below.refl _ _ | refine Below.alloc ?_ (by simp) _ | apply Below.drew))) c0) hne3) (And.intro (hgrow3.cell (keep (show Below w2.heap.size w2 _ from (by repeat (first | exact Below.refl _ _ | refine Below.alloc ?_ (by simp) _ | apply Below.drew))) c1) hne3) (hgrow3.cell (keep (show Below w2.heap.size w2 _ from (by repeat (first | exact Below.refl _ _ | refine Below.alloc ?_ (by simp) _ | apply Below.drew))) c2) hne3)))
          | (refine step_app rowM (by rfl) _ _ (by rfl) w.heap.size _ (R1.length + R2.length) (v3 R1 ++ v3 R2) (by rfl) (by first | exact hown3 | exact hown3.alloc _) _ 1 1 (v3 [(2, 0, 0)]) (by rfl) (by rfl) (by first | exact cell3_at (by simp) _ _ | exact fun j u hu => hgrow3.cell (cell3_at (by simp) _ _ j u hu) (fun e => by have := (HO1'.out.lt _ e.symm).2; simp [addr_add] at this)) (v3_one _) (by decide) (by omega) (by have := hb3.size; simp; omega) ?_
             intro g' cap' wB hownB hgrow hat hltB
             have hbB : Below w.heap.size w wB := Below.grown (by first | exact hb3 | exact hb3.alloc hb3.size _) hgrow (by have := hb3.size; simp; omega) (fun k hk => (hown3.lt k hk).1)
             have hS4 : wB.cell? ⟨b, off + (p + q) * 3, none⟩ = some (.int .i64 2) ∧ wB.cell? ⟨b, off + (p + q) * 3 + 1, none⟩ = some (.int .i64 0) ∧ wB.cell? ⟨b, off + (p + q) * 3 + 2, none⟩ = some (.int .i64 0) := ⟨keep hbB C0.out, keep hbB C1.out, keep hbB C2.out⟩))
      all_goals
        go_wp2
        go_ret
        have hl2 : (marksOf (backT (.two 2 x y))).length = R1.length + R2.length + 1 := by rw [HF.out]; simp; omega
        refine ⟨some ⟨g', 0, none⟩, cap', by rw [hl2]; first | (simp; done) | rfl, ?_, hbB⟩
        show World.ownsRow _ _ _ _ _ _ (v3 _)
        rw [hl2, HF.out, v3_append, v3_append]; exact hownB

noncomputable def BackF (xs : List Mk) : List Mk := onT [] (fun x => marksOf (backT x)) xs
theorem backF_len (xs : List Mk) : (BackF xs).length ≤ xs.length := by
  by_cases h : TOk xs
  · obtain ⟨x, hx⟩ := h
    rw [BackF, onT_pos hx, backT_marks, hx.2.1]; exact Nat.le_refl _
  · rw [BackF, onT_neg h]; exact Nat.zero_le _

set_option maxHeartbeats 1000000 in
theorem sBackTerm_any (A : Option Addr) (n c : Nat) (xs : List Mk) (w : World) (h : MarksAt w A n xs) (hn : n ≤ 1048576) (hc : n ≤ c) :
    Calls Try.prog 23 #[.slice A n c] w (NewM w (BackF xs)) := by
  by_cases hT : TOk xs
  · obtain ⟨x, hx⟩ := hT
    have HX := Lib.hid (show TIs xs x from hx)
    rw [show BackF xs = _ from onT_pos HX.out]
    clear hx
    go_enter Try.func23, Try.ntmps23
    go_wp2_with (fail)
    refine kB (sTermOk_any A n c xs _ h hn) ?_ (fun _ hne _ => absurd ⟨x, HX.out⟩ hne.out)
    intro w1 _ hb1
    go_wp2_with (fail)
    refine kNewM (l11Back_any x HX.out.1 A n c _ (HX.out.at_ (h.below hb1)) hc (HX.out.len h)) ?_
    intro A' c' w2 hown hb2
    go_wp2
    go_ret
    exact ⟨A', c', rfl, own_base hown hb1.size, hb1.trans (hb2.mono hb1.size)⟩
  · rw [show BackF xs = _ from onT_neg hT]
    have HT := Lib.hid hT
    clear hT
    go_enter Try.func23, Try.ntmps23
    go_wp2_with (fail)
    refine kB (sTermOk_any A n c xs _ h hn) (fun _ hne _ => absurd hne.out HT.out) ?_
    intro w1 hp hb1
    go_wp2
    go_ret
    exact ⟨some ⟨w1.heap.size, 0, none⟩, 0, rfl, OwnM.empty w1 _ hb1.size, hb1.alloc hb1.size _⟩

end Go.Proofs.Ytookhelfbnhadaa
