/- (*part).lastsFor. -/
import Derived.Test.YtookhelfbnhadaaMF
import Derived.Deep.DrawnRows
namespace Go.Proofs.Ytookhelfbnhadaa
open Go.RowKit
attribute [local go_sem ↓] Go.wp_at_zero Go.wp_at_succ

theorem lenS_ok_two {k : Int} {a b : Tm} (h : (lenS (.two k a b)).2.2 = true) : (lenS a).2.2 = true ∧ (lenS b).2.2 = true := by
  simp only [lenS] at h
  split at h <;> simp only [Bool.and_eq_true] at h
  · exact h
  · exact h.1
theorem lenS_ok_one {a : Tm} {hh : Int} (h : (lenS (.one a hh)).2.2 = true) : (lenS a).2.2 = true := by
  simp only [lenS, Bool.and_eq_true] at h; exact h.1

set_option maxRecDepth 100000 in
set_option maxHeartbeats 40000000 in
theorem lastsFor_any (t : Tm) : Wf t → (lenS t).2.2 = true → stepsT t ≤ 1000 → ∀ (a : Addr) (tot N : Int) (w : World), Pt TT w t a → -N ≤ tot → tot ≤ N → 19 * (stepsT t : Int) ≤ 209 → N + 209 * ((marksOf t).length : Int) ≤ 1000000 →
    Calls Try.prog 63 #[.pointer (some a), .int .i64 tot] w (NewI w (forT t tot)) := by
  induction t with
  | step l h =>
    intro wf _ _ a tot N w hp hN0 hN1 _ hN2
    obtain ⟨b, off, A, c, rfl, c0, c1, c2, c3⟩ := hp.openStep
    clear hp
    go_enter Try.func63, Try.ntmps63
    go_wp2
    go_ret
    exact ⟨_, _, rfl, own_lit_at rfl w.heap.size _ 1 #[.int .i64 tot] 1 (Nat.le_refl _) (by decide) rfl, (Below.refl _ _).alloc (Nat.le_refl _) _⟩
  | one x h ih =>
    intro wf hok hs a tot N w hp hN0 hN1 h19 hN2
    obtain ⟨b, off, kb, ko, c, ax, rfl, c0, c1, c2, c3, k0, hx⟩ := hp.openOne
    simp only [stepsT] at hs h19
    have IH := Lib.hid (ih wf.1 (lenS_ok_one hok) hs ax tot N)
    have HX := Lib.hid hx
    simp only [forT]
    rw [marksOf, List.length_append, List.length_singleton] at hN2
    push_cast at hN2
    clear ih hp hx
    go_enter Try.func63, Try.ntmps63
    go_wp2_with (fail)
    refine kNewI (IH.out _ HX.out hN0 hN1 h19 (by omega)) ?_
    intro A' c' w1 hown hb1
    go_wp2
    go_ret
    exact ⟨A', c', rfl, hown, hb1⟩
  | two k x y ihx ihy =>
    intro wf hok hs a tot N w hp hN0 hN1 h19 hN2
    obtain ⟨b, off, kb, ko, c, ax, ay, rfl, c0, c1, c2, c3, k0, k1, hx, hy⟩ := hp.openTwo
    simp only [stepsT] at hs h19
    have hok2 := lenS_ok_two hok
    have HIX := Lib.hid (ihx wf.2.1 hok2.1 (by omega) ax)
    have HIY := Lib.hid (ihy wf.2.2 hok2.2 (by omega) ay)
    have HLX := Lib.hid (lengths_any x wf.2.1 (by omega) ax)
    have HLY := Lib.hid (lengths_any y wf.2.2 (by omega) ay)
    have ex := (lenI_eq wf.2.1).2 hok2.1
    have ey := (lenI_eq wf.2.2).2 hok2.2
    have hbx := lenS_bd wf.2.1
    have hby := lenS_bd wf.2.2
    rw [ex] at HLX
    rw [ey] at HLY
    have HX := Lib.hid hx
    have HY := Lib.hid hy
    have HFX := Lib.hid (fun u => forT_len x u)
    have HFY := Lib.hid (fun u => forT_len y u)
    have HSX := Lib.hid (stepsT_pos x)
    have HSY := Lib.hid (stepsT_pos y)
    have hq0 := marks_pos y
    have hp0 := marks_pos x
    rw [marksOf, List.length_append, List.length_append, List.length_singleton] at hN2
    push_cast at hN2
    simp only [forT]
    obtain ⟨L, HLx⟩ : ∃ q, Hid (lenS x = q) := ⟨_, rfl⟩
    obtain ⟨lo, hi, ok⟩ := L
    obtain ⟨L, HLy⟩ : ∃ q, Hid (lenS y = q) := ⟨_, rfl⟩
    obtain ⟨lo2, hi2, ok2⟩ := L
    rw [HLx.out] at hbx HLX ⊢
    rw [HLy.out] at hby HLY ⊢
    obtain ⟨s1, HS1⟩ : ∃ q, Hid (stepsT x = q) := ⟨_, rfl⟩
    obtain ⟨s2, HS2⟩ : ∃ q, Hid (stepsT y = q) := ⟨_, rfl⟩
    rw [HS1.out] at hbx HFX HSX hs h19 HIX
    rw [HS2.out] at hby HFY HSY hs h19 HIY
    obtain ⟨p, HP⟩ : ∃ q, Hid ((marksOf x).length = q) := ⟨_, rfl⟩
    obtain ⟨q, HQ⟩ : ∃ q, Hid ((marksOf y).length = q) := ⟨_, rfl⟩
    rw [HP.out] at hN2 hp0 HIX
    rw [HQ.out] at hN2 hq0 HIY
    simp only at hbx hby ⊢
    have C3 := Lib.hid c3
    have K0 := Lib.hid k0
    have K1 := Lib.hid k1
    have h1 := HSX.out
    have h2 := HSY.out
    clear ihx ihy hp hx hy ex ey hok2 hok
    rcases wf.1 with rfl | rfl
    · rw [if_pos rfl]
      obtain ⟨f, HFI⟩ : ∃ f, Hid (max lo (tot - hi2) = f) := ⟨_, rfl⟩
      have hmax := HFI.out
      rw [HFI.out]
      have hf0 : -(N + 209) ≤ f := by omega
      have hf1 : f ≤ N + 209 := by omega
      have hg0 : -(N + 209) ≤ tot - f := by omega
      have hg1 : tot - f ≤ N + 209 := by omega
      have HWR := Lib.hid (wrap_id (x := tot - f) (by omega) (by omega))
      have HWF := Lib.hid (wrap_id (x := f) (by omega) (by omega))
      have HA := Lib.hid (HFX.out f)
      have HB := Lib.hid (HFY.out (tot - f))
      obtain ⟨F1, HF1⟩ : ∃ q, Hid (forT x f = q) := ⟨_, rfl⟩
      obtain ⟨F2, HF2⟩ : ∃ q, Hid (forT y (tot - f) = q) := ⟨_, rfl⟩
      rw [HF1.out] at HA ⊢
      rw [HF2.out] at HB ⊢
      have HCX := Lib.hid (show ∀ (w : World), Pt TT w x ax → Calls Try.prog 63 #[.pointer (some ax), .int .i64 f] w (NewI w F1) from fun w hm => by
        have h := HIX.out f (N + 209) w hm hf0 hf1 (by omega) (by omega)
        rwa [HF1.out] at h)
      have HCY := Lib.hid (show ∀ (w : World), Pt TT w y ay → Calls Try.prog 63 #[.pointer (some ay), .int .i64 (tot - f)] w (NewI w F2) from fun w hm => by
        have h := HIY.out (tot - f) (N + 209) w hm hg0 hg1 (by omega) (by omega)
        rwa [HF2.out] at h)
      go_enter Try.func63, Try.ntmps63
      go_wp2_with (fail)
      refine kW (HLX.out _ HX.out) ?_
      intro m1
      simp only [lenV]
      go_wp2_with (fail)
      refine kW (HLY.out _ (HY.out.drewN m1)) ?_
      intro m2
      simp only [lenV, dd]
      by_cases hq1 : lo < tot - hi2
      · obtain rfl : f = tot - hi2 := by rw [← hmax]; omega
        clear hmax
        go_wp2_with (fail)
        go_region_held_law (fun w' => w'.cell? ⟨b, off + 3, none⟩ = some (.slice (some ⟨kb, ko, none⟩) 2 c) ∧ w'.cell? ⟨kb, ko, none⟩ = some (.pointer (some ax)) ∧ w'.cell? ⟨kb, ko + 1, none⟩ = some (.pointer (some ay)))
          (first | exact ⟨c3, k0, k1⟩ | exact ⟨keep HB4.out C3.out, keep HB4.out K0.out, keep HB4.out K1.out⟩ | exact ⟨keep HB3.out C3.out, keep HB3.out K0.out, keep HB3.out K1.out⟩ | exact ⟨keep HBB.out C3.out, keep HBB.out K0.out, keep HBB.out K1.out⟩)
          (first
          | (go_at_call 63; (try rw [HWF.out]); with_reducible first | refine kNewI (HCX.out _ (HX.out.drewN _)) ?_ | refine kNewI (HCX.out _ (HX.out.below (Below.refl _ _).drew)) ?_
             intro A1 c1' w3 hown1 hb3
             have HO3 := Lib.hid hown1
             have HB3 := Lib.hid (Below.trans (show Below w.heap.size w _ from by first | exact below_drewN (Below.refl _ _) _ | exact (Below.refl _ _).drew) hb3))
          | (go_at_call 63; (try rw [HWR.out]); with_reducible refine kNewI (HCY.out _ (HY.out.below HB3.out)) ?_
             intro A2 c2' w4 hown2 hb4
             have HO3' := Lib.hid (own_base (own_below HO3.out hb4) (Nat.le_refl _))
             have HB4 := Lib.hid (HB3.out.trans (hb4.mono HB3.out.size))
             obtain ⟨g2, rfl, hg2a, hg2⟩ := own_cellsD hown2 (by rw [HB.out]; exact HSY.out)
             have HO4 := Lib.hid hown2)
          | (refine step_app rowI (by rfl) _ _ (by rfl) w.heap.size _ F1.length (vI F1) (by rfl) HO3'.out ⟨g2, 0, none⟩ F2.length c2' (vI F2) (by rfl) (vI_len _) (OwnI.news HO4.out) (vI_one _) (by rw [HB.out]; exact HSY.out) (by rw [HA.out, HB.out]; omega) HB4.out.size ?_
             intro g' cap' wB hownB hgrow _ _
             have HBB := Lib.hid (HB4.out.grown hgrow HB4.out.size (fun k hk => (HO3'.out.lt k hk).1))))
        all_goals
          go_wp2
          go_ret
          have hl2 : (F1 ++ F2).length = F1.length + F2.length := List.length_append
          refine ⟨some ⟨g', 0, none⟩, cap', by rw [hl2]; first | (simp; done) | rfl, ?_, HBB.out⟩
          show World.ownsRow _ _ _ _ _ _ (vI _)
          rw [hl2, vI_append]; exact hownB
      · obtain rfl : f = lo := by rw [← hmax]; omega
        clear hmax
        go_wp2_with (fail)
        go_region_held_law (fun w' => w'.cell? ⟨b, off + 3, none⟩ = some (.slice (some ⟨kb, ko, none⟩) 2 c) ∧ w'.cell? ⟨kb, ko, none⟩ = some (.pointer (some ax)) ∧ w'.cell? ⟨kb, ko + 1, none⟩ = some (.pointer (some ay)))
          (first | exact ⟨c3, k0, k1⟩ | exact ⟨keep HB4.out C3.out, keep HB4.out K0.out, keep HB4.out K1.out⟩ | exact ⟨keep HB3.out C3.out, keep HB3.out K0.out, keep HB3.out K1.out⟩ | exact ⟨keep HBB.out C3.out, keep HBB.out K0.out, keep HBB.out K1.out⟩)
          (first
          | (go_at_call 63; (try rw [HWF.out]); with_reducible first | refine kNewI (HCX.out _ (HX.out.drewN _)) ?_ | refine kNewI (HCX.out _ (HX.out.below (Below.refl _ _).drew)) ?_
             intro A1 c1' w3 hown1 hb3
             have HO3 := Lib.hid hown1
             have HB3 := Lib.hid (Below.trans (show Below w.heap.size w _ from by first | exact below_drewN (Below.refl _ _) _ | exact (Below.refl _ _).drew) hb3))
          | (go_at_call 63; (try rw [HWR.out]); with_reducible refine kNewI (HCY.out _ (HY.out.below HB3.out)) ?_
             intro A2 c2' w4 hown2 hb4
             have HO3' := Lib.hid (own_base (own_below HO3.out hb4) (Nat.le_refl _))
             have HB4 := Lib.hid (HB3.out.trans (hb4.mono HB3.out.size))
             obtain ⟨g2, rfl, hg2a, hg2⟩ := own_cellsD hown2 (by rw [HB.out]; exact HSY.out)
             have HO4 := Lib.hid hown2)
          | (refine step_app rowI (by rfl) _ _ (by rfl) w.heap.size _ F1.length (vI F1) (by rfl) HO3'.out ⟨g2, 0, none⟩ F2.length c2' (vI F2) (by rfl) (vI_len _) (OwnI.news HO4.out) (vI_one _) (by rw [HB.out]; exact HSY.out) (by rw [HA.out, HB.out]; omega) HB4.out.size ?_
             intro g' cap' wB hownB hgrow _ _
             have HBB := Lib.hid (HB4.out.grown hgrow HB4.out.size (fun k hk => (HO3'.out.lt k hk).1))))
        all_goals
          go_wp2
          go_ret
          have hl2 : (F1 ++ F2).length = F1.length + F2.length := List.length_append
          refine ⟨some ⟨g', 0, none⟩, cap', by rw [hl2]; first | (simp; done) | rfl, ?_, HBB.out⟩
          show World.ownsRow _ _ _ _ _ _ (vI _)
          rw [hl2, vI_append]; exact hownB
    · rw [if_neg (by decide)]
      have HWR := Lib.hid (wrap_id (x := tot) (by omega) (by omega))
      have HWF := HWR
      have HA := Lib.hid (HFX.out tot)
      have HB := Lib.hid (HFY.out tot)
      obtain ⟨F1, HF1⟩ : ∃ q, Hid (forT x tot = q) := ⟨_, rfl⟩
      obtain ⟨F2, HF2⟩ : ∃ q, Hid (forT y tot = q) := ⟨_, rfl⟩
      rw [HF1.out] at HA ⊢
      rw [HF2.out] at HB ⊢
      have HCX := Lib.hid (show ∀ (w : World), Pt TT w x ax → Calls Try.prog 63 #[.pointer (some ax), .int .i64 tot] w (NewI w F1) from fun w hm => by
        have h := HIX.out tot N w hm hN0 hN1 (by omega) (by omega)
        rwa [HF1.out] at h)
      have HCY := Lib.hid (show ∀ (w : World), Pt TT w y ay → Calls Try.prog 63 #[.pointer (some ay), .int .i64 tot] w (NewI w F2) from fun w hm => by
        have h := HIY.out tot N w hm hN0 hN1 (by omega) (by omega)
        rwa [HF2.out] at h)
      go_enter Try.func63, Try.ntmps63
      go_wp2_with (fail)
      go_region_held_law (fun w' => w'.cell? ⟨b, off + 3, none⟩ = some (.slice (some ⟨kb, ko, none⟩) 2 c) ∧ w'.cell? ⟨kb, ko, none⟩ = some (.pointer (some ax)) ∧ w'.cell? ⟨kb, ko + 1, none⟩ = some (.pointer (some ay)))
        (first | exact ⟨c3, k0, k1⟩ | exact ⟨keep HB4.out C3.out, keep HB4.out K0.out, keep HB4.out K1.out⟩ | exact ⟨keep HB3.out C3.out, keep HB3.out K0.out, keep HB3.out K1.out⟩ | exact ⟨keep HBB.out C3.out, keep HBB.out K0.out, keep HBB.out K1.out⟩)
        (first
        | (go_at_call 63; (try rw [HWF.out]); with_reducible first | refine kNewI (HCX.out _ (HX.out.drewN _)) ?_ | refine kNewI (HCX.out _ (HX.out.below (Below.refl _ _).drew)) ?_
           intro A1 c1' w3 hown1 hb3
           have HO3 := Lib.hid hown1
           have HB3 := Lib.hid (Below.trans (show Below w.heap.size w _ from by first | exact below_drewN (Below.refl _ _) _ | exact (Below.refl _ _).drew) hb3))
        | (go_at_call 63; (try rw [HWR.out]); with_reducible refine kNewI (HCY.out _ (HY.out.below HB3.out)) ?_
           intro A2 c2' w4 hown2 hb4
           have HO3' := Lib.hid (own_base (own_below HO3.out hb4) (Nat.le_refl _))
           have HB4 := Lib.hid (HB3.out.trans (hb4.mono HB3.out.size))
           obtain ⟨g2, rfl, hg2a, hg2⟩ := own_cellsD hown2 (by rw [HB.out]; exact HSY.out)
           have HO4 := Lib.hid hown2)
        | (refine step_app rowI (by rfl) _ _ (by rfl) w.heap.size _ F1.length (vI F1) (by rfl) HO3'.out ⟨g2, 0, none⟩ F2.length c2' (vI F2) (by rfl) (vI_len _) (OwnI.news HO4.out) (vI_one _) (by rw [HB.out]; exact HSY.out) (by rw [HA.out, HB.out]; omega) HB4.out.size ?_
           intro g' cap' wB hownB hgrow _ _
           have HBB := Lib.hid (HB4.out.grown hgrow HB4.out.size (fun k hk => (HO3'.out.lt k hk).1))))
      all_goals
        go_wp2
        go_ret
        have hl2 : (F1 ++ F2).length = F1.length + F2.length := List.length_append
        refine ⟨some ⟨g', 0, none⟩, cap', by rw [hl2]; first | (simp; done) | rfl, ?_, HBB.out⟩
        show World.ownsRow _ _ _ _ _ _ (vI _)
        rw [hl2, vI_append]; exact hownB

end Go.Proofs.Ytookhelfbnhadaa
