/- Lengths of terms: the walks of l12Lengths and (*part).lengths, both LengthsOf, both AlikeTerms. -/
import Derived.Test.YtookhelfbnhadaaM6
namespace Go.Proofs.Ytookhelfbnhadaa
open Go.RowKit

def lenV (x : Int × Int × Bool) : Value := .tuple #[.int .i64 x.1, .int .i64 x.2.1, .bool x.2.2]

set_option maxRecDepth 100000 in
set_option maxHeartbeats 1000000 in
theorem l12Lengths_any (t : Tm) : Wf t → ∀ (A : Option Addr) (n c : Nat) (w : World), MarksAt w A n (marksOf t) → n ≤ c → n ≤ 11 →
    Calls Try.prog 82 #[.slice A n c] w (Bl w (lenV (lenS t))) := by
  induction t with
  | step l h =>
    intro wf A n c w hm hc hn
    obtain ⟨b, off, rfl⟩ := hm.some (by rw [← hm.len]; simp [marksOf])
    obtain ⟨-, rfl, c0, c1, c2⟩ := MarksAt.one (x := []) hm
    simp only [List.length_nil, Nat.zero_mul, Nat.add_zero, Nat.zero_add] at c0 c1 c2 hc ⊢
    clear hm
    go_enter Try.func82, Try.ntmps82
    go_wp2
    go_quiet (fail)
    go_wp2
    refine bodyPost_ret (v := lenV (l, h, true)) (by simp [results, Try.results82, go_sem, lenV]) rfl ⟨rfl, below_drewN ((Below.refl _ _).alloc (Nat.le_refl _) _) _⟩
  | one a h ih =>
    intro wf A n c w hm hc hn
    obtain ⟨b, off, rfl⟩ := hm.some (by rw [← hm.len]; simp [marksOf])
    obtain ⟨ha, rfl, c0, c1, c2⟩ := MarksAt.one hm
    clear hm
    have hbd := lenS_bd wf.1
    have IH := Lib.hid (ih wf.1)
    obtain ⟨L, HLe⟩ : ∃ q, Hid (lenS a = q) := ⟨_, rfl⟩
    obtain ⟨lo, hi, ok⟩ := L
    obtain ⟨mn, HMN⟩ : ∃ q, Hid (min hi h = q) := ⟨_, rfl⟩
    have HV := Lib.hid (show lenV (lenS (.one a h)) = lenV (lo, mn, ok && decide (lo ≤ h)) by rw [lenS, HLe.out]; simp only; rw [HMN.out])
    rw [HV.out]
    obtain ⟨p, HP⟩ : ∃ q, Hid ((marksOf a).length = q) := ⟨_, rfl⟩
    rw [HP.out] at ha c0 c1 c2 hc hn ⊢
    simp only at c0 c1 c2
    clear ih
    go_enter Try.func82, Try.ntmps82
    go_wp2_with (fail)
    refine kBV (IH.out (some ⟨b, off, none⟩) p c _ (ha.below ((Below.refl _ _).alloc (Nat.le_refl _) _)) (by omega) (by omega)) ?_
    intro w1 hb1
    rw [HLe.out]
    simp only [lenV]
    have m0 : w1.cell? ⟨w.heap.size, 0, none⟩ = some (.int .i64 3) := keep hb1 (by simp [go_sem])
    have m2 : w1.cell? ⟨w.heap.size, 2, none⟩ = some (.int .i64 h) := keep hb1 (by simp [go_sem])
    have HB1 := Lib.hid (((Below.refl w.heap.size w).alloc (Nat.le_refl _) (.cells #[.int .i64 3, .int .i64 0, .int .i64 h] 27)).trans (hb1.mono (by simp)))
    clear hb1
    have hmn := HMN.out
    by_cases hq : h < hi
    · obtain rfl : mn = h := by rw [← hmn]; omega
      clear hmn
      cases ok with
      | false =>
        go_wp2
        go_quiet (fail)
        go_wp2
        refine bodyPost_ret (v := lenV (lo, mn, false && decide (lo ≤ mn))) (by simp [results, Try.results82, go_sem, lenV]) rfl ⟨rfl, below_drewN HB1.out _⟩
      | true =>
        go_wp2
        go_quiet (fail)
        go_wp2
        refine bodyPost_ret (v := lenV (lo, mn, true && decide (lo ≤ mn))) (by simp [results, Try.results82, go_sem, lenV]) rfl ⟨rfl, below_drewN HB1.out _⟩
    · obtain rfl : mn = hi := by rw [← hmn]; omega
      clear hmn
      cases ok with
      | false =>
        go_wp2
        go_quiet (fail)
        go_wp2
        refine bodyPost_ret (v := lenV (lo, mn, false && decide (lo ≤ h))) (by simp [results, Try.results82, go_sem, lenV]) rfl ⟨rfl, below_drewN HB1.out _⟩
      | true =>
        go_wp2
        go_quiet (fail)
        go_wp2
        refine bodyPost_ret (v := lenV (lo, mn, true && decide (lo ≤ h))) (by simp [results, Try.results82, go_sem, lenV]) rfl ⟨rfl, below_drewN HB1.out _⟩
  | two k x y ihx ihy =>
    intro wf A n c w hm hc hn
    obtain ⟨b, off, rfl⟩ := hm.some (by rw [← hm.len]; exact marks_pos _)
    obtain ⟨hx, hy, rfl, c0, c1, c2⟩ := MarksAt.two hm
    have HAH := Lib.hid (show Ahead (marksOf (.two k x y)) (marksOf x) ((marksOf x).length + (marksOf y).length) 1 from ⟨[y], (by intro z hz; obtain rfl := List.mem_singleton.1 hz; exact wf.2.2), rfl, by rw [allMarks_one, marksOf]; exact List.take_left' (by simp)⟩)
    have hbx := lenS_bd wf.2.1
    have hby := lenS_bd wf.2.2
    have hsx := stepsT_le x
    have hsy := stepsT_le y
    have IHX := Lib.hid (ihx wf.2.1)
    have IHY := Lib.hid (ihy wf.2.2)
    have hq0 := marks_pos y
    obtain ⟨L, HLx⟩ : ∃ q, Hid (lenS x = q) := ⟨_, rfl⟩
    obtain ⟨lo, hi, ok⟩ := L
    obtain ⟨L, HLy⟩ : ∃ q, Hid (lenS y = q) := ⟨_, rfl⟩
    obtain ⟨lo2, hi2, ok2⟩ := L
    rw [HLx.out] at hbx
    rw [HLy.out] at hby
    simp only at hbx hby
    obtain ⟨p, HP⟩ : ∃ q, Hid ((marksOf x).length = q) := ⟨_, rfl⟩
    obtain ⟨q, HQ⟩ : ∃ q, Hid ((marksOf y).length = q) := ⟨_, rfl⟩
    rw [HP.out] at hx hy c0 c1 c2 hc hn hsx HAH ⊢
    rw [HQ.out] at hy c0 c1 c2 hc hn hsy hq0 HAH ⊢
    rw [HP.out, HQ.out] at hm
    have HM := Lib.hid hm
    have HX := Lib.hid hx
    have HY := Lib.hid hy
    simp only at c0 c1 c2
    have hcp : ¬ c = p := by omega
    clear ihx ihy hm hx hy
    have hA0 : Below w.heap.size w (w.alloc (.cells #[.int .i64 k, .int .i64 0, .int .i64 0] 27)) := (Below.refl w.heap.size w).alloc (Nat.le_refl _) _
    rcases wf.1 with rfl | rfl
    · have HV := Lib.hid (show lenV (lenS (.two 1 x y)) = lenV (lo + lo2, hi + hi2, ok && ok2) by rw [lenS, HLx.out, HLy.out]; rfl)
      rw [HV.out]
      go_enter Try.func82, Try.ntmps82
      go_wp2_with (fail)
      refine kV (l11Starts_at (some ⟨b, off, none⟩) (p + q + 1) c (p + q) _ (marksOf x) _ _ (HM.out.below hA0) (by omega) (by omega) HAH.out ?_) ?_
      · push_cast; omega
      rw [HP.out]
      go_wp2_with (fail)
      refine kBV (IHX.out (some ⟨b, off, none⟩) p c _ (HX.out.below hA0) (by omega) (by omega)) ?_
      intro w1 hb1
      rw [HLx.out]
      simp only [lenV]
      have m0 : w1.cell? ⟨w.heap.size, 0, none⟩ = some (.int .i64 1) := keep hb1 (by simp [go_sem])
      have HB1 := Lib.hid (hA0.trans (hb1.mono hA0.size))
      clear hb1
      go_wp2_with (fail)
      refine kBV (IHY.out (some ⟨b, off + p * 3, none⟩) q (c - p) _ (HY.out.below HB1.out) (by omega) (by omega)) ?_
      intro w2 hb2
      rw [HLy.out]
      simp only [lenV]
      replace m0 := keep hb2 m0
      have HB2 := Lib.hid (HB1.out.trans (hb2.mono HB1.out.size))
      clear hb2
      cases ok <;> cases ok2
      all_goals
        go_wp2
        refine bodyPost_ret (v := lenV (lo + lo2, hi + hi2, _)) (by simp [results, Try.results82, go_sem, lenV]) rfl ⟨rfl, HB2.out⟩
    · obtain ⟨mx, HMX⟩ : ∃ q, Hid (max lo lo2 = q) := ⟨_, rfl⟩
      obtain ⟨mn, HMN⟩ : ∃ q, Hid (min hi hi2 = q) := ⟨_, rfl⟩
      have HV := Lib.hid (show lenV (lenS (.two 2 x y)) = lenV (mx, mn, ok && ok2 && decide (mx ≤ mn)) by rw [lenS, HLx.out, HLy.out]; simp only; rw [HMX.out, HMN.out]; rfl)
      rw [HV.out]
      go_enter Try.func82, Try.ntmps82
      go_wp2_with (fail)
      refine kV (l11Starts_at (some ⟨b, off, none⟩) (p + q + 1) c (p + q) _ (marksOf x) _ _ (HM.out.below hA0) (by omega) (by omega) HAH.out ?_) ?_
      · push_cast; omega
      rw [HP.out]
      go_wp2_with (fail)
      refine kBV (IHX.out (some ⟨b, off, none⟩) p c _ (HX.out.below hA0) (by omega) (by omega)) ?_
      intro w1 hb1
      rw [HLx.out]
      simp only [lenV]
      have m0 : w1.cell? ⟨w.heap.size, 0, none⟩ = some (.int .i64 2) := keep hb1 (by simp [go_sem])
      have HB1 := Lib.hid (hA0.trans (hb1.mono hA0.size))
      clear hb1
      go_wp2_with (fail)
      refine kBV (IHY.out (some ⟨b, off + p * 3, none⟩) q (c - p) _ (HY.out.below HB1.out) (by omega) (by omega)) ?_
      intro w2 hb2
      rw [HLy.out]
      simp only [lenV]
      replace m0 := keep hb2 m0
      have HB2 := Lib.hid (HB1.out.trans (hb2.mono HB1.out.size))
      clear hb2
      have hmx := HMX.out
      have hmn := HMN.out
      by_cases hq1 : lo < lo2
      · obtain rfl : mx = lo2 := by rw [← hmx]; omega
        by_cases hq2 : hi2 < hi
        · obtain rfl : mn = hi2 := by rw [← hmn]; omega
          clear hmx hmn
          cases ok <;> cases ok2
          all_goals
            go_wp2
            refine bodyPost_ret (v := lenV (mx, mn, _)) (by simp [results, Try.results82, go_sem, lenV]) rfl ⟨rfl, HB2.out⟩
        · obtain rfl : mn = hi := by rw [← hmn]; omega
          clear hmx hmn
          cases ok <;> cases ok2
          all_goals
            go_wp2
            refine bodyPost_ret (v := lenV (mx, mn, _)) (by simp [results, Try.results82, go_sem, lenV]) rfl ⟨rfl, HB2.out⟩
      · obtain rfl : mx = lo := by rw [← hmx]; omega
        by_cases hq2 : hi2 < hi
        · obtain rfl : mn = hi2 := by rw [← hmn]; omega
          clear hmx hmn
          cases ok <;> cases ok2
          all_goals
            go_wp2
            refine bodyPost_ret (v := lenV (mx, mn, _)) (by simp [results, Try.results82, go_sem, lenV]) rfl ⟨rfl, HB2.out⟩
        · obtain rfl : mn = hi := by rw [← hmn]; omega
          clear hmx hmn
          cases ok <;> cases ok2
          all_goals
            go_wp2
            refine bodyPost_ret (v := lenV (mx, mn, _)) (by simp [results, Try.results82, go_sem, lenV]) rfl ⟨rfl, HB2.out⟩

theorem Pt.openStep {D : Nat → Prop} {w : World} {l h : Int} {a : Addr} (hp : Pt D w (.step l h) a) : ∃ b off A c, a = ⟨b, off, none⟩ ∧ w.cell? ⟨b, off, none⟩ = some (.int .i64 0) ∧ w.cell? ⟨b, off + 1, none⟩ = some (.int .i64 l) ∧ w.cell? ⟨b, off + 2, none⟩ = some (.int .i64 h) ∧ w.cell? ⟨b, off + 3, none⟩ = some (.slice A 0 c) := by
  obtain ⟨b, off, A, c, e, _, h0, h1, h2, h3, _⟩ := hp
  exact ⟨b, off, A, c, e, h0, h1, h2, h3⟩
theorem Pt.openOne {D : Nat → Prop} {w : World} {x : Tm} {h : Int} {a : Addr} (hp : Pt D w (.one x h) a) : ∃ b off kb ko c ax, a = ⟨b, off, none⟩ ∧ w.cell? ⟨b, off, none⟩ = some (.int .i64 3) ∧ w.cell? ⟨b, off + 1, none⟩ = some (.int .i64 0) ∧ w.cell? ⟨b, off + 2, none⟩ = some (.int .i64 h) ∧ w.cell? ⟨b, off + 3, none⟩ = some (.slice (some ⟨kb, ko, none⟩) 1 c) ∧ w.cell? ⟨kb, ko, none⟩ = some (.pointer (some ax)) ∧ Pt D w x ax := by
  obtain ⟨ax, ⟨b, off, A, c, e, _, h0, h1, h2, h3, hr⟩, hx⟩ := hp
  obtain ⟨kb, ko, rfl, _, hc⟩ := hr.cells (by simp)
  have k0 := hc 0 (by simp)
  exact ⟨b, off, kb, ko, c, ax, e, h0, h1, h2, h3, k0, hx⟩
theorem Pt.openTwo {D : Nat → Prop} {w : World} {x y : Tm} {k : Int} {a : Addr} (hp : Pt D w (.two k x y) a) : ∃ b off kb ko c ax ay, a = ⟨b, off, none⟩ ∧ w.cell? ⟨b, off, none⟩ = some (.int .i64 k) ∧ w.cell? ⟨b, off + 1, none⟩ = some (.int .i64 0) ∧ w.cell? ⟨b, off + 2, none⟩ = some (.int .i64 0) ∧ w.cell? ⟨b, off + 3, none⟩ = some (.slice (some ⟨kb, ko, none⟩) 2 c) ∧ w.cell? ⟨kb, ko, none⟩ = some (.pointer (some ax)) ∧ w.cell? ⟨kb, ko + 1, none⟩ = some (.pointer (some ay)) ∧ Pt D w x ax ∧ Pt D w y ay := by
  obtain ⟨ax, ay, ⟨b, off, A, c, e, _, h0, h1, h2, h3, hr⟩, hx, hy⟩ := hp
  obtain ⟨kb, ko, rfl, _, hc⟩ := hr.cells (by simp)
  have k0 := hc 0 (by simp)
  have k1 := hc 1 (by simp)
  exact ⟨b, off, kb, ko, c, ax, ay, e, h0, h1, h2, h3, k0, k1, hx, hy⟩
theorem Pt.drewN {D : Nat → Prop} {w : World} {t : Tm} {a : Addr} (h : Pt D w t a) (m : Nat) : Pt D (w.drewN m) t a := Pt.keep (w := w) (w' := w.drewN m) (fun _ _ _ hd hv => ⟨hv, hd⟩) h

set_option maxRecDepth 100000 in
set_option maxHeartbeats 1000000 in
theorem lengths_any (t : Tm) : Wf t → stepsT t ≤ 1000 → ∀ (a : Addr) (w : World), Pt TT w t a →
    Calls Try.prog 65 #[.pointer (some a)] w (Qt w (lenV (lenI t))) := by
  induction t with
  | step l h =>
    intro wf hs a w hp
    obtain ⟨b, off, A, c, rfl, c0, c1, c2, c3⟩ := hp.openStep
    clear hp
    go_enter Try.func65, Try.ntmps65
    go_wp2
    go_quiet (fail)
    go_wp2
    refine bodyPost_ret (v := lenV (l, h, true)) (by simp [results, Try.results65, go_sem, lenV]) rfl ⟨rfl, _, rfl⟩
  | one x h ih =>
    intro wf hs a w hp
    obtain ⟨b, off, kb, ko, c, ax, rfl, c0, c1, c2, c3, k0, hx⟩ := hp.openOne
    have IH := Lib.hid (ih wf.1 (by simpa [stepsT] using hs) ax)
    have HX := Lib.hid hx
    obtain ⟨L, HLe⟩ : ∃ q, Hid (lenI x = q) := ⟨_, rfl⟩
    obtain ⟨lo, hi, ok⟩ := L
    obtain ⟨mn, HMN⟩ : ∃ q, Hid (min hi h = q) := ⟨_, rfl⟩
    clear ih hp hx
    have hmn := HMN.out
    cases ok with
    | false =>
      have HV := Lib.hid (show lenV (lenI (.one x h)) = lenV (0, 0, false) by rw [lenI, HLe.out]; rfl)
      rw [HV.out]
      clear hmn
      go_enter Try.func65, Try.ntmps65
      go_wp2_with (fail)
      refine kW (IH.out _ HX.out) ?_
      intro m1
      rw [HLe.out]
      simp only [lenV]
      go_wp2
      refine bodyPost_ret (v := lenV (0, 0, false)) (by simp [results, Try.results65, go_sem, lenV]) rfl ⟨rfl, _, rfl⟩
    | true =>
      have HV := Lib.hid (show lenV (lenI (.one x h)) = lenV (lo, mn, decide (lo ≤ mn)) by rw [lenI, HLe.out]; simp only; rw [HMN.out]; rfl)
      rw [HV.out]
      go_enter Try.func65, Try.ntmps65
      go_wp2_with (fail)
      refine kW (IH.out _ HX.out) ?_
      intro m1
      rw [HLe.out]
      simp only [lenV]
      by_cases hq : h < hi
      · obtain rfl : mn = h := by rw [← hmn]; omega
        clear hmn
        go_wp2
        refine bodyPost_ret (v := lenV (lo, mn, decide (lo ≤ mn))) (by simp [results, Try.results65, go_sem, lenV]) rfl ⟨rfl, _, rfl⟩
      · obtain rfl : mn = hi := by rw [← hmn]; omega
        clear hmn
        go_wp2
        refine bodyPost_ret (v := lenV (lo, mn, decide (lo ≤ mn))) (by simp [results, Try.results65, go_sem, lenV]) rfl ⟨rfl, _, rfl⟩
  | two k x y ihx ihy =>
    intro wf hs a w hp
    obtain ⟨b, off, kb, ko, c, ax, ay, rfl, c0, c1, c2, c3, k0, k1, hx, hy⟩ := hp.openTwo
    simp only [stepsT] at hs
    have IHX := Lib.hid (ihx wf.2.1 (by omega) ax)
    have IHY := Lib.hid (ihy wf.2.2 (by omega) ay)
    have HX := Lib.hid hx
    have HY := Lib.hid hy
    have eqx := lenI_eq wf.2.1
    have eqy := lenI_eq wf.2.2
    have bx := lenS_bd wf.2.1
    have by_ := lenS_bd wf.2.2
    obtain ⟨L, HLx⟩ : ∃ q, Hid (lenI x = q) := ⟨_, rfl⟩
    obtain ⟨lo, hi, ok⟩ := L
    obtain ⟨L, HLy⟩ : ∃ q, Hid (lenI y = q) := ⟨_, rfl⟩
    obtain ⟨lo2, hi2, ok2⟩ := L
    clear ihx ihy hp hx hy
    have c1' := c1
    cases ok with
    | false =>
      have HV := Lib.hid (show lenV (lenI (.two k x y)) = lenV (0, 0, false) by rw [lenI, HLx.out]; rfl)
      rw [HV.out]
      clear eqx eqy bx by_
      rcases wf.1 with rfl | rfl
      all_goals
        go_enter Try.func65, Try.ntmps65
        go_wp2_with (fail)
        refine kW (IHX.out _ HX.out) ?_
        intro m1
        rw [HLx.out]
        simp only [lenV]
        go_wp2
        refine bodyPost_ret (v := lenV (0, 0, false)) (by simp [results, Try.results65, go_sem, lenV]) rfl ⟨rfl, _, rfl⟩
    | true =>
      cases ok2 with
      | false =>
        have HV := Lib.hid (show lenV (lenI (.two k x y)) = lenV (0, 0, false) by rw [lenI, HLx.out, HLy.out]; rfl)
        rw [HV.out]
        clear eqx eqy bx by_
        rcases wf.1 with rfl | rfl
        all_goals
          go_enter Try.func65, Try.ntmps65
          go_wp2_with (fail)
          refine kW (IHX.out _ HX.out) ?_
          intro m1
          rw [HLx.out]
          simp only [lenV]
          go_wp2_with (fail)
          refine kW (IHY.out _ (HY.out.drewN m1)) ?_
          intro m2
          rw [HLy.out]
          simp only [lenV, dd]
          go_wp2
          refine bodyPost_ret (v := lenV (0, 0, false)) (by simp [results, Try.results65, go_sem, lenV]) rfl ⟨rfl, _, rfl⟩
      | true =>
        have ex := eqx.2 (by rw [← eqx.1, HLx.out])
        have ey := eqy.2 (by rw [← eqy.1, HLy.out])
        rw [← ex, HLx.out] at bx
        rw [← ey, HLy.out] at by_
        simp only at bx by_
        have hx1 := stepsT x
        clear eqx eqy ex ey
        rcases wf.1 with rfl | rfl
        · have HV := Lib.hid (show lenV (lenI (.two 1 x y)) = lenV (lo + lo2, hi + hi2, true) by rw [lenI, HLx.out, HLy.out]; rfl)
          rw [HV.out]
          go_enter Try.func65, Try.ntmps65
          go_wp2_with (fail)
          refine kW (IHX.out _ HX.out) ?_
          intro m1
          rw [HLx.out]
          simp only [lenV]
          go_wp2_with (fail)
          refine kW (IHY.out _ (HY.out.drewN m1)) ?_
          intro m2
          rw [HLy.out]
          simp only [lenV, dd]
          go_wp2
          refine bodyPost_ret (v := lenV (lo + lo2, hi + hi2, true)) (by simp [results, Try.results65, go_sem, lenV]) rfl ⟨rfl, _, rfl⟩
        · obtain ⟨mx, HMX⟩ : ∃ q, Hid (max lo lo2 = q) := ⟨_, rfl⟩
          obtain ⟨mn, HMN⟩ : ∃ q, Hid (min hi hi2 = q) := ⟨_, rfl⟩
          have HV := Lib.hid (show lenV (lenI (.two 2 x y)) = lenV (mx, mn, decide (mx ≤ mn)) by rw [lenI, HLx.out, HLy.out]; simp only; rw [HMX.out, HMN.out]; rfl)
          rw [HV.out]
          go_enter Try.func65, Try.ntmps65
          go_wp2_with (fail)
          refine kW (IHX.out _ HX.out) ?_
          intro m1
          rw [HLx.out]
          simp only [lenV]
          go_wp2_with (fail)
          refine kW (IHY.out _ (HY.out.drewN m1)) ?_
          intro m2
          rw [HLy.out]
          simp only [lenV, dd]
          have hmx := HMX.out
          have hmn := HMN.out
          by_cases hq1 : lo < lo2
          · obtain rfl : mx = lo2 := by rw [← hmx]; omega
            by_cases hq2 : hi2 < hi
            · obtain rfl : mn = hi2 := by rw [← hmn]; omega
              clear hmx hmn
              go_wp2
              refine bodyPost_ret (v := lenV (mx, mn, _)) (by simp [results, Try.results65, go_sem, lenV]) rfl ⟨rfl, _, rfl⟩
            · obtain rfl : mn = hi := by rw [← hmn]; omega
              clear hmx hmn
              go_wp2
              refine bodyPost_ret (v := lenV (mx, mn, _)) (by simp [results, Try.results65, go_sem, lenV]) rfl ⟨rfl, _, rfl⟩
          · obtain rfl : mx = lo := by rw [← hmx]; omega
            by_cases hq2 : hi2 < hi
            · obtain rfl : mn = hi2 := by rw [← hmn]; omega
              clear hmx hmn
              go_wp2
              refine bodyPost_ret (v := lenV (mx, mn, _)) (by simp [results, Try.results65, go_sem, lenV]) rfl ⟨rfl, _, rfl⟩
            · obtain rfl : mn = hi := by rw [← hmn]; omega
              clear hmx hmn
              go_wp2
              refine bodyPost_ret (v := lenV (mx, mn, _)) (by simp [results, Try.results65, go_sem, lenV]) rfl ⟨rfl, _, rfl⟩

end Go.Proofs.Ytookhelfbnhadaa
