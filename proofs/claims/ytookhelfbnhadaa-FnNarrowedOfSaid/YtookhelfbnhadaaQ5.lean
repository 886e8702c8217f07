/- Narrowed terms: plain facts: what a window leaves of a term; each number that is left may be. -/
import Derived.Test.YtookhelfbnhadaaQ4
import Derived.Test.YtookhelfbnhadaaMK
namespace Go.Proofs.Ytookhelfbnhadaa

/-- The window meets the lengths. -/
def Meets (t : Tm) (lo hi : Int) : Prop := (lenS t).2.2 = true ∧ lo ≤ hi ∧ lo ≤ (lenS t).2.1 ∧ (lenS t).1 ≤ hi
theorem nar_wf {t : Tm} (w : Wf t) : ∀ lo hi, Meets t lo hi → Wf (narS t lo hi) := by
  induction t with
  | step l h =>
    intro lo hi hm
    obtain ⟨_, h1, h2, h3⟩ := hm
    obtain ⟨w0, w1, w2⟩ := w
    simp only [lenS] at h2 h3
    simp only [narS]
    exact ⟨by omega, by omega, by omega⟩
  | one a h ih =>
    intro lo hi hm
    obtain ⟨h0, h1, h2, h3⟩ := hm
    simp only [lenS, Bool.and_eq_true, decide_eq_true_eq] at h0 h2 h3
    have hl := lenS_le w.1 h0.1
    exact ⟨ih w.1 lo (min hi h) ⟨h0.1, by omega, by omega, by omega⟩, w.2⟩
  | two k a b iha ihb =>
    intro lo hi hm
    obtain ⟨h0, h1, h2, h3⟩ := hm
    by_cases hk : k = 1
    · simp only [lenS, if_pos hk, Bool.and_eq_true] at h0 h2 h3
      have la := lenS_le w.2.1 h0.1
      have lb := lenS_le w.2.2 h0.2
      simp only [narS, if_pos hk]
      exact ⟨w.1, iha w.2.1 _ _ ⟨h0.1, by omega, by omega, by omega⟩, ihb w.2.2 _ _ ⟨h0.2, by omega, by omega, by omega⟩⟩
    · simp only [lenS, if_neg hk, Bool.and_eq_true, decide_eq_true_eq] at h0 h2 h3
      have la := lenS_le w.2.1 h0.1.1
      have lb := lenS_le w.2.2 h0.1.2
      simp only [narS, if_neg hk]
      exact ⟨w.1, iha w.2.1 _ _ ⟨h0.1.1, by omega, by omega, by omega⟩, ihb w.2.2 _ _ ⟨h0.1.2, by omega, by omega, by omega⟩⟩
/-- The lengths of what is left. -/
theorem nar_len {t : Tm} (w : Wf t) : ∀ lo hi, Meets t lo hi → (lenS (narS t lo hi)).2.2 = true ∧ (lenS t).1 ≤ (lenS (narS t lo hi)).1 ∧ (lenS (narS t lo hi)).1 ≤ max lo (lenS t).1 ∧ min hi (lenS t).2.1 ≤ (lenS (narS t lo hi)).2.1 ∧ (lenS (narS t lo hi)).2.1 ≤ (lenS t).2.1 := by
  induction t with
  | step l h =>
    intro lo hi hm
    obtain ⟨_, h1, h2, h3⟩ := hm
    simp only [lenS] at h2 h3
    simp only [narS, lenS]
    exact ⟨trivial, by omega, by omega, by omega, by omega⟩
  | one a h ih =>
    intro lo hi hm
    obtain ⟨h0, h1, h2, h3⟩ := hm
    simp only [lenS, Bool.and_eq_true, decide_eq_true_eq] at h0 h2 h3
    have hl := lenS_le w.1 h0.1
    have := ih w.1 lo (min hi h) ⟨h0.1, by omega, by omega, by omega⟩
    obtain ⟨i0, i1, i2, i3, i4⟩ := this
    simp only [narS, lenS, Bool.and_eq_true, decide_eq_true_eq]
    exact ⟨⟨i0, by omega⟩, by omega, by omega, by omega, by omega⟩
  | two k a b iha ihb =>
    intro lo hi hm
    obtain ⟨h0, h1, h2, h3⟩ := hm
    by_cases hk : k = 1
    · simp only [lenS, if_pos hk, Bool.and_eq_true] at h0 h2 h3
      have la := lenS_le w.2.1 h0.1
      have lb := lenS_le w.2.2 h0.2
      obtain ⟨i0, i1, i2, i3, i4⟩ := iha w.2.1 (max (lenS a).1 (lo - (lenS b).2.1)) (min (lenS a).2.1 (hi - (lenS b).1)) ⟨h0.1, by omega, by omega, by omega⟩
      obtain ⟨j0, j1, j2, j3, j4⟩ := ihb w.2.2 (max (lenS b).1 (lo - (lenS a).2.1)) (min (lenS b).2.1 (hi - (lenS a).1)) ⟨h0.2, by omega, by omega, by omega⟩
      simp only [narS, if_pos hk, lenS, Bool.and_eq_true]
      exact ⟨⟨i0, j0⟩, by omega, by omega, by omega, by omega⟩
    · simp only [lenS, if_neg hk, Bool.and_eq_true, decide_eq_true_eq] at h0 h2 h3
      have la := lenS_le w.2.1 h0.1.1
      have lb := lenS_le w.2.2 h0.1.2
      obtain ⟨i0, i1, i2, i3, i4⟩ := iha w.2.1 (max (max (lenS a).1 (lenS b).1) lo) (min (min (lenS a).2.1 (lenS b).2.1) hi) ⟨h0.1.1, by omega, by omega, by omega⟩
      obtain ⟨j0, j1, j2, j3, j4⟩ := ihb w.2.2 (max (max (lenS a).1 (lenS b).1) lo) (min (min (lenS a).2.1 (lenS b).2.1) hi) ⟨h0.1.2, by omega, by omega, by omega⟩
      simp only [narS, if_neg hk, lenS, Bool.and_eq_true, decide_eq_true_eq]
      exact ⟨⟨⟨i0, j0⟩, by omega⟩, by omega, by omega, by omega, by omega⟩
/-- Only the window's part that meets the lengths matters. -/
theorem nar_win {t : Tm} (w : Wf t) (hok : (lenS t).2.2 = true) : ∀ lo hi lo' hi', max lo (lenS t).1 = max lo' (lenS t).1 → min hi (lenS t).2.1 = min hi' (lenS t).2.1 → narS t lo hi = narS t lo' hi' := by
  induction t with
  | step l h =>
    intro lo hi lo' hi' h1 h2
    simp only [lenS] at h1 h2
    simp only [narS]
    rw [show max l lo = max l lo' by omega, show min h hi = min h hi' by omega]
  | one a h ih =>
    intro lo hi lo' hi' h1 h2
    simp only [lenS] at h1 h2
    simp only [narS]
    rw [ih w.1 (lenS_ok_one hok) lo (min hi h) lo' (min hi' h) h1 (by omega)]
  | two k a b iha ihb =>
    intro lo hi lo' hi' h1 h2
    have ho := lenS_ok_two hok
    have la := lenS_le w.2.1 ho.1
    have lb := lenS_le w.2.2 ho.2
    by_cases hk : k = 1
    · simp only [lenS, if_pos hk] at h1 h2
      simp only [narS, if_pos hk]
      rw [iha w.2.1 ho.1 _ _ (max (lenS a).1 (lo' - (lenS b).2.1)) (min (lenS a).2.1 (hi' - (lenS b).1)) (by omega) (by omega), ihb w.2.2 ho.2 _ _ (max (lenS b).1 (lo' - (lenS a).2.1)) (min (lenS b).2.1 (hi' - (lenS a).1)) (by omega) (by omega)]
    · simp only [lenS, if_neg hk] at h1 h2
      simp only [narS, if_neg hk]
      rw [show max (max (lenS a).1 (lenS b).1) lo = max (max (lenS a).1 (lenS b).1) lo' by omega, show min (min (lenS a).2.1 (lenS b).2.1) hi = min (min (lenS a).2.1 (lenS b).2.1) hi' by omega]
/-- Narrowed again it stays. -/
theorem nar_nar {t : Tm} (w : Wf t) : ∀ lo hi, Meets t lo hi → narS (narS t lo hi) lo hi = narS t lo hi := by
  induction t with
  | step l h =>
    intro lo hi hm
    simp only [narS]
    rw [show max (max l lo) lo = max l lo by omega, show min (min h hi) hi = min h hi by omega]
  | one a h ih =>
    intro lo hi hm
    obtain ⟨h0, h1, h2, h3⟩ := hm
    simp only [lenS, Bool.and_eq_true, decide_eq_true_eq] at h0 h2 h3
    have hl := lenS_le w.1 h0.1
    simp only [narS]
    rw [ih w.1 lo (min hi h) ⟨h0.1, by omega, by omega, by omega⟩]
  | two k a b iha ihb =>
    intro lo hi hm
    obtain ⟨h0, h1, h2, h3⟩ := hm
    by_cases hk : k = 1
    · simp only [lenS, if_pos hk, Bool.and_eq_true] at h0 h2 h3
      have la := lenS_le w.2.1 h0.1
      have lb := lenS_le w.2.2 h0.2
      have ma : Meets a (max (lenS a).1 (lo - (lenS b).2.1)) (min (lenS a).2.1 (hi - (lenS b).1)) := ⟨h0.1, by omega, by omega, by omega⟩
      have mb : Meets b (max (lenS b).1 (lo - (lenS a).2.1)) (min (lenS b).2.1 (hi - (lenS a).1)) := ⟨h0.2, by omega, by omega, by omega⟩
      obtain ⟨i0, i1, i2, i3, i4⟩ := nar_len w.2.1 _ _ ma
      obtain ⟨j0, j1, j2, j3, j4⟩ := nar_len w.2.2 _ _ mb
      have ha := iha w.2.1 _ _ ma
      have hb := ihb w.2.2 _ _ mb
      simp only [narS, if_pos hk]
      congr 1
      · rw [nar_win (nar_wf w.2.1 _ _ ma) i0 _ _ (max (lenS a).1 (lo - (lenS b).2.1)) (min (lenS a).2.1 (hi - (lenS b).1)) (by omega) (by omega)]
        exact ha
      · rw [nar_win (nar_wf w.2.2 _ _ mb) j0 _ _ (max (lenS b).1 (lo - (lenS a).2.1)) (min (lenS b).2.1 (hi - (lenS a).1)) (by omega) (by omega)]
        exact hb
    · simp only [lenS, if_neg hk, Bool.and_eq_true, decide_eq_true_eq] at h0 h2 h3
      have la := lenS_le w.2.1 h0.1.1
      have lb := lenS_le w.2.2 h0.1.2
      have ma : Meets a (max (max (lenS a).1 (lenS b).1) lo) (min (min (lenS a).2.1 (lenS b).2.1) hi) := ⟨h0.1.1, by omega, by omega, by omega⟩
      have mb : Meets b (max (max (lenS a).1 (lenS b).1) lo) (min (min (lenS a).2.1 (lenS b).2.1) hi) := ⟨h0.1.2, by omega, by omega, by omega⟩
      obtain ⟨i0, i1, i2, i3, i4⟩ := nar_len w.2.1 _ _ ma
      obtain ⟨j0, j1, j2, j3, j4⟩ := nar_len w.2.2 _ _ mb
      have ha := iha w.2.1 _ _ ma
      have hb := ihb w.2.2 _ _ mb
      simp only [narS, if_neg hk]
      congr 1
      · rw [nar_win (nar_wf w.2.1 _ _ ma) i0 _ _ (max (max (lenS a).1 (lenS b).1) lo) (min (min (lenS a).2.1 (lenS b).2.1) hi) (by omega) (by omega)]
        exact ha
      · rw [nar_win (nar_wf w.2.2 _ _ mb) j0 _ _ (max (max (lenS a).1 (lenS b).1) lo) (min (min (lenS a).2.1 (lenS b).2.1) hi) (by omega) (by omega)]
        exact hb
/-- A step may be given a number exactly if that is left. -/
theorem nar_step {t : Tm} (w : Wf t) : ∀ lo hi, Meets t lo hi → ∀ s, s < stepsT t →
    ((stepAt t s).1 ≤ (stepAt (narS t lo hi) s).1 ∧ (stepAt (narS t lo hi) s).1 ≤ (stepAt (narS t lo hi) s).2 ∧ (stepAt (narS t lo hi) s).2 ≤ (stepAt t s).2) ∧
    ∀ v, (stepAt t s).1 ≤ v → v ≤ (stepAt t s).2 → (((stepAt (narS t lo hi) s).1 ≤ v ∧ v ≤ (stepAt (narS t lo hi) s).2) ↔ ((lenS (givT t s v)).2.2 = true ∧ (lenS (givT t s v)).1 ≤ hi ∧ lo ≤ (lenS (givT t s v)).2.1)) := by
  induction t with
  | step l h =>
    intro lo hi hm s hs
    simp only [stepsT] at hs
    obtain rfl : s = 0 := by omega
    obtain ⟨_, h1, h2, h3⟩ := hm
    simp only [lenS] at h2 h3
    obtain ⟨w0, w1, w2⟩ := w
    simp only [narS, stepAt, givT, if_true, lenS]
    refine ⟨⟨by omega, by omega, by omega⟩, fun v v0 v1 => ⟨fun hv => ⟨trivial, by omega, by omega⟩, fun hv => ⟨by omega, by omega⟩⟩⟩
  | one a h ih =>
    intro lo hi hm s hs
    simp only [stepsT] at hs
    obtain ⟨h0, h1, h2, h3⟩ := hm
    simp only [lenS, Bool.and_eq_true, decide_eq_true_eq] at h0 h2 h3
    have hl := lenS_le w.1 h0.1
    obtain ⟨i1, i2⟩ := ih w.1 lo (min hi h) ⟨h0.1, by omega, by omega, by omega⟩ s hs
    simp only [narS, stepAt, givT, lenS, Bool.and_eq_true, decide_eq_true_eq]
    refine ⟨i1, fun v v0 v1 => ?_⟩
    rw [i2 v v0 v1]
    constructor
    · rintro ⟨k0, k1, k2⟩; exact ⟨⟨k0, by omega⟩, by omega, by omega⟩
    · rintro ⟨⟨k0, k1⟩, k2, k3⟩; exact ⟨k0, by omega, by omega⟩
  | two k a b iha ihb =>
    intro lo hi hm s hs
    simp only [stepsT] at hs
    obtain ⟨h0, h1, h2, h3⟩ := hm
    have hsa : ∀ lo hi, stepsT (narS a lo hi) = stepsT a := by
      have key : ∀ t : Tm, ∀ lo hi, stepsT (narS t lo hi) = stepsT t := by
        intro t
        induction t with
        | step l h => intro lo hi; rfl
        | one a h ih => intro lo hi; exact ih _ _
        | two k a b iha ihb => intro lo hi; simp only [narS]; split <;> simp only [stepsT, iha, ihb]
      exact key a
    by_cases hk : k = 1
    · simp only [lenS, if_pos hk, Bool.and_eq_true] at h0 h2 h3
      have la := lenS_le w.2.1 h0.1
      have lb := lenS_le w.2.2 h0.2
      by_cases hlt : s < stepsT a
      · obtain ⟨i1, i2⟩ := iha w.2.1 (max (lenS a).1 (lo - (lenS b).2.1)) (min (lenS a).2.1 (hi - (lenS b).1)) ⟨h0.1, by omega, by omega, by omega⟩ s hlt
        simp only [narS, if_pos hk, stepAt, hsa, if_pos hlt, givT, lenS, Bool.and_eq_true]
        refine ⟨i1, fun v v0 v1 => ?_⟩
        rw [i2 v v0 v1]
        have hb0 := stepAt_bd w.2.1 s
        have hsub := fun hok => giv_in w.2.1 s v v0 v1 hok
        constructor
        · rintro ⟨k0, k1, k2⟩; exact ⟨⟨k0, h0.2⟩, by omega, by omega⟩
        · rintro ⟨⟨k0, _⟩, k2, k3⟩
          have := hsub k0
          have := lenS_le (givT_wf w.2.1 s v (by omega) (by omega)) k0
          exact ⟨k0, by omega, by omega⟩
      · obtain ⟨i1, i2⟩ := ihb w.2.2 (max (lenS b).1 (lo - (lenS a).2.1)) (min (lenS b).2.1 (hi - (lenS a).1)) ⟨h0.2, by omega, by omega, by omega⟩ (s - stepsT a) (by omega)
        simp only [narS, if_pos hk, stepAt, hsa, if_neg hlt, givT, lenS, Bool.and_eq_true]
        refine ⟨i1, fun v v0 v1 => ?_⟩
        rw [i2 v v0 v1]
        have hb0 := stepAt_bd w.2.2 (s - stepsT a)
        have hsub := fun hok => giv_in w.2.2 (s - stepsT a) v v0 v1 hok
        constructor
        · rintro ⟨k0, k1, k2⟩; exact ⟨⟨h0.1, k0⟩, by omega, by omega⟩
        · rintro ⟨⟨_, k0⟩, k2, k3⟩
          have := hsub k0
          have := lenS_le (givT_wf w.2.2 (s - stepsT a) v (by omega) (by omega)) k0
          exact ⟨k0, by omega, by omega⟩
    · simp only [lenS, if_neg hk, Bool.and_eq_true, decide_eq_true_eq] at h0 h2 h3
      have la := lenS_le w.2.1 h0.1.1
      have lb := lenS_le w.2.2 h0.1.2
      by_cases hlt : s < stepsT a
      · obtain ⟨i1, i2⟩ := iha w.2.1 (max (max (lenS a).1 (lenS b).1) lo) (min (min (lenS a).2.1 (lenS b).2.1) hi) ⟨h0.1.1, by omega, by omega, by omega⟩ s hlt
        simp only [narS, if_neg hk, stepAt, hsa, if_pos hlt, givT, lenS, Bool.and_eq_true, decide_eq_true_eq]
        refine ⟨i1, fun v v0 v1 => ?_⟩
        rw [i2 v v0 v1]
        have hb0 := stepAt_bd w.2.1 s
        have hsub := fun hok => giv_in w.2.1 s v v0 v1 hok
        constructor
        · rintro ⟨k0, k1, k2⟩
          have := hsub k0
          have := lenS_le (givT_wf w.2.1 s v (by omega) (by omega)) k0
          exact ⟨⟨⟨k0, h0.1.2⟩, by omega⟩, by omega, by omega⟩
        · rintro ⟨⟨⟨k0, _⟩, k1⟩, k2, k3⟩
          have := hsub k0
          have := lenS_le (givT_wf w.2.1 s v (by omega) (by omega)) k0
          exact ⟨k0, by omega, by omega⟩
      · obtain ⟨i1, i2⟩ := ihb w.2.2 (max (max (lenS a).1 (lenS b).1) lo) (min (min (lenS a).2.1 (lenS b).2.1) hi) ⟨h0.1.2, by omega, by omega, by omega⟩ (s - stepsT a) (by omega)
        simp only [narS, if_neg hk, stepAt, hsa, if_neg hlt, givT, lenS, Bool.and_eq_true, decide_eq_true_eq]
        refine ⟨i1, fun v v0 v1 => ?_⟩
        rw [i2 v v0 v1]
        have hb0 := stepAt_bd w.2.2 (s - stepsT a)
        have hsub := fun hok => giv_in w.2.2 (s - stepsT a) v v0 v1 hok
        constructor
        · rintro ⟨k0, k1, k2⟩
          have := hsub k0
          have := lenS_le (givT_wf w.2.2 (s - stepsT a) v (by omega) (by omega)) k0
          exact ⟨⟨⟨h0.1.1, k0⟩, by omega⟩, by omega, by omega⟩
        · rintro ⟨⟨⟨_, k0⟩, k1⟩, k2, k3⟩
          have := hsub k0
          have := lenS_le (givT_wf w.2.2 (s - stepsT a) v (by omega) (by omega)) k0
          exact ⟨k0, by omega, by omega⟩
/-- Counts in the window. -/
theorem nar_cnt {t : Tm} (w : Wf t) : ∀ lo hi, Meets t lo hi → ∀ n, lo ≤ n → n ≤ hi → cntT (narS t lo hi) n = cntT t n := by
  induction t with
  | step l h =>
    intro lo hi hm n n0 n1
    have wn := nar_wf w lo hi hm
    simp only [narS] at wn ⊢
    rw [cnt_step wn, cnt_step w]
    by_cases hh : l ≤ n ∧ n ≤ h
    · rw [if_pos hh, if_pos (by omega)]
    · rw [if_neg hh, if_neg (by omega)]
  | one a h ih =>
    intro lo hi hm n n0 n1
    obtain ⟨h0, h1, h2, h3⟩ := hm
    simp only [lenS, Bool.and_eq_true, decide_eq_true_eq] at h0 h2 h3
    have hl := lenS_le w.1 h0.1
    simp only [narS]
    rw [cnt_within, cnt_within]
    split
    · exact ih w.1 lo (min hi h) ⟨h0.1, by omega, by omega, by omega⟩ n n0 (by omega)
    · rfl
  | two k a b iha ihb =>
    intro lo hi hm n n0 n1
    obtain ⟨h0, h1, h2, h3⟩ := hm
    by_cases hk : k = 1
    · subst hk
      simp only [lenS, if_true, Bool.and_eq_true] at h0 h2 h3
      have la := lenS_le w.2.1 h0.1
      have lb := lenS_le w.2.2 h0.2
      have ma : Meets a (max (lenS a).1 (lo - (lenS b).2.1)) (min (lenS a).2.1 (hi - (lenS b).1)) := ⟨h0.1, by omega, by omega, by omega⟩
      have mb : Meets b (max (lenS b).1 (lo - (lenS a).2.1)) (min (lenS b).2.1 (hi - (lenS a).1)) := ⟨h0.2, by omega, by omega, by omega⟩
      have wa := nar_wf w.2.1 _ _ ma
      have wb := nar_wf w.2.2 _ _ mb
      obtain ⟨i0, i1, i2, i3, i4⟩ := nar_len w.2.1 _ _ ma
      obtain ⟨j0, j1, j2, j3, j4⟩ := nar_len w.2.2 _ _ mb
      simp only [narS, if_true]
      have ba := lenS_bd w.2.1
      obtain ⟨M, hM⟩ : ∃ M : Nat, (lenS a).2.1 < (M : Int) := ⟨((lenS a).2.1 + 1).toNat, by omega⟩
      rw [cnt_then wa n M (by omega), cnt_then w.2.1 n M hM]
      refine sumN_congr M fun i _ => ?_
      by_cases hb : (lenS b).1 ≤ n - i ∧ n - i ≤ (lenS b).2.1
      · by_cases ha : (lenS a).1 ≤ (i : Int) ∧ (i : Int) ≤ (lenS a).2.1
        · rw [iha w.2.1 _ _ ma i (by omega) (by omega), ihb w.2.2 _ _ mb (n - i) (by omega) (by omega)]
        · rw [cnt_zero w.2.1 (fun hh => ha hh.2), cnt_zero wa (fun hh => ha (by omega)), Nat.zero_mul, Nat.zero_mul]
      · rw [cnt_zero w.2.2 (fun hh => hb hh.2), cnt_zero wb (fun hh => hb (by omega)), Nat.mul_zero, Nat.mul_zero]
    · simp only [lenS, if_neg hk, Bool.and_eq_true, decide_eq_true_eq] at h0 h2 h3
      have la := lenS_le w.2.1 h0.1.1
      have lb := lenS_le w.2.2 h0.1.2
      have ma : Meets a (max (max (lenS a).1 (lenS b).1) lo) (min (min (lenS a).2.1 (lenS b).2.1) hi) := ⟨h0.1.1, by omega, by omega, by omega⟩
      have mb : Meets b (max (max (lenS a).1 (lenS b).1) lo) (min (min (lenS a).2.1 (lenS b).2.1) hi) := ⟨h0.1.2, by omega, by omega, by omega⟩
      have wa := nar_wf w.2.1 _ _ ma
      have wb := nar_wf w.2.2 _ _ mb
      obtain ⟨i0, i1, i2, i3, i4⟩ := nar_len w.2.1 _ _ ma
      obtain ⟨j0, j1, j2, j3, j4⟩ := nar_len w.2.2 _ _ mb
      simp only [narS, if_neg hk]
      rw [cnt_both hk, cnt_both hk]
      by_cases hb : (lenS b).1 ≤ n ∧ n ≤ (lenS b).2.1
      · by_cases ha : (lenS a).1 ≤ n ∧ n ≤ (lenS a).2.1
        · rw [iha w.2.1 _ _ ma n (by omega) (by omega), ihb w.2.2 _ _ mb n (by omega) (by omega)]
        · rw [cnt_zero w.2.1 (fun hh => ha hh.2), cnt_zero wa (fun hh => ha (by omega)), Nat.zero_mul, Nat.zero_mul]
      · rw [cnt_zero w.2.2 (fun hh => hb hh.2), cnt_zero wb (fun hh => hb (by omega)), Nat.mul_zero, Nat.mul_zero]

end Go.Proofs.Ytookhelfbnhadaa
