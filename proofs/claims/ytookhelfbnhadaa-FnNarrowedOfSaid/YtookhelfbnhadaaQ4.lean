/- Terms with a step given: plain facts. -/
import Derived.Test.YtookhelfbnhadaaQ3
import Derived.Test.YtookhelfbnhadaaM9
namespace Go.Proofs.Ytookhelfbnhadaa
open Go.RowKit

/-- A term in which step s lasts just v. -/
def givT : Tm → Nat → Int → Tm
  | .step l h, s, v => if s = 0 then .step v v else .step l h
  | .one a h, s, v => .one (givT a s v) h
  | .two k a b, s, v => if s < stepsT a then .two k (givT a s v) b else .two k a (givT b (s - stepsT a) v)
/-- Step s's bounds. -/
def stepAt : Tm → Nat → Int × Int
  | .step l h, _ => (l, h)
  | .one a _, s => stepAt a s
  | .two _ a b, s => if s < stepsT a then stepAt a s else stepAt b (s - stepsT a)
theorem givT_wf {t : Tm} (w : Wf t) : ∀ s v, 0 ≤ v → v ≤ 19 → Wf (givT t s v) := by
  induction t with
  | step l h => intro s v h0 h1; simp only [givT]; split; exact ⟨h0, Int.le_refl _, h1⟩; exact w
  | one a h ih => intro s v h0 h1; exact ⟨ih w.1 s v h0 h1, w.2⟩
  | two k a b iha ihb =>
    intro s v h0 h1
    simp only [givT]
    split
    · exact ⟨w.1, iha w.2.1 s v h0 h1, w.2.2⟩
    · exact ⟨w.1, w.2.1, ihb w.2.2 _ v h0 h1⟩
theorem givT_steps (t : Tm) : ∀ s v, stepsT (givT t s v) = stepsT t := by
  induction t with
  | step l h => intro s v; simp only [givT]; split <;> rfl
  | one a h ih => intro s v; exact ih s v
  | two k a b iha ihb => intro s v; simp only [givT]; split <;> simp only [stepsT, iha, ihb]
theorem stepAt_bd {t : Tm} (w : Wf t) : ∀ s, 0 ≤ (stepAt t s).1 ∧ (stepAt t s).1 ≤ (stepAt t s).2 ∧ (stepAt t s).2 ≤ 19 := by
  induction t with
  | step l h => intro s; exact w
  | one a h ih => intro s; exact ih w.1 s
  | two k a b iha ihb => intro s; simp only [stepAt]; split; exact iha w.2.1 s; exact ihb w.2.2 _

/-- The given marks, by a walk over the row. -/
def gm : List Mk → Int → Int → List Mk
  | [], _, _ => []
  | m :: xs, s, v => if m.1 = 0 then (if s = 0 ∧ m.2.1 ≤ v ∧ v ≤ m.2.2 then (0, v, v) else m) :: gm xs (s - 1) v else m :: gm xs s v
theorem gm_append (xs ys : List Mk) : ∀ s v, gm (xs ++ ys) s v = gm xs s v ++ gm ys (s - (stepsIn xs : Int)) v := by
  induction xs with
  | nil => intro s v; simp [gm, stepsIn]
  | cons m xs ih =>
    intro s v
    rw [List.cons_append]
    simp only [gm, ih]
    by_cases h : m.1 = 0
    · rw [if_pos h, if_pos h, List.cons_append]
      have e : (stepsIn (m :: xs) : Int) = stepsIn xs + 1 := by simp [stepsIn, List.countP_cons, h]
      rw [e, show s - 1 - (stepsIn xs : Int) = s - ((stepsIn xs : Int) + 1) by omega]
    · rw [if_neg h, if_neg h, List.cons_append]
      have e : stepsIn (m :: xs) = stepsIn xs := by simp [stepsIn, List.countP_cons, h]
      rw [e]
theorem gm_stays {xs : List Mk} : ∀ {s : Int} {v : Int}, (s < 0 ∨ (stepsIn xs : Int) ≤ s) → gm xs s v = xs := by
  induction xs with
  | nil => intro s v _; rfl
  | cons m xs ih =>
    intro s v h
    simp only [gm]
    by_cases h0 : m.1 = 0
    · have e : (stepsIn (m :: xs) : Int) = stepsIn xs + 1 := by simp [stepsIn, List.countP_cons, h0]
      rw [if_pos h0, if_neg (by omega), ih (by omega)]
    · have e : stepsIn (m :: xs) = stepsIn xs := by simp [stepsIn, List.countP_cons, h0]
      rw [if_neg h0, ih (by rw [← e]; exact h)]
theorem gm_marks {t : Tm} (w : Wf t) : ∀ (s : Nat) (v : Int), s < stepsT t → (stepAt t s).1 ≤ v → v ≤ (stepAt t s).2 → gm (marksOf t) s v = marksOf (givT t s v) := by
  induction t with
  | step l h =>
    intro s v hs h1 h2
    simp only [stepsT] at hs
    obtain rfl : s = 0 := by omega
    simp only [stepAt] at h1 h2
    simp only [marksOf, gm, givT]
    rw [if_pos trivial, if_pos ⟨rfl, h1, h2⟩, if_pos trivial]; rfl
  | one a h ih =>
    intro s v hs h1 h2
    simp only [stepsT] at hs
    simp only [stepAt] at h1 h2
    rw [marksOf, gm_append, ih w.1 s v hs h1 h2, givT, marksOf]
    congr 1
  | two k a b iha ihb =>
    intro s v hs h1 h2
    simp only [stepsT] at hs
    have hk : k ≠ 0 := by rcases w.1 with h | h <;> omega
    have hl : ∀ i, gm [((k, 0, 0) : Mk)] i v = [(k, 0, 0)] := fun i => by simp [gm, hk]
    rw [marksOf, gm_append, gm_append, hl, stepsIn_marks w.2.1]
    by_cases hlt : s < stepsT a
    · simp only [stepAt, if_pos hlt] at h1 h2
      rw [iha w.2.1 s v hlt h1 h2, gm_stays (.inl (by omega)), givT, if_pos hlt, marksOf]
    · simp only [stepAt, if_neg hlt] at h1 h2
      rw [gm_stays (.inr (by rw [stepsIn_marks w.2.1]; omega)), show (s : Int) - (stepsT a : Int) = ((s - stepsT a : Nat) : Int) by omega, ihb w.2.2 (s - stepsT a) v (by omega) h1 h2, givT, if_neg hlt, marksOf]
theorem outG_gm (xs : List Mk) (s v : Int) : outG xs s v xs.length = gm xs s v := by
  have key : ∀ k, k ≤ xs.length → outG xs s v k = gm (xs.take k) s v := by
    intro k
    induction k with
    | zero => intro _; simp [outG, gm]
    | succ k ih =>
      intro hk
      rw [outG_succ, ih (by omega), List.take_succ_eq_append_getElem (by omega), gm_append]
      congr 1
      have hx : xs[k]'(by omega) = xs.getD k (0, 0, 0) := by
        have : k < xs.length := by omega
        simp [List.getD, this]
      rw [hx]
      by_cases h : hitG xs s v k
      · rw [chgG_hit h]
        obtain ⟨h1, h2, h3⟩ := h
        simp only [gm]
        rw [if_pos h1, if_pos ⟨by omega, h3⟩]
      · rw [chgG_not h]
        simp only [gm]
        by_cases h1 : (xs.getD k (0, 0, 0)).1 = 0
        · rw [if_pos h1, if_neg (fun hh => h ⟨h1, by omega, hh.2⟩)]
        · rw [if_neg h1]
  have := key xs.length (Nat.le_refl _)
  rwa [List.take_length] at this
/-- When there is such a step. -/
theorem anyG_iff {t : Tm} (w : Wf t) (s : Int) (v : Int) : anyG (marksOf t) s v (marksOf t).length ↔ (0 ≤ s ∧ s < (stepsT t : Int) ∧ (stepAt t s.toNat).1 ≤ v ∧ v ≤ (stepAt t s.toNat).2) := by
  have key : ∀ (t : Tm), Wf t → ∀ (pre post : List Mk) (s v : Int), (∃ j, pre.length ≤ j ∧ j < pre.length + (marksOf t).length ∧ hitG (pre ++ marksOf t ++ post) s v j) ↔ ((stepsIn pre : Int) ≤ s ∧ s < (stepsIn pre : Int) + (stepsT t : Int) ∧ (stepAt t (s - (stepsIn pre : Int)).toNat).1 ≤ v ∧ v ≤ (stepAt t (s - (stepsIn pre : Int)).toNat).2) := by
    intro t
    induction t with
    | step l h =>
      intro w pre post s v
      simp only [marksOf, List.length_singleton, stepsT, stepAt]
      have e1 : (pre ++ [((0, l, h) : Mk)] ++ post).getD pre.length (0, 0, 0) = (0, l, h) := by simp [List.getD]
      have e2 : (pre ++ [((0, l, h) : Mk)] ++ post).take pre.length = pre := by simp
      constructor
      · rintro ⟨j, h1, h2, h3⟩
        obtain rfl : j = pre.length := by omega
        obtain ⟨_, h4, h5⟩ := h3
        rw [e2] at h4
        rw [e1] at h5
        unfold InR at h5
        simp only at h5
        exact ⟨by omega, by omega, h5⟩
      · rintro ⟨h1, h2, h3, h4⟩
        refine ⟨pre.length, Nat.le_refl _, by omega, ?_⟩
        unfold hitG InR
        rw [e1, e2]
        exact ⟨rfl, by omega, h3, h4⟩
    | one a h ih =>
      intro w pre post s v
      simp only [stepsT, stepAt]
      rw [← ih w.1 pre ([(3, 0, h)] ++ post) s v]
      have e : pre ++ marksOf (.one a h) ++ post = pre ++ marksOf a ++ ([(3, 0, h)] ++ post) := by simp [marksOf]
      rw [e]
      constructor
      · rintro ⟨j, h1, h2, h3⟩
        refine ⟨j, h1, ?_, h3⟩
        rcases Nat.lt_or_ge j (pre.length + (marksOf a).length) with hj | hj
        · exact hj
        · exfalso
          obtain rfl : j = pre.length + (marksOf a).length := by simp [marksOf] at h2; omega
          have h4 := h3.1
          have e5 : (pre ++ marksOf a ++ ([((3, 0, h) : Mk)] ++ post)).getD (pre.length + (marksOf a).length) (0, 0, 0) = (3, 0, h) := by
            rw [← List.length_append]; simp [List.getD]
          rw [e5] at h4; simp at h4
      · rintro ⟨j, h1, h2, h3⟩
        exact ⟨j, h1, by simp [marksOf]; omega, h3⟩
    | two k a b iha ihb =>
      intro w pre post s v
      have hk : k ≠ 0 := by rcases w.1 with h | h <;> omega
      have e1 : pre ++ marksOf (.two k a b) ++ post = pre ++ marksOf a ++ (marksOf b ++ [(k, 0, 0)] ++ post) := by simp [marksOf]
      have e2 : pre ++ marksOf (.two k a b) ++ post = (pre ++ marksOf a) ++ marksOf b ++ ([(k, 0, 0)] ++ post) := by simp [marksOf]
      have ha := iha w.2.1 pre (marksOf b ++ [(k, 0, 0)] ++ post) s v
      have hb := ihb w.2.2 (pre ++ marksOf a) ([(k, 0, 0)] ++ post) s v
      rw [← e1] at ha
      rw [← e2, stepsIn_append, stepsIn_marks w.2.1, List.length_append] at hb
      push_cast at hb
      have hor : (∃ j, pre.length ≤ j ∧ j < pre.length + (marksOf (.two k a b)).length ∧ hitG (pre ++ marksOf (.two k a b) ++ post) s v j) ↔
          ((∃ j, pre.length ≤ j ∧ j < pre.length + (marksOf a).length ∧ hitG (pre ++ marksOf (.two k a b) ++ post) s v j) ∨ (∃ j, pre.length + (marksOf a).length ≤ j ∧ j < pre.length + (marksOf a).length + (marksOf b).length ∧ hitG (pre ++ marksOf (.two k a b) ++ post) s v j)) := by
        constructor
        · rintro ⟨j, h1, h2, h3⟩
          rcases Nat.lt_or_ge j (pre.length + (marksOf a).length) with hj | hj
          · exact .inl ⟨j, h1, hj, h3⟩
          · rcases Nat.lt_or_ge j (pre.length + (marksOf a).length + (marksOf b).length) with hj2 | hj2
            · exact .inr ⟨j, hj, hj2, h3⟩
            · exfalso
              obtain rfl : j = pre.length + (marksOf a).length + (marksOf b).length := by simp [marksOf] at h2; omega
              have h4 := h3.1
              have e5 : (pre ++ marksOf (.two k a b) ++ post).getD (pre.length + (marksOf a).length + (marksOf b).length) (0, 0, 0) = (k, 0, 0) := by
                rw [e2, ← List.append_assoc, ← List.length_append, ← List.length_append]; simp [List.getD]
              rw [e5] at h4
              exact hk h4
        · rintro (⟨j, h1, h2, h3⟩ | ⟨j, h1, h2, h3⟩)
          · exact ⟨j, h1, by simp [marksOf]; omega, h3⟩
          · exact ⟨j, by omega, by simp [marksOf]; omega, h3⟩
      rw [hor, ha, hb]
      simp only [stepsT, stepAt]
      push_cast
      by_cases hs : s < (stepsIn pre : Int) + (stepsT a : Int)
      · constructor
        · rintro (⟨h1, h2, h3⟩ | ⟨h1, h2, h3⟩)
          · rw [if_pos (by omega)]; exact ⟨h1, by omega, h3⟩
          · omega
        · rintro ⟨h1, h2, h3⟩
          rw [if_pos (by omega)] at h3
          exact .inl ⟨h1, hs, h3⟩
      · constructor
        · rintro (⟨h1, h2, h3⟩ | ⟨h1, h2, h3⟩)
          · omega
          · rw [if_neg (by omega), show (s - (stepsIn pre : Int)).toNat - stepsT a = (s - ((stepsIn pre : Int) + (stepsT a : Int))).toNat by omega]
            exact ⟨by omega, by omega, h3⟩
        · rintro ⟨h1, h2, h3⟩
          rw [if_neg (by omega), show (s - (stepsIn pre : Int)).toNat - stepsT a = (s - ((stepsIn pre : Int) + (stepsT a : Int))).toNat by omega] at h3
          exact .inr ⟨by omega, by omega, h3⟩
  have := key t w [] [] s v
  simp only [List.length_nil, List.nil_append, List.append_nil, Nat.zero_le, true_and, Nat.zero_add] at this
  unfold anyG
  rw [this]
  simp [stepsIn]

/-- A given term is no longer and no shorter. -/
theorem giv_in {t : Tm} (w : Wf t) : ∀ (s : Nat) (v : Int), (stepAt t s).1 ≤ v → v ≤ (stepAt t s).2 → (lenS (givT t s v)).2.2 = true → (lenS t).2.2 = true ∧ (lenS t).1 ≤ (lenS (givT t s v)).1 ∧ (lenS (givT t s v)).2.1 ≤ (lenS t).2.1 := by
  induction t with
  | step l h =>
    intro s v h1 h2 _
    simp only [stepAt] at h1 h2
    simp only [givT]
    split
    · exact ⟨rfl, h1, h2⟩
    · exact ⟨rfl, Int.le_refl _, Int.le_refl _⟩
  | one a h ih =>
    intro s v h1 h2 hok
    simp only [givT, lenS, Bool.and_eq_true, decide_eq_true_eq] at hok ⊢
    obtain ⟨i0, i1, i2⟩ := ih w.1 s v h1 h2 hok.1
    exact ⟨⟨i0, by omega⟩, by omega, by omega⟩
  | two k a b iha ihb =>
    intro s v h1 h2 hok
    by_cases hlt : s < stepsT a
    · simp only [stepAt, if_pos hlt] at h1 h2
      simp only [givT, if_pos hlt] at hok ⊢
      by_cases hk : k = 1
      · simp only [lenS, if_pos hk, Bool.and_eq_true] at hok ⊢
        obtain ⟨i0, i1, i2⟩ := iha w.2.1 s v h1 h2 hok.1
        exact ⟨⟨i0, hok.2⟩, by omega, by omega⟩
      · simp only [lenS, if_neg hk, Bool.and_eq_true, decide_eq_true_eq] at hok ⊢
        obtain ⟨i0, i1, i2⟩ := iha w.2.1 s v h1 h2 hok.1.1
        exact ⟨⟨⟨i0, hok.1.2⟩, by omega⟩, by omega, by omega⟩
    · simp only [stepAt, if_neg hlt] at h1 h2
      simp only [givT, if_neg hlt] at hok ⊢
      by_cases hk : k = 1
      · simp only [lenS, if_pos hk, Bool.and_eq_true] at hok ⊢
        obtain ⟨i0, i1, i2⟩ := ihb w.2.2 _ v h1 h2 hok.2
        exact ⟨⟨hok.1, i0⟩, by omega, by omega⟩
      · simp only [lenS, if_neg hk, Bool.and_eq_true, decide_eq_true_eq] at hok ⊢
        obtain ⟨i0, i1, i2⟩ := ihb w.2.2 _ v h1 h2 hok.1.2
        exact ⟨⟨⟨hok.1.1, i0⟩, by omega⟩, by omega, by omega⟩

/-- The counts of all given terms, added. -/
theorem giv_sum {t : Tm} (w : Wf t) : ∀ (s : Nat) (n : Int), s < stepsT t → sumN (fun i => if (stepAt t s).1 ≤ (i : Int) ∧ (i : Int) ≤ (stepAt t s).2 then cntT (givT t s i) n else 0) 20 = cntT t n := by
  induction t with
  | step l h =>
    intro s n hs
    simp only [stepsT] at hs
    obtain rfl : s = 0 := by omega
    simp only [stepAt, givT, if_true]
    have w' := w
    obtain ⟨h0, h1, h2⟩ := w
    rw [cnt_step w']
    by_cases hn : l ≤ n ∧ n ≤ h
    · rw [if_pos hn, sumN_one (k := n.toNat) (by omega)]
      · rw [if_pos (by omega), cnt_step ⟨by omega, Int.le_refl _, by omega⟩, if_pos (by omega)]
      · intro i hi hne
        split
        · rw [cnt_step ⟨by omega, Int.le_refl _, by omega⟩, if_neg (by omega)]
        · rfl
    · rw [if_neg hn]
      apply sumN_zero
      intro i hi
      split
      · rw [cnt_step ⟨by omega, Int.le_refl _, by omega⟩, if_neg (by omega)]
      · rfl
  | one a h ih =>
    intro s n hs
    simp only [stepsT] at hs
    simp only [stepAt, givT, cnt_within]
    by_cases hn : n ≤ h
    · simp only [if_pos hn]
      exact ih w.1 s n hs
    · simp only [if_neg hn]
      apply sumN_zero
      intro i hi
      split <;> rfl
  | two k a b iha ihb =>
    intro s n hs
    simp only [stepsT] at hs
    have hW : ∀ i : Nat, (stepAt (.two k a b) s).1 ≤ (i : Int) ∧ (i : Int) ≤ (stepAt (.two k a b) s).2 → 0 ≤ (i : Int) ∧ (i : Int) ≤ 19 := fun i hi => by
      have := stepAt_bd w s; omega
    by_cases hlt : s < stepsT a
    · simp only [stepAt, givT, if_pos hlt] at hW ⊢
      have ih := fun n => iha w.2.1 s n hlt
      by_cases hk : k = 1
      · subst hk
        obtain ⟨M, hM⟩ : ∃ M : Nat, 19 * (stepsT a : Int) < (M : Int) := ⟨19 * stepsT a + 1, by push_cast; omega⟩
        have e : ∀ i : Nat, (if (stepAt a s).1 ≤ (i : Int) ∧ (i : Int) ≤ (stepAt a s).2 then cntT (.two 1 (givT a s i) b) n else 0) = sumN (fun j => (if (stepAt a s).1 ≤ (i : Int) ∧ (i : Int) ≤ (stepAt a s).2 then cntT (givT a s i) j else 0) * cntT b (n - j)) M := by
          intro i
          split
          · rename_i hi
            have h2 := hW i hi
            have wg := givT_wf w.2.1 s i h2.1 h2.2
            have hb := lenS_bd wg
            rw [givT_steps] at hb
            exact cnt_then wg n M (by omega)
          · exact (sumN_zero M fun j _ => by rw [Nat.zero_mul]).symm
        simp only [e]
        rw [sumN_swap]
        have hb := lenS_bd w.2.1
        rw [cnt_then w.2.1 n M (by omega)]
        refine sumN_congr M fun j _ => ?_
        rw [sumN_mul, ih]
      · simp only [cnt_both hk]
        have e : ∀ i : Nat, (if (stepAt a s).1 ≤ (i : Int) ∧ (i : Int) ≤ (stepAt a s).2 then cntT (givT a s i) n * cntT b n else 0) = (if (stepAt a s).1 ≤ (i : Int) ∧ (i : Int) ≤ (stepAt a s).2 then cntT (givT a s i) n else 0) * cntT b n := by
          intro i; split <;> simp
        simp only [e]
        rw [sumN_mul, ih]
    · simp only [stepAt, givT, if_neg hlt] at hW ⊢
      have ih := fun n => ihb w.2.2 (s - stepsT a) n (by omega)
      by_cases hk : k = 1
      · subst hk
        have hb := lenS_bd w.2.1
        obtain ⟨M, hM⟩ : ∃ M : Nat, 19 * (stepsT a : Int) < (M : Int) := ⟨19 * stepsT a + 1, by push_cast; omega⟩
        have hM2 : (lenS a).2.1 < (M : Int) := by omega
        have e : ∀ i : Nat, (if (stepAt b (s - stepsT a)).1 ≤ (i : Int) ∧ (i : Int) ≤ (stepAt b (s - stepsT a)).2 then cntT (.two 1 a (givT b (s - stepsT a) i)) n else 0) = sumN (fun j => cntT a j * (if (stepAt b (s - stepsT a)).1 ≤ (i : Int) ∧ (i : Int) ≤ (stepAt b (s - stepsT a)).2 then cntT (givT b (s - stepsT a) i) (n - j) else 0)) M := by
          intro i
          split
          · exact cnt_then w.2.1 n M hM2
          · exact (sumN_zero M fun j _ => by rw [Nat.mul_zero]).symm
        simp only [e]
        rw [sumN_swap, cnt_then w.2.1 n M hM2]
        refine sumN_congr M fun j _ => ?_
        rw [sumN_mul', ih]
      · simp only [cnt_both hk]
        have e : ∀ i : Nat, (if (stepAt b (s - stepsT a)).1 ≤ (i : Int) ∧ (i : Int) ≤ (stepAt b (s - stepsT a)).2 then cntT a n * cntT (givT b (s - stepsT a) i) n else 0) = cntT a n * (if (stepAt b (s - stepsT a)).1 ≤ (i : Int) ∧ (i : Int) ≤ (stepAt b (s - stepsT a)).2 then cntT (givT b (s - stepsT a) i) n else 0) := by
          intro i; split <;> simp
        simp only [e]
        rw [sumN_mul', ih]

end Go.Proofs.Ytookhelfbnhadaa
