/- Narrowed terms: plain facts for FnNarrowedOf. -/
import Derived.Test.YtookhelfbnhadaaN10
import Derived.Test.YtookhelfbnhadaaN5
import Derived.Test.YtookhelfbnhadaaQ5
import Derived.Test.YtookhelfbnhadaaMD
namespace Go.Proofs.Ytookhelfbnhadaa
open Go.RowKit

theorem stepsIn_app (xs ys : List Mk) : stepsIn (xs ++ ys) = stepsIn xs + stepsIn ys := by simp [stepsIn]
theorem stepsIn_tree {t : Tm} (w : Wf t) : stepsIn (marksOf t) = stepsT t := by
  induction t with
  | step l h => simp [stepsIn, marksOf, stepsT]
  | one a h ih => rw [marksOf, stepsIn_app, ih w.1]; simp [stepsIn, stepsT]
  | two k a b iha ihb =>
    have hk : k ≠ 0 := by rcases w.1 with h | h <;> omega
    rw [marksOf, stepsIn_app, stepsIn_app, iha w.2.1, ihb w.2.2]; simp [stepsIn, stepsT, hk]
/-- A mark that is a step is the step of its number. -/
theorem step_at_mark {t : Tm} (w : Wf t) : ∀ k, k < (marksOf t).length → ((marksOf t).getD k (0, 0, 0)).1 = 0 → stepsIn ((marksOf t).take k) < stepsT t ∧ (marksOf t).getD k (0, 0, 0) = (0, (stepAt t (stepsIn ((marksOf t).take k))).1, (stepAt t (stepsIn ((marksOf t).take k))).2) := by
  induction t with
  | step l h =>
    intro k hk _
    simp only [marksOf, List.length_singleton] at hk
    obtain rfl : k = 0 := by omega
    simp [marksOf, stepsIn, stepsT, stepAt]
  | one a h ih =>
    intro k hk h0
    simp only [marksOf, List.length_append, List.length_singleton] at hk
    have hka : k < (marksOf a).length := by
      rcases Nat.lt_or_ge k (marksOf a).length with h1 | h1
      · exact h1
      · obtain rfl : k = (marksOf a).length := by omega
        simp [marksOf, List.getD] at h0
    have e1 : (marksOf (.one a h)).getD k (0, 0, 0) = (marksOf a).getD k (0, 0, 0) := by simp only [marksOf, List.getD]; rw [List.getElem?_append_left hka]
    have e2 : (marksOf (.one a h)).take k = (marksOf a).take k := by simp only [marksOf]; rw [List.take_append_of_le_length (by omega)]
    rw [e1] at h0
    rw [e1, e2]
    exact ih w.1 k hka h0
  | two k0 a b iha ihb =>
    intro k hk h0
    have hk0 : k0 ≠ 0 := by rcases w.1 with h | h <;> omega
    simp only [marksOf, List.length_append, List.length_singleton] at hk
    rcases Nat.lt_or_ge k (marksOf a).length with h1 | h1
    · have e1 : (marksOf (.two k0 a b)).getD k (0, 0, 0) = (marksOf a).getD k (0, 0, 0) := by simp only [marksOf, List.getD, List.append_assoc]; rw [List.getElem?_append_left h1]
      have e2 : (marksOf (.two k0 a b)).take k = (marksOf a).take k := by simp only [marksOf, List.append_assoc]; rw [List.take_append_of_le_length (by omega)]
      rw [e1] at h0
      have h2 := iha w.2.1 k h1 h0
      rw [e1, e2]
      simp only [stepsT, stepAt]
      rw [if_pos h2.1]
      exact ⟨by omega, h2.2⟩
    · rcases Nat.lt_or_ge (k - (marksOf a).length) (marksOf b).length with h3 | h3
      · have e1 : (marksOf (.two k0 a b)).getD k (0, 0, 0) = (marksOf b).getD (k - (marksOf a).length) (0, 0, 0) := by
          simp only [marksOf, List.getD, List.append_assoc]; rw [List.getElem?_append_right h1, List.getElem?_append_left h3]
        have e2 : (marksOf (.two k0 a b)).take k = marksOf a ++ (marksOf b).take (k - (marksOf a).length) := by
          simp only [marksOf, List.append_assoc]; rw [List.take_append, List.take_of_length_le h1, List.take_append_of_le_length (by omega)]
        rw [e1] at h0
        have h2 := ihb w.2.2 _ h3 h0
        rw [e1, e2, stepsIn_app, stepsIn_tree w.2.1]
        simp only [stepsT, stepAt]
        rw [if_neg (by omega), Nat.add_sub_cancel_left]
        exact ⟨by omega, h2.2⟩
      · exfalso
        have e1 : (marksOf (.two k0 a b)).getD k (0, 0, 0) = (k0, 0, 0) := by
          simp only [marksOf, List.getD, List.append_assoc]
          rw [List.getElem?_append_right h1, List.getElem?_append_right h3, show k - (marksOf a).length - (marksOf b).length = 0 by omega]; rfl
        rw [e1] at h0
        exact hk0 h0
/-- What the law on NarrowedOf asks of one row. -/
theorem narrow_law {xs : List Mk} {lo hi : Int} (h : LenF xs = (lo, hi, true)) :
    TOk (NarF xs) ∧ (NarF xs).length ≤ 11 ∧ CntF (NarF xs) = CntF xs ∧ NarF (NarF xs) = NarF xs ∧ NarP (NarF xs) ∧
    ∀ k, k < (NarF xs).length → ((NarF xs).getD k (0, 0, 0)).1 = 0 → ∃ a b : Int, (NarF xs).getD k (0, 0, 0) = (0, a, b) ∧ 0 ≤ a ∧ a ≤ 19 ∧ 0 ≤ b ∧ b ≤ 19 ∧
      (GivP xs (stepsIn ((NarF xs).take k) : Int) a ∧ (LenF (GivF xs (stepsIn ((NarF xs).take k) : Int) a)).2.2 = true) ∧ (GivP xs (stepsIn ((NarF xs).take k) : Int) b ∧ (LenF (GivF xs (stepsIn ((NarF xs).take k) : Int) b)).2.2 = true) ∧
      ¬ (GivP xs (stepsIn ((NarF xs).take k) : Int) (a - 1) ∧ (LenF (GivF xs (stepsIn ((NarF xs).take k) : Int) (a - 1))).2.2 = true) ∧ ¬ (GivP xs (stepsIn ((NarF xs).take k) : Int) (b + 1) ∧ (LenF (GivF xs (stepsIn ((NarF xs).take k) : Int) (b + 1))).2.2 = true) := by
  obtain ⟨x, hx, hn, hok, e0, e1, _, _, _, _⟩ := narF_ok h
  have hle := lenS_le hx.1 hok
  have hm : Meets x lo hi := ⟨hok, by omega, by omega, by omega⟩
  have hw := nar_wf hx.1 lo hi hm
  have hln := nar_len hx.1 lo hi hm
  have hy0 : (lenS (narS x lo hi)).1 = lo := by omega
  have hy1 : (lenS (narS x lo hi)).2.1 = hi := by omega
  have ht : TIs (NarF xs) (narS x lo hi) := ⟨hw, hn.symm, by rw [hn, narS_marks, hx.2.1]; exact hx.2.2⟩
  have hsteps : stepsT (narS x lo hi) = stepsT x := by
    have : ∀ (t : Tm) lo hi, stepsT (narS t lo hi) = stepsT t := by
      intro t
      induction t with
      | step l h => intro lo hi; rfl
      | one a h ih => intro lo hi; simp only [narS, stepsT, ih]
      | two k a b iha ihb => intro lo hi; simp only [narS]; split <;> simp only [stepsT, iha, ihb]
    exact this x lo hi
  have hcnt : ∀ n, cntT (narS x lo hi) n = cntT x n := by
    intro n
    by_cases hnn : lo ≤ n ∧ n ≤ hi
    · exact nar_cnt hx.1 lo hi hm n hnn.1 hnn.2
    · rw [cnt_zero hw (fun hh => hnn (by omega)), cnt_zero hx.1 (fun hh => hnn (by omega))]
  refine ⟨⟨_, ht⟩, ht.2.2, ?_, ?_, ?_, ?_⟩
  · rw [show CntF (NarF xs) = _ from onT_pos ht, show CntF xs = _ from onT_pos hx, cntsT_congr hw hx.1 hcnt]
  · rw [show NarF (NarF xs) = _ from onT_pos ht, if_neg (by rw [hln.1]; simp), hy0, hy1, nar_nar hx.1 lo hi hm, hn]
  · show (LenF (NarF xs)).2.2 = true
    rw [show LenF (NarF xs) = lenR (narS x lo hi) from onT_pos ht]
    unfold lenR
    rw [if_neg (by rw [hln.1]; simp)]
    exact hln.1
  · intro k hk hk0
    rw [hn] at hk hk0 ⊢
    obtain ⟨hs, hmk⟩ := step_at_mark hw k hk hk0
    generalize stepsIn ((marksOf (narS x lo hi)).take k) = s at hs hmk ⊢
    rw [hsteps] at hs
    obtain ⟨⟨b0, b1, b2⟩, hv⟩ := nar_step hx.1 lo hi hm s hs
    have hbd := stepAt_bd hx.1 s
    have hgp : ∀ v : Int, GivP xs (s : Int) v ↔ ((stepAt x s).1 ≤ v ∧ v ≤ (stepAt x s).2) := by
      intro v
      have h1 := anyG_iff hx.1 (s : Int) v
      rw [hx.2.1] at h1
      have e : ((s : Int)).toNat = s := by omega
      rw [e] at h1
      constructor
      · intro h; have := h1.1 h.2; exact ⟨this.2.2.1, this.2.2.2⟩
      · intro h; exact ⟨⟨x, hx⟩, h1.2 ⟨by omega, by omega, h.1, h.2⟩⟩
    have hlen : ∀ v : Int, (stepAt x s).1 ≤ v → v ≤ (stepAt x s).2 → (LenF (GivF xs (s : Int) v)).2.2 = (lenS (givT x s v)).2.2 := by
      intro v v0 v1
      have e1 : GivF xs (s : Int) v = marksOf (givT x s v) := by
        unfold GivF
        rw [if_pos ((hgp v).2 ⟨v0, v1⟩), outG_gm]
        have := gm_marks hx.1 s v hs v0 v1
        rw [hx.2.1] at this; exact this
      have hwg : Wf (givT x s v) := givT_wf hx.1 s _ (by omega) (by omega)
      have hl : (marksOf (givT x s v)).length = xs.length := by
        have := gm_marks hx.1 s v hs v0 v1
        rw [← this, hx.2.1, ← outG_gm]; simp [outG]
      have htg : TIs (GivF xs (s : Int) v) (givT x s v) := ⟨hwg, e1.symm, by rw [e1, hl]; exact hx.2.2⟩
      rw [show LenF (GivF xs (s : Int) v) = lenR (givT x s v) from onT_pos htg]
      unfold lenR
      split
      · rename_i hh; rw [hh]
      · rfl
    have hkey : ∀ v : Int, (GivP xs (s : Int) v ∧ (LenF (GivF xs (s : Int) v)).2.2 = true) ↔ ((stepAt (narS x lo hi) s).1 ≤ v ∧ v ≤ (stepAt (narS x lo hi) s).2) := by
      intro v
      constructor
      · rintro ⟨hp, hl⟩
        obtain ⟨v0, v1⟩ := (hgp v).1 hp
        rw [hlen v v0 v1] at hl
        have h2 := giv_in hx.1 s v v0 v1 hl
        have h3 := lenS_le (givT_wf hx.1 s v (by omega) (by omega)) hl
        exact (hv v v0 v1).2 ⟨hl, by omega, by omega⟩
      · rintro ⟨v0, v1⟩
        have h1 := (hv v (by omega) (by omega)).1 ⟨v0, v1⟩
        exact ⟨(hgp v).2 ⟨by omega, by omega⟩, by rw [hlen v (by omega) (by omega)]; exact h1.1⟩
    refine ⟨_, _, hmk, by omega, by omega, by omega, by omega, (hkey _).2 ⟨Int.le_refl _, b1⟩, (hkey _).2 ⟨b1, Int.le_refl _⟩, fun hh => ?_, fun hh => ?_⟩
    · have := (hkey _).1 hh; omega
    · have := (hkey _).1 hh; omega

end Go.Proofs.Ytookhelfbnhadaa
