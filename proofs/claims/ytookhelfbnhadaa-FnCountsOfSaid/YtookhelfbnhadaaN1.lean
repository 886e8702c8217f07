/- Counts of terms: plain facts for the walks of l12Counts and (*part).counts. -/
import Derived.Test.YtookhelfbnhadaaQ3
import Derived.Test.YtookhelfbnhadaaQ2
namespace Go.Proofs.Ytookhelfbnhadaa
open Go.RowKit

theorem steps6 {t : Tm} (w : Wf t) (h : (marksOf t).length ≤ 11) : stepsT t ≤ 6 := by have := marks_count w; omega
theorem cnt_small {t : Tm} (w : Wf t) (h : (marksOf t).length ≤ 11) (n : Int) : cntT t n ≤ 64000000 :=
  Nat.le_trans (cnt_le w n) (Nat.le_trans (Nat.pow_le_pow_right (by decide) (steps6 w h)) (by decide))
/-- The counts of a part, from 0 up to its greatest length. -/
def cntL (t : Tm) : List Int := (List.range ((lenS t).2.1 + 1).toNat).map fun n : Nat => (cntT t (n : Int) : Int)
theorem cntL_len (t : Tm) : (cntL t).length = ((lenS t).2.1 + 1).toNat := by simp [cntL]
theorem cntL_get {t : Tm} {j : Nat} (h : j < ((lenS t).2.1 + 1).toNat) : (cntL t).getD j 0 = (cntT t (j : Int) : Int) := by simp [cntL, List.getD, h]
theorem cnt_out {t : Tm} (w : Wf t) {n : Int} (h : n < 0 ∨ (lenS t).2.1 < n) : cntT t n = 0 := by
  have hb := lenS_bd w
  exact cnt_zero w (fun hh => by omega)
theorem cntL_ext {t : Tm} {xs : List Int} (hl : xs.length = ((lenS t).2.1 + 1).toNat) (h : ∀ j, j < ((lenS t).2.1 + 1).toNat → xs.getD j 0 = (cntT t (j : Int) : Int)) : xs = cntL t :=
  eq_of_upto hl (cntL_len t) (fun j hj => by rw [h j hj, cntL_get hj])
theorem cntL_step {l h : Int} (w : Wf (.step l h)) : cntL (.step l h) = (List.range (h + 1).toNat).map fun n : Nat => if l ≤ (n : Int) then 1 else 0 := by
  refine (cntL_ext (by simp [lenS]) fun j hj => ?_).symm
  simp only [lenS] at hj
  rw [cnt_step w]
  by_cases hn : l ≤ (j : Int)
  · rw [if_pos ⟨hn, by omega⟩]; simp [List.getD, hj, hn]
  · rw [if_neg (fun hh => hn hh.1)]; simp [List.getD, hj, hn]
theorem cntL_one {a : Tm} {h : Int} (w : Wf (.one a h)) : cntL (.one a h) = (cntL a).take (min ((lenS a).2.1 + 1) (h + 1)).toNat := by
  have hb := lenS_bd w.1
  have h0 := w.2.1
  refine (cntL_ext (by rw [List.length_take, cntL_len]; simp only [lenS]; omega) fun j hj => ?_).symm
  simp only [lenS] at hj
  rw [cnt_within, if_pos (by omega), ← cntL_get (by omega)]
  simp [List.getD, hj]
theorem cntL_both {k : Int} (hk : k ≠ 1) (a b : Tm) : cntL (.two k a b) = (List.range (min ((lenS a).2.1 + 1) ((lenS b).2.1 + 1)).toNat).map fun n : Nat => (cntT a (n : Int) : Int) * (cntT b (n : Int) : Int) := by
  refine (cntL_ext (by simp only [lenS, if_neg hk, List.length_map, List.length_range]; omega) fun j hj => ?_).symm
  simp only [lenS, if_neg hk] at hj
  rw [cnt_both hk]
  simp [List.getD, hj]

theorem sumN_le {f : Nat → Nat} {i n : Nat} (h : i ≤ n) : sumN f i ≤ sumN f n := by
  induction n with
  | zero => obtain rfl : i = 0 := by omega
            exact Nat.le_refl _
  | succ n ih =>
    by_cases e : i = n + 1
    · subst e; exact Nat.le_refl _
    · have := ih (by omega)
      simp only [sumN]; omega
/-- What a MarkThen's row holds behind i rounds and j of the next one. -/
def cvP (a b : Tm) (i j : Nat) (n : Int) : Nat := sumN (fun i' => cntT a (i' : Int) * cntT b (n - (i' : Int))) i + if (i : Int) ≤ n ∧ n < (i : Int) + (j : Int) then cntT a (i : Int) * cntT b (n - (i : Int)) else 0
theorem cvP_zero (a b : Tm) (n : Int) : cvP a b 0 0 n = 0 := by
  unfold cvP
  rw [if_neg (by omega)]; rfl
theorem cvP_row {a b : Tm} (wb : Wf b) (i j : Nat) (hj : (lenS b).2.1 < (j : Int)) (n : Int) : cvP a b i j n = cvP a b (i + 1) 0 n := by
  unfold cvP
  rw [if_neg (show ¬ (((i + 1 : Nat) : Int) ≤ n ∧ n < ((i + 1 : Nat) : Int) + ((0 : Nat) : Int)) by omega), sumN]
  by_cases h : (i : Int) ≤ n ∧ n < (i : Int) + (j : Int)
  · rw [if_pos h]; omega
  · rw [if_neg h, cnt_out wb (n := n - (i : Int)) (by omega)]; omega
theorem cvP_step (a b : Tm) (i j : Nat) (n : Int) : cvP a b i (j + 1) n = if n = (i : Int) + (j : Int) then cvP a b i j n + cntT a (i : Int) * cntT b (j : Int) else cvP a b i j n := by
  unfold cvP
  by_cases h : n = (i : Int) + (j : Int)
  · subst h
    rw [if_pos rfl, if_pos (by omega), if_neg (by omega), show (i : Int) + (j : Int) - (i : Int) = (j : Int) by omega, Nat.add_zero]
  · rw [if_neg h]
    by_cases h2 : (i : Int) ≤ n ∧ n < (i : Int) + (j : Int)
    · rw [if_pos h2, if_pos (by omega)]
    · rw [if_neg h2, if_neg (by omega)]
theorem cvP_le {a b : Tm} (wa : Wf a) (i j : Nat) (n : Int) : cvP a b i j n ≤ cntT (.two 1 a b) n := by
  have hb := lenS_bd wa
  rw [cnt_then wa n (max (i + 1) ((lenS a).2.1 + 1).toNat) (by omega)]
  have h1 := sumN_le (f := fun i' => cntT a (i' : Int) * cntT b (n - (i' : Int))) (show i + 1 ≤ max (i + 1) ((lenS a).2.1 + 1).toNat by omega)
  simp only [sumN] at h1
  unfold cvP
  split <;> omega
theorem cvP_end {a b : Tm} (wa : Wf a) (i : Nat) (hi : (lenS a).2.1 < (i : Int)) (n : Int) : cvP a b i 0 n = cntT (.two 1 a b) n := by
  rw [cnt_then wa n i hi]
  unfold cvP
  rw [if_neg (by omega)]; rfl
/-- .. as a row. -/
def cvL (a b : Tm) (i j N : Nat) : List Int := (List.range N).map fun n : Nat => (cvP a b i j (n : Int) : Int)
theorem cvL_len (a b : Tm) (i j N : Nat) : (cvL a b i j N).length = N := by simp [cvL]
theorem cvL_get (a b : Tm) (i j : Nat) {N n : Nat} (h : n < N) : (cvL a b i j N).getD n 0 = (cvP a b i j (n : Int) : Int) := by simp [cvL, List.getD, h]
theorem cvL_row {a b : Tm} (wb : Wf b) (i j N : Nat) (hj : (lenS b).2.1 < (j : Int)) : cvL a b i j N = cvL a b (i + 1) 0 N := by
  unfold cvL
  exact List.map_congr_left fun n _ => by rw [cvP_row wb i j hj]
theorem cvL_step (a b : Tm) (i j N : Nat) : cvL a b i (j + 1) N = (cvL a b i j N).set (i + j) ((cvP a b i j ((i + j : Nat) : Int) : Int) + (cntT a (i : Int) : Int) * (cntT b (j : Int) : Int)) := by
  apply List.ext_getElem?
  intro n
  by_cases hn : n < N
  · rw [List.getElem?_set]
    simp only [cvL, List.getElem?_map, List.length_map, List.length_range, List.getElem?_range hn, Option.map_some]
    rw [cvP_step]
    by_cases h : i + j = n
    · subst h
      rw [if_pos rfl, if_pos hn, if_pos (by omega)]; push_cast; rfl
    · rw [if_neg h, if_neg (by omega)]
  · rw [List.getElem?_eq_none (by rw [cvL_len]; omega), List.getElem?_eq_none (by rw [List.length_set, cvL_len]; omega)]
theorem cvL_zero (a b : Tm) (N : Nat) : cvL a b 0 0 N = List.replicate N 0 := by
  unfold cvL
  simp only [cvP_zero]
  apply List.ext_getElem?
  intro n
  by_cases hn : n < N
  · simp [hn]
  · rw [List.getElem?_eq_none (by simp; omega), List.getElem?_eq_none (by simp; omega)]
theorem cvL_end {a b : Tm} (wa : Wf a) (wb : Wf b) (i N : Nat) (hi : (lenS a).2.1 < (i : Int)) (hN : (N : Int) = (lenS a).2.1 + (lenS b).2.1 + 1) : cvL a b i 0 N = cntL (.two 1 a b) := by
  have hl : (lenS (.two 1 a b)).2.1 = (lenS a).2.1 + (lenS b).2.1 := by simp [lenS]
  refine cntL_ext (by rw [cvL_len, hl]; omega) fun j hj => ?_
  rw [hl] at hj
  rw [cvL_get a b i 0 (by omega), cvP_end wa i hi]

/-- .. by what has been taken out of the maps. -/
def goneN (left : Int → Bool) (F : Int → Nat) (M : Nat) : Nat := sumN (fun i => if left (i : Int) then 0 else F (i : Int)) M
theorem goneN_none {left : Int → Bool} {F : Int → Nat} {M : Nat} (h : ∀ i : Int, left i = false → F i = 0) : goneN left F M = 0 :=
  sumN_zero M fun i _ => by
    cases hl : left (i : Int) with
    | true => rfl
    | false => exact h _ hl
theorem goneN_all {left : Int → Bool} {F : Int → Nat} {M : Nat} (h : ∀ i : Int, left i = false) : goneN left F M = sumN (fun i => F (i : Int)) M :=
  sumN_congr M fun i _ => by rw [h]; rfl
theorem goneN_strike {left : Int → Bool} {F : Int → Nat} {M : Nat} {x : Int} (hl : left x = true) (h0 : 0 ≤ x) (h1 : x < (M : Int)) : goneN (fun z => left z && !(z == x)) F M = goneN left F M + F x := by
  unfold goneN
  have e : ∀ i : Nat, (if (left (i : Int) && !((i : Int) == x)) = true then 0 else F (i : Int)) = (if left (i : Int) then 0 else F (i : Int)) + (if (i : Int) = x then F x else 0) := by
    intro i
    by_cases hx : (i : Int) = x
    · rw [hx, hl]; simp
    · rw [if_neg hx]; simp [hx]
  simp only [e]
  rw [sumN_add]
  congr 1
  rw [sumN_one (k := x.toNat) (by omega) (fun i _ hne => if_neg (by omega)), if_pos (by omega)]
theorem goneN_le {left : Int → Bool} {F : Int → Nat} {M : Nat} : goneN left F M ≤ sumN (fun i => F (i : Int)) M :=
  sumN_mono M fun i _ => by split <;> omega

end Go.Proofs.Ytookhelfbnhadaa
