/- Terms with narrowed steps: plain facts: the reference's and the program's way make the same tree. -/
import Derived.Test.YtookhelfbnhadaaMH
namespace Go.Proofs.Ytookhelfbnhadaa
open Go.RowKit

/-- The reference's way. -/
def narS : Tm → Int → Int → Tm
  | .step l h, lo, hi => .step (max l lo) (min h hi)
  | .one a h, lo, hi => .one (narS a lo (min hi h)) h
  | .two k a b, lo, hi => if k = 1
      then .two k (narS a (max (lenS a).1 (lo - (lenS b).2.1)) (min (lenS a).2.1 (hi - (lenS b).1))) (narS b (max (lenS b).1 (lo - (lenS a).2.1)) (min (lenS b).2.1 (hi - (lenS a).1)))
      else .two k (narS a (max (max (lenS a).1 (lenS b).1) lo) (min (min (lenS a).2.1 (lenS b).2.1) hi)) (narS b (max (max (lenS a).1 (lenS b).1) lo) (min (min (lenS a).2.1 (lenS b).2.1) hi))
/-- The program's way. -/
def narI : Tm → Int → Int → Tm
  | .step l h, lo, hi => .step (max lo l) (min hi h)
  | .one a h, lo, hi => .one (narI a (max lo (lenS (.one a h)).1) (min hi (lenS (.one a h)).2.1)) h
  | .two k a b, lo, hi => if k = 1
      then .two k (narI a (max lo (lenS (.two k a b)).1 - (lenS b).2.1) (min hi (lenS (.two k a b)).2.1 - (lenS b).1)) (narI b (max lo (lenS (.two k a b)).1 - (lenS a).2.1) (min hi (lenS (.two k a b)).2.1 - (lenS a).1))
      else .two k (narI a (max lo (lenS (.two k a b)).1) (min hi (lenS (.two k a b)).2.1)) (narI b (max lo (lenS (.two k a b)).1) (min hi (lenS (.two k a b)).2.1))
theorem narI_eq (t : Tm) : ∀ lo hi, narI t lo hi = narS t (max lo (lenS t).1) (min hi (lenS t).2.1) := by
  induction t with
  | step l h =>
    intro lo hi
    simp only [narI, narS, lenS]
    rw [show max l (max lo l) = max lo l by omega, show min h (min hi h) = min hi h by omega]
  | one a h ih =>
    intro lo hi
    simp only [narI, narS, ih, lenS]
    rw [show max (max lo (lenS a).1) (lenS a).1 = max lo (lenS a).1 by omega, show min (min hi (min (lenS a).2.1 h)) (lenS a).2.1 = min (min hi (min (lenS a).2.1 h)) h by omega]
  | two k a b iha ihb =>
    intro lo hi
    by_cases hk : k = 1
    · simp only [narI, narS, iha, ihb, lenS, if_pos hk]
      congr 2 <;> omega
    · simp only [narI, narS, iha, ihb, lenS, if_neg hk]
      congr 2 <;> omega
theorem narI_full (t : Tm) : narI t (lenS t).1 (lenS t).2.1 = narS t (lenS t).1 (lenS t).2.1 := by
  rw [narI_eq, show max (lenS t).1 (lenS t).1 = (lenS t).1 by omega, show min (lenS t).2.1 (lenS t).2.1 = (lenS t).2.1 by omega]
theorem narI_marks (t : Tm) : ∀ lo hi, (marksOf (narI t lo hi)).length = (marksOf t).length := by
  induction t with
  | step l h => intro lo hi; rfl
  | one a h ih => intro lo hi; simp only [narI, marksOf, List.length_append, List.length_singleton, ih]
  | two k a b iha ihb =>
    intro lo hi
    simp only [narI]
    split <;> simp only [marksOf, List.length_append, List.length_singleton, iha, ihb]
theorem narS_marks (t : Tm) : ∀ lo hi, (marksOf (narS t lo hi)).length = (marksOf t).length := by
  induction t with
  | step l h => intro lo hi; rfl
  | one a h ih => intro lo hi; simp only [narS, marksOf, List.length_append, List.length_singleton, ih]
  | two k a b iha ihb =>
    intro lo hi
    simp only [narS]
    split <;> simp only [marksOf, List.length_append, List.length_singleton, iha, ihb]

end Go.Proofs.Ytookhelfbnhadaa
