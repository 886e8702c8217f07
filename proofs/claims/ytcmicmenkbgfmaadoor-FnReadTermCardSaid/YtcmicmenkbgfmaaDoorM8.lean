/- Lengths of terms: both LengthsOf, both AlikeTerms; the tree of a row of marks. -/
import Derived.Test.YtcmicmenkbgfmaaDoorM7
namespace Go.Proofs.YtcmicmenkbgfmaaDoor
open Go.RowKit

theorem TIs.eq {xs : List Mk} {x y : Tm} (h : TIs xs x) (h' : TIs xs y) : x = y := by
  have h1 := runM_marks x h.1 []
  have h2 := runM_marks y h'.1 []
  simp only [List.nil_append] at h1 h2
  rw [h.2.1] at h1
  rw [h'.2.1, h1] at h2
  simpa [runM_nil] using h2
/-- What a function of trees says of a row of marks; d of a row that is no term. -/
noncomputable def onT {α : Type} (d : α) (f : Tm → α) (xs : List Mk) : α := @dite _ (TOk xs) (Classical.propDecidable _) (fun h => f h.choose) (fun _ => d)
theorem onT_pos {α : Type} {d : α} {f : Tm → α} {xs : List Mk} {x : Tm} (h : TIs xs x) : onT d f xs = f x := by
  have h1 : TOk xs := ⟨x, h⟩
  unfold onT
  rw [dif_pos h1]
  congr 1
  exact TIs.eq (show TIs xs h1.choose from h1.choose_spec) h
theorem onT_neg {α : Type} {d : α} {f : Tm → α} {xs : List Mk} (h : ¬ TOk xs) : onT d f xs = d := by unfold onT; rw [dif_neg h]

def lenR (x : Tm) : Int × Int × Bool := if (lenS x).2.2 = false then (0, 0, false) else lenS x
noncomputable def LenF (xs : List Mk) : Int × Int × Bool := onT (0, 0, false) lenR xs
theorem TIs.len {xs : List Mk} {x : Tm} (h : TIs xs x) {w : World} {A : Option Addr} {n : Nat} (hm : MarksAt w A n xs) : n ≤ 11 := by rw [← hm.len]; exact h.2.2
theorem TIs.steps {xs : List Mk} {x : Tm} (h : TIs xs x) : stepsT x ≤ 11 := by
  have h1 := stepsT_le x
  rw [h.2.1] at h1
  exact Nat.le_trans h1 h.2.2
theorem TIs.at_ {xs : List Mk} {x : Tm} (h : TIs xs x) {w : World} {A : Option Addr} {n : Nat} (hm : MarksAt w A n xs) : MarksAt w A n (marksOf x) := by rw [h.2.1]; exact hm



def AlikeP (xs ys : List Mk) : Prop := TOk xs ∧ TOk ys ∧ LenF xs = LenF ys



end Go.Proofs.YtcmicmenkbgfmaaDoor
