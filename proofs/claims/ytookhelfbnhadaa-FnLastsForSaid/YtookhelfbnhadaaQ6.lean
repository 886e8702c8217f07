/- Plain facts of the rows' functions LenF, ForF, LastF for the laws over draws. -/
import Derived.Test.YtookhelfbnhadaaQ5
import Derived.Test.YtookhelfbnhadaaME
import Derived.Test.YtookhelfbnhadaaMI
namespace Go.Proofs.Ytookhelfbnhadaa
open Go.RowKit

theorem lenF_bd (xs : List Mk) : 0 ≤ (LenF xs).1 ∧ (LenF xs).1 ≤ 209 ∧ 0 ≤ (LenF xs).2.1 ∧ (LenF xs).2.1 ≤ 209 ∧ ((LenF xs).2.2 = true → (LenF xs).1 ≤ (LenF xs).2.1) := by
  by_cases hT : TOk xs
  · obtain ⟨x, hx⟩ := hT
    rw [show LenF xs = lenR x from onT_pos hx]
    have hb := lenS_bd hx.1
    have hs := TIs.steps hx
    unfold lenR
    split
    · exact ⟨Int.le_refl _, by decide, Int.le_refl _, by decide, fun h => by cases h⟩
    · exact ⟨by omega, by omega, by omega, by omega, fun h => lenS_le hx.1 h⟩
  · rw [show LenF xs = _ from onT_neg hT]
    exact ⟨Int.le_refl _, by decide, Int.le_refl _, by decide, fun h => by cases h⟩
/-- The lengths that are found last so long. -/
theorem lastF_for {xs : List Mk} {tot : Int} (h : ForP xs tot) : LastF xs (ForF xs tot) = (tot, true) ∧ 0 < (ForF xs tot).length := by
  obtain ⟨x, hx, hok, he, _, _⟩ := forP_tree h
  rw [he, show LastF xs (forT x tot) = _ from onT_pos hx]
  have hin := h.2
  rw [show LenF xs = lenR x from onT_pos hx] at hin
  unfold lenR at hin
  rw [if_neg (by rw [hok]; simp)] at hin
  have hl := lastV_for hx.1 (by have := TIs.steps hx; omega) tot hok hin.1 hin.2 [] []
  rw [List.nil_append, List.append_nil, List.length_nil] at hl
  unfold lastR
  rw [hl, if_pos ⟨forT_len x tot, rfl⟩]
  exact ⟨rfl, by rw [forT_len]; exact stepsT_pos x⟩

/-- The counts of a row. -/
noncomputable def CntF (xs : List Mk) : List Int := onT [] cntsT xs

end Go.Proofs.Ytookhelfbnhadaa
