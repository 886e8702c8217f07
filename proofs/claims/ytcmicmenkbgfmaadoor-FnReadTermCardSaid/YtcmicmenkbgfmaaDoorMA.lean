/- Trees of parts by their kids; (*part).marks. -/
import Derived.Test.YtcmicmenkbgfmaaDoorM9
namespace Go.Proofs.YtcmicmenkbgfmaaDoor
open Go.RowKit

def kidsT : Tm → List Tm
  | .step _ _ => []
  | .two _ a b => [a, b]
  | .one a _ => [a]
theorem kids_ind {P : Tm → Prop} (h : ∀ t, (∀ k ∈ kidsT t, P k) → P t) : ∀ t, P t := by
  intro t
  induction t with
  | step l hh => exact h _ (by simp [kidsT])
  | two k a b iha ihb => exact h _ (by simp [kidsT, iha, ihb])
  | one a hh ih => exact h _ (by simp [kidsT, ih])
theorem kidsT_len (t : Tm) : (kidsT t).length ≤ 2 := by cases t <;> simp [kidsT]
theorem marksOf_kids (t : Tm) : marksOf t = allMarks (kidsT t) ++ [markT t] := by
  cases t <;> simp [marksOf, allMarks, kidsT, markT]
theorem Pt.open {D : Nat → Prop} {w : World} {t : Tm} {a : Addr} (hp : Pt D w t a) : ∃ b off A c ps, a = ⟨b, off, none⟩ ∧ D b ∧ w.cell? ⟨b, off, none⟩ = some (.int .i64 (markT t).1) ∧ w.cell? ⟨b, off + 1, none⟩ = some (.int .i64 (markT t).2.1) ∧ w.cell? ⟨b, off + 2, none⟩ = some (.int .i64 (markT t).2.2) ∧ w.cell? ⟨b, off + 3, none⟩ = some (.slice A ps.length c) ∧ PtrsAt D w A ps.length ps ∧ ps.length = (kidsT t).length ∧ ∀ j, j < ps.length → Pt D w ((kidsT t).getD j dflt) (ps.getD j a0) := by
  cases t with
  | step l h =>
    obtain ⟨b, off, A, c, e, hd, h0, h1, h2, h3, hr⟩ := hp
    exact ⟨b, off, A, c, [], e, hd, h0, h1, h2, h3, hr, rfl, fun j hj => by simp at hj⟩
  | two k x y =>
    obtain ⟨ax, ay, ⟨b, off, A, c, e, hd, h0, h1, h2, h3, hr⟩, hx, hy⟩ := hp
    refine ⟨b, off, A, c, [ax, ay], e, hd, h0, h1, h2, h3, hr, rfl, fun j hj => ?_⟩
    match j, hj with
    | 0, _ => exact hx
    | 1, _ => exact hy
  | one x h =>
    obtain ⟨ax, ⟨b, off, A, c, e, hd, h0, h1, h2, h3, hr⟩, hx⟩ := hp
    refine ⟨b, off, A, c, [ax], e, hd, h0, h1, h2, h3, hr, rfl, fun j hj => ?_⟩
    match j, hj with
    | 0, _ => exact hx
theorem allMarks_take_succ {st : List Tm} {k : Nat} (h : k < st.length) : allMarks (st.take (k + 1)) = allMarks (st.take k) ++ marksOf (st.getD k dflt) := by
  rw [List.take_succ_eq_append_getElem h, allMarks_append, allMarks_one]
  simp [List.getD, h]
theorem allMarks_take_le (st : List Tm) (k : Nat) : (allMarks (st.take k)).length ≤ (allMarks st).length := by
  have h : allMarks st = allMarks (st.take k) ++ allMarks (st.drop k) := by rw [← allMarks_append, List.take_append_drop]
  rw [h, List.length_append]; omega


end Go.Proofs.YtcmicmenkbgfmaaDoor
