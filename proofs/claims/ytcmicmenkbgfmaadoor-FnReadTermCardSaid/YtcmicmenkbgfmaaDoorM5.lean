/- Terms: sizes and openings of marks; impl.TermOk, both StepsOf. -/
import Derived.Test.YtcmicmenkbgfmaaDoorM4
import Derived.Lib.SmallJoins
namespace Go.Proofs.YtcmicmenkbgfmaaDoor
open Go.RowKit

theorem szMarkS_ok (A : Option Addr) (n c : Nat) (left : Int) (w : World) (hn : n ≤ 9223372036854775807) (hl : 0 ≤ left ∧ left ≤ 1048576) :
    Calls Tryd.prog 19 #[.slice A n c, .int .i64 left] w (SzOk w (n ≤ 1048576)) :=
  (szMarkS_any A n c left w hn hl).mono fun e w' ⟨he, hw⟩ => by
    subst he; subst hw
    exact ⟨_, rfl, fun h => by have := (szI_le h).1; omega, (szI_bd hl).1, (szI_bd hl).2, Below.refl _ _⟩

section
open Go.ChangeShapes Go.WideShapes Go.ChangeAt Go.Joins
set_option maxRecDepth 100000 in
theorem open_marks {H : Type} {enc : TypeId × Value → H} {w : World} {base b0 : Nat} {spare : Nat → Bool} {held : Bool} {r : Reach} {v : Value} {d : DataW H} {p : List MemPlace}
    (hv : Value.okWide Tryd.prog w r b0 35 v) (h : DataW.Trod enc Tryd.prog w base spare held 35 v d p) :
    ∃ A n c xs, v = .slice A n c ∧ (n ≤ 9223372036854775807 ∧ MarksAt w A n xs) := by
  obtain ⟨A, n, c, rfl⟩ := okWide_slice Tryd.underlying35 hv
  obtain ⟨fuel, hf⟩ := h
  obtain ⟨A', n', c', xs, e, hn, hx⟩ := openMarkS (v := .slice A n c) (by simpa [Value.cells] using hf)
  cases e
  exact ⟨A, n, c, xs, rfl, hn, hx⟩
end

theorem iTermOk_any (A : Option Addr) (n c : Nat) (xs : List Mk) (w : World) (h : MarksAt w A n xs) (hn : n ≤ 1048576) :
    Calls Tryd.prog 10 #[.slice A n c] w (Bl w (.bool (B (TOk xs)))) := by
  go_enter Tryd.func10, Tryd.ntmps10
  go_wp2_with (fail)
  refine kBuild (iBuild_any A n c xs _ h hn) ?_ ?_
  · intro w1 hx hb1
    go_wp2
    go_ret
    exact ⟨ret_b (B_false hx.out).symm, hb1⟩
  · intro w1 x a hx hb1 hp
    go_wp2
    go_ret
    exact ⟨ret_b (B_true ⟨x, hx.out⟩).symm, hb1⟩

/-- How many marks are steps. -/
def stepsIn (xs : List Mk) : Nat := xs.countP fun m => m.1 == 0
theorem stepsIn_take_succ {xs : List Mk} {k : Nat} (hk : k < xs.length) : stepsIn (xs.take (k + 1)) = stepsIn (xs.take k) + if (xs.getD k (0, 0, 0)).1 = 0 then 1 else 0 := by
  rw [List.take_succ_eq_append_getElem hk, stepsIn, List.countP_append]
  simp [List.getD, hk, stepsIn, List.countP_cons]
theorem stepsIn_le (xs : List Mk) : stepsIn xs ≤ xs.length := List.countP_le_length
theorem TOk.len {xs : List Mk} (h : TOk xs) : xs.length ≤ 11 := by obtain ⟨x, hx⟩ := h; exact hx.2.2
noncomputable def StepsV (xs : List Mk) : Int := @ite _ (TOk xs) (Classical.propDecidable _) (stepsIn xs : Int) (-1)
theorem stepsV_pos {xs : List Mk} (h : TOk xs) : StepsV xs = (stepsIn xs : Int) := by unfold StepsV; rw [if_pos h]
theorem stepsV_neg {xs : List Mk} (h : ¬ TOk xs) : StepsV xs = -1 := by unfold StepsV; rw [if_neg h]



end Go.Proofs.YtcmicmenkbgfmaaDoor
