/- What the laws over plans and states share. -/
import Derived.Test.YtpefimeogbpagaaW8
import Derived.Test.YtpefimeogbpagaaAL
set_option linter.unusedSimpArgs false
namespace Go.Proofs.Ytpefimeogbpagaa
open Go.RowKit

/-- The plan's box P, the state's box P + 1; all of w0 is as it was. -/
structure LS (w0 w : World) (P : Nat) (pts : Int) (A : Option Addr) (n c : Nat) (xs : List Bd) (now : Int) (D : Option Addr) (m d : Nat) (ds : List Int) : Prop where
  below : Below w0.heap.size w0 w
  p0 : w.cell? ⟨P, 0, none⟩ = some (.int .i64 pts)
  p1 : w.cell? ⟨P, 1, none⟩ = some (.slice A n c)
  s0 : w.cell? ⟨P + 1, 0, none⟩ = some (.int .i64 now)
  s1 : w.cell? ⟨P + 1, 1, none⟩ = some (.slice D m d)
  row : BndsAt w A n xs
  tim : IntsAt w D m ds
  room : n ≤ 16 ∧ m ≤ 8
section
variable {w0 w w' : World} {P n c m d : Nat} {pts now : Int} {A D : Option Addr} {xs : List Bd} {ds : List Int}
theorem LS.next (h : LS w0 w P pts A n c xs now D m d ds) (hb : Below w.heap.size w w') : LS w0 w' P pts A n c xs now D m d ds :=
  ⟨h.below.trans (hb.mono h.below.size), keep hb h.p0, keep hb h.p1, keep hb h.s0, keep hb h.s1, h.row.below hb, h.tim.below hb, h.room⟩
theorem LS.cells (h : LS w0 w P pts A n c xs now D m d ds) : w.cell? ⟨P, 0, none⟩ = some (.int .i64 pts) ∧ w.cell? ⟨P, 1, none⟩ = some (.slice A n c) ∧ w.cell? ⟨P + 1, 0, none⟩ = some (.int .i64 now) ∧ w.cell? ⟨P + 1, 1, none⟩ = some (.slice D m d) ∧ P + 1 < w.heap.size := ⟨h.p0, h.p1, h.s0, h.s1, cell_lt h.s0⟩
theorem LS.made {w1 : World} (hb1 : Below w0.heap.size w0 w1) (hrow : BndsAt w1 A n xs) (htim : IntsAt w1 D m ds) (hr : n ≤ 16 ∧ m ≤ 8) (pts now : Int) (c d : Nat) (t t' : TypeId) : LS w0 ((w1.alloc (.cells #[.int .i64 pts, .slice A n c] t)).alloc (.cells #[.int .i64 now, .slice D m d] t')) w1.heap.size pts A n c xs now D m d ds := by
  have hb : Below w1.heap.size w1 ((w1.alloc (.cells #[.int .i64 pts, .slice A n c] t)).alloc (.cells #[.int .i64 now, .slice D m d] t')) := ((Below.refl _ _).alloc (Nat.le_refl _) _).alloc (by simp) _
  exact ⟨hb1.trans (hb.mono hb1.size), by simp [go_sem], by simp [go_sem], by simp [go_sem], by simp [go_sem], hrow.below hb, htim.below hb, hr⟩
end
/-- With a point not done it is a state. -/
theorem StOk.unset {p : Int} {bs : List Bd} {now : Int} {ds : List Int} (h : StOk p bs now ds) {k : Nat} (hk : 1 ≤ k) : StOk p bs now (ds.set k (-1)) := by
  obtain ⟨h1, h2, h3, h4, h5⟩ := h
  refine ⟨h1, by rw [List.length_set]; exact h2, h3, ?_, fun x hx => ?_⟩
  · have hne : k ≠ 0 := by omega
    have h6 : (ds.set k (-1)).getD 0 0 = ds.getD 0 0 := by simp [List.getD, hne]
    rw [h6]; exact h4
  · rcases List.mem_or_eq_of_mem_set hx with hx | rfl
    · exact h5 x hx
    · exact ⟨Int.le_refl _, by have := h3.1; omega⟩
/-- A unit later it is a state. -/
theorem StOk.later {p : Int} {bs : List Bd} {now : Int} {ds : List Int} (h : StOk p bs now ds) {now' : Int} (h1 : now ≤ now') (h2 : now' ≤ 2000) : StOk p bs now' ds :=
  ⟨h.1, h.2.1, ⟨by have := h.2.2.1.1; omega, h2⟩, h.2.2.2.1, fun x hx => ⟨(h.2.2.2.2 x hx).1, by have := (h.2.2.2.2 x hx).2; omega⟩⟩

end Go.Proofs.Ytpefimeogbpagaa
