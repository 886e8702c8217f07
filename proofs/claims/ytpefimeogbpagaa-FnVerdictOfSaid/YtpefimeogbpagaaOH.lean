/- Rows of happenings of one's own: copies, marks. -/
import Derived.Test.YtpefimeogbpagaaTHappening
import Derived.Test.YtpefimeogbpagaaOZ
namespace Go.Proofs.Ytpefimeogbpagaa
open Go.RowKit

/-- Elements of two integer cells, flat. -/
def v2 (xs : List (Int × Int)) : List Value := xs.flatMap fun x => [.int .i64 x.1, .int .i64 x.2]
theorem v2_nil : v2 [] = [] := rfl
theorem v2_cons (x : Int × Int) (xs : List (Int × Int)) : v2 (x :: xs) = .int .i64 x.1 :: .int .i64 x.2 :: v2 xs := rfl
theorem v2_append (xs ys : List (Int × Int)) : v2 (xs ++ ys) = v2 xs ++ v2 ys := by simp [v2]
theorem v2_len (xs : List (Int × Int)) : (v2 xs).length = xs.length * 2 := by
  induction xs with
  | nil => rfl
  | cons x xs ih => rw [v2_cons]; simp [ih]; omega
theorem v2_one (xs : List (Int × Int)) : ∀ u ∈ v2 xs, u.oneCell' = true := by
  intro u hu
  obtain ⟨x, _, hx⟩ := List.mem_flatMap.1 hu
  simp at hx
  rcases hx with rfl | rfl <;> rfl
theorem v2_get (xs : List (Int × Int)) : ∀ j, j < xs.length → (v2 xs)[j * 2]? = some (.int .i64 (xs.getD j (0, 0)).1) ∧ (v2 xs)[j * 2 + 1]? = some (.int .i64 (xs.getD j (0, 0)).2) := by
  induction xs with
  | nil => intro j hj; simp at hj
  | cons x xs ih =>
    intro j hj
    cases j with
    | zero => simp [v2_cons]
    | succ j =>
      have := ih j (by simpa using hj)
      rw [v2_cons, show (j + 1) * 2 = j * 2 + 2 by omega]
      simpa [List.getD] using this
abbrev OwnH (w : World) (base : Nat) (A : Option Addr) (n c : Nat) (xs : List (Int × Int)) : Prop := w.ownsRow base 37 2 (.slice A n c) n (v2 xs)
theorem OwnH.len {w : World} {base : Nat} {A : Option Addr} {n c : Nat} {xs : List (Int × Int)} (h : OwnH w base A n c xs) : xs.length = n := by
  have := h.1; rw [v2_len] at this; omega
theorem OwnH.at_ {w : World} {base : Nat} {A : Option Addr} {n c : Nat} {xs : List (Int × Int)} (h : OwnH w base A n c xs) : HapsAt w A n xs := by
  have hl := h.len
  obtain ⟨A', c', e, hc, hA, hcell⟩ := own_cells h
  cases e
  refine ⟨hl, fun hn => ?_⟩
  obtain ⟨g, rfl, _, _, hg⟩ := hcell hn
  refine ⟨g, 0, rfl, fun j hj => ?_⟩
  obtain ⟨g0, g1⟩ := v2_get xs j (by omega)
  rw [Nat.zero_add]
  exact ⟨hg _ _ g0, hg _ _ g1⟩
/-- A call that makes such a row. -/
def NewOwnH (w : World) (n : Nat) (xs : List (Int × Int)) (e : Ending) (w' : World) : Prop :=
  ∃ A c, e = .returned (.slice A n c) ∧ OwnH w' w.heap.size A n c xs ∧ Below w.heap.size w w'
theorem kNewOwnH {Pr : Program} {f : FuncId} {args : Array Value} {w : World} {R : Ending → World → Prop} {n : Nat} {xs : List (Int × Int)} (h : Calls Pr f args w (NewOwnH w n xs))
    (h1 : ∀ A c w', OwnH w' w.heap.size A n c xs → Below w.heap.size w w' → R (.returned (.slice A n c)) w') : Calls Pr f args w R :=
  h.mono fun e w' ⟨A, c, he, hi, hb⟩ => by subst he; exact h1 A c w' hi hb



end Go.Proofs.Ytpefimeogbpagaa
