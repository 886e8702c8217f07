/- Rows of bounds that a call has made itself. -/
import Derived.Test.YtpefimeogbpagaaP1
import Derived.Test.YtpefimeogbpagaaO1
namespace Go.Proofs.Ytpefimeogbpagaa
open Go.RowKit

theorem rowB : RowTy Try.prog 23 61 (.agg #[.int .i64 0, .int .i64 0, .int .i64 0]) 3 24 := ⟨Try.underlying23, infoBound, rfl, by decide, by decide⟩

/-- A row of bounds of one's own. -/
abbrev OwnB (w : World) (base : Nat) (A : Option Addr) (n c : Nat) (xs : List Bd) : Prop := w.ownsRow base 61 3 (.slice A n c) n (v3 xs)
theorem v3_injB {xs ys : List Bd} (h : v3 xs = v3 ys) : xs = ys := by
  induction xs generalizing ys with
  | nil => cases ys with
    | nil => rfl
    | cons y ys => rw [v3_cons, v3_nil] at h; cases h
  | cons x xs ih => cases ys with
    | nil => rw [v3_cons, v3_nil] at h; cases h
    | cons y ys =>
      rw [v3_cons, v3_cons] at h
      obtain ⟨x0, x1, x2⟩ := x
      obtain ⟨y0, y1, y2⟩ := y
      simp at h
      obtain ⟨rfl, rfl, rfl, h⟩ := h
      rw [ih h]
theorem OwnB.len {w : World} {base : Nat} {A : Option Addr} {n c : Nat} {xs : List Bd} (h : OwnB w base A n c xs) : xs.length = n := by
  have := h.1; rw [v3_len] at this; omega
theorem OwnB.at_ {w : World} {base : Nat} {A : Option Addr} {n c : Nat} {xs : List Bd} (h : OwnB w base A n c xs) : BndsAt w A n xs := by
  have hl := h.len
  obtain ⟨A', c', e, hc, hA, hcell⟩ := own_cells h
  cases e
  refine ⟨hl, fun hn => ?_⟩
  obtain ⟨g, rfl, _, _, hg⟩ := hcell hn
  refine ⟨g, 0, rfl, fun j hj => ?_⟩
  obtain ⟨g0, g1, g2⟩ := v3_get xs j (by omega)
  rw [Nat.zero_add]
  exact ⟨hg _ _ g0, hg _ _ g1, hg _ _ g2⟩
theorem OwnB.cap {w : World} {base : Nat} {A : Option Addr} {n c : Nat} {xs : List Bd} (h : OwnB w base A n c xs) : n ≤ c := by
  obtain ⟨A', c', e, hc, hA, hcell⟩ := own_cells h
  cases e; exact hc
/-- A block of three cells just laid. -/
theorem cell3B {w : World} {q : Nat} (hq : w.heap.size = q) (x : Bd) (t : TypeId) : ∀ j u, (v3 [x])[j]? = some u → (w.alloc (.cells #[.int .i64 x.1, .int .i64 x.2.1, .int .i64 x.2.2] t)).cell? ((⟨q, 0, none⟩ : Addr).add j) = some u := by
  subst hq
  intro j u hu
  rw [addr_add, Nat.zero_add, World.cell?_alloc_new]
  have e : v3 [x] = [.int .i64 x.1, .int .i64 x.2.1, .int .i64 x.2.2] := rfl
  rw [e] at hu
  match j with
  | 0 => simpa using hu
  | 1 => simpa using hu
  | 2 => simpa using hu
  | j + 3 => simp at hu
theorem OwnB.empty (w : World) (base : Nat) : OwnB w base none 0 0 [] := World.ownsRow_nil _ _ _ _

end Go.Proofs.Ytpefimeogbpagaa
