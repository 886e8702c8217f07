/- Draws: small facts on own rows, literals, the reader and new blocks. -/
import Derived.Test.YtpefimeogbpagaaDR1
import Derived.Test.YtpefimeogbpagaaB1
namespace Go.Proofs.Ytpefimeogbpagaa
open Go.RowKit

theorem own_setOld {w : World} {base : Nat} {e : TypeId} {size : Nat} {v : Value} {n : Nat} {xs : List Value} (h : w.ownsRow base e size v n xs) {Q : Nat} (hQ : Q < base) (i : Nat) (u : Value) : (w.setCell ⟨Q, i, none⟩ u).ownsRow base e size v n xs :=
  h.kept (row := some Q) ⟨rfl, rfl, rfl, by simp [World.setCell], fun k _ hk => Below.heap_setCell _ _ _ _ (fun e => hk (by rw [e]))⟩ (by
    cases hb : v.ownBlock with
    | none => exact .inl rfl
    | some k => exact .inr (fun e => by have := (h.lt k hb).1; cases e; omega))
theorem lit2_new (w : World) (t : TypeId) (x y : Int) {i : Nat} (hi : i < 2) : ∃ X : Int, (w.alloc (.cells #[.int .i64 x, .int .i64 y] t)).cell? ⟨w.heap.size, i, none⟩ = some (.int .i64 X) := by
  rw [World.cell?_alloc_new]
  match i, hi with
  | 0, _ => exact ⟨x, rfl⟩
  | 1, _ => exact ⟨y, rfl⟩
theorem lit2_old {w w' : World} {R : Nat} {t : TypeId} {x y : Int} (hg : (w.alloc (.cells #[.int .i64 x, .int .i64 y] t)).drew.grownBy w' (some R)) {i : Nat} (hi : i < 2) (hR : R < w.heap.size) : ∃ X : Int, w'.cell? ⟨w.heap.size, i, none⟩ = some (.int .i64 X) := by
  obtain ⟨X, h⟩ := lit2_new w t x y hi
  exact ⟨X, hg.cell (show (w.alloc (.cells #[.int .i64 x, .int .i64 y] t)).drew.cell? _ = _ from h) (fun e => by cases e; exact Nat.lt_irrefl _ hR)⟩
theorem Mv.setNew {R : Nat} {B : Int} {w w1 : World} (h : Mv R B w w1) {P : Nat} (hP : w.heap.size ≤ P) (hR : R < w.heap.size) (i : Nat) (v : Value) : Mv R B w (w1.setCell ⟨P, i, none⟩ v) :=
  h.grown (row := some P) ⟨rfl, rfl, rfl, by simp [World.setCell], fun k _ hk => Below.heap_setCell _ _ _ _ (fun e => hk (by rw [e]))⟩ (fun g hg => by cases hg; exact hP) hR
theorem Blk.new_at {w : World} {q : Nat} (hq : w.heap.size = q) (t : TypeId) (cs : Array Value) : Blk (w.alloc (.cells cs t)) q t cs := by subst hq; exact Blk.new w t cs

end Go.Proofs.Ytpefimeogbpagaa
