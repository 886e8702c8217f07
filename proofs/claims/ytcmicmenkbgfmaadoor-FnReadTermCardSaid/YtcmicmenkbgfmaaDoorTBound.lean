/- Rows of Bounds (3 numbers each): the predicate, copies, equality, sizes. -/
import Derived.Test.YtcmicmenkbgfmaaDoorB1
namespace Go.Proofs.YtcmicmenkbgfmaaDoor
open Go.RowKit

structure BndsAt (w : World) (A : Option Addr) (n : Nat) (xs : List (Int × Int × Int)) : Prop where
  len : xs.length = n
  cells : 0 < n → ∃ b off, A = some ⟨b, off, none⟩ ∧ ∀ j, j < n → w.cell? ⟨b, off + j * 3, none⟩ = some (.int .i64 (xs.getD j (0, 0, 0)).1) ∧ w.cell? ⟨b, off + j * 3 + 1, none⟩ = some (.int .i64 (xs.getD j (0, 0, 0)).2.1) ∧ w.cell? ⟨b, off + j * 3 + 2, none⟩ = some (.int .i64 (xs.getD j (0, 0, 0)).2.2)

section
variable {w w' : World} {A : Option Addr} {n : Nat} {xs : List (Int × Int × Int)}
theorem BndsAt.keep (h : BndsAt w A n xs) (hk : ∀ p v, w.cell? p = some v → w'.cell? p = some v) : BndsAt w' A n xs :=
  ⟨h.len, fun hn => by obtain ⟨b, off, e, hc⟩ := h.cells hn; exact ⟨b, off, e, fun j hj => ⟨hk _ _ (hc j hj).1, hk _ _ (hc j hj).2.1, hk _ _ (hc j hj).2.2⟩⟩⟩
theorem BndsAt.below (h : BndsAt w A n xs) (hb : Below w.heap.size w w') : BndsAt w' A n xs := h.keep fun p v hv => by rw [hb.cell (cell_lt hv)]; exact hv
theorem BndsAt.drewN (h : BndsAt w A n xs) (m : Nat) : BndsAt (w.drewN m) A n xs := ⟨h.len, h.cells⟩
theorem BndsAt.setCell (h : BndsAt w A n xs) {q : Addr} (hne : ∀ a, A = some a → a.block ≠ q.block) (v : Value) : BndsAt (w.setCell q v) A n xs :=
  ⟨h.len, fun hn => by
    obtain ⟨b, off, e, hc⟩ := h.cells hn
    exact ⟨b, off, e, fun j hj => ⟨(World.cell?_setCell_other _ _ _ _ (fun e2 => hne _ e (by rw [e2]))).trans (hc j hj).1, (World.cell?_setCell_other _ _ _ _ (fun e2 => hne _ e (by rw [e2]))).trans (hc j hj).2.1, (World.cell?_setCell_other _ _ _ _ (fun e2 => hne _ e (by rw [e2]))).trans (hc j hj).2.2⟩⟩⟩
theorem BndsAt.keepB (h : BndsAt w A n xs) (hA : ∀ a, A = some a → w'.heap[a.block]? = w.heap[a.block]?) : BndsAt w' A n xs :=
  ⟨h.len, fun hn => by
    obtain ⟨b, off, e, hc⟩ := h.cells hn
    exact ⟨b, off, e, fun j hj => ⟨(cell_blk (b := b) (hA _ e) _).trans (hc j hj).1, (cell_blk (b := b) (hA _ e) _).trans (hc j hj).2.1, (cell_blk (b := b) (hA _ e) _).trans (hc j hj).2.2⟩⟩⟩
theorem BndsAt.cut (h : BndsAt w A n xs) {k : Nat} (hk : k ≤ n) : BndsAt w A k (xs.take k) :=
  ⟨by rw [List.length_take, h.len]; omega, fun hn => by
    obtain ⟨b, off, e, hc⟩ := h.cells (by omega)
    refine ⟨b, off, e, fun j hj => ?_⟩
    rw [show (xs.take k).getD j (0, 0, 0) = xs.getD j (0, 0, 0) by simp [List.getD, hj]]
    exact hc j (by omega)⟩
end

/-- A call that makes a row of Bounds in new memory. -/
def NewBndsAt (w : World) (n : Nat) (xs : List (Int × Int × Int)) (e : Ending) (w' : World) : Prop :=
  ∃ A c, e = .returned (.slice A n c) ∧ n ≤ c ∧ BndsAt w' A n xs ∧ Below w.heap.size w w' ∧ ∀ a, A = some a → w.heap.size ≤ a.block
theorem kNewBndsAt {Pr : Program} {f : FuncId} {args : Array Value} {w : World} {R : Ending → World → Prop} {n : Nat} {xs : List (Int × Int × Int)} (h : Calls Pr f args w (NewBndsAt w n xs))
    (h1 : ∀ A c w', n ≤ c → BndsAt w' A n xs → Below w.heap.size w w' → (∀ a, A = some a → w.heap.size ≤ a.block) → R (.returned (.slice A n c)) w') : Calls Pr f args w R :=
  h.mono fun e w' ⟨A, c, he, hc, hi, hb, hf⟩ => by subst he; exact h1 A c w' hc hi hb hf

theorem eqUptoBndsAt {xs ys : List (Int × Int × Int)} {k : Nat} (h1 : xs.length = k) (h2 : ys.length = k) (h : ∀ j, j < k → xs.getD j (0, 0, 0) = ys.getD j (0, 0, 0)) : xs = ys := by
  apply List.ext_getElem (by omega)
  intro i h3 h4
  have := h i (by omega)
  simpa [List.getD, h3, h4] using this



theorem infoBound : (Tryd.prog.info? 78).map (fun i => (i.zero, i.size, i.bytes)) = some (some (.agg #[.int .i64 0, .int .i64 0, .int .i64 0]), 3, 24) := by kernel_rfl




end Go.Proofs.YtcmicmenkbgfmaaDoor
