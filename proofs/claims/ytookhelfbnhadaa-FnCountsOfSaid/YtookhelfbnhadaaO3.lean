/- Rows of ints that a call has made itself: contracts with such a result; writing into and reading what was written (markIntS, heldIntS). -/
import Derived.Test.YtookhelfbnhadaaO2
namespace Go.Proofs.Ytookhelfbnhadaa
open Go.RowKit

/-- A row of ints of one's own. -/
abbrev OwnI (w : World) (base : Nat) (A : Option Addr) (n c : Nat) (xs : List Int) : Prop := w.ownsRow base 3 1 (.slice A n c) n (vI xs)
theorem OwnI.len {w : World} {base : Nat} {A : Option Addr} {n c : Nat} {xs : List Int} (h : OwnI w base A n c xs) : xs.length = n := by
  have := h.1; rw [vI_len] at this; omega
theorem OwnI.at_ {w : World} {base : Nat} {A : Option Addr} {n c : Nat} {xs : List Int} (h : OwnI w base A n c xs) : IntsAt w A n xs := by
  obtain ⟨A', c', e, _, hi, _⟩ := own_ints h
  cases e; exact hi
theorem OwnI.cap {w : World} {base : Nat} {A : Option Addr} {n c : Nat} {xs : List Int} (h : OwnI w base A n c xs) : n ≤ c := by
  obtain ⟨A', c', e, hc, _, _⟩ := own_ints h
  cases e; exact hc
theorem OwnI.nil (w : World) (base : Nat) : OwnI w base none 0 0 [] := World.ownsRow_nil _ _ _ _
theorem OwnI.empty (w : World) (base : Nat) (hb : base ≤ w.heap.size) : OwnI (w.alloc (.cells #[] 3)) base (some ⟨w.heap.size, 0, none⟩) 0 0 [] := own_lit w base _ 1 #[] 0 hb (by decide) rfl
def NewI (w : World) (xs : List Int) (e : Ending) (w' : World) : Prop :=
  ∃ A c, e = .returned (.slice A xs.length c) ∧ OwnI w' w.heap.size A xs.length c xs ∧ Below w.heap.size w w'
theorem kNewI {Pr : Program} {f : FuncId} {args : Array Value} {w : World} {R : Ending → World → Prop} {xs : List Int} (h : Calls Pr f args w (NewI w xs))
    (h1 : ∀ A c w', OwnI w' w.heap.size A xs.length c xs → Below w.heap.size w w' → R (.returned (.slice A xs.length c)) w') : Calls Pr f args w R :=
  h.mono fun e w' ⟨A, c, he, hi, hb⟩ => by subst he; exact h1 A c w' hi hb
def NewIB (w : World) (xs : List Int) (b : Bool) (e : Ending) (w' : World) : Prop :=
  ∃ A c, e = .returned (.tuple #[.slice A xs.length c, .bool b]) ∧ OwnI w' w.heap.size A xs.length c xs ∧ Below w.heap.size w w'
theorem kNewIB {Pr : Program} {f : FuncId} {args : Array Value} {w : World} {R : Ending → World → Prop} {xs : List Int} {b : Bool} (h : Calls Pr f args w (NewIB w xs b))
    (h1 : ∀ A c w', OwnI w' w.heap.size A xs.length c xs → Below w.heap.size w w' → R (.returned (.tuple #[.slice A xs.length c, .bool b])) w') : Calls Pr f args w R :=
  h.mono fun e w' ⟨A, c, he, hi, hb⟩ => by subst he; exact h1 A c w' hi hb
theorem vI_append (xs ys : List Int) : vI (xs ++ ys) = vI xs ++ vI ys := by simp [vI]
theorem set1 (ys pre : List Int) (y x : Int) : (vI (pre ++ y :: ys)).set pre.length (.int .i64 x) = vI (pre ++ x :: ys) := by
  rw [vI_append, vI_append]
  have h := vI_len pre
  rw [List.set_append_right _ _ (by omega), h, Nat.mul_one, Nat.sub_self]
  rfl



end Go.Proofs.Ytookhelfbnhadaa
