/- Rows of marks and of ints that a call has made itself: contracts with such a result; copies (toMarkS) as such rows; writing into and reading what was written (mark.., held..). -/
import Derived.Test.YtookhelfbnhadaaM3
import Derived.Test.YtookhelfbnhadaaO1
namespace Go.Proofs.Ytookhelfbnhadaa
open Go.RowKit

theorem rowM : RowTy Try.prog 23 27 (.agg #[.int .i64 0, .int .i64 0, .int .i64 0]) 3 24 := ⟨Try.underlying23, infoMark, rfl, by decide, by decide⟩

/-- A row of marks of one's own. -/
abbrev OwnM (w : World) (base : Nat) (A : Option Addr) (n c : Nat) (xs : List Mk) : Prop := w.ownsRow base 27 3 (.slice A n c) n (v3 xs)
theorem v3_inj {xs ys : List Mk} (h : v3 xs = v3 ys) : xs = ys := by
  induction xs generalizing ys with
  | nil => cases ys with
    | nil => rfl
    | cons y ys => rw [v3_cons, v3_nil] at h; cases h
  | cons x xs ih => cases ys with
    | nil => rw [v3_cons, v3_nil] at h; cases h
    | cons y ys =>
      rw [v3_cons, v3_cons] at h
      obtain ⟨x0, x1, x2⟩ := x
      obtain ⟨y0, y1, y2⟩ := y
      simp at h
      obtain ⟨rfl, rfl, rfl, h⟩ := h
      rw [ih h]
theorem OwnM.len {w : World} {base : Nat} {A : Option Addr} {n c : Nat} {xs : List Mk} (h : OwnM w base A n c xs) : xs.length = n := by
  have := h.1; rw [v3_len] at this; omega
theorem OwnM.at_ {w : World} {base : Nat} {A : Option Addr} {n c : Nat} {xs : List Mk} (h : OwnM w base A n c xs) : MarksAt w A n xs := by
  have hl := h.len
  obtain ⟨A', c', e, hc, hA, hcell⟩ := own_cells h
  cases e
  refine ⟨hl, fun hn => ?_⟩
  obtain ⟨g, rfl, _, _, hg⟩ := hcell hn
  refine ⟨g, 0, rfl, fun j hj => ?_⟩
  obtain ⟨g0, g1, g2⟩ := v3_get xs j (by omega)
  rw [Nat.zero_add]
  exact ⟨hg _ _ g0, hg _ _ g1, hg _ _ g2⟩
theorem OwnM.cap {w : World} {base : Nat} {A : Option Addr} {n c : Nat} {xs : List Mk} (h : OwnM w base A n c xs) : n ≤ c := by
  obtain ⟨A', c', e, hc, hA, hcell⟩ := own_cells h
  cases e; exact hc
/-- A call that makes a row of marks of its own. -/
def NewM (w : World) (xs : List Mk) (e : Ending) (w' : World) : Prop :=
  ∃ A c, e = .returned (.slice A xs.length c) ∧ OwnM w' w.heap.size A xs.length c xs ∧ Below w.heap.size w w'
theorem kNewM {Pr : Program} {f : FuncId} {args : Array Value} {w : World} {R : Ending → World → Prop} {xs : List Mk} (h : Calls Pr f args w (NewM w xs))
    (h1 : ∀ A c w', OwnM w' w.heap.size A xs.length c xs → Below w.heap.size w w' → R (.returned (.slice A xs.length c)) w') : Calls Pr f args w R :=
  h.mono fun e w' ⟨A, c, he, hi, hb⟩ => by subst he; exact h1 A c w' hi hb
/-- .. and tells whether it could. -/
def NewMB (w : World) (xs : List Mk) (b : Bool) (e : Ending) (w' : World) : Prop :=
  ∃ A c, e = .returned (.tuple #[.slice A xs.length c, .bool b]) ∧ OwnM w' w.heap.size A xs.length c xs ∧ Below w.heap.size w w'
theorem kNewMB {Pr : Program} {f : FuncId} {args : Array Value} {w : World} {R : Ending → World → Prop} {xs : List Mk} {b : Bool} (h : Calls Pr f args w (NewMB w xs b))
    (h1 : ∀ A c w', OwnM w' w.heap.size A xs.length c xs → Below w.heap.size w w' → R (.returned (.tuple #[.slice A xs.length c, .bool b])) w') : Calls Pr f args w R :=
  h.mono fun e w' ⟨A, c, he, hi, hb⟩ => by subst he; exact h1 A c w' hi hb


theorem own_grown {w w' : World} {base : Nat} {e : TypeId} {size : Nat} {v : Value} {n : Nat} {xs : List Value} {row : Option Nat} (h : w.ownsRow base e size v n xs) (hg : w.grownBy w' row) (hne : ∀ g, row = some g → g < base) : w'.ownsRow base e size v n xs := by
  refine h.kept hg ?_
  cases hv : v.ownBlock with
  | none => exact .inl rfl
  | some k =>
    refine .inr fun e => ?_
    have h1 := h.lt k hv
    have h2 := hne k e.symm
    omega
theorem own_grown' {w w' : World} {base base' : Nat} {e : TypeId} {size : Nat} {v : Value} {n : Nat} {xs : List Value} {row : Option Nat} (h : w.ownsRow base e size v n xs) (hb : ∀ k, v.ownBlock = some k → k < base') (hg : w.grownBy w' row) (hne : ∀ g, row = some g → base' ≤ g) : w'.ownsRow base e size v n xs := by
  refine h.kept hg ?_
  cases hv : v.ownBlock with
  | none => exact .inl rfl
  | some k =>
    refine .inr fun e => ?_
    have h1 := hb k hv
    have h2 := hne k e.symm
    omega
theorem grown_trans {a b c : World} {row : Option Nat} (h : a.grownBy b row) (k : b.grownBy c row) : a.grownBy c row :=
  ⟨k.os.trans h.os, k.tape.trans h.tape, k.output.trans h.output, Nat.le_trans h.size k.size, fun i hi hn => (k.block i (Nat.lt_of_lt_of_le hi h.size) hn).trans (h.block i hi hn)⟩
theorem grown_refl (w : World) (row : Option Nat) : w.grownBy w row := ⟨rfl, rfl, rfl, Nat.le_refl _, fun _ _ _ => rfl⟩
theorem grown_drew (w : World) (row : Option Nat) (m : Nat) : w.grownBy (w.drewN m) row := ⟨rfl, rfl, rfl, Nat.le_refl _, fun _ _ _ => rfl⟩

/-- The numbers that a marking writes. -/
def seq3 (k : Int) (n : Nat) : List Mk := (List.range n).map fun j : Nat => (k + 3 * (j : Int), k + 3 * (j : Int) + 1, k + 3 * (j : Int) + 2)
theorem seq3_len (k : Int) (n : Nat) : (seq3 k n).length = n := by simp [seq3]
theorem seq3_get (k : Int) {n j : Nat} (h : j < n) : (seq3 k n).getD j (0, 0, 0) = (k + 3 * (j : Int), k + 3 * (j : Int) + 1, k + 3 * (j : Int) + 2) := by simp [seq3, List.getD, h]
theorem seq3_succ (k : Int) (n : Nat) : seq3 k (n + 1) = seq3 k n ++ [(k + 3 * (n : Int), k + 3 * (n : Int) + 1, k + 3 * (n : Int) + 2)] := by simp [seq3, List.range_succ]
def seq1 (k : Int) (n : Nat) : List Int := (List.range n).map fun j : Nat => k + (j : Int)
theorem seq1_len (k : Int) (n : Nat) : (seq1 k n).length = n := by simp [seq1]
theorem seq1_get (k : Int) {n j : Nat} (h : j < n) : (seq1 k n).getD j 0 = k + (j : Int) := by simp [seq1, List.getD, h]
theorem seq1_succ (k : Int) (n : Nat) : seq1 k (n + 1) = seq1 k n ++ [k + (n : Int)] := by simp [seq1, List.range_succ]

theorem own_cellsD {w : World} {base : Nat} {e : TypeId} {size : Nat} {A : Option Addr} {n c : Nat} {xs : List Value} (h : w.ownsRow base e size (.slice A n c) n xs) (hn : 0 < n) : ∃ g, A = some ⟨g, 0, none⟩ ∧ base ≤ g ∧ g < w.heap.size := by
  obtain ⟨g, cap, e, h1, h2⟩ := h.form hn
  cases e
  exact ⟨g, rfl, h1, h2⟩
theorem own_set {w : World} {base : Nat} {e : TypeId} {size g n cap : Nat} {xs : List Value} (h : w.ownsRow base e size (.slice (some ⟨g, 0, none⟩) n cap) n xs) (j : Nat) (u : Value) :
    (w.setCell ⟨g, j, none⟩ u).ownsRow base e size (.slice (some ⟨g, 0, none⟩) n cap) n (xs.set j u) := (h.stored j u).1

theorem set3 (ys : List Mk) (pre : List Mk) (y x : Mk) : (((v3 (pre ++ y :: ys)).set (pre.length * 3) (.int .i64 x.1)).set (pre.length * 3 + 1) (.int .i64 x.2.1)).set (pre.length * 3 + 2) (.int .i64 x.2.2) = v3 (pre ++ x :: ys) := by
  rw [v3_append, v3_append, v3_cons, v3_cons]
  have h := v3_len pre
  rw [List.set_append_right _ _ (by omega), List.set_append_right _ _ (by omega), List.set_append_right _ _ (by omega)]
  rw [h, Nat.sub_self, Nat.add_sub_cancel_left, Nat.add_sub_cancel_left]
  rfl


theorem kMark {Pr : Program} {f : FuncId} {args : Array Value} {w : World} {R : Ending → World → Prop} {base : Nat} {A : Option Addr} {n c : Nat} {e : TypeId} {size : Nat} {xs : List Value} {v : Int} {row : Option Nat}
    (h : Calls Pr f args w fun en w' => en = .returned (.int .i64 v) ∧ w'.ownsRow base e size (.slice A n c) n xs ∧ w.grownBy w' row)
    (h1 : ∀ w', w'.ownsRow base e size (.slice A n c) n xs → w.grownBy w' row → R (.returned (.int .i64 v)) w') : Calls Pr f args w R :=
  h.mono fun e w' ⟨he, ho, hg⟩ => by subst he; exact h1 w' ho hg


end Go.Proofs.Ytookhelfbnhadaa
