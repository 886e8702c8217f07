/- Rows of rows of marks, all of them a call's own. -/
import Derived.Test.YtcmicmenkbgfmaaDoorM9
namespace Go.Proofs.YtcmicmenkbgfmaaDoor
open Go.RowKit

/-- A part of such a row: where it lies, its room, its marks. -/
abbrev Part := (Option Addr × Nat) × List Mk
def hdV (p : Part) : Value := .slice p.1.1 p.2.length p.1.2
def vS (ps : List Part) : List Value := ps.map hdV
theorem vS_one (ps : List Part) : ∀ u ∈ vS ps, u.oneCell' = true := by
  intro u hu; obtain ⟨x, _, rfl⟩ := List.mem_map.1 hu; rfl
theorem vS_len (ps : List Part) : (vS ps).length = ps.length * 1 := by simp [vS]
theorem vS_append (ps qs : List Part) : vS (ps ++ qs) = vS ps ++ vS qs := by simp [vS]
theorem vS_take (ps : List Part) (k : Nat) : vS (ps.take k) = (vS ps).take k := by simp [vS]
theorem vS_drop (ps : List Part) (k : Nat) : vS (ps.drop k) = (vS ps).drop k := by simp [vS]
theorem vS_set (ps : List Part) (k : Nat) (q : Part) : vS (ps.set k q) = (vS ps).set k (hdV q) := by simp [vS, List.map_set]

/-- A part lies in a row of its own, apart from block o. -/
def Inn (w : World) (B : Nat) (o : Option Nat) (p : Part) : Prop := OwnM w B p.1.1 p.2.length p.1.2 p.2 ∧ ∀ g, (hdV p).ownBlock = some g → o ≠ some g
theorem Inn.kept {w w' : World} {B : Nat} {o o' row : Option Nat} {p : Part} (h : Inn w B o p) (hg : w.grownBy w' row) (hne : ∀ g, (hdV p).ownBlock = some g → row ≠ some g) (ho : ∀ g, (hdV p).ownBlock = some g → g < w.heap.size → o' ≠ some g) : Inn w' B o' p := by
  refine ⟨h.1.kept hg ?_, fun g hgb => ho g hgb (h.1.lt g hgb).2⟩
  cases hv : (Value.slice p.1.1 p.2.length p.1.2).ownBlock with
  | none => exact .inl rfl
  | some k => exact .inr (fun e => hne k hv e.symm)

structure Rows2 (w : World) (B : Nat) (A : Option Addr) (n c : Nat) (ps : List Part) : Prop where
  own : w.ownsRow B 23 1 (.slice A n c) n (vS ps)
  inn : ∀ p ∈ ps, Inn w B (Value.slice A n c).ownBlock p
section
variable {w w' wB W : World} {B n c m g cap j : Nat} {A : Option Addr} {ps qs : List Part} {row : Option Nat}
theorem Rows2.len (h : Rows2 w B A n c ps) : ps.length = n := by
  have := h.own.1; rw [vS_len] at this; omega
theorem Rows2.room (h : Rows2 w B A n c ps) : n ≤ c := by
  obtain ⟨A', c', e, hc, _, _⟩ := own_cells h.own
  cases e; exact hc
theorem Rows2.nil (w : World) (B : Nat) : Rows2 w B none 0 0 [] := ⟨World.ownsRow_nil _ _ _ _, fun p hp => by cases hp⟩
theorem Rows2.empty (w : World) (B : Nat) (hb : B ≤ w.heap.size) : Rows2 (w.alloc (.cells #[] 23)) B (some ⟨w.heap.size, 0, none⟩) 0 0 [] := ⟨own_lit w B _ 1 #[] 0 hb (by decide) rfl, fun p hp => by cases hp⟩
theorem Rows2.kept (h : Rows2 w B A n c ps) (hg : w.grownBy w' row) (hr : ∀ g, row = some g → g < B) : Rows2 w' B A n c ps := by
  refine ⟨h.own.kept hg ?_, fun p hp => ?_⟩
  · cases hv : (Value.slice A n c).ownBlock with
    | none => exact .inl rfl
    | some k => exact .inr (fun e => by have := hr k e.symm; have := (h.own.lt k hv).1; omega)
  · have hi := h.inn p hp
    exact hi.kept hg (fun g hgb e => by have := hr g e; have := (hi.1.lt g hgb).1; omega) (fun g hgb _ => hi.2 g hgb)
theorem Rows2.below (h : Rows2 w B A n c ps) (hb : Below w.heap.size w w') : Rows2 w' B A n c ps :=
  h.kept (row := none) ⟨hb.os, hb.tape, hb.output, hb.size, fun k hk _ => hb.block k hk⟩ (fun g hg => by cases hg)
theorem Rows2.alloc (h : Rows2 w B A n c ps) (o : Obj) : Rows2 (w.alloc o) B A n c ps := h.below ((Below.refl _ _).alloc (Nat.le_refl _) _)
theorem Rows2.drewN (h : Rows2 w B A n c ps) (k : Nat) : Rows2 (w.drewN k) B A n c ps := ⟨h.own, h.inn⟩
theorem Rows2.get (h : Rows2 w B A n c ps) (hj : j < n) : ∃ g p, A = some ⟨g, 0, none⟩ ∧ B ≤ g ∧ g < w.heap.size ∧ ps[j]? = some p ∧ w.cell? ⟨g, j, none⟩ = some (hdV p) ∧ w.frozen? ⟨g, j, none⟩ = false ∧ Inn w B (some g) p := by
  obtain ⟨g, rfl, hg, hgl⟩ := own_cellsD h.own (by omega)
  have hl := h.len
  have hp : ps[j]? = some ps[j] := List.getElem?_eq_getElem (by omega)
  refine ⟨g, _, rfl, hg, hgl, hp, ?_, h.own.frozenAt j, h.inn _ (List.getElem_mem _)⟩
  have := h.own.cells (g := g) rfl j (hdV ps[j]) (by simp [vS, hl, hj])
  rwa [addr_add, Nat.zero_add] at this
/-- Parts more. -/
theorem Rows2.app (h : Rows2 W B A n c ps) (hq : ∀ q ∈ qs, Inn W B (Value.slice A n c).ownBlock q) (hown : wB.ownsRow B 23 1 (.slice (some ⟨g, 0, none⟩) (n + m) cap) (n + m) (vS ps ++ vS qs)) (hgrow : W.grownBy wB (Value.slice A n c).ownBlock) (hat : (Value.slice A n c).ownBlock = some g ∨ W.heap.size ≤ g) :
    Rows2 wB B (some ⟨g, 0, none⟩) (n + m) cap (ps ++ qs) := by
  refine ⟨by rw [vS_append]; exact hown, fun p hp => ?_⟩
  have hi : Inn W B (Value.slice A n c).ownBlock p := by
    rcases List.mem_append.1 hp with hp | hp
    · exact h.inn p hp
    · exact hq p hp
  refine hi.kept hgrow (fun k hk => hi.2 k hk) (fun k hk hlt e => ?_)
  simp only [Value.ownBlock] at e
  cases e
  rcases hat with h1 | h1
  · exact hi.2 _ hk h1
  · exact absurd hlt (by show ¬ _ < _; omega)
/-- A part is written over. -/
theorem Rows2.set (h : Rows2 W B (some ⟨g, 0, none⟩) n c ps) (j : Nat) {q : Part} (hq : Inn W B (some g) q) : Rows2 (W.setCell ⟨g, j, none⟩ (hdV q)) B (some ⟨g, 0, none⟩) n c (ps.set j q) := by
  have hs := h.own.stored j (hdV q)
  refine ⟨by rw [vS_set]; exact hs.1, fun p hp => ?_⟩
  have hi : Inn W B (some g) p := by
    rcases List.mem_or_eq_of_mem_set hp with hp | rfl
    · exact h.inn p hp
    · exact hq
  exact hi.kept hs.2 (fun k hk => hi.2 k hk) (fun k hk _ => hi.2 k hk)
theorem Rows2.news (h : Rows2 w B A n c ps) {a : Addr} (ha : A = some a) : ∀ j u, (vS ps)[j]? = some u → w.cell? (a.add j) = some u := by
  intro j u hu
  have hj : j < ps.length := by
    rcases Nat.lt_or_ge j ps.length with h1 | h1
    · exact h1
    · rw [vS, List.getElem?_eq_none (by simpa using h1)] at hu; cases hu
  obtain ⟨g, p, e, _, _, hp, hc, _, _⟩ := h.get (j := j) (by rw [← h.len]; exact hj)
  rw [e] at ha
  cases ha
  rw [addr_add, Nat.zero_add, hc]
  rw [vS, List.getElem?_map, hp] at hu
  exact hu
end

/-- How many marks in all. -/
def sumL (ps : List Part) : Nat := (ps.map fun p => p.2.length).sum
theorem sumL_append (ps qs : List Part) : sumL (ps ++ qs) = sumL ps + sumL qs := by simp [sumL]
theorem sumL_one (p : Part) : sumL [p] = p.2.length := by simp [sumL]
theorem sumL_at {ps : List Part} {j : Nat} {p : Part} (h : ps[j]? = some p) : sumL ps = sumL (ps.take j) + p.2.length + sumL (ps.drop (j + 1)) := by
  have hj : j < ps.length := by
    rcases Nat.lt_or_ge j ps.length with h1 | h1
    · exact h1
    · rw [List.getElem?_eq_none h1] at h; cases h
  have e : ps = ps.take j ++ ([p] ++ ps.drop (j + 1)) := by
    have h2 : ps[j] = p := by rw [List.getElem?_eq_getElem hj] at h; exact Option.some.inj h
    rw [← h2, List.singleton_append, ← List.drop_eq_getElem_cons hj, List.take_append_drop]
  conv => lhs; rw [e]
  rw [sumL_append, sumL_append, sumL_one]; omega
theorem sumL_set {ps : List Part} {j : Nat} {p q : Part} (h : ps[j]? = some p) : sumL (ps.set j q) + p.2.length = sumL ps + q.2.length := by
  have hj : j < ps.length := by
    rcases Nat.lt_or_ge j ps.length with h1 | h1
    · exact h1
    · rw [List.getElem?_eq_none h1] at h; cases h
  have h1 := sumL_at h
  have h2 := sumL_at (ps := ps.set j q) (j := j) (p := q) (by simp [hj])
  rw [List.take_set_of_le (Nat.le_refl _), List.drop_set_of_lt (by omega)] at h2
  omega

end Go.Proofs.YtcmicmenkbgfmaaDoor
