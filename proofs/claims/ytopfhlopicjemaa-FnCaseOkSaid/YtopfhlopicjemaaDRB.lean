/- Rows of rows of bounds of one's own. Printed by gen_drc.py after XOZ. -/
import Derived.Test.YtopfhlopicjemaaOB
import Derived.Test.YtopfhlopicjemaaC1
namespace Go.Proofs.Ytopfhlopicjemaa
open Go.RowKit

theorem own_cellsC {w : World} {base : Nat} {e : TypeId} {size : Nat} {A : Option Addr} {n c : Nat} {xs : List Value} (h : w.ownsRow base e size (.slice A n c) n xs) (hn : 0 < n) : ∃ g, A = some ⟨g, 0, none⟩ ∧ base ≤ g ∧ g < w.heap.size := by
  obtain ⟨g, cap, e, h1, h2⟩ := h.form hn
  cases e
  exact ⟨g, rfl, h1, h2⟩
theorem own_keptC {w w' : World} {base : Nat} {e : TypeId} {size : Nat} {v : Value} {n : Nat} {xs : List Value} {row : Option Nat} (h : w.ownsRow base e size v n xs) (hg : w.grownBy w' row) (hne : ∀ k, v.ownBlock = some k → row ≠ some k) : w'.ownsRow base e size v n xs := by
  refine h.kept hg ?_
  cases hv : v.ownBlock with
  | none => exact .inl rfl
  | some k => exact .inr (fun e => hne k hv e.symm)

theorem rowRB : RowTy Try.prog 49 46 (.slice none 0 0) 1 24 := ⟨Try.underlying49, by kernel_rfl, rfl, by decide, by decide⟩
/-- A part of such a row: where it lies, its room, its marks. -/
abbrev PartB := (Option Addr × Nat) × List Bd
def hdB (p : PartB) : Value := .slice p.1.1 p.2.length p.1.2
def vSB (ps : List PartB) : List Value := ps.map hdB
theorem vSB_one (ps : List PartB) : ∀ u ∈ vSB ps, u.oneCell' = true := by
  intro u hu; obtain ⟨x, _, rfl⟩ := List.mem_map.1 hu; rfl
theorem vSB_len (ps : List PartB) : (vSB ps).length = ps.length * 1 := by simp [vSB]
theorem vSB_append (ps qs : List PartB) : vSB (ps ++ qs) = vSB ps ++ vSB qs := by simp [vSB]
theorem vSB_take (ps : List PartB) (k : Nat) : vSB (ps.take k) = (vSB ps).take k := by simp [vSB]
theorem vSB_drop (ps : List PartB) (k : Nat) : vSB (ps.drop k) = (vSB ps).drop k := by simp [vSB]
theorem vSB_set (ps : List PartB) (k : Nat) (q : PartB) : vSB (ps.set k q) = (vSB ps).set k (hdB q) := by simp [vSB, List.map_set]

/-- A part lies in a row of its own, apart from block o. -/
def InnB (w : World) (B : Nat) (o : Option Nat) (p : PartB) : Prop := OwnB w B p.1.1 p.2.length p.1.2 p.2 ∧ ∀ g, (hdB p).ownBlock = some g → o ≠ some g
theorem InnB.kept {w w' : World} {B : Nat} {o o' row : Option Nat} {p : PartB} (h : InnB w B o p) (hg : w.grownBy w' row) (hne : ∀ g, (hdB p).ownBlock = some g → row ≠ some g) (ho : ∀ g, (hdB p).ownBlock = some g → g < w.heap.size → o' ≠ some g) : InnB w' B o' p := by
  refine ⟨h.1.kept hg ?_, fun g hgb => ho g hgb (h.1.lt g hgb).2⟩
  cases hv : (Value.slice p.1.1 p.2.length p.1.2).ownBlock with
  | none => exact .inl rfl
  | some k => exact .inr (fun e => hne k hv e.symm)

structure RowsBB (w : World) (B : Nat) (A : Option Addr) (n c : Nat) (ps : List PartB) : Prop where
  own : w.ownsRow B 46 1 (.slice A n c) n (vSB ps)
  inn : ∀ p ∈ ps, InnB w B (Value.slice A n c).ownBlock p
section
variable {w w' wB W : World} {B n c m g cap j : Nat} {A : Option Addr} {ps qs : List PartB} {row : Option Nat}
theorem RowsBB.len (h : RowsBB w B A n c ps) : ps.length = n := by
  have := h.own.1; rw [vSB_len] at this; omega
theorem RowsBB.room (h : RowsBB w B A n c ps) : n ≤ c := by
  obtain ⟨A', c', e, hc, _, _⟩ := own_cells h.own
  cases e; exact hc
theorem RowsBB.nil (w : World) (B : Nat) : RowsBB w B none 0 0 [] := ⟨World.ownsRow_nil _ _ _ _, fun p hp => by cases hp⟩
theorem RowsBB.empty (w : World) (B : Nat) (hb : B ≤ w.heap.size) : RowsBB (w.alloc (.cells #[] 46)) B (some ⟨w.heap.size, 0, none⟩) 0 0 [] := ⟨own_lit w B _ 1 #[] 0 hb (by decide) rfl, fun p hp => by cases hp⟩
theorem RowsBB.kept (h : RowsBB w B A n c ps) (hg : w.grownBy w' row) (hr : ∀ g, row = some g → g < B) : RowsBB w' B A n c ps := by
  refine ⟨h.own.kept hg ?_, fun p hp => ?_⟩
  · cases hv : (Value.slice A n c).ownBlock with
    | none => exact .inl rfl
    | some k => exact .inr (fun e => by have := hr k e.symm; have := (h.own.lt k hv).1; omega)
  · have hi := h.inn p hp
    exact hi.kept hg (fun g hgb e => by have := hr g e; have := (hi.1.lt g hgb).1; omega) (fun g hgb _ => hi.2 g hgb)
theorem RowsBB.below (h : RowsBB w B A n c ps) (hb : Below w.heap.size w w') : RowsBB w' B A n c ps :=
  h.kept (row := none) ⟨hb.os, hb.tape, hb.output, hb.size, fun k hk _ => hb.block k hk⟩ (fun g hg => by cases hg)
theorem RowsBB.alloc (h : RowsBB w B A n c ps) (o : Obj) : RowsBB (w.alloc o) B A n c ps := h.below ((Below.refl _ _).alloc (Nat.le_refl _) _)
theorem RowsBB.drewN (h : RowsBB w B A n c ps) (k : Nat) : RowsBB (w.drewN k) B A n c ps := ⟨h.own, h.inn⟩
theorem RowsBB.get (h : RowsBB w B A n c ps) (hj : j < n) : ∃ g p, A = some ⟨g, 0, none⟩ ∧ B ≤ g ∧ g < w.heap.size ∧ ps[j]? = some p ∧ w.cell? ⟨g, j, none⟩ = some (hdB p) ∧ w.frozen? ⟨g, j, none⟩ = false ∧ InnB w B (some g) p := by
  obtain ⟨g, rfl, hg, hgl⟩ := own_cellsC h.own (by omega)
  have hl := h.len
  have hp : ps[j]? = some ps[j] := List.getElem?_eq_getElem (by omega)
  refine ⟨g, _, rfl, hg, hgl, hp, ?_, h.own.frozenAt j, h.inn _ (List.getElem_mem _)⟩
  have := h.own.cells (g := g) rfl j (hdB ps[j]) (by simp [vSB, hl, hj])
  rwa [addr_add, Nat.zero_add] at this
/-- Parts more. -/
theorem RowsBB.app (h : RowsBB W B A n c ps) (hq : ∀ q ∈ qs, InnB W B (Value.slice A n c).ownBlock q) (hown : wB.ownsRow B 46 1 (.slice (some ⟨g, 0, none⟩) (n + m) cap) (n + m) (vSB ps ++ vSB qs)) (hgrow : W.grownBy wB (Value.slice A n c).ownBlock) (hat : (Value.slice A n c).ownBlock = some g ∨ W.heap.size ≤ g) :
    RowsBB wB B (some ⟨g, 0, none⟩) (n + m) cap (ps ++ qs) := by
  refine ⟨by rw [vSB_append]; exact hown, fun p hp => ?_⟩
  have hi : InnB W B (Value.slice A n c).ownBlock p := by
    rcases List.mem_append.1 hp with hp | hp
    · exact h.inn p hp
    · exact hq p hp
  refine hi.kept hgrow (fun k hk => hi.2 k hk) (fun k hk hlt e => ?_)
  simp only [Value.ownBlock] at e
  cases e
  rcases hat with h1 | h1
  · exact hi.2 _ hk h1
  · exact absurd hlt (by show ¬ _ < _; omega)
/-- A part is written over. -/
theorem RowsBB.set (h : RowsBB W B (some ⟨g, 0, none⟩) n c ps) (j : Nat) {q : PartB} (hq : InnB W B (some g) q) : RowsBB (W.setCell ⟨g, j, none⟩ (hdB q)) B (some ⟨g, 0, none⟩) n c (ps.set j q) := by
  have hs := h.own.stored j (hdB q)
  refine ⟨by rw [vSB_set]; exact hs.1, fun p hp => ?_⟩
  have hi : InnB W B (some g) p := by
    rcases List.mem_or_eq_of_mem_set hp with hp | rfl
    · exact h.inn p hp
    · exact hq
  exact hi.kept hs.2 (fun k hk => hi.2 k hk) (fun k hk _ => hi.2 k hk)
theorem RowsBB.news (h : RowsBB w B A n c ps) {a : Addr} (ha : A = some a) : ∀ j u, (vSB ps)[j]? = some u → w.cell? (a.add j) = some u := by
  intro j u hu
  have hj : j < ps.length := by
    rcases Nat.lt_or_ge j ps.length with h1 | h1
    · exact h1
    · rw [vSB, List.getElem?_eq_none (by simpa using h1)] at hu; cases hu
  obtain ⟨g, p, e, _, _, hp, hc, _, _⟩ := h.get (j := j) (by rw [← h.len]; exact hj)
  rw [e] at ha
  cases ha
  rw [addr_add, Nat.zero_add, hc]
  rw [vSB, List.getElem?_map, hp] at hu
  exact hu
end

theorem RowsBB.keptAp {w w' : World} {B n c : Nat} {A : Option Addr} {ps : List PartB} {row : Option Nat} (h : RowsBB w B A n c ps) (hg : w.grownBy w' row) (ho : ∀ k, (Value.slice A n c).ownBlock = some k → row ≠ some k) (hr : ∀ q ∈ ps, ∀ k, (hdB q).ownBlock = some k → row ≠ some k) : RowsBB w' B A n c ps :=
  ⟨own_keptC h.own hg ho, fun q hq => (h.inn q hq).kept hg (fun k hk => hr q hq k hk) (fun k hk _ => (h.inn q hq).2 k hk)⟩
theorem RowsBB.inner_lt {w : World} {B n c : Nat} {A : Option Addr} {ps : List PartB} (h : RowsBB w B A n c ps) : ∀ q ∈ ps, ∀ k, (hdB q).ownBlock = some k → k < w.heap.size := fun q hq k hk => ((h.inn q hq).1.lt k hk).2
theorem RowsBB.at_ {w : World} {B n c : Nat} {A : Option Addr} {ps : List PartB} (h : RowsBB w B A n c ps) (hs : ∀ q ∈ ps, q.2.length ≤ 1048576) : BndssAt w A n (ps.map (·.2)) := by
  have hl := h.len
  refine ⟨by rw [List.length_map]; exact hl, fun hn => ?_⟩
  obtain ⟨g, q0, e, -⟩ := h.get hn
  refine ⟨g, 0, e, fun j hj => ?_⟩
  obtain ⟨g', q, e', _, _, hq, hc, _, hin⟩ := h.get hj
  rw [e] at e'
  cases e'
  have hm : (ps.map (·.2)).getD j [] = q.2 := by simp [List.getD, hq]
  rw [hm, Nat.zero_add]
  have hmem : q ∈ ps := List.mem_of_getElem? hq
  exact ⟨q.1.1, q.1.2, hc, by have := hs q hmem; omega, hin.1.at_⟩
theorem RowsBB.at_from {w u : World} {B n c : Nat} {A : Option Addr} {ps : List PartB} (h : RowsBB w B A n c ps) (hs : ∀ q ∈ ps, q.2.length ≤ 1048576) (hu : ∀ k, B ≤ k → k < w.heap.size → u.heap[k]? = w.heap[k]?) : BndssAt u A n (ps.map (·.2)) := by
  have hl := h.len
  refine ⟨by rw [List.length_map]; exact hl, fun hn => ?_⟩
  obtain ⟨g, q0, e, -⟩ := h.get hn
  refine ⟨g, 0, e, fun j hj => ?_⟩
  obtain ⟨g', q, e', hg, hgl, hq, hc, _, hin⟩ := h.get hj
  rw [e] at e'
  cases e'
  have hm : (ps.map (·.2)).getD j [] = q.2 := by simp [List.getD, hq]
  rw [hm, Nat.zero_add]
  have hmem : q ∈ ps := List.mem_of_getElem? hq
  exact ⟨q.1.1, q.1.2, (cell_blk (hu g hg hgl) _).trans hc, by have := hs q hmem; omega, hin.1.at_.keepB (fun a ha => by
    have hob : (Value.slice q.1.1 q.2.length q.1.2).ownBlock = some a.block := by rw [ha]; rfl
    have := hin.1.lt _ hob
    exact hu _ this.1 this.2)⟩

end Go.Proofs.Ytopfhlopicjemaa
