/- What each order of a drawn region leaves that makes one row, literals and boxes (Reg): step by step. -/
import Derived.Test.YtpefimeogbpagaaOA
import Derived.Test.YtpefimeogbpagaaOZ
namespace Go.Proofs.Ytpefimeogbpagaa
open Go.RowKit

/-- The row under way (if it is made), the blocks made: all behind B0, the blocks apart from the row. -/
structure Reg (w0 : World) (B0 : Nat) (W : World) (e : TypeId) (size : Nat) (row : Option (Value × Nat × List Value)) (blks : List (Nat × TypeId × Array Value)) : Prop where
  below : Below B0 w0 W
  b0 : B0 ≤ W.heap.size
  own : ∀ r, row = some r → W.ownsRow B0 e size r.1 r.2.1 r.2.2
  blk : ∀ x, x ∈ blks → B0 ≤ x.1 ∧ Blk W x.1 x.2.1 x.2.2 ∧ ∀ r, row = some r → r.1.ownBlock ≠ some x.1
theorem keepB {w w' : World} {B0 : Nat} (hB : w.heap.size = B0) (hb : Below B0 w w') {a : Addr} {v : Value} (h : w.cell? a = some v) : w'.cell? a = some v := by
  subst hB; exact keep hb h
section
variable {w0 W wB : World} {B0 size q i : Nat} {e t : TypeId} {row : Option (Value × Nat × List Value)} {r r' : Value × Nat × List Value} {blks : List (Nat × TypeId × Array Value)} {cs : Array Value} {v : Value}
theorem Reg.start (hB : w0.heap.size = B0) (e : TypeId) (size : Nat) : Reg w0 B0 w0 e size none [] :=
  ⟨Below.refl _ _, Nat.le_of_eq hB.symm, fun r h => (by cases h), fun x h => (by cases h)⟩
theorem Reg.drew (h : Reg w0 B0 W e size row blks) : Reg w0 B0 W.drew e size row blks :=
  ⟨h.below.drew, h.b0, fun r hr => own_drewN (h.own r hr) 1, h.blk⟩
/-- A literal, or a box. -/
theorem Reg.boxed (h : Reg w0 B0 W e size row blks) (hq : W.heap.size = q) (cs : Array Value) (t : TypeId) : Reg w0 B0 (W.alloc (.cells cs t)) e size row ((q, t, cs) :: blks) := by
  subst hq
  have hb : Below W.heap.size W (W.alloc (.cells cs t)) := (Below.refl _ _).alloc (Nat.le_refl _) _
  refine ⟨h.below.trans (hb.mono h.b0), Nat.le_trans h.b0 hb.size, fun r hr => own_below (h.own r hr) hb, fun x hx => ?_⟩
  rcases List.mem_cons.1 hx with rfl | hx
  · exact ⟨h.b0, Blk.new _ _ _, fun r hr e' => by have := ((h.own r hr).lt _ e').2; exact Nat.lt_irrefl _ this⟩
  · obtain ⟨h1, h2, h3⟩ := h.blk x hx
    exact ⟨h1, h2.below hb h2.lt, h3⟩
/-- The row's first, empty form. -/
theorem Reg.rowed (h : Reg w0 B0 W e size none blks) (hq : W.heap.size = q) : Reg w0 B0 (W.alloc (.cells #[] e)) e size (some (.slice (some ⟨q, 0, none⟩) 0 0, 0, [])) blks := by
  subst hq
  have hb : Below W.heap.size W (W.alloc (.cells #[] e)) := (Below.refl _ _).alloc (Nat.le_refl _) _
  refine ⟨h.below.trans (hb.mono h.b0), Nat.le_trans h.b0 hb.size, fun r hr => ?_, fun x hx => ?_⟩
  · cases hr; exact own_lit W B0 e size #[] 0 h.b0 (by decide) (by simp)
  · obtain ⟨h1, h2, -⟩ := h.blk x hx
    refine ⟨h1, h2.below hb h2.lt, fun r hr e' => ?_⟩
    cases hr
    have h4 : W.heap.size = x.1 := Option.some.inj e'
    have := h2.lt
    omega
/-- The row has grown. -/
theorem Reg.grown (h : Reg w0 B0 W e size (some r) blks) (hown : wB.ownsRow B0 e size r'.1 r'.2.1 r'.2.2) (hgrow : W.grownBy wB r.1.ownBlock) (hat : r'.1.ownBlock = r.1.ownBlock ∨ r'.1.ownBlock = some W.heap.size) : Reg w0 B0 wB e size (some r') blks := by
  have h0 := h.own r rfl
  refine ⟨h.below.grown hgrow h.b0 (fun k hk => (h0.lt k hk).1), Nat.le_trans h.b0 hgrow.size, fun s hs => by cases hs; exact hown, fun x hx => ?_⟩
  obtain ⟨h1, h2, h3⟩ := h.blk x hx
  refine ⟨h1, (hgrow.block x.1 h2.lt (fun e' => h3 r rfl e'.symm)).trans h2, fun s hs e' => ?_⟩
  cases hs
  rcases hat with h4 | h4
  · exact h3 r rfl (h4.symm.trans e')
  · have h5 : W.heap.size = x.1 := Option.some.inj (h4.symm.trans e')
    have := h2.lt
    omega
/-- The first row: it is a literal of its own. -/
theorem Reg.lit (h : Reg w0 B0 W e size row blks) {x : Nat × TypeId × Array Value} (hx : x ∈ blks) : ∀ j u, (x.2.2.toList)[j]? = some u → W.cell? ((⟨x.1, 0, none⟩ : Addr).add j) = some u := fun j u hu => by
  rw [add_at, Nat.zero_add]
  refine ((h.blk x hx).2.1.cell j).trans ?_
  simpa using hu
theorem Reg.cellAt (h : Reg w0 B0 W e size row blks) {x : Nat × TypeId × Array Value} (hx : x ∈ blks) (i : Nat) : W.cell? ⟨x.1, i, none⟩ = x.2.2[i]? := (h.blk x hx).2.1.cell i
theorem Reg.openAt (h : Reg w0 B0 W e size row blks) {x : Nat × TypeId × Array Value} (hx : x ∈ blks) (i : Nat) : W.frozen? ⟨x.1, i, none⟩ = false := (h.blk x hx).2.1.frozen i
theorem Reg.ltAt (h : Reg w0 B0 W e size row blks) {x : Nat × TypeId × Array Value} (hx : x ∈ blks) : x.1 < W.heap.size := (h.blk x hx).2.1.lt
/-- A box is written. -/
theorem Reg.set (h : Reg w0 B0 W e size row blks) (hx : (q, t, cs) ∈ blks) (i : Nat) (v : Value) : Reg w0 B0 (W.setCell ⟨q, i, none⟩ v) e size row [(q, t, cs.setIfInBounds i v)] := by
  obtain ⟨h1, h2, h3⟩ := h.blk _ hx
  simp only at h1 h2 h3
  refine ⟨h.below.setCell h1 _, Nat.le_trans h.b0 (by simp [World.setCell]), fun r hr => ?_, fun x hx => ?_⟩
  · exact own_keptZ (h.own r hr) (row := some q) ⟨rfl, rfl, rfl, by simp [World.setCell], fun k _ hk => Below.heap_setCell _ _ _ _ (fun e => hk (by rw [e]))⟩ (fun k hk e' => by cases e'; exact h3 r hr hk)
  · obtain rfl := List.mem_singleton.1 hx
    exact ⟨h1, h2.set_ i v, h3⟩
/-- A box of two cells is written whole. -/
theorem Reg.set2 (h : Reg w0 B0 W e size row blks) {a b : Value} (hx : (q, t, #[a, b]) ∈ blks) (a' b' : Value) : Reg w0 B0 ((W.setCell ⟨q, 0, none⟩ a').setCell ⟨q, 1, none⟩ b') e size row [(q, t, #[a', b'])] := by
  have h1 := (h.set hx 0 a').set (List.mem_singleton.2 rfl) 1 b'
  simpa using h1
theorem Reg.less (h : Reg w0 B0 W e size row blks) {bs : List (Nat × TypeId × Array Value)} (hs : ∀ x, x ∈ bs → x ∈ blks) : Reg w0 B0 W e size row bs := ⟨h.below, h.b0, h.own, fun x hx => h.blk x (hs x hx)⟩
/-- A block older than B0 is written. -/
theorem Reg.setOld (h : Reg w0 B0 W e size row blks) (hq : q < B0) (i : Nat) (v : Value) : (∀ r, row = some r → (W.setCell ⟨q, i, none⟩ v).ownsRow B0 e size r.1 r.2.1 r.2.2) ∧ ∀ x, x ∈ blks → Blk (W.setCell ⟨q, i, none⟩ v) x.1 x.2.1 x.2.2 :=
  ⟨fun r hr => own_setOldZ (h.own r hr) hq i v, fun x hx => (h.blk x hx).2.1.far (show x.1 ≠ q by have := (h.blk x hx).1; omega) v⟩
end

end Go.Proofs.Ytpefimeogbpagaa
