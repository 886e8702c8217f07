/- Draws of plans: a plan under way in memory, its row, the times, the reader. -/
import Derived.Test.YtpefimeogbpagaaDRA
import Derived.Test.YtpefimeogbpagaaOB
namespace Go.Proofs.Ytpefimeogbpagaa
open Go.RowKit

theorem Mv.keepA {R : Nat} {B : Int} {w w' : World} (h : Mv R B w w') {b o : Nat} (hne : b ≠ R) {v : Value} (hc : w.cell? ⟨b, o, none⟩ = some v) : w'.cell? ⟨b, o, none⟩ = some v :=
  (cell_blk (h.1.block b (cell_lt hc) (fun e => hne (by cases e; rfl))) o).trans hc
theorem own_lit_atB {w : World} {q : Nat} (hq : w.heap.size = q) (base : Nat) (e : TypeId) (size : Nat) (cs : Array Value) (n : Nat) (hb : base ≤ w.heap.size) (hm : n ≤ maxLen) (hs : cs.size = n * size) :
    (w.alloc (.cells cs e)).ownsRow base e size (.slice (some ⟨q, 0, none⟩) n n) n cs.toList := by subst hq; exact own_lit w base e size cs n hb hm hs
/-- A plan under way: its number of points, its row, the reader. -/
structure PnAt (w : World) (R Q P B0 : Nat) (Bd : Int) (pts : Int) (A : Option Addr) (n c : Nat) : Prop where
  rd : Rd w R Bd
  lq : R < Q
  qp : Q < P
  pb : P < B0
  bw : B0 ≤ w.heap.size
  res : Blk w Q 25 #[.int .i64 0, .slice none 0 0]
  blk : Blk w P 25 #[.int .i64 pts, .slice A n c]
  row : ∃ xs, OwnB w B0 A n c xs
section
variable {w w' W wB : World} {R Q P B0 : Nat} {Bd Bd' pts : Int} {A : Option Addr} {n c g cap : Nat} {zs : List Value}
theorem PnAt.mono (h : PnAt w R Q P B0 Bd pts A n c) (hB : Bd ≤ Bd') : PnAt w R Q P B0 Bd' pts A n c := ⟨h.rd.mono hB, h.lq, h.qp, h.pb, h.bw, h.res, h.blk, h.row⟩
theorem PnAt.lt (h : PnAt w R Q P B0 Bd pts A n c) : R < P := Nat.lt_trans h.lq h.qp
theorem PnAt.mv (h : PnAt w R Q P B0 Bd pts A n c) (hm : Mv R Bd' w w') : PnAt w' R Q P B0 Bd' pts A n c := by
  obtain ⟨xs, hx⟩ := h.row
  have h1 := h.lt
  have h2 := h.lq
  have h3 := h.pb
  have h4 := h.bw
  refine ⟨hm.2, h.lq, h.qp, h.pb, Nat.le_trans h4 hm.1.size, ?_, ?_, ⟨xs, own_mv hx (by omega) hm⟩⟩
  · show w'.heap[Q]? = _
    rw [hm.1.block Q h.res.lt (fun e => by cases e; omega)]; exact h.res
  show w'.heap[P]? = _
  rw [hm.1.block P h.blk.lt (fun e => by cases e; omega)]; exact h.blk
theorem PnAt.drew (h : PnAt w R Q P B0 Bd pts A n c) : PnAt w.drew R Q P B0 Bd pts A n c := ⟨h.rd.drewN 1, h.lq, h.qp, h.pb, h.bw, h.res, h.blk, h.row⟩
theorem PnAt.below (h : PnAt w R Q P B0 Bd pts A n c) (hb : Below w.heap.size w w') : PnAt w' R Q P B0 Bd pts A n c := by
  obtain ⟨xs, hx⟩ := h.row
  exact ⟨h.rd.below hb, h.lq, h.qp, h.pb, Nat.le_trans h.bw hb.size, h.res.below hb h.res.lt, h.blk.below hb h.blk.lt, ⟨xs, own_below hx hb⟩⟩
theorem PnAt.cells (h : PnAt w R Q P B0 Bd pts A n c) : w.cell? ⟨P, 0, none⟩ = some (.int .i64 pts) ∧ w.cell? ⟨P, 1, none⟩ = some (.slice A n c) ∧ w.frozen? ⟨P, 0, none⟩ = false ∧ w.frozen? ⟨P, 1, none⟩ = false :=
  ⟨(h.blk.cell 0).trans rfl, (h.blk.cell 1).trans rfl, h.blk.frozen 0, h.blk.frozen 1⟩
/-- A block that is none of the plan's is written. -/
theorem PnAt.setHi (h : PnAt w R Q P B0 Bd pts A n c) {q : Nat} (hq : P < q) (hr : ∀ k, (Value.slice A n c).ownBlock = some k → k ≠ q) (i : Nat) (v : Value) : PnAt (w.setCell ⟨q, i, none⟩ v) R Q P B0 Bd pts A n c := by
  obtain ⟨xs, hx⟩ := h.row
  have h1 := h.lt
  have h2 := h.qp
  have hset : w.grownBy (w.setCell ⟨q, i, none⟩ v) (some q) := ⟨rfl, rfl, rfl, by simp [World.setCell], fun k _ hk => Below.heap_setCell _ _ _ _ (fun e => hk (by rw [e]))⟩
  refine ⟨h.rd.grown hset (fun k hk => by cases hk; omega), h.lq, h.qp, h.pb, Nat.le_trans h.bw hset.size, h.res.far (by show Q ≠ q; omega) _, h.blk.far (by show P ≠ q; omega) _, ⟨xs, hx.kept hset ?_⟩⟩
  cases hv : (Value.slice A n c).ownBlock with
  | none => exact .inl rfl
  | some k => exact .inr (fun e => hr k hv (by cases e; rfl))
/-- A row of another one's has grown; the plan's own has not. -/
theorem PnAt.grown (h : PnAt w R Q P B0 Bd pts none 0 0) {row : Option Nat} (hg : w.grownBy w' row) (hr : ∀ r, row = some r → B0 ≤ r) : PnAt w' R Q P B0 Bd pts none 0 0 := by
  have h1 := h.lt
  have h2 := h.qp
  have h3 := h.pb
  refine ⟨h.rd.grown hg (fun k hk => by have := hr k hk; omega), h.lq, h.qp, h.pb, Nat.le_trans h.bw hg.size, ?_, ?_, ⟨[], OwnB.empty _ _⟩⟩
  · show w'.heap[Q]? = _
    rw [hg.block Q h.res.lt (fun e => by have := hr Q e.symm; omega)]; exact h.res
  show w'.heap[P]? = _
  rw [hg.block P h.blk.lt (fun e => by have := hr P e.symm; omega)]; exact h.blk
/-- The number of points is written. -/
theorem PnAt.setPts (h : PnAt w R Q P B0 Bd pts A n c) (z : Int) : PnAt (w.setCell ⟨P, 0, none⟩ (.int .i64 z)) R Q P B0 Bd z A n c := by
  obtain ⟨xs, hx⟩ := h.row
  have h1 := h.lt
  have h2 := h.qp
  have h3 := h.pb
  have hset : w.grownBy (w.setCell ⟨P, 0, none⟩ (.int .i64 z)) (some P) := ⟨rfl, rfl, rfl, by simp [World.setCell], fun k _ hk => Below.heap_setCell _ _ _ _ (fun e => hk (by rw [e]))⟩
  refine ⟨h.rd.grown hset (fun k hk => by cases hk; omega), h.lq, h.qp, h.pb, Nat.le_trans h.bw hset.size, h.res.far (by show Q ≠ P; omega) _, ?_, ⟨xs, own_setOld hx h3 _ _⟩⟩
  have := h.blk.set_ 0 (.int .i64 z)
  simpa using this
/-- The row has grown, and is stored. -/
theorem PnAt.setRow (h : PnAt W R Q P B0 Bd pts A n c) (hown : wB.ownsRow B0 61 3 (.slice (some ⟨g, 0, none⟩) (n + 1) cap) (n + 1) zs) (hz : ∃ xs, zs = v3 xs) (hgrow : W.grownBy wB (Value.slice A n c).ownBlock) :
    (Blk wB P 25 #[.int .i64 pts, .slice A n c] ∧ Blk wB Q 25 #[.int .i64 0, .slice none 0 0] ∧ wB.cell? ⟨P, 1, none⟩ = some (.slice A n c) ∧ wB.frozen? ⟨P, 1, none⟩ = false) ∧ PnAt (wB.setCell ⟨P, 1, none⟩ (.slice (some ⟨g, 0, none⟩) (n + 1) cap)) R Q P B0 Bd pts (some ⟨g, 0, none⟩) (n + 1) cap := by
  obtain ⟨xs, hx⟩ := h.row
  obtain ⟨xs', rfl⟩ := hz
  have hlt := h.lt
  have hqp := h.qp
  have hpb := h.pb
  have hP := h.blk.lt
  have hrow : ∀ r, (Value.slice A n c).ownBlock = some r → B0 ≤ r := fun r hr => (hx.lt r hr).1
  have hblk : Blk wB P 25 #[.int .i64 pts, .slice A n c] := by
    show wB.heap[P]? = _
    rw [hgrow.block P hP (fun e => by have := hrow P e.symm; omega)]; exact h.blk
  have hresB : Blk wB Q 25 #[.int .i64 0, .slice none 0 0] := by
    show wB.heap[Q]? = _
    rw [hgrow.block Q h.res.lt (fun e => by have := hrow Q e.symm; omega)]
    exact h.res
  have hset : wB.grownBy (wB.setCell ⟨P, 1, none⟩ (.slice (some ⟨g, 0, none⟩) (n + 1) cap)) (some P) := ⟨rfl, rfl, rfl, by simp [World.setCell], fun k _ hk => Below.heap_setCell _ _ _ _ (fun e => hk (by rw [e]))⟩
  refine ⟨⟨hblk, hresB, (hblk.cell 1).trans rfl, hblk.frozen 1⟩, (h.rd.grown hgrow (fun k hk => by have := hrow k hk; omega)).grown hset (fun k hk => by cases hk; exact hlt), h.lq, h.qp, h.pb, Nat.le_trans h.bw (Nat.le_trans hgrow.size hset.size), hresB.far (by show Q ≠ P; omega) _, ?_, ⟨xs', own_setOld hown hpb _ _⟩⟩
  have := hblk.set_ 1 (.slice (some ⟨g, 0, none⟩) (n + 1) cap)
  simpa using this
end

/-- The times: a row in blocks between the plan and its row. -/
structure TmAt (w : World) (P B0 : Nat) (T : Option Addr) (k : Nat) : Prop where
  row : ∃ ts, IntsAt w T k ts
  pos : ∀ a, T = some a → P < a.block ∧ a.block < B0
section
variable {w w' : World} {P B0 R q k : Nat} {Bd : Int} {T : Option Addr} {row : Option Nat}
theorem TmAt.keep (h : TmAt w P B0 T k) (hk : ∀ b, P < b → b < B0 → b < w.heap.size → w'.heap[b]? = w.heap[b]?) : TmAt w' P B0 T k := by
  obtain ⟨⟨ts, ht⟩, hp⟩ := h
  refine ⟨⟨ts, ht.len, fun hn => ?_⟩, hp⟩
  obtain ⟨b, off, e, hc⟩ := ht.cells hn
  obtain ⟨p1, p2⟩ := hp _ e
  refine ⟨b, off, e, fun j hj => ?_⟩
  have := hc j hj
  exact (cell_blk (b := b) (hk b p1 p2 (cell_lt this)) _).trans this
theorem TmAt.mv (h : TmAt w P B0 T k) (hR : R < P) (hm : Mv R Bd w w') : TmAt w' P B0 T k := h.keep fun b h1 _ h3 => hm.1.block b h3 (fun e => by cases e; omega)
theorem TmAt.below (h : TmAt w P B0 T k) (hb : Below w.heap.size w w') : TmAt w' P B0 T k := h.keep fun b _ _ h3 => hb.block b h3
theorem TmAt.drew (h : TmAt w P B0 T k) : TmAt w.drew P B0 T k := h.keep fun _ _ _ _ => rfl
theorem TmAt.grown (h : TmAt w P B0 T k) (hg : w.grownBy w' row) (hr : ∀ g, row = some g → B0 ≤ g) : TmAt w' P B0 T k := h.keep fun b _ h2 h3 => hg.block b h3 (fun e => by have := hr b e.symm; omega)
theorem TmAt.setLo (h : TmAt w P B0 T k) (i : Nat) (v : Value) : TmAt (w.setCell ⟨P, i, none⟩ v) P B0 T k := h.keep fun b h1 _ _ => Below.heap_setCell _ _ _ _ (fun e => by have : b = P := e; omega)
theorem TmAt.setHi (h : TmAt w P B0 T k) (hq : B0 ≤ q) (i : Nat) (v : Value) : TmAt (w.setCell ⟨q, i, none⟩ v) P B0 T k := h.keep fun b _ h2 _ => Below.heap_setCell _ _ _ _ (fun e => by have : b = q := e; omega)
theorem TmAt.get (h : TmAt w P B0 T k) (hk : 0 < k) : ∃ b off, T = some ⟨b, off, none⟩ ∧ ∀ j, j < k → ∃ z : Int, w.cell? ⟨b, off + j, none⟩ = some (.int .i64 z) := by
  obtain ⟨ts, ht⟩ := h.row
  obtain ⟨b, off, e, hc⟩ := ht.cells hk
  exact ⟨b, off, e, fun j hj => ⟨_, hc j hj⟩⟩
end

end Go.Proofs.Ytpefimeogbpagaa
