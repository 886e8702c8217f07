/- Rows of promises of one's own; a plan under way whose bounds are altered; a deal under way. -/
import Derived.Test.YtopfhlopicjemaaDRQ
import Derived.Test.YtopfhlopicjemaaOB
import Derived.Test.YtopfhlopicjemaaOA
import Derived.Test.YtopfhlopicjemaaD2
namespace Go.Proofs.Ytopfhlopicjemaa
open Go.RowKit

def v4 (xs : List Pm) : List Value := xs.flatMap fun x => [.int .i64 x.1, .int .i64 x.2.1, .int .i64 x.2.2.1, .int .i64 x.2.2.2]
theorem v4_nil : v4 [] = [] := rfl
theorem v4_cons (x : Pm) (xs : List Pm) : v4 (x :: xs) = .int .i64 x.1 :: .int .i64 x.2.1 :: .int .i64 x.2.2.1 :: .int .i64 x.2.2.2 :: v4 xs := rfl
theorem v4_append (xs ys : List Pm) : v4 (xs ++ ys) = v4 xs ++ v4 ys := by simp [v4]
theorem v4_len (xs : List Pm) : (v4 xs).length = xs.length * 4 := by
  induction xs with
  | nil => rfl
  | cons x xs ih => rw [v4_cons]; simp [ih]; omega
theorem v4_one (xs : List Pm) : ∀ u ∈ v4 xs, u.oneCell' = true := by
  intro u hu
  obtain ⟨x, _, hx⟩ := List.mem_flatMap.1 hu
  simp at hx
  rcases hx with rfl | rfl | rfl | rfl <;> rfl
theorem v4_get (xs : List Pm) : ∀ j, j < xs.length → (v4 xs)[j * 4]? = some (.int .i64 (xs.getD j (0, 0, 0, 0)).1) ∧ (v4 xs)[j * 4 + 1]? = some (.int .i64 (xs.getD j (0, 0, 0, 0)).2.1) ∧ (v4 xs)[j * 4 + 2]? = some (.int .i64 (xs.getD j (0, 0, 0, 0)).2.2.1) ∧ (v4 xs)[j * 4 + 3]? = some (.int .i64 (xs.getD j (0, 0, 0, 0)).2.2.2) := by
  induction xs with
  | nil => intro j hj; simp at hj
  | cons x xs ih =>
    intro j hj
    cases j with
    | zero => exact ⟨rfl, rfl, rfl, rfl⟩
    | succ j =>
      obtain ⟨h0, h1, h2, h3⟩ := ih j (by simpa using hj)
      rw [v4_cons, show (j + 1) * 4 = j * 4 + 4 by omega]
      refine ⟨?_, ?_, ?_, ?_⟩ <;> simp only [List.getD_cons_succ]
      · simpa using h0
      · simpa [show j * 4 + 4 + 1 = j * 4 + 1 + 4 by omega] using h1
      · simpa [show j * 4 + 4 + 2 = j * 4 + 2 + 4 by omega] using h2
      · simpa [show j * 4 + 4 + 3 = j * 4 + 3 + 4 by omega] using h3
theorem rowPr : RowTy Try.prog 64 105 (.agg #[.int .i64 0, .int .i64 0, .int .i64 0, .int .i64 0]) 4 32 := ⟨Try.underlying64, infoPromise, rfl, by decide, by decide⟩
abbrev OwnP (w : World) (base : Nat) (A : Option Addr) (n c : Nat) (xs : List Pm) : Prop := w.ownsRow base 105 4 (.slice A n c) n (v4 xs)
theorem OwnP.len {w : World} {base : Nat} {A : Option Addr} {n c : Nat} {xs : List Pm} (h : OwnP w base A n c xs) : xs.length = n := by
  have := h.1; rw [v4_len] at this; omega
theorem OwnP.at_ {w : World} {base : Nat} {A : Option Addr} {n c : Nat} {xs : List Pm} (h : OwnP w base A n c xs) : PromsAt w A n xs := by
  have hl := h.len
  obtain ⟨A', c', e, hc, hA, hcell⟩ := own_cells h
  cases e
  refine ⟨hl, fun hn => ?_⟩
  obtain ⟨g, rfl, _, _, hg⟩ := hcell hn
  refine ⟨g, 0, rfl, fun j hj => ?_⟩
  obtain ⟨g0, g1, g2, g3⟩ := v4_get xs j (by omega)
  rw [Nat.zero_add]
  exact ⟨hg _ _ g0, hg _ _ g1, hg _ _ g2, hg _ _ g3⟩
theorem OwnP.cap {w : World} {base : Nat} {A : Option Addr} {n c : Nat} {xs : List Pm} (h : OwnP w base A n c xs) : n ≤ c := by
  obtain ⟨A', c', e, hc, hA, hcell⟩ := own_cells h
  cases e; exact hc
theorem OwnP.news {w : World} {base : Nat} {A : Option Addr} {n c : Nat} {xs : List Pm} (h : OwnP w base A n c xs) {a : Addr} (ha : A = some a) : ∀ j u, (v4 xs)[j]? = some u → w.cell? (a.add j) = some u := by
  intro j u hu
  have hl := h.len
  have hn : 0 < n := by
    rcases Nat.eq_zero_or_pos n with h0 | h0
    · have hx : xs = [] := List.eq_nil_of_length_eq_zero (by omega)
      subst hx; simp [v4] at hu
    · exact h0
  obtain ⟨A', c', e, hc, hA, hcell⟩ := own_cells h
  cases e
  obtain ⟨g, e2, _, _, hg⟩ := hcell hn
  rw [e2] at ha
  cases ha
  rw [addr_add, Nat.zero_add]
  exact hg _ _ hu
theorem OwnP.nilA {w : World} {base : Nat} {A : Option Addr} {n c : Nat} {xs : List Pm} (h : OwnP w base A n c xs) (hA : A = none) : n = 0 := by
  obtain ⟨A', c', e, hc, hA', hcell⟩ := own_cells h
  cases e
  rcases Nat.eq_zero_or_pos n with h0 | h0
  · exact h0
  · obtain ⟨g, e2, _⟩ := hcell h0; rw [e2] at hA; cases hA
theorem cell4 {w : World} {q : Nat} (hq : w.heap.size = q) (x : Pm) (t : TypeId) : ∀ j u, (v4 [x])[j]? = some u → (w.alloc (.cells #[.int .i64 x.1, .int .i64 x.2.1, .int .i64 x.2.2.1, .int .i64 x.2.2.2] t)).cell? ((⟨q, 0, none⟩ : Addr).add j) = some u := by
  subst hq
  intro j u hu
  rw [addr_add, Nat.zero_add, World.cell?_alloc_new]
  have e : v4 [x] = [.int .i64 x.1, .int .i64 x.2.1, .int .i64 x.2.2.1, .int .i64 x.2.2.2] := rfl
  rw [e] at hu
  match j with
  | 0 => simpa using hu
  | 1 => simpa using hu
  | 2 => simpa using hu
  | 3 => simpa using hu
  | j + 4 => simp at hu
theorem v3_setMost (xs : List Bd) : ∀ (k : Nat), k < xs.length → ∀ z : Int, ∃ ys : List Bd, (v3 xs).set (k * 3 + 2) (.int .i64 z) = v3 ys := by
  induction xs with
  | nil => intro k hk; simp at hk
  | cons x xs ih =>
    intro k hk z
    cases k with
    | zero => exact ⟨(x.1, x.2.1, z) :: xs, rfl⟩
    | succ k =>
      obtain ⟨ys, hy⟩ := ih k (by simpa using hk) z
      refine ⟨x :: ys, ?_⟩
      rw [v3_cons, v3_cons, show (k + 1) * 3 + 2 = k * 3 + 2 + 3 by omega, ← hy]
      rfl
theorem own_keptD {w w' : World} {base : Nat} {e : TypeId} {size : Nat} {v : Value} {n : Nat} {xs : List Value} {row : Option Nat} (h : w.ownsRow base e size v n xs) (hg : w.grownBy w' row) (hne : ∀ k, v.ownBlock = some k → row ≠ some k) : w'.ownsRow base e size v n xs := by
  refine h.kept hg ?_
  cases hv : v.ownBlock with
  | none => exact .inl rfl
  | some k => exact .inr (fun e => hne k hv e.symm)
theorem grown_setD (w : World) (P i : Nat) (v : Value) : w.grownBy (w.setCell ⟨P, i, none⟩ v) (some P) :=
  ⟨rfl, rfl, rfl, by simp [World.setCell], fun k _ hk => Below.heap_setCell _ _ _ _ (fun e => hk (by rw [e]))⟩

/-- A plan whose bounds are being altered: result block Q, plan block P, a row of its own of n of which k count. -/
structure PbAt (w : World) (R Q P : Nat) (pts : Int) (A : Option Addr) (n c k : Nat) : Prop where
  lq : R < Q
  qp : Q < P
  kn : k ≤ n
  res : Blk w Q 66 #[.int .i64 0, .slice none 0 0, .slice none 0 0]
  blk : Blk w P 48 #[.int .i64 pts, .slice A k c]
  row : ∃ xs, OwnB w (Q + 1) A n c xs
  far : ∀ a, A = some a → a.block < P
section
variable {w w' W wB : World} {R Q P n c k : Nat} {Bd0 pts : Int} {A : Option Addr}
theorem PbAt.mv (h : PbAt w R Q P pts A n c k) (hm : Mv R Bd0 w w') : PbAt w' R Q P pts A n c k := by
  have h1 := h.lq
  have h2 := h.qp
  obtain ⟨xs, hx⟩ := h.row
  refine ⟨h1, h2, h.kn, ?_, ?_, ⟨xs, own_mv hx (by omega) hm⟩, h.far⟩
  · show w'.heap[Q]? = _
    rw [hm.1.block Q h.res.lt (fun e => by cases e; omega)]; exact h.res
  · show w'.heap[P]? = _
    rw [hm.1.block P h.blk.lt (fun e => by cases e; omega)]; exact h.blk
theorem PbAt.drewD (h : PbAt w R Q P pts A n c k) : PbAt w.drew R Q P pts A n c k := ⟨h.lq, h.qp, h.kn, h.res, h.blk, h.row, h.far⟩
theorem PbAt.cells (h : PbAt w R Q P pts A n c k) : w.cell? ⟨P, 0, none⟩ = some (.int .i64 pts) ∧ w.cell? ⟨P, 1, none⟩ = some (.slice A k c) :=
  ⟨(h.blk.cell 0).trans rfl, (h.blk.cell 1).trans rfl⟩
theorem PbAt.elem (h : PbAt w R Q P pts A n c k) {j : Nat} (hj : j < k) : ∃ g z, A = some ⟨g, 0, none⟩ ∧ g < P ∧ Q < g ∧ w.cell? ⟨g, j * 3 + 2, none⟩ = some (.int .i64 z) ∧ w.frozen? ⟨g, j * 3 + 2, none⟩ = false ∧ ∀ u : Int, PbAt (w.setCell ⟨g, j * 3 + 2, none⟩ (.int .i64 u)) R Q P pts A n c k := by
  have h1 := h.lq
  have h2 := h.qp
  have hk := h.kn
  obtain ⟨xs, hx⟩ := h.row
  have hl := OwnB.len hx
  obtain ⟨g, rfl, hg, hgl⟩ : ∃ g, A = some ⟨g, 0, none⟩ ∧ Q + 1 ≤ g ∧ g < w.heap.size := by
    obtain ⟨A', c', e, hc, hA, hcell⟩ := own_cells hx
    cases e
    obtain ⟨g, e2, h3, h4, _⟩ := hcell (by omega)
    exact ⟨g, e2, (hx.lt g h3).1, (hx.lt g h3).2⟩
  obtain ⟨A', c', e, hc, hA, hcell⟩ := own_cells hx
  cases e
  obtain ⟨g', e2, _, _, hg'⟩ := hcell (by omega)
  cases e2
  have hgP := h.far _ rfl
  obtain ⟨_, _, g2⟩ := v3_get xs j (by omega)
  refine ⟨g, _, rfl, hgP, hg, hg' _ _ g2, hx.frozenAt _, fun u => ?_⟩
  obtain ⟨ys, hy⟩ := v3_setMost xs j (by omega) u
  refine ⟨h1, h2, hk, h.res.far (by show Q ≠ g; omega) _, h.blk.far (by show P ≠ g; simp only at hgP; omega) _, ⟨ys, ?_⟩, h.far⟩
  have hs := (hx.stored (j * 3 + 2) (.int .i64 u)).1
  rw [hy] at hs
  exact hs
end

/-- A deal under way: result block Q, plan block P, deal block D. -/
structure DlAt (w : World) (R Q P D : Nat) (pts : Int) (A : Option Addr) (n c : Nat) (C : Option Addr) (m d : Nat) : Prop where
  lq : R < Q
  qp : Q < P
  pd : P < D
  res : Blk w Q 66 #[.int .i64 0, .slice none 0 0, .slice none 0 0]
  pl : Blk w P 48 #[.int .i64 pts, .slice A n c]
  blk : Blk w D 66 #[.int .i64 pts, .slice A n c, .slice C m d]
  base : ∃ bs, BndsAt w A n bs
  far : ∀ a, A = some a → Q < a.block ∧ a.block < P
  row : ∃ xs, OwnP w (D + 1) C m d xs
section
variable {w w' W wB : World} {R Q P D n c m d g cap : Nat} {Bd0 pts : Int} {A C : Option Addr} {xs : List Pm}
theorem DlAt.kept (h : DlAt w R Q P D pts A n c C m d) {row : Option Nat} (hg : w.grownBy w' row) (hr : ∀ g, row = some g → g < Q ∨ (D < g ∧ (Value.slice C m d).ownBlock ≠ some g)) : DlAt w' R Q P D pts A n c C m d := by
  have h1 := h.lq
  have h2 := h.qp
  have h3 := h.pd
  obtain ⟨bs, hb⟩ := h.base
  obtain ⟨xs, hx⟩ := h.row
  have hlt := h.pl.lt
  refine ⟨h1, h2, h3, ?_, ?_, ?_, ⟨bs, hb.keepB (fun a ha => hg.block _ (by have := h.far a ha; omega) (fun e => by have := h.far a ha; have := hr _ e.symm; omega))⟩, h.far, ⟨xs, own_keptD hx hg (fun k hk e => by
    have h5 := (hx.lt k hk).1
    rcases hr k e with h6 | h6
    · omega
    · exact h6.2 hk)⟩⟩
  · show w'.heap[Q]? = _
    rw [hg.block Q h.res.lt (fun e => by have := hr _ e.symm; omega)]; exact h.res
  · show w'.heap[P]? = _
    rw [hg.block P h.pl.lt (fun e => by have := hr _ e.symm; omega)]; exact h.pl
  · show w'.heap[D]? = _
    rw [hg.block D h.blk.lt (fun e => by have := hr _ e.symm; omega)]; exact h.blk
theorem DlAt.mv (h : DlAt w R Q P D pts A n c C m d) (hm : Mv R Bd0 w w') : DlAt w' R Q P D pts A n c C m d :=
  h.kept hm.1 (fun g e => by cases e; exact .inl h.lq)
theorem DlAt.below (h : DlAt w R Q P D pts A n c C m d) (hb : Below w.heap.size w w') : DlAt w' R Q P D pts A n c C m d :=
  h.kept (grown_of_below hb none) (fun g e => by cases e)
theorem DlAt.cells (h : DlAt w R Q P D pts A n c C m d) : w.cell? ⟨P, 0, none⟩ = some (.int .i64 pts) ∧ w.cell? ⟨P, 1, none⟩ = some (.slice A n c) ∧ w.cell? ⟨D, 0, none⟩ = some (.int .i64 pts) ∧ w.cell? ⟨D, 1, none⟩ = some (.slice A n c) ∧ w.cell? ⟨D, 2, none⟩ = some (.slice C m d) ∧ w.frozen? ⟨D, 0, none⟩ = false ∧ w.frozen? ⟨D, 1, none⟩ = false ∧ w.frozen? ⟨D, 2, none⟩ = false :=
  ⟨(h.pl.cell 0).trans rfl, (h.pl.cell 1).trans rfl, (h.blk.cell 0).trans rfl, (h.blk.cell 1).trans rfl, (h.blk.cell 2).trans rfl, h.blk.frozen 0, h.blk.frozen 1, h.blk.frozen 2⟩
theorem DlAt.S (h : DlAt w R Q P D pts A n c C m d) : w.cell? ⟨P, 0, none⟩ = some (.int .i64 pts) ∧ w.cell? ⟨P, 1, none⟩ = some (.slice A n c) ∧ w.cell? ⟨D, 2, none⟩ = some (.slice C m d) :=
  ⟨(h.pl.cell 0).trans rfl, (h.pl.cell 1).trans rfl, (h.blk.cell 2).trans rfl⟩
theorem DlAt.drewD (h : DlAt w R Q P D pts A n c C m d) : DlAt w.drew R Q P D pts A n c C m d := h.below (Below.refl _ _).drew
theorem DlAt.setHi (h : DlAt w R Q P D pts A n c C m d) {q : Nat} (hq : D < q) (hc : ∀ k, (Value.slice C m d).ownBlock = some k → k ≠ q) (i : Nat) (v : Value) : DlAt (w.setCell ⟨q, i, none⟩ v) R Q P D pts A n c C m d :=
  h.kept (grown_setD w q i v) (fun g e => by cases e; exact .inr ⟨hq, fun e => hc _ e rfl⟩)
/-- The deal takes other promises. -/
theorem DlAt.take (h : DlAt w R Q P D pts A n c C m d) {C2 : Option Addr} {m2 d2 : Nat} (hx : OwnP w (D + 1) C2 m2 d2 xs) :
    DlAt (((w.setCell ⟨D, 0, none⟩ (.int .i64 pts)).setCell ⟨D, 1, none⟩ (.slice A n c)).setCell ⟨D, 2, none⟩ (.slice C2 m2 d2)) R Q P D pts A n c C2 m2 d2 := by
  have h1 := h.lq
  have h2 := h.qp
  have h3 := h.pd
  obtain ⟨bs, hb⟩ := h.base
  have hs := ((h.blk.set_ 0 (.int .i64 pts)).set_ 1 (.slice A n c)).set_ 2 (.slice C2 m2 d2)
  have hf : ∀ a, A = some a → a.block ≠ D := fun a ha => by have := h.far a ha; omega
  refine ⟨h1, h2, h3, ((h.res.far (by show Q ≠ D; omega) _).far (by show Q ≠ D; omega) _).far (by show Q ≠ D; omega) _, ((h.pl.far (by show P ≠ D; omega) _).far (by show P ≠ D; omega) _).far (by show P ≠ D; omega) _, hs,
    ⟨bs, ((hb.setCell (q := ⟨D, 0, none⟩) hf _).setCell (q := ⟨D, 1, none⟩) hf _).setCell (q := ⟨D, 2, none⟩) hf _⟩, h.far, ⟨xs, ?_⟩⟩
  have hne : ∀ k, (Value.slice C2 m2 d2).ownBlock = some k → some D ≠ some k := fun k hk e => by cases e; have := (hx.lt D hk).1; omega
  exact own_keptD (own_keptD (own_keptD hx (grown_setD _ _ _ _) hne) (grown_setD _ _ _ _) hne) (grown_setD _ _ _ _) hne
end

theorem Mv.drewD {R : Nat} {B : Int} {w w1 : World} (h : Mv R B w w1) : Mv R B w w1.drew := h.drewN 1
theorem Mv.rdD {R : Nat} {B : Int} {w w1 : World} (h : Mv R B w w1) : Rd w1 R B := h.2
theorem OwnP.setHi {w : World} {base : Nat} {A : Option Addr} {n c : Nat} {xs : List Pm} (h : OwnP w base A n c xs) {q : Nat} (hc : ∀ k, (Value.slice A n c).ownBlock = some k → k ≠ q) (i : Nat) (v : Value) : OwnP (w.setCell ⟨q, i, none⟩ v) base A n c xs :=
  own_keptD h (grown_setD w q i v) (fun k hk e => hc k hk (Option.some.inj e).symm)
/-- What region 14 leaves: a deal more, at block q. -/
def XtAt (wx : World) (R Q P D q : Nat) (pts : Int) (A : Option Addr) (n c : Nat) (C : Option Addr) (m d : Nat) (C2 : Option Addr) (d2 : Nat) : Prop :=
  D < q ∧ Blk wx q 66 #[.int .i64 pts, .slice A n c, .slice C2 (m + 1) d2] ∧ (∃ xs, OwnP wx (D + 1) C2 (m + 1) d2 xs) ∧ DlAt wx R Q P D pts A n c C m d
/-- The deal's block is laid. -/
theorem PbAt.deal {w : World} {R Q P n c k : Nat} {pts : Int} {A : Option Addr} (h : PbAt w R Q P pts A n c k) : DlAt (w.alloc (.cells #[.int .i64 pts, .slice A k c, .slice none 0 0] 66)) R Q P w.heap.size pts A k c none 0 0 := by
  have hb : Below w.heap.size w (w.alloc (.cells #[.int .i64 pts, .slice A k c, .slice none 0 0] 66)) := (Below.refl _ _).alloc (Nat.le_refl _) _
  obtain ⟨xs, hx⟩ := h.row
  have hlt := h.blk.lt
  exact ⟨h.lq, h.qp, hlt, h.res.below hb h.res.lt, h.blk.below hb hlt, Blk.new _ _ _, ⟨_, ((OwnB.at_ hx).below hb).cut h.kn⟩, fun a ha => by
    have hob : (Value.slice A n c).ownBlock = some a.block := by subst ha; rfl
    have := (hx.lt _ hob).1
    have := h.far a ha
    omega, ⟨[], World.ownsRow_nil _ _ _ _⟩⟩
/-- The deal is handed back by block Q. -/
theorem dealFin {w0 w : World} {R n m d base : Nat} {Bd0 : Int} {A C : Option Addr} {bs : List Bd} {xs : List Pm} (hb : BndsAt w A n bs) (hf : ∀ a, A = some a → w0.heap.size < a.block ∧ a.block < w.heap.size) (hx : OwnP w base C m d xs) (hbase : w0.heap.size < base) (hm : Mv R Bd0 w0 w) (hR : R < w0.heap.size) (i0 i1 i2 : Nat) (v0 v1 v2 : Value) :
    m ≤ d ∧ (∀ u : World, (∀ k, w0.heap.size < k → k < (((w.setCell ⟨w0.heap.size, i0, none⟩ v0).setCell ⟨w0.heap.size, i1, none⟩ v1).setCell ⟨w0.heap.size, i2, none⟩ v2).heap.size → u.heap[k]? = (((w.setCell ⟨w0.heap.size, i0, none⟩ v0).setCell ⟨w0.heap.size, i1, none⟩ v1).setCell ⟨w0.heap.size, i2, none⟩ v2).heap[k]?) → BndsAt u A n bs ∧ PromsAt u C m xs) ∧ Mv R Bd0 w0 (((w.setCell ⟨w0.heap.size, i0, none⟩ v0).setCell ⟨w0.heap.size, i1, none⟩ v1).setCell ⟨w0.heap.size, i2, none⟩ v2) := by
  have hz : (((w.setCell ⟨w0.heap.size, i0, none⟩ v0).setCell ⟨w0.heap.size, i1, none⟩ v1).setCell ⟨w0.heap.size, i2, none⟩ v2).heap.size = w.heap.size := by simp [World.setCell]
  have hk : ∀ k, w0.heap.size < k → (((w.setCell ⟨w0.heap.size, i0, none⟩ v0).setCell ⟨w0.heap.size, i1, none⟩ v1).setCell ⟨w0.heap.size, i2, none⟩ v2).heap[k]? = w.heap[k]? := fun k hk =>
    ((Below.heap_setCell _ ⟨w0.heap.size, i2, none⟩ _ k (by show k ≠ w0.heap.size; omega)).trans (Below.heap_setCell _ ⟨w0.heap.size, i1, none⟩ _ k (by show k ≠ w0.heap.size; omega))).trans (Below.heap_setCell _ ⟨w0.heap.size, i0, none⟩ _ k (by show k ≠ w0.heap.size; omega))
  have hM : Mv R Bd0 w0 (((w.setCell ⟨w0.heap.size, i0, none⟩ v0).setCell ⟨w0.heap.size, i1, none⟩ v1).setCell ⟨w0.heap.size, i2, none⟩ v2) := ((hm.setNew (Nat.le_refl _) hR i0 v0).setNew (Nat.le_refl _) hR i1 v1).setNew (Nat.le_refl _) hR i2 v2
  generalize (((w.setCell ⟨w0.heap.size, i0, none⟩ v0).setCell ⟨w0.heap.size, i1, none⟩ v1).setCell ⟨w0.heap.size, i2, none⟩ v2) = wf at hz hk hM ⊢
  refine ⟨OwnP.cap hx, fun u hu => ⟨hb.keepB (fun a ha => ?_), (OwnP.at_ hx).keepB (fun a ha => ?_)⟩, hM⟩
  · have := hf a ha
    exact (hu _ this.1 (by omega)).trans (hk _ this.1)
  · have hob : (Value.slice C m d).ownBlock = some a.block := by subst ha; rfl
    have := hx.lt _ hob
    exact (hu _ (by omega) (by omega)).trans (hk _ (by omega))
/-- What l20Deal leaves. -/
def DealDrawn (R : Nat) (B : Int) (w : World) (e : Ending) (w' : World) : Prop :=
  ∃ (p : Int) (A : Option Addr) (n c : Nat) (bs : List Bd) (C : Option Addr) (m d : Nat) (xs : List Pm), e = .returned (.agg #[.int .i64 p, .slice A n c, .slice C m d]) ∧ n ≤ 9 ∧ m ≤ 4 ∧ m ≤ d ∧ (∀ u : World, (∀ k, w.heap.size < k → k < w'.heap.size → u.heap[k]? = w'.heap[k]?) → BndsAt u A n bs ∧ PromsAt u C m xs) ∧ Mv R (B + 300) w w'

end Go.Proofs.Ytopfhlopicjemaa
