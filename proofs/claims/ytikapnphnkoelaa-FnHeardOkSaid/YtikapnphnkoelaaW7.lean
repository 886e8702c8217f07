/- Draws of plans and states: spec.l20Doing. -/
import Derived.Test.YtikapnphnkoelaaW5
import Derived.Test.YtikapnphnkoelaaW6
import Derived.Deep.RegionHeldLaw
import Derived.Deep.CutRange
import Derived.Deep.DrawnRows
set_option linter.unusedSimpArgs false
namespace Go.Proofs.Ytikapnphnkoelaa
open Go.RowKit
attribute [local go_sem ↓] Go.wp_at_zero Go.wp_at_succ

/-- A plan in its box P, a state in its box T; the results' boxes Q, Q + 1. -/
structure DS (w : World) (Q P T : Nat) (pts : Int) (A : Option Addr) (n c : Nat) (xs : List Bd) (now : Int) (D : Option Addr) (m d : Nat) (ds : List Int) : Prop where
  ps : PS w Q P pts A n c xs
  qp : Q + 1 < P
  pt : P < T
  blk : Blk w T 28 #[.int .i64 now, .slice D m d]
  row : OwnZ w (Q + 2) D m d ds
  ap : ∀ k, (Value.slice D m d).ownBlock = some k → k ≠ P ∧ k ≠ T ∧ ∀ a, A = some a → a.block ≠ k
  pap : ∀ a, A = some a → a.block ≠ T ∧ a.block ≠ Q + 1
  res : Blk w (Q + 1) 28 #[.int .i64 0, .slice none 0 0]
  sz : 1 ≤ m ∧ m ≤ 8
section
variable {w w' W wB : World} {Q P T R q n c m d m' d' g : Nat} {pts now now' Bd0 : Int} {A D D' : Option Addr} {xs : List Bd} {ds ds' : List Int} {row : Option Nat}
theorem DS.grown (h : DS w Q P T pts A n c xs now D m d ds) (hg : w.grownBy w' row) (hP : row ≠ some P) (hT : row ≠ some T) (hQ : row ≠ some Q) (hQ1 : row ≠ some (Q + 1)) (hA : ∀ a, A = some a → row ≠ some a.block) (hD : ∀ k, (Value.slice D m d).ownBlock = some k → row ≠ some k) : DS w' Q P T pts A n c xs now D m d ds :=
  ⟨h.ps.grown hg hP hQ hA, h.qp, h.pt, (hg.block T h.blk.lt (fun e => hT e.symm)).trans h.blk, own_keptZ h.row hg hD, h.ap, h.pap, (hg.block (Q + 1) h.res.lt (fun e => hQ1 e.symm)).trans h.res, h.sz⟩
theorem DS.mv (h : DS w Q P T pts A n c xs now D m d ds) (hR : R < Q) (hm : Mv R Bd0 w w') : DS w' Q P T pts A n c xs now D m d ds := by
  have h1 := h.qp
  have h2 := h.pt
  exact h.grown hm.1 (fun e => by have := Option.some.inj e; omega) (fun e => by have := Option.some.inj e; omega) (fun e => by have := Option.some.inj e; omega) (fun e => by have := Option.some.inj e; omega) (fun a ha e => by have := (h.ps.ap a ha).1; have := Option.some.inj e; omega) (fun k hk e => by have := (h.row.lt k hk).1; have := Option.some.inj e; omega)
theorem DS.below (h : DS w Q P T pts A n c xs now D m d ds) (hb : Below w.heap.size w w') : DS w' Q P T pts A n c xs now D m d ds :=
  h.grown (row := none) ⟨hb.os, hb.tape, hb.output, hb.size, fun k hk _ => hb.block k hk⟩ (fun e => by cases e) (fun e => by cases e) (fun e => by cases e) (fun e => by cases e) (fun a ha e => by cases e) (fun k hk e => by cases e)
theorem DS.alloc (h : DS w Q P T pts A n c xs now D m d ds) (o : Obj) : DS (w.alloc o) Q P T pts A n c xs now D m d ds := h.below ((Below.refl _ _).alloc (Nat.le_refl _) _)
theorem DS.drew (h : DS w Q P T pts A n c xs now D m d ds) : DS w.drew Q P T pts A n c xs now D m d ds := ⟨h.ps.drew, h.qp, h.pt, h.blk, own_drewN h.row 1, h.ap, h.pap, h.res, h.sz⟩
theorem Mv.rdOf {R : Nat} {B : Int} {w w1 : World} (h : Mv R B w w1) : Rd w1 R B := h.2
theorem drew_cell (w : World) (a : Addr) : w.drew.cell? a = w.cell? a := rfl
theorem set_grown (w : World) (q i : Nat) (v : Value) : w.grownBy (w.setCell ⟨q, i, none⟩ v) (some q) := ⟨rfl, rfl, rfl, by simp [World.setCell], fun k _ hk => Below.heap_setCell _ _ _ _ (fun e => hk (by rw [e]))⟩
/-- A number is written into the state's box. -/
theorem DS.setNow (h : DS w Q P T pts A n c xs now D m d ds) (now' : Int) : DS (w.setCell ⟨T, 0, none⟩ (.int .i64 now')) Q P T pts A n c xs now' D m d ds := by
  have h1 := h.qp
  have h2 := h.pt
  refine ⟨h.ps.far (by omega) (by omega) (fun a ha => (h.pap a ha).1) 0 _, h1, h2, ?_, own_keptZ h.row (set_grown w T 0 _) (fun k hk e => (h.ap k hk).2.1 (Option.some.inj e).symm), h.ap, h.pap, h.res.far (show Q + 1 ≠ T by omega) _, h.sz⟩
  have := h.blk.set_ 0 (.int .i64 now')
  simpa using this
/-- Another state is put into the box. -/
theorem DS.put (h : DS w Q P T pts A n c xs now D m d ds) (hrow : OwnZ w (Q + 2) D' m' d' ds') (hap : ∀ k, (Value.slice D' m' d').ownBlock = some k → k ≠ P ∧ k ≠ T ∧ ∀ a, A = some a → a.block ≠ k) (hsz : 1 ≤ m' ∧ m' ≤ 8) (now' : Int) :
    DS ((w.setCell ⟨T, 0, none⟩ (.int .i64 now')).setCell ⟨T, 1, none⟩ (.slice D' m' d')) Q P T pts A n c xs now' D' m' d' ds' := by
  have h1 := h.qp
  have h2 := h.pt
  refine ⟨(h.ps.far (by omega) (by omega) (fun a ha => (h.pap a ha).1) 0 _).far (by omega) (by omega) (fun a ha => (h.pap a ha).1) 1 _, h1, h2, ?_, own_keptZ (own_keptZ hrow (set_grown w T 0 _) (fun k hk e => (hap k hk).2.1 (Option.some.inj e).symm)) (set_grown _ T 1 _) (fun k hk e => (hap k hk).2.1 (Option.some.inj e).symm), hap, h.pap, (h.res.far (show Q + 1 ≠ T by omega) _).far (show Q + 1 ≠ T by omega) _, hsz⟩
  have := (h.blk.set_ 0 (.int .i64 now')).set_ 1 (.slice D' m' d')
  simpa using this
/-- A time is written. -/
theorem DS.setElem (h : DS w Q P T pts A n c xs now (some ⟨g, 0, none⟩) m d ds) (j : Nat) (v : Int) : DS (w.setCell ⟨g, j, none⟩ (.int .i64 v)) Q P T pts A n c xs now (some ⟨g, 0, none⟩) m d (ds.set j v) := by
  have hk := h.ap g rfl
  have hl := (h.row.lt g rfl).1
  refine ⟨h.ps.far hk.1 (by omega) hk.2.2 j _, h.qp, h.pt, h.blk.far (show T ≠ g from fun e => hk.2.1 e.symm) _, ?_, h.ap, h.pap, h.res.far (show Q + 1 ≠ g by omega) _, h.sz⟩
  have h1 := own_setZ h.row j (.int .i64 v)
  show World.ownsRow _ _ _ _ _ _ (vI _)
  rw [show vI (ds.set j v) = (vI ds).set j (.int .i64 v) by simp [vI, List.map_set]]
  exact h1
/-- The times have grown, and are stored. -/
theorem DS.app (h : DS W Q P T pts A n c xs now D m d ds) (hown : OwnZ wB (Q + 2) D' m' d' ds') (hgrow : W.grownBy wB (Value.slice D m d).ownBlock) (hat : (Value.slice D' m' d').ownBlock = (Value.slice D m d).ownBlock ∨ (Value.slice D' m' d').ownBlock = some W.heap.size) (hsz : 1 ≤ m' ∧ m' ≤ 8) :
    (wB.cell? ⟨T, 1, none⟩ = some (.slice D m d) ∧ wB.frozen? ⟨T, 1, none⟩ = false ∧ T < wB.heap.size) ∧ DS (wB.setCell ⟨T, 1, none⟩ (.slice D' m' d')) Q P T pts A n c xs now D' m' d' ds' := by
  have h1 := h.qp
  have h2 := h.pt
  have hTl := h.blk.lt
  have hb : Blk wB T 28 #[.int .i64 now, .slice D m d] := (hgrow.block T hTl (fun e => (h.ap T e.symm).2.1 rfl)).trans h.blk
  have hps : PS wB Q P pts A n c xs := h.ps.grown hgrow (fun e => (h.ap P e).1 rfl) (fun e => by have := (h.row.lt Q e).1; omega) (fun a ha e => (h.ap _ e).2.2 a ha rfl)
  have hres : Blk wB (Q + 1) 28 #[.int .i64 0, .slice none 0 0] := (hgrow.block (Q + 1) h.res.lt (fun e => by have := (h.row.lt (Q + 1) e.symm).1; omega)).trans h.res
  have hap : ∀ k, (Value.slice D' m' d').ownBlock = some k → k ≠ P ∧ k ≠ T ∧ ∀ a, A = some a → a.block ≠ k := fun k hk => by
    rcases hat with e | e
    · exact h.ap k (e.symm.trans hk)
    · have h5 : W.heap.size = k := Option.some.inj (e.symm.trans hk)
      have h6 := h.ps.blk.lt
      exact ⟨by omega, by omega, fun a ha => by have := (h.ps.ap a ha).2.2; omega⟩
  refine ⟨⟨(hb.cell 1).trans rfl, hb.frozen 1, hb.lt⟩, hps.far (by omega) (by omega) (fun a ha => (h.pap a ha).1) 1 _, h1, h2, ?_, own_keptZ hown (set_grown wB T 1 _) (fun k hk e => (hap k hk).2.1 (Option.some.inj e).symm), hap, h.pap, hres.far (show Q + 1 ≠ T by omega) _, hsz⟩
  have := hb.set_ 1 (.slice D' m' d')
  simpa using this
theorem DS.cells (h : DS w Q P T pts A n c xs now D m d ds) : w.cell? ⟨T, 0, none⟩ = some (.int .i64 now) ∧ w.cell? ⟨T, 1, none⟩ = some (.slice D m d) ∧ w.frozen? ⟨T, 0, none⟩ = false ∧ w.frozen? ⟨T, 1, none⟩ = false ∧ T < w.heap.size :=
  ⟨(h.blk.cell 0).trans rfl, (h.blk.cell 1).trans rfl, h.blk.frozen 0, h.blk.frozen 1, h.blk.lt⟩
/-- The results' boxes. -/
theorem DS.outs (h : DS w Q P T pts A n c xs now D m d ds) : w.cell? ⟨Q, 0, none⟩ = some (.int .i64 0) ∧ w.cell? ⟨Q, 1, none⟩ = some (.slice none 0 0) ∧ w.frozen? ⟨Q, 0, none⟩ = false ∧ w.frozen? ⟨Q, 1, none⟩ = false ∧ w.cell? ⟨Q + 1, 0, none⟩ = some (.int .i64 0) ∧ w.cell? ⟨Q + 1, 1, none⟩ = some (.slice none 0 0) ∧ w.frozen? ⟨Q + 1, 0, none⟩ = false ∧ w.frozen? ⟨Q + 1, 1, none⟩ = false ∧ Q + 1 < w.heap.size :=
  ⟨(h.ps.res.cell 0).trans rfl, (h.ps.res.cell 1).trans rfl, h.ps.res.frozen 0, h.ps.res.frozen 1, (h.res.cell 0).trans rfl, (h.res.cell 1).trans rfl, h.res.frozen 0, h.res.frozen 1, h.res.lt⟩
end
/-- What a draw of a plan and a state leaves. -/
def DoingMade (R : Nat) (B : Int) (w : World) (e : Ending) (w' : World) : Prop :=
  ∃ (pts : Int) (A : Option Addr) (n c : Nat) (xs : List Bd) (now : Int) (D : Option Addr) (m d : Nat) (ds : List Int), e = .returned (.tuple #[.agg #[.int .i64 pts, .slice A n c], .agg #[.int .i64 now, .slice D m d]]) ∧ (0 ≤ pts ∧ pts ≤ 7) ∧ (n ≤ c ∧ n ≤ 16) ∧ (m ≤ d ∧ m ≤ 8) ∧ BndsAt w' A n xs ∧ IntsAt w' D m ds ∧ (∀ a, A = some a → w.heap.size ≤ a.block ∧ a.block < w'.heap.size) ∧ (∀ a, D = some a → w.heap.size ≤ a.block ∧ a.block < w'.heap.size) ∧ Mv R (B + 200) w w'
theorem kDoing {Pr : Program} {f : FuncId} {args : Array Value} {w : World} {K : Ending → World → Prop} {R : Nat} {B : Int} (h : Calls Pr f args w (DoingMade R B w))
    (h1 : ∀ pts A n c xs now D m d ds w', (0 ≤ pts ∧ pts ≤ 7) → (n ≤ c ∧ n ≤ 16) → (m ≤ d ∧ m ≤ 8) → BndsAt w' A n xs → IntsAt w' D m ds → (∀ a, A = some a → w.heap.size ≤ a.block ∧ a.block < w'.heap.size) → (∀ a, D = some a → w.heap.size ≤ a.block ∧ a.block < w'.heap.size) → Mv R (B + 200) w w' → K (.returned (.tuple #[.agg #[.int .i64 pts, .slice A n c], .agg #[.int .i64 now, .slice D m d]])) w') : Calls Pr f args w K :=
  h.mono fun e w' ⟨pts, A, n, c, xs, now, D, m, d, ds, he, h2, h3, h4, h5, h6, h7, h8, h9⟩ => by subst he; exact h1 pts A n c xs now D m d ds w' h2 h3 h4 h5 h6 h7 h8 h9
theorem DoingMade.drewD {R : Nat} {B : Int} {w : World} {e : Ending} {w' : World} (h : DoingMade R B w e w') : DoingMade R B w e w'.drew := by
  obtain ⟨pts, A, n, c, xs, now, D, m, d, ds, he, h2, h3, h4, h5, h6, h7, h8, h9⟩ := h
  exact ⟨pts, A, n, c, xs, now, D, m, d, ds, he, h2, h3, h4, h5.drewN 1, h6.drewN 1, h7, h8, h9.drewN 1⟩
/-- The states' ways in: one way for both. -/
theorem kSnU {Pr : Program} {f : FuncId} {args : Array Value} {w : World} {K : Ending → World → Prop} {p : Int} {bs : List Bd} (h : Calls Pr f args w (SnV w p bs))
    (h1 : ∀ A' n' c' ds' w', Hid (FitsP p bs) → OwnZ w' w.heap.size A' n' c' ds' → (1 ≤ n' ∧ n' ≤ 7) → Below w.heap.size w w' → K (.returned (.tuple #[.agg #[.int .i64 0, .slice A' n' c'], .bool true])) w')
    (h0 : ∀ A' n' c' w', Hid (¬ FitsP p bs) → Below w.heap.size w w' → K (.returned (.tuple #[.agg #[.int .i64 0, .slice A' n' c'], .bool false])) w') : Calls Pr f args w K :=
  h.mono fun e w' h => by
    rcases h with ⟨hf, A', n', c', he, ho, hb⟩ | ⟨hf, A', n', c', he, ho, hb⟩
    · subst he
      obtain ⟨P, rfl, hP1, hP6⟩ := hf.1.nat
      have hl := OwnZ.len ho
      rw [show ((P : Int)).toNat = P from rfl, Ds0_len hP1] at hl
      exact h1 A' n' c' _ w' hf ho (by omega) hb
    · subst he; exact h0 A' n' c' w' hf hb

set_option maxRecDepth 100000 in
set_option maxHeartbeats 16000000 in
theorem l20Doing_any (R : Nat) (B n : Int) (w : World) (h : Rd w R B) (hB : B ≤ 900000000) (hn : 0 ≤ n ∧ n ≤ 1000) :
    Calls Try.prog 41 #[.pointer (some ⟨R, 0, none⟩), .int .i64 n] w (DoingMade R B w) := by
  have hR := h.lt
  have HQ0 := Lib.hid (show Blk ((w.alloc (.cells #[.int .i64 0, .slice none 0 0] 25)).alloc (.cells #[.int .i64 0, .slice none 0 0] 28)) w.heap.size 25 #[.int .i64 0, .slice none 0 0] from (Blk.new w _ _).below ((Below.refl _ _).alloc (Nat.le_refl _) _) (Blk.new w _ _).lt)
  have HX0 := Lib.hid (show Blk ((w.alloc (.cells #[.int .i64 0, .slice none 0 0] 25)).alloc (.cells #[.int .i64 0, .slice none 0 0] 28)) (w.heap.size + 1) 28 #[.int .i64 0, .slice none 0 0] from Blk.at_new (by simp) _ _)
  have HM0 := Lib.hid (show Mv R B w ((w.alloc (.cells #[.int .i64 0, .slice none 0 0] 25)).alloc (.cells #[.int .i64 0, .slice none 0 0] 28)) from ⟨grown_of_below (((Below.refl _ _).alloc (Nat.le_refl _) _).alloc (by simp) _) _, (h.alloc _).alloc _⟩)
  clear h
  go_enter Try.func41, Try.ntmps41
  go_wp2_with (fail)
  refine kMade (l20Joined_any R B 12 _ HM0.out.2 hB (by omega)) ?_
  intro pts A m c xs w1 hp0 hp7 hmc hm16 hrow1 hap1 hm1
  obtain ⟨Q, HQQ⟩ : ∃ q, Hid (w.heap.size = q) := ⟨_, rfl⟩
  have hRQ : R < Q := by have := HQQ.out; omega
  have HM1 := Lib.hid (HM0.out.trans hm1)
  have hQ1 : Blk w1 Q 25 #[.int .i64 0, .slice none 0 0] := HQQ.out ▸ (hm1.1.block _ HQ0.out.lt (fun e => by have := Option.some.inj e; omega)).trans HQ0.out
  have hX1 : Blk w1 (Q + 1) 28 #[.int .i64 0, .slice none 0 0] := HQQ.out ▸ (hm1.1.block _ HX0.out.lt (fun e => by have := Option.some.inj e; omega)).trans HX0.out
  obtain ⟨w2, HW2⟩ : ∃ q, Hid (w1.alloc (.cells #[.int .i64 pts, .slice A m c] 25) = q) := ⟨_, rfl⟩
  have hb2 : Below w1.heap.size w1 w2 := HW2.out ▸ (Below.refl _ _).alloc (Nat.le_refl _) _
  have hXl := hX1.lt
  have HP2 := Lib.hid (show PS w2 Q w1.heap.size pts A m c xs from ⟨hQ1.lt, HW2.out ▸ Blk.new _ _ _, hrow1.below hb2, fun a ha => by
      have h1 := hap1 a ha
      have h2 := HQQ.out
      simp at h1
      exact ⟨by omega, by omega, Nat.lt_of_lt_of_le h1.2 hb2.size⟩, ⟨hmc, hm16⟩, hQ1.below hb2 hQ1.lt⟩)
  have HX2 := Lib.hid (hX1.below hb2 hX1.lt)
  have HM2 := Lib.hid (HM1.out.below hb2)
  have HAQ := Lib.hid (show ∀ a, A = some a → a.block ≠ Q + 1 from fun a ha => by have h1 := (hap1 a ha).1; have h2 := HQQ.out; simp at h1; omega)
  clear hrow1 hap1 hm1 hb2 HQ0 HX0 HM0 hQ1 hX1
  obtain ⟨t0, t1, f0, f1, hPl⟩ := HP2.out.cells
  have HEND := Lib.hid (show ∀ (wz : World) (P : Nat) (pts : Int) (A : Option Addr) (m c : Nat) (xs : List Bd) (now : Int) (D : Option Addr) (l d : Nat) (ds : List Int) (Bz : Int), 0 ≤ pts → pts ≤ 7 → PS wz Q P pts A m c xs → (∀ a, A = some a → a.block ≠ Q + 1) → OwnZ wz (Q + 2) D l d ds → l ≤ 8 → Mv R Bz w wz → Bz ≤ B + 200 → DoingMade R B w (.returned (.tuple #[.agg #[.int .i64 pts, .slice A m c], .agg #[.int .i64 now, .slice D l d]])) ((((wz.setCell ⟨Q, 0, none⟩ (.int .i64 pts)).setCell ⟨Q, 1, none⟩ (.slice A m c)).setCell ⟨Q + 1, 0, none⟩ (.int .i64 now)).setCell ⟨Q + 1, 1, none⟩ (.slice D l d)) from fun wz P pts A m c xs now D l d ds Bz hp0 hp7 hp hpa hr hl hm hz => by
    have hq := HQQ.out
    have hD : ∀ a, D = some a → Q + 2 ≤ a.block ∧ a.block < wz.heap.size := fun a ha => hr.lt a.block (by subst ha; rfl)
    refine ⟨pts, A, m, c, xs, now, D, l, d, ds, rfl, ⟨hp0, hp7⟩, hp.room, ⟨OwnZ.cap hr, hl⟩, ?_, ?_, fun a ha => ?_, fun a ha => ?_, ?_⟩
    · exact (((hp.row.setCell (q := ⟨Q, 0, none⟩) (fun a ha => by have := (hp.ap a ha).1; simp; omega) _).setCell (q := ⟨Q, 1, none⟩) (fun a ha => by have := (hp.ap a ha).1; simp; omega) _).setCell (q := ⟨Q + 1, 0, none⟩) (fun a ha => hpa a ha) _).setCell (q := ⟨Q + 1, 1, none⟩) (fun a ha => hpa a ha) _
    · exact ((((OwnZ.at_ hr).setCell (q := ⟨Q, 0, none⟩) (fun a ha => by have := (hD a ha).1; simp; omega) _).setCell (q := ⟨Q, 1, none⟩) (fun a ha => by have := (hD a ha).1; simp; omega) _).setCell (q := ⟨Q + 1, 0, none⟩) (fun a ha => by have := (hD a ha).1; simp; omega) _).setCell (q := ⟨Q + 1, 1, none⟩) (fun a ha => by have := (hD a ha).1; simp; omega) _
    · have h5 := hp.ap a ha; exact ⟨by omega, by simp [World.setCell]; exact h5.2.2⟩
    · have h5 := hD a ha; exact ⟨by omega, by simp [World.setCell]; exact h5.2⟩
    · exact ((((hm.setNew (P := Q) (by omega) hR 0 _).setNew (P := Q) (by omega) hR 1 _).setNew (P := Q + 1) (by omega) hR 0 _).setNew (P := Q + 1) (by omega) hR 1 _).mono hz)
  go_wp2_with (fail)
  rw [HW2.out]
  obtain ⟨P, HPP⟩ : ∃ q, Hid (w1.heap.size = q) := ⟨_, rfl⟩
  rw [HPP.out] at HP2 t0 t1 f0 f1 hPl hXl ⊢
  rw [HQQ.out]
  refine kSnU (sStateNew_any pts A m c xs _ HP2.out.row (by omega)) ?_ ?_
  rotate_left
  · intro A' n' c' w3 hf hb3
    have HP3 := Lib.hid (HP2.out.below hb3)
    have HX3 := Lib.hid (HX2.out.below hb3 HX2.out.lt)
    have HM3 := Lib.hid (HM2.out.below hb3)
    have t0 := keep hb3 t0
    have t1 := keep hb3 t1
    have q0 := (HP3.out.res.cell 0).trans rfl
    have q1 := (HP3.out.res.cell 1).trans rfl
    have qf0 := HP3.out.res.frozen 0
    have qf1 := HP3.out.res.frozen 1
    have x0 := (HX3.out.cell 0).trans rfl
    have x1 := (HX3.out.cell 1).trans rfl
    have xf0 := HX3.out.frozen 0
    have xf1 := HX3.out.frozen 1
    have hxl := HX3.out.lt
    have hPl3 := HP3.out.blk.lt
    have hql3 := HP3.out.res.lt
    clear hb3
    go_wp2_with (fail)
    have hq := HQQ.out
    have hsz : ((((w3.setCell ⟨Q, 0, none⟩ (.int .i64 pts)).setCell ⟨Q, 1, none⟩ (.slice A m c)).setCell ⟨Q + 1, 0, none⟩ (.int .i64 0)).setCell ⟨Q + 1, 1, none⟩ (.slice (some ⟨w3.heap.size + 1, 0, none⟩) 1 1)).heap.size = w3.heap.size := by simp [World.setCell]
    have hbz : Below w3.heap.size ((((w3.setCell ⟨Q, 0, none⟩ (.int .i64 pts)).setCell ⟨Q, 1, none⟩ (.slice A m c)).setCell ⟨Q + 1, 0, none⟩ (.int .i64 0)).setCell ⟨Q + 1, 1, none⟩ (.slice (some ⟨w3.heap.size + 1, 0, none⟩) 1 1)) ((((((w3.setCell ⟨Q, 0, none⟩ (.int .i64 pts)).setCell ⟨Q, 1, none⟩ (.slice A m c)).setCell ⟨Q + 1, 0, none⟩ (.int .i64 0)).setCell ⟨Q + 1, 1, none⟩ (.slice (some ⟨w3.heap.size + 1, 0, none⟩) 1 1)).alloc (.cells #[.int .i64 0, .slice A' n' c'] 28)).alloc (.cells #[.int .i64 0] 3)) := ((Below.refl _ _).alloc (Nat.le_of_eq hsz.symm) _).alloc (by simp [World.setCell]) _
    refine bodyPost_ret (v := .tuple #[.agg #[.int .i64 pts, .slice A m c], .agg #[.int .i64 0, .slice (some ⟨w3.heap.size + 1, 0, none⟩) 1 1]]) (by simp [results, Try.results41, go_sem, q0, q1, x0, x1, hxl, hql3]) rfl ⟨pts, A, m, c, xs, 0, some ⟨w3.heap.size + 1, 0, none⟩, 1, 1, [0], rfl, ⟨hp0, hp7⟩, ⟨hmc, hm16⟩, ⟨Nat.le_refl _, by omega⟩, ?_, ⟨rfl, fun _ => ⟨_, 0, rfl, fun j hj => ?_⟩⟩, fun a ha => ?_, fun a ha => ?_, ?_⟩
    · exact (((((HP3.out.row.setCell (q := ⟨Q, 0, none⟩) (fun a ha => by have := (HP3.out.ap a ha).1; simp; omega) _).setCell (q := ⟨Q, 1, none⟩) (fun a ha => by have := (HP3.out.ap a ha).1; simp; omega) _).setCell (q := ⟨Q + 1, 0, none⟩) (fun a ha => HAQ.out a ha) _).setCell (q := ⟨Q + 1, 1, none⟩) (fun a ha => HAQ.out a ha) _).below ((Below.refl _ _).alloc (Nat.le_refl _) _)).below ((Below.refl _ _).alloc (Nat.le_refl _) _)
    · obtain rfl : j = 0 := by omega
      exact ((Blk.at_new (q := w3.heap.size + 1) (by simp [World.setCell]) 3 #[.int .i64 0]).cell 0).trans rfl
    · have h5 := HP3.out.ap a ha; exact ⟨by omega, by simp [World.setCell]; omega⟩
    · cases ha; exact ⟨by simp; omega, by simp [World.setCell]⟩
    · exact (((((((HM3.out.setNew (P := Q) (by omega) hR 0 _).setNew (P := Q) (by omega) hR 1 _).setNew (P := Q + 1) (by omega) hR 0 _).setNew (P := Q + 1) (by omega) hR 1 _).alloc _).alloc _).mono (by omega))
  · intro D l d ds w3 hf hown hl3 hb3
    have HP3 := Lib.hid (HP2.out.below hb3)
    have HX3 := Lib.hid (HX2.out.below hb3 HX2.out.lt)
    have HM3 := Lib.hid (HM2.out.below hb3)
    obtain ⟨w4, HW4⟩ : ∃ q, Hid (w3.alloc (.cells #[.int .i64 0, .slice D l d] 28) = q) := ⟨_, rfl⟩
    have hb4 : Below w3.heap.size w3 w4 := HW4.out ▸ (Below.refl _ _).alloc (Nat.le_refl _) _
    have hw23 := hb3.size
    have hDl := fun k hk => hown.lt k hk
    have HDS := Lib.hid (show DS w4 Q P w3.heap.size pts A m c xs 0 D l d ds from ⟨HP3.out.below hb4, hXl, Nat.lt_of_lt_of_le hPl hw23, HW4.out ▸ Blk.new _ _ _, own_base (own_below hown hb4) (by omega), fun k hk => by
        have h1 := hDl k hk
        exact ⟨by omega, by omega, fun a ha => by have := (HP2.out.ap a ha).2.2; omega⟩, fun a ha => ⟨by have := (HP3.out.ap a ha).2.2; omega, HAQ.out a ha⟩, HX3.out.below hb4 HX3.out.lt, by omega⟩)
    have HM4 := Lib.hid (HM3.out.below hb4)
    clear hown hb3 hb4 hDl HP3 HX3 HM3 HP2 HX2 HM2 t0 t1 f0 f1
    go_wp2_with (fail)
    rw [HW4.out]
    obtain ⟨T, HTT⟩ : ∃ q, Hid (w3.heap.size = q) := ⟨_, rfl⟩
    rw [HTT.out] at HDS ⊢
    refine kPick (pick_any R _ 6 _ HM4.out.2 (by omega)) ?_
    intro k0 w5 hq1 hq2 hm5 hs5
    obtain ⟨hk0, hk1⟩ := hq1 (by omega)
    have HDS5 := Lib.hid (HDS.out.mv hRQ hm5)
    have HM5 := Lib.hid (HM4.out.trans hm5)
    clear hq1 hq2 hm5 hs5 HDS HM4
    go_wp2_with (fail)
    go_loopw [9] (fun i wr => ∃ (k now : Int) (D : Option Addr) (l d : Nat) (ds : List Int), 0 ≤ k ∧ k ≤ 5 ∧ l ≤ 7 ∧ i = .int .i64 k ∧ DS wr Q P T pts A m c xs now D l d ds ∧ Mv R (B + 116 - 3 * k) w wr) (fun i _ => (intOf i).toNat)
    case atStart => exact ⟨k0, 0, D, l, d, ds, hk0, by omega, hl3.2, rfl, HDS5.out, HM5.out.mono (by omega)⟩
    case round =>
      obtain ⟨wo, rfl⟩ : ∃ wo : World, wo = wr := ⟨_, rfl⟩
      clear HDS5 HM5
      obtain ⟨k, now, D, l, d, ds, hk0', hk5, hl7, rfl, hds, hm⟩ := hrel
      have HD := Lib.hid hds
      have HM := Lib.hid hm
      clear hds hm
      obtain ⟨t0, t1, f0, f1, hPl⟩ := HD.out.ps.cells
      obtain ⟨s0, s1, g0, g1, hTl⟩ := HD.out.cells
      by_cases hkp : 0 < k
      · go_wp2_with (fail)
        refine kPick (pick_any R _ pts _ HM.out.2 (by omega)) ?_
        intro pt w6 hq1 hq2 hm6 hs6
        have HD6 := Lib.hid (HD.out.mv hRQ hm6)
        have HM6 := Lib.hid (HM.out.trans hm6)
        clear hq1 hq2 hm6 hs6 t0 t1 f0 f1 hPl s0 s1 g0 g1 hTl
        obtain ⟨t0, t1, f0, f1, hPl⟩ := HD6.out.ps.cells
        obtain ⟨s0, s1, g0, g1, hTl⟩ := HD6.out.cells
        go_wp2_with (fail)
        refine kWinU (sWindowOf_any pts A m c xs now D l d ds pt _ HD6.out.ps.row (OwnZ.at_ HD6.out.row) (by omega)) ?_
        intro lo hi ok w7 hb7
        have HD7 := Lib.hid (HD6.out.below hb7)
        have HM7 := Lib.hid (HM6.out.below hb7)
        clear hb7 t0 t1 f0 f1 hPl s0 s1 g0 g1 hTl
        go_upto_region 11 with fail
        go_cut [61] from 31 to 79 (fun s wx => ∃ b : Bool, s = .bool b ∧ DS wx Q P T pts A m c xs now D l d ds ∧ Mv R (B + 118 - 3 * k) w wx)
        case first =>
          go_wp2_with (fail)
          refine kPick (pick_any R _ 2 _ HM7.out.2 (by omega)) ?_
          intro x w8 hq1 hq2 hm8 hs8
          have HD8 := Lib.hid (HD7.out.mv hRQ hm8)
          have HM8 := Lib.hid (HM7.out.trans hm8)
          clear hq1 hq2 hm8 hs8
          by_cases hx : x = 0
          · subst hx
            go_wp2_with (fail)
            all_goals
              go_meet
              exact ⟨_, rfl, HD8.out, HM8.out.mono (by omega)⟩
          · have hxb : (x == 0) = false := by simpa using hx
            go_wp2_with (fail)
            go_meet
            exact ⟨_, rfl, HD8.out, HM8.out.mono (by omega)⟩
        case rest =>
          obtain ⟨b, rfl, hd8, hm8⟩ := hcut
          have HD8 := Lib.hid hd8
          have HM8 := Lib.hid hm8
          clear hd8 hm8
          go_upto_if 61 with fail
          go_cut [14] from 31 to 79 (fun s wx => ∃ t : Int, s = .int .i64 t ∧ DS wx Q P T pts A m c xs now D l d ds ∧ Mv R (B + 119 - 3 * k) w wx)
          case first =>
            cases b with
            | true =>
              go_wp2_with (fail)
              refine kPick (pick_any R _ _ _ HM8.out.2 (by omega)) ?_
              intro x w9 hq1 hq2 hm9 hs9
              have HD9 := Lib.hid (HD8.out.mv hRQ hm9)
              have HM9 := Lib.hid (HM8.out.trans hm9)
              clear hq1 hq2 hm9 hs9
              go_wp2_with (fail)
              go_meet
              exact ⟨_, rfl, HD9.out, HM9.out.mono (by omega)⟩
            | false =>
              go_wp2_with (fail)
              go_meet
              exact ⟨_, rfl, HD8.out, HM8.out.mono (by omega)⟩
          case rest =>
            obtain ⟨t, rfl, hd9, hm9⟩ := hcut
            have HD9 := Lib.hid hd9
            have HM9 := Lib.hid hm9
            clear hd9 hm9 HD8 HM8
            obtain ⟨t0, t1, f0, f1, hPl⟩ := HD9.out.ps.cells
            obtain ⟨s0, s1, g0, g1, hTl⟩ := HD9.out.cells
            have hl8 := HD9.out.sz.2
            go_wp2_with (fail)
            refine kDo (DoAt_any pts A m c xs now D l d ds pt t _ HD9.out.ps.row (OwnZ.at_ HD9.out.row) (by omega) (by omega)) ?_
            intro now' D' l' d' ds' ok' w10 hown hll hb10
            have HD10 := Lib.hid (HD9.out.below hb10)
            have HM10 := Lib.hid (HM9.out.below hb10)
            have hPl9 := HD9.out.ps.blk.lt
            have hTl9 := HD9.out.blk.lt
            have HOX := Lib.hid (show OwnZ w10 (Q + 2) D' l' d' ds' from own_base hown (by omega))
            have HKX := Lib.hid (show ∀ k, (Value.slice D' l' d').ownBlock = some k → k ≠ P ∧ k ≠ T ∧ ∀ a, A = some a → a.block ≠ k from fun k hk => by
              have h1 := (hown.lt k hk).1
              exact ⟨by omega, by omega, fun a ha => by have := (HD9.out.ps.ap a ha).2.2; omega⟩)
            clear hown hb10 t0 t1 f0 f1 hPl s0 s1 g0 g1 hTl
            obtain ⟨s0, s1, g0, g1, hTl⟩ := HD10.out.cells
            cases ok' with
            | true =>
              have hll' := hll.out rfl
              have HDN := Lib.hid ((HD10.out.put HOX.out HKX.out (by have := HD10.out.sz; omega) now').alloc (.cells #[.int .i64 now', .slice D' l' d'] 28))
              have HMN := Lib.hid (((HM10.out.setNew (P := T) (by have := HD10.out.qp; have := HD10.out.pt; have := HQQ.out; omega) hR 0 (.int .i64 now')).setNew (P := T) (by have := HD10.out.qp; have := HD10.out.pt; have := HQQ.out; omega) hR 1 (.slice D' l' d')).alloc (.cells #[.int .i64 now', .slice D' l' d'] 28))
              have HLL := Lib.hid hll'
              clear hll'
              go_wp2_with (fail)
              go_roundw
              case rel => exact ⟨k - 1, now', D', l', d', ds', by omega, by omega, HLL.out.symm ▸ hl7, by go_num, HDN.out, HMN.out.mono (by omega)⟩
              case measure => simp [intOf]; omega
            | false =>
              have HDN := Lib.hid (HD10.out.alloc (.cells #[.int .i64 now', .slice D' l' d'] 28))
              have HMN := Lib.hid (HM10.out.alloc (.cells #[.int .i64 now', .slice D' l' d'] 28))
              go_wp2_with (fail)
              go_roundw
              case rel => exact ⟨k - 1, _, _, _, _, _, by omega, by omega, hl7, by go_num, HDN.out, HMN.out.mono (by omega)⟩
              case measure => simp [intOf]; omega
      · obtain rfl : k = 0 := by omega
        have hqT : w.heap.size ≤ T := by have := HD.out.qp; have := HD.out.pt; have := HQQ.out; omega
        clear t0 t1 f0 f1 hPl s0 s1 g0 g1 hTl
        go_wp2_with (fail)
        refine (odd_any R _ n _ HM.out.2 (by omega) hn).mono ?_
        rintro e w6 ⟨bo, rfl, hm6, hs6⟩
        have HD6 := Lib.hid (HD.out.mv hRQ hm6)
        have HM6 := Lib.hid (HM.out.trans hm6)
        clear hm6 hs6 HD HM
        cases bo with
        | false =>
          go_wp2_with (fail)
          obtain ⟨t0, t1, f0, f1, hPl⟩ := HD6.out.ps.cells
          obtain ⟨s0, s1, g0, g1, hTl⟩ := HD6.out.cells
          obtain ⟨q0, q1, qf0, qf1, x0, x1, xf0, xf1, hxl⟩ := HD6.out.outs
          have hql : Q < w6.heap.size := by omega
          have hqp := HD6.out.qp
          have hpt := HD6.out.pt
          refine wp_region_held_drew (S := (fun w' => w'.cell? ⟨P, 0, none⟩ = some (.int .i64 pts) ∧ w'.cell? ⟨P, 1, none⟩ = some (.slice A m c) ∧ w'.cell? ⟨T, 0, none⟩ = some (.int .i64 (now)) ∧ w'.cell? ⟨T, 1, none⟩ = some (.slice D l d))) (by kernel_rfl) ?_ (fun hHeld => ?_)
          · exact ⟨t0, t1, s0, s1⟩
          refine wpAnyH_take (i := 0) (oi := _) (v := ?_) rfl (by kernel_rfl) (by kernel_rfl) (by kernel_rfl) (fun _ _ _ h => h) (Or.inl ⟨by kernel_rfl, ?_⟩) (by assumption) ?_
          rotate_left
          · (intro w hSw; (try dsimp only at hSw); go_simp; (try with_reducible rfl))
          try simp only [Act.put, List.getElem_toArray, List.getElem_cons_succ, List.getElem_cons_zero, List.setIfInBounds_toArray, List.set_cons_zero, List.set_cons_succ]
          refine wpAnyH_take (i := 1) (oi := _) (v := ?_) rfl (by kernel_rfl) (by kernel_rfl) (by kernel_rfl) (fun _ _ _ h => h) (Or.inl ⟨by kernel_rfl, ?_⟩) (by assumption) ?_
          rotate_left
          · (intro w hSw; (try dsimp only at hSw); go_simp; (try with_reducible rfl))
          try simp only [Act.put, List.getElem_toArray, List.getElem_cons_succ, List.getElem_cons_zero, List.setIfInBounds_toArray, List.set_cons_zero, List.set_cons_succ]
          refine wpAnyH_ready (rs := [2]) (by kernel_rfl) (by simp) ?_
          refine AllReadyH.cons (o := _) rfl (fun K hK => ?_) (AllReadyH.nil)
          go_simp
          refine hK.out _ _ ?_ (fun hHeld => ?_)
          · (refine ⟨?_, ?_, ?_, ?_⟩ <;> (try rw [drew_cell]) <;> (repeat rw [World.cell?_setCell_far _ _ _ _ (by simp <;> omega)]) <;> first | with_reducible exact t0 | with_reducible exact t1 | with_reducible exact s0 | with_reducible exact s1)
          clear hK K
          try simp only [Act.put, List.getElem_toArray, List.getElem_cons_succ, List.getElem_cons_zero, List.setIfInBounds_toArray, List.set_cons_zero, List.set_cons_succ]
          refine wpAnyH_ready (rs := [3]) (by kernel_rfl) (by simp) ?_
          refine AllReadyH.cons (o := _) rfl (fun K hK => ?_) (AllReadyH.nil)
          go_simp
          refine hK.out _ _ ?_ (fun hHeld => ?_)
          · (refine ⟨?_, ?_, ?_, ?_⟩ <;> (try rw [drew_cell]) <;> (repeat rw [World.cell?_setCell_far _ _ _ _ (by simp <;> omega)]) <;> first | with_reducible exact t0 | with_reducible exact t1 | with_reducible exact s0 | with_reducible exact s1)
          clear hK K
          try simp only [Act.put, List.getElem_toArray, List.getElem_cons_succ, List.getElem_cons_zero, List.setIfInBounds_toArray, List.set_cons_zero, List.set_cons_succ]
          refine wpAnyH_done (by kernel_rfl) ?_ _
          go_wp2_with (fail)
          refine bodyPost_ret (v := .tuple #[.agg #[.int .i64 pts, .slice A m c], .agg #[.int .i64 (now), .slice D l d]]) (by simp [results, Try.results41, go_sem, q0, q1, x0, x1, hql, hxl]) rfl ?_
          exact DoingMade.drewD (HEND.out w6 P pts A m c xs (now) D l d ds _ hp0 hp7 HD6.out.ps (fun a ha => (HD6.out.pap a ha).2) HD6.out.row HD6.out.sz.2 HM6.out (by omega))
        | true =>
          go_wp2_with (fail)
          refine kPick (pick_any R _ 4 _ HM6.out.2 (by omega)) ?_
          intro y w7 hq1 hq2 hm7 hs7
          obtain ⟨hy0, hy1⟩ := hq1 (by omega)
          have HD7 := Lib.hid (HD6.out.mv hRQ hm7)
          have HM7 := Lib.hid (HM6.out.trans hm7)
          have hl1 := HD7.out.sz.1
          have hl8 := HD7.out.sz.2
          clear hq1 hq2 hm7 hs7 HD6 HM6
          obtain ⟨s0, s1, g0, g1, hTl⟩ := HD7.out.cells
          have hy : y = 0 ∨ y = 1 ∨ y = 2 ∨ y = 3 := by omega
          rcases hy with rfl | rfl | rfl | rfl
          · clear hy0 hy1
            go_wp2_with (fail)
            refine wp_region_held_drew (S := (fun _ => True)) (by kernel_rfl) ?_ (fun hHeld => ?_)
            · trivial
            refine wpAnyH_take (i := 0) (oi := _) (v := ?_) rfl (by kernel_rfl) (by kernel_rfl) (by kernel_rfl) (fun _ _ _ h => h) (Or.inl ⟨by kernel_rfl, ?_⟩) (by assumption) ?_
            rotate_left
            · (intro w hSw; (try dsimp only at hSw); go_simp; (try with_reducible rfl))
            try simp only [Act.put, List.getElem_toArray, List.getElem_cons_succ, List.getElem_cons_zero, List.setIfInBounds_toArray, List.set_cons_zero, List.set_cons_succ]
            refine wpAnyH_take (i := 2) (oi := _) (v := ?_) rfl (by kernel_rfl) (by kernel_rfl) (by kernel_rfl) (fun _ _ _ h => h) (Or.inl ⟨by kernel_rfl, ?_⟩) (by assumption) ?_
            rotate_left
            · (intro w hSw; (try dsimp only at hSw); go_simp; (try with_reducible rfl))
            try simp only [Act.put, List.getElem_toArray, List.getElem_cons_succ, List.getElem_cons_zero, List.setIfInBounds_toArray, List.set_cons_zero, List.set_cons_succ]
            refine wpAnyH_ready (rs := [1, 3]) (by kernel_rfl) (by simp) ?_
            refine AllReadyH.cons (o := _) rfl (fun K hK => ?_) (AllReadyH.cons (o := _) rfl (fun K hK => ?_) (AllReadyH.nil))
            · go_simp
              refine hK.out _ _ ?_ (fun hHeld => ?_)
              · trivial
              clear hK K
              try simp only [Act.put, List.getElem_toArray, List.getElem_cons_succ, List.getElem_cons_zero, List.setIfInBounds_toArray, List.set_cons_zero, List.set_cons_succ]
              refine wpAnyH_ready (rs := [3]) (by kernel_rfl) (by simp) ?_
              refine AllReadyH.cons (o := _) rfl (fun K hK => ?_) (AllReadyH.nil)
              go_simp
              go_at_call 73; with_reducible refine kPick (pick_any R _ 12 _ (Mv.rdDr HM7.out) (by omega)) ?_
              intro z w8 hq1 hq2 hm8 hs8
              have HD8 := Lib.hid (DS.mv HD7.out.drew hRQ hm8)
              have HM8 := Lib.hid (Mv.trans (Mv.drewDr HM7.out) hm8)
              obtain ⟨v0, v1, y0, y1, hTl8⟩ := HD8.out.cells
              clear hq1 hq2 hm8 hs8
              go_wp2_with fail
              refine hK.out _ _ ?_ (fun hHeld => ?_)
              · trivial
              clear hK K
              try simp only [Act.put, List.getElem_toArray, List.getElem_cons_succ, List.getElem_cons_zero, List.setIfInBounds_toArray, List.set_cons_zero, List.set_cons_succ]
              refine wpAnyH_take (i := 4) (oi := _) (v := ?_) rfl (by kernel_rfl) (by kernel_rfl) (by kernel_rfl) (fun _ _ _ h => h) (Or.inl ⟨by kernel_rfl, ?_⟩) (by assumption) ?_
              rotate_left
              · (intro w hSw; (try dsimp only at hSw); go_simp; (try with_reducible rfl))
              try simp only [Act.put, List.getElem_toArray, List.getElem_cons_succ, List.getElem_cons_zero, List.setIfInBounds_toArray, List.set_cons_zero, List.set_cons_succ]
              refine wpAnyH_take (i := 5) (oi := _) (v := ?_) rfl (by kernel_rfl) (by kernel_rfl) (by kernel_rfl) (fun _ _ _ h => h) (Or.inl ⟨by kernel_rfl, ?_⟩) (by assumption) ?_
              rotate_left
              · (intro w hSw; (try dsimp only at hSw); go_simp; (try with_reducible rfl))
              try simp only [Act.put, List.getElem_toArray, List.getElem_cons_succ, List.getElem_cons_zero, List.setIfInBounds_toArray, List.set_cons_zero, List.set_cons_succ]
              refine wpAnyH_ready (rs := [6]) (by kernel_rfl) (by simp) ?_
              refine AllReadyH.cons (o := _) rfl (fun K hK => ?_) (AllReadyH.nil)
              go_simp
              refine hK.out _ _ ?_ (fun hHeld => ?_)
              · trivial
              clear hK K
              try simp only [Act.put, List.getElem_toArray, List.getElem_cons_succ, List.getElem_cons_zero, List.setIfInBounds_toArray, List.set_cons_zero, List.set_cons_succ]
              refine wpAnyH_done (by kernel_rfl) ?_ _
              go_upto_region 25 with fail
              obtain ⟨wz, HWZ⟩ : ∃ q, Hid (w8.setCell ⟨T, 0, none⟩ (.int .i64 (IntKind.i64.wrap (now + z))) = q) := ⟨_, rfl⟩
              rw [HWZ.out]
              have HDZ := Lib.hid (show DS wz Q P T pts A m c xs (IntKind.i64.wrap (now + z)) D l d ds from HWZ.out ▸ HD8.out.setNow _)
              have HMZ := Lib.hid (show Mv R (B + 120) w wz from HWZ.out ▸ (HM8.out.setNew (P := T) hqT hR 0 _).mono (by omega))
              clear v0 v1 y0 y1 hTl8 s0 s1 g0 g1 hTl
              obtain ⟨t0, t1, f0, f1, hPl⟩ := HDZ.out.ps.cells
              obtain ⟨s0, s1, g0, g1, hTl⟩ := HDZ.out.cells
              obtain ⟨q0, q1, qf0, qf1, x0, x1, xf0, xf1, hxl⟩ := HDZ.out.outs
              have hql : Q < wz.heap.size := by omega
              have hqp := HDZ.out.qp
              have hpt := HDZ.out.pt
              refine wp_region_held_drew (S := (fun w' => w'.cell? ⟨P, 0, none⟩ = some (.int .i64 pts) ∧ w'.cell? ⟨P, 1, none⟩ = some (.slice A m c) ∧ w'.cell? ⟨T, 0, none⟩ = some (.int .i64 (IntKind.i64.wrap (now + z))) ∧ w'.cell? ⟨T, 1, none⟩ = some (.slice D l d))) (by kernel_rfl) ?_ (fun hHeld => ?_)
              · exact ⟨t0, t1, s0, s1⟩
              refine wpAnyH_take (i := 0) (oi := _) (v := ?_) rfl (by kernel_rfl) (by kernel_rfl) (by kernel_rfl) (fun _ _ _ h => h) (Or.inl ⟨by kernel_rfl, ?_⟩) (by assumption) ?_
              rotate_left
              · (intro w hSw; (try dsimp only at hSw); go_simp; (try with_reducible rfl))
              try simp only [Act.put, List.getElem_toArray, List.getElem_cons_succ, List.getElem_cons_zero, List.setIfInBounds_toArray, List.set_cons_zero, List.set_cons_succ]
              refine wpAnyH_take (i := 1) (oi := _) (v := ?_) rfl (by kernel_rfl) (by kernel_rfl) (by kernel_rfl) (fun _ _ _ h => h) (Or.inl ⟨by kernel_rfl, ?_⟩) (by assumption) ?_
              rotate_left
              · (intro w hSw; (try dsimp only at hSw); go_simp; (try with_reducible rfl))
              try simp only [Act.put, List.getElem_toArray, List.getElem_cons_succ, List.getElem_cons_zero, List.setIfInBounds_toArray, List.set_cons_zero, List.set_cons_succ]
              refine wpAnyH_ready (rs := [2]) (by kernel_rfl) (by simp) ?_
              refine AllReadyH.cons (o := _) rfl (fun K hK => ?_) (AllReadyH.nil)
              go_simp
              refine hK.out _ _ ?_ (fun hHeld => ?_)
              · (refine ⟨?_, ?_, ?_, ?_⟩ <;> (try rw [drew_cell]) <;> (repeat rw [World.cell?_setCell_far _ _ _ _ (by simp <;> omega)]) <;> first | with_reducible exact t0 | with_reducible exact t1 | with_reducible exact s0 | with_reducible exact s1)
              clear hK K
              try simp only [Act.put, List.getElem_toArray, List.getElem_cons_succ, List.getElem_cons_zero, List.setIfInBounds_toArray, List.set_cons_zero, List.set_cons_succ]
              refine wpAnyH_ready (rs := [3]) (by kernel_rfl) (by simp) ?_
              refine AllReadyH.cons (o := _) rfl (fun K hK => ?_) (AllReadyH.nil)
              go_simp
              refine hK.out _ _ ?_ (fun hHeld => ?_)
              · (refine ⟨?_, ?_, ?_, ?_⟩ <;> (try rw [drew_cell]) <;> (repeat rw [World.cell?_setCell_far _ _ _ _ (by simp <;> omega)]) <;> first | with_reducible exact t0 | with_reducible exact t1 | with_reducible exact s0 | with_reducible exact s1)
              clear hK K
              try simp only [Act.put, List.getElem_toArray, List.getElem_cons_succ, List.getElem_cons_zero, List.setIfInBounds_toArray, List.set_cons_zero, List.set_cons_succ]
              refine wpAnyH_done (by kernel_rfl) ?_ _
              go_wp2_with (fail)
              refine bodyPost_ret (v := .tuple #[.agg #[.int .i64 pts, .slice A m c], .agg #[.int .i64 (IntKind.i64.wrap (now + z)), .slice D l d]]) (by simp [results, Try.results41, go_sem, q0, q1, x0, x1, hql, hxl]) rfl ?_
              exact DoingMade.drewD (HEND.out wz P pts A m c xs (IntKind.i64.wrap (now + z)) D l d ds _ hp0 hp7 HDZ.out.ps (fun a ha => (HDZ.out.pap a ha).2) HDZ.out.row HDZ.out.sz.2 HMZ.out (by omega))
            · go_simp
              go_at_call 73; with_reducible refine kPick (pick_any R _ 12 _ (Mv.rdDr HM7.out) (by omega)) ?_
              intro z w8 hq1 hq2 hm8 hs8
              have HD8 := Lib.hid (DS.mv HD7.out.drew hRQ hm8)
              have HM8 := Lib.hid (Mv.trans (Mv.drewDr HM7.out) hm8)
              obtain ⟨v0, v1, y0, y1, hTl8⟩ := HD8.out.cells
              clear hq1 hq2 hm8 hs8
              go_wp2_with fail
              refine hK.out _ _ ?_ (fun hHeld => ?_)
              · trivial
              clear hK K
              try simp only [Act.put, List.getElem_toArray, List.getElem_cons_succ, List.getElem_cons_zero, List.setIfInBounds_toArray, List.set_cons_zero, List.set_cons_succ]
              refine wpAnyH_ready (rs := [1]) (by kernel_rfl) (by simp) ?_
              refine AllReadyH.cons (o := _) rfl (fun K hK => ?_) (AllReadyH.nil)
              go_simp
              refine hK.out _ _ ?_ (fun hHeld => ?_)
              · trivial
              clear hK K
              try simp only [Act.put, List.getElem_toArray, List.getElem_cons_succ, List.getElem_cons_zero, List.setIfInBounds_toArray, List.set_cons_zero, List.set_cons_succ]
              refine wpAnyH_take (i := 4) (oi := _) (v := ?_) rfl (by kernel_rfl) (by kernel_rfl) (by kernel_rfl) (fun _ _ _ h => h) (Or.inl ⟨by kernel_rfl, ?_⟩) (by assumption) ?_
              rotate_left
              · (intro w hSw; (try dsimp only at hSw); go_simp; (try with_reducible rfl))
              try simp only [Act.put, List.getElem_toArray, List.getElem_cons_succ, List.getElem_cons_zero, List.setIfInBounds_toArray, List.set_cons_zero, List.set_cons_succ]
              refine wpAnyH_take (i := 5) (oi := _) (v := ?_) rfl (by kernel_rfl) (by kernel_rfl) (by kernel_rfl) (fun _ _ _ h => h) (Or.inl ⟨by kernel_rfl, ?_⟩) (by assumption) ?_
              rotate_left
              · (intro w hSw; (try dsimp only at hSw); go_simp; (try with_reducible rfl))
              try simp only [Act.put, List.getElem_toArray, List.getElem_cons_succ, List.getElem_cons_zero, List.setIfInBounds_toArray, List.set_cons_zero, List.set_cons_succ]
              refine wpAnyH_ready (rs := [6]) (by kernel_rfl) (by simp) ?_
              refine AllReadyH.cons (o := _) rfl (fun K hK => ?_) (AllReadyH.nil)
              go_simp
              refine hK.out _ _ ?_ (fun hHeld => ?_)
              · trivial
              clear hK K
              try simp only [Act.put, List.getElem_toArray, List.getElem_cons_succ, List.getElem_cons_zero, List.setIfInBounds_toArray, List.set_cons_zero, List.set_cons_succ]
              refine wpAnyH_done (by kernel_rfl) ?_ _
              go_upto_region 25 with fail
              obtain ⟨wz, HWZ⟩ : ∃ q, Hid (w8.setCell ⟨T, 0, none⟩ (.int .i64 (IntKind.i64.wrap (now + z))) = q) := ⟨_, rfl⟩
              rw [HWZ.out]
              have HDZ := Lib.hid (show DS wz Q P T pts A m c xs (IntKind.i64.wrap (now + z)) D l d ds from HWZ.out ▸ HD8.out.setNow _)
              have HMZ := Lib.hid (show Mv R (B + 120) w wz from HWZ.out ▸ (HM8.out.setNew (P := T) hqT hR 0 _).mono (by omega))
              clear v0 v1 y0 y1 hTl8 s0 s1 g0 g1 hTl
              obtain ⟨t0, t1, f0, f1, hPl⟩ := HDZ.out.ps.cells
              obtain ⟨s0, s1, g0, g1, hTl⟩ := HDZ.out.cells
              obtain ⟨q0, q1, qf0, qf1, x0, x1, xf0, xf1, hxl⟩ := HDZ.out.outs
              have hql : Q < wz.heap.size := by omega
              have hqp := HDZ.out.qp
              have hpt := HDZ.out.pt
              refine wp_region_held_drew (S := (fun w' => w'.cell? ⟨P, 0, none⟩ = some (.int .i64 pts) ∧ w'.cell? ⟨P, 1, none⟩ = some (.slice A m c) ∧ w'.cell? ⟨T, 0, none⟩ = some (.int .i64 (IntKind.i64.wrap (now + z))) ∧ w'.cell? ⟨T, 1, none⟩ = some (.slice D l d))) (by kernel_rfl) ?_ (fun hHeld => ?_)
              · exact ⟨t0, t1, s0, s1⟩
              refine wpAnyH_take (i := 0) (oi := _) (v := ?_) rfl (by kernel_rfl) (by kernel_rfl) (by kernel_rfl) (fun _ _ _ h => h) (Or.inl ⟨by kernel_rfl, ?_⟩) (by assumption) ?_
              rotate_left
              · (intro w hSw; (try dsimp only at hSw); go_simp; (try with_reducible rfl))
              try simp only [Act.put, List.getElem_toArray, List.getElem_cons_succ, List.getElem_cons_zero, List.setIfInBounds_toArray, List.set_cons_zero, List.set_cons_succ]
              refine wpAnyH_take (i := 1) (oi := _) (v := ?_) rfl (by kernel_rfl) (by kernel_rfl) (by kernel_rfl) (fun _ _ _ h => h) (Or.inl ⟨by kernel_rfl, ?_⟩) (by assumption) ?_
              rotate_left
              · (intro w hSw; (try dsimp only at hSw); go_simp; (try with_reducible rfl))
              try simp only [Act.put, List.getElem_toArray, List.getElem_cons_succ, List.getElem_cons_zero, List.setIfInBounds_toArray, List.set_cons_zero, List.set_cons_succ]
              refine wpAnyH_ready (rs := [2]) (by kernel_rfl) (by simp) ?_
              refine AllReadyH.cons (o := _) rfl (fun K hK => ?_) (AllReadyH.nil)
              go_simp
              refine hK.out _ _ ?_ (fun hHeld => ?_)
              · (refine ⟨?_, ?_, ?_, ?_⟩ <;> (try rw [drew_cell]) <;> (repeat rw [World.cell?_setCell_far _ _ _ _ (by simp <;> omega)]) <;> first | with_reducible exact t0 | with_reducible exact t1 | with_reducible exact s0 | with_reducible exact s1)
              clear hK K
              try simp only [Act.put, List.getElem_toArray, List.getElem_cons_succ, List.getElem_cons_zero, List.setIfInBounds_toArray, List.set_cons_zero, List.set_cons_succ]
              refine wpAnyH_ready (rs := [3]) (by kernel_rfl) (by simp) ?_
              refine AllReadyH.cons (o := _) rfl (fun K hK => ?_) (AllReadyH.nil)
              go_simp
              refine hK.out _ _ ?_ (fun hHeld => ?_)
              · (refine ⟨?_, ?_, ?_, ?_⟩ <;> (try rw [drew_cell]) <;> (repeat rw [World.cell?_setCell_far _ _ _ _ (by simp <;> omega)]) <;> first | with_reducible exact t0 | with_reducible exact t1 | with_reducible exact s0 | with_reducible exact s1)
              clear hK K
              try simp only [Act.put, List.getElem_toArray, List.getElem_cons_succ, List.getElem_cons_zero, List.setIfInBounds_toArray, List.set_cons_zero, List.set_cons_succ]
              refine wpAnyH_done (by kernel_rfl) ?_ _
              go_wp2_with (fail)
              refine bodyPost_ret (v := .tuple #[.agg #[.int .i64 pts, .slice A m c], .agg #[.int .i64 (IntKind.i64.wrap (now + z)), .slice D l d]]) (by simp [results, Try.results41, go_sem, q0, q1, x0, x1, hql, hxl]) rfl ?_
              exact DoingMade.drewD (HEND.out wz P pts A m c xs (IntKind.i64.wrap (now + z)) D l d ds _ hp0 hp7 HDZ.out.ps (fun a ha => (HDZ.out.pap a ha).2) HDZ.out.row HDZ.out.sz.2 HMZ.out (by omega))
          · clear hy0 hy1
            obtain ⟨g, rfl, hgB, hgl⟩ := own_cellsZ HD7.out.row (by omega)
            obtain ⟨b', off', e', hd⟩ := (OwnZ.at_ HD7.out.row).cells (by omega)
            cases e'
            have d0 := hd 0 (by omega)
            rw [Nat.zero_add] at d0
            have z0 := HD7.out.row.frozenAt 0
            have hld := OwnZ.cap HD7.out.row
            have hl1I : (0 : Int) < (l : Int) := by omega
            clear hd
            go_upto_region 25 with fail
            obtain ⟨wz, HWZ⟩ : ∃ q, Hid (w7.setCell ⟨g, 0, none⟩ (.int .i64 1) = q) := ⟨_, rfl⟩
            rw [HWZ.out]
            have HDZ := Lib.hid (show DS wz Q P T pts A m c xs now (some ⟨g, 0, none⟩) l d (ds.set 0 1) from HWZ.out ▸ HD7.out.setElem 0 1)
            have HMZ := Lib.hid (show Mv R (B + 120) w wz from HWZ.out ▸ (HM7.out.setNew (P := g) (by have := HQQ.out; omega) hR 0 _).mono (by omega))
            obtain ⟨t0, t1, f0, f1, hPl⟩ := HDZ.out.ps.cells
            obtain ⟨s0, s1, g0, g1, hTl⟩ := HDZ.out.cells
            obtain ⟨q0, q1, qf0, qf1, x0, x1, xf0, xf1, hxl⟩ := HDZ.out.outs
            have hql : Q < wz.heap.size := by omega
            have hqp := HDZ.out.qp
            have hpt := HDZ.out.pt
            refine wp_region_held_drew (S := (fun w' => w'.cell? ⟨P, 0, none⟩ = some (.int .i64 pts) ∧ w'.cell? ⟨P, 1, none⟩ = some (.slice A m c) ∧ w'.cell? ⟨T, 0, none⟩ = some (.int .i64 (now)) ∧ w'.cell? ⟨T, 1, none⟩ = some (.slice (some ⟨g, 0, none⟩) l d))) (by kernel_rfl) ?_ (fun hHeld => ?_)
            · exact ⟨t0, t1, s0, s1⟩
            refine wpAnyH_take (i := 0) (oi := _) (v := ?_) rfl (by kernel_rfl) (by kernel_rfl) (by kernel_rfl) (fun _ _ _ h => h) (Or.inl ⟨by kernel_rfl, ?_⟩) (by assumption) ?_
            rotate_left
            · (intro w hSw; (try dsimp only at hSw); go_simp; (try with_reducible rfl))
            try simp only [Act.put, List.getElem_toArray, List.getElem_cons_succ, List.getElem_cons_zero, List.setIfInBounds_toArray, List.set_cons_zero, List.set_cons_succ]
            refine wpAnyH_take (i := 1) (oi := _) (v := ?_) rfl (by kernel_rfl) (by kernel_rfl) (by kernel_rfl) (fun _ _ _ h => h) (Or.inl ⟨by kernel_rfl, ?_⟩) (by assumption) ?_
            rotate_left
            · (intro w hSw; (try dsimp only at hSw); go_simp; (try with_reducible rfl))
            try simp only [Act.put, List.getElem_toArray, List.getElem_cons_succ, List.getElem_cons_zero, List.setIfInBounds_toArray, List.set_cons_zero, List.set_cons_succ]
            refine wpAnyH_ready (rs := [2]) (by kernel_rfl) (by simp) ?_
            refine AllReadyH.cons (o := _) rfl (fun K hK => ?_) (AllReadyH.nil)
            go_simp
            refine hK.out _ _ ?_ (fun hHeld => ?_)
            · (refine ⟨?_, ?_, ?_, ?_⟩ <;> (try rw [drew_cell]) <;> (repeat rw [World.cell?_setCell_far _ _ _ _ (by simp <;> omega)]) <;> first | with_reducible exact t0 | with_reducible exact t1 | with_reducible exact s0 | with_reducible exact s1)
            clear hK K
            try simp only [Act.put, List.getElem_toArray, List.getElem_cons_succ, List.getElem_cons_zero, List.setIfInBounds_toArray, List.set_cons_zero, List.set_cons_succ]
            refine wpAnyH_ready (rs := [3]) (by kernel_rfl) (by simp) ?_
            refine AllReadyH.cons (o := _) rfl (fun K hK => ?_) (AllReadyH.nil)
            go_simp
            refine hK.out _ _ ?_ (fun hHeld => ?_)
            · (refine ⟨?_, ?_, ?_, ?_⟩ <;> (try rw [drew_cell]) <;> (repeat rw [World.cell?_setCell_far _ _ _ _ (by simp <;> omega)]) <;> first | with_reducible exact t0 | with_reducible exact t1 | with_reducible exact s0 | with_reducible exact s1)
            clear hK K
            try simp only [Act.put, List.getElem_toArray, List.getElem_cons_succ, List.getElem_cons_zero, List.setIfInBounds_toArray, List.set_cons_zero, List.set_cons_succ]
            refine wpAnyH_done (by kernel_rfl) ?_ _
            go_wp2_with (fail)
            refine bodyPost_ret (v := .tuple #[.agg #[.int .i64 pts, .slice A m c], .agg #[.int .i64 (now), .slice (some ⟨g, 0, none⟩) l d]]) (by simp [results, Try.results41, go_sem, q0, q1, x0, x1, hql, hxl]) rfl ?_
            exact DoingMade.drewD (HEND.out wz P pts A m c xs (now) (some ⟨g, 0, none⟩) l d (ds.set 0 1) _ hp0 hp7 HDZ.out.ps (fun a ha => (HDZ.out.pap a ha).2) HDZ.out.row HDZ.out.sz.2 HMZ.out (by omega))
          · clear hy0 hy1
            go_wp2_with (first
              | (at_builtin; go_loud (refine wpl_app rowZ rfl _ _ (by rfl) (Q + 2) _ l (vI ds) (by rfl) (HD7.out.row.alloc _) ⟨w7.heap.size, 0, none⟩ 1 1 (vI [0]) (by rfl) rfl (cell_one_at (by simp) _ _) (vI_one _) (by decide) (by omega) (by have := HD7.out.qp; have := HD7.out.ps.blk.lt; simp; omega) ?_)
                 intro g' cap' wB hownB hgrow hat hltB
                 have happ := DS.app (HD7.out.alloc (.cells #[.int .i64 0] 3)) (D' := some ⟨g', 0, none⟩) (m' := l + 1) (d' := cap') (ds' := ds ++ [0]) (by show World.ownsRow _ _ _ _ _ _ (vI _); rw [vI_appZ]; exact hownB) hgrow (by rcases hat with e | e; exact .inl e.symm; exact .inr (by rw [e]; rfl)) (by omega)
                 have HMB := Lib.hid ((HM7.out.alloc (.cells #[.int .i64 0] 3)).grown hgrow (fun k hk => by have := (HD7.out.row.lt k hk).1; have := HQQ.out; omega) hR)
                 have HDB := Lib.hid happ.2
                 obtain ⟨r1, r2, r3⟩ := happ.1
                 clear happ hownB hgrow hat))
            go_upto_region 25 with fail
            obtain ⟨wz, HWZ⟩ : ∃ q, Hid (wB.setCell ⟨T, 1, none⟩ (.slice (some ⟨g', 0, none⟩) (l + 1) cap') = q) := ⟨_, rfl⟩
            rw [HWZ.out]
            have HDZ := Lib.hid (show DS wz Q P T pts A m c xs now (some ⟨g', 0, none⟩) (l + 1) cap' (ds ++ [0]) from HWZ.out ▸ HDB.out)
            have HMZ := Lib.hid (show Mv R (B + 120) w wz from HWZ.out ▸ (HMB.out.setNew (P := T) hqT hR 1 _).mono (by omega))
            clear r1 r2 r3
            obtain ⟨t0, t1, f0, f1, hPl⟩ := HDZ.out.ps.cells
            obtain ⟨s0, s1, g0, g1, hTl⟩ := HDZ.out.cells
            obtain ⟨q0, q1, qf0, qf1, x0, x1, xf0, xf1, hxl⟩ := HDZ.out.outs
            have hql : Q < wz.heap.size := by omega
            have hqp := HDZ.out.qp
            have hpt := HDZ.out.pt
            refine wp_region_held_drew (S := (fun w' => w'.cell? ⟨P, 0, none⟩ = some (.int .i64 pts) ∧ w'.cell? ⟨P, 1, none⟩ = some (.slice A m c) ∧ w'.cell? ⟨T, 0, none⟩ = some (.int .i64 (now)) ∧ w'.cell? ⟨T, 1, none⟩ = some (.slice (some ⟨g', 0, none⟩) (l + 1) cap'))) (by kernel_rfl) ?_ (fun hHeld => ?_)
            · exact ⟨t0, t1, s0, s1⟩
            refine wpAnyH_take (i := 0) (oi := _) (v := ?_) rfl (by kernel_rfl) (by kernel_rfl) (by kernel_rfl) (fun _ _ _ h => h) (Or.inl ⟨by kernel_rfl, ?_⟩) (by assumption) ?_
            rotate_left
            · (intro w hSw; (try dsimp only at hSw); go_simp; (try with_reducible rfl))
            try simp only [Act.put, List.getElem_toArray, List.getElem_cons_succ, List.getElem_cons_zero, List.setIfInBounds_toArray, List.set_cons_zero, List.set_cons_succ]
            refine wpAnyH_take (i := 1) (oi := _) (v := ?_) rfl (by kernel_rfl) (by kernel_rfl) (by kernel_rfl) (fun _ _ _ h => h) (Or.inl ⟨by kernel_rfl, ?_⟩) (by assumption) ?_
            rotate_left
            · (intro w hSw; (try dsimp only at hSw); go_simp; (try with_reducible rfl))
            try simp only [Act.put, List.getElem_toArray, List.getElem_cons_succ, List.getElem_cons_zero, List.setIfInBounds_toArray, List.set_cons_zero, List.set_cons_succ]
            refine wpAnyH_ready (rs := [2]) (by kernel_rfl) (by simp) ?_
            refine AllReadyH.cons (o := _) rfl (fun K hK => ?_) (AllReadyH.nil)
            go_simp
            refine hK.out _ _ ?_ (fun hHeld => ?_)
            · (refine ⟨?_, ?_, ?_, ?_⟩ <;> (try rw [drew_cell]) <;> (repeat rw [World.cell?_setCell_far _ _ _ _ (by simp <;> omega)]) <;> first | with_reducible exact t0 | with_reducible exact t1 | with_reducible exact s0 | with_reducible exact s1)
            clear hK K
            try simp only [Act.put, List.getElem_toArray, List.getElem_cons_succ, List.getElem_cons_zero, List.setIfInBounds_toArray, List.set_cons_zero, List.set_cons_succ]
            refine wpAnyH_ready (rs := [3]) (by kernel_rfl) (by simp) ?_
            refine AllReadyH.cons (o := _) rfl (fun K hK => ?_) (AllReadyH.nil)
            go_simp
            refine hK.out _ _ ?_ (fun hHeld => ?_)
            · (refine ⟨?_, ?_, ?_, ?_⟩ <;> (try rw [drew_cell]) <;> (repeat rw [World.cell?_setCell_far _ _ _ _ (by simp <;> omega)]) <;> first | with_reducible exact t0 | with_reducible exact t1 | with_reducible exact s0 | with_reducible exact s1)
            clear hK K
            try simp only [Act.put, List.getElem_toArray, List.getElem_cons_succ, List.getElem_cons_zero, List.setIfInBounds_toArray, List.set_cons_zero, List.set_cons_succ]
            refine wpAnyH_done (by kernel_rfl) ?_ _
            go_wp2_with (fail)
            refine bodyPost_ret (v := .tuple #[.agg #[.int .i64 pts, .slice A m c], .agg #[.int .i64 (now), .slice (some ⟨g', 0, none⟩) (l + 1) cap']]) (by simp [results, Try.results41, go_sem, q0, q1, x0, x1, hql, hxl]) rfl ?_
            exact DoingMade.drewD (HEND.out wz P pts A m c xs (now) (some ⟨g', 0, none⟩) (l + 1) cap' (ds ++ [0]) _ hp0 hp7 HDZ.out.ps (fun a ha => (HDZ.out.pap a ha).2) HDZ.out.row HDZ.out.sz.2 HMZ.out (by omega))
          · clear hy0 hy1
            go_wp2_with (fail)
            obtain ⟨g, rfl, hgB, hgl⟩ := own_cellsZ HD7.out.row (by omega)
            refine wp_region_held_drew (S := (fun w' => w'.cell? ⟨T, 1, none⟩ = some (.slice (some ⟨g, 0, none⟩) l d))) (by kernel_rfl) ?_ (fun hHeld => ?_)
            · exact s1
            refine wpAnyH_take (i := 0) (oi := _) (v := ?_) rfl (by kernel_rfl) (by kernel_rfl) (by kernel_rfl) (fun _ _ _ h => h) (Or.inl ⟨by kernel_rfl, ?_⟩) (by assumption) ?_
            rotate_left
            · (intro w hSw; (try dsimp only at hSw); go_simp; (try with_reducible rfl))
            try simp only [Act.put, List.getElem_toArray, List.getElem_cons_succ, List.getElem_cons_zero, List.setIfInBounds_toArray, List.set_cons_zero, List.set_cons_succ]
            refine wpAnyH_take (i := 1) (oi := _) (v := ?_) rfl (by kernel_rfl) (by kernel_rfl) (by kernel_rfl) (fun _ _ _ h => h) (Or.inl ⟨by kernel_rfl, ?_⟩) (by assumption) ?_
            rotate_left
            · (intro w hSw; (try dsimp only at hSw); go_simp; (try with_reducible rfl))
            try simp only [Act.put, List.getElem_toArray, List.getElem_cons_succ, List.getElem_cons_zero, List.setIfInBounds_toArray, List.set_cons_zero, List.set_cons_succ]
            refine wpAnyH_take (i := 2) (oi := _) (v := ?_) rfl (by kernel_rfl) (by kernel_rfl) (by kernel_rfl) (fun _ _ _ h => h) (Or.inl ⟨by kernel_rfl, ?_⟩) (by assumption) ?_
            rotate_left
            · (intro w hSw; (try dsimp only at hSw); go_simp; (try with_reducible rfl))
            try simp only [Act.put, List.getElem_toArray, List.getElem_cons_succ, List.getElem_cons_zero, List.setIfInBounds_toArray, List.set_cons_zero, List.set_cons_succ]
            refine wpAnyH_take (i := 3) (oi := _) (v := ?_) rfl (by kernel_rfl) (by kernel_rfl) (by kernel_rfl) (fun _ _ _ h => h) (Or.inl ⟨by kernel_rfl, ?_⟩) (by assumption) ?_
            rotate_left
            · (intro w hSw; (try dsimp only at hSw); go_simp; (try with_reducible rfl))
            try simp only [Act.put, List.getElem_toArray, List.getElem_cons_succ, List.getElem_cons_zero, List.setIfInBounds_toArray, List.set_cons_zero, List.set_cons_succ]
            refine wpAnyH_take (i := 4) (oi := _) (v := ?_) rfl (by kernel_rfl) (by kernel_rfl) (by kernel_rfl) (fun _ _ _ h => h) (Or.inl ⟨by kernel_rfl, ?_⟩) (by assumption) ?_
            rotate_left
            · (intro w hSw; (try dsimp only at hSw); go_simp; (try with_reducible rfl))
            try simp only [Act.put, List.getElem_toArray, List.getElem_cons_succ, List.getElem_cons_zero, List.setIfInBounds_toArray, List.set_cons_zero, List.set_cons_succ]
            refine wpAnyH_take (i := 5) (oi := _) (v := ?_) rfl (by kernel_rfl) (by kernel_rfl) (by kernel_rfl) (fun _ _ _ h => h) (Or.inl ⟨by kernel_rfl, ?_⟩) (by assumption) ?_
            rotate_left
            · (intro w hSw; (try dsimp only at hSw); go_simp; (try with_reducible rfl))
            try simp only [Act.put, List.getElem_toArray, List.getElem_cons_succ, List.getElem_cons_zero, List.setIfInBounds_toArray, List.set_cons_zero, List.set_cons_succ]
            refine wpAnyH_take (i := 7) (oi := _) (v := ?_) rfl (by kernel_rfl) (by kernel_rfl) (by kernel_rfl) (fun _ _ _ h => h) (Or.inl ⟨by kernel_rfl, ?_⟩) (by assumption) ?_
            rotate_left
            · (intro w hSw; (try dsimp only at hSw); go_simp; (try with_reducible rfl))
            try simp only [Act.put, List.getElem_toArray, List.getElem_cons_succ, List.getElem_cons_zero, List.setIfInBounds_toArray, List.set_cons_zero, List.set_cons_succ]
            refine wpAnyH_ready (rs := [6]) (by kernel_rfl) (by simp) ?_
            refine AllReadyH.cons (o := _) rfl (fun K hK => ?_) (AllReadyH.nil)
            go_simp
            go_at_call 73; with_reducible refine kPick (pick_any R _ (l : Int) _ (Mv.rdDr HM7.out) (by omega)) ?_
            intro z w8 hq1 hq2 hm8 hs8
            obtain ⟨hz0, hz1⟩ := hq1 (by omega)
            have HD8 := Lib.hid (DS.mv (HD7.out.drew) hRQ hm8)
            have HM8 := Lib.hid (Mv.trans (Mv.drewDr HM7.out) hm8)
            obtain ⟨u8a, u8b, u8c, u8d, hTl8⟩ := HD8.out.cells
            clear hq1 hq2 hm8 hs8
            go_wp2_with fail
            refine hK.out _ _ ?_ (fun hHeld => ?_)
            · exact u8b
            clear hK K
            try simp only [Act.put, List.getElem_toArray, List.getElem_cons_succ, List.getElem_cons_zero, List.setIfInBounds_toArray, List.set_cons_zero, List.set_cons_succ]
            refine wpAnyH_ready (rs := [8]) (by kernel_rfl) (by simp) ?_
            refine AllReadyH.cons (o := _) rfl (fun K hK => ?_) (AllReadyH.nil)
            go_simp
            go_at_call 73; with_reducible refine kPick (pick_any R _ 9 _ (Mv.rdOf HM8.out) (by omega)) ?_
            intro x w9 hq1 hq2 hm9 hs9
            obtain ⟨hx0, hx1⟩ := hq1 (by omega)
            have HD9 := Lib.hid (DS.mv (HD8.out) hRQ hm9)
            have HM9 := Lib.hid (Mv.trans HM8.out hm9)
            obtain ⟨u9a, u9b, u9c, u9d, hTl9⟩ := HD9.out.cells
            clear hq1 hq2 hm9 hs9
            go_wp2_with fail
            refine hK.out _ _ ?_ (fun hHeld => ?_)
            · exact u9b
            clear hK K
            try simp only [Act.put, List.getElem_toArray, List.getElem_cons_succ, List.getElem_cons_zero, List.setIfInBounds_toArray, List.set_cons_zero, List.set_cons_succ]
            obtain ⟨Z, rfl⟩ := Int.eq_ofNat_of_zero_le hz0
            have hZl : Z < l := by omega
            have hZI : (Z : Int) < (l : Int) := by omega
            have h0Z : (0 : Int) ≤ (Z : Int) := by omega
            obtain ⟨b9, off9, e9, hd9⟩ := (OwnZ.at_ HD9.out.row).cells (by omega)
            cases e9
            have d9 := hd9 Z hZl
            rw [Nat.zero_add] at d9
            have z9 := HD9.out.row.frozenAt Z
            have hgl9 : g < w9.heap.size := (HD9.out.row.lt g rfl).2
            have hgT : g ≠ T := (HD9.out.ap g rfl).2.1
            have hld := OwnZ.cap HD9.out.row
            clear hd9
            refine wpAnyH_take (i := 9) (oi := _) (v := ?_) rfl (by kernel_rfl) (by kernel_rfl) (by kernel_rfl) (fun _ _ _ h => h) (Or.inl ⟨by kernel_rfl, ?_⟩) (by assumption) ?_
            rotate_left
            · (intro w hSw; (try dsimp only at hSw); go_simp; (try with_reducible rfl))
            try simp only [Act.put, List.getElem_toArray, List.getElem_cons_succ, List.getElem_cons_zero, List.setIfInBounds_toArray, List.set_cons_zero, List.set_cons_succ]
            refine wpAnyH_ready (rs := [10]) (by kernel_rfl) (by simp) ?_
            refine AllReadyH.cons (o := _) rfl (fun K hK => ?_) (AllReadyH.nil)
            go_simp
            refine hK.out _ _ ?_ (fun hHeld => ?_)
            · ((try rw [drew_cell]); (repeat rw [World.cell?_setCell_far _ _ _ _ (by simp <;> omega)]); with_reducible exact u9b)
            clear hK K
            try simp only [Act.put, List.getElem_toArray, List.getElem_cons_succ, List.getElem_cons_zero, List.setIfInBounds_toArray, List.set_cons_zero, List.set_cons_succ]
            refine wpAnyH_done (by kernel_rfl) ?_ _
            go_upto_region 25 with fail
            obtain ⟨wz, HWZ⟩ : ∃ q, Hid (w9.setCell ⟨g, Z, none⟩ (.int .i64 x) = q) := ⟨_, rfl⟩
            rw [HWZ.out]
            have HDZ := Lib.hid (show DS wz Q P T pts A m c xs now (some ⟨g, 0, none⟩) l d (ds.set Z x) from HWZ.out ▸ HD9.out.setElem Z x)
            have HMZ := Lib.hid (show Mv R (B + 120) w wz from HWZ.out ▸ (HM9.out.setNew (P := g) (by have := HQQ.out; omega) hR Z _).mono (by omega))
            clear u8a u8b u8c u8d u9a u9b u9c u9d s0 s1 g0 g1 hTl
            obtain ⟨t0, t1, f0, f1, hPl⟩ := HDZ.out.ps.cells
            obtain ⟨s0, s1, g0, g1, hTl⟩ := HDZ.out.cells
            obtain ⟨q0, q1, qf0, qf1, x0, x1, xf0, xf1, hxl⟩ := HDZ.out.outs
            have hql : Q < wz.heap.size := by omega
            have hqp := HDZ.out.qp
            have hpt := HDZ.out.pt
            refine wp_region_held_drew (S := (fun w' => w'.cell? ⟨P, 0, none⟩ = some (.int .i64 pts) ∧ w'.cell? ⟨P, 1, none⟩ = some (.slice A m c) ∧ w'.cell? ⟨T, 0, none⟩ = some (.int .i64 (now)) ∧ w'.cell? ⟨T, 1, none⟩ = some (.slice (some ⟨g, 0, none⟩) l d))) (by kernel_rfl) ?_ (fun hHeld => ?_)
            · exact ⟨t0, t1, s0, s1⟩
            refine wpAnyH_take (i := 0) (oi := _) (v := ?_) rfl (by kernel_rfl) (by kernel_rfl) (by kernel_rfl) (fun _ _ _ h => h) (Or.inl ⟨by kernel_rfl, ?_⟩) (by assumption) ?_
            rotate_left
            · (intro w hSw; (try dsimp only at hSw); go_simp; (try with_reducible rfl))
            try simp only [Act.put, List.getElem_toArray, List.getElem_cons_succ, List.getElem_cons_zero, List.setIfInBounds_toArray, List.set_cons_zero, List.set_cons_succ]
            refine wpAnyH_take (i := 1) (oi := _) (v := ?_) rfl (by kernel_rfl) (by kernel_rfl) (by kernel_rfl) (fun _ _ _ h => h) (Or.inl ⟨by kernel_rfl, ?_⟩) (by assumption) ?_
            rotate_left
            · (intro w hSw; (try dsimp only at hSw); go_simp; (try with_reducible rfl))
            try simp only [Act.put, List.getElem_toArray, List.getElem_cons_succ, List.getElem_cons_zero, List.setIfInBounds_toArray, List.set_cons_zero, List.set_cons_succ]
            refine wpAnyH_ready (rs := [2]) (by kernel_rfl) (by simp) ?_
            refine AllReadyH.cons (o := _) rfl (fun K hK => ?_) (AllReadyH.nil)
            go_simp
            refine hK.out _ _ ?_ (fun hHeld => ?_)
            · (refine ⟨?_, ?_, ?_, ?_⟩ <;> (try rw [drew_cell]) <;> (repeat rw [World.cell?_setCell_far _ _ _ _ (by simp <;> omega)]) <;> first | with_reducible exact t0 | with_reducible exact t1 | with_reducible exact s0 | with_reducible exact s1)
            clear hK K
            try simp only [Act.put, List.getElem_toArray, List.getElem_cons_succ, List.getElem_cons_zero, List.setIfInBounds_toArray, List.set_cons_zero, List.set_cons_succ]
            refine wpAnyH_ready (rs := [3]) (by kernel_rfl) (by simp) ?_
            refine AllReadyH.cons (o := _) rfl (fun K hK => ?_) (AllReadyH.nil)
            go_simp
            refine hK.out _ _ ?_ (fun hHeld => ?_)
            · (refine ⟨?_, ?_, ?_, ?_⟩ <;> (try rw [drew_cell]) <;> (repeat rw [World.cell?_setCell_far _ _ _ _ (by simp <;> omega)]) <;> first | with_reducible exact t0 | with_reducible exact t1 | with_reducible exact s0 | with_reducible exact s1)
            clear hK K
            try simp only [Act.put, List.getElem_toArray, List.getElem_cons_succ, List.getElem_cons_zero, List.setIfInBounds_toArray, List.set_cons_zero, List.set_cons_succ]
            refine wpAnyH_done (by kernel_rfl) ?_ _
            go_wp2_with (fail)
            refine bodyPost_ret (v := .tuple #[.agg #[.int .i64 pts, .slice A m c], .agg #[.int .i64 (now), .slice (some ⟨g, 0, none⟩) l d]]) (by simp [results, Try.results41, go_sem, q0, q1, x0, x1, hql, hxl]) rfl ?_
            exact DoingMade.drewD (HEND.out wz P pts A m c xs (now) (some ⟨g, 0, none⟩) l d (ds.set Z x) _ hp0 hp7 HDZ.out.ps (fun a ha => (HDZ.out.pap a ha).2) HDZ.out.row HDZ.out.sz.2 HMZ.out (by omega))

end Go.Proofs.Ytikapnphnkoelaa
