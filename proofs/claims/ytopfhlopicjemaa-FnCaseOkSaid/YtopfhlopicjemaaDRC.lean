/- Draws of cases: l20Case. -/
import Derived.Test.YtopfhlopicjemaaDRS
import Derived.Test.YtopfhlopicjemaaDRB
namespace Go.Proofs.Ytopfhlopicjemaa
open Go.RowKit
attribute [local go_sem ↓] Go.wp_at_zero Go.wp_at_succ

/-- A case under way. -/
structure CsAt (w : World) (R Q P : Nat) (pts : Int) (A : Option Addr) (n c : Nat) (C : Option Addr) (m d : Nat) (ps : List PartB) : Prop where
  lq : R < Q
  qp : Q < P
  res : Blk w Q 51 #[.int .i64 0, .slice none 0 0, .slice none 0 0]
  blk : Blk w P 51 #[.int .i64 pts, .slice A n c, .slice C m d]
  base : ∃ bs, BndsAt w A n bs
  far : ∀ a, A = some a → Q < a.block ∧ a.block < P
  rows : RowsBB w (P + 1) C m d ps
section
variable {w w' W wB : World} {R Q P n c m d g cap : Nat} {Bd pts : Int} {A C : Option Addr} {ps : List PartB}
theorem CsAt.kept (h : CsAt w R Q P pts A n c C m d ps) {row : Option Nat} (hg : w.grownBy w' row) {B1 : Nat} (hP : P < B1) (hC : ∀ k, (Value.slice C m d).ownBlock = some k → k < B1) (hps : ∀ q ∈ ps, ∀ k, (hdB q).ownBlock = some k → k < B1)
    (hr : ∀ g, row = some g → g < Q ∨ B1 ≤ g) : CsAt w' R Q P pts A n c C m d ps := by
  have h1 := h.lq
  have h2 := h.qp
  obtain ⟨bs, hb⟩ := h.base
  have hlt := h.blk.lt
  refine ⟨h1, h2, ?_, ?_, ⟨bs, hb.keepB (fun a ha => hg.block _ (by have := h.far a ha; omega) (fun e => by have := h.far a ha; have := hr _ e.symm; omega))⟩, h.far, ?_⟩
  · show w'.heap[Q]? = _
    rw [hg.block Q h.res.lt (fun e => by have := hr _ e.symm; omega)]; exact h.res
  · show w'.heap[P]? = _
    rw [hg.block P h.blk.lt (fun e => by have := hr _ e.symm; omega)]; exact h.blk
  · refine h.rows.keptAp hg (fun k hk e => ?_) (fun q hq k hk e => ?_)
    · have := hC k hk; have := hr k e; have := (h.rows.own.lt k hk).1; omega
    · have := hps q hq k hk; have := hr k e; have := ((h.rows.inn q hq).1.lt k hk).1; omega
theorem CsAt.mv (h : CsAt w R Q P pts A n c C m d ps) (hm : Mv R Bd w w') : CsAt w' R Q P pts A n c C m d ps :=
  h.kept hm.1 (B1 := w.heap.size) h.blk.lt (fun k hk => (h.rows.own.lt k hk).2) h.rows.inner_lt (fun g e => by cases e; exact .inl h.lq)
theorem CsAt.below (h : CsAt w R Q P pts A n c C m d ps) (hb : Below w.heap.size w w') : CsAt w' R Q P pts A n c C m d ps :=
  h.kept (grown_of_below hb none) (B1 := w.heap.size) h.blk.lt (fun k hk => (h.rows.own.lt k hk).2) h.rows.inner_lt (fun g e => by cases e)
theorem CsAt.alloc (h : CsAt w R Q P pts A n c C m d ps) (o : Obj) : CsAt (w.alloc o) R Q P pts A n c C m d ps := h.below ((Below.refl _ _).alloc (Nat.le_refl _) _)
theorem CsAt.cells (h : CsAt w R Q P pts A n c C m d ps) : w.cell? ⟨P, 0, none⟩ = some (.int .i64 pts) ∧ w.cell? ⟨P, 1, none⟩ = some (.slice A n c) ∧ w.cell? ⟨P, 2, none⟩ = some (.slice C m d) ∧ w.frozen? ⟨P, 0, none⟩ = false ∧ w.frozen? ⟨P, 1, none⟩ = false ∧ w.frozen? ⟨P, 2, none⟩ = false :=
  ⟨(h.blk.cell 0).trans rfl, (h.blk.cell 1).trans rfl, (h.blk.cell 2).trans rfl, h.blk.frozen 0, h.blk.frozen 1, h.blk.frozen 2⟩
theorem grown_set (w : World) (P i : Nat) (v : Value) : w.grownBy (w.setCell ⟨P, i, none⟩ v) (some P) :=
  ⟨rfl, rfl, rfl, by simp [World.setCell], fun k _ hk => Below.heap_setCell _ _ _ _ (fun e => hk (by rw [e]))⟩
theorem RowsBB.far {B : Nat} (h : RowsBB w B C m d ps) (hP : P < B) (i : Nat) (v : Value) : RowsBB (w.setCell ⟨P, i, none⟩ v) B C m d ps := h.kept (grown_set w P i v) (fun g e => by cases e; exact hP)
/-- The bounds are cut. -/
theorem CsAt.cut (h : CsAt w R Q P pts A n c C m d ps) {k : Nat} (hk : k ≤ n) : CsAt (w.setCell ⟨P, 1, none⟩ (.slice A k c)) R Q P pts A k c C m d ps := by
  have h1 := h.lq
  have h2 := h.qp
  obtain ⟨bs, hb⟩ := h.base
  have hs := h.blk.set_ 1 (.slice A k c)
  refine ⟨h1, h2, h.res.far (by show Q ≠ P; omega) _, hs, ⟨_, (hb.setCell (q := ⟨P, 1, none⟩) (fun a ha => by have := h.far a ha; show a.block ≠ P; omega) _).cut hk⟩, h.far, h.rows.far (Nat.lt_succ_self _) _ _⟩
/-- A choice more. -/
theorem CsAt.app (h : CsAt W R Q P pts A n c C m d ps) {q : PartB} (hq : InnB W (P + 1) (Value.slice C m d).ownBlock q)
    (hown : wB.ownsRow (P + 1) 46 1 (.slice (some ⟨g, 0, none⟩) (m + 1) cap) (m + 1) (vSB ps ++ vSB [q])) (hgrow : W.grownBy wB (Value.slice C m d).ownBlock) (hat : (Value.slice C m d).ownBlock = some g ∨ W.heap.size ≤ g) :
    CsAt (wB.setCell ⟨P, 2, none⟩ (.slice (some ⟨g, 0, none⟩) (m + 1) cap)) R Q P pts A n c (some ⟨g, 0, none⟩) (m + 1) cap (ps ++ [q]) := by
  have h1 := h.lq
  have h2 := h.qp
  have hlt := h.blk.lt
  obtain ⟨bs, hb⟩ := h.base
  have hr : ∀ k, (Value.slice C m d).ownBlock = some k → P + 1 ≤ k := fun k hk => (h.rows.own.lt k hk).1
  have hb2 : BndsAt wB A n bs := hb.keepB (fun a ha => hgrow.block _ (by have := h.far a ha; omega) (fun e => by have := h.far a ha; have := hr _ e.symm; omega))
  have hres : Blk wB Q 51 #[.int .i64 0, .slice none 0 0, .slice none 0 0] := (hgrow.block Q h.res.lt (fun e => by have := hr _ e.symm; omega)).trans h.res
  have hblk : Blk wB P 51 #[.int .i64 pts, .slice A n c, .slice C m d] := (hgrow.block P h.blk.lt (fun e => by have := hr _ e.symm; omega)).trans h.blk
  have hs := hblk.set_ 2 (.slice (some ⟨g, 0, none⟩) (m + 1) cap)
  refine ⟨h1, h2, hres.far (by show Q ≠ P; omega) _, hs, ⟨bs, hb2.setCell (q := ⟨P, 2, none⟩) (fun a ha => by have := h.far a ha; show a.block ≠ P; omega) _⟩, h.far, ?_⟩
  exact (h.rows.app (qs := [q]) (m := 1) (fun q' hq' => by obtain rfl := List.mem_singleton.1 hq'; exact hq) hown hgrow hat).far (Nat.lt_succ_self _) _ _
end

theorem cell_one_atB {w : World} {q : Nat} (hq : w.heap.size = q) (v : Value) (t : TypeId) : ∀ j u, [v][j]? = some u → (w.alloc (.cells #[v] t)).cell? ((⟨q, 0, none⟩ : Addr).add j) = some u := by
  subst hq
  intro j u hu
  rw [addr_add, Nat.zero_add, World.cell?_alloc_new]
  match j with
  | 0 => simpa using hu
  | j + 1 => simp at hu
/-- The case is handed back by block Q. -/
theorem caseFin {w0 w : World} {R P n c m d : Nat} {Bd pts : Int} {A C : Option Addr} {ps : List PartB} (h : CsAt w R w0.heap.size P pts A n c C m d ps) (hl : ∀ q ∈ ps, q.2.length ≤ 1048576) (hm : Mv R Bd w0 w) {i0 i1 i2 : Nat} {v0 v1 v2 : Value} :
    ∃ bs ls, m ≤ d ∧ Short ls m ∧ From w0.heap.size (((w.setCell ⟨w0.heap.size, i0, none⟩ v0).setCell ⟨w0.heap.size, i1, none⟩ v1).setCell ⟨w0.heap.size, i2, none⟩ v2) (fun u => BndsAt u A n bs ∧ BndssAt u C m ls) ∧ Mv R Bd w0 (((w.setCell ⟨w0.heap.size, i0, none⟩ v0).setCell ⟨w0.heap.size, i1, none⟩ v1).setCell ⟨w0.heap.size, i2, none⟩ v2) := by
  obtain ⟨bs, hb⟩ := h.base
  have hq := h.qp
  have hf : ∀ a, A = some a → a.block ≠ w0.heap.size := fun a ha => by have := (h.far a ha).1; omega
  have hF1 : BndsAt (((w.setCell ⟨w0.heap.size, i0, none⟩ v0).setCell ⟨w0.heap.size, i1, none⟩ v1).setCell ⟨w0.heap.size, i2, none⟩ v2) A n bs := ((hb.setCell (q := ⟨w0.heap.size, i0, none⟩) hf v0).setCell (q := ⟨w0.heap.size, i1, none⟩) hf v1).setCell (q := ⟨w0.heap.size, i2, none⟩) hf v2
  have hp1 : w0.heap.size < P + 1 := by omega
  have hF2 : RowsBB (((w.setCell ⟨w0.heap.size, i0, none⟩ v0).setCell ⟨w0.heap.size, i1, none⟩ v1).setCell ⟨w0.heap.size, i2, none⟩ v2) (P + 1) C m d ps := ((h.rows.far hp1 i0 v0).far hp1 i1 v1).far hp1 i2 v2
  have hF3 : Mv R Bd w0 (((w.setCell ⟨w0.heap.size, i0, none⟩ v0).setCell ⟨w0.heap.size, i1, none⟩ v1).setCell ⟨w0.heap.size, i2, none⟩ v2) := ((hm.setNew (Nat.le_refl _) h.lq i0 v0).setNew (Nat.le_refl _) h.lq i1 v1).setNew (Nat.le_refl _) h.lq i2 v2
  have hz : (((w.setCell ⟨w0.heap.size, i0, none⟩ v0).setCell ⟨w0.heap.size, i1, none⟩ v1).setCell ⟨w0.heap.size, i2, none⟩ v2).heap.size = w.heap.size := by simp [World.setCell]
  have hlt := h.blk.lt
  have hfar := h.far
  generalize (((w.setCell ⟨w0.heap.size, i0, none⟩ v0).setCell ⟨w0.heap.size, i1, none⟩ v1).setCell ⟨w0.heap.size, i2, none⟩ v2) = wf at hF1 hF2 hF3 hz ⊢
  refine ⟨bs, ps.map (·.2), h.rows.room, fun j hj => ?_, fun u hu => ⟨hF1.keepB (fun a ha => hu _ (by have := hfar a ha; omega) (by have := hfar a ha; omega)), hF2.at_from hl (fun k hk hkl => hu k (by omega) hkl)⟩, hF3⟩
  have hj' : j < ps.length := by rw [h.rows.len]; exact hj
  have e : (ps.map (·.2)).getD j [] = ps[j].2 := by simp [List.getD, hj']
  rw [e]
  exact hl _ (List.getElem_mem _)

/-- What l20Case leaves. -/
def CaseDrawn (R : Nat) (B : Int) (w : World) (e : Ending) (w' : World) : Prop :=
  ∃ (p : Int) (A : Option Addr) (n c : Nat) (bs : List Bd) (C : Option Addr) (m d : Nat) (ls : List (List Bd)), e = .returned (.agg #[.int .i64 p, .slice A n c, .slice C m d]) ∧ n ≤ 9 ∧ m ≤ 4 ∧ m ≤ d ∧ Short ls m ∧ From w.heap.size w' (fun u => BndsAt u A n bs ∧ BndssAt u C m ls) ∧ Mv R (B + 200) w w'
theorem kPlanDrawn1 {Pr : Program} {f : FuncId} {args : Array Value} {w : World} {K : Ending → World → Prop} {R : Nat} {B : Int} (h : Calls Pr f args w (PlanDrawn R B w))
    (h1 : ∀ pts A n c xs w', 0 ≤ pts → pts ≤ 7 → n ≤ 9 → OwnB w' w.heap.size A n c xs → Mv R (B + 80) w w' → K (.returned (.agg #[.int .i64 pts, .slice A n c])) w') : Calls Pr f args w K :=
  h.mono fun e w' ⟨pts, A, n, c, xs, he, h0, h7, h9, ho, hm⟩ => by subst he; exact h1 pts A n c xs w' h0 h7 h9 ho hm
set_option maxRecDepth 100000 in
set_option maxHeartbeats 4000000 in
theorem l20Case_any (R : Nat) (B N0 : Int) (w : World) (h : Rd w R B) (hB : B ≤ 900000000) (hN0 : 0 ≤ N0 ∧ N0 ≤ 1000) :
    Calls Try.prog 62 #[.pointer (some ⟨R, 0, none⟩), .int .i64 N0] w (CaseDrawn R B w) := by
  have hR := h.lt
  have HQ0 := Lib.hid (Blk.new w 51 #[.int .i64 0, .slice none 0 0, .slice none 0 0])
  have HM0 := Lib.hid (show Mv R B w (w.alloc (.cells #[.int .i64 0, .slice none 0 0, .slice none 0 0] 51)) from ⟨grown_of_below ((Below.refl _ _).alloc (Nat.le_refl _) _) _, h.alloc _⟩)
  clear h
  go_enter Try.func62, Try.ntmps62
  go_wp2_with (fail)
  refine kPlanDrawn1 (l20Few_any R B N0 _ HM0.out.2 hB hN0) ?_
  intro pts A n c xs w1 hp0 hp7 hn9 hown hm1
  have HM1 := Lib.hid (HM0.out.trans hm1)
  have HQ1 := Lib.hid (show Blk w1 w.heap.size 51 #[.int .i64 0, .slice none 0 0, .slice none 0 0] from (hm1.1.block _ HQ0.out.lt (fun e => by cases e; omega)).trans HQ0.out)
  have hqw := HQ1.out.lt
  have hnc : n ≤ c := OwnB.cap hown
  have HOX := Lib.hid hown
  clear hown hm1
  -- REST
  by_cases h8 : 8 < n
  · -- bounds: 8
    have HC1 := Lib.hid (show CsAt (w1.alloc (.cells #[.int .i64 pts, .slice A 8 c, .slice none 0 0] 51)) R w.heap.size w1.heap.size pts A 8 c none 0 0 [] from
      ⟨hR, hqw, HQ1.out.below ((Below.refl _ _).alloc (Nat.le_refl _) _) hqw, Blk.new _ _ _, ⟨_, (((OwnB.at_ HOX.out).below ((Below.refl _ _).alloc (Nat.le_refl _) _)).cut (k := 8) (by omega))⟩, fun a ha => by
        have hob : (Value.slice A n c).ownBlock = some a.block := by subst ha; rfl
        have := HOX.out.lt _ hob; simp at this; omega, RowsBB.nil _ _⟩)
    obtain ⟨w2, HW2⟩ : ∃ q, Hid (w1.alloc (.cells #[.int .i64 pts, .slice A 8 c, .slice none 0 0] 51) = q) := ⟨_, rfl⟩
    have HC2 := Lib.hid (HW2.out ▸ HC1.out)
    have HMX := Lib.hid (show Mv R (B + 1 + 80) w w2 from HW2.out ▸ HM1.out.alloc _)
    clear HC1
    by_cases hpts : pts < 1
    · go_wp2_with (fail)
      rw [HW2.out]
      obtain ⟨P, HPP⟩ : ∃ q, Hid (w1.heap.size = q) := ⟨_, rfl⟩
      rw [HPP.out] at hqw
      have HCX := Lib.hid (HPP.out ▸ HC2.out)
      clear HC2
      rw [HPP.out]
      refine kPick (pick_any R _ 4 _ HMX.out.2 (by omega)) ?_
      intro k0 w3 hk1 hk2 hm3 hs3
      obtain ⟨hk0, hk3⟩ := hk1 (by omega)
      have HC3 := Lib.hid (HCX.out.mv hm3)
      have HM3 := Lib.hid (HMX.out.trans hm3)
      clear hk1 hk2 hm3 hs3
      go_wp2_with (fail)
      go_loopw [7] (fun i wr => ∃ (k : Int) (m d : Nat) (C : Option Addr) (ps : List PartB), i = .int .i64 k ∧ 0 ≤ k ∧ (m : Int) + k ≤ 3 ∧ CsAt wr R w.heap.size P pts A 8 c C m d ps ∧ (∀ q ∈ ps, q.2.length ≤ 1048576) ∧ Mv R (B + 82 + 20 * (3 - k)) w wr) (fun i _ => (intOf i).toNat)
      case atStart => exact ⟨k0, 0, 0, none, [], rfl, hk0, by omega, HC3.out, (fun q hq => by cases hq), HM3.out.mono (by omega)⟩
      case round =>
        obtain ⟨wo, rfl⟩ : ∃ wo : World, wo = wr := ⟨_, rfl⟩
        obtain ⟨k, m, d, C, ps, rfl, hk0', hmk, hc, hl, hm⟩ := hrel
        have HC := Lib.hid hc
        have HL := Lib.hid hl
        have HM := Lib.hid hm
        have hPl : P < wo.heap.size := hc.blk.lt
        obtain ⟨e0, e1, e2, f0, f1, f2⟩ := hc.cells
        clear hc hl hm HC3 HM3
        by_cases hlt : 0 < k
        · obtain ⟨B1, HB1⟩ : ∃ q, Hid (wo.heap.size = q) := ⟨_, rfl⟩
          have HPB : P < B1 := by have := HB1.out; omega
          have hwB : w.heap.size < B1 := by omega
          have HCb := Lib.hid (show (∀ k, (Value.slice C m d).ownBlock = some k → k < B1) ∧ (∀ q ∈ ps, ∀ k, (hdB q).ownBlock = some k → k < B1) from
            ⟨fun k hk => HB1.out ▸ (HC.out.rows.own.lt k hk).2, fun q hq k hk => HB1.out ▸ HC.out.rows.inner_lt q hq k hk⟩)
          go_wp2_with (fail)
          refine kPick (pick_any R _ 3 _ (HM.out.2.alloc _) (by omega)) ?_
          intro j0 wA hj1 hj2 hmA hsA
          obtain ⟨hj0, hj3⟩ := hj1 (by omega)
          have HOA := Lib.hid (own_mv (own_lit_atB HB1.out B1 95 3 #[] 0 (Nat.le_of_eq HB1.out.symm) (by decide) rfl) (by omega) hmA)
          have HCA := Lib.hid ((HC.out.alloc (.cells #[] 95)).mv hmA)
          have HMA := Lib.hid ((HM.out.alloc _).trans hmA)
          rw [HB1.out]
          clear hj1 hj2 hmA hsA
          go_wp2_with (fail)
          go_loopw [8, 9] (fun o i wr => ∃ (N g cv : Nat) (j : Int) (ys : List Bd), i = .int .i64 j ∧ 0 ≤ j ∧ (N : Int) + j ≤ 3 ∧ o = .slice (some ⟨g, 0, none⟩) N cv ∧ OwnB wr B1 (some ⟨g, 0, none⟩) N cv ys ∧ CsAt wr R w.heap.size P pts A 8 c C m d ps ∧ Mv R (B + 83 + 20 * (3 - k) + 3 * (3 - j)) w wr) (fun _ i _ => (intOf i).toNat)
          case atStart => exact ⟨0, B1, 0, 1 + j0, [], by go_num, by omega, by omega, rfl, HOA.out, HCA.out, HMA.out.mono (by omega)⟩
          case round =>
            obtain ⟨wi, rfl⟩ : ∃ wi : World, wi = wr := ⟨_, rfl⟩
            obtain ⟨N, g, cv, j, ys, rfl, hj0', hNj, rfl, ho, hc, hm⟩ := hrel
            have HO := Lib.hid ho
            have HCI := Lib.hid hc
            have HMI := Lib.hid hm
            have hgB : B1 ≤ g := (ho.lt g rfl).1
            have hgl : g < wi.heap.size := (ho.lt g rfl).2
            have hPi : P < wi.heap.size := hc.blk.lt
            obtain ⟨e0, e1, e2, f0, f1, f2⟩ := hc.cells
            clear ho hc hm HOA HCA HMA
            by_cases hlj : 0 < j
            · go_wp2_with (fail)
              refine kPick (pick_any R _ 1 _ HMI.out.2 (by omega)) ?_
              intro x wB hq1 hq2 hmB hsB
              obtain ⟨hx0, hx1⟩ := hq1 (by omega)
              have HOB := Lib.hid (own_mv HO.out (by omega) hmB)
              have HCB := Lib.hid (HCI.out.mv hmB)
              have HMB := Lib.hid (HMI.out.trans hmB)
              clear hq1 hq2 hmB hsB
              go_wp2_with (fail)
              refine kPick (pick_any R _ 1 _ HMB.out.2 (by omega)) ?_
              intro y wC hq1 hq2 hmC hsC
              obtain ⟨hy0, hy1⟩ := hq1 (by omega)
              have HOC := Lib.hid (own_mv HOB.out (by omega) hmC)
              have HCC := Lib.hid (HCB.out.mv hmC)
              have HMC := Lib.hid (HMB.out.trans hmC)
              clear hq1 hq2 hmC hsC
              go_wp2_with (fail)
              refine kPick (pick_any R _ 24 _ HMC.out.2 (by omega)) ?_
              intro z wD hq1 hq2 hmD hsD
              obtain ⟨hz0, hz1⟩ := hq1 (by omega)
              have HOD := Lib.hid (own_mv HOC.out (by omega) hmD)
              have HCD := Lib.hid (HCC.out.mv hmD)
              have HMD := Lib.hid (HMC.out.trans hmD)
              clear hq1 hq2 hmD hsD
              have hgD : g < wD.heap.size := (HOD.out.lt g rfl).2
              go_wp2_with (first
                | (at_builtin; refine wpl_app rowB rfl _ _ (by rfl) B1 _ N (v3 ys) (by rfl) (HOD.out.alloc _) ⟨wD.heap.size, 0, none⟩ 1 1 (v3 [(x, y, z - 14)]) (by rfl) rfl (cell3B (by simp) _ _) (v3_one _) (by decide) (by omega) (by simp; omega) ?_
                   intro g' cap' wE hownE hgrow hat hltE))
              have HOE := Lib.hid hownE
              have hrow : ∀ r, (Value.slice (some ⟨g, 0, none⟩) N cv).ownBlock = some r → B1 ≤ r := fun r hr => (HOD.out.lt r hr).1
              have HCE := Lib.hid ((HCD.out.alloc _).kept hgrow HPB HCb.out.1 HCb.out.2 (fun r hr => .inr (hrow r hr)))
              have HME := Lib.hid ((HMD.out.alloc _).grown hgrow (fun r hr => by have := hrow r hr; omega) hR)
              clear hownE hgrow hat hrow
              go_wp2
              go_roundw
              case rel => exact ⟨N + 1, g', cap', j - 1, ys ++ [(x, y, z - 14)], by go_num, by omega, by omega, rfl, by show World.ownsRow _ _ _ _ _ _ (v3 _); rw [v3_append]; exact HOE.out, HCE.out, HME.out.mono (by omega)⟩
              case measure => simp [intOf]; omega
            · have hjz : j = 0 := by omega
              subst hjz
              have HLY := Lib.hid (OwnB.len HO.out)
              have HINN := Lib.hid (show InnB (wi.alloc (.cells #[.slice (some ⟨g, 0, none⟩) N cv] 46)) (P + 1) (Value.slice C m d).ownBlock ((some ⟨g, 0, none⟩, cv), ys) from
                ⟨by show World.ownsRow _ _ _ _ (.slice _ _ _) _ _
                    rw [HLY.out]; exact own_base (HO.out.alloc _) (by omega), fun r hr e => by
                  have h1 : g = r := Option.some.inj hr
                  have h2 := HCb.out.1 r e
                  omega⟩)
              go_wp2_with (first
                | (at_builtin; refine wpl_app rowRB rfl _ _ (by rfl) (P + 1) _ m (vSB ps) (by rfl) (HCI.out.rows.own.alloc _) ⟨wi.heap.size, 0, none⟩ 1 1 [.slice (some ⟨g, 0, none⟩) N cv] (by rfl) rfl (cell_one_atB (by simp) _ _) (by intro u hu; simp at hu; subst hu; rfl) (by decide) (by omega) (by simp; omega) ?_
                   intro g' cap' wE hownE hgrow hat hltE
                   have HOE := Lib.hid hownE
                   have HGE := Lib.hid hgrow
                   have HAE := Lib.hid hat
                   clear hownE hgrow hat
                   have hPi2 : P < (wi.alloc (.cells #[.slice (some ⟨g, 0, none⟩) N cv] 46)).heap.size := by simp; omega
                   have hPr : ∀ r, (Value.slice C m d).ownBlock = some r → P + 1 ≤ r := fun r hr => (HCI.out.rows.own.lt r hr).1
                   have ff := (HGE.out.frozen_far ⟨P, 2, none⟩ hPi2 (fun e => by have := hPr P e.symm; omega)).trans ((World.frozen?_alloc_past _ _ _ hPi).trans f2)
                   have ee := HGE.out.cell (a := ⟨P, 2, none⟩) (keep ((Below.refl _ _).alloc (Nat.le_refl _) _) e2) (fun e => by have := hPr P e.symm; omega)))
              have HA := Lib.hid ((HCI.out.alloc (.cells #[.slice (some ⟨g, 0, none⟩) N cv] 46)).app HINN.out (by rw [show vSB [((some ⟨g, 0, none⟩, cv), ys)] = [.slice (some ⟨g, 0, none⟩) N cv] by show [Value.slice _ _ _] = _; rw [HLY.out]]; exact HOE.out) HGE.out (HAE.out.imp id (fun e => Nat.le_of_eq e.symm)))
              have HMA := Lib.hid (((HMI.out.alloc (.cells #[.slice (some ⟨g, 0, none⟩) N cv] 46)).grown HGE.out (fun r hr => by have := (HCI.out.rows.own.lt r hr).1; omega) hR).setNew (P := P) (by omega) hR 2 (.slice (some ⟨g', 0, none⟩) (m + 1) cap'))
              go_wp2
              go_roundw
              case rel => exact ⟨k - 1, m + 1, cap', _, _, by go_num, by omega, by omega, HA.out, (fun q hq => by
                rcases List.mem_append.1 hq with hq | hq
                · exact HL.out q hq
                · obtain rfl := List.mem_singleton.1 hq
                  show ys.length ≤ _
                  have := HLY.out; omega), HMA.out.mono (by omega)⟩
              case measure => simp [intOf]; omega
        · have hkz : k = 0 := by omega
          subst hkz
          go_wp2_with (fail)
          refine (odd_any R _ N0 _ HM.out.2 (by omega) hN0).mono ?_
          rintro e wO ⟨b, rfl, hmO, hsO⟩
          have HCO := Lib.hid (HC.out.mv hmO)
          have HMO := Lib.hid (HM.out.trans hmO)
          have hPo : P < wO.heap.size := HCO.out.blk.lt
          obtain ⟨e0, e1, e2, f0, f1, f2⟩ := HCO.out.cells
          have q0 := (HCO.out.res.cell 0).trans rfl
          have q1 := (HCO.out.res.cell 1).trans rfl
          have q2 := (HCO.out.res.cell 2).trans rfl
          have qf0 := HCO.out.res.frozen 0
          have qf1 := HCO.out.res.frozen 1
          have qf2 := HCO.out.res.frozen 2
          clear hmO hsO HC HM
          cases b with
          | false =>
            go_wp2_with (fail)
            obtain ⟨bs, ls, h1, h2, h3, h5⟩ := caseFin (i0 := 0) (i1 := 1) (i2 := 2) (v0 := .int .i64 pts) (v1 := .slice A 8 c) (v2 := .slice C m d) HCO.out HL.out HMO.out
            exact bodyPost_ret (v := .agg #[.int .i64 pts, .slice A 8 c, .slice C m d]) (by simp [results, Try.results62, go_sem, q0, q1, q2]) rfl ⟨_, _, _, _, bs, _, _, _, ls, rfl, by omega, by omega, h1, h2, h3, h5.mono (by omega)⟩
          | true =>
            have HWE := Lib.hid (show InnB ((wO.alloc (.cells #[] 95)).alloc (.cells #[.slice (some ⟨wO.heap.size, 0, none⟩) 0 0] 46)) (P + 1) (Value.slice C m d).ownBlock ((some ⟨wO.heap.size, 0, none⟩, 0), []) from
              ⟨own_below (own_lit_atB rfl (P + 1) 95 3 #[] 0 hPo (by decide) rfl) ((Below.refl _ _).alloc (Nat.le_refl _) _), fun r hr e => by
                have h1 : wO.heap.size = r := Option.some.inj hr
                have h2 := (HCO.out.rows.own.lt r e).2
                omega⟩)
            go_wp2_with (first
              | (at_builtin; refine wpl_app rowRB rfl _ _ (by rfl) (P + 1) _ m (vSB ps) (by rfl) ((HCO.out.rows.own.alloc _).alloc _) ⟨wO.heap.size + 1, 0, none⟩ 1 1 [.slice (some ⟨wO.heap.size, 0, none⟩) 0 0] (by rfl) rfl (cell_one_atB (by simp) _ _) (by intro u hu; simp at hu; subst hu; rfl) (by decide) (by omega) (by simp; omega) ?_
                 intro g' cap' wE hownE hgrow hat hltE
                 have HOE := Lib.hid hownE
                 have HGE := Lib.hid hgrow
                 have HAE := Lib.hid hat
                 clear hownE hgrow hat
                 have hbb : Below wO.heap.size wO ((wO.alloc (.cells #[] 95)).alloc (.cells #[.slice (some ⟨wO.heap.size, 0, none⟩) 0 0] 46)) := ((Below.refl _ _).alloc (Nat.le_refl _) _).alloc (by simp) _
                 have hPr : ∀ r, (Value.slice C m d).ownBlock = some r → P + 1 ≤ r := fun r hr => (HCO.out.rows.own.lt r hr).1
                 have hPi2 : P < ((wO.alloc (.cells #[] 95)).alloc (.cells #[.slice (some ⟨wO.heap.size, 0, none⟩) 0 0] 46)).heap.size := by simp; omega
                 have hQi2 : w.heap.size < ((wO.alloc (.cells #[] 95)).alloc (.cells #[.slice (some ⟨wO.heap.size, 0, none⟩) 0 0] 46)).heap.size := by simp; omega
                 have hQo : w.heap.size < wO.heap.size := by omega
                 have ff := (HGE.out.frozen_far ⟨P, 2, none⟩ hPi2 (fun e => by have := hPr P e.symm; omega)).trans ((hbb.frozen (p := ⟨P, 2, none⟩) hPo).trans f2)
                 have ee := HGE.out.cell (a := ⟨P, 2, none⟩) (keep hbb e2) (fun e => by have := hPr P e.symm; omega)
                 have ee0 := HGE.out.cell (a := ⟨P, 0, none⟩) (keep hbb e0) (fun e => by have := hPr P e.symm; omega)
                 have ee1 := HGE.out.cell (a := ⟨P, 1, none⟩) (keep hbb e1) (fun e => by have := hPr P e.symm; omega)
                 have qq0 := HGE.out.cell (a := ⟨w.heap.size, 0, none⟩) (keep hbb q0) (fun e => by have := hPr w.heap.size e.symm; omega)
                 have qq1 := HGE.out.cell (a := ⟨w.heap.size, 1, none⟩) (keep hbb q1) (fun e => by have := hPr w.heap.size e.symm; omega)
                 have qq2 := HGE.out.cell (a := ⟨w.heap.size, 2, none⟩) (keep hbb q2) (fun e => by have := hPr w.heap.size e.symm; omega)
                 have qg0 := (HGE.out.frozen_far ⟨w.heap.size, 0, none⟩ hQi2 (fun e => by have := hPr w.heap.size e.symm; omega)).trans ((hbb.frozen (p := ⟨w.heap.size, 0, none⟩) hQo).trans qf0)
                 have qg1 := (HGE.out.frozen_far ⟨w.heap.size, 1, none⟩ hQi2 (fun e => by have := hPr w.heap.size e.symm; omega)).trans ((hbb.frozen (p := ⟨w.heap.size, 1, none⟩) hQo).trans qf1)
                 have qg2 := (HGE.out.frozen_far ⟨w.heap.size, 2, none⟩ hQi2 (fun e => by have := hPr w.heap.size e.symm; omega)).trans ((hbb.frozen (p := ⟨w.heap.size, 2, none⟩) hQo).trans qf2)
                 have hQP : ¬ w.heap.size = P := by omega
                 have hPQ : ¬ P = w.heap.size := by omega))
            have HA := Lib.hid ((HCO.out.below hbb).app HWE.out HOE.out HGE.out (HAE.out.imp id (fun e => Nat.le_of_eq e.symm)))
            have HMA := Lib.hid (((HMO.out.below hbb).grown HGE.out (fun r hr => by have := hPr r hr; omega) hR).setNew (P := P) (by omega) hR 2 (.slice (some ⟨g', 0, none⟩) (m + 1) cap'))
            obtain ⟨bs, ls, h1, h2, h3, h5⟩ := caseFin (i0 := 0) (i1 := 1) (i2 := 2) (v0 := .int .i64 pts) (v1 := .slice A 8 c) (v2 := .slice (some ⟨g', 0, none⟩) (m + 1) cap') HA.out (fun q hq => by
              rcases List.mem_append.1 hq with hq | hq
              · exact HL.out q hq
              · obtain rfl := List.mem_singleton.1 hq
                show 0 ≤ _; omega) HMA.out
            exact bodyPost_ret (v := .agg #[.int .i64 pts, .slice A 8 c, .slice (some ⟨g', 0, none⟩) (m + 1) cap']) (by simp [results, Try.results62, go_sem, qq0, qq1, qq2, hQP, hPQ]) rfl ⟨_, _, _, _, bs, _, _, _, ls, rfl, by omega, by omega, h1, h2, h3, h5.mono (by omega)⟩
    · go_wp2_with (fail)
      rw [HW2.out]
      obtain ⟨P, HPP⟩ : ∃ q, Hid (w1.heap.size = q) := ⟨_, rfl⟩
      rw [HPP.out] at hqw
      have HCX := Lib.hid (HPP.out ▸ HC2.out)
      clear HC2
      rw [HPP.out]
      refine kPick (pick_any R _ 4 _ HMX.out.2 (by omega)) ?_
      intro k0 w3 hk1 hk2 hm3 hs3
      obtain ⟨hk0, hk3⟩ := hk1 (by omega)
      have HC3 := Lib.hid (HCX.out.mv hm3)
      have HM3 := Lib.hid (HMX.out.trans hm3)
      clear hk1 hk2 hm3 hs3
      go_wp2_with (fail)
      go_loopw [7] (fun i wr => ∃ (k : Int) (m d : Nat) (C : Option Addr) (ps : List PartB), i = .int .i64 k ∧ 0 ≤ k ∧ (m : Int) + k ≤ 3 ∧ CsAt wr R w.heap.size P pts A 8 c C m d ps ∧ (∀ q ∈ ps, q.2.length ≤ 1048576) ∧ Mv R (B + 82 + 20 * (3 - k)) w wr) (fun i _ => (intOf i).toNat)
      case atStart => exact ⟨k0, 0, 0, none, [], rfl, hk0, by omega, HC3.out, (fun q hq => by cases hq), HM3.out.mono (by omega)⟩
      case round =>
        obtain ⟨wo, rfl⟩ : ∃ wo : World, wo = wr := ⟨_, rfl⟩
        obtain ⟨k, m, d, C, ps, rfl, hk0', hmk, hc, hl, hm⟩ := hrel
        have HC := Lib.hid hc
        have HL := Lib.hid hl
        have HM := Lib.hid hm
        have hPl : P < wo.heap.size := hc.blk.lt
        obtain ⟨e0, e1, e2, f0, f1, f2⟩ := hc.cells
        clear hc hl hm HC3 HM3
        by_cases hlt : 0 < k
        · obtain ⟨B1, HB1⟩ : ∃ q, Hid (wo.heap.size = q) := ⟨_, rfl⟩
          have HPB : P < B1 := by have := HB1.out; omega
          have hwB : w.heap.size < B1 := by omega
          have HCb := Lib.hid (show (∀ k, (Value.slice C m d).ownBlock = some k → k < B1) ∧ (∀ q ∈ ps, ∀ k, (hdB q).ownBlock = some k → k < B1) from
            ⟨fun k hk => HB1.out ▸ (HC.out.rows.own.lt k hk).2, fun q hq k hk => HB1.out ▸ HC.out.rows.inner_lt q hq k hk⟩)
          go_wp2_with (fail)
          refine kPick (pick_any R _ 3 _ (HM.out.2.alloc _) (by omega)) ?_
          intro j0 wA hj1 hj2 hmA hsA
          obtain ⟨hj0, hj3⟩ := hj1 (by omega)
          have HOA := Lib.hid (own_mv (own_lit_atB HB1.out B1 95 3 #[] 0 (Nat.le_of_eq HB1.out.symm) (by decide) rfl) (by omega) hmA)
          have HCA := Lib.hid ((HC.out.alloc (.cells #[] 95)).mv hmA)
          have HMA := Lib.hid ((HM.out.alloc _).trans hmA)
          rw [HB1.out]
          clear hj1 hj2 hmA hsA
          go_wp2_with (fail)
          go_loopw [8, 9] (fun o i wr => ∃ (N g cv : Nat) (j : Int) (ys : List Bd), i = .int .i64 j ∧ 0 ≤ j ∧ (N : Int) + j ≤ 3 ∧ o = .slice (some ⟨g, 0, none⟩) N cv ∧ OwnB wr B1 (some ⟨g, 0, none⟩) N cv ys ∧ CsAt wr R w.heap.size P pts A 8 c C m d ps ∧ Mv R (B + 83 + 20 * (3 - k) + 3 * (3 - j)) w wr) (fun _ i _ => (intOf i).toNat)
          case atStart => exact ⟨0, B1, 0, 1 + j0, [], by go_num, by omega, by omega, rfl, HOA.out, HCA.out, HMA.out.mono (by omega)⟩
          case round =>
            obtain ⟨wi, rfl⟩ : ∃ wi : World, wi = wr := ⟨_, rfl⟩
            obtain ⟨N, g, cv, j, ys, rfl, hj0', hNj, rfl, ho, hc, hm⟩ := hrel
            have HO := Lib.hid ho
            have HCI := Lib.hid hc
            have HMI := Lib.hid hm
            have hgB : B1 ≤ g := (ho.lt g rfl).1
            have hgl : g < wi.heap.size := (ho.lt g rfl).2
            have hPi : P < wi.heap.size := hc.blk.lt
            obtain ⟨e0, e1, e2, f0, f1, f2⟩ := hc.cells
            clear ho hc hm HOA HCA HMA
            by_cases hlj : 0 < j
            · go_wp2_with (fail)
              refine kPick (pick_any R _ pts _ HMI.out.2 (by omega)) ?_
              intro x wB hq1 hq2 hmB hsB
              obtain ⟨hx0, hx1⟩ := hq1 (by omega)
              have HOB := Lib.hid (own_mv HO.out (by omega) hmB)
              have HCB := Lib.hid (HCI.out.mv hmB)
              have HMB := Lib.hid (HMI.out.trans hmB)
              clear hq1 hq2 hmB hsB
              go_wp2_with (fail)
              refine kPick (pick_any R _ pts _ HMB.out.2 (by omega)) ?_
              intro y wC hq1 hq2 hmC hsC
              obtain ⟨hy0, hy1⟩ := hq1 (by omega)
              have HOC := Lib.hid (own_mv HOB.out (by omega) hmC)
              have HCC := Lib.hid (HCB.out.mv hmC)
              have HMC := Lib.hid (HMB.out.trans hmC)
              clear hq1 hq2 hmC hsC
              go_wp2_with (fail)
              refine kPick (pick_any R _ 24 _ HMC.out.2 (by omega)) ?_
              intro z wD hq1 hq2 hmD hsD
              obtain ⟨hz0, hz1⟩ := hq1 (by omega)
              have HOD := Lib.hid (own_mv HOC.out (by omega) hmD)
              have HCD := Lib.hid (HCC.out.mv hmD)
              have HMD := Lib.hid (HMC.out.trans hmD)
              clear hq1 hq2 hmD hsD
              have hgD : g < wD.heap.size := (HOD.out.lt g rfl).2
              go_wp2_with (first
                | (at_builtin; refine wpl_app rowB rfl _ _ (by rfl) B1 _ N (v3 ys) (by rfl) (HOD.out.alloc _) ⟨wD.heap.size, 0, none⟩ 1 1 (v3 [(x, y, z - 14)]) (by rfl) rfl (cell3B (by simp) _ _) (v3_one _) (by decide) (by omega) (by simp; omega) ?_
                   intro g' cap' wE hownE hgrow hat hltE))
              have HOE := Lib.hid hownE
              have hrow : ∀ r, (Value.slice (some ⟨g, 0, none⟩) N cv).ownBlock = some r → B1 ≤ r := fun r hr => (HOD.out.lt r hr).1
              have HCE := Lib.hid ((HCD.out.alloc _).kept hgrow HPB HCb.out.1 HCb.out.2 (fun r hr => .inr (hrow r hr)))
              have HME := Lib.hid ((HMD.out.alloc _).grown hgrow (fun r hr => by have := hrow r hr; omega) hR)
              clear hownE hgrow hat hrow
              go_wp2
              go_roundw
              case rel => exact ⟨N + 1, g', cap', j - 1, ys ++ [(x, y, z - 14)], by go_num, by omega, by omega, rfl, by show World.ownsRow _ _ _ _ _ _ (v3 _); rw [v3_append]; exact HOE.out, HCE.out, HME.out.mono (by omega)⟩
              case measure => simp [intOf]; omega
            · have hjz : j = 0 := by omega
              subst hjz
              have HLY := Lib.hid (OwnB.len HO.out)
              have HINN := Lib.hid (show InnB (wi.alloc (.cells #[.slice (some ⟨g, 0, none⟩) N cv] 46)) (P + 1) (Value.slice C m d).ownBlock ((some ⟨g, 0, none⟩, cv), ys) from
                ⟨by show World.ownsRow _ _ _ _ (.slice _ _ _) _ _
                    rw [HLY.out]; exact own_base (HO.out.alloc _) (by omega), fun r hr e => by
                  have h1 : g = r := Option.some.inj hr
                  have h2 := HCb.out.1 r e
                  omega⟩)
              go_wp2_with (first
                | (at_builtin; refine wpl_app rowRB rfl _ _ (by rfl) (P + 1) _ m (vSB ps) (by rfl) (HCI.out.rows.own.alloc _) ⟨wi.heap.size, 0, none⟩ 1 1 [.slice (some ⟨g, 0, none⟩) N cv] (by rfl) rfl (cell_one_atB (by simp) _ _) (by intro u hu; simp at hu; subst hu; rfl) (by decide) (by omega) (by simp; omega) ?_
                   intro g' cap' wE hownE hgrow hat hltE
                   have HOE := Lib.hid hownE
                   have HGE := Lib.hid hgrow
                   have HAE := Lib.hid hat
                   clear hownE hgrow hat
                   have hPi2 : P < (wi.alloc (.cells #[.slice (some ⟨g, 0, none⟩) N cv] 46)).heap.size := by simp; omega
                   have hPr : ∀ r, (Value.slice C m d).ownBlock = some r → P + 1 ≤ r := fun r hr => (HCI.out.rows.own.lt r hr).1
                   have ff := (HGE.out.frozen_far ⟨P, 2, none⟩ hPi2 (fun e => by have := hPr P e.symm; omega)).trans ((World.frozen?_alloc_past _ _ _ hPi).trans f2)
                   have ee := HGE.out.cell (a := ⟨P, 2, none⟩) (keep ((Below.refl _ _).alloc (Nat.le_refl _) _) e2) (fun e => by have := hPr P e.symm; omega)))
              have HA := Lib.hid ((HCI.out.alloc (.cells #[.slice (some ⟨g, 0, none⟩) N cv] 46)).app HINN.out (by rw [show vSB [((some ⟨g, 0, none⟩, cv), ys)] = [.slice (some ⟨g, 0, none⟩) N cv] by show [Value.slice _ _ _] = _; rw [HLY.out]]; exact HOE.out) HGE.out (HAE.out.imp id (fun e => Nat.le_of_eq e.symm)))
              have HMA := Lib.hid (((HMI.out.alloc (.cells #[.slice (some ⟨g, 0, none⟩) N cv] 46)).grown HGE.out (fun r hr => by have := (HCI.out.rows.own.lt r hr).1; omega) hR).setNew (P := P) (by omega) hR 2 (.slice (some ⟨g', 0, none⟩) (m + 1) cap'))
              go_wp2
              go_roundw
              case rel => exact ⟨k - 1, m + 1, cap', _, _, by go_num, by omega, by omega, HA.out, (fun q hq => by
                rcases List.mem_append.1 hq with hq | hq
                · exact HL.out q hq
                · obtain rfl := List.mem_singleton.1 hq
                  show ys.length ≤ _
                  have := HLY.out; omega), HMA.out.mono (by omega)⟩
              case measure => simp [intOf]; omega
        · have hkz : k = 0 := by omega
          subst hkz
          go_wp2_with (fail)
          refine (odd_any R _ N0 _ HM.out.2 (by omega) hN0).mono ?_
          rintro e wO ⟨b, rfl, hmO, hsO⟩
          have HCO := Lib.hid (HC.out.mv hmO)
          have HMO := Lib.hid (HM.out.trans hmO)
          have hPo : P < wO.heap.size := HCO.out.blk.lt
          obtain ⟨e0, e1, e2, f0, f1, f2⟩ := HCO.out.cells
          have q0 := (HCO.out.res.cell 0).trans rfl
          have q1 := (HCO.out.res.cell 1).trans rfl
          have q2 := (HCO.out.res.cell 2).trans rfl
          have qf0 := HCO.out.res.frozen 0
          have qf1 := HCO.out.res.frozen 1
          have qf2 := HCO.out.res.frozen 2
          clear hmO hsO HC HM
          cases b with
          | false =>
            go_wp2_with (fail)
            obtain ⟨bs, ls, h1, h2, h3, h5⟩ := caseFin (i0 := 0) (i1 := 1) (i2 := 2) (v0 := .int .i64 pts) (v1 := .slice A 8 c) (v2 := .slice C m d) HCO.out HL.out HMO.out
            exact bodyPost_ret (v := .agg #[.int .i64 pts, .slice A 8 c, .slice C m d]) (by simp [results, Try.results62, go_sem, q0, q1, q2]) rfl ⟨_, _, _, _, bs, _, _, _, ls, rfl, by omega, by omega, h1, h2, h3, h5.mono (by omega)⟩
          | true =>
            have HWE := Lib.hid (show InnB ((wO.alloc (.cells #[] 95)).alloc (.cells #[.slice (some ⟨wO.heap.size, 0, none⟩) 0 0] 46)) (P + 1) (Value.slice C m d).ownBlock ((some ⟨wO.heap.size, 0, none⟩, 0), []) from
              ⟨own_below (own_lit_atB rfl (P + 1) 95 3 #[] 0 hPo (by decide) rfl) ((Below.refl _ _).alloc (Nat.le_refl _) _), fun r hr e => by
                have h1 : wO.heap.size = r := Option.some.inj hr
                have h2 := (HCO.out.rows.own.lt r e).2
                omega⟩)
            go_wp2_with (first
              | (at_builtin; refine wpl_app rowRB rfl _ _ (by rfl) (P + 1) _ m (vSB ps) (by rfl) ((HCO.out.rows.own.alloc _).alloc _) ⟨wO.heap.size + 1, 0, none⟩ 1 1 [.slice (some ⟨wO.heap.size, 0, none⟩) 0 0] (by rfl) rfl (cell_one_atB (by simp) _ _) (by intro u hu; simp at hu; subst hu; rfl) (by decide) (by omega) (by simp; omega) ?_
                 intro g' cap' wE hownE hgrow hat hltE
                 have HOE := Lib.hid hownE
                 have HGE := Lib.hid hgrow
                 have HAE := Lib.hid hat
                 clear hownE hgrow hat
                 have hbb : Below wO.heap.size wO ((wO.alloc (.cells #[] 95)).alloc (.cells #[.slice (some ⟨wO.heap.size, 0, none⟩) 0 0] 46)) := ((Below.refl _ _).alloc (Nat.le_refl _) _).alloc (by simp) _
                 have hPr : ∀ r, (Value.slice C m d).ownBlock = some r → P + 1 ≤ r := fun r hr => (HCO.out.rows.own.lt r hr).1
                 have hPi2 : P < ((wO.alloc (.cells #[] 95)).alloc (.cells #[.slice (some ⟨wO.heap.size, 0, none⟩) 0 0] 46)).heap.size := by simp; omega
                 have hQi2 : w.heap.size < ((wO.alloc (.cells #[] 95)).alloc (.cells #[.slice (some ⟨wO.heap.size, 0, none⟩) 0 0] 46)).heap.size := by simp; omega
                 have hQo : w.heap.size < wO.heap.size := by omega
                 have ff := (HGE.out.frozen_far ⟨P, 2, none⟩ hPi2 (fun e => by have := hPr P e.symm; omega)).trans ((hbb.frozen (p := ⟨P, 2, none⟩) hPo).trans f2)
                 have ee := HGE.out.cell (a := ⟨P, 2, none⟩) (keep hbb e2) (fun e => by have := hPr P e.symm; omega)
                 have ee0 := HGE.out.cell (a := ⟨P, 0, none⟩) (keep hbb e0) (fun e => by have := hPr P e.symm; omega)
                 have ee1 := HGE.out.cell (a := ⟨P, 1, none⟩) (keep hbb e1) (fun e => by have := hPr P e.symm; omega)
                 have qq0 := HGE.out.cell (a := ⟨w.heap.size, 0, none⟩) (keep hbb q0) (fun e => by have := hPr w.heap.size e.symm; omega)
                 have qq1 := HGE.out.cell (a := ⟨w.heap.size, 1, none⟩) (keep hbb q1) (fun e => by have := hPr w.heap.size e.symm; omega)
                 have qq2 := HGE.out.cell (a := ⟨w.heap.size, 2, none⟩) (keep hbb q2) (fun e => by have := hPr w.heap.size e.symm; omega)
                 have qg0 := (HGE.out.frozen_far ⟨w.heap.size, 0, none⟩ hQi2 (fun e => by have := hPr w.heap.size e.symm; omega)).trans ((hbb.frozen (p := ⟨w.heap.size, 0, none⟩) hQo).trans qf0)
                 have qg1 := (HGE.out.frozen_far ⟨w.heap.size, 1, none⟩ hQi2 (fun e => by have := hPr w.heap.size e.symm; omega)).trans ((hbb.frozen (p := ⟨w.heap.size, 1, none⟩) hQo).trans qf1)
                 have qg2 := (HGE.out.frozen_far ⟨w.heap.size, 2, none⟩ hQi2 (fun e => by have := hPr w.heap.size e.symm; omega)).trans ((hbb.frozen (p := ⟨w.heap.size, 2, none⟩) hQo).trans qf2)
                 have hQP : ¬ w.heap.size = P := by omega
                 have hPQ : ¬ P = w.heap.size := by omega))
            have HA := Lib.hid ((HCO.out.below hbb).app HWE.out HOE.out HGE.out (HAE.out.imp id (fun e => Nat.le_of_eq e.symm)))
            have HMA := Lib.hid (((HMO.out.below hbb).grown HGE.out (fun r hr => by have := hPr r hr; omega) hR).setNew (P := P) (by omega) hR 2 (.slice (some ⟨g', 0, none⟩) (m + 1) cap'))
            obtain ⟨bs, ls, h1, h2, h3, h5⟩ := caseFin (i0 := 0) (i1 := 1) (i2 := 2) (v0 := .int .i64 pts) (v1 := .slice A 8 c) (v2 := .slice (some ⟨g', 0, none⟩) (m + 1) cap') HA.out (fun q hq => by
              rcases List.mem_append.1 hq with hq | hq
              · exact HL.out q hq
              · obtain rfl := List.mem_singleton.1 hq
                show 0 ≤ _; omega) HMA.out
            exact bodyPost_ret (v := .agg #[.int .i64 pts, .slice A 8 c, .slice (some ⟨g', 0, none⟩) (m + 1) cap']) (by simp [results, Try.results62, go_sem, qq0, qq1, qq2, hQP, hPQ]) rfl ⟨_, _, _, _, bs, _, _, _, ls, rfl, by omega, by omega, h1, h2, h3, h5.mono (by omega)⟩
  · -- bounds: n
    have HC1 := Lib.hid (show CsAt (w1.alloc (.cells #[.int .i64 pts, .slice A n c, .slice none 0 0] 51)) R w.heap.size w1.heap.size pts A n c none 0 0 [] from
      ⟨hR, hqw, HQ1.out.below ((Below.refl _ _).alloc (Nat.le_refl _) _) hqw, Blk.new _ _ _, ⟨_, (((OwnB.at_ HOX.out).below ((Below.refl _ _).alloc (Nat.le_refl _) _)).cut (k := n) (by omega))⟩, fun a ha => by
        have hob : (Value.slice A n c).ownBlock = some a.block := by subst ha; rfl
        have := HOX.out.lt _ hob; simp at this; omega, RowsBB.nil _ _⟩)
    obtain ⟨w2, HW2⟩ : ∃ q, Hid (w1.alloc (.cells #[.int .i64 pts, .slice A n c, .slice none 0 0] 51) = q) := ⟨_, rfl⟩
    have HC2 := Lib.hid (HW2.out ▸ HC1.out)
    have HMX := Lib.hid (show Mv R (B + 1 + 80) w w2 from HW2.out ▸ HM1.out.alloc _)
    clear HC1
    by_cases hpts : pts < 1
    · go_wp2_with (fail)
      rw [HW2.out]
      obtain ⟨P, HPP⟩ : ∃ q, Hid (w1.heap.size = q) := ⟨_, rfl⟩
      rw [HPP.out] at hqw
      have HCX := Lib.hid (HPP.out ▸ HC2.out)
      clear HC2
      rw [HPP.out]
      refine kPick (pick_any R _ 4 _ HMX.out.2 (by omega)) ?_
      intro k0 w3 hk1 hk2 hm3 hs3
      obtain ⟨hk0, hk3⟩ := hk1 (by omega)
      have HC3 := Lib.hid (HCX.out.mv hm3)
      have HM3 := Lib.hid (HMX.out.trans hm3)
      clear hk1 hk2 hm3 hs3
      go_wp2_with (fail)
      go_loopw [7] (fun i wr => ∃ (k : Int) (m d : Nat) (C : Option Addr) (ps : List PartB), i = .int .i64 k ∧ 0 ≤ k ∧ (m : Int) + k ≤ 3 ∧ CsAt wr R w.heap.size P pts A n c C m d ps ∧ (∀ q ∈ ps, q.2.length ≤ 1048576) ∧ Mv R (B + 82 + 20 * (3 - k)) w wr) (fun i _ => (intOf i).toNat)
      case atStart => exact ⟨k0, 0, 0, none, [], rfl, hk0, by omega, HC3.out, (fun q hq => by cases hq), HM3.out.mono (by omega)⟩
      case round =>
        obtain ⟨wo, rfl⟩ : ∃ wo : World, wo = wr := ⟨_, rfl⟩
        obtain ⟨k, m, d, C, ps, rfl, hk0', hmk, hc, hl, hm⟩ := hrel
        have HC := Lib.hid hc
        have HL := Lib.hid hl
        have HM := Lib.hid hm
        have hPl : P < wo.heap.size := hc.blk.lt
        obtain ⟨e0, e1, e2, f0, f1, f2⟩ := hc.cells
        clear hc hl hm HC3 HM3
        by_cases hlt : 0 < k
        · obtain ⟨B1, HB1⟩ : ∃ q, Hid (wo.heap.size = q) := ⟨_, rfl⟩
          have HPB : P < B1 := by have := HB1.out; omega
          have hwB : w.heap.size < B1 := by omega
          have HCb := Lib.hid (show (∀ k, (Value.slice C m d).ownBlock = some k → k < B1) ∧ (∀ q ∈ ps, ∀ k, (hdB q).ownBlock = some k → k < B1) from
            ⟨fun k hk => HB1.out ▸ (HC.out.rows.own.lt k hk).2, fun q hq k hk => HB1.out ▸ HC.out.rows.inner_lt q hq k hk⟩)
          go_wp2_with (fail)
          refine kPick (pick_any R _ 3 _ (HM.out.2.alloc _) (by omega)) ?_
          intro j0 wA hj1 hj2 hmA hsA
          obtain ⟨hj0, hj3⟩ := hj1 (by omega)
          have HOA := Lib.hid (own_mv (own_lit_atB HB1.out B1 95 3 #[] 0 (Nat.le_of_eq HB1.out.symm) (by decide) rfl) (by omega) hmA)
          have HCA := Lib.hid ((HC.out.alloc (.cells #[] 95)).mv hmA)
          have HMA := Lib.hid ((HM.out.alloc _).trans hmA)
          rw [HB1.out]
          clear hj1 hj2 hmA hsA
          go_wp2_with (fail)
          go_loopw [8, 9] (fun o i wr => ∃ (N g cv : Nat) (j : Int) (ys : List Bd), i = .int .i64 j ∧ 0 ≤ j ∧ (N : Int) + j ≤ 3 ∧ o = .slice (some ⟨g, 0, none⟩) N cv ∧ OwnB wr B1 (some ⟨g, 0, none⟩) N cv ys ∧ CsAt wr R w.heap.size P pts A n c C m d ps ∧ Mv R (B + 83 + 20 * (3 - k) + 3 * (3 - j)) w wr) (fun _ i _ => (intOf i).toNat)
          case atStart => exact ⟨0, B1, 0, 1 + j0, [], by go_num, by omega, by omega, rfl, HOA.out, HCA.out, HMA.out.mono (by omega)⟩
          case round =>
            obtain ⟨wi, rfl⟩ : ∃ wi : World, wi = wr := ⟨_, rfl⟩
            obtain ⟨N, g, cv, j, ys, rfl, hj0', hNj, rfl, ho, hc, hm⟩ := hrel
            have HO := Lib.hid ho
            have HCI := Lib.hid hc
            have HMI := Lib.hid hm
            have hgB : B1 ≤ g := (ho.lt g rfl).1
            have hgl : g < wi.heap.size := (ho.lt g rfl).2
            have hPi : P < wi.heap.size := hc.blk.lt
            obtain ⟨e0, e1, e2, f0, f1, f2⟩ := hc.cells
            clear ho hc hm HOA HCA HMA
            by_cases hlj : 0 < j
            · go_wp2_with (fail)
              refine kPick (pick_any R _ 1 _ HMI.out.2 (by omega)) ?_
              intro x wB hq1 hq2 hmB hsB
              obtain ⟨hx0, hx1⟩ := hq1 (by omega)
              have HOB := Lib.hid (own_mv HO.out (by omega) hmB)
              have HCB := Lib.hid (HCI.out.mv hmB)
              have HMB := Lib.hid (HMI.out.trans hmB)
              clear hq1 hq2 hmB hsB
              go_wp2_with (fail)
              refine kPick (pick_any R _ 1 _ HMB.out.2 (by omega)) ?_
              intro y wC hq1 hq2 hmC hsC
              obtain ⟨hy0, hy1⟩ := hq1 (by omega)
              have HOC := Lib.hid (own_mv HOB.out (by omega) hmC)
              have HCC := Lib.hid (HCB.out.mv hmC)
              have HMC := Lib.hid (HMB.out.trans hmC)
              clear hq1 hq2 hmC hsC
              go_wp2_with (fail)
              refine kPick (pick_any R _ 24 _ HMC.out.2 (by omega)) ?_
              intro z wD hq1 hq2 hmD hsD
              obtain ⟨hz0, hz1⟩ := hq1 (by omega)
              have HOD := Lib.hid (own_mv HOC.out (by omega) hmD)
              have HCD := Lib.hid (HCC.out.mv hmD)
              have HMD := Lib.hid (HMC.out.trans hmD)
              clear hq1 hq2 hmD hsD
              have hgD : g < wD.heap.size := (HOD.out.lt g rfl).2
              go_wp2_with (first
                | (at_builtin; refine wpl_app rowB rfl _ _ (by rfl) B1 _ N (v3 ys) (by rfl) (HOD.out.alloc _) ⟨wD.heap.size, 0, none⟩ 1 1 (v3 [(x, y, z - 14)]) (by rfl) rfl (cell3B (by simp) _ _) (v3_one _) (by decide) (by omega) (by simp; omega) ?_
                   intro g' cap' wE hownE hgrow hat hltE))
              have HOE := Lib.hid hownE
              have hrow : ∀ r, (Value.slice (some ⟨g, 0, none⟩) N cv).ownBlock = some r → B1 ≤ r := fun r hr => (HOD.out.lt r hr).1
              have HCE := Lib.hid ((HCD.out.alloc _).kept hgrow HPB HCb.out.1 HCb.out.2 (fun r hr => .inr (hrow r hr)))
              have HME := Lib.hid ((HMD.out.alloc _).grown hgrow (fun r hr => by have := hrow r hr; omega) hR)
              clear hownE hgrow hat hrow
              go_wp2
              go_roundw
              case rel => exact ⟨N + 1, g', cap', j - 1, ys ++ [(x, y, z - 14)], by go_num, by omega, by omega, rfl, by show World.ownsRow _ _ _ _ _ _ (v3 _); rw [v3_append]; exact HOE.out, HCE.out, HME.out.mono (by omega)⟩
              case measure => simp [intOf]; omega
            · have hjz : j = 0 := by omega
              subst hjz
              have HLY := Lib.hid (OwnB.len HO.out)
              have HINN := Lib.hid (show InnB (wi.alloc (.cells #[.slice (some ⟨g, 0, none⟩) N cv] 46)) (P + 1) (Value.slice C m d).ownBlock ((some ⟨g, 0, none⟩, cv), ys) from
                ⟨by show World.ownsRow _ _ _ _ (.slice _ _ _) _ _
                    rw [HLY.out]; exact own_base (HO.out.alloc _) (by omega), fun r hr e => by
                  have h1 : g = r := Option.some.inj hr
                  have h2 := HCb.out.1 r e
                  omega⟩)
              go_wp2_with (first
                | (at_builtin; refine wpl_app rowRB rfl _ _ (by rfl) (P + 1) _ m (vSB ps) (by rfl) (HCI.out.rows.own.alloc _) ⟨wi.heap.size, 0, none⟩ 1 1 [.slice (some ⟨g, 0, none⟩) N cv] (by rfl) rfl (cell_one_atB (by simp) _ _) (by intro u hu; simp at hu; subst hu; rfl) (by decide) (by omega) (by simp; omega) ?_
                   intro g' cap' wE hownE hgrow hat hltE
                   have HOE := Lib.hid hownE
                   have HGE := Lib.hid hgrow
                   have HAE := Lib.hid hat
                   clear hownE hgrow hat
                   have hPi2 : P < (wi.alloc (.cells #[.slice (some ⟨g, 0, none⟩) N cv] 46)).heap.size := by simp; omega
                   have hPr : ∀ r, (Value.slice C m d).ownBlock = some r → P + 1 ≤ r := fun r hr => (HCI.out.rows.own.lt r hr).1
                   have ff := (HGE.out.frozen_far ⟨P, 2, none⟩ hPi2 (fun e => by have := hPr P e.symm; omega)).trans ((World.frozen?_alloc_past _ _ _ hPi).trans f2)
                   have ee := HGE.out.cell (a := ⟨P, 2, none⟩) (keep ((Below.refl _ _).alloc (Nat.le_refl _) _) e2) (fun e => by have := hPr P e.symm; omega)))
              have HA := Lib.hid ((HCI.out.alloc (.cells #[.slice (some ⟨g, 0, none⟩) N cv] 46)).app HINN.out (by rw [show vSB [((some ⟨g, 0, none⟩, cv), ys)] = [.slice (some ⟨g, 0, none⟩) N cv] by show [Value.slice _ _ _] = _; rw [HLY.out]]; exact HOE.out) HGE.out (HAE.out.imp id (fun e => Nat.le_of_eq e.symm)))
              have HMA := Lib.hid (((HMI.out.alloc (.cells #[.slice (some ⟨g, 0, none⟩) N cv] 46)).grown HGE.out (fun r hr => by have := (HCI.out.rows.own.lt r hr).1; omega) hR).setNew (P := P) (by omega) hR 2 (.slice (some ⟨g', 0, none⟩) (m + 1) cap'))
              go_wp2
              go_roundw
              case rel => exact ⟨k - 1, m + 1, cap', _, _, by go_num, by omega, by omega, HA.out, (fun q hq => by
                rcases List.mem_append.1 hq with hq | hq
                · exact HL.out q hq
                · obtain rfl := List.mem_singleton.1 hq
                  show ys.length ≤ _
                  have := HLY.out; omega), HMA.out.mono (by omega)⟩
              case measure => simp [intOf]; omega
        · have hkz : k = 0 := by omega
          subst hkz
          go_wp2_with (fail)
          refine (odd_any R _ N0 _ HM.out.2 (by omega) hN0).mono ?_
          rintro e wO ⟨b, rfl, hmO, hsO⟩
          have HCO := Lib.hid (HC.out.mv hmO)
          have HMO := Lib.hid (HM.out.trans hmO)
          have hPo : P < wO.heap.size := HCO.out.blk.lt
          obtain ⟨e0, e1, e2, f0, f1, f2⟩ := HCO.out.cells
          have q0 := (HCO.out.res.cell 0).trans rfl
          have q1 := (HCO.out.res.cell 1).trans rfl
          have q2 := (HCO.out.res.cell 2).trans rfl
          have qf0 := HCO.out.res.frozen 0
          have qf1 := HCO.out.res.frozen 1
          have qf2 := HCO.out.res.frozen 2
          clear hmO hsO HC HM
          cases b with
          | false =>
            go_wp2_with (fail)
            obtain ⟨bs, ls, h1, h2, h3, h5⟩ := caseFin (i0 := 0) (i1 := 1) (i2 := 2) (v0 := .int .i64 pts) (v1 := .slice A n c) (v2 := .slice C m d) HCO.out HL.out HMO.out
            exact bodyPost_ret (v := .agg #[.int .i64 pts, .slice A n c, .slice C m d]) (by simp [results, Try.results62, go_sem, q0, q1, q2]) rfl ⟨_, _, _, _, bs, _, _, _, ls, rfl, by omega, by omega, h1, h2, h3, h5.mono (by omega)⟩
          | true =>
            have HWE := Lib.hid (show InnB ((wO.alloc (.cells #[] 95)).alloc (.cells #[.slice (some ⟨wO.heap.size, 0, none⟩) 0 0] 46)) (P + 1) (Value.slice C m d).ownBlock ((some ⟨wO.heap.size, 0, none⟩, 0), []) from
              ⟨own_below (own_lit_atB rfl (P + 1) 95 3 #[] 0 hPo (by decide) rfl) ((Below.refl _ _).alloc (Nat.le_refl _) _), fun r hr e => by
                have h1 : wO.heap.size = r := Option.some.inj hr
                have h2 := (HCO.out.rows.own.lt r e).2
                omega⟩)
            go_wp2_with (first
              | (at_builtin; refine wpl_app rowRB rfl _ _ (by rfl) (P + 1) _ m (vSB ps) (by rfl) ((HCO.out.rows.own.alloc _).alloc _) ⟨wO.heap.size + 1, 0, none⟩ 1 1 [.slice (some ⟨wO.heap.size, 0, none⟩) 0 0] (by rfl) rfl (cell_one_atB (by simp) _ _) (by intro u hu; simp at hu; subst hu; rfl) (by decide) (by omega) (by simp; omega) ?_
                 intro g' cap' wE hownE hgrow hat hltE
                 have HOE := Lib.hid hownE
                 have HGE := Lib.hid hgrow
                 have HAE := Lib.hid hat
                 clear hownE hgrow hat
                 have hbb : Below wO.heap.size wO ((wO.alloc (.cells #[] 95)).alloc (.cells #[.slice (some ⟨wO.heap.size, 0, none⟩) 0 0] 46)) := ((Below.refl _ _).alloc (Nat.le_refl _) _).alloc (by simp) _
                 have hPr : ∀ r, (Value.slice C m d).ownBlock = some r → P + 1 ≤ r := fun r hr => (HCO.out.rows.own.lt r hr).1
                 have hPi2 : P < ((wO.alloc (.cells #[] 95)).alloc (.cells #[.slice (some ⟨wO.heap.size, 0, none⟩) 0 0] 46)).heap.size := by simp; omega
                 have hQi2 : w.heap.size < ((wO.alloc (.cells #[] 95)).alloc (.cells #[.slice (some ⟨wO.heap.size, 0, none⟩) 0 0] 46)).heap.size := by simp; omega
                 have hQo : w.heap.size < wO.heap.size := by omega
                 have ff := (HGE.out.frozen_far ⟨P, 2, none⟩ hPi2 (fun e => by have := hPr P e.symm; omega)).trans ((hbb.frozen (p := ⟨P, 2, none⟩) hPo).trans f2)
                 have ee := HGE.out.cell (a := ⟨P, 2, none⟩) (keep hbb e2) (fun e => by have := hPr P e.symm; omega)
                 have ee0 := HGE.out.cell (a := ⟨P, 0, none⟩) (keep hbb e0) (fun e => by have := hPr P e.symm; omega)
                 have ee1 := HGE.out.cell (a := ⟨P, 1, none⟩) (keep hbb e1) (fun e => by have := hPr P e.symm; omega)
                 have qq0 := HGE.out.cell (a := ⟨w.heap.size, 0, none⟩) (keep hbb q0) (fun e => by have := hPr w.heap.size e.symm; omega)
                 have qq1 := HGE.out.cell (a := ⟨w.heap.size, 1, none⟩) (keep hbb q1) (fun e => by have := hPr w.heap.size e.symm; omega)
                 have qq2 := HGE.out.cell (a := ⟨w.heap.size, 2, none⟩) (keep hbb q2) (fun e => by have := hPr w.heap.size e.symm; omega)
                 have qg0 := (HGE.out.frozen_far ⟨w.heap.size, 0, none⟩ hQi2 (fun e => by have := hPr w.heap.size e.symm; omega)).trans ((hbb.frozen (p := ⟨w.heap.size, 0, none⟩) hQo).trans qf0)
                 have qg1 := (HGE.out.frozen_far ⟨w.heap.size, 1, none⟩ hQi2 (fun e => by have := hPr w.heap.size e.symm; omega)).trans ((hbb.frozen (p := ⟨w.heap.size, 1, none⟩) hQo).trans qf1)
                 have qg2 := (HGE.out.frozen_far ⟨w.heap.size, 2, none⟩ hQi2 (fun e => by have := hPr w.heap.size e.symm; omega)).trans ((hbb.frozen (p := ⟨w.heap.size, 2, none⟩) hQo).trans qf2)
                 have hQP : ¬ w.heap.size = P := by omega
                 have hPQ : ¬ P = w.heap.size := by omega))
            have HA := Lib.hid ((HCO.out.below hbb).app HWE.out HOE.out HGE.out (HAE.out.imp id (fun e => Nat.le_of_eq e.symm)))
            have HMA := Lib.hid (((HMO.out.below hbb).grown HGE.out (fun r hr => by have := hPr r hr; omega) hR).setNew (P := P) (by omega) hR 2 (.slice (some ⟨g', 0, none⟩) (m + 1) cap'))
            obtain ⟨bs, ls, h1, h2, h3, h5⟩ := caseFin (i0 := 0) (i1 := 1) (i2 := 2) (v0 := .int .i64 pts) (v1 := .slice A n c) (v2 := .slice (some ⟨g', 0, none⟩) (m + 1) cap') HA.out (fun q hq => by
              rcases List.mem_append.1 hq with hq | hq
              · exact HL.out q hq
              · obtain rfl := List.mem_singleton.1 hq
                show 0 ≤ _; omega) HMA.out
            exact bodyPost_ret (v := .agg #[.int .i64 pts, .slice A n c, .slice (some ⟨g', 0, none⟩) (m + 1) cap']) (by simp [results, Try.results62, go_sem, qq0, qq1, qq2, hQP, hPQ]) rfl ⟨_, _, _, _, bs, _, _, _, ls, rfl, by omega, by omega, h1, h2, h3, h5.mono (by omega)⟩
    · go_wp2_with (fail)
      rw [HW2.out]
      obtain ⟨P, HPP⟩ : ∃ q, Hid (w1.heap.size = q) := ⟨_, rfl⟩
      rw [HPP.out] at hqw
      have HCX := Lib.hid (HPP.out ▸ HC2.out)
      clear HC2
      rw [HPP.out]
      refine kPick (pick_any R _ 4 _ HMX.out.2 (by omega)) ?_
      intro k0 w3 hk1 hk2 hm3 hs3
      obtain ⟨hk0, hk3⟩ := hk1 (by omega)
      have HC3 := Lib.hid (HCX.out.mv hm3)
      have HM3 := Lib.hid (HMX.out.trans hm3)
      clear hk1 hk2 hm3 hs3
      go_wp2_with (fail)
      go_loopw [7] (fun i wr => ∃ (k : Int) (m d : Nat) (C : Option Addr) (ps : List PartB), i = .int .i64 k ∧ 0 ≤ k ∧ (m : Int) + k ≤ 3 ∧ CsAt wr R w.heap.size P pts A n c C m d ps ∧ (∀ q ∈ ps, q.2.length ≤ 1048576) ∧ Mv R (B + 82 + 20 * (3 - k)) w wr) (fun i _ => (intOf i).toNat)
      case atStart => exact ⟨k0, 0, 0, none, [], rfl, hk0, by omega, HC3.out, (fun q hq => by cases hq), HM3.out.mono (by omega)⟩
      case round =>
        obtain ⟨wo, rfl⟩ : ∃ wo : World, wo = wr := ⟨_, rfl⟩
        obtain ⟨k, m, d, C, ps, rfl, hk0', hmk, hc, hl, hm⟩ := hrel
        have HC := Lib.hid hc
        have HL := Lib.hid hl
        have HM := Lib.hid hm
        have hPl : P < wo.heap.size := hc.blk.lt
        obtain ⟨e0, e1, e2, f0, f1, f2⟩ := hc.cells
        clear hc hl hm HC3 HM3
        by_cases hlt : 0 < k
        · obtain ⟨B1, HB1⟩ : ∃ q, Hid (wo.heap.size = q) := ⟨_, rfl⟩
          have HPB : P < B1 := by have := HB1.out; omega
          have hwB : w.heap.size < B1 := by omega
          have HCb := Lib.hid (show (∀ k, (Value.slice C m d).ownBlock = some k → k < B1) ∧ (∀ q ∈ ps, ∀ k, (hdB q).ownBlock = some k → k < B1) from
            ⟨fun k hk => HB1.out ▸ (HC.out.rows.own.lt k hk).2, fun q hq k hk => HB1.out ▸ HC.out.rows.inner_lt q hq k hk⟩)
          go_wp2_with (fail)
          refine kPick (pick_any R _ 3 _ (HM.out.2.alloc _) (by omega)) ?_
          intro j0 wA hj1 hj2 hmA hsA
          obtain ⟨hj0, hj3⟩ := hj1 (by omega)
          have HOA := Lib.hid (own_mv (own_lit_atB HB1.out B1 95 3 #[] 0 (Nat.le_of_eq HB1.out.symm) (by decide) rfl) (by omega) hmA)
          have HCA := Lib.hid ((HC.out.alloc (.cells #[] 95)).mv hmA)
          have HMA := Lib.hid ((HM.out.alloc _).trans hmA)
          rw [HB1.out]
          clear hj1 hj2 hmA hsA
          go_wp2_with (fail)
          go_loopw [8, 9] (fun o i wr => ∃ (N g cv : Nat) (j : Int) (ys : List Bd), i = .int .i64 j ∧ 0 ≤ j ∧ (N : Int) + j ≤ 3 ∧ o = .slice (some ⟨g, 0, none⟩) N cv ∧ OwnB wr B1 (some ⟨g, 0, none⟩) N cv ys ∧ CsAt wr R w.heap.size P pts A n c C m d ps ∧ Mv R (B + 83 + 20 * (3 - k) + 3 * (3 - j)) w wr) (fun _ i _ => (intOf i).toNat)
          case atStart => exact ⟨0, B1, 0, 1 + j0, [], by go_num, by omega, by omega, rfl, HOA.out, HCA.out, HMA.out.mono (by omega)⟩
          case round =>
            obtain ⟨wi, rfl⟩ : ∃ wi : World, wi = wr := ⟨_, rfl⟩
            obtain ⟨N, g, cv, j, ys, rfl, hj0', hNj, rfl, ho, hc, hm⟩ := hrel
            have HO := Lib.hid ho
            have HCI := Lib.hid hc
            have HMI := Lib.hid hm
            have hgB : B1 ≤ g := (ho.lt g rfl).1
            have hgl : g < wi.heap.size := (ho.lt g rfl).2
            have hPi : P < wi.heap.size := hc.blk.lt
            obtain ⟨e0, e1, e2, f0, f1, f2⟩ := hc.cells
            clear ho hc hm HOA HCA HMA
            by_cases hlj : 0 < j
            · go_wp2_with (fail)
              refine kPick (pick_any R _ pts _ HMI.out.2 (by omega)) ?_
              intro x wB hq1 hq2 hmB hsB
              obtain ⟨hx0, hx1⟩ := hq1 (by omega)
              have HOB := Lib.hid (own_mv HO.out (by omega) hmB)
              have HCB := Lib.hid (HCI.out.mv hmB)
              have HMB := Lib.hid (HMI.out.trans hmB)
              clear hq1 hq2 hmB hsB
              go_wp2_with (fail)
              refine kPick (pick_any R _ pts _ HMB.out.2 (by omega)) ?_
              intro y wC hq1 hq2 hmC hsC
              obtain ⟨hy0, hy1⟩ := hq1 (by omega)
              have HOC := Lib.hid (own_mv HOB.out (by omega) hmC)
              have HCC := Lib.hid (HCB.out.mv hmC)
              have HMC := Lib.hid (HMB.out.trans hmC)
              clear hq1 hq2 hmC hsC
              go_wp2_with (fail)
              refine kPick (pick_any R _ 24 _ HMC.out.2 (by omega)) ?_
              intro z wD hq1 hq2 hmD hsD
              obtain ⟨hz0, hz1⟩ := hq1 (by omega)
              have HOD := Lib.hid (own_mv HOC.out (by omega) hmD)
              have HCD := Lib.hid (HCC.out.mv hmD)
              have HMD := Lib.hid (HMC.out.trans hmD)
              clear hq1 hq2 hmD hsD
              have hgD : g < wD.heap.size := (HOD.out.lt g rfl).2
              go_wp2_with (first
                | (at_builtin; refine wpl_app rowB rfl _ _ (by rfl) B1 _ N (v3 ys) (by rfl) (HOD.out.alloc _) ⟨wD.heap.size, 0, none⟩ 1 1 (v3 [(x, y, z - 14)]) (by rfl) rfl (cell3B (by simp) _ _) (v3_one _) (by decide) (by omega) (by simp; omega) ?_
                   intro g' cap' wE hownE hgrow hat hltE))
              have HOE := Lib.hid hownE
              have hrow : ∀ r, (Value.slice (some ⟨g, 0, none⟩) N cv).ownBlock = some r → B1 ≤ r := fun r hr => (HOD.out.lt r hr).1
              have HCE := Lib.hid ((HCD.out.alloc _).kept hgrow HPB HCb.out.1 HCb.out.2 (fun r hr => .inr (hrow r hr)))
              have HME := Lib.hid ((HMD.out.alloc _).grown hgrow (fun r hr => by have := hrow r hr; omega) hR)
              clear hownE hgrow hat hrow
              go_wp2
              go_roundw
              case rel => exact ⟨N + 1, g', cap', j - 1, ys ++ [(x, y, z - 14)], by go_num, by omega, by omega, rfl, by show World.ownsRow _ _ _ _ _ _ (v3 _); rw [v3_append]; exact HOE.out, HCE.out, HME.out.mono (by omega)⟩
              case measure => simp [intOf]; omega
            · have hjz : j = 0 := by omega
              subst hjz
              have HLY := Lib.hid (OwnB.len HO.out)
              have HINN := Lib.hid (show InnB (wi.alloc (.cells #[.slice (some ⟨g, 0, none⟩) N cv] 46)) (P + 1) (Value.slice C m d).ownBlock ((some ⟨g, 0, none⟩, cv), ys) from
                ⟨by show World.ownsRow _ _ _ _ (.slice _ _ _) _ _
                    rw [HLY.out]; exact own_base (HO.out.alloc _) (by omega), fun r hr e => by
                  have h1 : g = r := Option.some.inj hr
                  have h2 := HCb.out.1 r e
                  omega⟩)
              go_wp2_with (first
                | (at_builtin; refine wpl_app rowRB rfl _ _ (by rfl) (P + 1) _ m (vSB ps) (by rfl) (HCI.out.rows.own.alloc _) ⟨wi.heap.size, 0, none⟩ 1 1 [.slice (some ⟨g, 0, none⟩) N cv] (by rfl) rfl (cell_one_atB (by simp) _ _) (by intro u hu; simp at hu; subst hu; rfl) (by decide) (by omega) (by simp; omega) ?_
                   intro g' cap' wE hownE hgrow hat hltE
                   have HOE := Lib.hid hownE
                   have HGE := Lib.hid hgrow
                   have HAE := Lib.hid hat
                   clear hownE hgrow hat
                   have hPi2 : P < (wi.alloc (.cells #[.slice (some ⟨g, 0, none⟩) N cv] 46)).heap.size := by simp; omega
                   have hPr : ∀ r, (Value.slice C m d).ownBlock = some r → P + 1 ≤ r := fun r hr => (HCI.out.rows.own.lt r hr).1
                   have ff := (HGE.out.frozen_far ⟨P, 2, none⟩ hPi2 (fun e => by have := hPr P e.symm; omega)).trans ((World.frozen?_alloc_past _ _ _ hPi).trans f2)
                   have ee := HGE.out.cell (a := ⟨P, 2, none⟩) (keep ((Below.refl _ _).alloc (Nat.le_refl _) _) e2) (fun e => by have := hPr P e.symm; omega)))
              have HA := Lib.hid ((HCI.out.alloc (.cells #[.slice (some ⟨g, 0, none⟩) N cv] 46)).app HINN.out (by rw [show vSB [((some ⟨g, 0, none⟩, cv), ys)] = [.slice (some ⟨g, 0, none⟩) N cv] by show [Value.slice _ _ _] = _; rw [HLY.out]]; exact HOE.out) HGE.out (HAE.out.imp id (fun e => Nat.le_of_eq e.symm)))
              have HMA := Lib.hid (((HMI.out.alloc (.cells #[.slice (some ⟨g, 0, none⟩) N cv] 46)).grown HGE.out (fun r hr => by have := (HCI.out.rows.own.lt r hr).1; omega) hR).setNew (P := P) (by omega) hR 2 (.slice (some ⟨g', 0, none⟩) (m + 1) cap'))
              go_wp2
              go_roundw
              case rel => exact ⟨k - 1, m + 1, cap', _, _, by go_num, by omega, by omega, HA.out, (fun q hq => by
                rcases List.mem_append.1 hq with hq | hq
                · exact HL.out q hq
                · obtain rfl := List.mem_singleton.1 hq
                  show ys.length ≤ _
                  have := HLY.out; omega), HMA.out.mono (by omega)⟩
              case measure => simp [intOf]; omega
        · have hkz : k = 0 := by omega
          subst hkz
          go_wp2_with (fail)
          refine (odd_any R _ N0 _ HM.out.2 (by omega) hN0).mono ?_
          rintro e wO ⟨b, rfl, hmO, hsO⟩
          have HCO := Lib.hid (HC.out.mv hmO)
          have HMO := Lib.hid (HM.out.trans hmO)
          have hPo : P < wO.heap.size := HCO.out.blk.lt
          obtain ⟨e0, e1, e2, f0, f1, f2⟩ := HCO.out.cells
          have q0 := (HCO.out.res.cell 0).trans rfl
          have q1 := (HCO.out.res.cell 1).trans rfl
          have q2 := (HCO.out.res.cell 2).trans rfl
          have qf0 := HCO.out.res.frozen 0
          have qf1 := HCO.out.res.frozen 1
          have qf2 := HCO.out.res.frozen 2
          clear hmO hsO HC HM
          cases b with
          | false =>
            go_wp2_with (fail)
            obtain ⟨bs, ls, h1, h2, h3, h5⟩ := caseFin (i0 := 0) (i1 := 1) (i2 := 2) (v0 := .int .i64 pts) (v1 := .slice A n c) (v2 := .slice C m d) HCO.out HL.out HMO.out
            exact bodyPost_ret (v := .agg #[.int .i64 pts, .slice A n c, .slice C m d]) (by simp [results, Try.results62, go_sem, q0, q1, q2]) rfl ⟨_, _, _, _, bs, _, _, _, ls, rfl, by omega, by omega, h1, h2, h3, h5.mono (by omega)⟩
          | true =>
            have HWE := Lib.hid (show InnB ((wO.alloc (.cells #[] 95)).alloc (.cells #[.slice (some ⟨wO.heap.size, 0, none⟩) 0 0] 46)) (P + 1) (Value.slice C m d).ownBlock ((some ⟨wO.heap.size, 0, none⟩, 0), []) from
              ⟨own_below (own_lit_atB rfl (P + 1) 95 3 #[] 0 hPo (by decide) rfl) ((Below.refl _ _).alloc (Nat.le_refl _) _), fun r hr e => by
                have h1 : wO.heap.size = r := Option.some.inj hr
                have h2 := (HCO.out.rows.own.lt r e).2
                omega⟩)
            go_wp2_with (first
              | (at_builtin; refine wpl_app rowRB rfl _ _ (by rfl) (P + 1) _ m (vSB ps) (by rfl) ((HCO.out.rows.own.alloc _).alloc _) ⟨wO.heap.size + 1, 0, none⟩ 1 1 [.slice (some ⟨wO.heap.size, 0, none⟩) 0 0] (by rfl) rfl (cell_one_atB (by simp) _ _) (by intro u hu; simp at hu; subst hu; rfl) (by decide) (by omega) (by simp; omega) ?_
                 intro g' cap' wE hownE hgrow hat hltE
                 have HOE := Lib.hid hownE
                 have HGE := Lib.hid hgrow
                 have HAE := Lib.hid hat
                 clear hownE hgrow hat
                 have hbb : Below wO.heap.size wO ((wO.alloc (.cells #[] 95)).alloc (.cells #[.slice (some ⟨wO.heap.size, 0, none⟩) 0 0] 46)) := ((Below.refl _ _).alloc (Nat.le_refl _) _).alloc (by simp) _
                 have hPr : ∀ r, (Value.slice C m d).ownBlock = some r → P + 1 ≤ r := fun r hr => (HCO.out.rows.own.lt r hr).1
                 have hPi2 : P < ((wO.alloc (.cells #[] 95)).alloc (.cells #[.slice (some ⟨wO.heap.size, 0, none⟩) 0 0] 46)).heap.size := by simp; omega
                 have hQi2 : w.heap.size < ((wO.alloc (.cells #[] 95)).alloc (.cells #[.slice (some ⟨wO.heap.size, 0, none⟩) 0 0] 46)).heap.size := by simp; omega
                 have hQo : w.heap.size < wO.heap.size := by omega
                 have ff := (HGE.out.frozen_far ⟨P, 2, none⟩ hPi2 (fun e => by have := hPr P e.symm; omega)).trans ((hbb.frozen (p := ⟨P, 2, none⟩) hPo).trans f2)
                 have ee := HGE.out.cell (a := ⟨P, 2, none⟩) (keep hbb e2) (fun e => by have := hPr P e.symm; omega)
                 have ee0 := HGE.out.cell (a := ⟨P, 0, none⟩) (keep hbb e0) (fun e => by have := hPr P e.symm; omega)
                 have ee1 := HGE.out.cell (a := ⟨P, 1, none⟩) (keep hbb e1) (fun e => by have := hPr P e.symm; omega)
                 have qq0 := HGE.out.cell (a := ⟨w.heap.size, 0, none⟩) (keep hbb q0) (fun e => by have := hPr w.heap.size e.symm; omega)
                 have qq1 := HGE.out.cell (a := ⟨w.heap.size, 1, none⟩) (keep hbb q1) (fun e => by have := hPr w.heap.size e.symm; omega)
                 have qq2 := HGE.out.cell (a := ⟨w.heap.size, 2, none⟩) (keep hbb q2) (fun e => by have := hPr w.heap.size e.symm; omega)
                 have qg0 := (HGE.out.frozen_far ⟨w.heap.size, 0, none⟩ hQi2 (fun e => by have := hPr w.heap.size e.symm; omega)).trans ((hbb.frozen (p := ⟨w.heap.size, 0, none⟩) hQo).trans qf0)
                 have qg1 := (HGE.out.frozen_far ⟨w.heap.size, 1, none⟩ hQi2 (fun e => by have := hPr w.heap.size e.symm; omega)).trans ((hbb.frozen (p := ⟨w.heap.size, 1, none⟩) hQo).trans qf1)
                 have qg2 := (HGE.out.frozen_far ⟨w.heap.size, 2, none⟩ hQi2 (fun e => by have := hPr w.heap.size e.symm; omega)).trans ((hbb.frozen (p := ⟨w.heap.size, 2, none⟩) hQo).trans qf2)
                 have hQP : ¬ w.heap.size = P := by omega
                 have hPQ : ¬ P = w.heap.size := by omega))
            have HA := Lib.hid ((HCO.out.below hbb).app HWE.out HOE.out HGE.out (HAE.out.imp id (fun e => Nat.le_of_eq e.symm)))
            have HMA := Lib.hid (((HMO.out.below hbb).grown HGE.out (fun r hr => by have := hPr r hr; omega) hR).setNew (P := P) (by omega) hR 2 (.slice (some ⟨g', 0, none⟩) (m + 1) cap'))
            obtain ⟨bs, ls, h1, h2, h3, h5⟩ := caseFin (i0 := 0) (i1 := 1) (i2 := 2) (v0 := .int .i64 pts) (v1 := .slice A n c) (v2 := .slice (some ⟨g', 0, none⟩) (m + 1) cap') HA.out (fun q hq => by
              rcases List.mem_append.1 hq with hq | hq
              · exact HL.out q hq
              · obtain rfl := List.mem_singleton.1 hq
                show 0 ≤ _; omega) HMA.out
            exact bodyPost_ret (v := .agg #[.int .i64 pts, .slice A n c, .slice (some ⟨g', 0, none⟩) (m + 1) cap']) (by simp [results, Try.results62, go_sem, qq0, qq1, qq2, hQP, hPQ]) rfl ⟨_, _, _, _, bs, _, _, _, ls, rfl, by omega, by omega, h1, h2, h3, h5.mono (by omega)⟩

end Go.Proofs.Ytopfhlopicjemaa
