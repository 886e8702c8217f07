/- Draws of projects: l20Project, DrawProjectOk. -/
import Derived.Test.YtenhchfbmmlmmaaDR3
import Derived.Test.YtenhchfbmmlmmaaDRA
import Derived.Test.YtenhchfbmmlmmaaB1
import Derived.Deep.RegionLaw
import Derived.Deep.DrawnRows
namespace Go.Proofs.Ytenhchfbmmlmmaa
open Go.RowKit
attribute [local go_sem ↓] Go.wp_at_zero Go.wp_at_succ

/-- A project under way: its two rows, the reader. -/
structure PrAt (w : World) (R Q P : Nat) (Bd : Int) (A : Option Addr) (n c : Nat) (B' : Option Addr) (m d : Nat) : Prop where
  rd : Rd w R Bd
  lq : R < Q
  qp : Q < P
  res : Blk w Q 25 #[.slice none 0 0, .slice none 0 0]
  blk : Blk w P 25 #[.slice A n c, .slice B' m d]
  long : ∃ xs, w.ownsRow (P + 1) 3 1 (.slice A n c) n (vI xs)
  after : ∃ ys, w.ownsRow (P + 1) 3 1 (.slice B' m d) m (vI ys)
  ne : ∀ g, (Value.slice A n c).ownBlock = some g → (Value.slice B' m d).ownBlock ≠ some g
section
variable {w w' wA W wB : World} {R Q P : Nat} {Bd Bd' : Int} {A B' : Option Addr} {n c m d g cap : Nat} {zs : List Value}
theorem PrAt.mono (h : PrAt w R Q P Bd A n c B' m d) (hB : Bd ≤ Bd') : PrAt w R Q P Bd' A n c B' m d := ⟨h.rd.mono hB, h.lq, h.qp, h.res, h.blk, h.long, h.after, h.ne⟩
theorem PrAt.lt (h : PrAt w R Q P Bd A n c B' m d) : R < P := Nat.lt_trans h.lq h.qp
theorem PrAt.mv (h : PrAt w R Q P Bd A n c B' m d) (hm : Mv R Bd' w w') : PrAt w' R Q P Bd' A n c B' m d := by
  obtain ⟨xs, hx⟩ := h.long
  obtain ⟨ys, hy⟩ := h.after
  have := h.lt
  have hq := h.lq
  refine ⟨hm.2, h.lq, h.qp, ?_, ?_, ⟨xs, own_mv hx (by omega) hm⟩, ⟨ys, own_mv hy (by omega) hm⟩, h.ne⟩
  · show w'.heap[Q]? = _
    rw [hm.1.block Q h.res.lt (fun e => by cases e; omega)]; exact h.res
  show w'.heap[P]? = _
  rw [hm.1.block P h.blk.lt (fun e => by cases e; omega)]; exact h.blk
theorem PrAt.drew (h : PrAt w R Q P Bd A n c B' m d) : PrAt w.drew R Q P Bd A n c B' m d := ⟨h.rd.drewN 1, h.lq, h.qp, h.res, h.blk, h.long, h.after, h.ne⟩
theorem PrAt.below (h : PrAt w R Q P Bd A n c B' m d) (hb : Below w.heap.size w w') : PrAt w' R Q P Bd A n c B' m d := by
  obtain ⟨xs, hx⟩ := h.long
  obtain ⟨ys, hy⟩ := h.after
  exact ⟨h.rd.below hb, h.lq, h.qp, h.res.below hb h.res.lt, h.blk.below hb h.blk.lt, ⟨xs, own_below hx hb⟩, ⟨ys, own_below hy hb⟩, h.ne⟩
theorem PrAt.cells (h : PrAt w R Q P Bd A n c B' m d) : w.cell? ⟨P, 0, none⟩ = some (.slice A n c) ∧ w.cell? ⟨P, 1, none⟩ = some (.slice B' m d) ∧ w.frozen? ⟨P, 0, none⟩ = false ∧ w.frozen? ⟨P, 1, none⟩ = false :=
  ⟨(h.blk.cell 0).trans rfl, (h.blk.cell 1).trans rfl, h.blk.frozen 0, h.blk.frozen 1⟩
/-- The first row has grown, and is stored. -/
theorem PrAt.setLong (h : PrAt W R Q P Bd A n c B' m d) (hown : wB.ownsRow (P + 1) 3 1 (.slice (some ⟨g, 0, none⟩) (n + 1) cap) (n + 1) zs) (hz : ∃ xs, zs = vI xs) (hgrow : W.grownBy wB (Value.slice A n c).ownBlock) (hat : (Value.slice A n c).ownBlock = some g ∨ W.heap.size ≤ g) :
    (Blk wB P 25 #[.slice A n c, .slice B' m d] ∧ Blk wB Q 25 #[.slice none 0 0, .slice none 0 0] ∧ wB.cell? ⟨P, 0, none⟩ = some (.slice A n c) ∧ wB.frozen? ⟨P, 0, none⟩ = false) ∧ PrAt (wB.setCell ⟨P, 0, none⟩ (.slice (some ⟨g, 0, none⟩) (n + 1) cap)) R Q P Bd (some ⟨g, 0, none⟩) (n + 1) cap B' m d := by
  obtain ⟨xs, hx⟩ := h.long
  obtain ⟨ys, hy⟩ := h.after
  obtain ⟨xs', rfl⟩ := hz
  have hlt := h.lt
  have hP := h.blk.lt
  have hgB : P + 1 ≤ g := (hown.lt g rfl).1
  have hrow : ∀ r, (Value.slice A n c).ownBlock = some r → P + 1 ≤ r := fun r hr => (hx.lt r hr).1
  have hblk : Blk wB P 25 #[.slice A n c, .slice B' m d] := by
    show wB.heap[P]? = _
    rw [hgrow.block P hP (fun e => by have := hrow P e.symm; omega)]; exact h.blk
  have hyB : wB.ownsRow (P + 1) 3 1 (.slice B' m d) m (vI ys) := by
    refine hy.kept hgrow ?_
    cases hv : (Value.slice A n c).ownBlock with
    | none => cases (Value.slice B' m d).ownBlock <;> simp
    | some r => exact .inr (h.ne r hv)
  have hset : wB.grownBy (wB.setCell ⟨P, 0, none⟩ (.slice (some ⟨g, 0, none⟩) (n + 1) cap)) (some P) := ⟨rfl, rfl, rfl, by simp [World.setCell], fun k _ hk => Below.heap_setCell _ _ _ _ (fun e => hk (by rw [e]))⟩
  have hqp := h.qp
  have hres : Blk (wB.setCell ⟨P, 0, none⟩ (.slice (some ⟨g, 0, none⟩) (n + 1) cap)) Q 25 #[.slice none 0 0, .slice none 0 0] := by
    show (wB.setCell _ _).heap[Q]? = _
    rw [hset.block Q (by have := h.res.lt; have := hgrow.size; omega) (fun e => by cases e; omega), hgrow.block Q h.res.lt (fun e => by have := hrow Q e.symm; omega)]
    exact h.res
  have hne : ∀ {v : Value} {l : Nat} {vs : List Value}, wB.ownsRow (P + 1) 3 1 v l vs → (wB.setCell ⟨P, 0, none⟩ (.slice (some ⟨g, 0, none⟩) (n + 1) cap)).ownsRow (P + 1) 3 1 v l vs := fun {v l vs} hv => hv.kept hset (by
    cases hb : v.ownBlock with
    | none => exact .inl rfl
    | some k => exact .inr (fun e => by have := (hv.lt k hb).1; cases e; omega))
  have hresB : Blk wB Q 25 #[.slice none 0 0, .slice none 0 0] := by
    show wB.heap[Q]? = _
    rw [hgrow.block Q h.res.lt (fun e => by have := hrow Q e.symm; omega)]
    exact h.res
  refine ⟨⟨hblk, hresB, (hblk.cell 0).trans rfl, hblk.frozen 0⟩, ?_, h.lq, h.qp, hres, ?_, ⟨xs', hne hown⟩, ⟨ys, hne hyB⟩, fun k hk e => ?_⟩
  · exact (h.rd.grown hgrow (fun k hk => by have := hrow k hk; omega)).grown hset (fun k hk => by cases hk; exact hlt)
  · have := hblk.set_ 0 (.slice (some ⟨g, 0, none⟩) (n + 1) cap)
    simpa using this
  · simp only [Value.ownBlock] at hk
    cases hk
    rcases hat with h1 | h1
    · exact h.ne g h1 e
    · have := (hy.lt g e).2; omega
theorem PrAt.setAfter (h : PrAt W R Q P Bd A n c B' m d) (hown : wB.ownsRow (P + 1) 3 1 (.slice (some ⟨g, 0, none⟩) (m + 1) cap) (m + 1) zs) (hz : ∃ xs, zs = vI xs) (hgrow : W.grownBy wB (Value.slice B' m d).ownBlock) (hat : (Value.slice B' m d).ownBlock = some g ∨ W.heap.size ≤ g) :
    (Blk wB P 25 #[.slice A n c, .slice B' m d] ∧ Blk wB Q 25 #[.slice none 0 0, .slice none 0 0] ∧ wB.cell? ⟨P, 1, none⟩ = some (.slice B' m d) ∧ wB.frozen? ⟨P, 1, none⟩ = false) ∧ PrAt (wB.setCell ⟨P, 1, none⟩ (.slice (some ⟨g, 0, none⟩) (m + 1) cap)) R Q P Bd A n c (some ⟨g, 0, none⟩) (m + 1) cap := by
  obtain ⟨xs, hx⟩ := h.long
  obtain ⟨ys, hy⟩ := h.after
  obtain ⟨ys', rfl⟩ := hz
  have hlt := h.lt
  have hP := h.blk.lt
  have hgB : P + 1 ≤ g := (hown.lt g rfl).1
  have hrow : ∀ r, (Value.slice B' m d).ownBlock = some r → P + 1 ≤ r := fun r hr => (hy.lt r hr).1
  have hblk : Blk wB P 25 #[.slice A n c, .slice B' m d] := by
    show wB.heap[P]? = _
    rw [hgrow.block P hP (fun e => by have := hrow P e.symm; omega)]; exact h.blk
  have hxB : wB.ownsRow (P + 1) 3 1 (.slice A n c) n (vI xs) := by
    refine hx.kept hgrow ?_
    cases hv : (Value.slice A n c).ownBlock with
    | none => exact .inl rfl
    | some r => exact .inr (fun e => h.ne r hv e.symm)
  have hset : wB.grownBy (wB.setCell ⟨P, 1, none⟩ (.slice (some ⟨g, 0, none⟩) (m + 1) cap)) (some P) := ⟨rfl, rfl, rfl, by simp [World.setCell], fun k _ hk => Below.heap_setCell _ _ _ _ (fun e => hk (by rw [e]))⟩
  have hqp := h.qp
  have hres : Blk (wB.setCell ⟨P, 1, none⟩ (.slice (some ⟨g, 0, none⟩) (m + 1) cap)) Q 25 #[.slice none 0 0, .slice none 0 0] := by
    show (wB.setCell _ _).heap[Q]? = _
    rw [hset.block Q (by have := h.res.lt; have := hgrow.size; omega) (fun e => by cases e; omega), hgrow.block Q h.res.lt (fun e => by have := hrow Q e.symm; omega)]
    exact h.res
  have hne : ∀ {v : Value} {l : Nat} {vs : List Value}, wB.ownsRow (P + 1) 3 1 v l vs → (wB.setCell ⟨P, 1, none⟩ (.slice (some ⟨g, 0, none⟩) (m + 1) cap)).ownsRow (P + 1) 3 1 v l vs := fun {v l vs} hv => hv.kept hset (by
    cases hb : v.ownBlock with
    | none => exact .inl rfl
    | some k => exact .inr (fun e => by have := (hv.lt k hb).1; cases e; omega))
  have hresB : Blk wB Q 25 #[.slice none 0 0, .slice none 0 0] := by
    show wB.heap[Q]? = _
    rw [hgrow.block Q h.res.lt (fun e => by have := hrow Q e.symm; omega)]
    exact h.res
  refine ⟨⟨hblk, hresB, (hblk.cell 1).trans rfl, hblk.frozen 1⟩, ?_, h.lq, h.qp, hres, ?_, ⟨xs, hne hxB⟩, ⟨ys', hne hown⟩, fun k hk e => ?_⟩
  · exact (h.rd.grown hgrow (fun k hk => by have := hrow k hk; omega)).grown hset (fun k hk => by cases hk; exact hlt)
  · have := hblk.set_ 1 (.slice (some ⟨g, 0, none⟩) (m + 1) cap)
    simpa using this
  · simp only [Value.ownBlock] at e
    cases e
    rcases hat with h1 | h1
    · exact h.ne g hk h1
    · have := (hx.lt g hk).2; omega
end

set_option maxRecDepth 100000 in
set_option maxHeartbeats 40000000 in
theorem l20Project_any (R : Nat) (B n : Int) (w : World) (h : Rd w R B) (hB : B ≤ 900000000) (hn : 0 ≤ n ∧ n ≤ 1000) :
    Calls Try.prog 19 #[.pointer (some ⟨R, 0, none⟩), .int .i64 n] w fun e w' => ∃ (A : Option Addr) (n c : Nat) (B' : Option Addr) (m d : Nat) (xs ys : List Int), e = .returned (.agg #[.slice A n c, .slice B' m d]) ∧
      w'.ownsRow w.heap.size 3 1 (.slice A n c) n (vI xs) ∧ w'.ownsRow w.heap.size 3 1 (.slice B' m d) m (vI ys) ∧ n ≤ 10 ∧ m ≤ 10 ∧ Mv R (B + 60) w w' := by
  have hR := h.lt
  have HP0 := Lib.hid (show PrAt ((w.alloc (.cells #[.slice none 0 0, .slice none 0 0] 25)).alloc (.cells #[.slice none 0 0, .slice none 0 0] 25)) R w.heap.size (w.heap.size + 1) B none 0 0 none 0 0 from
    ⟨(h.alloc _).alloc _, hR, by omega, (Blk.new w _ _).below ((Below.refl _ _).alloc (Nat.le_refl _) _) (Blk.new w _ _).lt, Blk.new_at (by simp) _ _, ⟨[], World.ownsRow_nil _ _ _ _⟩, ⟨[], World.ownsRow_nil _ _ _ _⟩, fun g hg => by cases hg⟩)
  have HR := Lib.hid h
  clear h
  go_enter Try.func19, Try.ntmps19
  go_wp2_with (fail)
  refine kPick (pick_any R B 6 _ HP0.out.rd (by omega)) ?_
  intro x w1 hx _ hm1 _
  obtain ⟨hx0, hx1⟩ := hx (by omega)
  have HP1 := Lib.hid (HP0.out.mv hm1)
  have HM1 := Lib.hid (show Mv R (B + 1) w w1 from ⟨grown_tr (grown_of_below (((Below.refl _ _).alloc (Nat.le_refl _) _).alloc (by simp) _) _) hm1.1, hm1.2⟩)
  clear hm1 hx
  go_wp2_with (fail)
  refine kPick (pick_any R _ 9 _ HP1.out.rd (by omega)) ?_
  intro y w2 hy _ hm2 _
  obtain ⟨hy0, hy1⟩ := hy (by omega)
  have hz0 : 0 ≤ y / 8 := by omega
  have hz1 : y / 8 ≤ 1 := by omega
  have HP2 := Lib.hid (HP1.out.mv hm2)
  have HM2 := Lib.hid (HM1.out.trans hm2)
  clear hm2 hy
  obtain ⟨K, HKK⟩ : ∃ K : Int, Hid (x + y / 8 = K) := ⟨_, rfl⟩
  have hK0 : 0 ≤ K := by rw [← HKK.out]; omega
  have hK6 : K ≤ 6 := by rw [← HKK.out]; omega
  have HKE := HKK.out
  go_wp2_with (fail)
  go_loopw [6] (fun i wr => ∃ (K' : Int) (j : Nat) (A : Option Addr) (c : Nat) (B' : Option Addr) (d : Nat), i = .int .i64 K' ∧ 0 ≤ K' ∧ (j : Int) + K' ≤ 6 ∧ PrAt wr R w.heap.size (w.heap.size + 1) (B + 2 + 3 * (j : Int)) A j c B' j d ∧ Mv R (B + 2 + 3 * (j : Int)) w wr) (fun i _ => (intOf i).toNat)
  case atStart => exact ⟨K, 0, none, 0, none, 0, rfl, hK0, by omega, HP2.out.mono (by omega), HM2.out.mono (by omega)⟩
  case round =>
    obtain ⟨wo, rfl⟩ : ∃ wo : World, wo = wr := ⟨_, rfl⟩
    obtain ⟨K', j, A, c, B', d, rfl, hk0, hkj, hp, hm⟩ := hrel
    have HP := Lib.hid hp
    have HM := Lib.hid hm
    obtain ⟨e0, e1, f0, f1⟩ := hp.cells
    have hPl : w.heap.size + 1 < wo.heap.size := hp.blk.lt
    obtain ⟨P, HPP⟩ : ∃ P, Hid (w.heap.size + 1 = P) := ⟨_, rfl⟩
    clear hp hm HKE
    by_cases hk : 0 < K'
    · go_wp2_with (fail)
      go_region_law (first
        | (go_simp; go_at_call 11; refine kPick (pick_any R _ _ _ HP.out.drew.rd (by omega)) ?_; intro x1 wA hq1 hq2 hmA hsA; clear hq1 hq2 hsA
           have HPA := Lib.hid (HP.out.drew.mv hmA)
           obtain ⟨a0, a1, _, _⟩ := HPA.out.cells)
        | (go_simp; go_at_call 11; refine kPick (pick_any R _ _ _ HPA.out.rd (by omega)) ?_; intro x2 wC hq1 hq2 hmC hsC; clear hq1 hq2 hsC
           have HPC := Lib.hid (HPA.out.mv hmC)
           have hPC : w.heap.size + 1 < wC.heap.size := HPC.out.blk.lt
           obtain ⟨b0, b1, _, _⟩ := HPC.out.cells
           obtain ⟨ys, hys⟩ := HPC.out.after)
        | (refine step_app rowI (by rfl) _ _ (by rfl) (w.heap.size + 2) _ j (vI ys) (by rfl) (hys.alloc _) ⟨wC.heap.size, 0, none⟩ 1 1 (vI [_]) (by rfl) rfl (cell_one_at (by simp) _ _) (vI_one _) (by decide) (by omega) (by simp; omega) ?_
           intro g' cap' wB hownB hgrow hat hltB
           have HST := Lib.hid ((HPC.out.below ((Below.refl _ _).alloc (Nat.le_refl _) _)).setAfter hownB ⟨ys ++ [_], (vI_app _ _).symm⟩ hgrow (hat.imp id (fun h => Nat.le_of_eq h.symm)))
           have eS := HST.out.1.2.2.1
           have fS := HST.out.1.2.2.2))
      all_goals
        have HP5 := Lib.hid HST.out.2
        have HM5 := Lib.hid ((((((HM.out.drewN 1).trans hmA).trans hmC).alloc (.cells #[.int .i64 (bits .and .i64 x1 x2)] 3)).grown hgrow (fun k hk => by have := (hys.lt k hk).1; omega) hR).setNew (P := w.heap.size + 1) (by omega) hR 1 (.slice (some ⟨g', 0, none⟩) (j + 1) cap'))
        clear HST eS fS hgrow hat hownB hltB hys b0 b1 a0 a1 e0 e1 f0 f1 HPC HPA hmA hmC hPC
        generalize wB.setCell ⟨w.heap.size + 1, 1, none⟩ (.slice (some ⟨g', 0, none⟩) (j + 1) cap') = w5 at HP5 HM5 ⊢
        obtain ⟨e0, e1, f0, f1⟩ := HP5.out.cells
        have hP5 : w.heap.size + 1 < w5.heap.size := HP5.out.blk.lt
        clear f1
        go_wp2_with (fail)
        go_region_law (first
          | (go_simp; go_at_call 11; refine kPick (pick_any R _ _ _ HP5.out.drew.rd (by omega)) ?_; intro x3 wD hq1 hq2 hmD hsD; obtain ⟨hq3, hq4⟩ := hq1 (by omega); clear hq1 hq2 hsD
             have HPD := Lib.hid (HP5.out.drew.mv hmD)
             have hPD : w.heap.size + 1 < wD.heap.size := HPD.out.blk.lt
             obtain ⟨a0, a1, _, _⟩ := HPD.out.cells
             obtain ⟨zs, hzs⟩ := HPD.out.long)
          | (refine step_app rowI (by rfl) _ _ (by rfl) (w.heap.size + 2) _ j (vI zs) (by rfl) (hzs.alloc _) ⟨wD.heap.size, 0, none⟩ 1 1 (vI [_]) (by rfl) rfl (cell_one_at (by simp) _ _) (vI_one _) (by decide) (by omega) (by simp; omega) ?_
             intro g2 cap2 wE hownE hgrowE hatE hltE
             have HST := Lib.hid ((HPD.out.below ((Below.refl _ _).alloc (Nat.le_refl _) _)).setLong hownE ⟨zs ++ [_], (vI_app _ _).symm⟩ hgrowE (hatE.imp id (fun h => Nat.le_of_eq h.symm)))
             have eS := HST.out.1.2.2.1
             have fS := HST.out.1.2.2.2))
        all_goals
          have HP6 := Lib.hid HST.out.2
          have HM6 := Lib.hid ((((((HM5.out.drewN 1).trans hmD).alloc _).grown hgrowE (fun k hk => by have := (hzs.lt k hk).1; omega) hR)).setNew (P := w.heap.size + 1) (by omega) hR 0 (.slice (some ⟨g2, 0, none⟩) (j + 1) cap2))
          go_wp2
          go_roundw
          case rel => exact ⟨K' - 1, j + 1, _, _, _, _, by go_num, by omega, by push_cast; omega, HP6.out.mono (by push_cast; omega), HM6.out.mono (by push_cast; omega)⟩
          case measure => simp [intOf]; omega
    · have b01 := HP.out.cells
      obtain ⟨b0, b1, _, _⟩ := b01
      go_wp2_with (fail)
      refine (odd_any R _ n _ HP.out.rd (by omega) hn).mono ?_
      rintro e w3 ⟨b, rfl, hm3, _⟩
      have HP3 := Lib.hid (HP.out.mv hm3)
      have HM3 := Lib.hid (HM.out.trans hm3)
      clear hm3 b0 b1 e0 e1 f0 f1
      cases b with
      | false =>
        obtain ⟨r0, r1, _, _⟩ := HP3.out.cells
        have q0 := (HP3.out.res.cell 0).trans rfl
        have q1 := (HP3.out.res.cell 1).trans rfl
        have qf0 := HP3.out.res.frozen 0
        have qf1 := HP3.out.res.frozen 1
        have hQ := HP3.out.res.lt
        have hPl2 := HP3.out.blk.lt
        obtain ⟨xs, hxs⟩ := HP3.out.long
        obtain ⟨ys, hys⟩ := HP3.out.after
        have HXS := Lib.hid hxs
        have HYS := Lib.hid hys
        clear hxs hys
        go_wp2
        refine bodyPost_ret (v := .agg #[.slice _ _ _, .slice _ _ _]) (by simp [results, Try.results19, go_sem, q0, q1] <;> exact ⟨⟨rfl, rfl⟩, rfl, rfl⟩) rfl ⟨_, _, _, _, _, _, xs, ys, rfl, own_base (own_setOld (own_setOld HXS.out (by omega) _ _) (by omega) _ _) (by omega), own_base (own_setOld (own_setOld HYS.out (by omega) _ _) (by omega) _ _) (by omega), by omega, by omega, ((HM3.out.setNew (Nat.le_refl _) hR _ _).setNew (Nat.le_refl _) hR _ _).mono (by omega)⟩
      | true =>
        go_wp2_with (fail)
        refine kPick (pick_any R _ 3 _ HP3.out.rd (by omega)) ?_
        intro u w4 hu hq2 hm4 hs4
        obtain ⟨hu0, hu1⟩ := hu (by omega)
        have HP4 := Lib.hid (HP3.out.mv hm4)
        have HM4 := Lib.hid (HM3.out.trans hm4)
        clear hm4 hs4 hu hq2
        by_cases hu00 : u = 0
        · subst hu00
          obtain ⟨e0, e1, f0, f1⟩ := HP4.out.cells
          have hPl3 : w.heap.size + 1 < w4.heap.size := HP4.out.blk.lt
          obtain ⟨zs, hzs⟩ := HP4.out.long
          go_wp2_with (first
            | (at_builtin; refine wpl_app rowI rfl _ _ (by rfl) (w.heap.size + 2) _ j (vI zs) (by rfl) (hzs.alloc _) ⟨w4.heap.size, 0, none⟩ 1 1 (vI [_]) (by rfl) rfl (cell_one_at (by simp) _ _) (vI_one _) (by decide) (by omega) (by simp; omega) ?_
               intro g2 cap2 wE hownwE hgrowwE hatwE hltwE
               have HST := Lib.hid ((HP4.out.below ((Below.refl _ _).alloc (Nat.le_refl _) _)).setLong hownwE ⟨zs ++ [_], (vI_app _ _).symm⟩ hgrowwE (hatwE.imp id (fun h => Nat.le_of_eq h.symm)))
               have eSwE := HST.out.1.2.2.1
               have fSwE := HST.out.1.2.2.2
               have rwE := (HST.out.1.1.cell 1).trans rfl
               have rfwE := HST.out.1.1.frozen 1
               have q0 := (HST.out.1.2.1.cell 0).trans rfl
               have q1 := (HST.out.1.2.1.cell 1).trans rfl
               have qf0 := HST.out.1.2.1.frozen 0
               have qf1 := HST.out.1.2.1.frozen 1
               have hQ := HST.out.1.2.1.lt
               have hPl4 := HST.out.1.1.lt))
          have HP6 := Lib.hid HST.out.2
          have HM6 := Lib.hid (((HM4.out.alloc _).grown hgrowwE (fun k hk => by have := (hzs.lt k hk).1; omega) hR).setNew (P := w.heap.size + 1) (by omega) hR 0 (.slice (some ⟨g2, 0, none⟩) (j + 1) cap2))
          obtain ⟨xs, hxs⟩ := HP6.out.long
          obtain ⟨ys, hys⟩ := HP6.out.after
          have HXS := Lib.hid hxs
          have HYS := Lib.hid hys
          clear hxs hys
          refine bodyPost_ret (v := .agg #[.slice _ _ _, .slice _ _ _]) (by simp [results, Try.results19, go_sem, q0, q1] <;> exact ⟨⟨rfl, rfl⟩, rfl, rfl⟩) rfl ⟨_, _, _, _, _, _, xs, ys, rfl, own_base (own_setOld (own_setOld HXS.out (by omega) _ _) (by omega) _ _) (by omega), own_base (own_setOld (own_setOld HYS.out (by omega) _ _) (by omega) _ _) (by omega), by omega, by omega, ((HM6.out.setNew (Nat.le_refl _) hR _ _).setNew (Nat.le_refl _) hR _ _).mono (by omega)⟩
        · have qu0 : (u == 0) = false := by simpa using hu00
          by_cases hu11 : u = 1
          · subst hu11
            obtain ⟨e0, e1, f0, f1⟩ := HP4.out.cells
            have hPl3 : w.heap.size + 1 < w4.heap.size := HP4.out.blk.lt
            go_wp2_with (fail)
            go_region_law (first
              | (go_simp; go_at_call 11; refine kPick (pick_any R _ 2 w4.drew HP4.out.drew.rd (by omega)) ?_; intro x5 wA hq1 hq5 hmA hsA; obtain ⟨hq3, hq4⟩ := hq1 (by omega); clear hq1 hq5 hsA
                 obtain ⟨i5, rfl⟩ := Int.eq_ofNat_of_zero_le hq3
                 have hi5 : i5 < 2 := by omega
                 have HPA := Lib.hid (HP4.out.drew.mv hmA)
                 have HMA := Lib.hid ((HM4.out.drewN 1).trans hmA)
                 have hPA : w.heap.size + 1 < wA.heap.size := HPA.out.blk.lt
                 have hPA2 : ¬ w.heap.size = wA.heap.size := by omega
                 have hPA3 : ¬ w.heap.size + 1 = wA.heap.size := by omega
                 have hPA4 : ¬ w4.heap.size = w.heap.size := by omega
                 have hPA5 : ¬ w.heap.size + 1 = w4.heap.size := by omega
                 obtain ⟨a0, a1, _, _⟩ := HPA.out.cells
                 obtain ⟨zs, hzs⟩ := HPA.out.long
                 obtain ⟨X5, hX5⟩ := lit2_new wA 3 0 21 hi5
                 have aL := keep ((Below.refl wA.heap.size wA).alloc (Nat.le_refl _) (.cells #[.int .i64 0, .int .i64 21] 3)) a0
                 have aLX := keep (((Below.refl wA.heap.size wA).alloc (Nat.le_refl _) (.cells #[.int .i64 0, .int .i64 21] 3)).alloc (by simp) (.cells #[.int .i64 X5] 3)) a0)
              | (go_simp; go_at_call 11; refine kPick (pick_any R _ 2 (w4.alloc (.cells #[.int .i64 0, .int .i64 21] 3)).drew (HP4.out.below ((Below.refl _ _).alloc (Nat.le_refl _) _)).drew.rd (by omega)) ?_; intro x5 wA hq1 hq5 hmA hsA; obtain ⟨hq3, hq4⟩ := hq1 (by omega); clear hq1 hq5 hsA
                 obtain ⟨i5, rfl⟩ := Int.eq_ofNat_of_zero_le hq3
                 have hi5 : i5 < 2 := by omega
                 have HPA := Lib.hid ((HP4.out.below ((Below.refl _ _).alloc (Nat.le_refl _) _)).drew.mv hmA)
                 have HMA := Lib.hid (((HM4.out.alloc _).drewN 1).trans hmA)
                 have hPA : w.heap.size + 1 < wA.heap.size := HPA.out.blk.lt
                 have hPA2 : ¬ w.heap.size = wA.heap.size := by omega
                 have hPA3 : ¬ w.heap.size + 1 = wA.heap.size := by omega
                 have hPA4 : ¬ w4.heap.size = w.heap.size := by omega
                 have hPA5 : ¬ w.heap.size + 1 = w4.heap.size := by omega
                 obtain ⟨a0, a1, _, _⟩ := HPA.out.cells
                 obtain ⟨zs, hzs⟩ := HPA.out.long
                 obtain ⟨X5, hX5⟩ := lit2_old hmA.1 hi5 HP4.out.rd.lt
                 have aX := keep ((Below.refl wA.heap.size wA).alloc (Nat.le_refl _) (.cells #[.int .i64 X5] 3)) a0)
              | (refine step_app rowI (by rfl) _ _ (by rfl) (w.heap.size + 2) _ j (vI zs) (by rfl) (by first | exact hzs.alloc _ | exact (hzs.alloc _).alloc _) _ 1 1 (vI [_]) (by rfl) rfl (by exact cell_one_at (by simp) _ _) (vI_one _) (by decide) (by omega) (by simp; omega) ?_
                 intro g2 cap2 wE hownwE hgrowwE hatwE hltwE
                 have HST := Lib.hid ((HPA.out.below (by repeat (first | exact Below.refl _ _ | refine Below.alloc ?_ (by simp) _))).setLong hownwE ⟨zs ++ [_], (vI_app _ _).symm⟩ hgrowwE (hatwE.imp id (fun h => Nat.le_of_eq h.symm)))
                 have eSwE := HST.out.1.2.2.1
                 have fSwE := HST.out.1.2.2.2
                 have rwE := (HST.out.1.1.cell 1).trans rfl
                 have rfwE := HST.out.1.1.frozen 1
                 have q0 := (HST.out.1.2.1.cell 0).trans rfl
                 have q1 := (HST.out.1.2.1.cell 1).trans rfl
                 have qf0 := HST.out.1.2.1.frozen 0
                 have qf1 := HST.out.1.2.1.frozen 1
                 have hQ := HST.out.1.2.1.lt
                 have hPl4 := HST.out.1.1.lt
                 obtain ⟨ls, hls⟩ := HST.out.2.after))
            all_goals
              go_wp2_with (first
                | (at_builtin; refine wpl_app rowI rfl _ _ (by rfl) (w.heap.size + 2) _ j (vI ls) (by rfl) (hls.alloc _) ⟨wE.heap.size, 0, none⟩ 1 1 (vI [_]) (by rfl) rfl (cell_one_at (by simp) _ _) (vI_one _) (by decide) (by omega) (by simp; omega) ?_
                   intro g3 cap3 wG hownwG hgrowwG hatwG hltwG
                   have HSU := Lib.hid ((HST.out.2.below ((Below.refl _ _).alloc (Nat.le_refl _) _)).setAfter hownwG ⟨ls ++ [_], (vI_app _ _).symm⟩ hgrowwG (hatwG.imp id (fun h => Nat.le_of_eq h.symm)))
                   have eSwG := HSU.out.1.2.2.1
                   have fSwG := HSU.out.1.2.2.2
                   have rwG := (HSU.out.1.1.cell 0).trans rfl
                   have rfwG := HSU.out.1.1.frozen 0
                   have q0 := (HSU.out.1.2.1.cell 0).trans rfl
                   have q1 := (HSU.out.1.2.1.cell 1).trans rfl
                   have qf0 := HSU.out.1.2.1.frozen 0
                   have qf1 := HSU.out.1.2.1.frozen 1
                   have hQ := HSU.out.1.2.1.lt
                   have hPl4 := HSU.out.1.1.lt))
              have HP6 := Lib.hid HSU.out.2
              have HM6 := Lib.hid ((((((HMA.out.below (by repeat (first | exact Below.refl _ _ | refine Below.alloc ?_ (by simp) _))).grown hgrowwE (fun k hk => by have := (hzs.lt k hk).1; omega) hR).setNew (P := w.heap.size + 1) (by omega) hR 0 (.slice (some ⟨g2, 0, none⟩) (j + 1) cap2)).alloc _).grown hgrowwG (fun k hk => by have := (hls.lt k hk).1; omega) hR).setNew (P := w.heap.size + 1) (by omega) hR 1 (.slice (some ⟨g3, 0, none⟩) (j + 1) cap3))
              obtain ⟨xs, hxs⟩ := HP6.out.long
              obtain ⟨ys, hys⟩ := HP6.out.after
              have HXS := Lib.hid hxs
              have HYS := Lib.hid hys
              clear hxs hys
              refine bodyPost_ret (v := .agg #[.slice _ _ _, .slice _ _ _]) (by simp [results, Try.results19, go_sem, q0, q1] <;> exact ⟨⟨rfl, rfl⟩, rfl, rfl⟩) rfl ⟨_, _, _, _, _, _, xs, ys, rfl, own_base (own_setOld (own_setOld HXS.out (by omega) _ _) (by omega) _ _) (by omega), own_base (own_setOld (own_setOld HYS.out (by omega) _ _) (by omega) _ _) (by omega), by omega, by omega, ((HM6.out.setNew (Nat.le_refl _) hR _ _).setNew (Nat.le_refl _) hR _ _).mono (by omega)⟩
          · have qu1 : (u == 1) = false := by simpa using hu11
            obtain ⟨e0, e1, f0, f1⟩ := HP4.out.cells
            have hPl3 : w.heap.size + 1 < w4.heap.size := HP4.out.blk.lt
            obtain ⟨zs, hzs⟩ := HP4.out.drew.after
            go_wp2_with (fail)
            go_region_law (first
              | (refine step_app rowI (by rfl) _ _ (by rfl) (w.heap.size + 2) _ j (vI zs) (by rfl) (hzs.alloc _) ⟨w4.heap.size, 0, none⟩ 1 1 (vI [_]) (by rfl) rfl (cell_one_at (by simp) _ _) (vI_one _) (by decide) (by omega) (by simp; omega) ?_
                 intro g2 cap2 wE hownwE hgrowwE hatwE hltwE
                 have HST := Lib.hid ((HP4.out.drew.below ((Below.refl _ _).alloc (Nat.le_refl _) _)).setAfter hownwE ⟨zs ++ [_], (vI_app _ _).symm⟩ hgrowwE (hatwE.imp id (fun h => Nat.le_of_eq h.symm)))
                 have eSwE := HST.out.1.2.2.1
                 have fSwE := HST.out.1.2.2.2
                 have rwE := (HST.out.1.1.cell 0).trans rfl
                 have rfwE := HST.out.1.1.frozen 0
                 have q0 := (HST.out.1.2.1.cell 0).trans rfl
                 have q1 := (HST.out.1.2.1.cell 1).trans rfl
                 have qf0 := HST.out.1.2.1.frozen 0
                 have qf1 := HST.out.1.2.1.frozen 1
                 have hQ := HST.out.1.2.1.lt
                 have hPl4 := HST.out.1.1.lt
                 obtain ⟨ls, hls⟩ := HST.out.2.long))
            all_goals
              go_wp2_with (first
                | (at_builtin; refine wpl_app rowI rfl _ _ (by rfl) (w.heap.size + 2) _ j (vI ls) (by rfl) (hls.alloc _) ⟨wE.heap.size, 0, none⟩ 1 1 (vI [_]) (by rfl) rfl (cell_one_at (by simp) _ _) (vI_one _) (by decide) (by omega) (by simp; omega) ?_
                   intro g3 cap3 wG hownwG hgrowwG hatwG hltwG
                   have HSU := Lib.hid ((HST.out.2.below ((Below.refl _ _).alloc (Nat.le_refl _) _)).setLong hownwG ⟨ls ++ [_], (vI_app _ _).symm⟩ hgrowwG (hatwG.imp id (fun h => Nat.le_of_eq h.symm)))
                   have eSwG := HSU.out.1.2.2.1
                   have fSwG := HSU.out.1.2.2.2
                   have rwG := (HSU.out.1.1.cell 1).trans rfl
                   have rfwG := HSU.out.1.1.frozen 1
                   have q0 := (HSU.out.1.2.1.cell 0).trans rfl
                   have q1 := (HSU.out.1.2.1.cell 1).trans rfl
                   have qf0 := HSU.out.1.2.1.frozen 0
                   have qf1 := HSU.out.1.2.1.frozen 1
                   have hQ := HSU.out.1.2.1.lt
                   have hPl4 := HSU.out.1.1.lt))
              have HP6 := Lib.hid HSU.out.2
              have HM6 := Lib.hid (((((((HM4.out.drewN 1).alloc _).grown hgrowwE (fun k hk => by have := (hzs.lt k hk).1; omega) hR).setNew (P := w.heap.size + 1) (by omega) hR 1 (.slice (some ⟨g2, 0, none⟩) (j + 1) cap2)).alloc _).grown hgrowwG (fun k hk => by have := (hls.lt k hk).1; omega) hR).setNew (P := w.heap.size + 1) (by omega) hR 0 (.slice (some ⟨g3, 0, none⟩) (j + 1) cap3))
              obtain ⟨xs, hxs⟩ := HP6.out.long
              obtain ⟨ys, hys⟩ := HP6.out.after
              have HXS := Lib.hid hxs
              have HYS := Lib.hid hys
              clear hxs hys
              refine bodyPost_ret (v := .agg #[.slice _ _ _, .slice _ _ _]) (by simp [results, Try.results19, go_sem, q0, q1] <;> exact ⟨⟨rfl, rfl⟩, rfl, rfl⟩) rfl ⟨_, _, _, _, _, _, xs, ys, rfl, own_base (own_setOld (own_setOld HXS.out (by omega) _ _) (by omega) _ _) (by omega), own_base (own_setOld (own_setOld HYS.out (by omega) _ _) (by omega) _ _) (by omega), by omega, by omega, ((HM6.out.setNew (Nat.le_refl _) hR _ _).setNew (Nat.le_refl _) hR _ _).mono (by omega)⟩

end Go.Proofs.Ytenhchfbmmlmmaa
