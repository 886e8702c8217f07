/- Draws of plans: l20Plan. -/
import Derived.Test.YtpefimeogbpagaaDRP
import Derived.Test.YtpefimeogbpagaaDR2
import Derived.Deep.RegionLaw
import Derived.Deep.CutRange
import Derived.Deep.DrawnRows
set_option linter.unusedSimpArgs false
set_option linter.unusedVariables false
namespace Go.Proofs.Ytpefimeogbpagaa
open Go.RowKit
attribute [local go_sem ↓] Go.wp_at_zero Go.wp_at_succ

/-- What l20Plan leaves. -/
def PlanDrawn (R : Nat) (B : Int) (w : World) (e : Ending) (w' : World) : Prop :=
  ∃ (pts : Int) (A : Option Addr) (n c : Nat) (xs : List Bd), e = .returned (.agg #[.int .i64 pts, .slice A n c]) ∧ 0 ≤ pts ∧ pts ≤ 7 ∧ n ≤ 9 ∧ OwnB w' w.heap.size A n c xs ∧ Mv R (B + 80) w w'

set_option maxRecDepth 100000 in
set_option maxHeartbeats 40000000 in
theorem l20Plan_any (R : Nat) (B n : Int) (w : World) (h : Rd w R B) (hB : B ≤ 900000000) (hn : 0 ≤ n ∧ n ≤ 1000) :
    Calls Try.prog 54 #[.pointer (some ⟨R, 0, none⟩), .int .i64 n] w (PlanDrawn R B w) := by
  have hR := h.lt
  have HQ0 := Lib.hid (Blk.new w 25 #[.int .i64 0, .slice none 0 0])
  have HM0 := Lib.hid (show Mv R B w (w.alloc (.cells #[.int .i64 0, .slice none 0 0] 25)) from ⟨grown_of_below ((Below.refl _ _).alloc (Nat.le_refl _) _) _, h.alloc _⟩)
  clear h
  go_enter Try.func54, Try.ntmps54
  go_wp2_with (fail)
  refine kPick (pick_any R B 5 _ HM0.out.2 (by omega)) ?_
  intro x w1 hx hx9 hm1 hs1
  clear hx9 hs1
  obtain ⟨hx0, hx1⟩ := hx (by omega)
  have HM1 := Lib.hid (HM0.out.trans hm1)
  have HQ1 := Lib.hid (show Blk w1 w.heap.size 25 #[.int .i64 0, .slice none 0 0] from (hm1.1.block _ HQ0.out.lt (fun e => by cases e; omega)).trans HQ0.out)
  clear hm1 hx
  go_wp2_with (fail)
  refine kPick (pick_any R _ 20 _ HM1.out.2 (by omega)) ?_
  intro y w2 hy hy9 hm2 hs2
  clear hy9 hs2
  obtain ⟨hy0, hy1⟩ := hy (by omega)
  have hz0 : 0 ≤ y / 19 := by omega
  have hz1 : y / 19 ≤ 1 := by omega
  have HM2 := Lib.hid (HM1.out.trans hm2)
  have HQ2 := Lib.hid (show Blk w2 w.heap.size 25 #[.int .i64 0, .slice none 0 0] from (hm2.1.block _ HQ1.out.lt (fun e => by cases e; omega)).trans HQ1.out)
  clear hm2 hy
  obtain ⟨k1, HKK⟩ : ∃ K : Nat, Hid (1 + x + y / 19 = (K : Int)) := ⟨(1 + x + y / 19).toNat, Lib.hid (by omega)⟩
  have hK0 : 1 ≤ k1 := by have := HKK.out; omega
  have hK6 : k1 ≤ 6 := by have := HKK.out; omega
  have HKE := HKK.out
  have hqw2 : w.heap.size < w2.heap.size := HQ2.out.lt
  go_wp2_with (fail)
  obtain ⟨P, HPP⟩ : ∃ P, Hid (w2.heap.size = P) := ⟨_, rfl⟩
  rw [HPP.out]
  rw [HPP.out] at hqw2
  go_loopw [6, 7] (fun o i wr => ∃ (k g cv : Nat) (ts : List Int), k ≤ k1 ∧ i = .int .i64 k ∧ o = .slice (some ⟨g, 0, none⟩) k cv ∧ wr.ownsRow (P + 1) 3 1 (.slice (some ⟨g, 0, none⟩) k cv) k (vI ts) ∧ PnAt wr R w.heap.size P (P + 1) (B + 2 + 2 * (k : Int)) k1 none 0 0 ∧ Mv R (B + 2 + 2 * (k : Int)) w wr) (fun _ i _ => k1 - (intOf i).toNat)
  case atStart => exact ⟨0, P + 1, 0, [], Nat.zero_le _, rfl, rfl, (own_lit_atB (by rw [World.size_alloc, HPP.out]) (P + 1) _ 1 #[] 0 (by rw [World.size_alloc, HPP.out]; exact Nat.le_refl _) (by decide) rfl), PnAt.mono ⟨(HM2.out.2.alloc _).alloc _, hR, hqw2, Nat.lt_succ_self _, by rw [World.size_alloc, World.size_alloc, HPP.out]; omega, HQ2.out.below (((Below.refl _ _).alloc (Nat.le_refl _) _).alloc (by simp) _) HQ2.out.lt, (Blk.new_at HPP.out _ _).below ((Below.refl _ _).alloc (Nat.le_refl _) _) (Blk.new_at HPP.out _ _).lt, ⟨[], OwnB.empty _ _⟩⟩ (by omega), ((HM2.out.alloc _).alloc _).mono (by omega)⟩
  case round =>
    obtain ⟨wo, rfl⟩ : ∃ wo : World, wo = wr := ⟨_, rfl⟩
    obtain ⟨k, g, cv, ts, hk, rfl, rfl, hown, hp, hm⟩ := hrel
    have HO := Lib.hid hown
    have HP := Lib.hid hp
    have HM := Lib.hid hm
    obtain ⟨e0, e1, f0, f1⟩ := hp.cells
    have hPl : P < wo.heap.size := hp.blk.lt
    have hgl : g < wo.heap.size := (hown.lt g rfl).2
    have hgP : P + 1 ≤ g := (hown.lt g rfl).1
    have hkE : (k : Int) ≤ k1 := by omega
    clear hown hp hm HKE
    by_cases hlt : (k : Int) < k1
    · have hltN : k < k1 := by omega
      go_wp2_with (fail)
      refine kPick (pick_any R _ 30 _ HP.out.rd (by omega)) ?_
      intro x1 wA hq1 hq2 hmA hsA
      clear hq1 hq2 hsA
      have HPA := Lib.hid (HP.out.mv hmA)
      have HMA := Lib.hid (HM.out.trans hmA)
      have HOA := Lib.hid (own_mv HO.out (by have := HP.out.lt; omega) hmA)
      clear hmA
      go_wp2_with (fail)
      refine kPick (pick_any R _ 10 _ HPA.out.rd (by omega)) ?_
      intro x2 wC hq1 hq2 hmC hsC
      clear hq1 hq2 hsC
      have HPC := Lib.hid (HPA.out.mv hmC)
      have HMC := Lib.hid (HMA.out.trans hmC)
      have HOC := Lib.hid (own_mv HOA.out (by have := HP.out.lt; omega) hmC)
      have hwC : P + 1 ≤ wC.heap.size := by have := HPC.out.blk.lt; omega
      clear hmC

      go_wp2_with (first
        | (at_builtin; go_loud (refine wpl_app rowI rfl _ _ (by rfl) (P + 1) _ k (vI ts) (by rfl) (HOC.out.alloc _) ⟨wC.heap.size, 0, none⟩ 1 1 (vI [_]) (by rfl) rfl (cell_one_at (by simp) _ _) (vI_one _) (by decide) (by omega) (by simp; omega) ?_)
           intro g' cap' wB hownB hgrow hat hltB))
      have HPB := Lib.hid ((HPC.out.below ((Below.refl _ _).alloc (Nat.le_refl _) _)).grown hgrow (fun r hr => (HOC.out.lt r hr).1))
      have HMB := Lib.hid ((HMC.out.alloc _).grown hgrow (fun r hr => by have := (HOC.out.lt r hr).1; omega) hR)
      have HOB := Lib.hid hownB
      clear hownB hgrow hat hltB
      go_wp2
      go_roundw
      case rel => exact ⟨k + 1, _, _, ts ++ [_], by omega, by go_num, rfl, by rw [vI_app]; exact HOB.out, HPB.out.mono (by push_cast; omega), HMB.out.mono (by push_cast; omega)⟩
      case measure => simp [intOf]; omega
    · obtain rfl : k = k1 := by omega
      have hgP' : P < g := hgP
      have hRP : R < P := HP.out.lt
      obtain ⟨B0, HB0⟩ : ∃ q, Hid (wo.heap.size = q) := ⟨_, rfl⟩
      rw [HB0.out] at hgl
      have HP3 := Lib.hid (show PnAt wo R w.heap.size P B0 (B + 2 + 2 * (k : Int)) k none 0 0 from ⟨HP.out.rd, HP.out.lq, HP.out.qp, HB0.out ▸ hPl, Nat.le_of_eq HB0.out.symm, HP.out.res, HP.out.blk, ⟨[], OwnB.empty _ _⟩⟩)
      have HT3 := Lib.hid (show TmAt wo P B0 (some ⟨g, 0, none⟩) k from ⟨⟨ts, ownI_at HO.out⟩, fun a ha => by cases ha; exact ⟨hgP', hgl⟩⟩)
      have hk6 : (k : Int) ≤ 6 := by omega
      have hk1 : (1 : Int) ≤ k := by omega
      clear HP hPl HO hlt
      go_wp2_with (fail)
      refine kPick (pick_any R _ 4 _ HP3.out.rd (by omega)) ?_
      intro t w5 hq1 hq2 hm5 hs5
      clear hq1 hq2 hs5
      have HP5 := Lib.hid (HP3.out.mv hm5)
      have HT5 := Lib.hid (HT3.out.mv hRP hm5)
      have HM5 := Lib.hid (HM.out.trans hm5)
      clear hm5 HP3 HT3 HM e0 e1 f0 f1
      go_wp2_with (fail)
      refine kPick (pick_any R _ 9 _ HP5.out.rd (by omega)) ?_
      intro z w6 hq1 hq2 hm6 hs6
      obtain ⟨hz0', hz1'⟩ := hq1 (by omega)
      clear hq1 hq2 hs6
      have HP6 := Lib.hid (HP5.out.mv hm6)
      have HT6 := Lib.hid (HT5.out.mv hRP hm6)
      have HM6 := Lib.hid (HM5.out.trans hm6)
      clear hm6 HP5 HT5 HM5 HB0
      go_wp2_with (fail)
      go_loopw [9] (fun i wr => ∃ (K' : Int) (j : Nat) (A : Option Addr) (c : Nat), i = .int .i64 K' ∧ 0 ≤ K' ∧ (j : Int) + K' ≤ 8 ∧ PnAt wr R w.heap.size P B0 (B + 20 + 5 * (j : Int)) k A j c ∧ TmAt wr P B0 (some ⟨g, 0, none⟩) k ∧ Mv R (B + 20 + 5 * (j : Int)) w wr) (fun i _ => (intOf i).toNat)
      case atStart => exact ⟨z, 0, none, 0, rfl, hz0', by omega, HP6.out.mono (by omega), HT6.out, HM6.out.mono (by omega)⟩
      case round =>
        obtain ⟨wn, rfl⟩ : ∃ wn : World, wn = wr := ⟨_, rfl⟩
        obtain ⟨K', j, A, c, rfl, hk0', hkj, hp, ht, hm⟩ := hrel
        have HP := Lib.hid hp
        have HT := Lib.hid ht
        have HM := Lib.hid hm
        obtain ⟨e0, e1, f0, f1⟩ := hp.cells
        have hPl : P < wn.heap.size := hp.blk.lt
        clear hp ht hm HP6 HT6 HM6
        by_cases hk' : 0 < K'
        · have hPn2 : ¬ P = wn.heap.size := by omega
          have hPn3 : ¬ wn.heap.size = P := by omega
          have eL := keep ((Below.refl wn.heap.size wn).alloc (Nat.le_refl _) (.cells #[.int .i64 0, .int .i64 0, .int .i64 0] 61)) e0
          go_upto_region 11 with fail
          go_cut [10] from 38 to 84 (fun s wx => ∃ q i1 i2 : Nat, s = .pointer (some ⟨q, 0, none⟩) ∧ i1 < k ∧ i2 < k ∧ P < q ∧ B0 ≤ q ∧ w.heap.size ≤ q ∧ q ≠ R ∧ (∀ r, (Value.slice A j c).ownBlock = some r → r ≠ q) ∧ Blk wx q 61 #[.int .i64 i1, .int .i64 i2, .int .i64 0] ∧ PnAt wx R w.heap.size P B0 (B + 20 + 5 * (j : Int) + 2) k A j c ∧ TmAt wx P B0 (some ⟨g, 0, none⟩) k ∧ Mv R (B + 20 + 5 * (j : Int) + 2) w wx)
          case first =>
            refine wp_region_held_drew (S := (fun w' => w'.cell? ⟨P, 0, none⟩ = some (.int .i64 k))) (by kernel_rfl) ?_ (fun hHeld => ?_)
            · exact e0
            refine wpAnyH_take (i := 0) (oi := _) (v := ?_) rfl (by kernel_rfl) (by kernel_rfl) (by kernel_rfl) (fun _ _ _ h => h) (Or.inl ⟨by kernel_rfl, ?_⟩) (by assumption) ?_
            rotate_left
            · (intro w hSw; (try dsimp only at hSw); go_simp; (try with_reducible rfl))
            try simp only [Act.put, List.getElem_toArray, List.getElem_cons_succ, List.getElem_cons_zero, List.setIfInBounds_toArray, List.set_cons_zero, List.set_cons_succ]
            refine wpAnyH_take (i := 1) (oi := _) (v := ?_) rfl (by kernel_rfl) (by kernel_rfl) (by kernel_rfl) (fun _ _ _ h => h) (Or.inl ⟨by kernel_rfl, ?_⟩) (by assumption) ?_
            rotate_left
            · (intro w hSw; (try dsimp only at hSw); go_simp; (try with_reducible rfl))
            try simp only [Act.put, List.getElem_toArray, List.getElem_cons_succ, List.getElem_cons_zero, List.setIfInBounds_toArray, List.set_cons_zero, List.set_cons_succ]
            refine wpAnyH_take (i := 2) (oi := _) (v := ?_) rfl (by kernel_rfl) (by kernel_rfl) (by kernel_rfl) (fun _ _ _ h => h) (Or.inl ⟨by kernel_rfl, ?_⟩) (by assumption) ?_
            rotate_left
            · (intro w hSw; (try dsimp only at hSw); go_simp; (try with_reducible rfl))
            try simp only [Act.put, List.getElem_toArray, List.getElem_cons_succ, List.getElem_cons_zero, List.setIfInBounds_toArray, List.set_cons_zero, List.set_cons_succ]
            refine wpAnyH_take (i := 4) (oi := _) (v := ?_) rfl (by kernel_rfl) (by kernel_rfl) (by kernel_rfl) (fun _ _ _ h => h) (Or.inl ⟨by kernel_rfl, ?_⟩) (by assumption) ?_
            rotate_left
            · (intro w hSw; (try dsimp only at hSw); go_simp; (try with_reducible rfl))
            try simp only [Act.put, List.getElem_toArray, List.getElem_cons_succ, List.getElem_cons_zero, List.setIfInBounds_toArray, List.set_cons_zero, List.set_cons_succ]
            refine wpAnyH_take (i := 5) (oi := _) (v := ?_) rfl (by kernel_rfl) (by kernel_rfl) (by kernel_rfl) (fun _ _ _ h => h) (Or.inl ⟨by kernel_rfl, ?_⟩) (by assumption) ?_
            rotate_left
            · (intro w hSw; (try dsimp only at hSw); go_simp; (try with_reducible rfl))
            try simp only [Act.put, List.getElem_toArray, List.getElem_cons_succ, List.getElem_cons_zero, List.setIfInBounds_toArray, List.set_cons_zero, List.set_cons_succ]
            refine wpAnyH_take (i := 6) (oi := _) (v := ?_) rfl (by kernel_rfl) (by kernel_rfl) (by kernel_rfl) (fun _ _ _ h => h) (Or.inl ⟨by kernel_rfl, ?_⟩) (by assumption) ?_
            rotate_left
            · (intro w hSw; (try dsimp only at hSw); go_simp; (try with_reducible rfl))
            try simp only [Act.put, List.getElem_toArray, List.getElem_cons_succ, List.getElem_cons_zero, List.setIfInBounds_toArray, List.set_cons_zero, List.set_cons_succ]
            refine wpAnyH_ready (rs := [3, 9]) (by kernel_rfl) (by simp) ?_
            refine AllReadyH.cons (o := _) rfl (fun K hK => ?_) (AllReadyH.cons (o := _) rfl (fun K hK => ?_) (AllReadyH.nil))
            · go_simp
              go_at_call 32
              refine kPick (pick_any R _ _ _ HP.out.drew.rd (by omega)) ?_
              intro x1 wA hq1 hq2 hmA hsA
              obtain ⟨hq3, hq4⟩ := hq1 (by omega)
              clear hq1 hq2 hsA
              obtain ⟨i1, rfl⟩ := Int.eq_ofNat_of_zero_le hq3
              have HPA := Lib.hid (HP.out.drew.mv hmA)
              have HTA := Lib.hid (HT.out.drew.mv hRP hmA)
              have HMA := Lib.hid ((HM.out.drewN 1).trans hmA)
              obtain ⟨a0, a1, _, _⟩ := HPA.out.cells
              have hPA : P < wA.heap.size := HPA.out.blk.lt
              have hPA3 : ¬ wA.heap.size = P := by omega
              go_wp2_with fail
              refine hK.out _ _ ?_ (fun hHeld => ?_)
              · exact a0
              clear hK K
              try simp only [Act.put, List.getElem_toArray, List.getElem_cons_succ, List.getElem_cons_zero, List.setIfInBounds_toArray, List.set_cons_zero, List.set_cons_succ]
              refine wpAnyH_ready (rs := [7, 9]) (by kernel_rfl) (by simp) ?_
              refine AllReadyH.cons (o := _) rfl (fun K hK => ?_) (AllReadyH.cons (o := _) rfl (fun K hK => ?_) (AllReadyH.nil))
              · go_simp
                go_at_call 32
                refine kPick (pick_any R _ _ _ HPA.out.rd (by omega)) ?_
                intro x2 wC hq1 hq2 hmC hsC
                obtain ⟨hq5, hq6⟩ := hq1 (by omega)
                clear hq1 hq2 hsC
                obtain ⟨i2, rfl⟩ := Int.eq_ofNat_of_zero_le hq5
                have HPC := Lib.hid (HPA.out.mv hmC)
                have HTC := Lib.hid (HTA.out.mv hRP hmC)
                have HMC := Lib.hid (HMA.out.trans hmC)
                obtain ⟨b0, b1, _, _⟩ := HPC.out.cells
                go_wp2_with fail
                refine hK.out _ _ ?_ (fun hHeld => ?_)
                · exact b0
                clear hK K
                try simp only [Act.put, List.getElem_toArray, List.getElem_cons_succ, List.getElem_cons_zero, List.setIfInBounds_toArray, List.set_cons_zero, List.set_cons_succ]
                refine wpAnyH_take (i := 8) (oi := _) (v := ?_) rfl (by kernel_rfl) (by kernel_rfl) (by kernel_rfl) (fun _ _ _ h => h) (Or.inl ⟨by kernel_rfl, ?_⟩) (by assumption) ?_
                rotate_left
                · (intro w hSw; (try dsimp only at hSw); go_simp; (try with_reducible rfl))
                try simp only [Act.put, List.getElem_toArray, List.getElem_cons_succ, List.getElem_cons_zero, List.setIfInBounds_toArray, List.set_cons_zero, List.set_cons_succ]
                refine wpAnyH_ready (rs := [9]) (by kernel_rfl) (by simp) ?_
                refine AllReadyH.cons (o := _) rfl (fun K hK => ?_) (AllReadyH.nil)
                go_simp
                refine hK.out _ _ ?_ (fun hHeld => ?_)
                · exact keep (show Below wC.heap.size wC (wC.alloc (.cells #[.int .i64 0, .int .i64 0, .int .i64 0] 61)) from ((Below.refl wC.heap.size wC).alloc (Nat.le_refl _) (.cells #[.int .i64 0, .int .i64 0, .int .i64 0] 61))) b0
                clear hK K
                try simp only [Act.put, List.getElem_toArray, List.getElem_cons_succ, List.getElem_cons_zero, List.setIfInBounds_toArray, List.set_cons_zero, List.set_cons_succ]
                refine wpAnyH_ready (rs := [10]) (by kernel_rfl) (by simp) ?_
                refine AllReadyH.cons (o := _) rfl (fun K hK => ?_) (AllReadyH.nil)
                go_simp
                refine hK.out _ _ ?_ (fun hHeld => ?_)
                · exact keep ((Below.refl wC.heap.size wC).alloc (Nat.le_refl _) _) b0
                clear hK K
                try simp only [Act.put, List.getElem_toArray, List.getElem_cons_succ, List.getElem_cons_zero, List.setIfInBounds_toArray, List.set_cons_zero, List.set_cons_succ]
                refine wpAnyH_done (by kernel_rfl) ?_ _
                go_wp2_with fail
                go_meet
                exact ⟨wC.heap.size, i1, i2, rfl, by omega, by omega, HPC.out.blk.lt, HPC.out.bw, HMC.out.1.size, by have := HPC.out.rd.lt; omega, fun r hr => by obtain ⟨xs, hx⟩ := HPC.out.row; have := (hx.lt r hr).2; omega, Blk.new wC _ _, (HPC.out.below ((Below.refl _ _).alloc (Nat.le_refl _) _)).mono (by omega), HTC.out.below ((Below.refl _ _).alloc (Nat.le_refl _) _), (HMC.out.alloc _).mono (by omega)⟩
              · go_simp
                refine hK.out _ _ ?_ (fun hHeld => ?_)
                · exact keep (show Below wA.heap.size wA (wA.alloc (.cells #[.int .i64 0, .int .i64 0, .int .i64 0] 61)) from ((Below.refl wA.heap.size wA).alloc (Nat.le_refl _) (.cells #[.int .i64 0, .int .i64 0, .int .i64 0] 61))) a0
                clear hK K
                try simp only [Act.put, List.getElem_toArray, List.getElem_cons_succ, List.getElem_cons_zero, List.setIfInBounds_toArray, List.set_cons_zero, List.set_cons_succ]
                refine wpAnyH_ready (rs := [7]) (by kernel_rfl) (by simp) ?_
                refine AllReadyH.cons (o := _) rfl (fun K hK => ?_) (AllReadyH.nil)
                go_simp
                go_at_call 32
                refine kPick (pick_any R _ _ _ (HPA.out.below ((Below.refl wA.heap.size wA).alloc (Nat.le_refl _) (.cells #[.int .i64 0, .int .i64 0, .int .i64 0] 61))).rd (by omega)) ?_
                intro x2 wC hq1 hq2 hmC hsC
                obtain ⟨hq5, hq6⟩ := hq1 (by omega)
                clear hq1 hq2 hsC
                obtain ⟨i2, rfl⟩ := Int.eq_ofNat_of_zero_le hq5
                have HPC := Lib.hid ((HPA.out.below ((Below.refl wA.heap.size wA).alloc (Nat.le_refl _) (.cells #[.int .i64 0, .int .i64 0, .int .i64 0] 61))).mv hmC)
                have HTC := Lib.hid ((HTA.out.below ((Below.refl wA.heap.size wA).alloc (Nat.le_refl _) (.cells #[.int .i64 0, .int .i64 0, .int .i64 0] 61))).mv hRP hmC)
                have HMC := Lib.hid ((HMA.out.alloc (.cells #[.int .i64 0, .int .i64 0, .int .i64 0] 61)).trans hmC)
                have hqR : wA.heap.size ≠ R := by have := HPA.out.rd.lt; omega
                have HBX := Lib.hid (show Blk wC wA.heap.size 61 #[.int .i64 0, .int .i64 0, .int .i64 0] from (hmC.1.block _ (Blk.new wA 61 #[.int .i64 0, .int .i64 0, .int .i64 0]).lt (fun e => hqR (Option.some.inj e))).trans (Blk.new wA 61 #[.int .i64 0, .int .i64 0, .int .i64 0]))
                have c0 := (HBX.out.cell 0).trans rfl
                have c1 := (HBX.out.cell 1).trans rfl
                have c2 := (HBX.out.cell 2).trans rfl
                have g0 := HBX.out.frozen 0
                have g1 := HBX.out.frozen 1
                have g2 := HBX.out.frozen 2
                have hneq : ∀ r, (Value.slice A j c).ownBlock = some r → r ≠ wA.heap.size := fun r hr => by obtain ⟨xs, hx⟩ := HPA.out.row; have := (hx.lt r hr).2; omega
                obtain ⟨b0, b1, _, _⟩ := HPC.out.cells
                go_wp2_with fail
                refine hK.out _ _ ?_ (fun hHeld => ?_)
                · exact b0
                clear hK K
                try simp only [Act.put, List.getElem_toArray, List.getElem_cons_succ, List.getElem_cons_zero, List.setIfInBounds_toArray, List.set_cons_zero, List.set_cons_succ]
                refine wpAnyH_take (i := 8) (oi := _) (v := ?_) rfl (by kernel_rfl) (by kernel_rfl) (by kernel_rfl) (fun _ _ _ h => h) (Or.inl ⟨by kernel_rfl, ?_⟩) (by assumption) ?_
                rotate_left
                · (intro w hSw; (try dsimp only at hSw); go_simp; (try with_reducible rfl))
                try simp only [Act.put, List.getElem_toArray, List.getElem_cons_succ, List.getElem_cons_zero, List.setIfInBounds_toArray, List.set_cons_zero, List.set_cons_succ]
                refine wpAnyH_ready (rs := [10]) (by kernel_rfl) (by simp) ?_
                refine AllReadyH.cons (o := _) rfl (fun K hK => ?_) (AllReadyH.nil)
                go_simp
                refine hK.out _ _ ?_ (fun hHeld => ?_)
                · (repeat rw [World.cell?_setCell_far _ _ _ _ (by simp <;> omega)]); exact b0
                clear hK K
                try simp only [Act.put, List.getElem_toArray, List.getElem_cons_succ, List.getElem_cons_zero, List.setIfInBounds_toArray, List.set_cons_zero, List.set_cons_succ]
                refine wpAnyH_done (by kernel_rfl) ?_ _
                go_wp2_with fail
                go_meet
                exact ⟨wA.heap.size, i1, i2, rfl, by omega, by omega, HPA.out.blk.lt, HPA.out.bw, HMA.out.1.size, hqR, hneq, by simpa using ((HBX.out.set_ 0 (.int .i64 i1)).set_ 1 (.int .i64 i2)).set_ 2 (.int .i64 0), PnAt.mono (((HPC.out.setHi HPA.out.blk.lt hneq 0 _).setHi HPA.out.blk.lt hneq 1 _).setHi HPA.out.blk.lt hneq 2 _) (by omega), ((HTC.out.setHi HPA.out.bw 0 _).setHi HPA.out.bw 1 _).setHi HPA.out.bw 2 _, Mv.mono (((HMC.out.setNew HMA.out.1.size hR 0 _).setNew HMA.out.1.size hR 1 _).setNew HMA.out.1.size hR 2 _) (by omega)⟩
            · go_simp
              refine hK.out _ _ ?_ (fun hHeld => ?_)
              · exact keep (show Below wn.heap.size wn (wn.alloc (.cells #[.int .i64 0, .int .i64 0, .int .i64 0] 61)) from ((Below.refl wn.heap.size wn).alloc (Nat.le_refl _) (.cells #[.int .i64 0, .int .i64 0, .int .i64 0] 61))) e0
              clear hK K
              try simp only [Act.put, List.getElem_toArray, List.getElem_cons_succ, List.getElem_cons_zero, List.setIfInBounds_toArray, List.set_cons_zero, List.set_cons_succ]
              refine wpAnyH_ready (rs := [3]) (by kernel_rfl) (by simp) ?_
              refine AllReadyH.cons (o := _) rfl (fun K hK => ?_) (AllReadyH.nil)
              go_simp
              go_at_call 32
              refine kPick (pick_any R _ _ _ (show PnAt (wn.alloc (.cells #[.int .i64 0, .int .i64 0, .int .i64 0] 61)).drew R w.heap.size P B0 _ k A j c from (HP.out.below ((Below.refl wn.heap.size wn).alloc (Nat.le_refl _) (.cells #[.int .i64 0, .int .i64 0, .int .i64 0] 61))).drew).rd (by omega)) ?_
              intro x1 wA hq1 hq2 hmA hsA
              obtain ⟨hq3, hq4⟩ := hq1 (by omega)
              clear hq1 hq2 hsA
              obtain ⟨i1, rfl⟩ := Int.eq_ofNat_of_zero_le hq3
              have HPA := Lib.hid ((show PnAt (wn.alloc (.cells #[.int .i64 0, .int .i64 0, .int .i64 0] 61)).drew R w.heap.size P B0 _ k A j c from (HP.out.below ((Below.refl wn.heap.size wn).alloc (Nat.le_refl _) (.cells #[.int .i64 0, .int .i64 0, .int .i64 0] 61))).drew).mv hmA)
              have HTA := Lib.hid ((show TmAt (wn.alloc (.cells #[.int .i64 0, .int .i64 0, .int .i64 0] 61)).drew P B0 (some ⟨g, 0, none⟩) k from (HT.out.below ((Below.refl wn.heap.size wn).alloc (Nat.le_refl _) (.cells #[.int .i64 0, .int .i64 0, .int .i64 0] 61))).drew).mv hRP hmA)
              have HMA := Lib.hid (((HM.out.alloc (.cells #[.int .i64 0, .int .i64 0, .int .i64 0] 61)).drewN 1).trans hmA)
              have hqR : wn.heap.size ≠ R := by have := HP.out.rd.lt; omega
              have HBA := Lib.hid (show Blk wA wn.heap.size 61 #[.int .i64 0, .int .i64 0, .int .i64 0] from (hmA.1.block _ (Blk.new wn 61 #[.int .i64 0, .int .i64 0, .int .i64 0]).lt (fun e => hqR (Option.some.inj e))).trans (Blk.new wn 61 #[.int .i64 0, .int .i64 0, .int .i64 0]))
              obtain ⟨a0, a1, _, _⟩ := HPA.out.cells
              have hPA : P < wA.heap.size := HPA.out.blk.lt
              have hPA3 : ¬ wA.heap.size = P := by omega
              go_wp2_with fail
              refine hK.out _ _ ?_ (fun hHeld => ?_)
              · exact a0
              clear hK K
              try simp only [Act.put, List.getElem_toArray, List.getElem_cons_succ, List.getElem_cons_zero, List.setIfInBounds_toArray, List.set_cons_zero, List.set_cons_succ]
              refine wpAnyH_ready (rs := [7]) (by kernel_rfl) (by simp) ?_
              refine AllReadyH.cons (o := _) rfl (fun K hK => ?_) (AllReadyH.nil)
              go_simp
              go_at_call 32
              refine kPick (pick_any R _ _ _ HPA.out.rd (by omega)) ?_
              intro x2 wC hq1 hq2 hmC hsC
              obtain ⟨hq5, hq6⟩ := hq1 (by omega)
              clear hq1 hq2 hsC
              obtain ⟨i2, rfl⟩ := Int.eq_ofNat_of_zero_le hq5
              have HPC := Lib.hid (HPA.out.mv hmC)
              have HTC := Lib.hid (HTA.out.mv hRP hmC)
              have HMC := Lib.hid (HMA.out.trans hmC)
              have HBX := Lib.hid (show Blk wC wn.heap.size 61 #[.int .i64 0, .int .i64 0, .int .i64 0] from (hmC.1.block _ HBA.out.lt (fun e => hqR (Option.some.inj e))).trans HBA.out)
              have c0 := (HBX.out.cell 0).trans rfl
              have c1 := (HBX.out.cell 1).trans rfl
              have c2 := (HBX.out.cell 2).trans rfl
              have g0 := HBX.out.frozen 0
              have g1 := HBX.out.frozen 1
              have g2 := HBX.out.frozen 2
              have hneq : ∀ r, (Value.slice A j c).ownBlock = some r → r ≠ wn.heap.size := fun r hr => by obtain ⟨xs, hx⟩ := HP.out.row; have := (hx.lt r hr).2; omega
              have hqP : P < wn.heap.size := hPl
              obtain ⟨b0, b1, _, _⟩ := HPC.out.cells
              go_wp2_with fail
              refine hK.out _ _ ?_ (fun hHeld => ?_)
              · exact b0
              clear hK K
              try simp only [Act.put, List.getElem_toArray, List.getElem_cons_succ, List.getElem_cons_zero, List.setIfInBounds_toArray, List.set_cons_zero, List.set_cons_succ]
              refine wpAnyH_take (i := 8) (oi := _) (v := ?_) rfl (by kernel_rfl) (by kernel_rfl) (by kernel_rfl) (fun _ _ _ h => h) (Or.inl ⟨by kernel_rfl, ?_⟩) (by assumption) ?_
              rotate_left
              · (intro w hSw; (try dsimp only at hSw); go_simp; (try with_reducible rfl))
              try simp only [Act.put, List.getElem_toArray, List.getElem_cons_succ, List.getElem_cons_zero, List.setIfInBounds_toArray, List.set_cons_zero, List.set_cons_succ]
              refine wpAnyH_ready (rs := [10]) (by kernel_rfl) (by simp) ?_
              refine AllReadyH.cons (o := _) rfl (fun K hK => ?_) (AllReadyH.nil)
              go_simp
              refine hK.out _ _ ?_ (fun hHeld => ?_)
              · (repeat rw [World.cell?_setCell_far _ _ _ _ (by simp <;> omega)]); exact b0
              clear hK K
              try simp only [Act.put, List.getElem_toArray, List.getElem_cons_succ, List.getElem_cons_zero, List.setIfInBounds_toArray, List.set_cons_zero, List.set_cons_succ]
              refine wpAnyH_done (by kernel_rfl) ?_ _
              go_wp2_with fail
              go_meet
              exact ⟨wn.heap.size, i1, i2, rfl, by omega, by omega, HP.out.blk.lt, HP.out.bw, HM.out.1.size, hqR, hneq, by simpa using ((HBX.out.set_ 0 (.int .i64 i1)).set_ 1 (.int .i64 i2)).set_ 2 (.int .i64 0), PnAt.mono (((HPC.out.setHi HP.out.blk.lt hneq 0 _).setHi HP.out.blk.lt hneq 1 _).setHi HP.out.blk.lt hneq 2 _) (by omega), ((HTC.out.setHi HP.out.bw 0 _).setHi HP.out.bw 1 _).setHi HP.out.bw 2 _, Mv.mono (((HMC.out.setNew HM.out.1.size hR 0 _).setNew HM.out.1.size hR 1 _).setNew HM.out.1.size hR 2 _) (by omega)⟩
          case rest =>
            obtain ⟨q, i1, i2, rfl, hi1, hi2, hPq, hBq, hwq, hqR, hneq, hblk, hp, ht, hm⟩ := hcut
            have HPE := Lib.hid hp
            have HTE := Lib.hid ht
            have HME := Lib.hid hm
            have HBE := Lib.hid hblk
            have HNE := Lib.hid hneq
            have hi1E : (i1 : Int) < k := by omega
            have hi2E : (i2 : Int) < k := by omega
            have u0 := (hblk.cell 0).trans rfl
            have u1 := (hblk.cell 1).trans rfl
            obtain ⟨tb, toff, eT, hTg⟩ := ht.get (by omega)
            cases eT
            obtain ⟨y1, hy1⟩ := hTg i1 hi1
            obtain ⟨y2, hy2⟩ := hTg i2 hi2
            rw [Nat.zero_add] at hy1 hy2
            have hgR : g ≠ R := by omega
            have hgq : g ≠ q := by have := (ht.pos _ rfl).2; simp only at this; omega
            clear hTg hblk hp ht hm hneq e0 e1 f0 f1
            go_wp2_with (fail)
            refine wp_region_held_drew (S := (fun w' => w'.cell? ⟨q, 0, none⟩ = some (.int .i64 i1) ∧ w'.cell? ⟨q, 1, none⟩ = some (.int .i64 i2) ∧ w'.cell? ⟨g, i1, none⟩ = some (.int .i64 y1) ∧ w'.cell? ⟨g, i2, none⟩ = some (.int .i64 y2))) (by kernel_rfl) ?_ (fun hHeld => ?_)
            · exact ⟨u0, u1, hy1, hy2⟩
            refine wpAnyH_take (i := 0) (oi := _) (v := ?_) rfl (by kernel_rfl) (by kernel_rfl) (by kernel_rfl) (fun _ _ _ h => h) (Or.inl ⟨by kernel_rfl, ?_⟩) (by assumption) ?_
            rotate_left
            · (intro w hSw; (try dsimp only at hSw); go_simp; (try with_reducible rfl))
            try simp only [Act.put, List.getElem_toArray, List.getElem_cons_succ, List.getElem_cons_zero, List.setIfInBounds_toArray, List.set_cons_zero, List.set_cons_succ]
            refine wpAnyH_take (i := 1) (oi := _) (v := ?_) rfl (by kernel_rfl) (by kernel_rfl) (by kernel_rfl) (fun _ _ _ h => h) (Or.inl ⟨by kernel_rfl, ?_⟩) (by assumption) ?_
            rotate_left
            · (intro w hSw; (try dsimp only at hSw); go_simp; (try with_reducible rfl))
            try simp only [Act.put, List.getElem_toArray, List.getElem_cons_succ, List.getElem_cons_zero, List.setIfInBounds_toArray, List.set_cons_zero, List.set_cons_succ]
            refine wpAnyH_take (i := 2) (oi := _) (v := ?_) rfl (by kernel_rfl) (by kernel_rfl) (by kernel_rfl) (fun _ _ _ h => h) (Or.inl ⟨by kernel_rfl, ?_⟩) (by assumption) ?_
            rotate_left
            · (intro w hSw; (try dsimp only at hSw); go_simp; (try with_reducible rfl))
            try simp only [Act.put, List.getElem_toArray, List.getElem_cons_succ, List.getElem_cons_zero, List.setIfInBounds_toArray, List.set_cons_zero, List.set_cons_succ]
            refine wpAnyH_take (i := 3) (oi := _) (v := ?_) rfl (by kernel_rfl) (by kernel_rfl) (by kernel_rfl) (fun _ _ _ h => h) (Or.inl ⟨by kernel_rfl, ?_⟩) (by assumption) ?_
            rotate_left
            · (intro w hSw; (try dsimp only at hSw); go_simp; (try with_reducible rfl))
            try simp only [Act.put, List.getElem_toArray, List.getElem_cons_succ, List.getElem_cons_zero, List.setIfInBounds_toArray, List.set_cons_zero, List.set_cons_succ]
            refine wpAnyH_take (i := 4) (oi := _) (v := ?_) rfl (by kernel_rfl) (by kernel_rfl) (by kernel_rfl) (fun _ _ _ h => h) (Or.inl ⟨by kernel_rfl, ?_⟩) (by assumption) ?_
            rotate_left
            · (intro w hSw; (try dsimp only at hSw); go_simp; (try with_reducible rfl))
            try simp only [Act.put, List.getElem_toArray, List.getElem_cons_succ, List.getElem_cons_zero, List.setIfInBounds_toArray, List.set_cons_zero, List.set_cons_succ]
            refine wpAnyH_take (i := 5) (oi := _) (v := ?_) rfl (by kernel_rfl) (by kernel_rfl) (by kernel_rfl) (fun _ _ _ h => h) (Or.inl ⟨by kernel_rfl, ?_⟩) (by assumption) ?_
            rotate_left
            · (intro w hSw; (try dsimp only at hSw); go_simp; (try with_reducible rfl))
            try simp only [Act.put, List.getElem_toArray, List.getElem_cons_succ, List.getElem_cons_zero, List.setIfInBounds_toArray, List.set_cons_zero, List.set_cons_succ]
            refine wpAnyH_take (i := 6) (oi := _) (v := ?_) rfl (by kernel_rfl) (by kernel_rfl) (by kernel_rfl) (fun _ _ _ h => h) (Or.inl ⟨by kernel_rfl, ?_⟩) (by assumption) ?_
            rotate_left
            · (intro w hSw; (try dsimp only at hSw); go_simp; (try with_reducible rfl))
            try simp only [Act.put, List.getElem_toArray, List.getElem_cons_succ, List.getElem_cons_zero, List.setIfInBounds_toArray, List.set_cons_zero, List.set_cons_succ]
            refine wpAnyH_take (i := 7) (oi := _) (v := ?_) rfl (by kernel_rfl) (by kernel_rfl) (by kernel_rfl) (fun _ _ _ h => h) (Or.inl ⟨by kernel_rfl, ?_⟩) (by assumption) ?_
            rotate_left
            · (intro w hSw; (try dsimp only at hSw); go_simp; (try with_reducible rfl))
            try simp only [Act.put, List.getElem_toArray, List.getElem_cons_succ, List.getElem_cons_zero, List.setIfInBounds_toArray, List.set_cons_zero, List.set_cons_succ]
            refine wpAnyH_take (i := 8) (oi := _) (v := ?_) rfl (by kernel_rfl) (by kernel_rfl) (by kernel_rfl) (fun _ _ _ h => h) (Or.inl ⟨by kernel_rfl, ?_⟩) (by assumption) ?_
            rotate_left
            · (intro w hSw; (try dsimp only at hSw); go_simp; (try with_reducible rfl))
            try simp only [Act.put, List.getElem_toArray, List.getElem_cons_succ, List.getElem_cons_zero, List.setIfInBounds_toArray, List.set_cons_zero, List.set_cons_succ]
            refine wpAnyH_take (i := 9) (oi := _) (v := ?_) rfl (by kernel_rfl) (by kernel_rfl) (by kernel_rfl) (fun _ _ _ h => h) (Or.inl ⟨by kernel_rfl, ?_⟩) (by assumption) ?_
            rotate_left
            · (intro w hSw; (try dsimp only at hSw); go_simp; (try with_reducible rfl))
            try simp only [Act.put, List.getElem_toArray, List.getElem_cons_succ, List.getElem_cons_zero, List.setIfInBounds_toArray, List.set_cons_zero, List.set_cons_succ]
            refine wpAnyH_take (i := 10) (oi := _) (v := ?_) rfl (by kernel_rfl) (by kernel_rfl) (by kernel_rfl) (fun _ _ _ h => h) (Or.inl ⟨by kernel_rfl, ?_⟩) (by assumption) ?_
            rotate_left
            · (intro w hSw; (try dsimp only at hSw); go_simp; (try with_reducible rfl))
            try simp only [Act.put, List.getElem_toArray, List.getElem_cons_succ, List.getElem_cons_zero, List.setIfInBounds_toArray, List.set_cons_zero, List.set_cons_succ]
            refine wpAnyH_take (i := 11) (oi := _) (v := ?_) rfl (by kernel_rfl) (by kernel_rfl) (by kernel_rfl) (fun _ _ _ h => h) (Or.inl ⟨by kernel_rfl, ?_⟩) (by assumption) ?_
            rotate_left
            · (intro w hSw; (try dsimp only at hSw); go_simp; (try with_reducible rfl))
            try simp only [Act.put, List.getElem_toArray, List.getElem_cons_succ, List.getElem_cons_zero, List.setIfInBounds_toArray, List.set_cons_zero, List.set_cons_succ]
            refine wpAnyH_ready (rs := [12]) (by kernel_rfl) (by simp) ?_
            refine AllReadyH.cons (o := _) rfl (fun K hK => ?_) (AllReadyH.nil)
            go_simp
            go_at_call 32
            refine kPick (pick_any R _ _ _ HPE.out.drew.rd (by omega)) ?_
            intro x3 wF hq1 hq2 hmF hsF
            obtain ⟨hx30, hx31⟩ := hq1 (by omega)
            clear hq1 hq2 hsF
            have HPF := Lib.hid (HPE.out.drew.mv hmF)
            have HTF := Lib.hid (HTE.out.drew.mv hRP hmF)
            have HMF := Lib.hid ((HME.out.drewN 1).trans hmF)
            have HBF := Lib.hid (show Blk wF q 61 #[.int .i64 i1, .int .i64 i2, .int .i64 0] from (hmF.1.block q HBE.out.lt (fun e => hqR (Option.some.inj e))).trans HBE.out)
            have s0 := (HBF.out.cell 0).trans rfl
            have s1 := (HBF.out.cell 1).trans rfl
            have s2 := (HBF.out.cell 2).trans rfl
            have t2 := HBF.out.frozen 2
            have hy1F := hmF.keepA hgR (show wc.drew.cell? _ = _ from hy1)
            have hy2F := hmF.keepA hgR (show wc.drew.cell? _ = _ from hy2)
            have hqF : q < wF.heap.size := HBF.out.lt
            go_wp2_with fail
            refine hK.out _ _ ?_ (fun hHeld => ?_)
            · exact ⟨s0, s1, hy1F, hy2F⟩
            clear hK K
            try simp only [Act.put, List.getElem_toArray, List.getElem_cons_succ, List.getElem_cons_zero, List.setIfInBounds_toArray, List.set_cons_zero, List.set_cons_succ]
            refine wpAnyH_take (i := 13) (oi := _) (v := ?_) rfl (by kernel_rfl) (by kernel_rfl) (by kernel_rfl) (fun _ _ _ h => h) (Or.inl ⟨by kernel_rfl, ?_⟩) (by assumption) ?_
            rotate_left
            · (intro w hSw; (try dsimp only at hSw); go_simp; (try with_reducible rfl))
            try simp only [Act.put, List.getElem_toArray, List.getElem_cons_succ, List.getElem_cons_zero, List.setIfInBounds_toArray, List.set_cons_zero, List.set_cons_succ]
            refine wpAnyH_take (i := 14) (oi := _) (v := ?_) rfl (by kernel_rfl) (by kernel_rfl) (by kernel_rfl) (fun _ _ _ h => h) (Or.inl ⟨by kernel_rfl, ?_⟩) (by assumption) ?_
            rotate_left
            · (intro w hSw; (try dsimp only at hSw); go_simp; (try with_reducible rfl))
            try simp only [Act.put, List.getElem_toArray, List.getElem_cons_succ, List.getElem_cons_zero, List.setIfInBounds_toArray, List.set_cons_zero, List.set_cons_succ]
            refine wpAnyH_ready (rs := [15]) (by kernel_rfl) (by simp) ?_
            refine AllReadyH.cons (o := _) rfl (fun K hK => ?_) (AllReadyH.nil)
            go_simp
            refine hK.out _ _ ?_ (fun hHeld => ?_)
            · refine ⟨?_, ?_, ?_, ?_⟩
              · rw [World.cell?_setCell_other _ _ _ _ (by simp)]; exact s0
              · rw [World.cell?_setCell_other _ _ _ _ (by simp)]; exact s1
              · rw [World.cell?_setCell_far _ _ _ _ (by simp <;> omega)]; exact hy1F
              · rw [World.cell?_setCell_far _ _ _ _ (by simp <;> omega)]; exact hy2F
            clear hK K
            try simp only [Act.put, List.getElem_toArray, List.getElem_cons_succ, List.getElem_cons_zero, List.setIfInBounds_toArray, List.set_cons_zero, List.set_cons_succ]
            refine wpAnyH_done (by kernel_rfl) ?_ _
            obtain ⟨M, HMM⟩ : ∃ z, Hid (IntKind.i64.wrap (IntKind.i64.wrap (y2 - y1) + x3) = z) := ⟨_, rfl⟩
            rw [HMM.out]
            have HB2 := Lib.hid (show Blk (wF.setCell ⟨q, 2, none⟩ (.int .i64 M)) q 61 #[.int .i64 i1, .int .i64 i2, .int .i64 M] from by simpa using HBF.out.set_ 2 (.int .i64 M))
            have HP2 := Lib.hid (HPF.out.setHi (q := q) hPq HNE.out 2 (.int .i64 M))
            have HT2 := Lib.hid (HTF.out.setHi (q := q) hBq 2 (.int .i64 M))
            have HM2 := Lib.hid (HMF.out.setNew (P := q) hwq hR 2 (.int .i64 M))
            obtain ⟨w2', HW2'⟩ : ∃ z, Hid (wF.setCell ⟨q, 2, none⟩ (.int .i64 M) = z) := ⟨_, rfl⟩
            rw [HW2'.out] at HB2 HP2 HT2 HM2 ⊢
            clear s0 s1 s2 t2 hy1F hy2F hqF HPF HTF HMF HBF
            by_cases htt : t = 0
            · have htt2 : (t == 0) = true := by simpa using htt
              have HTT := Lib.hid htt
              subst htt
              go_wp2_with (fail)
              refine kPick (pick_any R _ _ _ HP2.out.rd (by omega)) ?_
              intro xa w3 hq1 hq2 hmxa hsxa
              obtain ⟨xa0, xa1⟩ := hq1 (by omega)
              clear hq1 hq2 hsxa
              have HP3 := Lib.hid (HP2.out.mv hmxa)
              have HT3 := Lib.hid (HT2.out.mv hRP hmxa)
              have HM3 := Lib.hid (HM2.out.trans hmxa)
              have HB3 := Lib.hid (show Blk _ q 61 #[.int .i64 i1, .int .i64 i2, .int .i64 M] from (hmxa.1.block q HB2.out.lt (fun e => hqR (Option.some.inj e))).trans HB2.out)
              clear hmxa
              go_upto_if 72 with fail
              go_cut [] from 38 to 84 (fun wx => ∃ M' : Int, Blk wx q 61 #[.int .i64 i1, .int .i64 i2, .int .i64 M'] ∧ PnAt wx R w.heap.size P B0 (B + 20 + 5 * (j : Int) + 5) k A j c ∧ TmAt wx P B0 (some ⟨g, 0, none⟩) k ∧ Mv R (B + 20 + 5 * (j : Int) + 5) w wx)
              case first =>
                by_cases hxa : xa = 0
                · have hxz : (xa == 0) = true := by simpa using hxa
                  have HXA := Lib.hid hxa
                  subst hxa
                  go_wp2_with (fail)
                  have z2 := (HB3.out.cell 2).trans rfl
                  refine wp_region_held_drew (S := (fun _ => True)) (by kernel_rfl) ?_ (fun hHeld => ?_)
                  · trivial
                  refine wpAnyH_take (i := 0) (oi := _) (v := ?_) rfl (by kernel_rfl) (by kernel_rfl) (by kernel_rfl) (fun _ _ _ h => h) (Or.inl ⟨by kernel_rfl, ?_⟩) (by assumption) ?_
                  rotate_left
                  · (intro w hSw; (try dsimp only at hSw); go_simp; (try with_reducible rfl))
                  try simp only [Act.put, List.getElem_toArray, List.getElem_cons_succ, List.getElem_cons_zero, List.setIfInBounds_toArray, List.set_cons_zero, List.set_cons_succ]
                  refine wpAnyH_take (i := 2) (oi := _) (v := ?_) rfl (by kernel_rfl) (by kernel_rfl) (by kernel_rfl) (fun _ _ _ h => h) (Or.inl ⟨by kernel_rfl, ?_⟩) (by assumption) ?_
                  rotate_left
                  · (intro w hSw; (try dsimp only at hSw); go_simp; (try with_reducible rfl))
                  try simp only [Act.put, List.getElem_toArray, List.getElem_cons_succ, List.getElem_cons_zero, List.setIfInBounds_toArray, List.set_cons_zero, List.set_cons_succ]
                  refine wpAnyH_ready (rs := [1, 3]) (by kernel_rfl) (by simp) ?_
                  refine AllReadyH.cons (o := _) rfl (fun K hK => ?_) (AllReadyH.cons (o := _) rfl (fun K hK => ?_) (AllReadyH.nil))
                  · go_simp
                    refine hK.out _ _ ?_ (fun hHeld => ?_)
                    · trivial
                    clear hK K
                    try simp only [Act.put, List.getElem_toArray, List.getElem_cons_succ, List.getElem_cons_zero, List.setIfInBounds_toArray, List.set_cons_zero, List.set_cons_succ]
                    refine wpAnyH_ready (rs := [3]) (by kernel_rfl) (by simp) ?_
                    refine AllReadyH.cons (o := _) rfl (fun K hK => ?_) (AllReadyH.nil)
                    go_simp
                    go_at_call 32
                    refine kPick (pick_any R _ _ _ HP3.out.drew.rd (by omega)) ?_
                    intro xb w4 hq1 hq2 hmxb hsxb
                    clear hq1 hq2 hsxb
                    have HP4 := Lib.hid (HP3.out.drew.mv hmxb)
                    have HT4 := Lib.hid (HT3.out.drew.mv hRP hmxb)
                    have HM4 := Lib.hid ((HM3.out.drewN 1).trans hmxb)
                    have HB4 := Lib.hid (show Blk w4 q 61 #[.int .i64 i1, .int .i64 i2, .int .i64 M] from (hmxb.1.block q HB3.out.lt (fun e => hqR (Option.some.inj e))).trans HB3.out)
                    have r2 := (HB4.out.cell 2).trans rfl
                    have rf2 := HB4.out.frozen 2
                    go_wp2_with fail
                    refine hK.out _ _ ?_ (fun hHeld => ?_)
                    · trivial
                    clear hK K
                    try simp only [Act.put, List.getElem_toArray, List.getElem_cons_succ, List.getElem_cons_zero, List.setIfInBounds_toArray, List.set_cons_zero, List.set_cons_succ]
                    refine wpAnyH_take (i := 4) (oi := _) (v := ?_) rfl (by kernel_rfl) (by kernel_rfl) (by kernel_rfl) (fun _ _ _ h => h) (Or.inl ⟨by kernel_rfl, ?_⟩) (by assumption) ?_
                    rotate_left
                    · (intro w hSw; (try dsimp only at hSw); go_simp; (try with_reducible rfl))
                    try simp only [Act.put, List.getElem_toArray, List.getElem_cons_succ, List.getElem_cons_zero, List.setIfInBounds_toArray, List.set_cons_zero, List.set_cons_succ]
                    refine wpAnyH_take (i := 5) (oi := _) (v := ?_) rfl (by kernel_rfl) (by kernel_rfl) (by kernel_rfl) (fun _ _ _ h => h) (Or.inl ⟨by kernel_rfl, ?_⟩) (by assumption) ?_
                    rotate_left
                    · (intro w hSw; (try dsimp only at hSw); go_simp; (try with_reducible rfl))
                    try simp only [Act.put, List.getElem_toArray, List.getElem_cons_succ, List.getElem_cons_zero, List.setIfInBounds_toArray, List.set_cons_zero, List.set_cons_succ]
                    refine wpAnyH_ready (rs := [6]) (by kernel_rfl) (by simp) ?_
                    refine AllReadyH.cons (o := _) rfl (fun K hK => ?_) (AllReadyH.nil)
                    go_simp
                    refine hK.out _ _ ?_ (fun hHeld => ?_)
                    · trivial
                    clear hK K
                    try simp only [Act.put, List.getElem_toArray, List.getElem_cons_succ, List.getElem_cons_zero, List.setIfInBounds_toArray, List.set_cons_zero, List.set_cons_succ]
                    refine wpAnyH_done (by kernel_rfl) ?_ _
                    go_wp2_with fail
                    go_meet
                    exact ⟨_, by simpa using HB4.out.set_ 2 (.int .i64 _), (HP4.out.setHi (q := q) hPq HNE.out 2 _).mono (by omega), HT4.out.setHi (q := q) hBq 2 _, (HM4.out.setNew (P := q) hwq hR 2 _).mono (by omega)⟩
                  · go_simp
                    go_at_call 32
                    refine kPick (pick_any R _ _ _ HP3.out.drew.rd (by omega)) ?_
                    intro xb w4 hq1 hq2 hmxb hsxb
                    clear hq1 hq2 hsxb
                    have HP4 := Lib.hid (HP3.out.drew.mv hmxb)
                    have HT4 := Lib.hid (HT3.out.drew.mv hRP hmxb)
                    have HM4 := Lib.hid ((HM3.out.drewN 1).trans hmxb)
                    have HB4 := Lib.hid (show Blk w4 q 61 #[.int .i64 i1, .int .i64 i2, .int .i64 M] from (hmxb.1.block q HB3.out.lt (fun e => hqR (Option.some.inj e))).trans HB3.out)
                    have r2 := (HB4.out.cell 2).trans rfl
                    have rf2 := HB4.out.frozen 2
                    go_wp2_with fail
                    refine hK.out _ _ ?_ (fun hHeld => ?_)
                    · trivial
                    clear hK K
                    try simp only [Act.put, List.getElem_toArray, List.getElem_cons_succ, List.getElem_cons_zero, List.setIfInBounds_toArray, List.set_cons_zero, List.set_cons_succ]
                    refine wpAnyH_ready (rs := [1]) (by kernel_rfl) (by simp) ?_
                    refine AllReadyH.cons (o := _) rfl (fun K hK => ?_) (AllReadyH.nil)
                    go_simp
                    refine hK.out _ _ ?_ (fun hHeld => ?_)
                    · trivial
                    clear hK K
                    try simp only [Act.put, List.getElem_toArray, List.getElem_cons_succ, List.getElem_cons_zero, List.setIfInBounds_toArray, List.set_cons_zero, List.set_cons_succ]
                    refine wpAnyH_take (i := 4) (oi := _) (v := ?_) rfl (by kernel_rfl) (by kernel_rfl) (by kernel_rfl) (fun _ _ _ h => h) (Or.inl ⟨by kernel_rfl, ?_⟩) (by assumption) ?_
                    rotate_left
                    · (intro w hSw; (try dsimp only at hSw); go_simp; (try with_reducible rfl))
                    try simp only [Act.put, List.getElem_toArray, List.getElem_cons_succ, List.getElem_cons_zero, List.setIfInBounds_toArray, List.set_cons_zero, List.set_cons_succ]
                    refine wpAnyH_take (i := 5) (oi := _) (v := ?_) rfl (by kernel_rfl) (by kernel_rfl) (by kernel_rfl) (fun _ _ _ h => h) (Or.inl ⟨by kernel_rfl, ?_⟩) (by assumption) ?_
                    rotate_left
                    · (intro w hSw; (try dsimp only at hSw); go_simp; (try with_reducible rfl))
                    try simp only [Act.put, List.getElem_toArray, List.getElem_cons_succ, List.getElem_cons_zero, List.setIfInBounds_toArray, List.set_cons_zero, List.set_cons_succ]
                    refine wpAnyH_ready (rs := [6]) (by kernel_rfl) (by simp) ?_
                    refine AllReadyH.cons (o := _) rfl (fun K hK => ?_) (AllReadyH.nil)
                    go_simp
                    refine hK.out _ _ ?_ (fun hHeld => ?_)
                    · trivial
                    clear hK K
                    try simp only [Act.put, List.getElem_toArray, List.getElem_cons_succ, List.getElem_cons_zero, List.setIfInBounds_toArray, List.set_cons_zero, List.set_cons_succ]
                    refine wpAnyH_done (by kernel_rfl) ?_ _
                    go_wp2_with fail
                    go_meet
                    exact ⟨_, by simpa using HB4.out.set_ 2 (.int .i64 _), (HP4.out.setHi (q := q) hPq HNE.out 2 _).mono (by omega), HT4.out.setHi (q := q) hBq 2 _, (HM4.out.setNew (P := q) hwq hR 2 _).mono (by omega)⟩
                · have hxz : (xa == 0) = false := by simpa using hxa
                  go_wp2
                  go_meet
                  exact ⟨M, HB3.out, HP3.out.mono (by omega), HT3.out, HM3.out.mono (by omega)⟩
              case rest =>
                obtain ⟨M', hb, hp, ht, hm⟩ := hcut
                have HB5 := Lib.hid hb
                have HP5 := Lib.hid hp
                have HT5 := Lib.hid ht
                have HM5 := Lib.hid hm
                clear hb hp ht hm
                obtain ⟨d0, d1, _, _⟩ := HP5.out.cells
                have v0 := (HB5.out.cell 0).trans rfl
                have v1 := (HB5.out.cell 1).trans rfl
                have v2 := (HB5.out.cell 2).trans rfl
                obtain ⟨xs, hxs⟩ := HP5.out.row
                have HXS := Lib.hid hxs
                have hwB : B0 ≤ wc.heap.size := HP5.out.bw
                have hPW : P < wc.heap.size := HP5.out.blk.lt
                have hPB : P < B0 := HP5.out.pb
                clear hxs
                go_wp2_with (first
                  | (at_builtin; refine wpl_app rowB rfl _ _ (by rfl) B0 _ j (v3 xs) (by rfl) (HXS.out.alloc _) ⟨wc.heap.size, 0, none⟩ 1 1 (v3 [((i1 : Int), (i2 : Int), M')]) (by rfl) rfl (cell3B (by simp) _ _) (v3_one _) (by decide) (by omega) (by simp; omega) ?_
                     intro g' cap' wG hownG hgrowG hatG hltG
                     have hapG := PnAt.setRow (HP5.out.below ((Below.refl _ _).alloc (Nat.le_refl _) (.cells #[.int .i64 i1, .int .i64 i2, .int .i64 M'] 61))) hownG ⟨xs ++ [((i1 : Int), (i2 : Int), M')], by rw [v3_append]⟩ hgrowG
                     obtain ⟨⟨-, -, p1, p2⟩, hPG⟩ := hapG
                     have HPG := Lib.hid hPG
                     have HTG := Lib.hid (((HT5.out.below ((Below.refl _ _).alloc (Nat.le_refl _) (.cells #[.int .i64 i1, .int .i64 i2, .int .i64 M'] 61))).grown hgrowG (fun r hr => (HXS.out.lt r hr).1)).setLo 1 (.slice (some ⟨g', 0, none⟩) (j + 1) cap'))
                     have HMG := Lib.hid (((HM5.out.alloc (.cells #[.int .i64 i1, .int .i64 i2, .int .i64 M'] 61)).grown hgrowG (fun r hr => by have := (HXS.out.lt r hr).1; omega) hR).setNew (P := P) (by omega) hR 1 (.slice (some ⟨g', 0, none⟩) (j + 1) cap'))
                     clear hPG hownG hgrowG hatG))
                go_roundw
                case rel => exact ⟨K' - 1, j + 1, _, _, by go_num, by omega, by push_cast; omega, HPG.out.mono (by push_cast; omega), HTG.out, HMG.out.mono (by push_cast; omega)⟩
                case measure => simp [intOf]; omega
            · have htt2 : (t == 0) = false := by simpa using htt
              obtain ⟨d0, d1, _, _⟩ := HP2.out.cells
              have v0 := (HB2.out.cell 0).trans rfl
              have v1 := (HB2.out.cell 1).trans rfl
              have v2 := (HB2.out.cell 2).trans rfl
              obtain ⟨xs, hxs⟩ := HP2.out.row
              have HXS := Lib.hid hxs
              have hwB : B0 ≤ w2'.heap.size := HP2.out.bw
              have hPW : P < w2'.heap.size := HP2.out.blk.lt
              have hPB : P < B0 := HP2.out.pb
              clear hxs
              go_wp2_with (first
                | (at_builtin; refine wpl_app rowB rfl _ _ (by rfl) B0 _ j (v3 xs) (by rfl) (HXS.out.alloc _) ⟨w2'.heap.size, 0, none⟩ 1 1 (v3 [((i1 : Int), (i2 : Int), M)]) (by rfl) rfl (cell3B (by simp) _ _) (v3_one _) (by decide) (by omega) (by simp; omega) ?_
                   intro g' cap' wG hownG hgrowG hatG hltG
                   have hapG := PnAt.setRow (HP2.out.below ((Below.refl _ _).alloc (Nat.le_refl _) (.cells #[.int .i64 i1, .int .i64 i2, .int .i64 M] 61))) hownG ⟨xs ++ [((i1 : Int), (i2 : Int), M)], by rw [v3_append]⟩ hgrowG
                   obtain ⟨⟨-, -, p1, p2⟩, hPG⟩ := hapG
                   have HPG := Lib.hid hPG
                   have HTG := Lib.hid (((HT2.out.below ((Below.refl _ _).alloc (Nat.le_refl _) (.cells #[.int .i64 i1, .int .i64 i2, .int .i64 M] 61))).grown hgrowG (fun r hr => (HXS.out.lt r hr).1)).setLo 1 (.slice (some ⟨g', 0, none⟩) (j + 1) cap'))
                   have HMG := Lib.hid (((HM2.out.alloc (.cells #[.int .i64 i1, .int .i64 i2, .int .i64 M] 61)).grown hgrowG (fun r hr => by have := (HXS.out.lt r hr).1; omega) hR).setNew (P := P) (by omega) hR 1 (.slice (some ⟨g', 0, none⟩) (j + 1) cap'))
                   clear hPG hownG hgrowG hatG))
              go_roundw
              case rel => exact ⟨K' - 1, j + 1, _, _, by go_num, by omega, by push_cast; omega, HPG.out.mono (by push_cast; omega), HTG.out, HMG.out.mono (by push_cast; omega)⟩
              case measure => simp [intOf]; omega
        · obtain rfl : K' = 0 := by omega
          have HPN := HP
          go_wp2_with (fail)
          refine (odd_any R _ n _ HP.out.rd (by omega) hn).mono ?_
          rintro e wH ⟨bo, rfl, hmH, hsH⟩
          have HPH := Lib.hid (HP.out.mv hmH)
          have HMH := Lib.hid (HM.out.trans hmH)
          clear hmH hsH HPN HT e0 e1 f0 f1 hk' hk0'
          have hPw : w.heap.size < P := by have := HPH.out.qp; omega
          cases bo with
          | false =>
            obtain ⟨z0, z1, _, _⟩ := HPH.out.cells
            have y0 := (HPH.out.res.cell 0).trans rfl
            have y1 := (HPH.out.res.cell 1).trans rfl
            have yf0 := HPH.out.res.frozen 0
            have yf1 := HPH.out.res.frozen 1
            have hqp' := HPH.out.qp
            obtain ⟨zs, hzs⟩ := HPH.out.row
            have hpB := HPH.out.pb
            go_wp2_with (fail)
            refine bodyPost_ret (v := .agg #[.int .i64 k, .slice A j c]) (by simp [results, Try.results54, go_sem, y0, y1]) rfl ⟨_, _, _, _, zs, rfl, by omega, by omega, by omega, own_base (own_setOld (own_setOld hzs (by omega) 0 _) (by omega) 1 _) (by omega), ((HMH.out.setNew (P := w.heap.size) (Nat.le_refl _) hR 0 _).setNew (P := w.heap.size) (Nat.le_refl _) hR 1 _).mono (by omega)⟩
          | true =>
            go_wp2_with (fail)
            refine kPick (pick_any R _ _ _ HPH.out.rd (by omega)) ?_
            intro xs3 wI hq1 hq2 hmI hsI
            obtain ⟨hx30, hx31⟩ := hq1 (by omega)
            clear hq1 hq2 hsI
            have HPI := Lib.hid (HPH.out.mv hmI)
            have HMI := Lib.hid (HMH.out.trans hmI)
            clear hmI
            have h3 : xs3 = 0 ∨ xs3 = 1 ∨ xs3 = 2 := by omega
            rcases h3 with rfl | rfl | rfl
            · obtain ⟨d0, d1, df0, df1⟩ := HPI.out.cells
              go_wp2_with (fail)
              refine kPick (pick_any R _ _ _ (HPI.out.rd.alloc _) (by omega)) ?_
              intro x4 wJ hq1 hq2 hmJ hsJ
              obtain ⟨hx40, hx41⟩ := hq1 (by omega)
              clear hq1 hq2 hsJ
              have HPJ := Lib.hid ((HPI.out.below ((Below.refl _ _).alloc (Nat.le_refl _) _)).mv hmJ)
              have HMJ := Lib.hid ((HMI.out.alloc _).trans hmJ)
              have hIR : wI.heap.size ≠ R := by have := HPI.out.rd.lt; omega
              have l0 := hmJ.keepA hIR (show (wI.alloc (.cells #[.int .i64 0, .int .i64 7] 3)).cell? ⟨wI.heap.size, 0, none⟩ = some (.int .i64 0) by simp [go_sem])
              have l1 := hmJ.keepA hIR (show (wI.alloc (.cells #[.int .i64 0, .int .i64 7] 3)).cell? ⟨wI.heap.size, 1, none⟩ = some (.int .i64 7) by simp [go_sem])
              clear hmJ d0 d1 df0 df1
              obtain ⟨d0, d1, df0, df1⟩ := HPJ.out.cells
              have h4 : x4 = 0 ∨ x4 = 1 := by omega
              rcases h4 with rfl | rfl
              · have HPK := Lib.hid (HPJ.out.setPts 0)
                have HMK := Lib.hid (HMJ.out.setNew (P := P) (by omega) hR 0 (.int .i64 0))
                obtain ⟨z0, z1, _, _⟩ := HPK.out.cells
                have y0 := (HPK.out.res.cell 0).trans rfl
                have y1 := (HPK.out.res.cell 1).trans rfl
                have yf0 := HPK.out.res.frozen 0
                have yf1 := HPK.out.res.frozen 1
                have hqp' := HPK.out.qp
                obtain ⟨zs, hzs⟩ := HPK.out.row
                have hpB := HPK.out.pb
                go_wp2_with (fail)
                refine bodyPost_ret (v := .agg #[.int .i64 0, .slice A j c]) (by simp [results, Try.results54, go_sem, y0, y1]) rfl ⟨_, _, _, _, zs, rfl, by omega, by omega, by omega, own_base (own_setOld (own_setOld hzs (by omega) 0 _) (by omega) 1 _) (by omega), ((HMK.out.setNew (P := w.heap.size) (Nat.le_refl _) hR 0 _).setNew (P := w.heap.size) (Nat.le_refl _) hR 1 _).mono (by omega)⟩
              · have HPK := Lib.hid (HPJ.out.setPts 7)
                have HMK := Lib.hid (HMJ.out.setNew (P := P) (by omega) hR 0 (.int .i64 7))
                obtain ⟨z0, z1, _, _⟩ := HPK.out.cells
                have y0 := (HPK.out.res.cell 0).trans rfl
                have y1 := (HPK.out.res.cell 1).trans rfl
                have yf0 := HPK.out.res.frozen 0
                have yf1 := HPK.out.res.frozen 1
                have hqp' := HPK.out.qp
                obtain ⟨zs, hzs⟩ := HPK.out.row
                have hpB := HPK.out.pb
                go_wp2_with (fail)
                refine bodyPost_ret (v := .agg #[.int .i64 7, .slice A j c]) (by simp [results, Try.results54, go_sem, y0, y1]) rfl ⟨_, _, _, _, zs, rfl, by omega, by omega, by omega, own_base (own_setOld (own_setOld hzs (by omega) 0 _) (by omega) 1 _) (by omega), ((HMK.out.setNew (P := w.heap.size) (Nat.le_refl _) hR 0 _).setNew (P := w.heap.size) (Nat.le_refl _) hR 1 _).mono (by omega)⟩
            · obtain ⟨d0, d1, df0, df1⟩ := HPI.out.cells
              obtain ⟨xs, hxs⟩ := HPI.out.row
              have HXS := Lib.hid hxs
              have hwB : B0 ≤ wI.heap.size := HPI.out.bw
              have hPW : P < wI.heap.size := HPI.out.blk.lt
              have hPB : P < B0 := HPI.out.pb
              clear hxs
              go_wp2_with (first
                | (at_builtin; refine wpl_app rowB rfl _ _ (by rfl) B0 _ j (v3 xs) (by rfl) (HXS.out.alloc _) ⟨wI.heap.size, 0, none⟩ 1 1 (v3 [((0 : Int), (k : Int), (0 : Int))]) (by rfl) rfl (cell3B (by simp) _ _) (v3_one _) (by decide) (by omega) (by simp; omega) ?_
                   intro g' cap' wG hownG hgrowG hatG hltG
                   have hapG := PnAt.setRow (HPI.out.below ((Below.refl _ _).alloc (Nat.le_refl _) (.cells #[.int .i64 0, .int .i64 k, .int .i64 0] 61))) hownG ⟨xs ++ [((0 : Int), (k : Int), (0 : Int))], by rw [v3_append]⟩ hgrowG
                   obtain ⟨⟨-, -, p1, p2⟩, hPG⟩ := hapG
                   have HPG := Lib.hid hPG
                   have HMG := Lib.hid (((HMI.out.alloc (.cells #[.int .i64 0, .int .i64 k, .int .i64 0] 61)).grown hgrowG (fun r hr => by have := (HXS.out.lt r hr).1; omega) hR).setNew (P := P) (by omega) hR 1 (.slice (some ⟨g', 0, none⟩) (j + 1) cap'))
                   obtain ⟨z0, z1, _, _⟩ := HPG.out.cells
                   have y0 := (HPG.out.res.cell 0).trans rfl
                   have y1 := (HPG.out.res.cell 1).trans rfl
                   have yf0 := HPG.out.res.frozen 0
                   have yf1 := HPG.out.res.frozen 1
                   have hqp' := HPG.out.qp
                   obtain ⟨zs, hzs⟩ := HPG.out.row
                   have hpB := HPG.out.pb
                   clear hPG hownG hgrowG hatG))
              refine bodyPost_ret (v := .agg #[.int .i64 k, .slice (some ⟨g', 0, none⟩) (j + 1) cap']) (by simp [results, Try.results54, go_sem, y0, y1]) rfl ⟨_, _, _, _, zs, rfl, by omega, by omega, by omega, own_base (own_setOld (own_setOld hzs (by omega) 0 _) (by omega) 1 _) (by omega), ((HMG.out.setNew (P := w.heap.size) (Nat.le_refl _) hR 0 _).setNew (P := w.heap.size) (Nat.le_refl _) hR 1 _).mono (by omega)⟩
            · obtain ⟨d0, d1, df0, df1⟩ := HPI.out.cells
              obtain ⟨xs, hxs⟩ := HPI.out.row
              have HXS := Lib.hid hxs
              have hwB : B0 ≤ wI.heap.size := HPI.out.bw
              have hPW : P < wI.heap.size := HPI.out.blk.lt
              have hPB : P < B0 := HPI.out.pb
              clear hxs
              go_wp2_with (first
                | (at_builtin; refine wpl_app rowB rfl _ _ (by rfl) B0 _ j (v3 xs) (by rfl) (HXS.out.alloc _) ⟨wI.heap.size, 0, none⟩ 1 1 (v3 [((0 : Int), (0 : Int), (100 : Int))]) (by rfl) rfl (cell3B (by simp) _ _) (v3_one _) (by decide) (by omega) (by simp; omega) ?_
                   intro g' cap' wG hownG hgrowG hatG hltG
                   have hapG := PnAt.setRow (HPI.out.below ((Below.refl _ _).alloc (Nat.le_refl _) (.cells #[.int .i64 0, .int .i64 0, .int .i64 100] 61))) hownG ⟨xs ++ [((0 : Int), (0 : Int), (100 : Int))], by rw [v3_append]⟩ hgrowG
                   obtain ⟨⟨-, -, p1, p2⟩, hPG⟩ := hapG
                   have HPG := Lib.hid hPG
                   have HMG := Lib.hid (((HMI.out.alloc (.cells #[.int .i64 0, .int .i64 0, .int .i64 100] 61)).grown hgrowG (fun r hr => by have := (HXS.out.lt r hr).1; omega) hR).setNew (P := P) (by omega) hR 1 (.slice (some ⟨g', 0, none⟩) (j + 1) cap'))
                   obtain ⟨z0, z1, _, _⟩ := HPG.out.cells
                   have y0 := (HPG.out.res.cell 0).trans rfl
                   have y1 := (HPG.out.res.cell 1).trans rfl
                   have yf0 := HPG.out.res.frozen 0
                   have yf1 := HPG.out.res.frozen 1
                   have hqp' := HPG.out.qp
                   obtain ⟨zs, hzs⟩ := HPG.out.row
                   have hpB := HPG.out.pb
                   clear hPG hownG hgrowG hatG))
              refine bodyPost_ret (v := .agg #[.int .i64 k, .slice (some ⟨g', 0, none⟩) (j + 1) cap']) (by simp [results, Try.results54, go_sem, y0, y1]) rfl ⟨_, _, _, _, zs, rfl, by omega, by omega, by omega, own_base (own_setOld (own_setOld hzs (by omega) 0 _) (by omega) 1 _) (by omega), ((HMG.out.setNew (P := w.heap.size) (Nat.le_refl _) hR 0 _).setNew (P := w.heap.size) (Nat.le_refl _) hR 1 _).mono (by omega)⟩

end Go.Proofs.Ytpefimeogbpagaa

