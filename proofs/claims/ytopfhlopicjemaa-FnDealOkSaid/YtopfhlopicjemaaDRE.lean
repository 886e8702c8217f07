/- Draws of deals: l20Deal. Printed by gen_drdeal2.py (region 14: gen_drdeal.py). -/
import Derived.Test.YtopfhlopicjemaaDRD
import Derived.Deep.RegionLaw
import Derived.Deep.CutRange
import Derived.Deep.DrawnRows
namespace Go.Proofs.Ytopfhlopicjemaa
open Go.RowKit
attribute [local go_sem ↓] Go.wp_at_zero Go.wp_at_succ

theorem kPlanDrawnD {Pr : Program} {f : FuncId} {args : Array Value} {w : World} {K : Ending → World → Prop} {R : Nat} {B : Int} (h : Calls Pr f args w (PlanDrawn R B w))
    (h1 : ∀ pts A n c xs w', 0 ≤ pts → pts ≤ 7 → n ≤ 9 → OwnB w' w.heap.size A n c xs → Mv R (B + 80) w w' → K (.returned (.agg #[.int .i64 pts, .slice A n c])) w') : Calls Pr f args w K :=
  h.mono fun e w' ⟨pts, A, n, c, xs, he, h0, h7, h9, ho, hm⟩ => by subst he; exact h1 pts A n c xs w' h0 h7 h9 ho hm
set_option maxRecDepth 100000 in
set_option maxHeartbeats 40000000 in
theorem l20Deal_any (R : Nat) (B N0 : Int) (w : World) (h : Rd w R B) (hB : B ≤ 900000000) (hN0 : 0 ≤ N0 ∧ N0 ≤ 1000) :
    Calls Try.prog 73 #[.pointer (some ⟨R, 0, none⟩), .int .i64 N0] w (DealDrawn R B w) := by
  have hR := h.lt
  have HQ0 := Lib.hid (Blk.new w 66 #[.int .i64 0, .slice none 0 0, .slice none 0 0])
  have HM0 := Lib.hid (show Mv R B w (w.alloc (.cells #[.int .i64 0, .slice none 0 0, .slice none 0 0] 66)) from ⟨grown_of_below ((Below.refl _ _).alloc (Nat.le_refl _) _) _, h.alloc _⟩)
  clear h
  go_enter Try.func73, Try.ntmps73
  go_wp2_with (fail)
  refine kPlanDrawnD (l20Plan_any R B 0 _ HM0.out.2 hB (by omega)) ?_
  intro pts A n c xs0 w1 hp0 hp7 hn9 hown hm1
  have HM1 := Lib.hid (HM0.out.trans hm1)
  have HQ1 := Lib.hid (show Blk w1 w.heap.size 66 #[.int .i64 0, .slice none 0 0, .slice none 0 0] from (hm1.1.block _ HQ0.out.lt (fun e => by cases e; omega)).trans HQ0.out)
  have hqw := HQ1.out.lt
  have hnc : n ≤ c := OwnB.cap hown
  have HOX := Lib.hid (show OwnB w1 (w.heap.size + 1) A n c xs0 from own_base hown (by simp))
  clear hown hm1
  by_cases h6 : 6 < n
  · have h6i : (6 : Int) < (n : Int) := by omega
    have h6d : decide ((6 : Int) < (n : Int)) = true := decide_eq_true h6i
    have HP1 := Lib.hid (show PbAt (w1.alloc (.cells #[.int .i64 pts, .slice A 6 c] 48)) R w.heap.size w1.heap.size pts A n c 6 from
      ⟨hR, hqw, by omega, HQ1.out.below ((Below.refl _ _).alloc (Nat.le_refl _) _) hqw, Blk.new _ _ _, ⟨xs0, own_below HOX.out ((Below.refl _ _).alloc (Nat.le_refl _) _)⟩, fun a ha => by
        have hob : (Value.slice A n c).ownBlock = some a.block := by subst ha; rfl
        exact (HOX.out.lt _ hob).2⟩)
    obtain ⟨w2, HW2⟩ : ∃ q, Hid (w1.alloc (.cells #[.int .i64 pts, .slice A 6 c] 48) = q) := ⟨_, rfl⟩
    have HP2 := Lib.hid (HW2.out ▸ HP1.out)
    have HMX := Lib.hid (show Mv R (B + 80) w w2 from HW2.out ▸ HM1.out.alloc _)
    clear HP1
    go_wp2_with (fail)
    rw [HW2.out]
    obtain ⟨P, HPP⟩ : ∃ q, Hid (w1.heap.size = q) := ⟨_, rfl⟩
    rw [HPP.out] at hqw
    have HPX := Lib.hid (HPP.out ▸ HP2.out)
    clear HP2
    rw [HPP.out]
    go_loopw [6] (fun i wr => ∃ k : Nat, k ≤ 6 ∧ i = .int .i64 k ∧ PbAt wr R w.heap.size P pts A n c 6 ∧ Mv R (B + 80 + 2 * (k : Int)) w wr) (fun i _ => 6 - (intOf i).toNat)
    case atStart => exact ⟨0, Nat.zero_le _, rfl, HPX.out, HMX.out.mono (by omega)⟩
    case round =>
      obtain ⟨wo, rfl⟩ : ∃ wo : World, wo = wr := ⟨_, rfl⟩
      obtain ⟨k, hk, rfl, hp, hm⟩ := hrel
      have HP := Lib.hid hp
      have HM := Lib.hid hm
      obtain ⟨e0, e1⟩ := hp.cells
      clear hp hm HPX HMX
      by_cases hlt : k < 6
      · go_wp2_with (fail)
        refine kPick (pick_any R _ 2 _ HM.out.2 (by omega)) ?_
        intro x wA hq1 hq2 hmA hsA
        obtain ⟨hx0, hx1⟩ := hq1 (by omega)
        have HPA := Lib.hid (HP.out.mv hmA)
        have HMA := Lib.hid (HM.out.trans hmA)
        clear hq1 hq2 hmA hsA e0 e1
        by_cases hx : x = 0
        · subst hx
          obtain ⟨g, z, rfl, hgP, hQg, ee, ff, hset⟩ := HPA.out.elem (j := k) hlt
          obtain ⟨e0, e1⟩ := HPA.out.cells
          have HSET := Lib.hid hset
          clear hset
          go_wp2_with (fail)
          refine wp_region_held_drew (S := (fun w' => w'.cell? ⟨P, 1, none⟩ = some (.slice (some ⟨g, 0, none⟩) 6 c))) (by kernel_rfl) ?_ (fun hHeld => ?_)
          · exact e1
          refine wpAnyH_take (i := 0) (oi := _) (v := ?_) rfl (by kernel_rfl) (by kernel_rfl) (by kernel_rfl) (fun _ _ _ h => h) (Or.inl ⟨by kernel_rfl, ?_⟩) (by assumption) ?_
          rotate_left
          · (intro w hSw; (try dsimp only at hSw); go_simp; (try with_reducible rfl))
          try simp only [Act.put, List.getElem_toArray, List.getElem_cons_succ, List.getElem_cons_zero, List.setIfInBounds_toArray, List.set_cons_zero, List.set_cons_succ]
          refine wpAnyH_take (i := 1) (oi := _) (v := ?_) rfl (by kernel_rfl) (by kernel_rfl) (by kernel_rfl) (fun _ _ _ h => h) (Or.inl ⟨by kernel_rfl, ?_⟩) (by assumption) ?_
          rotate_left
          · (intro w hSw; (try dsimp only at hSw); go_simp; (try with_reducible rfl))
          try simp only [Act.put, List.getElem_toArray, List.getElem_cons_succ, List.getElem_cons_zero, List.setIfInBounds_toArray, List.set_cons_zero, List.set_cons_succ]
          refine wpAnyH_take (i := 2) (oi := _) (v := ?_) rfl (by kernel_rfl) (by kernel_rfl) (by kernel_rfl) (fun _ _ _ h => h) (Or.inl ⟨by kernel_rfl, ?_⟩) (by assumption) ?_
          rotate_left
          · (intro w hSw; (try dsimp only at hSw); go_simp; (try with_reducible rfl))
          try simp only [Act.put, List.getElem_toArray, List.getElem_cons_succ, List.getElem_cons_zero, List.setIfInBounds_toArray, List.set_cons_zero, List.set_cons_succ]
          refine wpAnyH_take (i := 3) (oi := _) (v := ?_) rfl (by kernel_rfl) (by kernel_rfl) (by kernel_rfl) (fun _ _ _ h => h) (Or.inl ⟨by kernel_rfl, ?_⟩) (by assumption) ?_
          rotate_left
          · (intro w hSw; (try dsimp only at hSw); go_simp; (try with_reducible rfl))
          try simp only [Act.put, List.getElem_toArray, List.getElem_cons_succ, List.getElem_cons_zero, List.setIfInBounds_toArray, List.set_cons_zero, List.set_cons_succ]
          refine wpAnyH_take (i := 4) (oi := _) (v := ?_) rfl (by kernel_rfl) (by kernel_rfl) (by kernel_rfl) (fun _ _ _ h => h) (Or.inl ⟨by kernel_rfl, ?_⟩) (by assumption) ?_
          rotate_left
          · (intro w hSw; (try dsimp only at hSw); go_simp; (try with_reducible rfl))
          try simp only [Act.put, List.getElem_toArray, List.getElem_cons_succ, List.getElem_cons_zero, List.setIfInBounds_toArray, List.set_cons_zero, List.set_cons_succ]
          refine wpAnyH_take (i := 5) (oi := _) (v := ?_) rfl (by kernel_rfl) (by kernel_rfl) (by kernel_rfl) (fun _ _ _ h => h) (Or.inl ⟨by kernel_rfl, ?_⟩) (by assumption) ?_
          rotate_left
          · (intro w hSw; (try dsimp only at hSw); go_simp; (try with_reducible rfl))
          try simp only [Act.put, List.getElem_toArray, List.getElem_cons_succ, List.getElem_cons_zero, List.setIfInBounds_toArray, List.set_cons_zero, List.set_cons_succ]
          refine wpAnyH_take (i := 6) (oi := _) (v := ?_) rfl (by kernel_rfl) (by kernel_rfl) (by kernel_rfl) (fun _ _ _ h => h) (Or.inl ⟨by kernel_rfl, ?_⟩) (by assumption) ?_
          rotate_left
          · (intro w hSw; (try dsimp only at hSw); go_simp; (try with_reducible rfl))
          try simp only [Act.put, List.getElem_toArray, List.getElem_cons_succ, List.getElem_cons_zero, List.setIfInBounds_toArray, List.set_cons_zero, List.set_cons_succ]
          refine wpAnyH_take (i := 7) (oi := _) (v := ?_) rfl (by kernel_rfl) (by kernel_rfl) (by kernel_rfl) (fun _ _ _ h => h) (Or.inl ⟨by kernel_rfl, ?_⟩) (by assumption) ?_
          rotate_left
          · (intro w hSw; (try dsimp only at hSw); go_simp; (try with_reducible rfl))
          try simp only [Act.put, List.getElem_toArray, List.getElem_cons_succ, List.getElem_cons_zero, List.setIfInBounds_toArray, List.set_cons_zero, List.set_cons_succ]
          refine wpAnyH_take (i := 9) (oi := _) (v := ?_) rfl (by kernel_rfl) (by kernel_rfl) (by kernel_rfl) (fun _ _ _ h => h) (Or.inl ⟨by kernel_rfl, ?_⟩) (by assumption) ?_
          rotate_left
          · (intro w hSw; (try dsimp only at hSw); go_simp; (try with_reducible rfl))
          try simp only [Act.put, List.getElem_toArray, List.getElem_cons_succ, List.getElem_cons_zero, List.setIfInBounds_toArray, List.set_cons_zero, List.set_cons_succ]
          refine wpAnyH_ready (rs := [8, 10]) (by kernel_rfl) (by simp) ?_
          refine AllReadyH.cons (o := _) rfl (fun K hK => ?_) (AllReadyH.cons (o := _) rfl (fun K hK => ?_) (AllReadyH.nil))
          · go_simp
            refine hK.out _ _ ?_ (fun hHeld => ?_)
            · exact e1
            clear hK K
            try simp only [Act.put, List.getElem_toArray, List.getElem_cons_succ, List.getElem_cons_zero, List.setIfInBounds_toArray, List.set_cons_zero, List.set_cons_succ]
            refine wpAnyH_ready (rs := [10]) (by kernel_rfl) (by simp) ?_
            refine AllReadyH.cons (o := _) rfl (fun K hK => ?_) (AllReadyH.nil)
            go_simp
            go_at_call 51; with_reducible refine kPick (pick_any R _ 12 _ (Mv.rdD (Mv.drewD HMA.out)) (by omega)) ?_
            intro y wB hq1 hq2 hmB hsB
            have HPB := Lib.hid (PbAt.mv (PbAt.drewD HPA.out) hmB)
            have HMB := Lib.hid (Mv.trans (Mv.drewD HMA.out) hmB)
            have eB := hmB.keepA (show g ≠ R by omega) (show wA.drew.cell? _ = _ from ee)
            obtain ⟨e0B, e1B⟩ := HPB.out.cells
            clear hq1 hq2 hmB hsB
            go_wp2_with fail
            refine hK.out _ _ ?_ (fun hHeld => ?_)
            · exact e1B
            clear hK K
            try simp only [Act.put, List.getElem_toArray, List.getElem_cons_succ, List.getElem_cons_zero, List.setIfInBounds_toArray, List.set_cons_zero, List.set_cons_succ]
            obtain ⟨g2, z2, hgg, -, -, eB2, fB, hsetB⟩ := HPB.out.elem (j := k) hlt
            cases hgg
            refine wpAnyH_take (i := 11) (oi := _) (v := ?_) rfl (by kernel_rfl) (by kernel_rfl) (by kernel_rfl) (fun _ _ _ h => h) (Or.inl ⟨by kernel_rfl, ?_⟩) (by assumption) ?_
            rotate_left
            · (intro w hSw; (try dsimp only at hSw); go_simp; (try with_reducible rfl))
            try simp only [Act.put, List.getElem_toArray, List.getElem_cons_succ, List.getElem_cons_zero, List.setIfInBounds_toArray, List.set_cons_zero, List.set_cons_succ]
            refine wpAnyH_ready (rs := [12]) (by kernel_rfl) (by simp) ?_
            refine AllReadyH.cons (o := _) rfl (fun K hK => ?_) (AllReadyH.nil)
            go_simp
            refine hK.out _ _ ?_ (fun hHeld => ?_)
            · exact e1B
            clear hK K
            try simp only [Act.put, List.getElem_toArray, List.getElem_cons_succ, List.getElem_cons_zero, List.setIfInBounds_toArray, List.set_cons_zero, List.set_cons_succ]
            generalize (if 99 < IntKind.i64.wrap (z + y) then (99 : Int) else IntKind.i64.wrap (z + y)) = V
            refine wpAnyH_take (i := 13) (oi := _) (v := ?_) rfl (by kernel_rfl) (by kernel_rfl) (by kernel_rfl) (fun _ _ _ h => h) (Or.inl ⟨by kernel_rfl, ?_⟩) (by assumption) ?_
            rotate_left
            · (intro w hSw; (try dsimp only at hSw); go_simp; (try with_reducible rfl))
            try simp only [Act.put, List.getElem_toArray, List.getElem_cons_succ, List.getElem_cons_zero, List.setIfInBounds_toArray, List.set_cons_zero, List.set_cons_succ]
            refine wpAnyH_take (i := 14) (oi := _) (v := ?_) rfl (by kernel_rfl) (by kernel_rfl) (by kernel_rfl) (fun _ _ _ h => h) (Or.inl ⟨by kernel_rfl, ?_⟩) (by assumption) ?_
            rotate_left
            · (intro w hSw; (try dsimp only at hSw); go_simp; (try with_reducible rfl))
            try simp only [Act.put, List.getElem_toArray, List.getElem_cons_succ, List.getElem_cons_zero, List.setIfInBounds_toArray, List.set_cons_zero, List.set_cons_succ]
            refine wpAnyH_ready (rs := [15]) (by kernel_rfl) (by simp) ?_
            refine AllReadyH.cons (o := _) rfl (fun K hK => ?_) (AllReadyH.nil)
            go_simp
            refine hK.out _ _ ?_ (fun hHeld => ?_)
            · exact (hsetB _).cells.2
            clear hK K
            try simp only [Act.put, List.getElem_toArray, List.getElem_cons_succ, List.getElem_cons_zero, List.setIfInBounds_toArray, List.set_cons_zero, List.set_cons_succ]
            refine wpAnyH_done (by kernel_rfl) ?_ _
            go_wp2
            go_roundw
            case rel => exact ⟨k + 1, by omega, by go_num, hsetB _, (HMB.out.setNew (P := g) (by omega) hR _ _).mono (by omega)⟩
            case measure => simp [intOf]; omega
          · go_simp
            go_at_call 51; with_reducible refine kPick (pick_any R _ 12 _ (Mv.rdD (Mv.drewD HMA.out)) (by omega)) ?_
            intro y wB hq1 hq2 hmB hsB
            have HPB := Lib.hid (PbAt.mv (PbAt.drewD HPA.out) hmB)
            have HMB := Lib.hid (Mv.trans (Mv.drewD HMA.out) hmB)
            have eB := hmB.keepA (show g ≠ R by omega) (show wA.drew.cell? _ = _ from ee)
            obtain ⟨e0B, e1B⟩ := HPB.out.cells
            clear hq1 hq2 hmB hsB
            go_wp2_with fail
            refine hK.out _ _ ?_ (fun hHeld => ?_)
            · exact e1B
            clear hK K
            try simp only [Act.put, List.getElem_toArray, List.getElem_cons_succ, List.getElem_cons_zero, List.setIfInBounds_toArray, List.set_cons_zero, List.set_cons_succ]
            refine wpAnyH_ready (rs := [8]) (by kernel_rfl) (by simp) ?_
            refine AllReadyH.cons (o := _) rfl (fun K hK => ?_) (AllReadyH.nil)
            go_simp
            refine hK.out _ _ ?_ (fun hHeld => ?_)
            · exact e1B
            clear hK K
            try simp only [Act.put, List.getElem_toArray, List.getElem_cons_succ, List.getElem_cons_zero, List.setIfInBounds_toArray, List.set_cons_zero, List.set_cons_succ]
            obtain ⟨g2, z2, hgg, -, -, eB2, fB, hsetB⟩ := HPB.out.elem (j := k) hlt
            cases hgg
            refine wpAnyH_take (i := 11) (oi := _) (v := ?_) rfl (by kernel_rfl) (by kernel_rfl) (by kernel_rfl) (fun _ _ _ h => h) (Or.inl ⟨by kernel_rfl, ?_⟩) (by assumption) ?_
            rotate_left
            · (intro w hSw; (try dsimp only at hSw); go_simp; (try with_reducible rfl))
            try simp only [Act.put, List.getElem_toArray, List.getElem_cons_succ, List.getElem_cons_zero, List.setIfInBounds_toArray, List.set_cons_zero, List.set_cons_succ]
            refine wpAnyH_ready (rs := [12]) (by kernel_rfl) (by simp) ?_
            refine AllReadyH.cons (o := _) rfl (fun K hK => ?_) (AllReadyH.nil)
            go_simp
            refine hK.out _ _ ?_ (fun hHeld => ?_)
            · exact e1B
            clear hK K
            try simp only [Act.put, List.getElem_toArray, List.getElem_cons_succ, List.getElem_cons_zero, List.setIfInBounds_toArray, List.set_cons_zero, List.set_cons_succ]
            generalize (if 99 < IntKind.i64.wrap (z + y) then (99 : Int) else IntKind.i64.wrap (z + y)) = V
            refine wpAnyH_take (i := 13) (oi := _) (v := ?_) rfl (by kernel_rfl) (by kernel_rfl) (by kernel_rfl) (fun _ _ _ h => h) (Or.inl ⟨by kernel_rfl, ?_⟩) (by assumption) ?_
            rotate_left
            · (intro w hSw; (try dsimp only at hSw); go_simp; (try with_reducible rfl))
            try simp only [Act.put, List.getElem_toArray, List.getElem_cons_succ, List.getElem_cons_zero, List.setIfInBounds_toArray, List.set_cons_zero, List.set_cons_succ]
            refine wpAnyH_take (i := 14) (oi := _) (v := ?_) rfl (by kernel_rfl) (by kernel_rfl) (by kernel_rfl) (fun _ _ _ h => h) (Or.inl ⟨by kernel_rfl, ?_⟩) (by assumption) ?_
            rotate_left
            · (intro w hSw; (try dsimp only at hSw); go_simp; (try with_reducible rfl))
            try simp only [Act.put, List.getElem_toArray, List.getElem_cons_succ, List.getElem_cons_zero, List.setIfInBounds_toArray, List.set_cons_zero, List.set_cons_succ]
            refine wpAnyH_ready (rs := [15]) (by kernel_rfl) (by simp) ?_
            refine AllReadyH.cons (o := _) rfl (fun K hK => ?_) (AllReadyH.nil)
            go_simp
            refine hK.out _ _ ?_ (fun hHeld => ?_)
            · exact (hsetB _).cells.2
            clear hK K
            try simp only [Act.put, List.getElem_toArray, List.getElem_cons_succ, List.getElem_cons_zero, List.setIfInBounds_toArray, List.set_cons_zero, List.set_cons_succ]
            refine wpAnyH_done (by kernel_rfl) ?_ _
            go_wp2
            go_roundw
            case rel => exact ⟨k + 1, by omega, by go_num, hsetB _, (HMB.out.setNew (P := g) (by omega) hR _ _).mono (by omega)⟩
            case measure => simp [intOf]; omega
        · go_wp2
          go_roundw
          case rel => exact ⟨k + 1, by omega, by go_num, HPA.out, HMA.out.mono (by omega)⟩
          case measure => simp [intOf]; omega
      · obtain rfl : k = 6 := by omega
        have HD0 := Lib.hid (show DlAt (wo.alloc (.cells #[.int .i64 pts, .slice A 6 c, .slice none 0 0] 66)) R w.heap.size P wo.heap.size pts A 6 c none 0 0 from HP.out.deal)
        have hPo := HP.out.blk.lt
        go_wp2_with (fail)
        refine kPick (pick_any R _ 3 _ (Mv.rdD (Mv.alloc HM.out _)) (by omega)) ?_
        intro k0 w3 hk1 hk2 hm3 hs3
        obtain ⟨hk0, hk3⟩ := hk1 (by omega)
        have HC3 := Lib.hid (HD0.out.mv hm3)
        have HM3 := Lib.hid (Mv.trans (Mv.alloc HM.out _) hm3)
        obtain ⟨D, HDD⟩ : ∃ q, Hid (wo.heap.size = q) := ⟨_, rfl⟩
        rw [HDD.out] at HC3 ⊢
        clear hk1 hk2 hm3 hs3 HD0 e0 e1
        rw [HDD.out] at hPo
        have hwD : w.heap.size < D := by omega
        go_wp2_with (fail)
        go_loopw [8] (fun i wr => ∃ (k : Int) (m d : Nat) (C : Option Addr), i = .int .i64 k ∧ 0 ≤ k ∧ (m : Int) + k ≤ 2 ∧ DlAt wr R w.heap.size P D pts A 6 c C m d ∧ Mv R (B + 110 + 10 * (2 - k)) w wr) (fun i _ => (intOf i).toNat)
        case atStart => exact ⟨k0, 0, 0, none, rfl, hk0, by omega, HC3.out, HM3.out.mono (by omega)⟩
        case round =>
          obtain ⟨wq, rfl⟩ : ∃ wq : World, wq = wr := ⟨_, rfl⟩
          obtain ⟨k, m, d, C, rfl, hk0', hmk, hc, hm⟩ := hrel
          have HC := Lib.hid hc
          have HM := Lib.hid hm
          obtain ⟨e0, e1, e2, e3, e4, f2, f3, f4⟩ := hc.cells
          clear hc hm HC3 HM3
          by_cases hlt : 0 < k
          · by_cases hp1 : 1 < pts
            · go_wp2_with (fail)
              refine kPick (pick_any R _ 7 _ HM.out.2 (by omega)) ?_
              intro lo wL hq1 hq2 hmL hsL
              obtain ⟨hlo0, hlo1⟩ := hq1 (by omega)
              have HCwL := Lib.hid (HC.out.mv hmL)
              have HMwL := Lib.hid (HM.out.trans hmL)
              clear hq1 hq2 hmL hsL e0 e1 e2 e3 e4 f2 f3 f4
              obtain ⟨xs, hxx⟩ := HCwL.out.row
              have HXX := Lib.hid hxx
              have HLX := Lib.hid (OwnP.len hxx)
              have HNA := Lib.hid (OwnP.nilA hxx)
              obtain ⟨B1, hB1a, hB1b, HB1⟩ : ∃ q, q ≤ wL.heap.size ∧ wL.heap.size ≤ q ∧ Hid (wL.heap.size = q) := ⟨_, Nat.le_refl _, Nat.le_refl _, rfl⟩
              have HCL := Lib.hid (show ∀ k, (Value.slice C m d).ownBlock = some k → k < B1 from fun k hk => by have := (hxx.lt k hk).2; omega)
              have hDB : D < B1 := by have := HCwL.out.blk.lt; omega
              obtain ⟨s0, s1, s2⟩ := HCwL.out.S
              clear hxx
              go_upto_region 14 with fail
              go_cut [10] from 50 to 85 (fun s wx => ∃ (q : Nat) (C2 : Option Addr) (d2 : Nat), s = .pointer (some ⟨q, 0, none⟩) ∧ XtAt wx R w.heap.size P D q pts A 6 c C m d C2 d2 ∧ Mv R (B + 110 + 10 * (2 - k) + 4) w wx)
              case first =>
                refine wp_region_held_drew (S := (fun w' => w'.cell? ⟨P, 0, none⟩ = some (.int .i64 pts) ∧ w'.cell? ⟨P, 1, none⟩ = some (.slice A 6 c) ∧ w'.cell? ⟨D, 2, none⟩ = some (.slice C m d))) (by kernel_rfl) ?_ (fun hHeld => ?_)
                · exact HCwL.out.S
                refine wpAnyH_take (i := 0) (oi := _) (v := ?_) rfl (by kernel_rfl) (by kernel_rfl) (by kernel_rfl) (fun _ _ _ h => h) (Or.inl ⟨by kernel_rfl, ?_⟩) (by assumption) ?_
                rotate_left
                · (intro w hSw; (try dsimp only at hSw); go_simp; (try with_reducible rfl))
                try simp only [Act.put, List.getElem_toArray, List.getElem_cons_succ, List.getElem_cons_zero, List.setIfInBounds_toArray, List.set_cons_zero, List.set_cons_succ]
                refine wpAnyH_take (i := 2) (oi := _) (v := ?_) rfl (by kernel_rfl) (by kernel_rfl) (by kernel_rfl) (fun _ _ _ h => h) (Or.inl ⟨by kernel_rfl, ?_⟩) (by assumption) ?_
                rotate_left
                · (intro w hSw; (try dsimp only at hSw); go_simp; (try with_reducible rfl))
                try simp only [Act.put, List.getElem_toArray, List.getElem_cons_succ, List.getElem_cons_zero, List.setIfInBounds_toArray, List.set_cons_zero, List.set_cons_succ]
                refine wpAnyH_take (i := 3) (oi := _) (v := ?_) rfl (by kernel_rfl) (by kernel_rfl) (by kernel_rfl) (fun _ _ _ h => h) (Or.inl ⟨by kernel_rfl, ?_⟩) (by assumption) ?_
                rotate_left
                · (intro w hSw; (try dsimp only at hSw); go_simp; (try with_reducible rfl))
                try simp only [Act.put, List.getElem_toArray, List.getElem_cons_succ, List.getElem_cons_zero, List.setIfInBounds_toArray, List.set_cons_zero, List.set_cons_succ]
                refine wpAnyH_take (i := 5) (oi := _) (v := ?_) rfl (by kernel_rfl) (by kernel_rfl) (by kernel_rfl) (fun _ _ _ h => h) (Or.inl ⟨by kernel_rfl, ?_⟩) (by assumption) ?_
                rotate_left
                · (intro w hSw; (try dsimp only at hSw); go_simp; (try with_reducible rfl))
                try simp only [Act.put, List.getElem_toArray, List.getElem_cons_succ, List.getElem_cons_zero, List.setIfInBounds_toArray, List.set_cons_zero, List.set_cons_succ]
                refine wpAnyH_take (i := 6) (oi := _) (v := ?_) rfl (by kernel_rfl) (by kernel_rfl) (by kernel_rfl) (fun _ _ _ h => h) (Or.inl ⟨by kernel_rfl, ?_⟩) (by assumption) ?_
                rotate_left
                · (intro w hSw; (try dsimp only at hSw); go_simp; (try with_reducible rfl))
                try simp only [Act.put, List.getElem_toArray, List.getElem_cons_succ, List.getElem_cons_zero, List.setIfInBounds_toArray, List.set_cons_zero, List.set_cons_succ]
                refine wpAnyH_take (i := 7) (oi := _) (v := ?_) rfl (by kernel_rfl) (by kernel_rfl) (by kernel_rfl) (fun _ _ _ h => h) (Or.inl ⟨by kernel_rfl, ?_⟩) (by assumption) ?_
                rotate_left
                · (intro w hSw; (try dsimp only at hSw); go_simp; (try with_reducible rfl))
                try simp only [Act.put, List.getElem_toArray, List.getElem_cons_succ, List.getElem_cons_zero, List.setIfInBounds_toArray, List.set_cons_zero, List.set_cons_succ]
                refine wpAnyH_take (i := 9) (oi := _) (v := ?_) rfl (by kernel_rfl) (by kernel_rfl) (by kernel_rfl) (fun _ _ _ h => h) (Or.inl ⟨by kernel_rfl, ?_⟩) (by assumption) ?_
                rotate_left
                · (intro w hSw; (try dsimp only at hSw); go_simp; (try with_reducible rfl))
                try simp only [Act.put, List.getElem_toArray, List.getElem_cons_succ, List.getElem_cons_zero, List.setIfInBounds_toArray, List.set_cons_zero, List.set_cons_succ]
                refine wpAnyH_take (i := 10) (oi := _) (v := ?_) rfl (by kernel_rfl) (by kernel_rfl) (by kernel_rfl) (fun _ _ _ h => h) (Or.inl ⟨by kernel_rfl, ?_⟩) (by assumption) ?_
                rotate_left
                · (intro w hSw; (try dsimp only at hSw); go_simp; (try with_reducible rfl))
                try simp only [Act.put, List.getElem_toArray, List.getElem_cons_succ, List.getElem_cons_zero, List.setIfInBounds_toArray, List.set_cons_zero, List.set_cons_succ]
                refine wpAnyH_take (i := 11) (oi := _) (v := ?_) rfl (by kernel_rfl) (by kernel_rfl) (by kernel_rfl) (fun _ _ _ h => h) (Or.inl ⟨by kernel_rfl, ?_⟩) (by assumption) ?_
                rotate_left
                · (intro w hSw; (try dsimp only at hSw); go_simp; (try with_reducible rfl))
                try simp only [Act.put, List.getElem_toArray, List.getElem_cons_succ, List.getElem_cons_zero, List.setIfInBounds_toArray, List.set_cons_zero, List.set_cons_succ]
                refine wpAnyH_take (i := 13) (oi := _) (v := ?_) rfl (by kernel_rfl) (by kernel_rfl) (by kernel_rfl) (fun _ _ _ h => h) (Or.inl ⟨by kernel_rfl, ?_⟩) (by assumption) ?_
                rotate_left
                · (intro w hSw; (try dsimp only at hSw); go_simp; (try with_reducible rfl))
                try simp only [Act.put, List.getElem_toArray, List.getElem_cons_succ, List.getElem_cons_zero, List.setIfInBounds_toArray, List.set_cons_zero, List.set_cons_succ]
                refine wpAnyH_take (i := 14) (oi := _) (v := ?_) rfl (by kernel_rfl) (by kernel_rfl) (by kernel_rfl) (fun _ _ _ h => h) (Or.inl ⟨by kernel_rfl, ?_⟩) (by assumption) ?_
                rotate_left
                · (intro w hSw; (try dsimp only at hSw); go_simp; (try with_reducible rfl))
                try simp only [Act.put, List.getElem_toArray, List.getElem_cons_succ, List.getElem_cons_zero, List.setIfInBounds_toArray, List.set_cons_zero, List.set_cons_succ]
                refine wpAnyH_take (i := 15) (oi := _) (v := ?_) rfl (by kernel_rfl) (by kernel_rfl) (by kernel_rfl) (fun _ _ _ h => h) (Or.inl ⟨by kernel_rfl, ?_⟩) (by assumption) ?_
                rotate_left
                · (intro w hSw; (try dsimp only at hSw); go_simp; (try with_reducible rfl))
                try simp only [Act.put, List.getElem_toArray, List.getElem_cons_succ, List.getElem_cons_zero, List.setIfInBounds_toArray, List.set_cons_zero, List.set_cons_succ]
                refine wpAnyH_ready (rs := [1, 22]) (by kernel_rfl) (by simp) ?_
                refine AllReadyH.cons (o := _) rfl (fun K hK => ?_) (AllReadyH.cons (o := _) rfl (fun K hK => ?_) (AllReadyH.nil))
                · have bLe : Below wL.heap.size wL (wL.alloc (.cells #[] 105)) := (Below.refl wL.heap.size wL).alloc (Nat.le_refl _) (.cells #[] 105)
                  go_simp
                  refine hK.out _ _ ?_ (fun hHeld => ?_)
                  · exact ((DlAt.drewD ((HCwL.out.below bLe)))).S
                  clear hK K
                  try simp only [Act.put, List.getElem_toArray, List.getElem_cons_succ, List.getElem_cons_zero, List.setIfInBounds_toArray, List.set_cons_zero, List.set_cons_succ]
                  refine wpAnyH_ready (rs := [4, 22]) (by kernel_rfl) (by simp) ?_
                  refine AllReadyH.cons (o := _) rfl (fun K hK => ?_) (AllReadyH.cons (o := _) rfl (fun K hK => ?_) (AllReadyH.nil))
                  · have hbW := bLe
                    refine step_appX rowPr (by rfl) _ _ (by rfl) B1 _ 0 [] (by rfl) (show World.ownsRow (wL.alloc (.cells #[] 105)).drew B1 105 4 (.slice (some ⟨wL.heap.size, 0, none⟩) 0 0) 0 [] from own_drewN (own_lit_atB (w := wL) (q := wL.heap.size) rfl B1 105 4 #[] 0 (by first | omega | (simp <;> omega)) (by decide) rfl) 1) C m d (v4 xs) (by rfl) HNA.out (by rw [v4_len, HLX.out]) (fun ad e => OwnP.news (show OwnP (wL.alloc (.cells #[] 105)).drew (D + 1) C m d xs from own_drewN (own_below HXX.out hbW) 1) e) (v4_one _) m (Nat.zero_add _) (v4 xs) (List.nil_append _) (by omega) (show B1 ≤ (wL.alloc (.cells #[] 105)).heap.size from by first | omega | (simp <;> omega)) ?_
                    intro C1 d1 wA hown1 hgrow1 hat1
                    have hrow1 : ∀ r, (Value.slice (some ⟨wL.heap.size, 0, none⟩) 0 0).ownBlock = some r → B1 ≤ r := fun r hr => by have h5 : wL.heap.size = r := Option.some.inj hr; omega
                    have HCwA := Lib.hid (DlAt.kept (DlAt.drewD ((HCwL.out.below bLe))) hgrow1 (fun r hr => .inr ⟨by have := hrow1 r hr; omega, fun e => by have := hrow1 r hr; have := HCL.out r e; omega⟩))
                    have HMwA := Lib.hid (Mv.grown (Mv.drewD ((HMwL.out.below bLe))) hgrow1 (fun r hr => by have := hrow1 r hr; omega) hR)
                    have HOwA := Lib.hid hown1
                    have hsA : B1 ≤ wA.heap.size := by have := HCwA.out.blk.lt; have := hgrow1.size; (try simp at this); omega
                    clear hown1 hgrow1 hat1 hrow1 hbW
                    refine hK.out _ _ ?_ (fun hHeld => ?_)
                    · exact ((HCwA.out)).S
                    clear hK K
                    try simp only [Act.put, List.getElem_toArray, List.getElem_cons_succ, List.getElem_cons_zero, List.setIfInBounds_toArray, List.set_cons_zero, List.set_cons_succ]
                    refine wpAnyH_ready (rs := [8, 22]) (by kernel_rfl) (by simp) ?_
                    refine AllReadyH.cons (o := _) rfl (fun K hK => ?_) (AllReadyH.cons (o := _) rfl (fun K hK => ?_) (AllReadyH.nil))
                    · go_simp
                      go_at_call 51; with_reducible refine kPick (pick_any R _ pts _ (Mv.rdD (HMwA.out)) (by omega)) ?_
                      intro x wB hq1 hq2 hm hs
                      obtain ⟨hx0, hx1⟩ := hq1 (by omega)
                      have HCwB := Lib.hid (DlAt.mv (HCwA.out) hm)
                      have HMwB := Lib.hid (Mv.trans (HMwA.out) hm)
                      have HOwB := Lib.hid (own_mv HOwA.out (by omega) hm)
                      have hsB : B1 ≤ wB.heap.size := by have := hs; (try simp at this); omega
                      clear hq1 hq2 hm hs
                      go_wp2_with fail
                      refine hK.out _ _ ?_ (fun hHeld => ?_)
                      · exact ((HCwB.out)).S
                      clear hK K
                      try simp only [Act.put, List.getElem_toArray, List.getElem_cons_succ, List.getElem_cons_zero, List.setIfInBounds_toArray, List.set_cons_zero, List.set_cons_succ]
                      refine wpAnyH_ready (rs := [12, 22]) (by kernel_rfl) (by simp) ?_
                      refine AllReadyH.cons (o := _) rfl (fun K hK => ?_) (AllReadyH.cons (o := _) rfl (fun K hK => ?_) (AllReadyH.nil))
                      · go_simp
                        go_at_call 51; with_reducible refine kPick (pick_any R _ pts _ (Mv.rdD (HMwB.out)) (by omega)) ?_
                        intro y wC hq1 hq2 hm hs
                        obtain ⟨hy0, hy1⟩ := hq1 (by omega)
                        have HCwC := Lib.hid (DlAt.mv (HCwB.out) hm)
                        have HMwC := Lib.hid (Mv.trans (HMwB.out) hm)
                        have HOwC := Lib.hid (own_mv HOwB.out (by omega) hm)
                        have hsC : B1 ≤ wC.heap.size := by have := hs; (try simp at this); omega
                        clear hq1 hq2 hm hs
                        go_wp2_with fail
                        refine hK.out _ _ ?_ (fun hHeld => ?_)
                        · exact ((HCwC.out)).S
                        clear hK K
                        try simp only [Act.put, List.getElem_toArray, List.getElem_cons_succ, List.getElem_cons_zero, List.setIfInBounds_toArray, List.set_cons_zero, List.set_cons_succ]
                        refine wpAnyH_ready (rs := [16, 22]) (by kernel_rfl) (by simp) ?_
                        refine AllReadyH.cons (o := _) rfl (fun K hK => ?_) (AllReadyH.cons (o := _) rfl (fun K hK => ?_) (AllReadyH.nil))
                        · go_simp
                          go_at_call 51; with_reducible refine kPick (pick_any R _ 6 _ (Mv.rdD (HMwC.out)) (by omega)) ?_
                          intro z wD hq1 hq2 hm hs
                          obtain ⟨hz0, hz1⟩ := hq1 (by omega)
                          have HCwD := Lib.hid (DlAt.mv (HCwC.out) hm)
                          have HMwD := Lib.hid (Mv.trans (HMwC.out) hm)
                          have HOwD := Lib.hid (own_mv HOwC.out (by omega) hm)
                          have hsD : B1 ≤ wD.heap.size := by have := hs; (try simp at this); omega
                          clear hq1 hq2 hm hs
                          go_wp2_with fail
                          refine hK.out _ _ ?_ (fun hHeld => ?_)
                          · exact ((HCwD.out)).S
                          clear hK K
                          try simp only [Act.put, List.getElem_toArray, List.getElem_cons_succ, List.getElem_cons_zero, List.setIfInBounds_toArray, List.set_cons_zero, List.set_cons_succ]
                          refine wpAnyH_take (i := 17) (oi := _) (v := ?_) rfl (by kernel_rfl) (by kernel_rfl) (by kernel_rfl) (fun _ _ _ h => h) (Or.inl ⟨by kernel_rfl, ?_⟩) (by assumption) ?_
                          rotate_left
                          · (intro w hSw; (try dsimp only at hSw); go_simp; (try with_reducible rfl))
                          try simp only [Act.put, List.getElem_toArray, List.getElem_cons_succ, List.getElem_cons_zero, List.setIfInBounds_toArray, List.set_cons_zero, List.set_cons_succ]
                          refine wpAnyH_take (i := 18) (oi := _) (v := ?_) rfl (by kernel_rfl) (by kernel_rfl) (by kernel_rfl) (fun _ _ _ h => h) (Or.inl ⟨by kernel_rfl, ?_⟩) (by assumption) ?_
                          rotate_left
                          · (intro w hSw; (try dsimp only at hSw); go_simp; (try with_reducible rfl))
                          try simp only [Act.put, List.getElem_toArray, List.getElem_cons_succ, List.getElem_cons_zero, List.setIfInBounds_toArray, List.set_cons_zero, List.set_cons_succ]
                          refine wpAnyH_ready (rs := [19, 22]) (by kernel_rfl) (by simp) ?_
                          refine AllReadyH.cons (o := _) rfl (fun K hK => ?_) (AllReadyH.cons (o := _) rfl (fun K hK => ?_) (AllReadyH.nil))
                          · have bDp : Below wD.heap.size wD (wD.alloc (.cells #[.int .i64 x, .int .i64 y, .int .i64 lo, .int .i64 (IntKind.i64.wrap (lo + z))] 105)) := (Below.refl wD.heap.size wD).alloc (Nat.le_refl _) (.cells #[.int .i64 x, .int .i64 y, .int .i64 lo, .int .i64 (IntKind.i64.wrap (lo + z))] 105)
                            go_simp
                            refine hK.out _ _ ?_ (fun hHeld => ?_)
                            · exact (((HCwD.out.below bDp))).S
                            clear hK K
                            try simp only [Act.put, List.getElem_toArray, List.getElem_cons_succ, List.getElem_cons_zero, List.setIfInBounds_toArray, List.set_cons_zero, List.set_cons_succ]
                            refine wpAnyH_ready (rs := [20, 22]) (by kernel_rfl) (by simp) ?_
                            refine AllReadyH.cons (o := _) rfl (fun K hK => ?_) (AllReadyH.cons (o := _) rfl (fun K hK => ?_) (AllReadyH.nil))
                            · refine step_app rowPr (by rfl) _ _ (by rfl) B1 _ m (v4 xs) (by rfl) (own_below HOwD.out bDp) ⟨wD.heap.size, 0, none⟩ 1 1 (v4 [(x, y, lo, IntKind.i64.wrap (lo + z))]) (by rfl) rfl (cell4 (w := wD) (q := wD.heap.size) rfl (x, y, lo, IntKind.i64.wrap (lo + z)) 105) (v4_one _) (by decide) (by omega) (show B1 ≤ (wD.alloc (.cells #[.int .i64 x, .int .i64 y, .int .i64 lo, .int .i64 (IntKind.i64.wrap (lo + z))] 105)).heap.size from by first | omega | (simp <;> omega)) ?_
                              intro g2 d2 wE hown2 hgrow2 hat2 hlt2
                              have HCwE := Lib.hid (DlAt.kept ((HCwD.out.below bDp)) hgrow2 (fun r hr => .inr ⟨by have := (HOwD.out.lt r hr).1; omega, fun e => by have := (HOwD.out.lt r hr).1; have := HCL.out r e; omega⟩))
                              have HMwE := Lib.hid (Mv.grown ((HMwD.out.below bDp)) hgrow2 (fun r hr => by have := (HOwD.out.lt r hr).1; omega) hR)
                              have HOwE := Lib.hid (show OwnP wE B1 (some ⟨g2, 0, none⟩) (m + 1) d2 (xs ++ [(x, y, lo, IntKind.i64.wrap (lo + z))]) from by show World.ownsRow _ _ _ _ _ _ (v4 _); rw [v4_append]; exact hown2)
                              clear hown2 hgrow2 hat2 hlt2
                              refine hK.out _ _ ?_ (fun hHeld => ?_)
                              · exact ((HCwE.out)).S
                              clear hK K
                              try simp only [Act.put, List.getElem_toArray, List.getElem_cons_succ, List.getElem_cons_zero, List.setIfInBounds_toArray, List.set_cons_zero, List.set_cons_succ]
                              refine wpAnyH_take (i := 21) (oi := _) (v := ?_) rfl (by kernel_rfl) (by kernel_rfl) (by kernel_rfl) (fun _ _ _ h => h) (Or.inl ⟨by kernel_rfl, ?_⟩) (by assumption) ?_
                              rotate_left
                              · (intro w hSw; (try dsimp only at hSw); go_simp; (try with_reducible rfl))
                              try simp only [Act.put, List.getElem_toArray, List.getElem_cons_succ, List.getElem_cons_zero, List.setIfInBounds_toArray, List.set_cons_zero, List.set_cons_succ]
                              refine wpAnyH_ready (rs := [22]) (by kernel_rfl) (by simp) ?_
                              refine AllReadyH.cons (o := _) rfl (fun K hK => ?_) (AllReadyH.nil)
                              have bEd : Below wE.heap.size wE (wE.alloc (.cells #[.int .i64 0, .slice none 0 0, .slice none 0 0] 66)) := (Below.refl wE.heap.size wE).alloc (Nat.le_refl _) (.cells #[.int .i64 0, .slice none 0 0, .slice none 0 0] 66)
                              go_simp
                              refine hK.out _ _ ?_ (fun hHeld => ?_)
                              · exact (((HCwE.out.below bEd))).S
                              clear hK K
                              try simp only [Act.put, List.getElem_toArray, List.getElem_cons_succ, List.getElem_cons_zero, List.setIfInBounds_toArray, List.set_cons_zero, List.set_cons_succ]
                              refine wpAnyH_ready (rs := [23]) (by kernel_rfl) (by simp) ?_
                              refine AllReadyH.cons (o := _) rfl (fun K hK => ?_) (AllReadyH.nil)
                              go_simp
                              refine hK.out _ _ ?_ (fun hHeld => ?_)
                              · exact ((HCwE.out.below ((Below.refl _ _).alloc (Nat.le_refl _) (.cells #[.int .i64 pts, .slice A 6 c, .slice (some ⟨g2, 0, none⟩) (m + 1) d2] 66)))).S
                              clear hK K
                              try simp only [Act.put, List.getElem_toArray, List.getElem_cons_succ, List.getElem_cons_zero, List.setIfInBounds_toArray, List.set_cons_zero, List.set_cons_succ]
                              refine wpAnyH_done (by kernel_rfl) ?_ _
                              go_wp2_with fail
                              go_meet
                              exact ⟨_, some ⟨g2, 0, none⟩, d2, rfl, ⟨HCwE.out.blk.lt, Blk.new_at rfl _ _, ⟨_, own_base (own_below HOwE.out ((Below.refl _ _).alloc (Nat.le_refl _) _)) (by omega)⟩, HCwE.out.below ((Below.refl _ _).alloc (Nat.le_refl _) _)⟩, (HMwE.out.alloc _).mono (by omega)⟩
                            · have bDpd : Below wD.heap.size wD ((wD.alloc (.cells #[.int .i64 x, .int .i64 y, .int .i64 lo, .int .i64 (IntKind.i64.wrap (lo + z))] 105)).alloc (.cells #[.int .i64 0, .slice none 0 0, .slice none 0 0] 66)) := ((Below.refl wD.heap.size wD).alloc (Nat.le_refl _) (.cells #[.int .i64 x, .int .i64 y, .int .i64 lo, .int .i64 (IntKind.i64.wrap (lo + z))] 105)).alloc (by simp) (.cells #[.int .i64 0, .slice none 0 0, .slice none 0 0] 66)
                              go_simp
                              refine hK.out _ _ ?_ (fun hHeld => ?_)
                              · exact (((HCwD.out.below bDpd))).S
                              clear hK K
                              try simp only [Act.put, List.getElem_toArray, List.getElem_cons_succ, List.getElem_cons_zero, List.setIfInBounds_toArray, List.set_cons_zero, List.set_cons_succ]
                              refine wpAnyH_ready (rs := [20]) (by kernel_rfl) (by simp) ?_
                              refine AllReadyH.cons (o := _) rfl (fun K hK => ?_) (AllReadyH.nil)
                              have hqC2 : ∀ k, (Value.slice C1 m d1).ownBlock = some k → k ≠ wD.heap.size + 1 := fun k hk e => by have := (HOwD.out.lt k hk).2; omega
                              refine step_app rowPr (by rfl) _ _ (by rfl) B1 _ m (v4 xs) (by rfl) (own_below HOwD.out bDpd) ⟨wD.heap.size, 0, none⟩ 1 1 (v4 [(x, y, lo, IntKind.i64.wrap (lo + z))]) (by rfl) rfl (fun j u hu => keep ((Below.refl _ _).alloc (Nat.le_refl _) (.cells #[.int .i64 0, .slice none 0 0, .slice none 0 0] 66)) ((cell4 (w := wD) (q := wD.heap.size) rfl (x, y, lo, IntKind.i64.wrap (lo + z)) 105) j u hu)) (v4_one _) (by decide) (by omega) (show B1 ≤ ((wD.alloc (.cells #[.int .i64 x, .int .i64 y, .int .i64 lo, .int .i64 (IntKind.i64.wrap (lo + z))] 105)).alloc (.cells #[.int .i64 0, .slice none 0 0, .slice none 0 0] 66)).heap.size from by first | omega | (simp <;> omega)) ?_
                              intro g2 d2 wE hown2 hgrow2 hat2 hlt2
                              have HCwE := Lib.hid (DlAt.kept ((HCwD.out.below bDpd)) hgrow2 (fun r hr => .inr ⟨by have := (HOwD.out.lt r hr).1; omega, fun e => by have := (HOwD.out.lt r hr).1; have := HCL.out r e; omega⟩))
                              have HMwE := Lib.hid (Mv.grown ((HMwD.out.below bDpd)) hgrow2 (fun r hr => by have := (HOwD.out.lt r hr).1; omega) hR)
                              have HOwE := Lib.hid (show OwnP wE B1 (some ⟨g2, 0, none⟩) (m + 1) d2 (xs ++ [(x, y, lo, IntKind.i64.wrap (lo + z))]) from by show World.ownsRow _ _ _ _ _ _ (v4 _); rw [v4_append]; exact hown2)
                              have HQwE := Lib.hid (show Blk wE (wD.heap.size + 1) 66 #[.int .i64 0, .slice none 0 0, .slice none 0 0] from (hgrow2.block (wD.heap.size + 1) ((Blk.new_at (w := (wD.alloc (.cells #[.int .i64 x, .int .i64 y, .int .i64 lo, .int .i64 (IntKind.i64.wrap (lo + z))] 105))) (q := wD.heap.size + 1) (by simp) 66 #[.int .i64 0, .slice none 0 0, .slice none 0 0])).lt (fun e => hqC2 _ e.symm rfl)).trans (Blk.new_at (w := (wD.alloc (.cells #[.int .i64 x, .int .i64 y, .int .i64 lo, .int .i64 (IntKind.i64.wrap (lo + z))] 105))) (q := wD.heap.size + 1) (by simp) 66 #[.int .i64 0, .slice none 0 0, .slice none 0 0]))
                              have hqE : g2 ≠ wD.heap.size + 1 := by
                                rcases hat2 with h5 | h5
                                · exact hqC2 _ h5
                                · have := ((Blk.new_at (w := (wD.alloc (.cells #[.int .i64 x, .int .i64 y, .int .i64 lo, .int .i64 (IntKind.i64.wrap (lo + z))] 105))) (q := wD.heap.size + 1) (by simp) 66 #[.int .i64 0, .slice none 0 0, .slice none 0 0])).lt; (try simp at h5 this); omega
                              have hqB2 : B1 ≤ wD.heap.size + 1 := by omega
                              clear hown2 hgrow2 hat2 hlt2
                              refine hK.out _ _ ?_ (fun hHeld => ?_)
                              · exact ((HCwE.out)).S
                              clear hK K
                              try simp only [Act.put, List.getElem_toArray, List.getElem_cons_succ, List.getElem_cons_zero, List.setIfInBounds_toArray, List.set_cons_zero, List.set_cons_succ]
                              refine wpAnyH_take (i := 21) (oi := _) (v := ?_) rfl (by kernel_rfl) (by kernel_rfl) (by kernel_rfl) (fun _ _ _ h => h) (Or.inl ⟨by kernel_rfl, ?_⟩) (by assumption) ?_
                              rotate_left
                              · (intro w hSw; (try dsimp only at hSw); go_simp; (try with_reducible rfl))
                              try simp only [Act.put, List.getElem_toArray, List.getElem_cons_succ, List.getElem_cons_zero, List.setIfInBounds_toArray, List.set_cons_zero, List.set_cons_succ]
                              refine wpAnyH_ready (rs := [23]) (by kernel_rfl) (by simp) ?_
                              refine AllReadyH.cons (o := _) rfl (fun K hK => ?_) (AllReadyH.nil)
                              have t0 := (HQwE.out.cell 0).trans rfl
                              have t1 := (HQwE.out.cell 1).trans rfl
                              have t2 := (HQwE.out.cell 2).trans rfl
                              have u0 := HQwE.out.frozen 0
                              have u1 := HQwE.out.frozen 1
                              have u2 := HQwE.out.frozen 2
                              have hql := HQwE.out.lt
                              go_simp
                              refine hK.out _ _ ?_ (fun hHeld => ?_)
                              · exact ((((HCwE.out.setHi (q := wD.heap.size + 1) (by omega) (fun k hk => by have := HCL.out k hk; omega) 0 (.int .i64 pts)).setHi (q := wD.heap.size + 1) (by omega) (fun k hk => by have := HCL.out k hk; omega) 1 (.slice A 6 c)).setHi (q := wD.heap.size + 1) (by omega) (fun k hk => by have := HCL.out k hk; omega) 2 (.slice (some ⟨g2, 0, none⟩) (m + 1) d2))).S
                              clear hK K
                              try simp only [Act.put, List.getElem_toArray, List.getElem_cons_succ, List.getElem_cons_zero, List.setIfInBounds_toArray, List.set_cons_zero, List.set_cons_succ]
                              refine wpAnyH_done (by kernel_rfl) ?_ _
                              go_wp2_with fail
                              go_meet
                              exact ⟨_, some ⟨g2, 0, none⟩, d2, rfl, ⟨by omega, (((HQwE.out.set_ 0 (.int .i64 pts)).set_ 1 (.slice A 6 c)).set_ 2 (.slice (some ⟨g2, 0, none⟩) (m + 1) d2)), ⟨_, own_base (OwnP.setHi (OwnP.setHi (OwnP.setHi HOwE.out (fun k hk => by have h6 : g2 = k := Option.some.inj hk; omega) 0 (.int .i64 pts)) (fun k hk => by have h6 : g2 = k := Option.some.inj hk; omega) 1 (.slice A 6 c)) (fun k hk => by have h6 : g2 = k := Option.some.inj hk; omega) 2 (.slice (some ⟨g2, 0, none⟩) (m + 1) d2)) (by omega)⟩, (((HCwE.out.setHi (q := wD.heap.size + 1) (by omega) (fun k hk => by have := HCL.out k hk; omega) 0 (.int .i64 pts)).setHi (q := wD.heap.size + 1) (by omega) (fun k hk => by have := HCL.out k hk; omega) 1 (.slice A 6 c)).setHi (q := wD.heap.size + 1) (by omega) (fun k hk => by have := HCL.out k hk; omega) 2 (.slice (some ⟨g2, 0, none⟩) (m + 1) d2))⟩, (((HMwE.out.setNew (P := wD.heap.size + 1) (by omega) hR 0 _).setNew (P := wD.heap.size + 1) (by omega) hR 1 _).setNew (P := wD.heap.size + 1) (by omega) hR 2 _).mono (by omega)⟩
                          · have bDd : Below wD.heap.size wD (wD.alloc (.cells #[.int .i64 0, .slice none 0 0, .slice none 0 0] 66)) := (Below.refl wD.heap.size wD).alloc (Nat.le_refl _) (.cells #[.int .i64 0, .slice none 0 0, .slice none 0 0] 66)
                            go_simp
                            refine hK.out _ _ ?_ (fun hHeld => ?_)
                            · exact (((HCwD.out.below bDd))).S
                            clear hK K
                            try simp only [Act.put, List.getElem_toArray, List.getElem_cons_succ, List.getElem_cons_zero, List.setIfInBounds_toArray, List.set_cons_zero, List.set_cons_succ]
                            refine wpAnyH_ready (rs := [19]) (by kernel_rfl) (by simp) ?_
                            refine AllReadyH.cons (o := _) rfl (fun K hK => ?_) (AllReadyH.nil)
                            have bDdp : Below wD.heap.size wD ((wD.alloc (.cells #[.int .i64 0, .slice none 0 0, .slice none 0 0] 66)).alloc (.cells #[.int .i64 x, .int .i64 y, .int .i64 lo, .int .i64 (IntKind.i64.wrap (lo + z))] 105)) := ((Below.refl wD.heap.size wD).alloc (Nat.le_refl _) (.cells #[.int .i64 0, .slice none 0 0, .slice none 0 0] 66)).alloc (by simp) (.cells #[.int .i64 x, .int .i64 y, .int .i64 lo, .int .i64 (IntKind.i64.wrap (lo + z))] 105)
                            go_simp
                            refine hK.out _ _ ?_ (fun hHeld => ?_)
                            · exact (((HCwD.out.below bDdp))).S
                            clear hK K
                            try simp only [Act.put, List.getElem_toArray, List.getElem_cons_succ, List.getElem_cons_zero, List.setIfInBounds_toArray, List.set_cons_zero, List.set_cons_succ]
                            refine wpAnyH_ready (rs := [20]) (by kernel_rfl) (by simp) ?_
                            refine AllReadyH.cons (o := _) rfl (fun K hK => ?_) (AllReadyH.nil)
                            have hqC2 : ∀ k, (Value.slice C1 m d1).ownBlock = some k → k ≠ wD.heap.size := fun k hk e => by have := (HOwD.out.lt k hk).2; omega
                            refine step_app rowPr (by rfl) _ _ (by rfl) B1 _ m (v4 xs) (by rfl) (own_below HOwD.out bDdp) ⟨wD.heap.size + 1, 0, none⟩ 1 1 (v4 [(x, y, lo, IntKind.i64.wrap (lo + z))]) (by rfl) rfl (cell4 (w := (wD.alloc (.cells #[.int .i64 0, .slice none 0 0, .slice none 0 0] 66))) (q := wD.heap.size + 1) (by simp) (x, y, lo, IntKind.i64.wrap (lo + z)) 105) (v4_one _) (by decide) (by omega) (show B1 ≤ ((wD.alloc (.cells #[.int .i64 0, .slice none 0 0, .slice none 0 0] 66)).alloc (.cells #[.int .i64 x, .int .i64 y, .int .i64 lo, .int .i64 (IntKind.i64.wrap (lo + z))] 105)).heap.size from by first | omega | (simp <;> omega)) ?_
                            intro g2 d2 wE hown2 hgrow2 hat2 hlt2
                            have HCwE := Lib.hid (DlAt.kept ((HCwD.out.below bDdp)) hgrow2 (fun r hr => .inr ⟨by have := (HOwD.out.lt r hr).1; omega, fun e => by have := (HOwD.out.lt r hr).1; have := HCL.out r e; omega⟩))
                            have HMwE := Lib.hid (Mv.grown ((HMwD.out.below bDdp)) hgrow2 (fun r hr => by have := (HOwD.out.lt r hr).1; omega) hR)
                            have HOwE := Lib.hid (show OwnP wE B1 (some ⟨g2, 0, none⟩) (m + 1) d2 (xs ++ [(x, y, lo, IntKind.i64.wrap (lo + z))]) from by show World.ownsRow _ _ _ _ _ _ (v4 _); rw [v4_append]; exact hown2)
                            have HQwE := Lib.hid (show Blk wE (wD.heap.size) 66 #[.int .i64 0, .slice none 0 0, .slice none 0 0] from (hgrow2.block (wD.heap.size) (((Blk.new_at (w := wD) (q := wD.heap.size) rfl 66 #[.int .i64 0, .slice none 0 0, .slice none 0 0]).below ((Below.refl _ _).alloc (Nat.le_refl _) (.cells #[.int .i64 x, .int .i64 y, .int .i64 lo, .int .i64 (IntKind.i64.wrap (lo + z))] 105)) (Blk.new_at (w := wD) (q := wD.heap.size) rfl 66 #[.int .i64 0, .slice none 0 0, .slice none 0 0]).lt)).lt (fun e => hqC2 _ e.symm rfl)).trans ((Blk.new_at (w := wD) (q := wD.heap.size) rfl 66 #[.int .i64 0, .slice none 0 0, .slice none 0 0]).below ((Below.refl _ _).alloc (Nat.le_refl _) (.cells #[.int .i64 x, .int .i64 y, .int .i64 lo, .int .i64 (IntKind.i64.wrap (lo + z))] 105)) (Blk.new_at (w := wD) (q := wD.heap.size) rfl 66 #[.int .i64 0, .slice none 0 0, .slice none 0 0]).lt))
                            have hqE : g2 ≠ wD.heap.size := by
                              rcases hat2 with h5 | h5
                              · exact hqC2 _ h5
                              · have := (((Blk.new_at (w := wD) (q := wD.heap.size) rfl 66 #[.int .i64 0, .slice none 0 0, .slice none 0 0]).below ((Below.refl _ _).alloc (Nat.le_refl _) (.cells #[.int .i64 x, .int .i64 y, .int .i64 lo, .int .i64 (IntKind.i64.wrap (lo + z))] 105)) (Blk.new_at (w := wD) (q := wD.heap.size) rfl 66 #[.int .i64 0, .slice none 0 0, .slice none 0 0]).lt)).lt; (try simp at h5 this); omega
                            have hqB2 : B1 ≤ wD.heap.size := by omega
                            clear hown2 hgrow2 hat2 hlt2
                            refine hK.out _ _ ?_ (fun hHeld => ?_)
                            · exact ((HCwE.out)).S
                            clear hK K
                            try simp only [Act.put, List.getElem_toArray, List.getElem_cons_succ, List.getElem_cons_zero, List.setIfInBounds_toArray, List.set_cons_zero, List.set_cons_succ]
                            refine wpAnyH_take (i := 21) (oi := _) (v := ?_) rfl (by kernel_rfl) (by kernel_rfl) (by kernel_rfl) (fun _ _ _ h => h) (Or.inl ⟨by kernel_rfl, ?_⟩) (by assumption) ?_
                            rotate_left
                            · (intro w hSw; (try dsimp only at hSw); go_simp; (try with_reducible rfl))
                            try simp only [Act.put, List.getElem_toArray, List.getElem_cons_succ, List.getElem_cons_zero, List.setIfInBounds_toArray, List.set_cons_zero, List.set_cons_succ]
                            refine wpAnyH_ready (rs := [23]) (by kernel_rfl) (by simp) ?_
                            refine AllReadyH.cons (o := _) rfl (fun K hK => ?_) (AllReadyH.nil)
                            have t0 := (HQwE.out.cell 0).trans rfl
                            have t1 := (HQwE.out.cell 1).trans rfl
                            have t2 := (HQwE.out.cell 2).trans rfl
                            have u0 := HQwE.out.frozen 0
                            have u1 := HQwE.out.frozen 1
                            have u2 := HQwE.out.frozen 2
                            have hql := HQwE.out.lt
                            go_simp
                            refine hK.out _ _ ?_ (fun hHeld => ?_)
                            · exact ((((HCwE.out.setHi (q := wD.heap.size) (by omega) (fun k hk => by have := HCL.out k hk; omega) 0 (.int .i64 pts)).setHi (q := wD.heap.size) (by omega) (fun k hk => by have := HCL.out k hk; omega) 1 (.slice A 6 c)).setHi (q := wD.heap.size) (by omega) (fun k hk => by have := HCL.out k hk; omega) 2 (.slice (some ⟨g2, 0, none⟩) (m + 1) d2))).S
                            clear hK K
                            try simp only [Act.put, List.getElem_toArray, List.getElem_cons_succ, List.getElem_cons_zero, List.setIfInBounds_toArray, List.set_cons_zero, List.set_cons_succ]
                            refine wpAnyH_done (by kernel_rfl) ?_ _
                            go_wp2_with fail
                            go_meet
                            exact ⟨_, some ⟨g2, 0, none⟩, d2, rfl, ⟨by omega, (((HQwE.out.set_ 0 (.int .i64 pts)).set_ 1 (.slice A 6 c)).set_ 2 (.slice (some ⟨g2, 0, none⟩) (m + 1) d2)), ⟨_, own_base (OwnP.setHi (OwnP.setHi (OwnP.setHi HOwE.out (fun k hk => by have h6 : g2 = k := Option.some.inj hk; omega) 0 (.int .i64 pts)) (fun k hk => by have h6 : g2 = k := Option.some.inj hk; omega) 1 (.slice A 6 c)) (fun k hk => by have h6 : g2 = k := Option.some.inj hk; omega) 2 (.slice (some ⟨g2, 0, none⟩) (m + 1) d2)) (by omega)⟩, (((HCwE.out.setHi (q := wD.heap.size) (by omega) (fun k hk => by have := HCL.out k hk; omega) 0 (.int .i64 pts)).setHi (q := wD.heap.size) (by omega) (fun k hk => by have := HCL.out k hk; omega) 1 (.slice A 6 c)).setHi (q := wD.heap.size) (by omega) (fun k hk => by have := HCL.out k hk; omega) 2 (.slice (some ⟨g2, 0, none⟩) (m + 1) d2))⟩, (((HMwE.out.setNew (P := wD.heap.size) (by omega) hR 0 _).setNew (P := wD.heap.size) (by omega) hR 1 _).setNew (P := wD.heap.size) (by omega) hR 2 _).mono (by omega)⟩
                        · have bCd : Below wC.heap.size wC (wC.alloc (.cells #[.int .i64 0, .slice none 0 0, .slice none 0 0] 66)) := (Below.refl wC.heap.size wC).alloc (Nat.le_refl _) (.cells #[.int .i64 0, .slice none 0 0, .slice none 0 0] 66)
                          go_simp
                          refine hK.out _ _ ?_ (fun hHeld => ?_)
                          · exact (((HCwC.out.below bCd))).S
                          clear hK K
                          try simp only [Act.put, List.getElem_toArray, List.getElem_cons_succ, List.getElem_cons_zero, List.setIfInBounds_toArray, List.set_cons_zero, List.set_cons_succ]
                          refine wpAnyH_ready (rs := [16]) (by kernel_rfl) (by simp) ?_
                          refine AllReadyH.cons (o := _) rfl (fun K hK => ?_) (AllReadyH.nil)
                          go_simp
                          go_at_call 51; with_reducible refine kPick (pick_any R _ 6 _ (Mv.rdD ((HMwC.out.below bCd))) (by omega)) ?_
                          intro z wD hq1 hq2 hm hs
                          obtain ⟨hz0, hz1⟩ := hq1 (by omega)
                          have HCwD := Lib.hid (DlAt.mv ((HCwC.out.below bCd)) hm)
                          have HMwD := Lib.hid (Mv.trans ((HMwC.out.below bCd)) hm)
                          have HOwD := Lib.hid (own_mv (own_below HOwC.out bCd) (by omega) hm)
                          have hsD : B1 ≤ wD.heap.size := by have := hs; (try simp at this); omega
                          have HQwD := Lib.hid (show Blk wD (wC.heap.size) 66 #[.int .i64 0, .slice none 0 0, .slice none 0 0] from (hm.1.block (wC.heap.size) ((Blk.new_at (w := wC) (q := wC.heap.size) rfl 66 #[.int .i64 0, .slice none 0 0, .slice none 0 0])).lt (fun e => by cases e; omega)).trans (Blk.new_at (w := wC) (q := wC.heap.size) rfl 66 #[.int .i64 0, .slice none 0 0, .slice none 0 0]))
                          have hqC : ∀ k, (Value.slice C1 m d1).ownBlock = some k → k ≠ wC.heap.size := fun k hk e => by have := (HOwC.out.lt k hk).2; omega
                          have hqB : B1 ≤ wC.heap.size := by omega
                          clear hq1 hq2 hm hs
                          go_wp2_with fail
                          refine hK.out _ _ ?_ (fun hHeld => ?_)
                          · exact ((HCwD.out)).S
                          clear hK K
                          try simp only [Act.put, List.getElem_toArray, List.getElem_cons_succ, List.getElem_cons_zero, List.setIfInBounds_toArray, List.set_cons_zero, List.set_cons_succ]
                          refine wpAnyH_take (i := 17) (oi := _) (v := ?_) rfl (by kernel_rfl) (by kernel_rfl) (by kernel_rfl) (fun _ _ _ h => h) (Or.inl ⟨by kernel_rfl, ?_⟩) (by assumption) ?_
                          rotate_left
                          · (intro w hSw; (try dsimp only at hSw); go_simp; (try with_reducible rfl))
                          try simp only [Act.put, List.getElem_toArray, List.getElem_cons_succ, List.getElem_cons_zero, List.setIfInBounds_toArray, List.set_cons_zero, List.set_cons_succ]
                          refine wpAnyH_take (i := 18) (oi := _) (v := ?_) rfl (by kernel_rfl) (by kernel_rfl) (by kernel_rfl) (fun _ _ _ h => h) (Or.inl ⟨by kernel_rfl, ?_⟩) (by assumption) ?_
                          rotate_left
                          · (intro w hSw; (try dsimp only at hSw); go_simp; (try with_reducible rfl))
                          try simp only [Act.put, List.getElem_toArray, List.getElem_cons_succ, List.getElem_cons_zero, List.setIfInBounds_toArray, List.set_cons_zero, List.set_cons_succ]
                          refine wpAnyH_ready (rs := [19]) (by kernel_rfl) (by simp) ?_
                          refine AllReadyH.cons (o := _) rfl (fun K hK => ?_) (AllReadyH.nil)
                          have bDp : Below wD.heap.size wD (wD.alloc (.cells #[.int .i64 x, .int .i64 y, .int .i64 lo, .int .i64 (IntKind.i64.wrap (lo + z))] 105)) := (Below.refl wD.heap.size wD).alloc (Nat.le_refl _) (.cells #[.int .i64 x, .int .i64 y, .int .i64 lo, .int .i64 (IntKind.i64.wrap (lo + z))] 105)
                          go_simp
                          refine hK.out _ _ ?_ (fun hHeld => ?_)
                          · exact (((HCwD.out.below bDp))).S
                          clear hK K
                          try simp only [Act.put, List.getElem_toArray, List.getElem_cons_succ, List.getElem_cons_zero, List.setIfInBounds_toArray, List.set_cons_zero, List.set_cons_succ]
                          refine wpAnyH_ready (rs := [20]) (by kernel_rfl) (by simp) ?_
                          refine AllReadyH.cons (o := _) rfl (fun K hK => ?_) (AllReadyH.nil)
                          have hqC2 := hqC
                          refine step_app rowPr (by rfl) _ _ (by rfl) B1 _ m (v4 xs) (by rfl) (own_below HOwD.out bDp) ⟨wD.heap.size, 0, none⟩ 1 1 (v4 [(x, y, lo, IntKind.i64.wrap (lo + z))]) (by rfl) rfl (cell4 (w := wD) (q := wD.heap.size) rfl (x, y, lo, IntKind.i64.wrap (lo + z)) 105) (v4_one _) (by decide) (by omega) (show B1 ≤ (wD.alloc (.cells #[.int .i64 x, .int .i64 y, .int .i64 lo, .int .i64 (IntKind.i64.wrap (lo + z))] 105)).heap.size from by first | omega | (simp <;> omega)) ?_
                          intro g2 d2 wE hown2 hgrow2 hat2 hlt2
                          have HCwE := Lib.hid (DlAt.kept ((HCwD.out.below bDp)) hgrow2 (fun r hr => .inr ⟨by have := (HOwD.out.lt r hr).1; omega, fun e => by have := (HOwD.out.lt r hr).1; have := HCL.out r e; omega⟩))
                          have HMwE := Lib.hid (Mv.grown ((HMwD.out.below bDp)) hgrow2 (fun r hr => by have := (HOwD.out.lt r hr).1; omega) hR)
                          have HOwE := Lib.hid (show OwnP wE B1 (some ⟨g2, 0, none⟩) (m + 1) d2 (xs ++ [(x, y, lo, IntKind.i64.wrap (lo + z))]) from by show World.ownsRow _ _ _ _ _ _ (v4 _); rw [v4_append]; exact hown2)
                          have HQwE := Lib.hid (show Blk wE (wC.heap.size) 66 #[.int .i64 0, .slice none 0 0, .slice none 0 0] from (hgrow2.block (wC.heap.size) ((HQwD.out.below bDp HQwD.out.lt)).lt (fun e => hqC2 _ e.symm rfl)).trans (HQwD.out.below bDp HQwD.out.lt))
                          have hqE : g2 ≠ wC.heap.size := by
                            rcases hat2 with h5 | h5
                            · exact hqC2 _ h5
                            · have := ((HQwD.out.below bDp HQwD.out.lt)).lt; (try simp at h5 this); omega
                          have hqB2 : B1 ≤ wC.heap.size := by omega
                          clear hown2 hgrow2 hat2 hlt2
                          refine hK.out _ _ ?_ (fun hHeld => ?_)
                          · exact ((HCwE.out)).S
                          clear hK K
                          try simp only [Act.put, List.getElem_toArray, List.getElem_cons_succ, List.getElem_cons_zero, List.setIfInBounds_toArray, List.set_cons_zero, List.set_cons_succ]
                          refine wpAnyH_take (i := 21) (oi := _) (v := ?_) rfl (by kernel_rfl) (by kernel_rfl) (by kernel_rfl) (fun _ _ _ h => h) (Or.inl ⟨by kernel_rfl, ?_⟩) (by assumption) ?_
                          rotate_left
                          · (intro w hSw; (try dsimp only at hSw); go_simp; (try with_reducible rfl))
                          try simp only [Act.put, List.getElem_toArray, List.getElem_cons_succ, List.getElem_cons_zero, List.setIfInBounds_toArray, List.set_cons_zero, List.set_cons_succ]
                          refine wpAnyH_ready (rs := [23]) (by kernel_rfl) (by simp) ?_
                          refine AllReadyH.cons (o := _) rfl (fun K hK => ?_) (AllReadyH.nil)
                          have t0 := (HQwE.out.cell 0).trans rfl
                          have t1 := (HQwE.out.cell 1).trans rfl
                          have t2 := (HQwE.out.cell 2).trans rfl
                          have u0 := HQwE.out.frozen 0
                          have u1 := HQwE.out.frozen 1
                          have u2 := HQwE.out.frozen 2
                          have hql := HQwE.out.lt
                          go_simp
                          refine hK.out _ _ ?_ (fun hHeld => ?_)
                          · exact ((((HCwE.out.setHi (q := wC.heap.size) (by omega) (fun k hk => by have := HCL.out k hk; omega) 0 (.int .i64 pts)).setHi (q := wC.heap.size) (by omega) (fun k hk => by have := HCL.out k hk; omega) 1 (.slice A 6 c)).setHi (q := wC.heap.size) (by omega) (fun k hk => by have := HCL.out k hk; omega) 2 (.slice (some ⟨g2, 0, none⟩) (m + 1) d2))).S
                          clear hK K
                          try simp only [Act.put, List.getElem_toArray, List.getElem_cons_succ, List.getElem_cons_zero, List.setIfInBounds_toArray, List.set_cons_zero, List.set_cons_succ]
                          refine wpAnyH_done (by kernel_rfl) ?_ _
                          go_wp2_with fail
                          go_meet
                          exact ⟨_, some ⟨g2, 0, none⟩, d2, rfl, ⟨by omega, (((HQwE.out.set_ 0 (.int .i64 pts)).set_ 1 (.slice A 6 c)).set_ 2 (.slice (some ⟨g2, 0, none⟩) (m + 1) d2)), ⟨_, own_base (OwnP.setHi (OwnP.setHi (OwnP.setHi HOwE.out (fun k hk => by have h6 : g2 = k := Option.some.inj hk; omega) 0 (.int .i64 pts)) (fun k hk => by have h6 : g2 = k := Option.some.inj hk; omega) 1 (.slice A 6 c)) (fun k hk => by have h6 : g2 = k := Option.some.inj hk; omega) 2 (.slice (some ⟨g2, 0, none⟩) (m + 1) d2)) (by omega)⟩, (((HCwE.out.setHi (q := wC.heap.size) (by omega) (fun k hk => by have := HCL.out k hk; omega) 0 (.int .i64 pts)).setHi (q := wC.heap.size) (by omega) (fun k hk => by have := HCL.out k hk; omega) 1 (.slice A 6 c)).setHi (q := wC.heap.size) (by omega) (fun k hk => by have := HCL.out k hk; omega) 2 (.slice (some ⟨g2, 0, none⟩) (m + 1) d2))⟩, (((HMwE.out.setNew (P := wC.heap.size) (by omega) hR 0 _).setNew (P := wC.heap.size) (by omega) hR 1 _).setNew (P := wC.heap.size) (by omega) hR 2 _).mono (by omega)⟩
                      · have bBd : Below wB.heap.size wB (wB.alloc (.cells #[.int .i64 0, .slice none 0 0, .slice none 0 0] 66)) := (Below.refl wB.heap.size wB).alloc (Nat.le_refl _) (.cells #[.int .i64 0, .slice none 0 0, .slice none 0 0] 66)
                        go_simp
                        refine hK.out _ _ ?_ (fun hHeld => ?_)
                        · exact (((HCwB.out.below bBd))).S
                        clear hK K
                        try simp only [Act.put, List.getElem_toArray, List.getElem_cons_succ, List.getElem_cons_zero, List.setIfInBounds_toArray, List.set_cons_zero, List.set_cons_succ]
                        refine wpAnyH_ready (rs := [12]) (by kernel_rfl) (by simp) ?_
                        refine AllReadyH.cons (o := _) rfl (fun K hK => ?_) (AllReadyH.nil)
                        go_simp
                        go_at_call 51; with_reducible refine kPick (pick_any R _ pts _ (Mv.rdD ((HMwB.out.below bBd))) (by omega)) ?_
                        intro y wC hq1 hq2 hm hs
                        obtain ⟨hy0, hy1⟩ := hq1 (by omega)
                        have HCwC := Lib.hid (DlAt.mv ((HCwB.out.below bBd)) hm)
                        have HMwC := Lib.hid (Mv.trans ((HMwB.out.below bBd)) hm)
                        have HOwC := Lib.hid (own_mv (own_below HOwB.out bBd) (by omega) hm)
                        have hsC : B1 ≤ wC.heap.size := by have := hs; (try simp at this); omega
                        have HQwC := Lib.hid (show Blk wC (wB.heap.size) 66 #[.int .i64 0, .slice none 0 0, .slice none 0 0] from (hm.1.block (wB.heap.size) ((Blk.new_at (w := wB) (q := wB.heap.size) rfl 66 #[.int .i64 0, .slice none 0 0, .slice none 0 0])).lt (fun e => by cases e; omega)).trans (Blk.new_at (w := wB) (q := wB.heap.size) rfl 66 #[.int .i64 0, .slice none 0 0, .slice none 0 0]))
                        have hqC : ∀ k, (Value.slice C1 m d1).ownBlock = some k → k ≠ wB.heap.size := fun k hk e => by have := (HOwB.out.lt k hk).2; omega
                        have hqB : B1 ≤ wB.heap.size := by omega
                        clear hq1 hq2 hm hs
                        go_wp2_with fail
                        refine hK.out _ _ ?_ (fun hHeld => ?_)
                        · exact ((HCwC.out)).S
                        clear hK K
                        try simp only [Act.put, List.getElem_toArray, List.getElem_cons_succ, List.getElem_cons_zero, List.setIfInBounds_toArray, List.set_cons_zero, List.set_cons_succ]
                        refine wpAnyH_ready (rs := [16]) (by kernel_rfl) (by simp) ?_
                        refine AllReadyH.cons (o := _) rfl (fun K hK => ?_) (AllReadyH.nil)
                        go_simp
                        go_at_call 51; with_reducible refine kPick (pick_any R _ 6 _ (Mv.rdD (HMwC.out)) (by omega)) ?_
                        intro z wD hq1 hq2 hm hs
                        obtain ⟨hz0, hz1⟩ := hq1 (by omega)
                        have HCwD := Lib.hid (DlAt.mv (HCwC.out) hm)
                        have HMwD := Lib.hid (Mv.trans (HMwC.out) hm)
                        have HOwD := Lib.hid (own_mv HOwC.out (by omega) hm)
                        have hsD : B1 ≤ wD.heap.size := by have := hs; (try simp at this); omega
                        have HQwD := Lib.hid (show Blk wD (wB.heap.size) 66 #[.int .i64 0, .slice none 0 0, .slice none 0 0] from (hm.1.block (wB.heap.size) (HQwC.out).lt (fun e => by cases e; omega)).trans HQwC.out)
                        clear hq1 hq2 hm hs
                        go_wp2_with fail
                        refine hK.out _ _ ?_ (fun hHeld => ?_)
                        · exact ((HCwD.out)).S
                        clear hK K
                        try simp only [Act.put, List.getElem_toArray, List.getElem_cons_succ, List.getElem_cons_zero, List.setIfInBounds_toArray, List.set_cons_zero, List.set_cons_succ]
                        refine wpAnyH_take (i := 17) (oi := _) (v := ?_) rfl (by kernel_rfl) (by kernel_rfl) (by kernel_rfl) (fun _ _ _ h => h) (Or.inl ⟨by kernel_rfl, ?_⟩) (by assumption) ?_
                        rotate_left
                        · (intro w hSw; (try dsimp only at hSw); go_simp; (try with_reducible rfl))
                        try simp only [Act.put, List.getElem_toArray, List.getElem_cons_succ, List.getElem_cons_zero, List.setIfInBounds_toArray, List.set_cons_zero, List.set_cons_succ]
                        refine wpAnyH_take (i := 18) (oi := _) (v := ?_) rfl (by kernel_rfl) (by kernel_rfl) (by kernel_rfl) (fun _ _ _ h => h) (Or.inl ⟨by kernel_rfl, ?_⟩) (by assumption) ?_
                        rotate_left
                        · (intro w hSw; (try dsimp only at hSw); go_simp; (try with_reducible rfl))
                        try simp only [Act.put, List.getElem_toArray, List.getElem_cons_succ, List.getElem_cons_zero, List.setIfInBounds_toArray, List.set_cons_zero, List.set_cons_succ]
                        refine wpAnyH_ready (rs := [19]) (by kernel_rfl) (by simp) ?_
                        refine AllReadyH.cons (o := _) rfl (fun K hK => ?_) (AllReadyH.nil)
                        have bDp : Below wD.heap.size wD (wD.alloc (.cells #[.int .i64 x, .int .i64 y, .int .i64 lo, .int .i64 (IntKind.i64.wrap (lo + z))] 105)) := (Below.refl wD.heap.size wD).alloc (Nat.le_refl _) (.cells #[.int .i64 x, .int .i64 y, .int .i64 lo, .int .i64 (IntKind.i64.wrap (lo + z))] 105)
                        go_simp
                        refine hK.out _ _ ?_ (fun hHeld => ?_)
                        · exact (((HCwD.out.below bDp))).S
                        clear hK K
                        try simp only [Act.put, List.getElem_toArray, List.getElem_cons_succ, List.getElem_cons_zero, List.setIfInBounds_toArray, List.set_cons_zero, List.set_cons_succ]
                        refine wpAnyH_ready (rs := [20]) (by kernel_rfl) (by simp) ?_
                        refine AllReadyH.cons (o := _) rfl (fun K hK => ?_) (AllReadyH.nil)
                        have hqC2 := hqC
                        refine step_app rowPr (by rfl) _ _ (by rfl) B1 _ m (v4 xs) (by rfl) (own_below HOwD.out bDp) ⟨wD.heap.size, 0, none⟩ 1 1 (v4 [(x, y, lo, IntKind.i64.wrap (lo + z))]) (by rfl) rfl (cell4 (w := wD) (q := wD.heap.size) rfl (x, y, lo, IntKind.i64.wrap (lo + z)) 105) (v4_one _) (by decide) (by omega) (show B1 ≤ (wD.alloc (.cells #[.int .i64 x, .int .i64 y, .int .i64 lo, .int .i64 (IntKind.i64.wrap (lo + z))] 105)).heap.size from by first | omega | (simp <;> omega)) ?_
                        intro g2 d2 wE hown2 hgrow2 hat2 hlt2
                        have HCwE := Lib.hid (DlAt.kept ((HCwD.out.below bDp)) hgrow2 (fun r hr => .inr ⟨by have := (HOwD.out.lt r hr).1; omega, fun e => by have := (HOwD.out.lt r hr).1; have := HCL.out r e; omega⟩))
                        have HMwE := Lib.hid (Mv.grown ((HMwD.out.below bDp)) hgrow2 (fun r hr => by have := (HOwD.out.lt r hr).1; omega) hR)
                        have HOwE := Lib.hid (show OwnP wE B1 (some ⟨g2, 0, none⟩) (m + 1) d2 (xs ++ [(x, y, lo, IntKind.i64.wrap (lo + z))]) from by show World.ownsRow _ _ _ _ _ _ (v4 _); rw [v4_append]; exact hown2)
                        have HQwE := Lib.hid (show Blk wE (wB.heap.size) 66 #[.int .i64 0, .slice none 0 0, .slice none 0 0] from (hgrow2.block (wB.heap.size) ((HQwD.out.below bDp HQwD.out.lt)).lt (fun e => hqC2 _ e.symm rfl)).trans (HQwD.out.below bDp HQwD.out.lt))
                        have hqE : g2 ≠ wB.heap.size := by
                          rcases hat2 with h5 | h5
                          · exact hqC2 _ h5
                          · have := ((HQwD.out.below bDp HQwD.out.lt)).lt; (try simp at h5 this); omega
                        have hqB2 : B1 ≤ wB.heap.size := by omega
                        clear hown2 hgrow2 hat2 hlt2
                        refine hK.out _ _ ?_ (fun hHeld => ?_)
                        · exact ((HCwE.out)).S
                        clear hK K
                        try simp only [Act.put, List.getElem_toArray, List.getElem_cons_succ, List.getElem_cons_zero, List.setIfInBounds_toArray, List.set_cons_zero, List.set_cons_succ]
                        refine wpAnyH_take (i := 21) (oi := _) (v := ?_) rfl (by kernel_rfl) (by kernel_rfl) (by kernel_rfl) (fun _ _ _ h => h) (Or.inl ⟨by kernel_rfl, ?_⟩) (by assumption) ?_
                        rotate_left
                        · (intro w hSw; (try dsimp only at hSw); go_simp; (try with_reducible rfl))
                        try simp only [Act.put, List.getElem_toArray, List.getElem_cons_succ, List.getElem_cons_zero, List.setIfInBounds_toArray, List.set_cons_zero, List.set_cons_succ]
                        refine wpAnyH_ready (rs := [23]) (by kernel_rfl) (by simp) ?_
                        refine AllReadyH.cons (o := _) rfl (fun K hK => ?_) (AllReadyH.nil)
                        have t0 := (HQwE.out.cell 0).trans rfl
                        have t1 := (HQwE.out.cell 1).trans rfl
                        have t2 := (HQwE.out.cell 2).trans rfl
                        have u0 := HQwE.out.frozen 0
                        have u1 := HQwE.out.frozen 1
                        have u2 := HQwE.out.frozen 2
                        have hql := HQwE.out.lt
                        go_simp
                        refine hK.out _ _ ?_ (fun hHeld => ?_)
                        · exact ((((HCwE.out.setHi (q := wB.heap.size) (by omega) (fun k hk => by have := HCL.out k hk; omega) 0 (.int .i64 pts)).setHi (q := wB.heap.size) (by omega) (fun k hk => by have := HCL.out k hk; omega) 1 (.slice A 6 c)).setHi (q := wB.heap.size) (by omega) (fun k hk => by have := HCL.out k hk; omega) 2 (.slice (some ⟨g2, 0, none⟩) (m + 1) d2))).S
                        clear hK K
                        try simp only [Act.put, List.getElem_toArray, List.getElem_cons_succ, List.getElem_cons_zero, List.setIfInBounds_toArray, List.set_cons_zero, List.set_cons_succ]
                        refine wpAnyH_done (by kernel_rfl) ?_ _
                        go_wp2_with fail
                        go_meet
                        exact ⟨_, some ⟨g2, 0, none⟩, d2, rfl, ⟨by omega, (((HQwE.out.set_ 0 (.int .i64 pts)).set_ 1 (.slice A 6 c)).set_ 2 (.slice (some ⟨g2, 0, none⟩) (m + 1) d2)), ⟨_, own_base (OwnP.setHi (OwnP.setHi (OwnP.setHi HOwE.out (fun k hk => by have h6 : g2 = k := Option.some.inj hk; omega) 0 (.int .i64 pts)) (fun k hk => by have h6 : g2 = k := Option.some.inj hk; omega) 1 (.slice A 6 c)) (fun k hk => by have h6 : g2 = k := Option.some.inj hk; omega) 2 (.slice (some ⟨g2, 0, none⟩) (m + 1) d2)) (by omega)⟩, (((HCwE.out.setHi (q := wB.heap.size) (by omega) (fun k hk => by have := HCL.out k hk; omega) 0 (.int .i64 pts)).setHi (q := wB.heap.size) (by omega) (fun k hk => by have := HCL.out k hk; omega) 1 (.slice A 6 c)).setHi (q := wB.heap.size) (by omega) (fun k hk => by have := HCL.out k hk; omega) 2 (.slice (some ⟨g2, 0, none⟩) (m + 1) d2))⟩, (((HMwE.out.setNew (P := wB.heap.size) (by omega) hR 0 _).setNew (P := wB.heap.size) (by omega) hR 1 _).setNew (P := wB.heap.size) (by omega) hR 2 _).mono (by omega)⟩
                    · have bAd : Below wA.heap.size wA (wA.alloc (.cells #[.int .i64 0, .slice none 0 0, .slice none 0 0] 66)) := (Below.refl wA.heap.size wA).alloc (Nat.le_refl _) (.cells #[.int .i64 0, .slice none 0 0, .slice none 0 0] 66)
                      go_simp
                      refine hK.out _ _ ?_ (fun hHeld => ?_)
                      · exact (((HCwA.out.below bAd))).S
                      clear hK K
                      try simp only [Act.put, List.getElem_toArray, List.getElem_cons_succ, List.getElem_cons_zero, List.setIfInBounds_toArray, List.set_cons_zero, List.set_cons_succ]
                      refine wpAnyH_ready (rs := [8]) (by kernel_rfl) (by simp) ?_
                      refine AllReadyH.cons (o := _) rfl (fun K hK => ?_) (AllReadyH.nil)
                      go_simp
                      go_at_call 51; with_reducible refine kPick (pick_any R _ pts _ (Mv.rdD ((HMwA.out.below bAd))) (by omega)) ?_
                      intro x wB hq1 hq2 hm hs
                      obtain ⟨hx0, hx1⟩ := hq1 (by omega)
                      have HCwB := Lib.hid (DlAt.mv ((HCwA.out.below bAd)) hm)
                      have HMwB := Lib.hid (Mv.trans ((HMwA.out.below bAd)) hm)
                      have HOwB := Lib.hid (own_mv (own_below HOwA.out bAd) (by omega) hm)
                      have hsB : B1 ≤ wB.heap.size := by have := hs; (try simp at this); omega
                      have HQwB := Lib.hid (show Blk wB (wA.heap.size) 66 #[.int .i64 0, .slice none 0 0, .slice none 0 0] from (hm.1.block (wA.heap.size) ((Blk.new_at (w := wA) (q := wA.heap.size) rfl 66 #[.int .i64 0, .slice none 0 0, .slice none 0 0])).lt (fun e => by cases e; omega)).trans (Blk.new_at (w := wA) (q := wA.heap.size) rfl 66 #[.int .i64 0, .slice none 0 0, .slice none 0 0]))
                      have hqC : ∀ k, (Value.slice C1 m d1).ownBlock = some k → k ≠ wA.heap.size := fun k hk e => by have := (HOwA.out.lt k hk).2; omega
                      have hqB : B1 ≤ wA.heap.size := by omega
                      clear hq1 hq2 hm hs
                      go_wp2_with fail
                      refine hK.out _ _ ?_ (fun hHeld => ?_)
                      · exact ((HCwB.out)).S
                      clear hK K
                      try simp only [Act.put, List.getElem_toArray, List.getElem_cons_succ, List.getElem_cons_zero, List.setIfInBounds_toArray, List.set_cons_zero, List.set_cons_succ]
                      refine wpAnyH_ready (rs := [12]) (by kernel_rfl) (by simp) ?_
                      refine AllReadyH.cons (o := _) rfl (fun K hK => ?_) (AllReadyH.nil)
                      go_simp
                      go_at_call 51; with_reducible refine kPick (pick_any R _ pts _ (Mv.rdD (HMwB.out)) (by omega)) ?_
                      intro y wC hq1 hq2 hm hs
                      obtain ⟨hy0, hy1⟩ := hq1 (by omega)
                      have HCwC := Lib.hid (DlAt.mv (HCwB.out) hm)
                      have HMwC := Lib.hid (Mv.trans (HMwB.out) hm)
                      have HOwC := Lib.hid (own_mv HOwB.out (by omega) hm)
                      have hsC : B1 ≤ wC.heap.size := by have := hs; (try simp at this); omega
                      have HQwC := Lib.hid (show Blk wC (wA.heap.size) 66 #[.int .i64 0, .slice none 0 0, .slice none 0 0] from (hm.1.block (wA.heap.size) (HQwB.out).lt (fun e => by cases e; omega)).trans HQwB.out)
                      clear hq1 hq2 hm hs
                      go_wp2_with fail
                      refine hK.out _ _ ?_ (fun hHeld => ?_)
                      · exact ((HCwC.out)).S
                      clear hK K
                      try simp only [Act.put, List.getElem_toArray, List.getElem_cons_succ, List.getElem_cons_zero, List.setIfInBounds_toArray, List.set_cons_zero, List.set_cons_succ]
                      refine wpAnyH_ready (rs := [16]) (by kernel_rfl) (by simp) ?_
                      refine AllReadyH.cons (o := _) rfl (fun K hK => ?_) (AllReadyH.nil)
                      go_simp
                      go_at_call 51; with_reducible refine kPick (pick_any R _ 6 _ (Mv.rdD (HMwC.out)) (by omega)) ?_
                      intro z wD hq1 hq2 hm hs
                      obtain ⟨hz0, hz1⟩ := hq1 (by omega)
                      have HCwD := Lib.hid (DlAt.mv (HCwC.out) hm)
                      have HMwD := Lib.hid (Mv.trans (HMwC.out) hm)
                      have HOwD := Lib.hid (own_mv HOwC.out (by omega) hm)
                      have hsD : B1 ≤ wD.heap.size := by have := hs; (try simp at this); omega
                      have HQwD := Lib.hid (show Blk wD (wA.heap.size) 66 #[.int .i64 0, .slice none 0 0, .slice none 0 0] from (hm.1.block (wA.heap.size) (HQwC.out).lt (fun e => by cases e; omega)).trans HQwC.out)
                      clear hq1 hq2 hm hs
                      go_wp2_with fail
                      refine hK.out _ _ ?_ (fun hHeld => ?_)
                      · exact ((HCwD.out)).S
                      clear hK K
                      try simp only [Act.put, List.getElem_toArray, List.getElem_cons_succ, List.getElem_cons_zero, List.setIfInBounds_toArray, List.set_cons_zero, List.set_cons_succ]
                      refine wpAnyH_take (i := 17) (oi := _) (v := ?_) rfl (by kernel_rfl) (by kernel_rfl) (by kernel_rfl) (fun _ _ _ h => h) (Or.inl ⟨by kernel_rfl, ?_⟩) (by assumption) ?_
                      rotate_left
                      · (intro w hSw; (try dsimp only at hSw); go_simp; (try with_reducible rfl))
                      try simp only [Act.put, List.getElem_toArray, List.getElem_cons_succ, List.getElem_cons_zero, List.setIfInBounds_toArray, List.set_cons_zero, List.set_cons_succ]
                      refine wpAnyH_take (i := 18) (oi := _) (v := ?_) rfl (by kernel_rfl) (by kernel_rfl) (by kernel_rfl) (fun _ _ _ h => h) (Or.inl ⟨by kernel_rfl, ?_⟩) (by assumption) ?_
                      rotate_left
                      · (intro w hSw; (try dsimp only at hSw); go_simp; (try with_reducible rfl))
                      try simp only [Act.put, List.getElem_toArray, List.getElem_cons_succ, List.getElem_cons_zero, List.setIfInBounds_toArray, List.set_cons_zero, List.set_cons_succ]
                      refine wpAnyH_ready (rs := [19]) (by kernel_rfl) (by simp) ?_
                      refine AllReadyH.cons (o := _) rfl (fun K hK => ?_) (AllReadyH.nil)
                      have bDp : Below wD.heap.size wD (wD.alloc (.cells #[.int .i64 x, .int .i64 y, .int .i64 lo, .int .i64 (IntKind.i64.wrap (lo + z))] 105)) := (Below.refl wD.heap.size wD).alloc (Nat.le_refl _) (.cells #[.int .i64 x, .int .i64 y, .int .i64 lo, .int .i64 (IntKind.i64.wrap (lo + z))] 105)
                      go_simp
                      refine hK.out _ _ ?_ (fun hHeld => ?_)
                      · exact (((HCwD.out.below bDp))).S
                      clear hK K
                      try simp only [Act.put, List.getElem_toArray, List.getElem_cons_succ, List.getElem_cons_zero, List.setIfInBounds_toArray, List.set_cons_zero, List.set_cons_succ]
                      refine wpAnyH_ready (rs := [20]) (by kernel_rfl) (by simp) ?_
                      refine AllReadyH.cons (o := _) rfl (fun K hK => ?_) (AllReadyH.nil)
                      have hqC2 := hqC
                      refine step_app rowPr (by rfl) _ _ (by rfl) B1 _ m (v4 xs) (by rfl) (own_below HOwD.out bDp) ⟨wD.heap.size, 0, none⟩ 1 1 (v4 [(x, y, lo, IntKind.i64.wrap (lo + z))]) (by rfl) rfl (cell4 (w := wD) (q := wD.heap.size) rfl (x, y, lo, IntKind.i64.wrap (lo + z)) 105) (v4_one _) (by decide) (by omega) (show B1 ≤ (wD.alloc (.cells #[.int .i64 x, .int .i64 y, .int .i64 lo, .int .i64 (IntKind.i64.wrap (lo + z))] 105)).heap.size from by first | omega | (simp <;> omega)) ?_
                      intro g2 d2 wE hown2 hgrow2 hat2 hlt2
                      have HCwE := Lib.hid (DlAt.kept ((HCwD.out.below bDp)) hgrow2 (fun r hr => .inr ⟨by have := (HOwD.out.lt r hr).1; omega, fun e => by have := (HOwD.out.lt r hr).1; have := HCL.out r e; omega⟩))
                      have HMwE := Lib.hid (Mv.grown ((HMwD.out.below bDp)) hgrow2 (fun r hr => by have := (HOwD.out.lt r hr).1; omega) hR)
                      have HOwE := Lib.hid (show OwnP wE B1 (some ⟨g2, 0, none⟩) (m + 1) d2 (xs ++ [(x, y, lo, IntKind.i64.wrap (lo + z))]) from by show World.ownsRow _ _ _ _ _ _ (v4 _); rw [v4_append]; exact hown2)
                      have HQwE := Lib.hid (show Blk wE (wA.heap.size) 66 #[.int .i64 0, .slice none 0 0, .slice none 0 0] from (hgrow2.block (wA.heap.size) ((HQwD.out.below bDp HQwD.out.lt)).lt (fun e => hqC2 _ e.symm rfl)).trans (HQwD.out.below bDp HQwD.out.lt))
                      have hqE : g2 ≠ wA.heap.size := by
                        rcases hat2 with h5 | h5
                        · exact hqC2 _ h5
                        · have := ((HQwD.out.below bDp HQwD.out.lt)).lt; (try simp at h5 this); omega
                      have hqB2 : B1 ≤ wA.heap.size := by omega
                      clear hown2 hgrow2 hat2 hlt2
                      refine hK.out _ _ ?_ (fun hHeld => ?_)
                      · exact ((HCwE.out)).S
                      clear hK K
                      try simp only [Act.put, List.getElem_toArray, List.getElem_cons_succ, List.getElem_cons_zero, List.setIfInBounds_toArray, List.set_cons_zero, List.set_cons_succ]
                      refine wpAnyH_take (i := 21) (oi := _) (v := ?_) rfl (by kernel_rfl) (by kernel_rfl) (by kernel_rfl) (fun _ _ _ h => h) (Or.inl ⟨by kernel_rfl, ?_⟩) (by assumption) ?_
                      rotate_left
                      · (intro w hSw; (try dsimp only at hSw); go_simp; (try with_reducible rfl))
                      try simp only [Act.put, List.getElem_toArray, List.getElem_cons_succ, List.getElem_cons_zero, List.setIfInBounds_toArray, List.set_cons_zero, List.set_cons_succ]
                      refine wpAnyH_ready (rs := [23]) (by kernel_rfl) (by simp) ?_
                      refine AllReadyH.cons (o := _) rfl (fun K hK => ?_) (AllReadyH.nil)
                      have t0 := (HQwE.out.cell 0).trans rfl
                      have t1 := (HQwE.out.cell 1).trans rfl
                      have t2 := (HQwE.out.cell 2).trans rfl
                      have u0 := HQwE.out.frozen 0
                      have u1 := HQwE.out.frozen 1
                      have u2 := HQwE.out.frozen 2
                      have hql := HQwE.out.lt
                      go_simp
                      refine hK.out _ _ ?_ (fun hHeld => ?_)
                      · exact ((((HCwE.out.setHi (q := wA.heap.size) (by omega) (fun k hk => by have := HCL.out k hk; omega) 0 (.int .i64 pts)).setHi (q := wA.heap.size) (by omega) (fun k hk => by have := HCL.out k hk; omega) 1 (.slice A 6 c)).setHi (q := wA.heap.size) (by omega) (fun k hk => by have := HCL.out k hk; omega) 2 (.slice (some ⟨g2, 0, none⟩) (m + 1) d2))).S
                      clear hK K
                      try simp only [Act.put, List.getElem_toArray, List.getElem_cons_succ, List.getElem_cons_zero, List.setIfInBounds_toArray, List.set_cons_zero, List.set_cons_succ]
                      refine wpAnyH_done (by kernel_rfl) ?_ _
                      go_wp2_with fail
                      go_meet
                      exact ⟨_, some ⟨g2, 0, none⟩, d2, rfl, ⟨by omega, (((HQwE.out.set_ 0 (.int .i64 pts)).set_ 1 (.slice A 6 c)).set_ 2 (.slice (some ⟨g2, 0, none⟩) (m + 1) d2)), ⟨_, own_base (OwnP.setHi (OwnP.setHi (OwnP.setHi HOwE.out (fun k hk => by have h6 : g2 = k := Option.some.inj hk; omega) 0 (.int .i64 pts)) (fun k hk => by have h6 : g2 = k := Option.some.inj hk; omega) 1 (.slice A 6 c)) (fun k hk => by have h6 : g2 = k := Option.some.inj hk; omega) 2 (.slice (some ⟨g2, 0, none⟩) (m + 1) d2)) (by omega)⟩, (((HCwE.out.setHi (q := wA.heap.size) (by omega) (fun k hk => by have := HCL.out k hk; omega) 0 (.int .i64 pts)).setHi (q := wA.heap.size) (by omega) (fun k hk => by have := HCL.out k hk; omega) 1 (.slice A 6 c)).setHi (q := wA.heap.size) (by omega) (fun k hk => by have := HCL.out k hk; omega) 2 (.slice (some ⟨g2, 0, none⟩) (m + 1) d2))⟩, (((HMwE.out.setNew (P := wA.heap.size) (by omega) hR 0 _).setNew (P := wA.heap.size) (by omega) hR 1 _).setNew (P := wA.heap.size) (by omega) hR 2 _).mono (by omega)⟩
                  · have bLed : Below wL.heap.size wL ((wL.alloc (.cells #[] 105)).alloc (.cells #[.int .i64 0, .slice none 0 0, .slice none 0 0] 66)) := ((Below.refl wL.heap.size wL).alloc (Nat.le_refl _) (.cells #[] 105)).alloc (by simp) (.cells #[.int .i64 0, .slice none 0 0, .slice none 0 0] 66)
                    go_simp
                    refine hK.out _ _ ?_ (fun hHeld => ?_)
                    · exact ((DlAt.drewD ((HCwL.out.below bLed)))).S
                    clear hK K
                    try simp only [Act.put, List.getElem_toArray, List.getElem_cons_succ, List.getElem_cons_zero, List.setIfInBounds_toArray, List.set_cons_zero, List.set_cons_succ]
                    refine wpAnyH_ready (rs := [4]) (by kernel_rfl) (by simp) ?_
                    refine AllReadyH.cons (o := _) rfl (fun K hK => ?_) (AllReadyH.nil)
                    have hbW := bLed
                    refine step_appX rowPr (by rfl) _ _ (by rfl) B1 _ 0 [] (by rfl) (show World.ownsRow ((wL.alloc (.cells #[] 105)).alloc (.cells #[.int .i64 0, .slice none 0 0, .slice none 0 0] 66)).drew B1 105 4 (.slice (some ⟨wL.heap.size, 0, none⟩) 0 0) 0 [] from own_drewN (own_below (own_lit_atB (w := wL) (q := wL.heap.size) rfl B1 105 4 #[] 0 (by first | omega | (simp <;> omega)) (by decide) rfl) ((Below.refl _ _).alloc (Nat.le_refl _) (.cells #[.int .i64 0, .slice none 0 0, .slice none 0 0] 66))) 1) C m d (v4 xs) (by rfl) HNA.out (by rw [v4_len, HLX.out]) (fun ad e => OwnP.news (show OwnP ((wL.alloc (.cells #[] 105)).alloc (.cells #[.int .i64 0, .slice none 0 0, .slice none 0 0] 66)).drew (D + 1) C m d xs from own_drewN (own_below HXX.out hbW) 1) e) (v4_one _) m (Nat.zero_add _) (v4 xs) (List.nil_append _) (by omega) (show B1 ≤ ((wL.alloc (.cells #[] 105)).alloc (.cells #[.int .i64 0, .slice none 0 0, .slice none 0 0] 66)).heap.size from by first | omega | (simp <;> omega)) ?_
                    intro C1 d1 wA hown1 hgrow1 hat1
                    have hrow1 : ∀ r, (Value.slice (some ⟨wL.heap.size, 0, none⟩) 0 0).ownBlock = some r → B1 ≤ r := fun r hr => by have h5 : wL.heap.size = r := Option.some.inj hr; omega
                    have HCwA := Lib.hid (DlAt.kept (DlAt.drewD ((HCwL.out.below bLed))) hgrow1 (fun r hr => .inr ⟨by have := hrow1 r hr; omega, fun e => by have := hrow1 r hr; have := HCL.out r e; omega⟩))
                    have HMwA := Lib.hid (Mv.grown (Mv.drewD ((HMwL.out.below bLed))) hgrow1 (fun r hr => by have := hrow1 r hr; omega) hR)
                    have HOwA := Lib.hid hown1
                    have HQwA := Lib.hid (show Blk wA (wL.heap.size + 1) 66 #[.int .i64 0, .slice none 0 0, .slice none 0 0] from (hgrow1.block (wL.heap.size + 1) (show wL.heap.size + 1 < ((wL.alloc (.cells #[] 105)).alloc (.cells #[.int .i64 0, .slice none 0 0, .slice none 0 0] 66)).heap.size from by first | omega | (simp <;> omega)) (by intro h5; have h6 : wL.heap.size + 1 = wL.heap.size := Option.some.inj h5; omega)).trans (show Blk ((wL.alloc (.cells #[] 105)).alloc (.cells #[.int .i64 0, .slice none 0 0, .slice none 0 0] 66)) (wL.heap.size + 1) _ _ from (Blk.new_at (w := (wL.alloc (.cells #[] 105))) (q := wL.heap.size + 1) (by simp) 66 #[.int .i64 0, .slice none 0 0, .slice none 0 0])))
                    have hqC : ∀ k, (Value.slice C1 m d1).ownBlock = some k → k ≠ wL.heap.size + 1 := fun k hk e => by
                      rcases hat1 with h5 | h5
                      · have h6 : k = wL.heap.size := Option.some.inj (hk.symm.trans h5); omega
                      · have h6 : k = ((wL.alloc (.cells #[] 105)).alloc (.cells #[.int .i64 0, .slice none 0 0, .slice none 0 0] 66)).heap.size := Option.some.inj (hk.symm.trans h5); simp at h6 <;> omega
                    have hqB : B1 ≤ wL.heap.size + 1 := by omega
                    have hsA : B1 ≤ wA.heap.size := by have := HCwA.out.blk.lt; have := hgrow1.size; (try simp at this); omega
                    clear hown1 hgrow1 hat1 hrow1 hbW
                    refine hK.out _ _ ?_ (fun hHeld => ?_)
                    · exact ((HCwA.out)).S
                    clear hK K
                    try simp only [Act.put, List.getElem_toArray, List.getElem_cons_succ, List.getElem_cons_zero, List.setIfInBounds_toArray, List.set_cons_zero, List.set_cons_succ]
                    refine wpAnyH_ready (rs := [8]) (by kernel_rfl) (by simp) ?_
                    refine AllReadyH.cons (o := _) rfl (fun K hK => ?_) (AllReadyH.nil)
                    go_simp
                    go_at_call 51; with_reducible refine kPick (pick_any R _ pts _ (Mv.rdD (HMwA.out)) (by omega)) ?_
                    intro x wB hq1 hq2 hm hs
                    obtain ⟨hx0, hx1⟩ := hq1 (by omega)
                    have HCwB := Lib.hid (DlAt.mv (HCwA.out) hm)
                    have HMwB := Lib.hid (Mv.trans (HMwA.out) hm)
                    have HOwB := Lib.hid (own_mv HOwA.out (by omega) hm)
                    have hsB : B1 ≤ wB.heap.size := by have := hs; (try simp at this); omega
                    have HQwB := Lib.hid (show Blk wB (wL.heap.size + 1) 66 #[.int .i64 0, .slice none 0 0, .slice none 0 0] from (hm.1.block (wL.heap.size + 1) (HQwA.out).lt (fun e => by cases e; omega)).trans HQwA.out)
                    clear hq1 hq2 hm hs
                    go_wp2_with fail
                    refine hK.out _ _ ?_ (fun hHeld => ?_)
                    · exact ((HCwB.out)).S
                    clear hK K
                    try simp only [Act.put, List.getElem_toArray, List.getElem_cons_succ, List.getElem_cons_zero, List.setIfInBounds_toArray, List.set_cons_zero, List.set_cons_succ]
                    refine wpAnyH_ready (rs := [12]) (by kernel_rfl) (by simp) ?_
                    refine AllReadyH.cons (o := _) rfl (fun K hK => ?_) (AllReadyH.nil)
                    go_simp
                    go_at_call 51; with_reducible refine kPick (pick_any R _ pts _ (Mv.rdD (HMwB.out)) (by omega)) ?_
                    intro y wC hq1 hq2 hm hs
                    obtain ⟨hy0, hy1⟩ := hq1 (by omega)
                    have HCwC := Lib.hid (DlAt.mv (HCwB.out) hm)
                    have HMwC := Lib.hid (Mv.trans (HMwB.out) hm)
                    have HOwC := Lib.hid (own_mv HOwB.out (by omega) hm)
                    have hsC : B1 ≤ wC.heap.size := by have := hs; (try simp at this); omega
                    have HQwC := Lib.hid (show Blk wC (wL.heap.size + 1) 66 #[.int .i64 0, .slice none 0 0, .slice none 0 0] from (hm.1.block (wL.heap.size + 1) (HQwB.out).lt (fun e => by cases e; omega)).trans HQwB.out)
                    clear hq1 hq2 hm hs
                    go_wp2_with fail
                    refine hK.out _ _ ?_ (fun hHeld => ?_)
                    · exact ((HCwC.out)).S
                    clear hK K
                    try simp only [Act.put, List.getElem_toArray, List.getElem_cons_succ, List.getElem_cons_zero, List.setIfInBounds_toArray, List.set_cons_zero, List.set_cons_succ]
                    refine wpAnyH_ready (rs := [16]) (by kernel_rfl) (by simp) ?_
                    refine AllReadyH.cons (o := _) rfl (fun K hK => ?_) (AllReadyH.nil)
                    go_simp
                    go_at_call 51; with_reducible refine kPick (pick_any R _ 6 _ (Mv.rdD (HMwC.out)) (by omega)) ?_
                    intro z wD hq1 hq2 hm hs
                    obtain ⟨hz0, hz1⟩ := hq1 (by omega)
                    have HCwD := Lib.hid (DlAt.mv (HCwC.out) hm)
                    have HMwD := Lib.hid (Mv.trans (HMwC.out) hm)
                    have HOwD := Lib.hid (own_mv HOwC.out (by omega) hm)
                    have hsD : B1 ≤ wD.heap.size := by have := hs; (try simp at this); omega
                    have HQwD := Lib.hid (show Blk wD (wL.heap.size + 1) 66 #[.int .i64 0, .slice none 0 0, .slice none 0 0] from (hm.1.block (wL.heap.size + 1) (HQwC.out).lt (fun e => by cases e; omega)).trans HQwC.out)
                    clear hq1 hq2 hm hs
                    go_wp2_with fail
                    refine hK.out _ _ ?_ (fun hHeld => ?_)
                    · exact ((HCwD.out)).S
                    clear hK K
                    try simp only [Act.put, List.getElem_toArray, List.getElem_cons_succ, List.getElem_cons_zero, List.setIfInBounds_toArray, List.set_cons_zero, List.set_cons_succ]
                    refine wpAnyH_take (i := 17) (oi := _) (v := ?_) rfl (by kernel_rfl) (by kernel_rfl) (by kernel_rfl) (fun _ _ _ h => h) (Or.inl ⟨by kernel_rfl, ?_⟩) (by assumption) ?_
                    rotate_left
                    · (intro w hSw; (try dsimp only at hSw); go_simp; (try with_reducible rfl))
                    try simp only [Act.put, List.getElem_toArray, List.getElem_cons_succ, List.getElem_cons_zero, List.setIfInBounds_toArray, List.set_cons_zero, List.set_cons_succ]
                    refine wpAnyH_take (i := 18) (oi := _) (v := ?_) rfl (by kernel_rfl) (by kernel_rfl) (by kernel_rfl) (fun _ _ _ h => h) (Or.inl ⟨by kernel_rfl, ?_⟩) (by assumption) ?_
                    rotate_left
                    · (intro w hSw; (try dsimp only at hSw); go_simp; (try with_reducible rfl))
                    try simp only [Act.put, List.getElem_toArray, List.getElem_cons_succ, List.getElem_cons_zero, List.setIfInBounds_toArray, List.set_cons_zero, List.set_cons_succ]
                    refine wpAnyH_ready (rs := [19]) (by kernel_rfl) (by simp) ?_
                    refine AllReadyH.cons (o := _) rfl (fun K hK => ?_) (AllReadyH.nil)
                    have bDp : Below wD.heap.size wD (wD.alloc (.cells #[.int .i64 x, .int .i64 y, .int .i64 lo, .int .i64 (IntKind.i64.wrap (lo + z))] 105)) := (Below.refl wD.heap.size wD).alloc (Nat.le_refl _) (.cells #[.int .i64 x, .int .i64 y, .int .i64 lo, .int .i64 (IntKind.i64.wrap (lo + z))] 105)
                    go_simp
                    refine hK.out _ _ ?_ (fun hHeld => ?_)
                    · exact (((HCwD.out.below bDp))).S
                    clear hK K
                    try simp only [Act.put, List.getElem_toArray, List.getElem_cons_succ, List.getElem_cons_zero, List.setIfInBounds_toArray, List.set_cons_zero, List.set_cons_succ]
                    refine wpAnyH_ready (rs := [20]) (by kernel_rfl) (by simp) ?_
                    refine AllReadyH.cons (o := _) rfl (fun K hK => ?_) (AllReadyH.nil)
                    have hqC2 := hqC
                    refine step_app rowPr (by rfl) _ _ (by rfl) B1 _ m (v4 xs) (by rfl) (own_below HOwD.out bDp) ⟨wD.heap.size, 0, none⟩ 1 1 (v4 [(x, y, lo, IntKind.i64.wrap (lo + z))]) (by rfl) rfl (cell4 (w := wD) (q := wD.heap.size) rfl (x, y, lo, IntKind.i64.wrap (lo + z)) 105) (v4_one _) (by decide) (by omega) (show B1 ≤ (wD.alloc (.cells #[.int .i64 x, .int .i64 y, .int .i64 lo, .int .i64 (IntKind.i64.wrap (lo + z))] 105)).heap.size from by first | omega | (simp <;> omega)) ?_
                    intro g2 d2 wE hown2 hgrow2 hat2 hlt2
                    have HCwE := Lib.hid (DlAt.kept ((HCwD.out.below bDp)) hgrow2 (fun r hr => .inr ⟨by have := (HOwD.out.lt r hr).1; omega, fun e => by have := (HOwD.out.lt r hr).1; have := HCL.out r e; omega⟩))
                    have HMwE := Lib.hid (Mv.grown ((HMwD.out.below bDp)) hgrow2 (fun r hr => by have := (HOwD.out.lt r hr).1; omega) hR)
                    have HOwE := Lib.hid (show OwnP wE B1 (some ⟨g2, 0, none⟩) (m + 1) d2 (xs ++ [(x, y, lo, IntKind.i64.wrap (lo + z))]) from by show World.ownsRow _ _ _ _ _ _ (v4 _); rw [v4_append]; exact hown2)
                    have HQwE := Lib.hid (show Blk wE (wL.heap.size + 1) 66 #[.int .i64 0, .slice none 0 0, .slice none 0 0] from (hgrow2.block (wL.heap.size + 1) ((HQwD.out.below bDp HQwD.out.lt)).lt (fun e => hqC2 _ e.symm rfl)).trans (HQwD.out.below bDp HQwD.out.lt))
                    have hqE : g2 ≠ wL.heap.size + 1 := by
                      rcases hat2 with h5 | h5
                      · exact hqC2 _ h5
                      · have := ((HQwD.out.below bDp HQwD.out.lt)).lt; (try simp at h5 this); omega
                    have hqB2 : B1 ≤ wL.heap.size + 1 := by omega
                    clear hown2 hgrow2 hat2 hlt2
                    refine hK.out _ _ ?_ (fun hHeld => ?_)
                    · exact ((HCwE.out)).S
                    clear hK K
                    try simp only [Act.put, List.getElem_toArray, List.getElem_cons_succ, List.getElem_cons_zero, List.setIfInBounds_toArray, List.set_cons_zero, List.set_cons_succ]
                    refine wpAnyH_take (i := 21) (oi := _) (v := ?_) rfl (by kernel_rfl) (by kernel_rfl) (by kernel_rfl) (fun _ _ _ h => h) (Or.inl ⟨by kernel_rfl, ?_⟩) (by assumption) ?_
                    rotate_left
                    · (intro w hSw; (try dsimp only at hSw); go_simp; (try with_reducible rfl))
                    try simp only [Act.put, List.getElem_toArray, List.getElem_cons_succ, List.getElem_cons_zero, List.setIfInBounds_toArray, List.set_cons_zero, List.set_cons_succ]
                    refine wpAnyH_ready (rs := [23]) (by kernel_rfl) (by simp) ?_
                    refine AllReadyH.cons (o := _) rfl (fun K hK => ?_) (AllReadyH.nil)
                    have t0 := (HQwE.out.cell 0).trans rfl
                    have t1 := (HQwE.out.cell 1).trans rfl
                    have t2 := (HQwE.out.cell 2).trans rfl
                    have u0 := HQwE.out.frozen 0
                    have u1 := HQwE.out.frozen 1
                    have u2 := HQwE.out.frozen 2
                    have hql := HQwE.out.lt
                    go_simp
                    refine hK.out _ _ ?_ (fun hHeld => ?_)
                    · exact ((((HCwE.out.setHi (q := wL.heap.size + 1) (by omega) (fun k hk => by have := HCL.out k hk; omega) 0 (.int .i64 pts)).setHi (q := wL.heap.size + 1) (by omega) (fun k hk => by have := HCL.out k hk; omega) 1 (.slice A 6 c)).setHi (q := wL.heap.size + 1) (by omega) (fun k hk => by have := HCL.out k hk; omega) 2 (.slice (some ⟨g2, 0, none⟩) (m + 1) d2))).S
                    clear hK K
                    try simp only [Act.put, List.getElem_toArray, List.getElem_cons_succ, List.getElem_cons_zero, List.setIfInBounds_toArray, List.set_cons_zero, List.set_cons_succ]
                    refine wpAnyH_done (by kernel_rfl) ?_ _
                    go_wp2_with fail
                    go_meet
                    exact ⟨_, some ⟨g2, 0, none⟩, d2, rfl, ⟨by omega, (((HQwE.out.set_ 0 (.int .i64 pts)).set_ 1 (.slice A 6 c)).set_ 2 (.slice (some ⟨g2, 0, none⟩) (m + 1) d2)), ⟨_, own_base (OwnP.setHi (OwnP.setHi (OwnP.setHi HOwE.out (fun k hk => by have h6 : g2 = k := Option.some.inj hk; omega) 0 (.int .i64 pts)) (fun k hk => by have h6 : g2 = k := Option.some.inj hk; omega) 1 (.slice A 6 c)) (fun k hk => by have h6 : g2 = k := Option.some.inj hk; omega) 2 (.slice (some ⟨g2, 0, none⟩) (m + 1) d2)) (by omega)⟩, (((HCwE.out.setHi (q := wL.heap.size + 1) (by omega) (fun k hk => by have := HCL.out k hk; omega) 0 (.int .i64 pts)).setHi (q := wL.heap.size + 1) (by omega) (fun k hk => by have := HCL.out k hk; omega) 1 (.slice A 6 c)).setHi (q := wL.heap.size + 1) (by omega) (fun k hk => by have := HCL.out k hk; omega) 2 (.slice (some ⟨g2, 0, none⟩) (m + 1) d2))⟩, (((HMwE.out.setNew (P := wL.heap.size + 1) (by omega) hR 0 _).setNew (P := wL.heap.size + 1) (by omega) hR 1 _).setNew (P := wL.heap.size + 1) (by omega) hR 2 _).mono (by omega)⟩
                · have bLd : Below wL.heap.size wL (wL.alloc (.cells #[.int .i64 0, .slice none 0 0, .slice none 0 0] 66)) := (Below.refl wL.heap.size wL).alloc (Nat.le_refl _) (.cells #[.int .i64 0, .slice none 0 0, .slice none 0 0] 66)
                  go_simp
                  refine hK.out _ _ ?_ (fun hHeld => ?_)
                  · exact ((DlAt.drewD ((HCwL.out.below bLd)))).S
                  clear hK K
                  try simp only [Act.put, List.getElem_toArray, List.getElem_cons_succ, List.getElem_cons_zero, List.setIfInBounds_toArray, List.set_cons_zero, List.set_cons_succ]
                  refine wpAnyH_ready (rs := [1]) (by kernel_rfl) (by simp) ?_
                  refine AllReadyH.cons (o := _) rfl (fun K hK => ?_) (AllReadyH.nil)
                  have bLde : Below wL.heap.size wL ((wL.alloc (.cells #[.int .i64 0, .slice none 0 0, .slice none 0 0] 66)).alloc (.cells #[] 105)) := ((Below.refl wL.heap.size wL).alloc (Nat.le_refl _) (.cells #[.int .i64 0, .slice none 0 0, .slice none 0 0] 66)).alloc (by simp) (.cells #[] 105)
                  go_simp
                  refine hK.out _ _ ?_ (fun hHeld => ?_)
                  · exact ((DlAt.drewD ((HCwL.out.below bLde)))).S
                  clear hK K
                  try simp only [Act.put, List.getElem_toArray, List.getElem_cons_succ, List.getElem_cons_zero, List.setIfInBounds_toArray, List.set_cons_zero, List.set_cons_succ]
                  refine wpAnyH_ready (rs := [4]) (by kernel_rfl) (by simp) ?_
                  refine AllReadyH.cons (o := _) rfl (fun K hK => ?_) (AllReadyH.nil)
                  have hbW := bLde
                  refine step_appX rowPr (by rfl) _ _ (by rfl) B1 _ 0 [] (by rfl) (show World.ownsRow ((wL.alloc (.cells #[.int .i64 0, .slice none 0 0, .slice none 0 0] 66)).alloc (.cells #[] 105)).drew B1 105 4 (.slice (some ⟨wL.heap.size + 1, 0, none⟩) 0 0) 0 [] from own_drewN (own_lit_atB (w := (wL.alloc (.cells #[.int .i64 0, .slice none 0 0, .slice none 0 0] 66))) (q := wL.heap.size + 1) (by simp) B1 105 4 #[] 0 (by first | omega | (simp <;> omega)) (by decide) rfl) 1) C m d (v4 xs) (by rfl) HNA.out (by rw [v4_len, HLX.out]) (fun ad e => OwnP.news (show OwnP ((wL.alloc (.cells #[.int .i64 0, .slice none 0 0, .slice none 0 0] 66)).alloc (.cells #[] 105)).drew (D + 1) C m d xs from own_drewN (own_below HXX.out hbW) 1) e) (v4_one _) m (Nat.zero_add _) (v4 xs) (List.nil_append _) (by omega) (show B1 ≤ ((wL.alloc (.cells #[.int .i64 0, .slice none 0 0, .slice none 0 0] 66)).alloc (.cells #[] 105)).heap.size from by first | omega | (simp <;> omega)) ?_
                  intro C1 d1 wA hown1 hgrow1 hat1
                  have hrow1 : ∀ r, (Value.slice (some ⟨wL.heap.size + 1, 0, none⟩) 0 0).ownBlock = some r → B1 ≤ r := fun r hr => by have h5 : wL.heap.size + 1 = r := Option.some.inj hr; omega
                  have HCwA := Lib.hid (DlAt.kept (DlAt.drewD ((HCwL.out.below bLde))) hgrow1 (fun r hr => .inr ⟨by have := hrow1 r hr; omega, fun e => by have := hrow1 r hr; have := HCL.out r e; omega⟩))
                  have HMwA := Lib.hid (Mv.grown (Mv.drewD ((HMwL.out.below bLde))) hgrow1 (fun r hr => by have := hrow1 r hr; omega) hR)
                  have HOwA := Lib.hid hown1
                  have HQwA := Lib.hid (show Blk wA (wL.heap.size) 66 #[.int .i64 0, .slice none 0 0, .slice none 0 0] from (hgrow1.block (wL.heap.size) (show wL.heap.size < ((wL.alloc (.cells #[.int .i64 0, .slice none 0 0, .slice none 0 0] 66)).alloc (.cells #[] 105)).heap.size from by first | omega | (simp <;> omega)) (by intro h5; have h6 : wL.heap.size = wL.heap.size + 1 := Option.some.inj h5; omega)).trans (show Blk ((wL.alloc (.cells #[.int .i64 0, .slice none 0 0, .slice none 0 0] 66)).alloc (.cells #[] 105)) (wL.heap.size) _ _ from ((Blk.new_at (w := wL) (q := wL.heap.size) rfl 66 #[.int .i64 0, .slice none 0 0, .slice none 0 0]).below ((Below.refl _ _).alloc (Nat.le_refl _) (.cells #[] 105)) (Blk.new_at (w := wL) (q := wL.heap.size) rfl 66 #[.int .i64 0, .slice none 0 0, .slice none 0 0]).lt)))
                  have hqC : ∀ k, (Value.slice C1 m d1).ownBlock = some k → k ≠ wL.heap.size := fun k hk e => by
                    rcases hat1 with h5 | h5
                    · have h6 : k = wL.heap.size + 1 := Option.some.inj (hk.symm.trans h5); omega
                    · have h6 : k = ((wL.alloc (.cells #[.int .i64 0, .slice none 0 0, .slice none 0 0] 66)).alloc (.cells #[] 105)).heap.size := Option.some.inj (hk.symm.trans h5); simp at h6 <;> omega
                  have hqB : B1 ≤ wL.heap.size := by omega
                  have hsA : B1 ≤ wA.heap.size := by have := HCwA.out.blk.lt; have := hgrow1.size; (try simp at this); omega
                  clear hown1 hgrow1 hat1 hrow1 hbW
                  refine hK.out _ _ ?_ (fun hHeld => ?_)
                  · exact ((HCwA.out)).S
                  clear hK K
                  try simp only [Act.put, List.getElem_toArray, List.getElem_cons_succ, List.getElem_cons_zero, List.setIfInBounds_toArray, List.set_cons_zero, List.set_cons_succ]
                  refine wpAnyH_ready (rs := [8]) (by kernel_rfl) (by simp) ?_
                  refine AllReadyH.cons (o := _) rfl (fun K hK => ?_) (AllReadyH.nil)
                  go_simp
                  go_at_call 51; with_reducible refine kPick (pick_any R _ pts _ (Mv.rdD (HMwA.out)) (by omega)) ?_
                  intro x wB hq1 hq2 hm hs
                  obtain ⟨hx0, hx1⟩ := hq1 (by omega)
                  have HCwB := Lib.hid (DlAt.mv (HCwA.out) hm)
                  have HMwB := Lib.hid (Mv.trans (HMwA.out) hm)
                  have HOwB := Lib.hid (own_mv HOwA.out (by omega) hm)
                  have hsB : B1 ≤ wB.heap.size := by have := hs; (try simp at this); omega
                  have HQwB := Lib.hid (show Blk wB (wL.heap.size) 66 #[.int .i64 0, .slice none 0 0, .slice none 0 0] from (hm.1.block (wL.heap.size) (HQwA.out).lt (fun e => by cases e; omega)).trans HQwA.out)
                  clear hq1 hq2 hm hs
                  go_wp2_with fail
                  refine hK.out _ _ ?_ (fun hHeld => ?_)
                  · exact ((HCwB.out)).S
                  clear hK K
                  try simp only [Act.put, List.getElem_toArray, List.getElem_cons_succ, List.getElem_cons_zero, List.setIfInBounds_toArray, List.set_cons_zero, List.set_cons_succ]
                  refine wpAnyH_ready (rs := [12]) (by kernel_rfl) (by simp) ?_
                  refine AllReadyH.cons (o := _) rfl (fun K hK => ?_) (AllReadyH.nil)
                  go_simp
                  go_at_call 51; with_reducible refine kPick (pick_any R _ pts _ (Mv.rdD (HMwB.out)) (by omega)) ?_
                  intro y wC hq1 hq2 hm hs
                  obtain ⟨hy0, hy1⟩ := hq1 (by omega)
                  have HCwC := Lib.hid (DlAt.mv (HCwB.out) hm)
                  have HMwC := Lib.hid (Mv.trans (HMwB.out) hm)
                  have HOwC := Lib.hid (own_mv HOwB.out (by omega) hm)
                  have hsC : B1 ≤ wC.heap.size := by have := hs; (try simp at this); omega
                  have HQwC := Lib.hid (show Blk wC (wL.heap.size) 66 #[.int .i64 0, .slice none 0 0, .slice none 0 0] from (hm.1.block (wL.heap.size) (HQwB.out).lt (fun e => by cases e; omega)).trans HQwB.out)
                  clear hq1 hq2 hm hs
                  go_wp2_with fail
                  refine hK.out _ _ ?_ (fun hHeld => ?_)
                  · exact ((HCwC.out)).S
                  clear hK K
                  try simp only [Act.put, List.getElem_toArray, List.getElem_cons_succ, List.getElem_cons_zero, List.setIfInBounds_toArray, List.set_cons_zero, List.set_cons_succ]
                  refine wpAnyH_ready (rs := [16]) (by kernel_rfl) (by simp) ?_
                  refine AllReadyH.cons (o := _) rfl (fun K hK => ?_) (AllReadyH.nil)
                  go_simp
                  go_at_call 51; with_reducible refine kPick (pick_any R _ 6 _ (Mv.rdD (HMwC.out)) (by omega)) ?_
                  intro z wD hq1 hq2 hm hs
                  obtain ⟨hz0, hz1⟩ := hq1 (by omega)
                  have HCwD := Lib.hid (DlAt.mv (HCwC.out) hm)
                  have HMwD := Lib.hid (Mv.trans (HMwC.out) hm)
                  have HOwD := Lib.hid (own_mv HOwC.out (by omega) hm)
                  have hsD : B1 ≤ wD.heap.size := by have := hs; (try simp at this); omega
                  have HQwD := Lib.hid (show Blk wD (wL.heap.size) 66 #[.int .i64 0, .slice none 0 0, .slice none 0 0] from (hm.1.block (wL.heap.size) (HQwC.out).lt (fun e => by cases e; omega)).trans HQwC.out)
                  clear hq1 hq2 hm hs
                  go_wp2_with fail
                  refine hK.out _ _ ?_ (fun hHeld => ?_)
                  · exact ((HCwD.out)).S
                  clear hK K
                  try simp only [Act.put, List.getElem_toArray, List.getElem_cons_succ, List.getElem_cons_zero, List.setIfInBounds_toArray, List.set_cons_zero, List.set_cons_succ]
                  refine wpAnyH_take (i := 17) (oi := _) (v := ?_) rfl (by kernel_rfl) (by kernel_rfl) (by kernel_rfl) (fun _ _ _ h => h) (Or.inl ⟨by kernel_rfl, ?_⟩) (by assumption) ?_
                  rotate_left
                  · (intro w hSw; (try dsimp only at hSw); go_simp; (try with_reducible rfl))
                  try simp only [Act.put, List.getElem_toArray, List.getElem_cons_succ, List.getElem_cons_zero, List.setIfInBounds_toArray, List.set_cons_zero, List.set_cons_succ]
                  refine wpAnyH_take (i := 18) (oi := _) (v := ?_) rfl (by kernel_rfl) (by kernel_rfl) (by kernel_rfl) (fun _ _ _ h => h) (Or.inl ⟨by kernel_rfl, ?_⟩) (by assumption) ?_
                  rotate_left
                  · (intro w hSw; (try dsimp only at hSw); go_simp; (try with_reducible rfl))
                  try simp only [Act.put, List.getElem_toArray, List.getElem_cons_succ, List.getElem_cons_zero, List.setIfInBounds_toArray, List.set_cons_zero, List.set_cons_succ]
                  refine wpAnyH_ready (rs := [19]) (by kernel_rfl) (by simp) ?_
                  refine AllReadyH.cons (o := _) rfl (fun K hK => ?_) (AllReadyH.nil)
                  have bDp : Below wD.heap.size wD (wD.alloc (.cells #[.int .i64 x, .int .i64 y, .int .i64 lo, .int .i64 (IntKind.i64.wrap (lo + z))] 105)) := (Below.refl wD.heap.size wD).alloc (Nat.le_refl _) (.cells #[.int .i64 x, .int .i64 y, .int .i64 lo, .int .i64 (IntKind.i64.wrap (lo + z))] 105)
                  go_simp
                  refine hK.out _ _ ?_ (fun hHeld => ?_)
                  · exact (((HCwD.out.below bDp))).S
                  clear hK K
                  try simp only [Act.put, List.getElem_toArray, List.getElem_cons_succ, List.getElem_cons_zero, List.setIfInBounds_toArray, List.set_cons_zero, List.set_cons_succ]
                  refine wpAnyH_ready (rs := [20]) (by kernel_rfl) (by simp) ?_
                  refine AllReadyH.cons (o := _) rfl (fun K hK => ?_) (AllReadyH.nil)
                  have hqC2 := hqC
                  refine step_app rowPr (by rfl) _ _ (by rfl) B1 _ m (v4 xs) (by rfl) (own_below HOwD.out bDp) ⟨wD.heap.size, 0, none⟩ 1 1 (v4 [(x, y, lo, IntKind.i64.wrap (lo + z))]) (by rfl) rfl (cell4 (w := wD) (q := wD.heap.size) rfl (x, y, lo, IntKind.i64.wrap (lo + z)) 105) (v4_one _) (by decide) (by omega) (show B1 ≤ (wD.alloc (.cells #[.int .i64 x, .int .i64 y, .int .i64 lo, .int .i64 (IntKind.i64.wrap (lo + z))] 105)).heap.size from by first | omega | (simp <;> omega)) ?_
                  intro g2 d2 wE hown2 hgrow2 hat2 hlt2
                  have HCwE := Lib.hid (DlAt.kept ((HCwD.out.below bDp)) hgrow2 (fun r hr => .inr ⟨by have := (HOwD.out.lt r hr).1; omega, fun e => by have := (HOwD.out.lt r hr).1; have := HCL.out r e; omega⟩))
                  have HMwE := Lib.hid (Mv.grown ((HMwD.out.below bDp)) hgrow2 (fun r hr => by have := (HOwD.out.lt r hr).1; omega) hR)
                  have HOwE := Lib.hid (show OwnP wE B1 (some ⟨g2, 0, none⟩) (m + 1) d2 (xs ++ [(x, y, lo, IntKind.i64.wrap (lo + z))]) from by show World.ownsRow _ _ _ _ _ _ (v4 _); rw [v4_append]; exact hown2)
                  have HQwE := Lib.hid (show Blk wE (wL.heap.size) 66 #[.int .i64 0, .slice none 0 0, .slice none 0 0] from (hgrow2.block (wL.heap.size) ((HQwD.out.below bDp HQwD.out.lt)).lt (fun e => hqC2 _ e.symm rfl)).trans (HQwD.out.below bDp HQwD.out.lt))
                  have hqE : g2 ≠ wL.heap.size := by
                    rcases hat2 with h5 | h5
                    · exact hqC2 _ h5
                    · have := ((HQwD.out.below bDp HQwD.out.lt)).lt; (try simp at h5 this); omega
                  have hqB2 : B1 ≤ wL.heap.size := by omega
                  clear hown2 hgrow2 hat2 hlt2
                  refine hK.out _ _ ?_ (fun hHeld => ?_)
                  · exact ((HCwE.out)).S
                  clear hK K
                  try simp only [Act.put, List.getElem_toArray, List.getElem_cons_succ, List.getElem_cons_zero, List.setIfInBounds_toArray, List.set_cons_zero, List.set_cons_succ]
                  refine wpAnyH_take (i := 21) (oi := _) (v := ?_) rfl (by kernel_rfl) (by kernel_rfl) (by kernel_rfl) (fun _ _ _ h => h) (Or.inl ⟨by kernel_rfl, ?_⟩) (by assumption) ?_
                  rotate_left
                  · (intro w hSw; (try dsimp only at hSw); go_simp; (try with_reducible rfl))
                  try simp only [Act.put, List.getElem_toArray, List.getElem_cons_succ, List.getElem_cons_zero, List.setIfInBounds_toArray, List.set_cons_zero, List.set_cons_succ]
                  refine wpAnyH_ready (rs := [23]) (by kernel_rfl) (by simp) ?_
                  refine AllReadyH.cons (o := _) rfl (fun K hK => ?_) (AllReadyH.nil)
                  have t0 := (HQwE.out.cell 0).trans rfl
                  have t1 := (HQwE.out.cell 1).trans rfl
                  have t2 := (HQwE.out.cell 2).trans rfl
                  have u0 := HQwE.out.frozen 0
                  have u1 := HQwE.out.frozen 1
                  have u2 := HQwE.out.frozen 2
                  have hql := HQwE.out.lt
                  go_simp
                  refine hK.out _ _ ?_ (fun hHeld => ?_)
                  · exact ((((HCwE.out.setHi (q := wL.heap.size) (by omega) (fun k hk => by have := HCL.out k hk; omega) 0 (.int .i64 pts)).setHi (q := wL.heap.size) (by omega) (fun k hk => by have := HCL.out k hk; omega) 1 (.slice A 6 c)).setHi (q := wL.heap.size) (by omega) (fun k hk => by have := HCL.out k hk; omega) 2 (.slice (some ⟨g2, 0, none⟩) (m + 1) d2))).S
                  clear hK K
                  try simp only [Act.put, List.getElem_toArray, List.getElem_cons_succ, List.getElem_cons_zero, List.setIfInBounds_toArray, List.set_cons_zero, List.set_cons_succ]
                  refine wpAnyH_done (by kernel_rfl) ?_ _
                  go_wp2_with fail
                  go_meet
                  exact ⟨_, some ⟨g2, 0, none⟩, d2, rfl, ⟨by omega, (((HQwE.out.set_ 0 (.int .i64 pts)).set_ 1 (.slice A 6 c)).set_ 2 (.slice (some ⟨g2, 0, none⟩) (m + 1) d2)), ⟨_, own_base (OwnP.setHi (OwnP.setHi (OwnP.setHi HOwE.out (fun k hk => by have h6 : g2 = k := Option.some.inj hk; omega) 0 (.int .i64 pts)) (fun k hk => by have h6 : g2 = k := Option.some.inj hk; omega) 1 (.slice A 6 c)) (fun k hk => by have h6 : g2 = k := Option.some.inj hk; omega) 2 (.slice (some ⟨g2, 0, none⟩) (m + 1) d2)) (by omega)⟩, (((HCwE.out.setHi (q := wL.heap.size) (by omega) (fun k hk => by have := HCL.out k hk; omega) 0 (.int .i64 pts)).setHi (q := wL.heap.size) (by omega) (fun k hk => by have := HCL.out k hk; omega) 1 (.slice A 6 c)).setHi (q := wL.heap.size) (by omega) (fun k hk => by have := HCL.out k hk; omega) 2 (.slice (some ⟨g2, 0, none⟩) (m + 1) d2))⟩, (((HMwE.out.setNew (P := wL.heap.size) (by omega) hR 0 _).setNew (P := wL.heap.size) (by omega) hR 1 _).setNew (P := wL.heap.size) (by omega) hR 2 _).mono (by omega)⟩
              case rest =>
                obtain ⟨q, C2, d2, rfl, ⟨hDq, hbq, ⟨xs2, hx2⟩, hd⟩, hm⟩ := hcut
                have HX2 := Lib.hid hx2
                have HCx := Lib.hid hd
                have HMx := Lib.hid hm
                have z0 := (hbq.cell 0).trans rfl
                have z1 := (hbq.cell 1).trans rfl
                have z2 := (hbq.cell 2).trans rfl
                obtain ⟨bs, hbs⟩ := hd.base
                have HBS := Lib.hid hbs
                clear hbq hx2 hd hm hbs s0 s1 s2
                go_wp2_with (fail)
                refine kB (sDealOk_any pts A 6 c bs C2 (m + 1) d2 xs2 _ HBS.out (OwnP.at_ HX2.out) (by omega) (by omega)) ?_ ?_
                · intro wF _ hbF
                  replace z0 := keep hbF z0
                  replace z1 := keep hbF z1
                  replace z2 := keep hbF z2
                  have HCF := Lib.hid (HCx.out.below hbF)
                  have HMF := Lib.hid (HMx.out.below hbF)
                  have HXF := Lib.hid (own_below HX2.out hbF)
                  obtain ⟨e0, e1, e2, e3, e4, f2, f3, f4⟩ := HCF.out.cells
                  clear hbF
                  go_wp2
                  go_roundw
                  case rel => exact ⟨k - 1, m + 1, d2, C2, by go_num, by omega, by omega, HCF.out.take HXF.out, (((HMF.out.setNew (P := D) (by omega) hR 0 _).setNew (P := D) (by omega) hR 1 _).setNew (P := D) (by omega) hR 2 _).mono (by omega)⟩
                  case measure => simp [intOf]; omega
                · intro wF _ hbF
                  go_wp2
                  go_roundw
                  case rel => exact ⟨k - 1, m, d, C, by go_num, by omega, by omega, HCx.out.below hbF, (HMx.out.below hbF).mono (by omega)⟩
                  case measure => simp [intOf]; omega
            · skip
              go_wp2_with (fail)
              refine (odd_any R _ N0 _ HM.out.2 (by omega) hN0).mono ?_
              rintro e wO ⟨b, rfl, hmO, hsO⟩
              have HCO := Lib.hid (HC.out.mv hmO)
              have HMO := Lib.hid (HM.out.trans hmO)
              have hDQ : ¬ D = w.heap.size := by omega
              have hQD : ¬ w.heap.size = D := by omega
              have hD2 : P < D := HCO.out.pd
              clear hmO hsO e0 e1 e2 e3 e4 f2 f3 f4
              cases b with
              | false =>
                obtain ⟨e0, e1, e2, e3, e4, f2, f3, f4⟩ := HCO.out.cells
                have q0 := (HCO.out.res.cell 0).trans rfl
                have q1 := (HCO.out.res.cell 1).trans rfl
                have q2 := (HCO.out.res.cell 2).trans rfl
                have qf0 := HCO.out.res.frozen 0
                have qf1 := HCO.out.res.frozen 1
                have qf2 := HCO.out.res.frozen 2
                obtain ⟨bs, hbs⟩ := HCO.out.base
                obtain ⟨xs, hxs⟩ := HCO.out.row
                have HBS := Lib.hid hbs
                have HXS := Lib.hid hxs
                have HPL := HCO.out.pl.lt
                have HFAR := Lib.hid HCO.out.far
                clear hbs hxs
                go_wp2_with (fail)
                obtain ⟨h1, h2, h3⟩ := dealFin HBS.out (fun a ha => by have := HFAR.out a ha; omega) HXS.out (by omega) HMO.out hR 0 1 2 (.int .i64 pts) (.slice A 6 c) (.slice C m d)
                exact bodyPost_ret (v := .agg #[.int .i64 pts, .slice A 6 c, .slice C m d]) (by simp [results, Try.results73, go_sem, q0, q1, q2]) rfl ⟨_, _, _, _, bs, _, _, _, xs, rfl, by omega, by omega, h1, h2, h3.mono (by omega)⟩
              | true =>
                go_wp2_with (fail)
                refine kPick (pick_any R _ 3 _ HMO.out.2 (by omega)) ?_
                intro y wP hq1 hq2 hmP hsP
                obtain ⟨hy0, hy1⟩ := hq1 (by omega)
                have HCP := Lib.hid (HCO.out.mv hmP)
                have HMP := Lib.hid (HMO.out.trans hmP)
                obtain ⟨e0, e1, e2, e3, e4, f2, f3, f4⟩ := HCP.out.cells
                have q0 := (HCP.out.res.cell 0).trans rfl
                have q1 := (HCP.out.res.cell 1).trans rfl
                have q2 := (HCP.out.res.cell 2).trans rfl
                have qf0 := HCP.out.res.frozen 0
                have qf1 := HCP.out.res.frozen 1
                have qf2 := HCP.out.res.frozen 2
                obtain ⟨bs, hbs⟩ := HCP.out.base
                have HBS := Lib.hid hbs
                have HFAR := Lib.hid HCP.out.far
                have hDp := HCP.out.blk.lt
                clear hq1 hq2 hmP hsP hbs
                have hy : y = 0 ∨ y = 1 ∨ y = 2 := by omega
                rcases hy with rfl | rfl | rfl
                · obtain ⟨xs, hxs⟩ := HCP.out.row
                  have HXS := Lib.hid hxs
                  clear hxs
                  go_wp2_with (fail)
                  obtain ⟨h1, h2, h3⟩ := dealFin (w0 := w) (w := (wP.setCell ⟨D, 0, none⟩ (.int .i64 0)).setCell ⟨D, 1, none⟩ (.slice none 0 0)) (A := none) (n := 0) (bs := []) ⟨rfl, fun h => absurd h (Nat.lt_irrefl 0)⟩ (fun a ha => by cases ha)
                    (OwnP.setHi (OwnP.setHi HXS.out (fun k hk e => by have := (HXS.out.lt k hk).1; omega) 0 _) (fun k hk e => by have := (HXS.out.lt k hk).1; omega) 1 _) (by omega) ((HMP.out.setNew (P := D) (by omega) hR 0 _).setNew (P := D) (by omega) hR 1 _) hR 0 1 2 (.int .i64 0) (.slice none 0 0) (.slice C m d)
                  exact bodyPost_ret (v := .agg #[.int .i64 0, .slice none 0 0, .slice C m d]) (by simp [results, Try.results73, go_sem, q0, q1, q2, hDQ, hQD]) rfl ⟨_, _, _, _, [], _, _, _, xs, rfl, by omega, by omega, h1, h2, h3.mono (by omega)⟩
                · obtain ⟨xs, hxx⟩ := HCP.out.row
                  have HXX := Lib.hid hxx
                  have hDr : ∀ r, (Value.slice C m d).ownBlock = some r → D + 1 ≤ r := fun r hr => (HXX.out.lt r hr).1
                  clear hxx
                  go_wp2_with (first
                    | (at_builtin; refine wpl_app rowPr rfl _ _ (by rfl) (D + 1) _ m (v4 xs) (by rfl) (HXX.out.alloc _) ⟨wP.heap.size, 0, none⟩ 1 1 (v4 [(0, 0, 0, 1)]) (by rfl) rfl (cell4 (by simp) (0, 0, 0, 1) _) (v4_one _) (by decide) (by omega) (by simp; omega) ?_
                       intro g' cap' wE hownE hgrow hat hltE
                       have HOE := Lib.hid hownE
                       have HGE := Lib.hid hgrow
                       clear hownE hgrow hat
                       have hbb : Below wP.heap.size wP (wP.alloc (.cells #[.int .i64 0, .int .i64 0, .int .i64 0, .int .i64 1] 105)) := (Below.refl _ _).alloc (Nat.le_refl _) _
                       have hDi2 : D < (wP.alloc (.cells #[.int .i64 0, .int .i64 0, .int .i64 0, .int .i64 1] 105)).heap.size := by simp; omega
                       have hQi2 : w.heap.size < (wP.alloc (.cells #[.int .i64 0, .int .i64 0, .int .i64 0, .int .i64 1] 105)).heap.size := by simp; omega
                       have hQo : w.heap.size < wP.heap.size := by omega
                       have ff := (HGE.out.frozen_far ⟨D, 2, none⟩ hDi2 (fun e => by have := hDr D e.symm; omega)).trans ((hbb.frozen (p := ⟨D, 2, none⟩) hDp).trans f4)
                       have ee0 := HGE.out.cell (a := ⟨D, 0, none⟩) (keep hbb e2) (fun e => by have := hDr D e.symm; omega)
                       have ee1 := HGE.out.cell (a := ⟨D, 1, none⟩) (keep hbb e3) (fun e => by have := hDr D e.symm; omega)
                       have ee2 := HGE.out.cell (a := ⟨D, 2, none⟩) (keep hbb e4) (fun e => by have := hDr D e.symm; omega)
                       have qq0 := HGE.out.cell (a := ⟨w.heap.size, 0, none⟩) (keep hbb q0) (fun e => by have := hDr w.heap.size e.symm; omega)
                       have qq1 := HGE.out.cell (a := ⟨w.heap.size, 1, none⟩) (keep hbb q1) (fun e => by have := hDr w.heap.size e.symm; omega)
                       have qq2 := HGE.out.cell (a := ⟨w.heap.size, 2, none⟩) (keep hbb q2) (fun e => by have := hDr w.heap.size e.symm; omega)
                       have qg0 := (HGE.out.frozen_far ⟨w.heap.size, 0, none⟩ hQi2 (fun e => by have := hDr w.heap.size e.symm; omega)).trans ((hbb.frozen (p := ⟨w.heap.size, 0, none⟩) hQo).trans qf0)
                       have qg1 := (HGE.out.frozen_far ⟨w.heap.size, 1, none⟩ hQi2 (fun e => by have := hDr w.heap.size e.symm; omega)).trans ((hbb.frozen (p := ⟨w.heap.size, 1, none⟩) hQo).trans qf1)
                       have qg2 := (HGE.out.frozen_far ⟨w.heap.size, 2, none⟩ hQi2 (fun e => by have := hDr w.heap.size e.symm; omega)).trans ((hbb.frozen (p := ⟨w.heap.size, 2, none⟩) hQo).trans qf2)))
                  obtain ⟨h1, h2, h3⟩ := dealFin (w0 := w) (w := wE.setCell ⟨D, 2, none⟩ (.slice (some ⟨g', 0, none⟩) (m + 1) cap')) (A := A) (n := 6) (C := some ⟨g', 0, none⟩) (m := m + 1) (d := cap') (xs := xs ++ [(0, 0, 0, 1)]) (base := D + 1) (bs := bs)
                    (((HBS.out.below hbb).keepB (fun a ha => HGE.out.block _ (by have := HFAR.out a ha; omega) (fun e => by have := HFAR.out a ha; have := hDr _ e.symm; omega))).setCell (q := ⟨D, 2, none⟩) (fun a ha => by have := HFAR.out a ha; show a.block ≠ D; omega) _)
                    (fun a ha => by have := HFAR.out a ha; have := HGE.out.size; simp [World.setCell]; omega)
                    (OwnP.setHi (show OwnP wE (D + 1) (some ⟨g', 0, none⟩) (m + 1) cap' (xs ++ [(0, 0, 0, 1)]) from by show World.ownsRow _ _ _ _ _ _ (v4 _); rw [v4_append]; exact HOE.out) (fun k hk e => by have := (HOE.out.lt k hk).1; omega) 2 _) (by omega)
                    (((HMP.out.below hbb).grown HGE.out (fun r hr => by have := hDr r hr; omega) hR).setNew (P := D) (by omega) hR 2 _) hR 0 1 2 (.int .i64 pts) (.slice A 6 c) (.slice (some ⟨g', 0, none⟩) (m + 1) cap')
                  exact bodyPost_ret (v := .agg #[.int .i64 pts, .slice A 6 c, .slice (some ⟨g', 0, none⟩) (m + 1) cap']) (by simp [results, Try.results73, go_sem, qq0, qq1, qq2, hDQ, hQD]) rfl ⟨_, _, _, _, bs, _, _, _, _, rfl, by omega, by omega, h1, h2, h3.mono (by omega)⟩
                · obtain ⟨xs, hxx⟩ := HCP.out.row
                  have HXX := Lib.hid hxx
                  have hDr : ∀ r, (Value.slice C m d).ownBlock = some r → D + 1 ≤ r := fun r hr => (HXX.out.lt r hr).1
                  clear hxx
                  go_wp2_with (first
                    | (at_builtin; refine wpl_app rowPr rfl _ _ (by rfl) (D + 1) _ m (v4 xs) (by rfl) (HXX.out.alloc _) ⟨wP.heap.size, 0, none⟩ 1 1 (v4 [(0, 1, 3, 2)]) (by rfl) rfl (cell4 (by simp) (0, 1, 3, 2) _) (v4_one _) (by decide) (by omega) (by simp; omega) ?_
                       intro g' cap' wE hownE hgrow hat hltE
                       have HOE := Lib.hid hownE
                       have HGE := Lib.hid hgrow
                       clear hownE hgrow hat
                       have hbb : Below wP.heap.size wP (wP.alloc (.cells #[.int .i64 0, .int .i64 1, .int .i64 3, .int .i64 2] 105)) := (Below.refl _ _).alloc (Nat.le_refl _) _
                       have hDi2 : D < (wP.alloc (.cells #[.int .i64 0, .int .i64 1, .int .i64 3, .int .i64 2] 105)).heap.size := by simp; omega
                       have hQi2 : w.heap.size < (wP.alloc (.cells #[.int .i64 0, .int .i64 1, .int .i64 3, .int .i64 2] 105)).heap.size := by simp; omega
                       have hQo : w.heap.size < wP.heap.size := by omega
                       have ff := (HGE.out.frozen_far ⟨D, 2, none⟩ hDi2 (fun e => by have := hDr D e.symm; omega)).trans ((hbb.frozen (p := ⟨D, 2, none⟩) hDp).trans f4)
                       have ee0 := HGE.out.cell (a := ⟨D, 0, none⟩) (keep hbb e2) (fun e => by have := hDr D e.symm; omega)
                       have ee1 := HGE.out.cell (a := ⟨D, 1, none⟩) (keep hbb e3) (fun e => by have := hDr D e.symm; omega)
                       have ee2 := HGE.out.cell (a := ⟨D, 2, none⟩) (keep hbb e4) (fun e => by have := hDr D e.symm; omega)
                       have qq0 := HGE.out.cell (a := ⟨w.heap.size, 0, none⟩) (keep hbb q0) (fun e => by have := hDr w.heap.size e.symm; omega)
                       have qq1 := HGE.out.cell (a := ⟨w.heap.size, 1, none⟩) (keep hbb q1) (fun e => by have := hDr w.heap.size e.symm; omega)
                       have qq2 := HGE.out.cell (a := ⟨w.heap.size, 2, none⟩) (keep hbb q2) (fun e => by have := hDr w.heap.size e.symm; omega)
                       have qg0 := (HGE.out.frozen_far ⟨w.heap.size, 0, none⟩ hQi2 (fun e => by have := hDr w.heap.size e.symm; omega)).trans ((hbb.frozen (p := ⟨w.heap.size, 0, none⟩) hQo).trans qf0)
                       have qg1 := (HGE.out.frozen_far ⟨w.heap.size, 1, none⟩ hQi2 (fun e => by have := hDr w.heap.size e.symm; omega)).trans ((hbb.frozen (p := ⟨w.heap.size, 1, none⟩) hQo).trans qf1)
                       have qg2 := (HGE.out.frozen_far ⟨w.heap.size, 2, none⟩ hQi2 (fun e => by have := hDr w.heap.size e.symm; omega)).trans ((hbb.frozen (p := ⟨w.heap.size, 2, none⟩) hQo).trans qf2)))
                  obtain ⟨h1, h2, h3⟩ := dealFin (w0 := w) (w := wE.setCell ⟨D, 2, none⟩ (.slice (some ⟨g', 0, none⟩) (m + 1) cap')) (A := A) (n := 6) (C := some ⟨g', 0, none⟩) (m := m + 1) (d := cap') (xs := xs ++ [(0, 1, 3, 2)]) (base := D + 1) (bs := bs)
                    (((HBS.out.below hbb).keepB (fun a ha => HGE.out.block _ (by have := HFAR.out a ha; omega) (fun e => by have := HFAR.out a ha; have := hDr _ e.symm; omega))).setCell (q := ⟨D, 2, none⟩) (fun a ha => by have := HFAR.out a ha; show a.block ≠ D; omega) _)
                    (fun a ha => by have := HFAR.out a ha; have := HGE.out.size; simp [World.setCell]; omega)
                    (OwnP.setHi (show OwnP wE (D + 1) (some ⟨g', 0, none⟩) (m + 1) cap' (xs ++ [(0, 1, 3, 2)]) from by show World.ownsRow _ _ _ _ _ _ (v4 _); rw [v4_append]; exact HOE.out) (fun k hk e => by have := (HOE.out.lt k hk).1; omega) 2 _) (by omega)
                    (((HMP.out.below hbb).grown HGE.out (fun r hr => by have := hDr r hr; omega) hR).setNew (P := D) (by omega) hR 2 _) hR 0 1 2 (.int .i64 pts) (.slice A 6 c) (.slice (some ⟨g', 0, none⟩) (m + 1) cap')
                  exact bodyPost_ret (v := .agg #[.int .i64 pts, .slice A 6 c, .slice (some ⟨g', 0, none⟩) (m + 1) cap']) (by simp [results, Try.results73, go_sem, qq0, qq1, qq2, hDQ, hQD]) rfl ⟨_, _, _, _, bs, _, _, _, _, rfl, by omega, by omega, h1, h2, h3.mono (by omega)⟩
          · skip
            go_wp2_with (fail)
            refine (odd_any R _ N0 _ HM.out.2 (by omega) hN0).mono ?_
            rintro e wO ⟨b, rfl, hmO, hsO⟩
            have HCO := Lib.hid (HC.out.mv hmO)
            have HMO := Lib.hid (HM.out.trans hmO)
            have hDQ : ¬ D = w.heap.size := by omega
            have hQD : ¬ w.heap.size = D := by omega
            have hD2 : P < D := HCO.out.pd
            clear hmO hsO e0 e1 e2 e3 e4 f2 f3 f4
            cases b with
            | false =>
              obtain ⟨e0, e1, e2, e3, e4, f2, f3, f4⟩ := HCO.out.cells
              have q0 := (HCO.out.res.cell 0).trans rfl
              have q1 := (HCO.out.res.cell 1).trans rfl
              have q2 := (HCO.out.res.cell 2).trans rfl
              have qf0 := HCO.out.res.frozen 0
              have qf1 := HCO.out.res.frozen 1
              have qf2 := HCO.out.res.frozen 2
              obtain ⟨bs, hbs⟩ := HCO.out.base
              obtain ⟨xs, hxs⟩ := HCO.out.row
              have HBS := Lib.hid hbs
              have HXS := Lib.hid hxs
              have HPL := HCO.out.pl.lt
              have HFAR := Lib.hid HCO.out.far
              clear hbs hxs
              go_wp2_with (fail)
              obtain ⟨h1, h2, h3⟩ := dealFin HBS.out (fun a ha => by have := HFAR.out a ha; omega) HXS.out (by omega) HMO.out hR 0 1 2 (.int .i64 pts) (.slice A 6 c) (.slice C m d)
              exact bodyPost_ret (v := .agg #[.int .i64 pts, .slice A 6 c, .slice C m d]) (by simp [results, Try.results73, go_sem, q0, q1, q2]) rfl ⟨_, _, _, _, bs, _, _, _, xs, rfl, by omega, by omega, h1, h2, h3.mono (by omega)⟩
            | true =>
              go_wp2_with (fail)
              refine kPick (pick_any R _ 3 _ HMO.out.2 (by omega)) ?_
              intro y wP hq1 hq2 hmP hsP
              obtain ⟨hy0, hy1⟩ := hq1 (by omega)
              have HCP := Lib.hid (HCO.out.mv hmP)
              have HMP := Lib.hid (HMO.out.trans hmP)
              obtain ⟨e0, e1, e2, e3, e4, f2, f3, f4⟩ := HCP.out.cells
              have q0 := (HCP.out.res.cell 0).trans rfl
              have q1 := (HCP.out.res.cell 1).trans rfl
              have q2 := (HCP.out.res.cell 2).trans rfl
              have qf0 := HCP.out.res.frozen 0
              have qf1 := HCP.out.res.frozen 1
              have qf2 := HCP.out.res.frozen 2
              obtain ⟨bs, hbs⟩ := HCP.out.base
              have HBS := Lib.hid hbs
              have HFAR := Lib.hid HCP.out.far
              have hDp := HCP.out.blk.lt
              clear hq1 hq2 hmP hsP hbs
              have hy : y = 0 ∨ y = 1 ∨ y = 2 := by omega
              rcases hy with rfl | rfl | rfl
              · obtain ⟨xs, hxs⟩ := HCP.out.row
                have HXS := Lib.hid hxs
                clear hxs
                go_wp2_with (fail)
                obtain ⟨h1, h2, h3⟩ := dealFin (w0 := w) (w := (wP.setCell ⟨D, 0, none⟩ (.int .i64 0)).setCell ⟨D, 1, none⟩ (.slice none 0 0)) (A := none) (n := 0) (bs := []) ⟨rfl, fun h => absurd h (Nat.lt_irrefl 0)⟩ (fun a ha => by cases ha)
                  (OwnP.setHi (OwnP.setHi HXS.out (fun k hk e => by have := (HXS.out.lt k hk).1; omega) 0 _) (fun k hk e => by have := (HXS.out.lt k hk).1; omega) 1 _) (by omega) ((HMP.out.setNew (P := D) (by omega) hR 0 _).setNew (P := D) (by omega) hR 1 _) hR 0 1 2 (.int .i64 0) (.slice none 0 0) (.slice C m d)
                exact bodyPost_ret (v := .agg #[.int .i64 0, .slice none 0 0, .slice C m d]) (by simp [results, Try.results73, go_sem, q0, q1, q2, hDQ, hQD]) rfl ⟨_, _, _, _, [], _, _, _, xs, rfl, by omega, by omega, h1, h2, h3.mono (by omega)⟩
              · obtain ⟨xs, hxx⟩ := HCP.out.row
                have HXX := Lib.hid hxx
                have hDr : ∀ r, (Value.slice C m d).ownBlock = some r → D + 1 ≤ r := fun r hr => (HXX.out.lt r hr).1
                clear hxx
                go_wp2_with (first
                  | (at_builtin; refine wpl_app rowPr rfl _ _ (by rfl) (D + 1) _ m (v4 xs) (by rfl) (HXX.out.alloc _) ⟨wP.heap.size, 0, none⟩ 1 1 (v4 [(0, 0, 0, 1)]) (by rfl) rfl (cell4 (by simp) (0, 0, 0, 1) _) (v4_one _) (by decide) (by omega) (by simp; omega) ?_
                     intro g' cap' wE hownE hgrow hat hltE
                     have HOE := Lib.hid hownE
                     have HGE := Lib.hid hgrow
                     clear hownE hgrow hat
                     have hbb : Below wP.heap.size wP (wP.alloc (.cells #[.int .i64 0, .int .i64 0, .int .i64 0, .int .i64 1] 105)) := (Below.refl _ _).alloc (Nat.le_refl _) _
                     have hDi2 : D < (wP.alloc (.cells #[.int .i64 0, .int .i64 0, .int .i64 0, .int .i64 1] 105)).heap.size := by simp; omega
                     have hQi2 : w.heap.size < (wP.alloc (.cells #[.int .i64 0, .int .i64 0, .int .i64 0, .int .i64 1] 105)).heap.size := by simp; omega
                     have hQo : w.heap.size < wP.heap.size := by omega
                     have ff := (HGE.out.frozen_far ⟨D, 2, none⟩ hDi2 (fun e => by have := hDr D e.symm; omega)).trans ((hbb.frozen (p := ⟨D, 2, none⟩) hDp).trans f4)
                     have ee0 := HGE.out.cell (a := ⟨D, 0, none⟩) (keep hbb e2) (fun e => by have := hDr D e.symm; omega)
                     have ee1 := HGE.out.cell (a := ⟨D, 1, none⟩) (keep hbb e3) (fun e => by have := hDr D e.symm; omega)
                     have ee2 := HGE.out.cell (a := ⟨D, 2, none⟩) (keep hbb e4) (fun e => by have := hDr D e.symm; omega)
                     have qq0 := HGE.out.cell (a := ⟨w.heap.size, 0, none⟩) (keep hbb q0) (fun e => by have := hDr w.heap.size e.symm; omega)
                     have qq1 := HGE.out.cell (a := ⟨w.heap.size, 1, none⟩) (keep hbb q1) (fun e => by have := hDr w.heap.size e.symm; omega)
                     have qq2 := HGE.out.cell (a := ⟨w.heap.size, 2, none⟩) (keep hbb q2) (fun e => by have := hDr w.heap.size e.symm; omega)
                     have qg0 := (HGE.out.frozen_far ⟨w.heap.size, 0, none⟩ hQi2 (fun e => by have := hDr w.heap.size e.symm; omega)).trans ((hbb.frozen (p := ⟨w.heap.size, 0, none⟩) hQo).trans qf0)
                     have qg1 := (HGE.out.frozen_far ⟨w.heap.size, 1, none⟩ hQi2 (fun e => by have := hDr w.heap.size e.symm; omega)).trans ((hbb.frozen (p := ⟨w.heap.size, 1, none⟩) hQo).trans qf1)
                     have qg2 := (HGE.out.frozen_far ⟨w.heap.size, 2, none⟩ hQi2 (fun e => by have := hDr w.heap.size e.symm; omega)).trans ((hbb.frozen (p := ⟨w.heap.size, 2, none⟩) hQo).trans qf2)))
                obtain ⟨h1, h2, h3⟩ := dealFin (w0 := w) (w := wE.setCell ⟨D, 2, none⟩ (.slice (some ⟨g', 0, none⟩) (m + 1) cap')) (A := A) (n := 6) (C := some ⟨g', 0, none⟩) (m := m + 1) (d := cap') (xs := xs ++ [(0, 0, 0, 1)]) (base := D + 1) (bs := bs)
                  (((HBS.out.below hbb).keepB (fun a ha => HGE.out.block _ (by have := HFAR.out a ha; omega) (fun e => by have := HFAR.out a ha; have := hDr _ e.symm; omega))).setCell (q := ⟨D, 2, none⟩) (fun a ha => by have := HFAR.out a ha; show a.block ≠ D; omega) _)
                  (fun a ha => by have := HFAR.out a ha; have := HGE.out.size; simp [World.setCell]; omega)
                  (OwnP.setHi (show OwnP wE (D + 1) (some ⟨g', 0, none⟩) (m + 1) cap' (xs ++ [(0, 0, 0, 1)]) from by show World.ownsRow _ _ _ _ _ _ (v4 _); rw [v4_append]; exact HOE.out) (fun k hk e => by have := (HOE.out.lt k hk).1; omega) 2 _) (by omega)
                  (((HMP.out.below hbb).grown HGE.out (fun r hr => by have := hDr r hr; omega) hR).setNew (P := D) (by omega) hR 2 _) hR 0 1 2 (.int .i64 pts) (.slice A 6 c) (.slice (some ⟨g', 0, none⟩) (m + 1) cap')
                exact bodyPost_ret (v := .agg #[.int .i64 pts, .slice A 6 c, .slice (some ⟨g', 0, none⟩) (m + 1) cap']) (by simp [results, Try.results73, go_sem, qq0, qq1, qq2, hDQ, hQD]) rfl ⟨_, _, _, _, bs, _, _, _, _, rfl, by omega, by omega, h1, h2, h3.mono (by omega)⟩
              · obtain ⟨xs, hxx⟩ := HCP.out.row
                have HXX := Lib.hid hxx
                have hDr : ∀ r, (Value.slice C m d).ownBlock = some r → D + 1 ≤ r := fun r hr => (HXX.out.lt r hr).1
                clear hxx
                go_wp2_with (first
                  | (at_builtin; refine wpl_app rowPr rfl _ _ (by rfl) (D + 1) _ m (v4 xs) (by rfl) (HXX.out.alloc _) ⟨wP.heap.size, 0, none⟩ 1 1 (v4 [(0, 1, 3, 2)]) (by rfl) rfl (cell4 (by simp) (0, 1, 3, 2) _) (v4_one _) (by decide) (by omega) (by simp; omega) ?_
                     intro g' cap' wE hownE hgrow hat hltE
                     have HOE := Lib.hid hownE
                     have HGE := Lib.hid hgrow
                     clear hownE hgrow hat
                     have hbb : Below wP.heap.size wP (wP.alloc (.cells #[.int .i64 0, .int .i64 1, .int .i64 3, .int .i64 2] 105)) := (Below.refl _ _).alloc (Nat.le_refl _) _
                     have hDi2 : D < (wP.alloc (.cells #[.int .i64 0, .int .i64 1, .int .i64 3, .int .i64 2] 105)).heap.size := by simp; omega
                     have hQi2 : w.heap.size < (wP.alloc (.cells #[.int .i64 0, .int .i64 1, .int .i64 3, .int .i64 2] 105)).heap.size := by simp; omega
                     have hQo : w.heap.size < wP.heap.size := by omega
                     have ff := (HGE.out.frozen_far ⟨D, 2, none⟩ hDi2 (fun e => by have := hDr D e.symm; omega)).trans ((hbb.frozen (p := ⟨D, 2, none⟩) hDp).trans f4)
                     have ee0 := HGE.out.cell (a := ⟨D, 0, none⟩) (keep hbb e2) (fun e => by have := hDr D e.symm; omega)
                     have ee1 := HGE.out.cell (a := ⟨D, 1, none⟩) (keep hbb e3) (fun e => by have := hDr D e.symm; omega)
                     have ee2 := HGE.out.cell (a := ⟨D, 2, none⟩) (keep hbb e4) (fun e => by have := hDr D e.symm; omega)
                     have qq0 := HGE.out.cell (a := ⟨w.heap.size, 0, none⟩) (keep hbb q0) (fun e => by have := hDr w.heap.size e.symm; omega)
                     have qq1 := HGE.out.cell (a := ⟨w.heap.size, 1, none⟩) (keep hbb q1) (fun e => by have := hDr w.heap.size e.symm; omega)
                     have qq2 := HGE.out.cell (a := ⟨w.heap.size, 2, none⟩) (keep hbb q2) (fun e => by have := hDr w.heap.size e.symm; omega)
                     have qg0 := (HGE.out.frozen_far ⟨w.heap.size, 0, none⟩ hQi2 (fun e => by have := hDr w.heap.size e.symm; omega)).trans ((hbb.frozen (p := ⟨w.heap.size, 0, none⟩) hQo).trans qf0)
                     have qg1 := (HGE.out.frozen_far ⟨w.heap.size, 1, none⟩ hQi2 (fun e => by have := hDr w.heap.size e.symm; omega)).trans ((hbb.frozen (p := ⟨w.heap.size, 1, none⟩) hQo).trans qf1)
                     have qg2 := (HGE.out.frozen_far ⟨w.heap.size, 2, none⟩ hQi2 (fun e => by have := hDr w.heap.size e.symm; omega)).trans ((hbb.frozen (p := ⟨w.heap.size, 2, none⟩) hQo).trans qf2)))
                obtain ⟨h1, h2, h3⟩ := dealFin (w0 := w) (w := wE.setCell ⟨D, 2, none⟩ (.slice (some ⟨g', 0, none⟩) (m + 1) cap')) (A := A) (n := 6) (C := some ⟨g', 0, none⟩) (m := m + 1) (d := cap') (xs := xs ++ [(0, 1, 3, 2)]) (base := D + 1) (bs := bs)
                  (((HBS.out.below hbb).keepB (fun a ha => HGE.out.block _ (by have := HFAR.out a ha; omega) (fun e => by have := HFAR.out a ha; have := hDr _ e.symm; omega))).setCell (q := ⟨D, 2, none⟩) (fun a ha => by have := HFAR.out a ha; show a.block ≠ D; omega) _)
                  (fun a ha => by have := HFAR.out a ha; have := HGE.out.size; simp [World.setCell]; omega)
                  (OwnP.setHi (show OwnP wE (D + 1) (some ⟨g', 0, none⟩) (m + 1) cap' (xs ++ [(0, 1, 3, 2)]) from by show World.ownsRow _ _ _ _ _ _ (v4 _); rw [v4_append]; exact HOE.out) (fun k hk e => by have := (HOE.out.lt k hk).1; omega) 2 _) (by omega)
                  (((HMP.out.below hbb).grown HGE.out (fun r hr => by have := hDr r hr; omega) hR).setNew (P := D) (by omega) hR 2 _) hR 0 1 2 (.int .i64 pts) (.slice A 6 c) (.slice (some ⟨g', 0, none⟩) (m + 1) cap')
                exact bodyPost_ret (v := .agg #[.int .i64 pts, .slice A 6 c, .slice (some ⟨g', 0, none⟩) (m + 1) cap']) (by simp [results, Try.results73, go_sem, qq0, qq1, qq2, hDQ, hQD]) rfl ⟨_, _, _, _, bs, _, _, _, _, rfl, by omega, by omega, h1, h2, h3.mono (by omega)⟩
  · have HP1 := Lib.hid (show PbAt (w1.alloc (.cells #[.int .i64 pts, .slice A n c] 48)) R w.heap.size w1.heap.size pts A n c n from
      ⟨hR, hqw, by omega, HQ1.out.below ((Below.refl _ _).alloc (Nat.le_refl _) _) hqw, Blk.new _ _ _, ⟨xs0, own_below HOX.out ((Below.refl _ _).alloc (Nat.le_refl _) _)⟩, fun a ha => by
        have hob : (Value.slice A n c).ownBlock = some a.block := by subst ha; rfl
        exact (HOX.out.lt _ hob).2⟩)
    obtain ⟨w2, HW2⟩ : ∃ q, Hid (w1.alloc (.cells #[.int .i64 pts, .slice A n c] 48) = q) := ⟨_, rfl⟩
    have HP2 := Lib.hid (HW2.out ▸ HP1.out)
    have HMX := Lib.hid (show Mv R (B + 80) w w2 from HW2.out ▸ HM1.out.alloc _)
    clear HP1
    go_wp2_with (fail)
    rw [HW2.out]
    obtain ⟨P, HPP⟩ : ∃ q, Hid (w1.heap.size = q) := ⟨_, rfl⟩
    rw [HPP.out] at hqw
    have HPX := Lib.hid (HPP.out ▸ HP2.out)
    clear HP2
    rw [HPP.out]
    go_loopw [6] (fun i wr => ∃ k : Nat, k ≤ n ∧ i = .int .i64 k ∧ PbAt wr R w.heap.size P pts A n c n ∧ Mv R (B + 80 + 2 * (k : Int)) w wr) (fun i _ => n - (intOf i).toNat)
    case atStart => exact ⟨0, Nat.zero_le _, rfl, HPX.out, HMX.out.mono (by omega)⟩
    case round =>
      obtain ⟨wo, rfl⟩ : ∃ wo : World, wo = wr := ⟨_, rfl⟩
      obtain ⟨k, hk, rfl, hp, hm⟩ := hrel
      have HP := Lib.hid hp
      have HM := Lib.hid hm
      obtain ⟨e0, e1⟩ := hp.cells
      clear hp hm HPX HMX
      by_cases hlt : k < n
      · go_wp2_with (fail)
        refine kPick (pick_any R _ 2 _ HM.out.2 (by omega)) ?_
        intro x wA hq1 hq2 hmA hsA
        obtain ⟨hx0, hx1⟩ := hq1 (by omega)
        have HPA := Lib.hid (HP.out.mv hmA)
        have HMA := Lib.hid (HM.out.trans hmA)
        clear hq1 hq2 hmA hsA e0 e1
        by_cases hx : x = 0
        · subst hx
          obtain ⟨g, z, rfl, hgP, hQg, ee, ff, hset⟩ := HPA.out.elem (j := k) hlt
          obtain ⟨e0, e1⟩ := HPA.out.cells
          have HSET := Lib.hid hset
          clear hset
          go_wp2_with (fail)
          refine wp_region_held_drew (S := (fun w' => w'.cell? ⟨P, 1, none⟩ = some (.slice (some ⟨g, 0, none⟩) n c))) (by kernel_rfl) ?_ (fun hHeld => ?_)
          · exact e1
          refine wpAnyH_take (i := 0) (oi := _) (v := ?_) rfl (by kernel_rfl) (by kernel_rfl) (by kernel_rfl) (fun _ _ _ h => h) (Or.inl ⟨by kernel_rfl, ?_⟩) (by assumption) ?_
          rotate_left
          · (intro w hSw; (try dsimp only at hSw); go_simp; (try with_reducible rfl))
          try simp only [Act.put, List.getElem_toArray, List.getElem_cons_succ, List.getElem_cons_zero, List.setIfInBounds_toArray, List.set_cons_zero, List.set_cons_succ]
          refine wpAnyH_take (i := 1) (oi := _) (v := ?_) rfl (by kernel_rfl) (by kernel_rfl) (by kernel_rfl) (fun _ _ _ h => h) (Or.inl ⟨by kernel_rfl, ?_⟩) (by assumption) ?_
          rotate_left
          · (intro w hSw; (try dsimp only at hSw); go_simp; (try with_reducible rfl))
          try simp only [Act.put, List.getElem_toArray, List.getElem_cons_succ, List.getElem_cons_zero, List.setIfInBounds_toArray, List.set_cons_zero, List.set_cons_succ]
          refine wpAnyH_take (i := 2) (oi := _) (v := ?_) rfl (by kernel_rfl) (by kernel_rfl) (by kernel_rfl) (fun _ _ _ h => h) (Or.inl ⟨by kernel_rfl, ?_⟩) (by assumption) ?_
          rotate_left
          · (intro w hSw; (try dsimp only at hSw); go_simp; (try with_reducible rfl))
          try simp only [Act.put, List.getElem_toArray, List.getElem_cons_succ, List.getElem_cons_zero, List.setIfInBounds_toArray, List.set_cons_zero, List.set_cons_succ]
          refine wpAnyH_take (i := 3) (oi := _) (v := ?_) rfl (by kernel_rfl) (by kernel_rfl) (by kernel_rfl) (fun _ _ _ h => h) (Or.inl ⟨by kernel_rfl, ?_⟩) (by assumption) ?_
          rotate_left
          · (intro w hSw; (try dsimp only at hSw); go_simp; (try with_reducible rfl))
          try simp only [Act.put, List.getElem_toArray, List.getElem_cons_succ, List.getElem_cons_zero, List.setIfInBounds_toArray, List.set_cons_zero, List.set_cons_succ]
          refine wpAnyH_take (i := 4) (oi := _) (v := ?_) rfl (by kernel_rfl) (by kernel_rfl) (by kernel_rfl) (fun _ _ _ h => h) (Or.inl ⟨by kernel_rfl, ?_⟩) (by assumption) ?_
          rotate_left
          · (intro w hSw; (try dsimp only at hSw); go_simp; (try with_reducible rfl))
          try simp only [Act.put, List.getElem_toArray, List.getElem_cons_succ, List.getElem_cons_zero, List.setIfInBounds_toArray, List.set_cons_zero, List.set_cons_succ]
          refine wpAnyH_take (i := 5) (oi := _) (v := ?_) rfl (by kernel_rfl) (by kernel_rfl) (by kernel_rfl) (fun _ _ _ h => h) (Or.inl ⟨by kernel_rfl, ?_⟩) (by assumption) ?_
          rotate_left
          · (intro w hSw; (try dsimp only at hSw); go_simp; (try with_reducible rfl))
          try simp only [Act.put, List.getElem_toArray, List.getElem_cons_succ, List.getElem_cons_zero, List.setIfInBounds_toArray, List.set_cons_zero, List.set_cons_succ]
          refine wpAnyH_take (i := 6) (oi := _) (v := ?_) rfl (by kernel_rfl) (by kernel_rfl) (by kernel_rfl) (fun _ _ _ h => h) (Or.inl ⟨by kernel_rfl, ?_⟩) (by assumption) ?_
          rotate_left
          · (intro w hSw; (try dsimp only at hSw); go_simp; (try with_reducible rfl))
          try simp only [Act.put, List.getElem_toArray, List.getElem_cons_succ, List.getElem_cons_zero, List.setIfInBounds_toArray, List.set_cons_zero, List.set_cons_succ]
          refine wpAnyH_take (i := 7) (oi := _) (v := ?_) rfl (by kernel_rfl) (by kernel_rfl) (by kernel_rfl) (fun _ _ _ h => h) (Or.inl ⟨by kernel_rfl, ?_⟩) (by assumption) ?_
          rotate_left
          · (intro w hSw; (try dsimp only at hSw); go_simp; (try with_reducible rfl))
          try simp only [Act.put, List.getElem_toArray, List.getElem_cons_succ, List.getElem_cons_zero, List.setIfInBounds_toArray, List.set_cons_zero, List.set_cons_succ]
          refine wpAnyH_take (i := 9) (oi := _) (v := ?_) rfl (by kernel_rfl) (by kernel_rfl) (by kernel_rfl) (fun _ _ _ h => h) (Or.inl ⟨by kernel_rfl, ?_⟩) (by assumption) ?_
          rotate_left
          · (intro w hSw; (try dsimp only at hSw); go_simp; (try with_reducible rfl))
          try simp only [Act.put, List.getElem_toArray, List.getElem_cons_succ, List.getElem_cons_zero, List.setIfInBounds_toArray, List.set_cons_zero, List.set_cons_succ]
          refine wpAnyH_ready (rs := [8, 10]) (by kernel_rfl) (by simp) ?_
          refine AllReadyH.cons (o := _) rfl (fun K hK => ?_) (AllReadyH.cons (o := _) rfl (fun K hK => ?_) (AllReadyH.nil))
          · go_simp
            refine hK.out _ _ ?_ (fun hHeld => ?_)
            · exact e1
            clear hK K
            try simp only [Act.put, List.getElem_toArray, List.getElem_cons_succ, List.getElem_cons_zero, List.setIfInBounds_toArray, List.set_cons_zero, List.set_cons_succ]
            refine wpAnyH_ready (rs := [10]) (by kernel_rfl) (by simp) ?_
            refine AllReadyH.cons (o := _) rfl (fun K hK => ?_) (AllReadyH.nil)
            go_simp
            go_at_call 51; with_reducible refine kPick (pick_any R _ 12 _ (Mv.rdD (Mv.drewD HMA.out)) (by omega)) ?_
            intro y wB hq1 hq2 hmB hsB
            have HPB := Lib.hid (PbAt.mv (PbAt.drewD HPA.out) hmB)
            have HMB := Lib.hid (Mv.trans (Mv.drewD HMA.out) hmB)
            have eB := hmB.keepA (show g ≠ R by omega) (show wA.drew.cell? _ = _ from ee)
            obtain ⟨e0B, e1B⟩ := HPB.out.cells
            clear hq1 hq2 hmB hsB
            go_wp2_with fail
            refine hK.out _ _ ?_ (fun hHeld => ?_)
            · exact e1B
            clear hK K
            try simp only [Act.put, List.getElem_toArray, List.getElem_cons_succ, List.getElem_cons_zero, List.setIfInBounds_toArray, List.set_cons_zero, List.set_cons_succ]
            obtain ⟨g2, z2, hgg, -, -, eB2, fB, hsetB⟩ := HPB.out.elem (j := k) hlt
            cases hgg
            refine wpAnyH_take (i := 11) (oi := _) (v := ?_) rfl (by kernel_rfl) (by kernel_rfl) (by kernel_rfl) (fun _ _ _ h => h) (Or.inl ⟨by kernel_rfl, ?_⟩) (by assumption) ?_
            rotate_left
            · (intro w hSw; (try dsimp only at hSw); go_simp; (try with_reducible rfl))
            try simp only [Act.put, List.getElem_toArray, List.getElem_cons_succ, List.getElem_cons_zero, List.setIfInBounds_toArray, List.set_cons_zero, List.set_cons_succ]
            refine wpAnyH_ready (rs := [12]) (by kernel_rfl) (by simp) ?_
            refine AllReadyH.cons (o := _) rfl (fun K hK => ?_) (AllReadyH.nil)
            go_simp
            refine hK.out _ _ ?_ (fun hHeld => ?_)
            · exact e1B
            clear hK K
            try simp only [Act.put, List.getElem_toArray, List.getElem_cons_succ, List.getElem_cons_zero, List.setIfInBounds_toArray, List.set_cons_zero, List.set_cons_succ]
            generalize (if 99 < IntKind.i64.wrap (z + y) then (99 : Int) else IntKind.i64.wrap (z + y)) = V
            refine wpAnyH_take (i := 13) (oi := _) (v := ?_) rfl (by kernel_rfl) (by kernel_rfl) (by kernel_rfl) (fun _ _ _ h => h) (Or.inl ⟨by kernel_rfl, ?_⟩) (by assumption) ?_
            rotate_left
            · (intro w hSw; (try dsimp only at hSw); go_simp; (try with_reducible rfl))
            try simp only [Act.put, List.getElem_toArray, List.getElem_cons_succ, List.getElem_cons_zero, List.setIfInBounds_toArray, List.set_cons_zero, List.set_cons_succ]
            refine wpAnyH_take (i := 14) (oi := _) (v := ?_) rfl (by kernel_rfl) (by kernel_rfl) (by kernel_rfl) (fun _ _ _ h => h) (Or.inl ⟨by kernel_rfl, ?_⟩) (by assumption) ?_
            rotate_left
            · (intro w hSw; (try dsimp only at hSw); go_simp; (try with_reducible rfl))
            try simp only [Act.put, List.getElem_toArray, List.getElem_cons_succ, List.getElem_cons_zero, List.setIfInBounds_toArray, List.set_cons_zero, List.set_cons_succ]
            refine wpAnyH_ready (rs := [15]) (by kernel_rfl) (by simp) ?_
            refine AllReadyH.cons (o := _) rfl (fun K hK => ?_) (AllReadyH.nil)
            go_simp
            refine hK.out _ _ ?_ (fun hHeld => ?_)
            · exact (hsetB _).cells.2
            clear hK K
            try simp only [Act.put, List.getElem_toArray, List.getElem_cons_succ, List.getElem_cons_zero, List.setIfInBounds_toArray, List.set_cons_zero, List.set_cons_succ]
            refine wpAnyH_done (by kernel_rfl) ?_ _
            go_wp2
            go_roundw
            case rel => exact ⟨k + 1, by omega, by go_num, hsetB _, (HMB.out.setNew (P := g) (by omega) hR _ _).mono (by omega)⟩
            case measure => simp [intOf]; omega
          · go_simp
            go_at_call 51; with_reducible refine kPick (pick_any R _ 12 _ (Mv.rdD (Mv.drewD HMA.out)) (by omega)) ?_
            intro y wB hq1 hq2 hmB hsB
            have HPB := Lib.hid (PbAt.mv (PbAt.drewD HPA.out) hmB)
            have HMB := Lib.hid (Mv.trans (Mv.drewD HMA.out) hmB)
            have eB := hmB.keepA (show g ≠ R by omega) (show wA.drew.cell? _ = _ from ee)
            obtain ⟨e0B, e1B⟩ := HPB.out.cells
            clear hq1 hq2 hmB hsB
            go_wp2_with fail
            refine hK.out _ _ ?_ (fun hHeld => ?_)
            · exact e1B
            clear hK K
            try simp only [Act.put, List.getElem_toArray, List.getElem_cons_succ, List.getElem_cons_zero, List.setIfInBounds_toArray, List.set_cons_zero, List.set_cons_succ]
            refine wpAnyH_ready (rs := [8]) (by kernel_rfl) (by simp) ?_
            refine AllReadyH.cons (o := _) rfl (fun K hK => ?_) (AllReadyH.nil)
            go_simp
            refine hK.out _ _ ?_ (fun hHeld => ?_)
            · exact e1B
            clear hK K
            try simp only [Act.put, List.getElem_toArray, List.getElem_cons_succ, List.getElem_cons_zero, List.setIfInBounds_toArray, List.set_cons_zero, List.set_cons_succ]
            obtain ⟨g2, z2, hgg, -, -, eB2, fB, hsetB⟩ := HPB.out.elem (j := k) hlt
            cases hgg
            refine wpAnyH_take (i := 11) (oi := _) (v := ?_) rfl (by kernel_rfl) (by kernel_rfl) (by kernel_rfl) (fun _ _ _ h => h) (Or.inl ⟨by kernel_rfl, ?_⟩) (by assumption) ?_
            rotate_left
            · (intro w hSw; (try dsimp only at hSw); go_simp; (try with_reducible rfl))
            try simp only [Act.put, List.getElem_toArray, List.getElem_cons_succ, List.getElem_cons_zero, List.setIfInBounds_toArray, List.set_cons_zero, List.set_cons_succ]
            refine wpAnyH_ready (rs := [12]) (by kernel_rfl) (by simp) ?_
            refine AllReadyH.cons (o := _) rfl (fun K hK => ?_) (AllReadyH.nil)
            go_simp
            refine hK.out _ _ ?_ (fun hHeld => ?_)
            · exact e1B
            clear hK K
            try simp only [Act.put, List.getElem_toArray, List.getElem_cons_succ, List.getElem_cons_zero, List.setIfInBounds_toArray, List.set_cons_zero, List.set_cons_succ]
            generalize (if 99 < IntKind.i64.wrap (z + y) then (99 : Int) else IntKind.i64.wrap (z + y)) = V
            refine wpAnyH_take (i := 13) (oi := _) (v := ?_) rfl (by kernel_rfl) (by kernel_rfl) (by kernel_rfl) (fun _ _ _ h => h) (Or.inl ⟨by kernel_rfl, ?_⟩) (by assumption) ?_
            rotate_left
            · (intro w hSw; (try dsimp only at hSw); go_simp; (try with_reducible rfl))
            try simp only [Act.put, List.getElem_toArray, List.getElem_cons_succ, List.getElem_cons_zero, List.setIfInBounds_toArray, List.set_cons_zero, List.set_cons_succ]
            refine wpAnyH_take (i := 14) (oi := _) (v := ?_) rfl (by kernel_rfl) (by kernel_rfl) (by kernel_rfl) (fun _ _ _ h => h) (Or.inl ⟨by kernel_rfl, ?_⟩) (by assumption) ?_
            rotate_left
            · (intro w hSw; (try dsimp only at hSw); go_simp; (try with_reducible rfl))
            try simp only [Act.put, List.getElem_toArray, List.getElem_cons_succ, List.getElem_cons_zero, List.setIfInBounds_toArray, List.set_cons_zero, List.set_cons_succ]
            refine wpAnyH_ready (rs := [15]) (by kernel_rfl) (by simp) ?_
            refine AllReadyH.cons (o := _) rfl (fun K hK => ?_) (AllReadyH.nil)
            go_simp
            refine hK.out _ _ ?_ (fun hHeld => ?_)
            · exact (hsetB _).cells.2
            clear hK K
            try simp only [Act.put, List.getElem_toArray, List.getElem_cons_succ, List.getElem_cons_zero, List.setIfInBounds_toArray, List.set_cons_zero, List.set_cons_succ]
            refine wpAnyH_done (by kernel_rfl) ?_ _
            go_wp2
            go_roundw
            case rel => exact ⟨k + 1, by omega, by go_num, hsetB _, (HMB.out.setNew (P := g) (by omega) hR _ _).mono (by omega)⟩
            case measure => simp [intOf]; omega
        · go_wp2
          go_roundw
          case rel => exact ⟨k + 1, by omega, by go_num, HPA.out, HMA.out.mono (by omega)⟩
          case measure => simp [intOf]; omega
      · obtain rfl : n = k := by omega
        have HD0 := Lib.hid (show DlAt (wo.alloc (.cells #[.int .i64 pts, .slice A n c, .slice none 0 0] 66)) R w.heap.size P wo.heap.size pts A n c none 0 0 from HP.out.deal)
        have hPo := HP.out.blk.lt
        go_wp2_with (fail)
        refine kPick (pick_any R _ 3 _ (Mv.rdD (Mv.alloc HM.out _)) (by omega)) ?_
        intro k0 w3 hk1 hk2 hm3 hs3
        obtain ⟨hk0, hk3⟩ := hk1 (by omega)
        have HC3 := Lib.hid (HD0.out.mv hm3)
        have HM3 := Lib.hid (Mv.trans (Mv.alloc HM.out _) hm3)
        obtain ⟨D, HDD⟩ : ∃ q, Hid (wo.heap.size = q) := ⟨_, rfl⟩
        rw [HDD.out] at HC3 ⊢
        clear hk1 hk2 hm3 hs3 HD0 e0 e1
        rw [HDD.out] at hPo
        have hwD : w.heap.size < D := by omega
        go_wp2_with (fail)
        go_loopw [8] (fun i wr => ∃ (k : Int) (m d : Nat) (C : Option Addr), i = .int .i64 k ∧ 0 ≤ k ∧ (m : Int) + k ≤ 2 ∧ DlAt wr R w.heap.size P D pts A n c C m d ∧ Mv R (B + 110 + 10 * (2 - k)) w wr) (fun i _ => (intOf i).toNat)
        case atStart => exact ⟨k0, 0, 0, none, rfl, hk0, by omega, HC3.out, HM3.out.mono (by omega)⟩
        case round =>
          obtain ⟨wq, rfl⟩ : ∃ wq : World, wq = wr := ⟨_, rfl⟩
          obtain ⟨k, m, d, C, rfl, hk0', hmk, hc, hm⟩ := hrel
          have HC := Lib.hid hc
          have HM := Lib.hid hm
          obtain ⟨e0, e1, e2, e3, e4, f2, f3, f4⟩ := hc.cells
          clear hc hm HC3 HM3
          by_cases hlt : 0 < k
          · by_cases hp1 : 1 < pts
            · go_wp2_with (fail)
              refine kPick (pick_any R _ 7 _ HM.out.2 (by omega)) ?_
              intro lo wL hq1 hq2 hmL hsL
              obtain ⟨hlo0, hlo1⟩ := hq1 (by omega)
              have HCwL := Lib.hid (HC.out.mv hmL)
              have HMwL := Lib.hid (HM.out.trans hmL)
              clear hq1 hq2 hmL hsL e0 e1 e2 e3 e4 f2 f3 f4
              obtain ⟨xs, hxx⟩ := HCwL.out.row
              have HXX := Lib.hid hxx
              have HLX := Lib.hid (OwnP.len hxx)
              have HNA := Lib.hid (OwnP.nilA hxx)
              obtain ⟨B1, hB1a, hB1b, HB1⟩ : ∃ q, q ≤ wL.heap.size ∧ wL.heap.size ≤ q ∧ Hid (wL.heap.size = q) := ⟨_, Nat.le_refl _, Nat.le_refl _, rfl⟩
              have HCL := Lib.hid (show ∀ k, (Value.slice C m d).ownBlock = some k → k < B1 from fun k hk => by have := (hxx.lt k hk).2; omega)
              have hDB : D < B1 := by have := HCwL.out.blk.lt; omega
              obtain ⟨s0, s1, s2⟩ := HCwL.out.S
              clear hxx
              go_upto_region 14 with fail
              go_cut [10] from 50 to 85 (fun s wx => ∃ (q : Nat) (C2 : Option Addr) (d2 : Nat), s = .pointer (some ⟨q, 0, none⟩) ∧ XtAt wx R w.heap.size P D q pts A n c C m d C2 d2 ∧ Mv R (B + 110 + 10 * (2 - k) + 4) w wx)
              case first =>
                refine wp_region_held_drew (S := (fun w' => w'.cell? ⟨P, 0, none⟩ = some (.int .i64 pts) ∧ w'.cell? ⟨P, 1, none⟩ = some (.slice A n c) ∧ w'.cell? ⟨D, 2, none⟩ = some (.slice C m d))) (by kernel_rfl) ?_ (fun hHeld => ?_)
                · exact HCwL.out.S
                refine wpAnyH_take (i := 0) (oi := _) (v := ?_) rfl (by kernel_rfl) (by kernel_rfl) (by kernel_rfl) (fun _ _ _ h => h) (Or.inl ⟨by kernel_rfl, ?_⟩) (by assumption) ?_
                rotate_left
                · (intro w hSw; (try dsimp only at hSw); go_simp; (try with_reducible rfl))
                try simp only [Act.put, List.getElem_toArray, List.getElem_cons_succ, List.getElem_cons_zero, List.setIfInBounds_toArray, List.set_cons_zero, List.set_cons_succ]
                refine wpAnyH_take (i := 2) (oi := _) (v := ?_) rfl (by kernel_rfl) (by kernel_rfl) (by kernel_rfl) (fun _ _ _ h => h) (Or.inl ⟨by kernel_rfl, ?_⟩) (by assumption) ?_
                rotate_left
                · (intro w hSw; (try dsimp only at hSw); go_simp; (try with_reducible rfl))
                try simp only [Act.put, List.getElem_toArray, List.getElem_cons_succ, List.getElem_cons_zero, List.setIfInBounds_toArray, List.set_cons_zero, List.set_cons_succ]
                refine wpAnyH_take (i := 3) (oi := _) (v := ?_) rfl (by kernel_rfl) (by kernel_rfl) (by kernel_rfl) (fun _ _ _ h => h) (Or.inl ⟨by kernel_rfl, ?_⟩) (by assumption) ?_
                rotate_left
                · (intro w hSw; (try dsimp only at hSw); go_simp; (try with_reducible rfl))
                try simp only [Act.put, List.getElem_toArray, List.getElem_cons_succ, List.getElem_cons_zero, List.setIfInBounds_toArray, List.set_cons_zero, List.set_cons_succ]
                refine wpAnyH_take (i := 5) (oi := _) (v := ?_) rfl (by kernel_rfl) (by kernel_rfl) (by kernel_rfl) (fun _ _ _ h => h) (Or.inl ⟨by kernel_rfl, ?_⟩) (by assumption) ?_
                rotate_left
                · (intro w hSw; (try dsimp only at hSw); go_simp; (try with_reducible rfl))
                try simp only [Act.put, List.getElem_toArray, List.getElem_cons_succ, List.getElem_cons_zero, List.setIfInBounds_toArray, List.set_cons_zero, List.set_cons_succ]
                refine wpAnyH_take (i := 6) (oi := _) (v := ?_) rfl (by kernel_rfl) (by kernel_rfl) (by kernel_rfl) (fun _ _ _ h => h) (Or.inl ⟨by kernel_rfl, ?_⟩) (by assumption) ?_
                rotate_left
                · (intro w hSw; (try dsimp only at hSw); go_simp; (try with_reducible rfl))
                try simp only [Act.put, List.getElem_toArray, List.getElem_cons_succ, List.getElem_cons_zero, List.setIfInBounds_toArray, List.set_cons_zero, List.set_cons_succ]
                refine wpAnyH_take (i := 7) (oi := _) (v := ?_) rfl (by kernel_rfl) (by kernel_rfl) (by kernel_rfl) (fun _ _ _ h => h) (Or.inl ⟨by kernel_rfl, ?_⟩) (by assumption) ?_
                rotate_left
                · (intro w hSw; (try dsimp only at hSw); go_simp; (try with_reducible rfl))
                try simp only [Act.put, List.getElem_toArray, List.getElem_cons_succ, List.getElem_cons_zero, List.setIfInBounds_toArray, List.set_cons_zero, List.set_cons_succ]
                refine wpAnyH_take (i := 9) (oi := _) (v := ?_) rfl (by kernel_rfl) (by kernel_rfl) (by kernel_rfl) (fun _ _ _ h => h) (Or.inl ⟨by kernel_rfl, ?_⟩) (by assumption) ?_
                rotate_left
                · (intro w hSw; (try dsimp only at hSw); go_simp; (try with_reducible rfl))
                try simp only [Act.put, List.getElem_toArray, List.getElem_cons_succ, List.getElem_cons_zero, List.setIfInBounds_toArray, List.set_cons_zero, List.set_cons_succ]
                refine wpAnyH_take (i := 10) (oi := _) (v := ?_) rfl (by kernel_rfl) (by kernel_rfl) (by kernel_rfl) (fun _ _ _ h => h) (Or.inl ⟨by kernel_rfl, ?_⟩) (by assumption) ?_
                rotate_left
                · (intro w hSw; (try dsimp only at hSw); go_simp; (try with_reducible rfl))
                try simp only [Act.put, List.getElem_toArray, List.getElem_cons_succ, List.getElem_cons_zero, List.setIfInBounds_toArray, List.set_cons_zero, List.set_cons_succ]
                refine wpAnyH_take (i := 11) (oi := _) (v := ?_) rfl (by kernel_rfl) (by kernel_rfl) (by kernel_rfl) (fun _ _ _ h => h) (Or.inl ⟨by kernel_rfl, ?_⟩) (by assumption) ?_
                rotate_left
                · (intro w hSw; (try dsimp only at hSw); go_simp; (try with_reducible rfl))
                try simp only [Act.put, List.getElem_toArray, List.getElem_cons_succ, List.getElem_cons_zero, List.setIfInBounds_toArray, List.set_cons_zero, List.set_cons_succ]
                refine wpAnyH_take (i := 13) (oi := _) (v := ?_) rfl (by kernel_rfl) (by kernel_rfl) (by kernel_rfl) (fun _ _ _ h => h) (Or.inl ⟨by kernel_rfl, ?_⟩) (by assumption) ?_
                rotate_left
                · (intro w hSw; (try dsimp only at hSw); go_simp; (try with_reducible rfl))
                try simp only [Act.put, List.getElem_toArray, List.getElem_cons_succ, List.getElem_cons_zero, List.setIfInBounds_toArray, List.set_cons_zero, List.set_cons_succ]
                refine wpAnyH_take (i := 14) (oi := _) (v := ?_) rfl (by kernel_rfl) (by kernel_rfl) (by kernel_rfl) (fun _ _ _ h => h) (Or.inl ⟨by kernel_rfl, ?_⟩) (by assumption) ?_
                rotate_left
                · (intro w hSw; (try dsimp only at hSw); go_simp; (try with_reducible rfl))
                try simp only [Act.put, List.getElem_toArray, List.getElem_cons_succ, List.getElem_cons_zero, List.setIfInBounds_toArray, List.set_cons_zero, List.set_cons_succ]
                refine wpAnyH_take (i := 15) (oi := _) (v := ?_) rfl (by kernel_rfl) (by kernel_rfl) (by kernel_rfl) (fun _ _ _ h => h) (Or.inl ⟨by kernel_rfl, ?_⟩) (by assumption) ?_
                rotate_left
                · (intro w hSw; (try dsimp only at hSw); go_simp; (try with_reducible rfl))
                try simp only [Act.put, List.getElem_toArray, List.getElem_cons_succ, List.getElem_cons_zero, List.setIfInBounds_toArray, List.set_cons_zero, List.set_cons_succ]
                refine wpAnyH_ready (rs := [1, 22]) (by kernel_rfl) (by simp) ?_
                refine AllReadyH.cons (o := _) rfl (fun K hK => ?_) (AllReadyH.cons (o := _) rfl (fun K hK => ?_) (AllReadyH.nil))
                · have bLe : Below wL.heap.size wL (wL.alloc (.cells #[] 105)) := (Below.refl wL.heap.size wL).alloc (Nat.le_refl _) (.cells #[] 105)
                  go_simp
                  refine hK.out _ _ ?_ (fun hHeld => ?_)
                  · exact ((DlAt.drewD ((HCwL.out.below bLe)))).S
                  clear hK K
                  try simp only [Act.put, List.getElem_toArray, List.getElem_cons_succ, List.getElem_cons_zero, List.setIfInBounds_toArray, List.set_cons_zero, List.set_cons_succ]
                  refine wpAnyH_ready (rs := [4, 22]) (by kernel_rfl) (by simp) ?_
                  refine AllReadyH.cons (o := _) rfl (fun K hK => ?_) (AllReadyH.cons (o := _) rfl (fun K hK => ?_) (AllReadyH.nil))
                  · have hbW := bLe
                    refine step_appX rowPr (by rfl) _ _ (by rfl) B1 _ 0 [] (by rfl) (show World.ownsRow (wL.alloc (.cells #[] 105)).drew B1 105 4 (.slice (some ⟨wL.heap.size, 0, none⟩) 0 0) 0 [] from own_drewN (own_lit_atB (w := wL) (q := wL.heap.size) rfl B1 105 4 #[] 0 (by first | omega | (simp <;> omega)) (by decide) rfl) 1) C m d (v4 xs) (by rfl) HNA.out (by rw [v4_len, HLX.out]) (fun ad e => OwnP.news (show OwnP (wL.alloc (.cells #[] 105)).drew (D + 1) C m d xs from own_drewN (own_below HXX.out hbW) 1) e) (v4_one _) m (Nat.zero_add _) (v4 xs) (List.nil_append _) (by omega) (show B1 ≤ (wL.alloc (.cells #[] 105)).heap.size from by first | omega | (simp <;> omega)) ?_
                    intro C1 d1 wA hown1 hgrow1 hat1
                    have hrow1 : ∀ r, (Value.slice (some ⟨wL.heap.size, 0, none⟩) 0 0).ownBlock = some r → B1 ≤ r := fun r hr => by have h5 : wL.heap.size = r := Option.some.inj hr; omega
                    have HCwA := Lib.hid (DlAt.kept (DlAt.drewD ((HCwL.out.below bLe))) hgrow1 (fun r hr => .inr ⟨by have := hrow1 r hr; omega, fun e => by have := hrow1 r hr; have := HCL.out r e; omega⟩))
                    have HMwA := Lib.hid (Mv.grown (Mv.drewD ((HMwL.out.below bLe))) hgrow1 (fun r hr => by have := hrow1 r hr; omega) hR)
                    have HOwA := Lib.hid hown1
                    have hsA : B1 ≤ wA.heap.size := by have := HCwA.out.blk.lt; have := hgrow1.size; (try simp at this); omega
                    clear hown1 hgrow1 hat1 hrow1 hbW
                    refine hK.out _ _ ?_ (fun hHeld => ?_)
                    · exact ((HCwA.out)).S
                    clear hK K
                    try simp only [Act.put, List.getElem_toArray, List.getElem_cons_succ, List.getElem_cons_zero, List.setIfInBounds_toArray, List.set_cons_zero, List.set_cons_succ]
                    refine wpAnyH_ready (rs := [8, 22]) (by kernel_rfl) (by simp) ?_
                    refine AllReadyH.cons (o := _) rfl (fun K hK => ?_) (AllReadyH.cons (o := _) rfl (fun K hK => ?_) (AllReadyH.nil))
                    · go_simp
                      go_at_call 51; with_reducible refine kPick (pick_any R _ pts _ (Mv.rdD (HMwA.out)) (by omega)) ?_
                      intro x wB hq1 hq2 hm hs
                      obtain ⟨hx0, hx1⟩ := hq1 (by omega)
                      have HCwB := Lib.hid (DlAt.mv (HCwA.out) hm)
                      have HMwB := Lib.hid (Mv.trans (HMwA.out) hm)
                      have HOwB := Lib.hid (own_mv HOwA.out (by omega) hm)
                      have hsB : B1 ≤ wB.heap.size := by have := hs; (try simp at this); omega
                      clear hq1 hq2 hm hs
                      go_wp2_with fail
                      refine hK.out _ _ ?_ (fun hHeld => ?_)
                      · exact ((HCwB.out)).S
                      clear hK K
                      try simp only [Act.put, List.getElem_toArray, List.getElem_cons_succ, List.getElem_cons_zero, List.setIfInBounds_toArray, List.set_cons_zero, List.set_cons_succ]
                      refine wpAnyH_ready (rs := [12, 22]) (by kernel_rfl) (by simp) ?_
                      refine AllReadyH.cons (o := _) rfl (fun K hK => ?_) (AllReadyH.cons (o := _) rfl (fun K hK => ?_) (AllReadyH.nil))
                      · go_simp
                        go_at_call 51; with_reducible refine kPick (pick_any R _ pts _ (Mv.rdD (HMwB.out)) (by omega)) ?_
                        intro y wC hq1 hq2 hm hs
                        obtain ⟨hy0, hy1⟩ := hq1 (by omega)
                        have HCwC := Lib.hid (DlAt.mv (HCwB.out) hm)
                        have HMwC := Lib.hid (Mv.trans (HMwB.out) hm)
                        have HOwC := Lib.hid (own_mv HOwB.out (by omega) hm)
                        have hsC : B1 ≤ wC.heap.size := by have := hs; (try simp at this); omega
                        clear hq1 hq2 hm hs
                        go_wp2_with fail
                        refine hK.out _ _ ?_ (fun hHeld => ?_)
                        · exact ((HCwC.out)).S
                        clear hK K
                        try simp only [Act.put, List.getElem_toArray, List.getElem_cons_succ, List.getElem_cons_zero, List.setIfInBounds_toArray, List.set_cons_zero, List.set_cons_succ]
                        refine wpAnyH_ready (rs := [16, 22]) (by kernel_rfl) (by simp) ?_
                        refine AllReadyH.cons (o := _) rfl (fun K hK => ?_) (AllReadyH.cons (o := _) rfl (fun K hK => ?_) (AllReadyH.nil))
                        · go_simp
                          go_at_call 51; with_reducible refine kPick (pick_any R _ 6 _ (Mv.rdD (HMwC.out)) (by omega)) ?_
                          intro z wD hq1 hq2 hm hs
                          obtain ⟨hz0, hz1⟩ := hq1 (by omega)
                          have HCwD := Lib.hid (DlAt.mv (HCwC.out) hm)
                          have HMwD := Lib.hid (Mv.trans (HMwC.out) hm)
                          have HOwD := Lib.hid (own_mv HOwC.out (by omega) hm)
                          have hsD : B1 ≤ wD.heap.size := by have := hs; (try simp at this); omega
                          clear hq1 hq2 hm hs
                          go_wp2_with fail
                          refine hK.out _ _ ?_ (fun hHeld => ?_)
                          · exact ((HCwD.out)).S
                          clear hK K
                          try simp only [Act.put, List.getElem_toArray, List.getElem_cons_succ, List.getElem_cons_zero, List.setIfInBounds_toArray, List.set_cons_zero, List.set_cons_succ]
                          refine wpAnyH_take (i := 17) (oi := _) (v := ?_) rfl (by kernel_rfl) (by kernel_rfl) (by kernel_rfl) (fun _ _ _ h => h) (Or.inl ⟨by kernel_rfl, ?_⟩) (by assumption) ?_
                          rotate_left
                          · (intro w hSw; (try dsimp only at hSw); go_simp; (try with_reducible rfl))
                          try simp only [Act.put, List.getElem_toArray, List.getElem_cons_succ, List.getElem_cons_zero, List.setIfInBounds_toArray, List.set_cons_zero, List.set_cons_succ]
                          refine wpAnyH_take (i := 18) (oi := _) (v := ?_) rfl (by kernel_rfl) (by kernel_rfl) (by kernel_rfl) (fun _ _ _ h => h) (Or.inl ⟨by kernel_rfl, ?_⟩) (by assumption) ?_
                          rotate_left
                          · (intro w hSw; (try dsimp only at hSw); go_simp; (try with_reducible rfl))
                          try simp only [Act.put, List.getElem_toArray, List.getElem_cons_succ, List.getElem_cons_zero, List.setIfInBounds_toArray, List.set_cons_zero, List.set_cons_succ]
                          refine wpAnyH_ready (rs := [19, 22]) (by kernel_rfl) (by simp) ?_
                          refine AllReadyH.cons (o := _) rfl (fun K hK => ?_) (AllReadyH.cons (o := _) rfl (fun K hK => ?_) (AllReadyH.nil))
                          · have bDp : Below wD.heap.size wD (wD.alloc (.cells #[.int .i64 x, .int .i64 y, .int .i64 lo, .int .i64 (IntKind.i64.wrap (lo + z))] 105)) := (Below.refl wD.heap.size wD).alloc (Nat.le_refl _) (.cells #[.int .i64 x, .int .i64 y, .int .i64 lo, .int .i64 (IntKind.i64.wrap (lo + z))] 105)
                            go_simp
                            refine hK.out _ _ ?_ (fun hHeld => ?_)
                            · exact (((HCwD.out.below bDp))).S
                            clear hK K
                            try simp only [Act.put, List.getElem_toArray, List.getElem_cons_succ, List.getElem_cons_zero, List.setIfInBounds_toArray, List.set_cons_zero, List.set_cons_succ]
                            refine wpAnyH_ready (rs := [20, 22]) (by kernel_rfl) (by simp) ?_
                            refine AllReadyH.cons (o := _) rfl (fun K hK => ?_) (AllReadyH.cons (o := _) rfl (fun K hK => ?_) (AllReadyH.nil))
                            · refine step_app rowPr (by rfl) _ _ (by rfl) B1 _ m (v4 xs) (by rfl) (own_below HOwD.out bDp) ⟨wD.heap.size, 0, none⟩ 1 1 (v4 [(x, y, lo, IntKind.i64.wrap (lo + z))]) (by rfl) rfl (cell4 (w := wD) (q := wD.heap.size) rfl (x, y, lo, IntKind.i64.wrap (lo + z)) 105) (v4_one _) (by decide) (by omega) (show B1 ≤ (wD.alloc (.cells #[.int .i64 x, .int .i64 y, .int .i64 lo, .int .i64 (IntKind.i64.wrap (lo + z))] 105)).heap.size from by first | omega | (simp <;> omega)) ?_
                              intro g2 d2 wE hown2 hgrow2 hat2 hlt2
                              have HCwE := Lib.hid (DlAt.kept ((HCwD.out.below bDp)) hgrow2 (fun r hr => .inr ⟨by have := (HOwD.out.lt r hr).1; omega, fun e => by have := (HOwD.out.lt r hr).1; have := HCL.out r e; omega⟩))
                              have HMwE := Lib.hid (Mv.grown ((HMwD.out.below bDp)) hgrow2 (fun r hr => by have := (HOwD.out.lt r hr).1; omega) hR)
                              have HOwE := Lib.hid (show OwnP wE B1 (some ⟨g2, 0, none⟩) (m + 1) d2 (xs ++ [(x, y, lo, IntKind.i64.wrap (lo + z))]) from by show World.ownsRow _ _ _ _ _ _ (v4 _); rw [v4_append]; exact hown2)
                              clear hown2 hgrow2 hat2 hlt2
                              refine hK.out _ _ ?_ (fun hHeld => ?_)
                              · exact ((HCwE.out)).S
                              clear hK K
                              try simp only [Act.put, List.getElem_toArray, List.getElem_cons_succ, List.getElem_cons_zero, List.setIfInBounds_toArray, List.set_cons_zero, List.set_cons_succ]
                              refine wpAnyH_take (i := 21) (oi := _) (v := ?_) rfl (by kernel_rfl) (by kernel_rfl) (by kernel_rfl) (fun _ _ _ h => h) (Or.inl ⟨by kernel_rfl, ?_⟩) (by assumption) ?_
                              rotate_left
                              · (intro w hSw; (try dsimp only at hSw); go_simp; (try with_reducible rfl))
                              try simp only [Act.put, List.getElem_toArray, List.getElem_cons_succ, List.getElem_cons_zero, List.setIfInBounds_toArray, List.set_cons_zero, List.set_cons_succ]
                              refine wpAnyH_ready (rs := [22]) (by kernel_rfl) (by simp) ?_
                              refine AllReadyH.cons (o := _) rfl (fun K hK => ?_) (AllReadyH.nil)
                              have bEd : Below wE.heap.size wE (wE.alloc (.cells #[.int .i64 0, .slice none 0 0, .slice none 0 0] 66)) := (Below.refl wE.heap.size wE).alloc (Nat.le_refl _) (.cells #[.int .i64 0, .slice none 0 0, .slice none 0 0] 66)
                              go_simp
                              refine hK.out _ _ ?_ (fun hHeld => ?_)
                              · exact (((HCwE.out.below bEd))).S
                              clear hK K
                              try simp only [Act.put, List.getElem_toArray, List.getElem_cons_succ, List.getElem_cons_zero, List.setIfInBounds_toArray, List.set_cons_zero, List.set_cons_succ]
                              refine wpAnyH_ready (rs := [23]) (by kernel_rfl) (by simp) ?_
                              refine AllReadyH.cons (o := _) rfl (fun K hK => ?_) (AllReadyH.nil)
                              go_simp
                              refine hK.out _ _ ?_ (fun hHeld => ?_)
                              · exact ((HCwE.out.below ((Below.refl _ _).alloc (Nat.le_refl _) (.cells #[.int .i64 pts, .slice A n c, .slice (some ⟨g2, 0, none⟩) (m + 1) d2] 66)))).S
                              clear hK K
                              try simp only [Act.put, List.getElem_toArray, List.getElem_cons_succ, List.getElem_cons_zero, List.setIfInBounds_toArray, List.set_cons_zero, List.set_cons_succ]
                              refine wpAnyH_done (by kernel_rfl) ?_ _
                              go_wp2_with fail
                              go_meet
                              exact ⟨_, some ⟨g2, 0, none⟩, d2, rfl, ⟨HCwE.out.blk.lt, Blk.new_at rfl _ _, ⟨_, own_base (own_below HOwE.out ((Below.refl _ _).alloc (Nat.le_refl _) _)) (by omega)⟩, HCwE.out.below ((Below.refl _ _).alloc (Nat.le_refl _) _)⟩, (HMwE.out.alloc _).mono (by omega)⟩
                            · have bDpd : Below wD.heap.size wD ((wD.alloc (.cells #[.int .i64 x, .int .i64 y, .int .i64 lo, .int .i64 (IntKind.i64.wrap (lo + z))] 105)).alloc (.cells #[.int .i64 0, .slice none 0 0, .slice none 0 0] 66)) := ((Below.refl wD.heap.size wD).alloc (Nat.le_refl _) (.cells #[.int .i64 x, .int .i64 y, .int .i64 lo, .int .i64 (IntKind.i64.wrap (lo + z))] 105)).alloc (by simp) (.cells #[.int .i64 0, .slice none 0 0, .slice none 0 0] 66)
                              go_simp
                              refine hK.out _ _ ?_ (fun hHeld => ?_)
                              · exact (((HCwD.out.below bDpd))).S
                              clear hK K
                              try simp only [Act.put, List.getElem_toArray, List.getElem_cons_succ, List.getElem_cons_zero, List.setIfInBounds_toArray, List.set_cons_zero, List.set_cons_succ]
                              refine wpAnyH_ready (rs := [20]) (by kernel_rfl) (by simp) ?_
                              refine AllReadyH.cons (o := _) rfl (fun K hK => ?_) (AllReadyH.nil)
                              have hqC2 : ∀ k, (Value.slice C1 m d1).ownBlock = some k → k ≠ wD.heap.size + 1 := fun k hk e => by have := (HOwD.out.lt k hk).2; omega
                              refine step_app rowPr (by rfl) _ _ (by rfl) B1 _ m (v4 xs) (by rfl) (own_below HOwD.out bDpd) ⟨wD.heap.size, 0, none⟩ 1 1 (v4 [(x, y, lo, IntKind.i64.wrap (lo + z))]) (by rfl) rfl (fun j u hu => keep ((Below.refl _ _).alloc (Nat.le_refl _) (.cells #[.int .i64 0, .slice none 0 0, .slice none 0 0] 66)) ((cell4 (w := wD) (q := wD.heap.size) rfl (x, y, lo, IntKind.i64.wrap (lo + z)) 105) j u hu)) (v4_one _) (by decide) (by omega) (show B1 ≤ ((wD.alloc (.cells #[.int .i64 x, .int .i64 y, .int .i64 lo, .int .i64 (IntKind.i64.wrap (lo + z))] 105)).alloc (.cells #[.int .i64 0, .slice none 0 0, .slice none 0 0] 66)).heap.size from by first | omega | (simp <;> omega)) ?_
                              intro g2 d2 wE hown2 hgrow2 hat2 hlt2
                              have HCwE := Lib.hid (DlAt.kept ((HCwD.out.below bDpd)) hgrow2 (fun r hr => .inr ⟨by have := (HOwD.out.lt r hr).1; omega, fun e => by have := (HOwD.out.lt r hr).1; have := HCL.out r e; omega⟩))
                              have HMwE := Lib.hid (Mv.grown ((HMwD.out.below bDpd)) hgrow2 (fun r hr => by have := (HOwD.out.lt r hr).1; omega) hR)
                              have HOwE := Lib.hid (show OwnP wE B1 (some ⟨g2, 0, none⟩) (m + 1) d2 (xs ++ [(x, y, lo, IntKind.i64.wrap (lo + z))]) from by show World.ownsRow _ _ _ _ _ _ (v4 _); rw [v4_append]; exact hown2)
                              have HQwE := Lib.hid (show Blk wE (wD.heap.size + 1) 66 #[.int .i64 0, .slice none 0 0, .slice none 0 0] from (hgrow2.block (wD.heap.size + 1) ((Blk.new_at (w := (wD.alloc (.cells #[.int .i64 x, .int .i64 y, .int .i64 lo, .int .i64 (IntKind.i64.wrap (lo + z))] 105))) (q := wD.heap.size + 1) (by simp) 66 #[.int .i64 0, .slice none 0 0, .slice none 0 0])).lt (fun e => hqC2 _ e.symm rfl)).trans (Blk.new_at (w := (wD.alloc (.cells #[.int .i64 x, .int .i64 y, .int .i64 lo, .int .i64 (IntKind.i64.wrap (lo + z))] 105))) (q := wD.heap.size + 1) (by simp) 66 #[.int .i64 0, .slice none 0 0, .slice none 0 0]))
                              have hqE : g2 ≠ wD.heap.size + 1 := by
                                rcases hat2 with h5 | h5
                                · exact hqC2 _ h5
                                · have := ((Blk.new_at (w := (wD.alloc (.cells #[.int .i64 x, .int .i64 y, .int .i64 lo, .int .i64 (IntKind.i64.wrap (lo + z))] 105))) (q := wD.heap.size + 1) (by simp) 66 #[.int .i64 0, .slice none 0 0, .slice none 0 0])).lt; (try simp at h5 this); omega
                              have hqB2 : B1 ≤ wD.heap.size + 1 := by omega
                              clear hown2 hgrow2 hat2 hlt2
                              refine hK.out _ _ ?_ (fun hHeld => ?_)
                              · exact ((HCwE.out)).S
                              clear hK K
                              try simp only [Act.put, List.getElem_toArray, List.getElem_cons_succ, List.getElem_cons_zero, List.setIfInBounds_toArray, List.set_cons_zero, List.set_cons_succ]
                              refine wpAnyH_take (i := 21) (oi := _) (v := ?_) rfl (by kernel_rfl) (by kernel_rfl) (by kernel_rfl) (fun _ _ _ h => h) (Or.inl ⟨by kernel_rfl, ?_⟩) (by assumption) ?_
                              rotate_left
                              · (intro w hSw; (try dsimp only at hSw); go_simp; (try with_reducible rfl))
                              try simp only [Act.put, List.getElem_toArray, List.getElem_cons_succ, List.getElem_cons_zero, List.setIfInBounds_toArray, List.set_cons_zero, List.set_cons_succ]
                              refine wpAnyH_ready (rs := [23]) (by kernel_rfl) (by simp) ?_
                              refine AllReadyH.cons (o := _) rfl (fun K hK => ?_) (AllReadyH.nil)
                              have t0 := (HQwE.out.cell 0).trans rfl
                              have t1 := (HQwE.out.cell 1).trans rfl
                              have t2 := (HQwE.out.cell 2).trans rfl
                              have u0 := HQwE.out.frozen 0
                              have u1 := HQwE.out.frozen 1
                              have u2 := HQwE.out.frozen 2
                              have hql := HQwE.out.lt
                              go_simp
                              refine hK.out _ _ ?_ (fun hHeld => ?_)
                              · exact ((((HCwE.out.setHi (q := wD.heap.size + 1) (by omega) (fun k hk => by have := HCL.out k hk; omega) 0 (.int .i64 pts)).setHi (q := wD.heap.size + 1) (by omega) (fun k hk => by have := HCL.out k hk; omega) 1 (.slice A n c)).setHi (q := wD.heap.size + 1) (by omega) (fun k hk => by have := HCL.out k hk; omega) 2 (.slice (some ⟨g2, 0, none⟩) (m + 1) d2))).S
                              clear hK K
                              try simp only [Act.put, List.getElem_toArray, List.getElem_cons_succ, List.getElem_cons_zero, List.setIfInBounds_toArray, List.set_cons_zero, List.set_cons_succ]
                              refine wpAnyH_done (by kernel_rfl) ?_ _
                              go_wp2_with fail
                              go_meet
                              exact ⟨_, some ⟨g2, 0, none⟩, d2, rfl, ⟨by omega, (((HQwE.out.set_ 0 (.int .i64 pts)).set_ 1 (.slice A n c)).set_ 2 (.slice (some ⟨g2, 0, none⟩) (m + 1) d2)), ⟨_, own_base (OwnP.setHi (OwnP.setHi (OwnP.setHi HOwE.out (fun k hk => by have h6 : g2 = k := Option.some.inj hk; omega) 0 (.int .i64 pts)) (fun k hk => by have h6 : g2 = k := Option.some.inj hk; omega) 1 (.slice A n c)) (fun k hk => by have h6 : g2 = k := Option.some.inj hk; omega) 2 (.slice (some ⟨g2, 0, none⟩) (m + 1) d2)) (by omega)⟩, (((HCwE.out.setHi (q := wD.heap.size + 1) (by omega) (fun k hk => by have := HCL.out k hk; omega) 0 (.int .i64 pts)).setHi (q := wD.heap.size + 1) (by omega) (fun k hk => by have := HCL.out k hk; omega) 1 (.slice A n c)).setHi (q := wD.heap.size + 1) (by omega) (fun k hk => by have := HCL.out k hk; omega) 2 (.slice (some ⟨g2, 0, none⟩) (m + 1) d2))⟩, (((HMwE.out.setNew (P := wD.heap.size + 1) (by omega) hR 0 _).setNew (P := wD.heap.size + 1) (by omega) hR 1 _).setNew (P := wD.heap.size + 1) (by omega) hR 2 _).mono (by omega)⟩
                          · have bDd : Below wD.heap.size wD (wD.alloc (.cells #[.int .i64 0, .slice none 0 0, .slice none 0 0] 66)) := (Below.refl wD.heap.size wD).alloc (Nat.le_refl _) (.cells #[.int .i64 0, .slice none 0 0, .slice none 0 0] 66)
                            go_simp
                            refine hK.out _ _ ?_ (fun hHeld => ?_)
                            · exact (((HCwD.out.below bDd))).S
                            clear hK K
                            try simp only [Act.put, List.getElem_toArray, List.getElem_cons_succ, List.getElem_cons_zero, List.setIfInBounds_toArray, List.set_cons_zero, List.set_cons_succ]
                            refine wpAnyH_ready (rs := [19]) (by kernel_rfl) (by simp) ?_
                            refine AllReadyH.cons (o := _) rfl (fun K hK => ?_) (AllReadyH.nil)
                            have bDdp : Below wD.heap.size wD ((wD.alloc (.cells #[.int .i64 0, .slice none 0 0, .slice none 0 0] 66)).alloc (.cells #[.int .i64 x, .int .i64 y, .int .i64 lo, .int .i64 (IntKind.i64.wrap (lo + z))] 105)) := ((Below.refl wD.heap.size wD).alloc (Nat.le_refl _) (.cells #[.int .i64 0, .slice none 0 0, .slice none 0 0] 66)).alloc (by simp) (.cells #[.int .i64 x, .int .i64 y, .int .i64 lo, .int .i64 (IntKind.i64.wrap (lo + z))] 105)
                            go_simp
                            refine hK.out _ _ ?_ (fun hHeld => ?_)
                            · exact (((HCwD.out.below bDdp))).S
                            clear hK K
                            try simp only [Act.put, List.getElem_toArray, List.getElem_cons_succ, List.getElem_cons_zero, List.setIfInBounds_toArray, List.set_cons_zero, List.set_cons_succ]
                            refine wpAnyH_ready (rs := [20]) (by kernel_rfl) (by simp) ?_
                            refine AllReadyH.cons (o := _) rfl (fun K hK => ?_) (AllReadyH.nil)
                            have hqC2 : ∀ k, (Value.slice C1 m d1).ownBlock = some k → k ≠ wD.heap.size := fun k hk e => by have := (HOwD.out.lt k hk).2; omega
                            refine step_app rowPr (by rfl) _ _ (by rfl) B1 _ m (v4 xs) (by rfl) (own_below HOwD.out bDdp) ⟨wD.heap.size + 1, 0, none⟩ 1 1 (v4 [(x, y, lo, IntKind.i64.wrap (lo + z))]) (by rfl) rfl (cell4 (w := (wD.alloc (.cells #[.int .i64 0, .slice none 0 0, .slice none 0 0] 66))) (q := wD.heap.size + 1) (by simp) (x, y, lo, IntKind.i64.wrap (lo + z)) 105) (v4_one _) (by decide) (by omega) (show B1 ≤ ((wD.alloc (.cells #[.int .i64 0, .slice none 0 0, .slice none 0 0] 66)).alloc (.cells #[.int .i64 x, .int .i64 y, .int .i64 lo, .int .i64 (IntKind.i64.wrap (lo + z))] 105)).heap.size from by first | omega | (simp <;> omega)) ?_
                            intro g2 d2 wE hown2 hgrow2 hat2 hlt2
                            have HCwE := Lib.hid (DlAt.kept ((HCwD.out.below bDdp)) hgrow2 (fun r hr => .inr ⟨by have := (HOwD.out.lt r hr).1; omega, fun e => by have := (HOwD.out.lt r hr).1; have := HCL.out r e; omega⟩))
                            have HMwE := Lib.hid (Mv.grown ((HMwD.out.below bDdp)) hgrow2 (fun r hr => by have := (HOwD.out.lt r hr).1; omega) hR)
                            have HOwE := Lib.hid (show OwnP wE B1 (some ⟨g2, 0, none⟩) (m + 1) d2 (xs ++ [(x, y, lo, IntKind.i64.wrap (lo + z))]) from by show World.ownsRow _ _ _ _ _ _ (v4 _); rw [v4_append]; exact hown2)
                            have HQwE := Lib.hid (show Blk wE (wD.heap.size) 66 #[.int .i64 0, .slice none 0 0, .slice none 0 0] from (hgrow2.block (wD.heap.size) (((Blk.new_at (w := wD) (q := wD.heap.size) rfl 66 #[.int .i64 0, .slice none 0 0, .slice none 0 0]).below ((Below.refl _ _).alloc (Nat.le_refl _) (.cells #[.int .i64 x, .int .i64 y, .int .i64 lo, .int .i64 (IntKind.i64.wrap (lo + z))] 105)) (Blk.new_at (w := wD) (q := wD.heap.size) rfl 66 #[.int .i64 0, .slice none 0 0, .slice none 0 0]).lt)).lt (fun e => hqC2 _ e.symm rfl)).trans ((Blk.new_at (w := wD) (q := wD.heap.size) rfl 66 #[.int .i64 0, .slice none 0 0, .slice none 0 0]).below ((Below.refl _ _).alloc (Nat.le_refl _) (.cells #[.int .i64 x, .int .i64 y, .int .i64 lo, .int .i64 (IntKind.i64.wrap (lo + z))] 105)) (Blk.new_at (w := wD) (q := wD.heap.size) rfl 66 #[.int .i64 0, .slice none 0 0, .slice none 0 0]).lt))
                            have hqE : g2 ≠ wD.heap.size := by
                              rcases hat2 with h5 | h5
                              · exact hqC2 _ h5
                              · have := (((Blk.new_at (w := wD) (q := wD.heap.size) rfl 66 #[.int .i64 0, .slice none 0 0, .slice none 0 0]).below ((Below.refl _ _).alloc (Nat.le_refl _) (.cells #[.int .i64 x, .int .i64 y, .int .i64 lo, .int .i64 (IntKind.i64.wrap (lo + z))] 105)) (Blk.new_at (w := wD) (q := wD.heap.size) rfl 66 #[.int .i64 0, .slice none 0 0, .slice none 0 0]).lt)).lt; (try simp at h5 this); omega
                            have hqB2 : B1 ≤ wD.heap.size := by omega
                            clear hown2 hgrow2 hat2 hlt2
                            refine hK.out _ _ ?_ (fun hHeld => ?_)
                            · exact ((HCwE.out)).S
                            clear hK K
                            try simp only [Act.put, List.getElem_toArray, List.getElem_cons_succ, List.getElem_cons_zero, List.setIfInBounds_toArray, List.set_cons_zero, List.set_cons_succ]
                            refine wpAnyH_take (i := 21) (oi := _) (v := ?_) rfl (by kernel_rfl) (by kernel_rfl) (by kernel_rfl) (fun _ _ _ h => h) (Or.inl ⟨by kernel_rfl, ?_⟩) (by assumption) ?_
                            rotate_left
                            · (intro w hSw; (try dsimp only at hSw); go_simp; (try with_reducible rfl))
                            try simp only [Act.put, List.getElem_toArray, List.getElem_cons_succ, List.getElem_cons_zero, List.setIfInBounds_toArray, List.set_cons_zero, List.set_cons_succ]
                            refine wpAnyH_ready (rs := [23]) (by kernel_rfl) (by simp) ?_
                            refine AllReadyH.cons (o := _) rfl (fun K hK => ?_) (AllReadyH.nil)
                            have t0 := (HQwE.out.cell 0).trans rfl
                            have t1 := (HQwE.out.cell 1).trans rfl
                            have t2 := (HQwE.out.cell 2).trans rfl
                            have u0 := HQwE.out.frozen 0
                            have u1 := HQwE.out.frozen 1
                            have u2 := HQwE.out.frozen 2
                            have hql := HQwE.out.lt
                            go_simp
                            refine hK.out _ _ ?_ (fun hHeld => ?_)
                            · exact ((((HCwE.out.setHi (q := wD.heap.size) (by omega) (fun k hk => by have := HCL.out k hk; omega) 0 (.int .i64 pts)).setHi (q := wD.heap.size) (by omega) (fun k hk => by have := HCL.out k hk; omega) 1 (.slice A n c)).setHi (q := wD.heap.size) (by omega) (fun k hk => by have := HCL.out k hk; omega) 2 (.slice (some ⟨g2, 0, none⟩) (m + 1) d2))).S
                            clear hK K
                            try simp only [Act.put, List.getElem_toArray, List.getElem_cons_succ, List.getElem_cons_zero, List.setIfInBounds_toArray, List.set_cons_zero, List.set_cons_succ]
                            refine wpAnyH_done (by kernel_rfl) ?_ _
                            go_wp2_with fail
                            go_meet
                            exact ⟨_, some ⟨g2, 0, none⟩, d2, rfl, ⟨by omega, (((HQwE.out.set_ 0 (.int .i64 pts)).set_ 1 (.slice A n c)).set_ 2 (.slice (some ⟨g2, 0, none⟩) (m + 1) d2)), ⟨_, own_base (OwnP.setHi (OwnP.setHi (OwnP.setHi HOwE.out (fun k hk => by have h6 : g2 = k := Option.some.inj hk; omega) 0 (.int .i64 pts)) (fun k hk => by have h6 : g2 = k := Option.some.inj hk; omega) 1 (.slice A n c)) (fun k hk => by have h6 : g2 = k := Option.some.inj hk; omega) 2 (.slice (some ⟨g2, 0, none⟩) (m + 1) d2)) (by omega)⟩, (((HCwE.out.setHi (q := wD.heap.size) (by omega) (fun k hk => by have := HCL.out k hk; omega) 0 (.int .i64 pts)).setHi (q := wD.heap.size) (by omega) (fun k hk => by have := HCL.out k hk; omega) 1 (.slice A n c)).setHi (q := wD.heap.size) (by omega) (fun k hk => by have := HCL.out k hk; omega) 2 (.slice (some ⟨g2, 0, none⟩) (m + 1) d2))⟩, (((HMwE.out.setNew (P := wD.heap.size) (by omega) hR 0 _).setNew (P := wD.heap.size) (by omega) hR 1 _).setNew (P := wD.heap.size) (by omega) hR 2 _).mono (by omega)⟩
                        · have bCd : Below wC.heap.size wC (wC.alloc (.cells #[.int .i64 0, .slice none 0 0, .slice none 0 0] 66)) := (Below.refl wC.heap.size wC).alloc (Nat.le_refl _) (.cells #[.int .i64 0, .slice none 0 0, .slice none 0 0] 66)
                          go_simp
                          refine hK.out _ _ ?_ (fun hHeld => ?_)
                          · exact (((HCwC.out.below bCd))).S
                          clear hK K
                          try simp only [Act.put, List.getElem_toArray, List.getElem_cons_succ, List.getElem_cons_zero, List.setIfInBounds_toArray, List.set_cons_zero, List.set_cons_succ]
                          refine wpAnyH_ready (rs := [16]) (by kernel_rfl) (by simp) ?_
                          refine AllReadyH.cons (o := _) rfl (fun K hK => ?_) (AllReadyH.nil)
                          go_simp
                          go_at_call 51; with_reducible refine kPick (pick_any R _ 6 _ (Mv.rdD ((HMwC.out.below bCd))) (by omega)) ?_
                          intro z wD hq1 hq2 hm hs
                          obtain ⟨hz0, hz1⟩ := hq1 (by omega)
                          have HCwD := Lib.hid (DlAt.mv ((HCwC.out.below bCd)) hm)
                          have HMwD := Lib.hid (Mv.trans ((HMwC.out.below bCd)) hm)
                          have HOwD := Lib.hid (own_mv (own_below HOwC.out bCd) (by omega) hm)
                          have hsD : B1 ≤ wD.heap.size := by have := hs; (try simp at this); omega
                          have HQwD := Lib.hid (show Blk wD (wC.heap.size) 66 #[.int .i64 0, .slice none 0 0, .slice none 0 0] from (hm.1.block (wC.heap.size) ((Blk.new_at (w := wC) (q := wC.heap.size) rfl 66 #[.int .i64 0, .slice none 0 0, .slice none 0 0])).lt (fun e => by cases e; omega)).trans (Blk.new_at (w := wC) (q := wC.heap.size) rfl 66 #[.int .i64 0, .slice none 0 0, .slice none 0 0]))
                          have hqC : ∀ k, (Value.slice C1 m d1).ownBlock = some k → k ≠ wC.heap.size := fun k hk e => by have := (HOwC.out.lt k hk).2; omega
                          have hqB : B1 ≤ wC.heap.size := by omega
                          clear hq1 hq2 hm hs
                          go_wp2_with fail
                          refine hK.out _ _ ?_ (fun hHeld => ?_)
                          · exact ((HCwD.out)).S
                          clear hK K
                          try simp only [Act.put, List.getElem_toArray, List.getElem_cons_succ, List.getElem_cons_zero, List.setIfInBounds_toArray, List.set_cons_zero, List.set_cons_succ]
                          refine wpAnyH_take (i := 17) (oi := _) (v := ?_) rfl (by kernel_rfl) (by kernel_rfl) (by kernel_rfl) (fun _ _ _ h => h) (Or.inl ⟨by kernel_rfl, ?_⟩) (by assumption) ?_
                          rotate_left
                          · (intro w hSw; (try dsimp only at hSw); go_simp; (try with_reducible rfl))
                          try simp only [Act.put, List.getElem_toArray, List.getElem_cons_succ, List.getElem_cons_zero, List.setIfInBounds_toArray, List.set_cons_zero, List.set_cons_succ]
                          refine wpAnyH_take (i := 18) (oi := _) (v := ?_) rfl (by kernel_rfl) (by kernel_rfl) (by kernel_rfl) (fun _ _ _ h => h) (Or.inl ⟨by kernel_rfl, ?_⟩) (by assumption) ?_
                          rotate_left
                          · (intro w hSw; (try dsimp only at hSw); go_simp; (try with_reducible rfl))
                          try simp only [Act.put, List.getElem_toArray, List.getElem_cons_succ, List.getElem_cons_zero, List.setIfInBounds_toArray, List.set_cons_zero, List.set_cons_succ]
                          refine wpAnyH_ready (rs := [19]) (by kernel_rfl) (by simp) ?_
                          refine AllReadyH.cons (o := _) rfl (fun K hK => ?_) (AllReadyH.nil)
                          have bDp : Below wD.heap.size wD (wD.alloc (.cells #[.int .i64 x, .int .i64 y, .int .i64 lo, .int .i64 (IntKind.i64.wrap (lo + z))] 105)) := (Below.refl wD.heap.size wD).alloc (Nat.le_refl _) (.cells #[.int .i64 x, .int .i64 y, .int .i64 lo, .int .i64 (IntKind.i64.wrap (lo + z))] 105)
                          go_simp
                          refine hK.out _ _ ?_ (fun hHeld => ?_)
                          · exact (((HCwD.out.below bDp))).S
                          clear hK K
                          try simp only [Act.put, List.getElem_toArray, List.getElem_cons_succ, List.getElem_cons_zero, List.setIfInBounds_toArray, List.set_cons_zero, List.set_cons_succ]
                          refine wpAnyH_ready (rs := [20]) (by kernel_rfl) (by simp) ?_
                          refine AllReadyH.cons (o := _) rfl (fun K hK => ?_) (AllReadyH.nil)
                          have hqC2 := hqC
                          refine step_app rowPr (by rfl) _ _ (by rfl) B1 _ m (v4 xs) (by rfl) (own_below HOwD.out bDp) ⟨wD.heap.size, 0, none⟩ 1 1 (v4 [(x, y, lo, IntKind.i64.wrap (lo + z))]) (by rfl) rfl (cell4 (w := wD) (q := wD.heap.size) rfl (x, y, lo, IntKind.i64.wrap (lo + z)) 105) (v4_one _) (by decide) (by omega) (show B1 ≤ (wD.alloc (.cells #[.int .i64 x, .int .i64 y, .int .i64 lo, .int .i64 (IntKind.i64.wrap (lo + z))] 105)).heap.size from by first | omega | (simp <;> omega)) ?_
                          intro g2 d2 wE hown2 hgrow2 hat2 hlt2
                          have HCwE := Lib.hid (DlAt.kept ((HCwD.out.below bDp)) hgrow2 (fun r hr => .inr ⟨by have := (HOwD.out.lt r hr).1; omega, fun e => by have := (HOwD.out.lt r hr).1; have := HCL.out r e; omega⟩))
                          have HMwE := Lib.hid (Mv.grown ((HMwD.out.below bDp)) hgrow2 (fun r hr => by have := (HOwD.out.lt r hr).1; omega) hR)
                          have HOwE := Lib.hid (show OwnP wE B1 (some ⟨g2, 0, none⟩) (m + 1) d2 (xs ++ [(x, y, lo, IntKind.i64.wrap (lo + z))]) from by show World.ownsRow _ _ _ _ _ _ (v4 _); rw [v4_append]; exact hown2)
                          have HQwE := Lib.hid (show Blk wE (wC.heap.size) 66 #[.int .i64 0, .slice none 0 0, .slice none 0 0] from (hgrow2.block (wC.heap.size) ((HQwD.out.below bDp HQwD.out.lt)).lt (fun e => hqC2 _ e.symm rfl)).trans (HQwD.out.below bDp HQwD.out.lt))
                          have hqE : g2 ≠ wC.heap.size := by
                            rcases hat2 with h5 | h5
                            · exact hqC2 _ h5
                            · have := ((HQwD.out.below bDp HQwD.out.lt)).lt; (try simp at h5 this); omega
                          have hqB2 : B1 ≤ wC.heap.size := by omega
                          clear hown2 hgrow2 hat2 hlt2
                          refine hK.out _ _ ?_ (fun hHeld => ?_)
                          · exact ((HCwE.out)).S
                          clear hK K
                          try simp only [Act.put, List.getElem_toArray, List.getElem_cons_succ, List.getElem_cons_zero, List.setIfInBounds_toArray, List.set_cons_zero, List.set_cons_succ]
                          refine wpAnyH_take (i := 21) (oi := _) (v := ?_) rfl (by kernel_rfl) (by kernel_rfl) (by kernel_rfl) (fun _ _ _ h => h) (Or.inl ⟨by kernel_rfl, ?_⟩) (by assumption) ?_
                          rotate_left
                          · (intro w hSw; (try dsimp only at hSw); go_simp; (try with_reducible rfl))
                          try simp only [Act.put, List.getElem_toArray, List.getElem_cons_succ, List.getElem_cons_zero, List.setIfInBounds_toArray, List.set_cons_zero, List.set_cons_succ]
                          refine wpAnyH_ready (rs := [23]) (by kernel_rfl) (by simp) ?_
                          refine AllReadyH.cons (o := _) rfl (fun K hK => ?_) (AllReadyH.nil)
                          have t0 := (HQwE.out.cell 0).trans rfl
                          have t1 := (HQwE.out.cell 1).trans rfl
                          have t2 := (HQwE.out.cell 2).trans rfl
                          have u0 := HQwE.out.frozen 0
                          have u1 := HQwE.out.frozen 1
                          have u2 := HQwE.out.frozen 2
                          have hql := HQwE.out.lt
                          go_simp
                          refine hK.out _ _ ?_ (fun hHeld => ?_)
                          · exact ((((HCwE.out.setHi (q := wC.heap.size) (by omega) (fun k hk => by have := HCL.out k hk; omega) 0 (.int .i64 pts)).setHi (q := wC.heap.size) (by omega) (fun k hk => by have := HCL.out k hk; omega) 1 (.slice A n c)).setHi (q := wC.heap.size) (by omega) (fun k hk => by have := HCL.out k hk; omega) 2 (.slice (some ⟨g2, 0, none⟩) (m + 1) d2))).S
                          clear hK K
                          try simp only [Act.put, List.getElem_toArray, List.getElem_cons_succ, List.getElem_cons_zero, List.setIfInBounds_toArray, List.set_cons_zero, List.set_cons_succ]
                          refine wpAnyH_done (by kernel_rfl) ?_ _
                          go_wp2_with fail
                          go_meet
                          exact ⟨_, some ⟨g2, 0, none⟩, d2, rfl, ⟨by omega, (((HQwE.out.set_ 0 (.int .i64 pts)).set_ 1 (.slice A n c)).set_ 2 (.slice (some ⟨g2, 0, none⟩) (m + 1) d2)), ⟨_, own_base (OwnP.setHi (OwnP.setHi (OwnP.setHi HOwE.out (fun k hk => by have h6 : g2 = k := Option.some.inj hk; omega) 0 (.int .i64 pts)) (fun k hk => by have h6 : g2 = k := Option.some.inj hk; omega) 1 (.slice A n c)) (fun k hk => by have h6 : g2 = k := Option.some.inj hk; omega) 2 (.slice (some ⟨g2, 0, none⟩) (m + 1) d2)) (by omega)⟩, (((HCwE.out.setHi (q := wC.heap.size) (by omega) (fun k hk => by have := HCL.out k hk; omega) 0 (.int .i64 pts)).setHi (q := wC.heap.size) (by omega) (fun k hk => by have := HCL.out k hk; omega) 1 (.slice A n c)).setHi (q := wC.heap.size) (by omega) (fun k hk => by have := HCL.out k hk; omega) 2 (.slice (some ⟨g2, 0, none⟩) (m + 1) d2))⟩, (((HMwE.out.setNew (P := wC.heap.size) (by omega) hR 0 _).setNew (P := wC.heap.size) (by omega) hR 1 _).setNew (P := wC.heap.size) (by omega) hR 2 _).mono (by omega)⟩
                      · have bBd : Below wB.heap.size wB (wB.alloc (.cells #[.int .i64 0, .slice none 0 0, .slice none 0 0] 66)) := (Below.refl wB.heap.size wB).alloc (Nat.le_refl _) (.cells #[.int .i64 0, .slice none 0 0, .slice none 0 0] 66)
                        go_simp
                        refine hK.out _ _ ?_ (fun hHeld => ?_)
                        · exact (((HCwB.out.below bBd))).S
                        clear hK K
                        try simp only [Act.put, List.getElem_toArray, List.getElem_cons_succ, List.getElem_cons_zero, List.setIfInBounds_toArray, List.set_cons_zero, List.set_cons_succ]
                        refine wpAnyH_ready (rs := [12]) (by kernel_rfl) (by simp) ?_
                        refine AllReadyH.cons (o := _) rfl (fun K hK => ?_) (AllReadyH.nil)
                        go_simp
                        go_at_call 51; with_reducible refine kPick (pick_any R _ pts _ (Mv.rdD ((HMwB.out.below bBd))) (by omega)) ?_
                        intro y wC hq1 hq2 hm hs
                        obtain ⟨hy0, hy1⟩ := hq1 (by omega)
                        have HCwC := Lib.hid (DlAt.mv ((HCwB.out.below bBd)) hm)
                        have HMwC := Lib.hid (Mv.trans ((HMwB.out.below bBd)) hm)
                        have HOwC := Lib.hid (own_mv (own_below HOwB.out bBd) (by omega) hm)
                        have hsC : B1 ≤ wC.heap.size := by have := hs; (try simp at this); omega
                        have HQwC := Lib.hid (show Blk wC (wB.heap.size) 66 #[.int .i64 0, .slice none 0 0, .slice none 0 0] from (hm.1.block (wB.heap.size) ((Blk.new_at (w := wB) (q := wB.heap.size) rfl 66 #[.int .i64 0, .slice none 0 0, .slice none 0 0])).lt (fun e => by cases e; omega)).trans (Blk.new_at (w := wB) (q := wB.heap.size) rfl 66 #[.int .i64 0, .slice none 0 0, .slice none 0 0]))
                        have hqC : ∀ k, (Value.slice C1 m d1).ownBlock = some k → k ≠ wB.heap.size := fun k hk e => by have := (HOwB.out.lt k hk).2; omega
                        have hqB : B1 ≤ wB.heap.size := by omega
                        clear hq1 hq2 hm hs
                        go_wp2_with fail
                        refine hK.out _ _ ?_ (fun hHeld => ?_)
                        · exact ((HCwC.out)).S
                        clear hK K
                        try simp only [Act.put, List.getElem_toArray, List.getElem_cons_succ, List.getElem_cons_zero, List.setIfInBounds_toArray, List.set_cons_zero, List.set_cons_succ]
                        refine wpAnyH_ready (rs := [16]) (by kernel_rfl) (by simp) ?_
                        refine AllReadyH.cons (o := _) rfl (fun K hK => ?_) (AllReadyH.nil)
                        go_simp
                        go_at_call 51; with_reducible refine kPick (pick_any R _ 6 _ (Mv.rdD (HMwC.out)) (by omega)) ?_
                        intro z wD hq1 hq2 hm hs
                        obtain ⟨hz0, hz1⟩ := hq1 (by omega)
                        have HCwD := Lib.hid (DlAt.mv (HCwC.out) hm)
                        have HMwD := Lib.hid (Mv.trans (HMwC.out) hm)
                        have HOwD := Lib.hid (own_mv HOwC.out (by omega) hm)
                        have hsD : B1 ≤ wD.heap.size := by have := hs; (try simp at this); omega
                        have HQwD := Lib.hid (show Blk wD (wB.heap.size) 66 #[.int .i64 0, .slice none 0 0, .slice none 0 0] from (hm.1.block (wB.heap.size) (HQwC.out).lt (fun e => by cases e; omega)).trans HQwC.out)
                        clear hq1 hq2 hm hs
                        go_wp2_with fail
                        refine hK.out _ _ ?_ (fun hHeld => ?_)
                        · exact ((HCwD.out)).S
                        clear hK K
                        try simp only [Act.put, List.getElem_toArray, List.getElem_cons_succ, List.getElem_cons_zero, List.setIfInBounds_toArray, List.set_cons_zero, List.set_cons_succ]
                        refine wpAnyH_take (i := 17) (oi := _) (v := ?_) rfl (by kernel_rfl) (by kernel_rfl) (by kernel_rfl) (fun _ _ _ h => h) (Or.inl ⟨by kernel_rfl, ?_⟩) (by assumption) ?_
                        rotate_left
                        · (intro w hSw; (try dsimp only at hSw); go_simp; (try with_reducible rfl))
                        try simp only [Act.put, List.getElem_toArray, List.getElem_cons_succ, List.getElem_cons_zero, List.setIfInBounds_toArray, List.set_cons_zero, List.set_cons_succ]
                        refine wpAnyH_take (i := 18) (oi := _) (v := ?_) rfl (by kernel_rfl) (by kernel_rfl) (by kernel_rfl) (fun _ _ _ h => h) (Or.inl ⟨by kernel_rfl, ?_⟩) (by assumption) ?_
                        rotate_left
                        · (intro w hSw; (try dsimp only at hSw); go_simp; (try with_reducible rfl))
                        try simp only [Act.put, List.getElem_toArray, List.getElem_cons_succ, List.getElem_cons_zero, List.setIfInBounds_toArray, List.set_cons_zero, List.set_cons_succ]
                        refine wpAnyH_ready (rs := [19]) (by kernel_rfl) (by simp) ?_
                        refine AllReadyH.cons (o := _) rfl (fun K hK => ?_) (AllReadyH.nil)
                        have bDp : Below wD.heap.size wD (wD.alloc (.cells #[.int .i64 x, .int .i64 y, .int .i64 lo, .int .i64 (IntKind.i64.wrap (lo + z))] 105)) := (Below.refl wD.heap.size wD).alloc (Nat.le_refl _) (.cells #[.int .i64 x, .int .i64 y, .int .i64 lo, .int .i64 (IntKind.i64.wrap (lo + z))] 105)
                        go_simp
                        refine hK.out _ _ ?_ (fun hHeld => ?_)
                        · exact (((HCwD.out.below bDp))).S
                        clear hK K
                        try simp only [Act.put, List.getElem_toArray, List.getElem_cons_succ, List.getElem_cons_zero, List.setIfInBounds_toArray, List.set_cons_zero, List.set_cons_succ]
                        refine wpAnyH_ready (rs := [20]) (by kernel_rfl) (by simp) ?_
                        refine AllReadyH.cons (o := _) rfl (fun K hK => ?_) (AllReadyH.nil)
                        have hqC2 := hqC
                        refine step_app rowPr (by rfl) _ _ (by rfl) B1 _ m (v4 xs) (by rfl) (own_below HOwD.out bDp) ⟨wD.heap.size, 0, none⟩ 1 1 (v4 [(x, y, lo, IntKind.i64.wrap (lo + z))]) (by rfl) rfl (cell4 (w := wD) (q := wD.heap.size) rfl (x, y, lo, IntKind.i64.wrap (lo + z)) 105) (v4_one _) (by decide) (by omega) (show B1 ≤ (wD.alloc (.cells #[.int .i64 x, .int .i64 y, .int .i64 lo, .int .i64 (IntKind.i64.wrap (lo + z))] 105)).heap.size from by first | omega | (simp <;> omega)) ?_
                        intro g2 d2 wE hown2 hgrow2 hat2 hlt2
                        have HCwE := Lib.hid (DlAt.kept ((HCwD.out.below bDp)) hgrow2 (fun r hr => .inr ⟨by have := (HOwD.out.lt r hr).1; omega, fun e => by have := (HOwD.out.lt r hr).1; have := HCL.out r e; omega⟩))
                        have HMwE := Lib.hid (Mv.grown ((HMwD.out.below bDp)) hgrow2 (fun r hr => by have := (HOwD.out.lt r hr).1; omega) hR)
                        have HOwE := Lib.hid (show OwnP wE B1 (some ⟨g2, 0, none⟩) (m + 1) d2 (xs ++ [(x, y, lo, IntKind.i64.wrap (lo + z))]) from by show World.ownsRow _ _ _ _ _ _ (v4 _); rw [v4_append]; exact hown2)
                        have HQwE := Lib.hid (show Blk wE (wB.heap.size) 66 #[.int .i64 0, .slice none 0 0, .slice none 0 0] from (hgrow2.block (wB.heap.size) ((HQwD.out.below bDp HQwD.out.lt)).lt (fun e => hqC2 _ e.symm rfl)).trans (HQwD.out.below bDp HQwD.out.lt))
                        have hqE : g2 ≠ wB.heap.size := by
                          rcases hat2 with h5 | h5
                          · exact hqC2 _ h5
                          · have := ((HQwD.out.below bDp HQwD.out.lt)).lt; (try simp at h5 this); omega
                        have hqB2 : B1 ≤ wB.heap.size := by omega
                        clear hown2 hgrow2 hat2 hlt2
                        refine hK.out _ _ ?_ (fun hHeld => ?_)
                        · exact ((HCwE.out)).S
                        clear hK K
                        try simp only [Act.put, List.getElem_toArray, List.getElem_cons_succ, List.getElem_cons_zero, List.setIfInBounds_toArray, List.set_cons_zero, List.set_cons_succ]
                        refine wpAnyH_take (i := 21) (oi := _) (v := ?_) rfl (by kernel_rfl) (by kernel_rfl) (by kernel_rfl) (fun _ _ _ h => h) (Or.inl ⟨by kernel_rfl, ?_⟩) (by assumption) ?_
                        rotate_left
                        · (intro w hSw; (try dsimp only at hSw); go_simp; (try with_reducible rfl))
                        try simp only [Act.put, List.getElem_toArray, List.getElem_cons_succ, List.getElem_cons_zero, List.setIfInBounds_toArray, List.set_cons_zero, List.set_cons_succ]
                        refine wpAnyH_ready (rs := [23]) (by kernel_rfl) (by simp) ?_
                        refine AllReadyH.cons (o := _) rfl (fun K hK => ?_) (AllReadyH.nil)
                        have t0 := (HQwE.out.cell 0).trans rfl
                        have t1 := (HQwE.out.cell 1).trans rfl
                        have t2 := (HQwE.out.cell 2).trans rfl
                        have u0 := HQwE.out.frozen 0
                        have u1 := HQwE.out.frozen 1
                        have u2 := HQwE.out.frozen 2
                        have hql := HQwE.out.lt
                        go_simp
                        refine hK.out _ _ ?_ (fun hHeld => ?_)
                        · exact ((((HCwE.out.setHi (q := wB.heap.size) (by omega) (fun k hk => by have := HCL.out k hk; omega) 0 (.int .i64 pts)).setHi (q := wB.heap.size) (by omega) (fun k hk => by have := HCL.out k hk; omega) 1 (.slice A n c)).setHi (q := wB.heap.size) (by omega) (fun k hk => by have := HCL.out k hk; omega) 2 (.slice (some ⟨g2, 0, none⟩) (m + 1) d2))).S
                        clear hK K
                        try simp only [Act.put, List.getElem_toArray, List.getElem_cons_succ, List.getElem_cons_zero, List.setIfInBounds_toArray, List.set_cons_zero, List.set_cons_succ]
                        refine wpAnyH_done (by kernel_rfl) ?_ _
                        go_wp2_with fail
                        go_meet
                        exact ⟨_, some ⟨g2, 0, none⟩, d2, rfl, ⟨by omega, (((HQwE.out.set_ 0 (.int .i64 pts)).set_ 1 (.slice A n c)).set_ 2 (.slice (some ⟨g2, 0, none⟩) (m + 1) d2)), ⟨_, own_base (OwnP.setHi (OwnP.setHi (OwnP.setHi HOwE.out (fun k hk => by have h6 : g2 = k := Option.some.inj hk; omega) 0 (.int .i64 pts)) (fun k hk => by have h6 : g2 = k := Option.some.inj hk; omega) 1 (.slice A n c)) (fun k hk => by have h6 : g2 = k := Option.some.inj hk; omega) 2 (.slice (some ⟨g2, 0, none⟩) (m + 1) d2)) (by omega)⟩, (((HCwE.out.setHi (q := wB.heap.size) (by omega) (fun k hk => by have := HCL.out k hk; omega) 0 (.int .i64 pts)).setHi (q := wB.heap.size) (by omega) (fun k hk => by have := HCL.out k hk; omega) 1 (.slice A n c)).setHi (q := wB.heap.size) (by omega) (fun k hk => by have := HCL.out k hk; omega) 2 (.slice (some ⟨g2, 0, none⟩) (m + 1) d2))⟩, (((HMwE.out.setNew (P := wB.heap.size) (by omega) hR 0 _).setNew (P := wB.heap.size) (by omega) hR 1 _).setNew (P := wB.heap.size) (by omega) hR 2 _).mono (by omega)⟩
                    · have bAd : Below wA.heap.size wA (wA.alloc (.cells #[.int .i64 0, .slice none 0 0, .slice none 0 0] 66)) := (Below.refl wA.heap.size wA).alloc (Nat.le_refl _) (.cells #[.int .i64 0, .slice none 0 0, .slice none 0 0] 66)
                      go_simp
                      refine hK.out _ _ ?_ (fun hHeld => ?_)
                      · exact (((HCwA.out.below bAd))).S
                      clear hK K
                      try simp only [Act.put, List.getElem_toArray, List.getElem_cons_succ, List.getElem_cons_zero, List.setIfInBounds_toArray, List.set_cons_zero, List.set_cons_succ]
                      refine wpAnyH_ready (rs := [8]) (by kernel_rfl) (by simp) ?_
                      refine AllReadyH.cons (o := _) rfl (fun K hK => ?_) (AllReadyH.nil)
                      go_simp
                      go_at_call 51; with_reducible refine kPick (pick_any R _ pts _ (Mv.rdD ((HMwA.out.below bAd))) (by omega)) ?_
                      intro x wB hq1 hq2 hm hs
                      obtain ⟨hx0, hx1⟩ := hq1 (by omega)
                      have HCwB := Lib.hid (DlAt.mv ((HCwA.out.below bAd)) hm)
                      have HMwB := Lib.hid (Mv.trans ((HMwA.out.below bAd)) hm)
                      have HOwB := Lib.hid (own_mv (own_below HOwA.out bAd) (by omega) hm)
                      have hsB : B1 ≤ wB.heap.size := by have := hs; (try simp at this); omega
                      have HQwB := Lib.hid (show Blk wB (wA.heap.size) 66 #[.int .i64 0, .slice none 0 0, .slice none 0 0] from (hm.1.block (wA.heap.size) ((Blk.new_at (w := wA) (q := wA.heap.size) rfl 66 #[.int .i64 0, .slice none 0 0, .slice none 0 0])).lt (fun e => by cases e; omega)).trans (Blk.new_at (w := wA) (q := wA.heap.size) rfl 66 #[.int .i64 0, .slice none 0 0, .slice none 0 0]))
                      have hqC : ∀ k, (Value.slice C1 m d1).ownBlock = some k → k ≠ wA.heap.size := fun k hk e => by have := (HOwA.out.lt k hk).2; omega
                      have hqB : B1 ≤ wA.heap.size := by omega
                      clear hq1 hq2 hm hs
                      go_wp2_with fail
                      refine hK.out _ _ ?_ (fun hHeld => ?_)
                      · exact ((HCwB.out)).S
                      clear hK K
                      try simp only [Act.put, List.getElem_toArray, List.getElem_cons_succ, List.getElem_cons_zero, List.setIfInBounds_toArray, List.set_cons_zero, List.set_cons_succ]
                      refine wpAnyH_ready (rs := [12]) (by kernel_rfl) (by simp) ?_
                      refine AllReadyH.cons (o := _) rfl (fun K hK => ?_) (AllReadyH.nil)
                      go_simp
                      go_at_call 51; with_reducible refine kPick (pick_any R _ pts _ (Mv.rdD (HMwB.out)) (by omega)) ?_
                      intro y wC hq1 hq2 hm hs
                      obtain ⟨hy0, hy1⟩ := hq1 (by omega)
                      have HCwC := Lib.hid (DlAt.mv (HCwB.out) hm)
                      have HMwC := Lib.hid (Mv.trans (HMwB.out) hm)
                      have HOwC := Lib.hid (own_mv HOwB.out (by omega) hm)
                      have hsC : B1 ≤ wC.heap.size := by have := hs; (try simp at this); omega
                      have HQwC := Lib.hid (show Blk wC (wA.heap.size) 66 #[.int .i64 0, .slice none 0 0, .slice none 0 0] from (hm.1.block (wA.heap.size) (HQwB.out).lt (fun e => by cases e; omega)).trans HQwB.out)
                      clear hq1 hq2 hm hs
                      go_wp2_with fail
                      refine hK.out _ _ ?_ (fun hHeld => ?_)
                      · exact ((HCwC.out)).S
                      clear hK K
                      try simp only [Act.put, List.getElem_toArray, List.getElem_cons_succ, List.getElem_cons_zero, List.setIfInBounds_toArray, List.set_cons_zero, List.set_cons_succ]
                      refine wpAnyH_ready (rs := [16]) (by kernel_rfl) (by simp) ?_
                      refine AllReadyH.cons (o := _) rfl (fun K hK => ?_) (AllReadyH.nil)
                      go_simp
                      go_at_call 51; with_reducible refine kPick (pick_any R _ 6 _ (Mv.rdD (HMwC.out)) (by omega)) ?_
                      intro z wD hq1 hq2 hm hs
                      obtain ⟨hz0, hz1⟩ := hq1 (by omega)
                      have HCwD := Lib.hid (DlAt.mv (HCwC.out) hm)
                      have HMwD := Lib.hid (Mv.trans (HMwC.out) hm)
                      have HOwD := Lib.hid (own_mv HOwC.out (by omega) hm)
                      have hsD : B1 ≤ wD.heap.size := by have := hs; (try simp at this); omega
                      have HQwD := Lib.hid (show Blk wD (wA.heap.size) 66 #[.int .i64 0, .slice none 0 0, .slice none 0 0] from (hm.1.block (wA.heap.size) (HQwC.out).lt (fun e => by cases e; omega)).trans HQwC.out)
                      clear hq1 hq2 hm hs
                      go_wp2_with fail
                      refine hK.out _ _ ?_ (fun hHeld => ?_)
                      · exact ((HCwD.out)).S
                      clear hK K
                      try simp only [Act.put, List.getElem_toArray, List.getElem_cons_succ, List.getElem_cons_zero, List.setIfInBounds_toArray, List.set_cons_zero, List.set_cons_succ]
                      refine wpAnyH_take (i := 17) (oi := _) (v := ?_) rfl (by kernel_rfl) (by kernel_rfl) (by kernel_rfl) (fun _ _ _ h => h) (Or.inl ⟨by kernel_rfl, ?_⟩) (by assumption) ?_
                      rotate_left
                      · (intro w hSw; (try dsimp only at hSw); go_simp; (try with_reducible rfl))
                      try simp only [Act.put, List.getElem_toArray, List.getElem_cons_succ, List.getElem_cons_zero, List.setIfInBounds_toArray, List.set_cons_zero, List.set_cons_succ]
                      refine wpAnyH_take (i := 18) (oi := _) (v := ?_) rfl (by kernel_rfl) (by kernel_rfl) (by kernel_rfl) (fun _ _ _ h => h) (Or.inl ⟨by kernel_rfl, ?_⟩) (by assumption) ?_
                      rotate_left
                      · (intro w hSw; (try dsimp only at hSw); go_simp; (try with_reducible rfl))
                      try simp only [Act.put, List.getElem_toArray, List.getElem_cons_succ, List.getElem_cons_zero, List.setIfInBounds_toArray, List.set_cons_zero, List.set_cons_succ]
                      refine wpAnyH_ready (rs := [19]) (by kernel_rfl) (by simp) ?_
                      refine AllReadyH.cons (o := _) rfl (fun K hK => ?_) (AllReadyH.nil)
                      have bDp : Below wD.heap.size wD (wD.alloc (.cells #[.int .i64 x, .int .i64 y, .int .i64 lo, .int .i64 (IntKind.i64.wrap (lo + z))] 105)) := (Below.refl wD.heap.size wD).alloc (Nat.le_refl _) (.cells #[.int .i64 x, .int .i64 y, .int .i64 lo, .int .i64 (IntKind.i64.wrap (lo + z))] 105)
                      go_simp
                      refine hK.out _ _ ?_ (fun hHeld => ?_)
                      · exact (((HCwD.out.below bDp))).S
                      clear hK K
                      try simp only [Act.put, List.getElem_toArray, List.getElem_cons_succ, List.getElem_cons_zero, List.setIfInBounds_toArray, List.set_cons_zero, List.set_cons_succ]
                      refine wpAnyH_ready (rs := [20]) (by kernel_rfl) (by simp) ?_
                      refine AllReadyH.cons (o := _) rfl (fun K hK => ?_) (AllReadyH.nil)
                      have hqC2 := hqC
                      refine step_app rowPr (by rfl) _ _ (by rfl) B1 _ m (v4 xs) (by rfl) (own_below HOwD.out bDp) ⟨wD.heap.size, 0, none⟩ 1 1 (v4 [(x, y, lo, IntKind.i64.wrap (lo + z))]) (by rfl) rfl (cell4 (w := wD) (q := wD.heap.size) rfl (x, y, lo, IntKind.i64.wrap (lo + z)) 105) (v4_one _) (by decide) (by omega) (show B1 ≤ (wD.alloc (.cells #[.int .i64 x, .int .i64 y, .int .i64 lo, .int .i64 (IntKind.i64.wrap (lo + z))] 105)).heap.size from by first | omega | (simp <;> omega)) ?_
                      intro g2 d2 wE hown2 hgrow2 hat2 hlt2
                      have HCwE := Lib.hid (DlAt.kept ((HCwD.out.below bDp)) hgrow2 (fun r hr => .inr ⟨by have := (HOwD.out.lt r hr).1; omega, fun e => by have := (HOwD.out.lt r hr).1; have := HCL.out r e; omega⟩))
                      have HMwE := Lib.hid (Mv.grown ((HMwD.out.below bDp)) hgrow2 (fun r hr => by have := (HOwD.out.lt r hr).1; omega) hR)
                      have HOwE := Lib.hid (show OwnP wE B1 (some ⟨g2, 0, none⟩) (m + 1) d2 (xs ++ [(x, y, lo, IntKind.i64.wrap (lo + z))]) from by show World.ownsRow _ _ _ _ _ _ (v4 _); rw [v4_append]; exact hown2)
                      have HQwE := Lib.hid (show Blk wE (wA.heap.size) 66 #[.int .i64 0, .slice none 0 0, .slice none 0 0] from (hgrow2.block (wA.heap.size) ((HQwD.out.below bDp HQwD.out.lt)).lt (fun e => hqC2 _ e.symm rfl)).trans (HQwD.out.below bDp HQwD.out.lt))
                      have hqE : g2 ≠ wA.heap.size := by
                        rcases hat2 with h5 | h5
                        · exact hqC2 _ h5
                        · have := ((HQwD.out.below bDp HQwD.out.lt)).lt; (try simp at h5 this); omega
                      have hqB2 : B1 ≤ wA.heap.size := by omega
                      clear hown2 hgrow2 hat2 hlt2
                      refine hK.out _ _ ?_ (fun hHeld => ?_)
                      · exact ((HCwE.out)).S
                      clear hK K
                      try simp only [Act.put, List.getElem_toArray, List.getElem_cons_succ, List.getElem_cons_zero, List.setIfInBounds_toArray, List.set_cons_zero, List.set_cons_succ]
                      refine wpAnyH_take (i := 21) (oi := _) (v := ?_) rfl (by kernel_rfl) (by kernel_rfl) (by kernel_rfl) (fun _ _ _ h => h) (Or.inl ⟨by kernel_rfl, ?_⟩) (by assumption) ?_
                      rotate_left
                      · (intro w hSw; (try dsimp only at hSw); go_simp; (try with_reducible rfl))
                      try simp only [Act.put, List.getElem_toArray, List.getElem_cons_succ, List.getElem_cons_zero, List.setIfInBounds_toArray, List.set_cons_zero, List.set_cons_succ]
                      refine wpAnyH_ready (rs := [23]) (by kernel_rfl) (by simp) ?_
                      refine AllReadyH.cons (o := _) rfl (fun K hK => ?_) (AllReadyH.nil)
                      have t0 := (HQwE.out.cell 0).trans rfl
                      have t1 := (HQwE.out.cell 1).trans rfl
                      have t2 := (HQwE.out.cell 2).trans rfl
                      have u0 := HQwE.out.frozen 0
                      have u1 := HQwE.out.frozen 1
                      have u2 := HQwE.out.frozen 2
                      have hql := HQwE.out.lt
                      go_simp
                      refine hK.out _ _ ?_ (fun hHeld => ?_)
                      · exact ((((HCwE.out.setHi (q := wA.heap.size) (by omega) (fun k hk => by have := HCL.out k hk; omega) 0 (.int .i64 pts)).setHi (q := wA.heap.size) (by omega) (fun k hk => by have := HCL.out k hk; omega) 1 (.slice A n c)).setHi (q := wA.heap.size) (by omega) (fun k hk => by have := HCL.out k hk; omega) 2 (.slice (some ⟨g2, 0, none⟩) (m + 1) d2))).S
                      clear hK K
                      try simp only [Act.put, List.getElem_toArray, List.getElem_cons_succ, List.getElem_cons_zero, List.setIfInBounds_toArray, List.set_cons_zero, List.set_cons_succ]
                      refine wpAnyH_done (by kernel_rfl) ?_ _
                      go_wp2_with fail
                      go_meet
                      exact ⟨_, some ⟨g2, 0, none⟩, d2, rfl, ⟨by omega, (((HQwE.out.set_ 0 (.int .i64 pts)).set_ 1 (.slice A n c)).set_ 2 (.slice (some ⟨g2, 0, none⟩) (m + 1) d2)), ⟨_, own_base (OwnP.setHi (OwnP.setHi (OwnP.setHi HOwE.out (fun k hk => by have h6 : g2 = k := Option.some.inj hk; omega) 0 (.int .i64 pts)) (fun k hk => by have h6 : g2 = k := Option.some.inj hk; omega) 1 (.slice A n c)) (fun k hk => by have h6 : g2 = k := Option.some.inj hk; omega) 2 (.slice (some ⟨g2, 0, none⟩) (m + 1) d2)) (by omega)⟩, (((HCwE.out.setHi (q := wA.heap.size) (by omega) (fun k hk => by have := HCL.out k hk; omega) 0 (.int .i64 pts)).setHi (q := wA.heap.size) (by omega) (fun k hk => by have := HCL.out k hk; omega) 1 (.slice A n c)).setHi (q := wA.heap.size) (by omega) (fun k hk => by have := HCL.out k hk; omega) 2 (.slice (some ⟨g2, 0, none⟩) (m + 1) d2))⟩, (((HMwE.out.setNew (P := wA.heap.size) (by omega) hR 0 _).setNew (P := wA.heap.size) (by omega) hR 1 _).setNew (P := wA.heap.size) (by omega) hR 2 _).mono (by omega)⟩
                  · have bLed : Below wL.heap.size wL ((wL.alloc (.cells #[] 105)).alloc (.cells #[.int .i64 0, .slice none 0 0, .slice none 0 0] 66)) := ((Below.refl wL.heap.size wL).alloc (Nat.le_refl _) (.cells #[] 105)).alloc (by simp) (.cells #[.int .i64 0, .slice none 0 0, .slice none 0 0] 66)
                    go_simp
                    refine hK.out _ _ ?_ (fun hHeld => ?_)
                    · exact ((DlAt.drewD ((HCwL.out.below bLed)))).S
                    clear hK K
                    try simp only [Act.put, List.getElem_toArray, List.getElem_cons_succ, List.getElem_cons_zero, List.setIfInBounds_toArray, List.set_cons_zero, List.set_cons_succ]
                    refine wpAnyH_ready (rs := [4]) (by kernel_rfl) (by simp) ?_
                    refine AllReadyH.cons (o := _) rfl (fun K hK => ?_) (AllReadyH.nil)
                    have hbW := bLed
                    refine step_appX rowPr (by rfl) _ _ (by rfl) B1 _ 0 [] (by rfl) (show World.ownsRow ((wL.alloc (.cells #[] 105)).alloc (.cells #[.int .i64 0, .slice none 0 0, .slice none 0 0] 66)).drew B1 105 4 (.slice (some ⟨wL.heap.size, 0, none⟩) 0 0) 0 [] from own_drewN (own_below (own_lit_atB (w := wL) (q := wL.heap.size) rfl B1 105 4 #[] 0 (by first | omega | (simp <;> omega)) (by decide) rfl) ((Below.refl _ _).alloc (Nat.le_refl _) (.cells #[.int .i64 0, .slice none 0 0, .slice none 0 0] 66))) 1) C m d (v4 xs) (by rfl) HNA.out (by rw [v4_len, HLX.out]) (fun ad e => OwnP.news (show OwnP ((wL.alloc (.cells #[] 105)).alloc (.cells #[.int .i64 0, .slice none 0 0, .slice none 0 0] 66)).drew (D + 1) C m d xs from own_drewN (own_below HXX.out hbW) 1) e) (v4_one _) m (Nat.zero_add _) (v4 xs) (List.nil_append _) (by omega) (show B1 ≤ ((wL.alloc (.cells #[] 105)).alloc (.cells #[.int .i64 0, .slice none 0 0, .slice none 0 0] 66)).heap.size from by first | omega | (simp <;> omega)) ?_
                    intro C1 d1 wA hown1 hgrow1 hat1
                    have hrow1 : ∀ r, (Value.slice (some ⟨wL.heap.size, 0, none⟩) 0 0).ownBlock = some r → B1 ≤ r := fun r hr => by have h5 : wL.heap.size = r := Option.some.inj hr; omega
                    have HCwA := Lib.hid (DlAt.kept (DlAt.drewD ((HCwL.out.below bLed))) hgrow1 (fun r hr => .inr ⟨by have := hrow1 r hr; omega, fun e => by have := hrow1 r hr; have := HCL.out r e; omega⟩))
                    have HMwA := Lib.hid (Mv.grown (Mv.drewD ((HMwL.out.below bLed))) hgrow1 (fun r hr => by have := hrow1 r hr; omega) hR)
                    have HOwA := Lib.hid hown1
                    have HQwA := Lib.hid (show Blk wA (wL.heap.size + 1) 66 #[.int .i64 0, .slice none 0 0, .slice none 0 0] from (hgrow1.block (wL.heap.size + 1) (show wL.heap.size + 1 < ((wL.alloc (.cells #[] 105)).alloc (.cells #[.int .i64 0, .slice none 0 0, .slice none 0 0] 66)).heap.size from by first | omega | (simp <;> omega)) (by intro h5; have h6 : wL.heap.size + 1 = wL.heap.size := Option.some.inj h5; omega)).trans (show Blk ((wL.alloc (.cells #[] 105)).alloc (.cells #[.int .i64 0, .slice none 0 0, .slice none 0 0] 66)) (wL.heap.size + 1) _ _ from (Blk.new_at (w := (wL.alloc (.cells #[] 105))) (q := wL.heap.size + 1) (by simp) 66 #[.int .i64 0, .slice none 0 0, .slice none 0 0])))
                    have hqC : ∀ k, (Value.slice C1 m d1).ownBlock = some k → k ≠ wL.heap.size + 1 := fun k hk e => by
                      rcases hat1 with h5 | h5
                      · have h6 : k = wL.heap.size := Option.some.inj (hk.symm.trans h5); omega
                      · have h6 : k = ((wL.alloc (.cells #[] 105)).alloc (.cells #[.int .i64 0, .slice none 0 0, .slice none 0 0] 66)).heap.size := Option.some.inj (hk.symm.trans h5); simp at h6 <;> omega
                    have hqB : B1 ≤ wL.heap.size + 1 := by omega
                    have hsA : B1 ≤ wA.heap.size := by have := HCwA.out.blk.lt; have := hgrow1.size; (try simp at this); omega
                    clear hown1 hgrow1 hat1 hrow1 hbW
                    refine hK.out _ _ ?_ (fun hHeld => ?_)
                    · exact ((HCwA.out)).S
                    clear hK K
                    try simp only [Act.put, List.getElem_toArray, List.getElem_cons_succ, List.getElem_cons_zero, List.setIfInBounds_toArray, List.set_cons_zero, List.set_cons_succ]
                    refine wpAnyH_ready (rs := [8]) (by kernel_rfl) (by simp) ?_
                    refine AllReadyH.cons (o := _) rfl (fun K hK => ?_) (AllReadyH.nil)
                    go_simp
                    go_at_call 51; with_reducible refine kPick (pick_any R _ pts _ (Mv.rdD (HMwA.out)) (by omega)) ?_
                    intro x wB hq1 hq2 hm hs
                    obtain ⟨hx0, hx1⟩ := hq1 (by omega)
                    have HCwB := Lib.hid (DlAt.mv (HCwA.out) hm)
                    have HMwB := Lib.hid (Mv.trans (HMwA.out) hm)
                    have HOwB := Lib.hid (own_mv HOwA.out (by omega) hm)
                    have hsB : B1 ≤ wB.heap.size := by have := hs; (try simp at this); omega
                    have HQwB := Lib.hid (show Blk wB (wL.heap.size + 1) 66 #[.int .i64 0, .slice none 0 0, .slice none 0 0] from (hm.1.block (wL.heap.size + 1) (HQwA.out).lt (fun e => by cases e; omega)).trans HQwA.out)
                    clear hq1 hq2 hm hs
                    go_wp2_with fail
                    refine hK.out _ _ ?_ (fun hHeld => ?_)
                    · exact ((HCwB.out)).S
                    clear hK K
                    try simp only [Act.put, List.getElem_toArray, List.getElem_cons_succ, List.getElem_cons_zero, List.setIfInBounds_toArray, List.set_cons_zero, List.set_cons_succ]
                    refine wpAnyH_ready (rs := [12]) (by kernel_rfl) (by simp) ?_
                    refine AllReadyH.cons (o := _) rfl (fun K hK => ?_) (AllReadyH.nil)
                    go_simp
                    go_at_call 51; with_reducible refine kPick (pick_any R _ pts _ (Mv.rdD (HMwB.out)) (by omega)) ?_
                    intro y wC hq1 hq2 hm hs
                    obtain ⟨hy0, hy1⟩ := hq1 (by omega)
                    have HCwC := Lib.hid (DlAt.mv (HCwB.out) hm)
                    have HMwC := Lib.hid (Mv.trans (HMwB.out) hm)
                    have HOwC := Lib.hid (own_mv HOwB.out (by omega) hm)
                    have hsC : B1 ≤ wC.heap.size := by have := hs; (try simp at this); omega
                    have HQwC := Lib.hid (show Blk wC (wL.heap.size + 1) 66 #[.int .i64 0, .slice none 0 0, .slice none 0 0] from (hm.1.block (wL.heap.size + 1) (HQwB.out).lt (fun e => by cases e; omega)).trans HQwB.out)
                    clear hq1 hq2 hm hs
                    go_wp2_with fail
                    refine hK.out _ _ ?_ (fun hHeld => ?_)
                    · exact ((HCwC.out)).S
                    clear hK K
                    try simp only [Act.put, List.getElem_toArray, List.getElem_cons_succ, List.getElem_cons_zero, List.setIfInBounds_toArray, List.set_cons_zero, List.set_cons_succ]
                    refine wpAnyH_ready (rs := [16]) (by kernel_rfl) (by simp) ?_
                    refine AllReadyH.cons (o := _) rfl (fun K hK => ?_) (AllReadyH.nil)
                    go_simp
                    go_at_call 51; with_reducible refine kPick (pick_any R _ 6 _ (Mv.rdD (HMwC.out)) (by omega)) ?_
                    intro z wD hq1 hq2 hm hs
                    obtain ⟨hz0, hz1⟩ := hq1 (by omega)
                    have HCwD := Lib.hid (DlAt.mv (HCwC.out) hm)
                    have HMwD := Lib.hid (Mv.trans (HMwC.out) hm)
                    have HOwD := Lib.hid (own_mv HOwC.out (by omega) hm)
                    have hsD : B1 ≤ wD.heap.size := by have := hs; (try simp at this); omega
                    have HQwD := Lib.hid (show Blk wD (wL.heap.size + 1) 66 #[.int .i64 0, .slice none 0 0, .slice none 0 0] from (hm.1.block (wL.heap.size + 1) (HQwC.out).lt (fun e => by cases e; omega)).trans HQwC.out)
                    clear hq1 hq2 hm hs
                    go_wp2_with fail
                    refine hK.out _ _ ?_ (fun hHeld => ?_)
                    · exact ((HCwD.out)).S
                    clear hK K
                    try simp only [Act.put, List.getElem_toArray, List.getElem_cons_succ, List.getElem_cons_zero, List.setIfInBounds_toArray, List.set_cons_zero, List.set_cons_succ]
                    refine wpAnyH_take (i := 17) (oi := _) (v := ?_) rfl (by kernel_rfl) (by kernel_rfl) (by kernel_rfl) (fun _ _ _ h => h) (Or.inl ⟨by kernel_rfl, ?_⟩) (by assumption) ?_
                    rotate_left
                    · (intro w hSw; (try dsimp only at hSw); go_simp; (try with_reducible rfl))
                    try simp only [Act.put, List.getElem_toArray, List.getElem_cons_succ, List.getElem_cons_zero, List.setIfInBounds_toArray, List.set_cons_zero, List.set_cons_succ]
                    refine wpAnyH_take (i := 18) (oi := _) (v := ?_) rfl (by kernel_rfl) (by kernel_rfl) (by kernel_rfl) (fun _ _ _ h => h) (Or.inl ⟨by kernel_rfl, ?_⟩) (by assumption) ?_
                    rotate_left
                    · (intro w hSw; (try dsimp only at hSw); go_simp; (try with_reducible rfl))
                    try simp only [Act.put, List.getElem_toArray, List.getElem_cons_succ, List.getElem_cons_zero, List.setIfInBounds_toArray, List.set_cons_zero, List.set_cons_succ]
                    refine wpAnyH_ready (rs := [19]) (by kernel_rfl) (by simp) ?_
                    refine AllReadyH.cons (o := _) rfl (fun K hK => ?_) (AllReadyH.nil)
                    have bDp : Below wD.heap.size wD (wD.alloc (.cells #[.int .i64 x, .int .i64 y, .int .i64 lo, .int .i64 (IntKind.i64.wrap (lo + z))] 105)) := (Below.refl wD.heap.size wD).alloc (Nat.le_refl _) (.cells #[.int .i64 x, .int .i64 y, .int .i64 lo, .int .i64 (IntKind.i64.wrap (lo + z))] 105)
                    go_simp
                    refine hK.out _ _ ?_ (fun hHeld => ?_)
                    · exact (((HCwD.out.below bDp))).S
                    clear hK K
                    try simp only [Act.put, List.getElem_toArray, List.getElem_cons_succ, List.getElem_cons_zero, List.setIfInBounds_toArray, List.set_cons_zero, List.set_cons_succ]
                    refine wpAnyH_ready (rs := [20]) (by kernel_rfl) (by simp) ?_
                    refine AllReadyH.cons (o := _) rfl (fun K hK => ?_) (AllReadyH.nil)
                    have hqC2 := hqC
                    refine step_app rowPr (by rfl) _ _ (by rfl) B1 _ m (v4 xs) (by rfl) (own_below HOwD.out bDp) ⟨wD.heap.size, 0, none⟩ 1 1 (v4 [(x, y, lo, IntKind.i64.wrap (lo + z))]) (by rfl) rfl (cell4 (w := wD) (q := wD.heap.size) rfl (x, y, lo, IntKind.i64.wrap (lo + z)) 105) (v4_one _) (by decide) (by omega) (show B1 ≤ (wD.alloc (.cells #[.int .i64 x, .int .i64 y, .int .i64 lo, .int .i64 (IntKind.i64.wrap (lo + z))] 105)).heap.size from by first | omega | (simp <;> omega)) ?_
                    intro g2 d2 wE hown2 hgrow2 hat2 hlt2
                    have HCwE := Lib.hid (DlAt.kept ((HCwD.out.below bDp)) hgrow2 (fun r hr => .inr ⟨by have := (HOwD.out.lt r hr).1; omega, fun e => by have := (HOwD.out.lt r hr).1; have := HCL.out r e; omega⟩))
                    have HMwE := Lib.hid (Mv.grown ((HMwD.out.below bDp)) hgrow2 (fun r hr => by have := (HOwD.out.lt r hr).1; omega) hR)
                    have HOwE := Lib.hid (show OwnP wE B1 (some ⟨g2, 0, none⟩) (m + 1) d2 (xs ++ [(x, y, lo, IntKind.i64.wrap (lo + z))]) from by show World.ownsRow _ _ _ _ _ _ (v4 _); rw [v4_append]; exact hown2)
                    have HQwE := Lib.hid (show Blk wE (wL.heap.size + 1) 66 #[.int .i64 0, .slice none 0 0, .slice none 0 0] from (hgrow2.block (wL.heap.size + 1) ((HQwD.out.below bDp HQwD.out.lt)).lt (fun e => hqC2 _ e.symm rfl)).trans (HQwD.out.below bDp HQwD.out.lt))
                    have hqE : g2 ≠ wL.heap.size + 1 := by
                      rcases hat2 with h5 | h5
                      · exact hqC2 _ h5
                      · have := ((HQwD.out.below bDp HQwD.out.lt)).lt; (try simp at h5 this); omega
                    have hqB2 : B1 ≤ wL.heap.size + 1 := by omega
                    clear hown2 hgrow2 hat2 hlt2
                    refine hK.out _ _ ?_ (fun hHeld => ?_)
                    · exact ((HCwE.out)).S
                    clear hK K
                    try simp only [Act.put, List.getElem_toArray, List.getElem_cons_succ, List.getElem_cons_zero, List.setIfInBounds_toArray, List.set_cons_zero, List.set_cons_succ]
                    refine wpAnyH_take (i := 21) (oi := _) (v := ?_) rfl (by kernel_rfl) (by kernel_rfl) (by kernel_rfl) (fun _ _ _ h => h) (Or.inl ⟨by kernel_rfl, ?_⟩) (by assumption) ?_
                    rotate_left
                    · (intro w hSw; (try dsimp only at hSw); go_simp; (try with_reducible rfl))
                    try simp only [Act.put, List.getElem_toArray, List.getElem_cons_succ, List.getElem_cons_zero, List.setIfInBounds_toArray, List.set_cons_zero, List.set_cons_succ]
                    refine wpAnyH_ready (rs := [23]) (by kernel_rfl) (by simp) ?_
                    refine AllReadyH.cons (o := _) rfl (fun K hK => ?_) (AllReadyH.nil)
                    have t0 := (HQwE.out.cell 0).trans rfl
                    have t1 := (HQwE.out.cell 1).trans rfl
                    have t2 := (HQwE.out.cell 2).trans rfl
                    have u0 := HQwE.out.frozen 0
                    have u1 := HQwE.out.frozen 1
                    have u2 := HQwE.out.frozen 2
                    have hql := HQwE.out.lt
                    go_simp
                    refine hK.out _ _ ?_ (fun hHeld => ?_)
                    · exact ((((HCwE.out.setHi (q := wL.heap.size + 1) (by omega) (fun k hk => by have := HCL.out k hk; omega) 0 (.int .i64 pts)).setHi (q := wL.heap.size + 1) (by omega) (fun k hk => by have := HCL.out k hk; omega) 1 (.slice A n c)).setHi (q := wL.heap.size + 1) (by omega) (fun k hk => by have := HCL.out k hk; omega) 2 (.slice (some ⟨g2, 0, none⟩) (m + 1) d2))).S
                    clear hK K
                    try simp only [Act.put, List.getElem_toArray, List.getElem_cons_succ, List.getElem_cons_zero, List.setIfInBounds_toArray, List.set_cons_zero, List.set_cons_succ]
                    refine wpAnyH_done (by kernel_rfl) ?_ _
                    go_wp2_with fail
                    go_meet
                    exact ⟨_, some ⟨g2, 0, none⟩, d2, rfl, ⟨by omega, (((HQwE.out.set_ 0 (.int .i64 pts)).set_ 1 (.slice A n c)).set_ 2 (.slice (some ⟨g2, 0, none⟩) (m + 1) d2)), ⟨_, own_base (OwnP.setHi (OwnP.setHi (OwnP.setHi HOwE.out (fun k hk => by have h6 : g2 = k := Option.some.inj hk; omega) 0 (.int .i64 pts)) (fun k hk => by have h6 : g2 = k := Option.some.inj hk; omega) 1 (.slice A n c)) (fun k hk => by have h6 : g2 = k := Option.some.inj hk; omega) 2 (.slice (some ⟨g2, 0, none⟩) (m + 1) d2)) (by omega)⟩, (((HCwE.out.setHi (q := wL.heap.size + 1) (by omega) (fun k hk => by have := HCL.out k hk; omega) 0 (.int .i64 pts)).setHi (q := wL.heap.size + 1) (by omega) (fun k hk => by have := HCL.out k hk; omega) 1 (.slice A n c)).setHi (q := wL.heap.size + 1) (by omega) (fun k hk => by have := HCL.out k hk; omega) 2 (.slice (some ⟨g2, 0, none⟩) (m + 1) d2))⟩, (((HMwE.out.setNew (P := wL.heap.size + 1) (by omega) hR 0 _).setNew (P := wL.heap.size + 1) (by omega) hR 1 _).setNew (P := wL.heap.size + 1) (by omega) hR 2 _).mono (by omega)⟩
                · have bLd : Below wL.heap.size wL (wL.alloc (.cells #[.int .i64 0, .slice none 0 0, .slice none 0 0] 66)) := (Below.refl wL.heap.size wL).alloc (Nat.le_refl _) (.cells #[.int .i64 0, .slice none 0 0, .slice none 0 0] 66)
                  go_simp
                  refine hK.out _ _ ?_ (fun hHeld => ?_)
                  · exact ((DlAt.drewD ((HCwL.out.below bLd)))).S
                  clear hK K
                  try simp only [Act.put, List.getElem_toArray, List.getElem_cons_succ, List.getElem_cons_zero, List.setIfInBounds_toArray, List.set_cons_zero, List.set_cons_succ]
                  refine wpAnyH_ready (rs := [1]) (by kernel_rfl) (by simp) ?_
                  refine AllReadyH.cons (o := _) rfl (fun K hK => ?_) (AllReadyH.nil)
                  have bLde : Below wL.heap.size wL ((wL.alloc (.cells #[.int .i64 0, .slice none 0 0, .slice none 0 0] 66)).alloc (.cells #[] 105)) := ((Below.refl wL.heap.size wL).alloc (Nat.le_refl _) (.cells #[.int .i64 0, .slice none 0 0, .slice none 0 0] 66)).alloc (by simp) (.cells #[] 105)
                  go_simp
                  refine hK.out _ _ ?_ (fun hHeld => ?_)
                  · exact ((DlAt.drewD ((HCwL.out.below bLde)))).S
                  clear hK K
                  try simp only [Act.put, List.getElem_toArray, List.getElem_cons_succ, List.getElem_cons_zero, List.setIfInBounds_toArray, List.set_cons_zero, List.set_cons_succ]
                  refine wpAnyH_ready (rs := [4]) (by kernel_rfl) (by simp) ?_
                  refine AllReadyH.cons (o := _) rfl (fun K hK => ?_) (AllReadyH.nil)
                  have hbW := bLde
                  refine step_appX rowPr (by rfl) _ _ (by rfl) B1 _ 0 [] (by rfl) (show World.ownsRow ((wL.alloc (.cells #[.int .i64 0, .slice none 0 0, .slice none 0 0] 66)).alloc (.cells #[] 105)).drew B1 105 4 (.slice (some ⟨wL.heap.size + 1, 0, none⟩) 0 0) 0 [] from own_drewN (own_lit_atB (w := (wL.alloc (.cells #[.int .i64 0, .slice none 0 0, .slice none 0 0] 66))) (q := wL.heap.size + 1) (by simp) B1 105 4 #[] 0 (by first | omega | (simp <;> omega)) (by decide) rfl) 1) C m d (v4 xs) (by rfl) HNA.out (by rw [v4_len, HLX.out]) (fun ad e => OwnP.news (show OwnP ((wL.alloc (.cells #[.int .i64 0, .slice none 0 0, .slice none 0 0] 66)).alloc (.cells #[] 105)).drew (D + 1) C m d xs from own_drewN (own_below HXX.out hbW) 1) e) (v4_one _) m (Nat.zero_add _) (v4 xs) (List.nil_append _) (by omega) (show B1 ≤ ((wL.alloc (.cells #[.int .i64 0, .slice none 0 0, .slice none 0 0] 66)).alloc (.cells #[] 105)).heap.size from by first | omega | (simp <;> omega)) ?_
                  intro C1 d1 wA hown1 hgrow1 hat1
                  have hrow1 : ∀ r, (Value.slice (some ⟨wL.heap.size + 1, 0, none⟩) 0 0).ownBlock = some r → B1 ≤ r := fun r hr => by have h5 : wL.heap.size + 1 = r := Option.some.inj hr; omega
                  have HCwA := Lib.hid (DlAt.kept (DlAt.drewD ((HCwL.out.below bLde))) hgrow1 (fun r hr => .inr ⟨by have := hrow1 r hr; omega, fun e => by have := hrow1 r hr; have := HCL.out r e; omega⟩))
                  have HMwA := Lib.hid (Mv.grown (Mv.drewD ((HMwL.out.below bLde))) hgrow1 (fun r hr => by have := hrow1 r hr; omega) hR)
                  have HOwA := Lib.hid hown1
                  have HQwA := Lib.hid (show Blk wA (wL.heap.size) 66 #[.int .i64 0, .slice none 0 0, .slice none 0 0] from (hgrow1.block (wL.heap.size) (show wL.heap.size < ((wL.alloc (.cells #[.int .i64 0, .slice none 0 0, .slice none 0 0] 66)).alloc (.cells #[] 105)).heap.size from by first | omega | (simp <;> omega)) (by intro h5; have h6 : wL.heap.size = wL.heap.size + 1 := Option.some.inj h5; omega)).trans (show Blk ((wL.alloc (.cells #[.int .i64 0, .slice none 0 0, .slice none 0 0] 66)).alloc (.cells #[] 105)) (wL.heap.size) _ _ from ((Blk.new_at (w := wL) (q := wL.heap.size) rfl 66 #[.int .i64 0, .slice none 0 0, .slice none 0 0]).below ((Below.refl _ _).alloc (Nat.le_refl _) (.cells #[] 105)) (Blk.new_at (w := wL) (q := wL.heap.size) rfl 66 #[.int .i64 0, .slice none 0 0, .slice none 0 0]).lt)))
                  have hqC : ∀ k, (Value.slice C1 m d1).ownBlock = some k → k ≠ wL.heap.size := fun k hk e => by
                    rcases hat1 with h5 | h5
                    · have h6 : k = wL.heap.size + 1 := Option.some.inj (hk.symm.trans h5); omega
                    · have h6 : k = ((wL.alloc (.cells #[.int .i64 0, .slice none 0 0, .slice none 0 0] 66)).alloc (.cells #[] 105)).heap.size := Option.some.inj (hk.symm.trans h5); simp at h6 <;> omega
                  have hqB : B1 ≤ wL.heap.size := by omega
                  have hsA : B1 ≤ wA.heap.size := by have := HCwA.out.blk.lt; have := hgrow1.size; (try simp at this); omega
                  clear hown1 hgrow1 hat1 hrow1 hbW
                  refine hK.out _ _ ?_ (fun hHeld => ?_)
                  · exact ((HCwA.out)).S
                  clear hK K
                  try simp only [Act.put, List.getElem_toArray, List.getElem_cons_succ, List.getElem_cons_zero, List.setIfInBounds_toArray, List.set_cons_zero, List.set_cons_succ]
                  refine wpAnyH_ready (rs := [8]) (by kernel_rfl) (by simp) ?_
                  refine AllReadyH.cons (o := _) rfl (fun K hK => ?_) (AllReadyH.nil)
                  go_simp
                  go_at_call 51; with_reducible refine kPick (pick_any R _ pts _ (Mv.rdD (HMwA.out)) (by omega)) ?_
                  intro x wB hq1 hq2 hm hs
                  obtain ⟨hx0, hx1⟩ := hq1 (by omega)
                  have HCwB := Lib.hid (DlAt.mv (HCwA.out) hm)
                  have HMwB := Lib.hid (Mv.trans (HMwA.out) hm)
                  have HOwB := Lib.hid (own_mv HOwA.out (by omega) hm)
                  have hsB : B1 ≤ wB.heap.size := by have := hs; (try simp at this); omega
                  have HQwB := Lib.hid (show Blk wB (wL.heap.size) 66 #[.int .i64 0, .slice none 0 0, .slice none 0 0] from (hm.1.block (wL.heap.size) (HQwA.out).lt (fun e => by cases e; omega)).trans HQwA.out)
                  clear hq1 hq2 hm hs
                  go_wp2_with fail
                  refine hK.out _ _ ?_ (fun hHeld => ?_)
                  · exact ((HCwB.out)).S
                  clear hK K
                  try simp only [Act.put, List.getElem_toArray, List.getElem_cons_succ, List.getElem_cons_zero, List.setIfInBounds_toArray, List.set_cons_zero, List.set_cons_succ]
                  refine wpAnyH_ready (rs := [12]) (by kernel_rfl) (by simp) ?_
                  refine AllReadyH.cons (o := _) rfl (fun K hK => ?_) (AllReadyH.nil)
                  go_simp
                  go_at_call 51; with_reducible refine kPick (pick_any R _ pts _ (Mv.rdD (HMwB.out)) (by omega)) ?_
                  intro y wC hq1 hq2 hm hs
                  obtain ⟨hy0, hy1⟩ := hq1 (by omega)
                  have HCwC := Lib.hid (DlAt.mv (HCwB.out) hm)
                  have HMwC := Lib.hid (Mv.trans (HMwB.out) hm)
                  have HOwC := Lib.hid (own_mv HOwB.out (by omega) hm)
                  have hsC : B1 ≤ wC.heap.size := by have := hs; (try simp at this); omega
                  have HQwC := Lib.hid (show Blk wC (wL.heap.size) 66 #[.int .i64 0, .slice none 0 0, .slice none 0 0] from (hm.1.block (wL.heap.size) (HQwB.out).lt (fun e => by cases e; omega)).trans HQwB.out)
                  clear hq1 hq2 hm hs
                  go_wp2_with fail
                  refine hK.out _ _ ?_ (fun hHeld => ?_)
                  · exact ((HCwC.out)).S
                  clear hK K
                  try simp only [Act.put, List.getElem_toArray, List.getElem_cons_succ, List.getElem_cons_zero, List.setIfInBounds_toArray, List.set_cons_zero, List.set_cons_succ]
                  refine wpAnyH_ready (rs := [16]) (by kernel_rfl) (by simp) ?_
                  refine AllReadyH.cons (o := _) rfl (fun K hK => ?_) (AllReadyH.nil)
                  go_simp
                  go_at_call 51; with_reducible refine kPick (pick_any R _ 6 _ (Mv.rdD (HMwC.out)) (by omega)) ?_
                  intro z wD hq1 hq2 hm hs
                  obtain ⟨hz0, hz1⟩ := hq1 (by omega)
                  have HCwD := Lib.hid (DlAt.mv (HCwC.out) hm)
                  have HMwD := Lib.hid (Mv.trans (HMwC.out) hm)
                  have HOwD := Lib.hid (own_mv HOwC.out (by omega) hm)
                  have hsD : B1 ≤ wD.heap.size := by have := hs; (try simp at this); omega
                  have HQwD := Lib.hid (show Blk wD (wL.heap.size) 66 #[.int .i64 0, .slice none 0 0, .slice none 0 0] from (hm.1.block (wL.heap.size) (HQwC.out).lt (fun e => by cases e; omega)).trans HQwC.out)
                  clear hq1 hq2 hm hs
                  go_wp2_with fail
                  refine hK.out _ _ ?_ (fun hHeld => ?_)
                  · exact ((HCwD.out)).S
                  clear hK K
                  try simp only [Act.put, List.getElem_toArray, List.getElem_cons_succ, List.getElem_cons_zero, List.setIfInBounds_toArray, List.set_cons_zero, List.set_cons_succ]
                  refine wpAnyH_take (i := 17) (oi := _) (v := ?_) rfl (by kernel_rfl) (by kernel_rfl) (by kernel_rfl) (fun _ _ _ h => h) (Or.inl ⟨by kernel_rfl, ?_⟩) (by assumption) ?_
                  rotate_left
                  · (intro w hSw; (try dsimp only at hSw); go_simp; (try with_reducible rfl))
                  try simp only [Act.put, List.getElem_toArray, List.getElem_cons_succ, List.getElem_cons_zero, List.setIfInBounds_toArray, List.set_cons_zero, List.set_cons_succ]
                  refine wpAnyH_take (i := 18) (oi := _) (v := ?_) rfl (by kernel_rfl) (by kernel_rfl) (by kernel_rfl) (fun _ _ _ h => h) (Or.inl ⟨by kernel_rfl, ?_⟩) (by assumption) ?_
                  rotate_left
                  · (intro w hSw; (try dsimp only at hSw); go_simp; (try with_reducible rfl))
                  try simp only [Act.put, List.getElem_toArray, List.getElem_cons_succ, List.getElem_cons_zero, List.setIfInBounds_toArray, List.set_cons_zero, List.set_cons_succ]
                  refine wpAnyH_ready (rs := [19]) (by kernel_rfl) (by simp) ?_
                  refine AllReadyH.cons (o := _) rfl (fun K hK => ?_) (AllReadyH.nil)
                  have bDp : Below wD.heap.size wD (wD.alloc (.cells #[.int .i64 x, .int .i64 y, .int .i64 lo, .int .i64 (IntKind.i64.wrap (lo + z))] 105)) := (Below.refl wD.heap.size wD).alloc (Nat.le_refl _) (.cells #[.int .i64 x, .int .i64 y, .int .i64 lo, .int .i64 (IntKind.i64.wrap (lo + z))] 105)
                  go_simp
                  refine hK.out _ _ ?_ (fun hHeld => ?_)
                  · exact (((HCwD.out.below bDp))).S
                  clear hK K
                  try simp only [Act.put, List.getElem_toArray, List.getElem_cons_succ, List.getElem_cons_zero, List.setIfInBounds_toArray, List.set_cons_zero, List.set_cons_succ]
                  refine wpAnyH_ready (rs := [20]) (by kernel_rfl) (by simp) ?_
                  refine AllReadyH.cons (o := _) rfl (fun K hK => ?_) (AllReadyH.nil)
                  have hqC2 := hqC
                  refine step_app rowPr (by rfl) _ _ (by rfl) B1 _ m (v4 xs) (by rfl) (own_below HOwD.out bDp) ⟨wD.heap.size, 0, none⟩ 1 1 (v4 [(x, y, lo, IntKind.i64.wrap (lo + z))]) (by rfl) rfl (cell4 (w := wD) (q := wD.heap.size) rfl (x, y, lo, IntKind.i64.wrap (lo + z)) 105) (v4_one _) (by decide) (by omega) (show B1 ≤ (wD.alloc (.cells #[.int .i64 x, .int .i64 y, .int .i64 lo, .int .i64 (IntKind.i64.wrap (lo + z))] 105)).heap.size from by first | omega | (simp <;> omega)) ?_
                  intro g2 d2 wE hown2 hgrow2 hat2 hlt2
                  have HCwE := Lib.hid (DlAt.kept ((HCwD.out.below bDp)) hgrow2 (fun r hr => .inr ⟨by have := (HOwD.out.lt r hr).1; omega, fun e => by have := (HOwD.out.lt r hr).1; have := HCL.out r e; omega⟩))
                  have HMwE := Lib.hid (Mv.grown ((HMwD.out.below bDp)) hgrow2 (fun r hr => by have := (HOwD.out.lt r hr).1; omega) hR)
                  have HOwE := Lib.hid (show OwnP wE B1 (some ⟨g2, 0, none⟩) (m + 1) d2 (xs ++ [(x, y, lo, IntKind.i64.wrap (lo + z))]) from by show World.ownsRow _ _ _ _ _ _ (v4 _); rw [v4_append]; exact hown2)
                  have HQwE := Lib.hid (show Blk wE (wL.heap.size) 66 #[.int .i64 0, .slice none 0 0, .slice none 0 0] from (hgrow2.block (wL.heap.size) ((HQwD.out.below bDp HQwD.out.lt)).lt (fun e => hqC2 _ e.symm rfl)).trans (HQwD.out.below bDp HQwD.out.lt))
                  have hqE : g2 ≠ wL.heap.size := by
                    rcases hat2 with h5 | h5
                    · exact hqC2 _ h5
                    · have := ((HQwD.out.below bDp HQwD.out.lt)).lt; (try simp at h5 this); omega
                  have hqB2 : B1 ≤ wL.heap.size := by omega
                  clear hown2 hgrow2 hat2 hlt2
                  refine hK.out _ _ ?_ (fun hHeld => ?_)
                  · exact ((HCwE.out)).S
                  clear hK K
                  try simp only [Act.put, List.getElem_toArray, List.getElem_cons_succ, List.getElem_cons_zero, List.setIfInBounds_toArray, List.set_cons_zero, List.set_cons_succ]
                  refine wpAnyH_take (i := 21) (oi := _) (v := ?_) rfl (by kernel_rfl) (by kernel_rfl) (by kernel_rfl) (fun _ _ _ h => h) (Or.inl ⟨by kernel_rfl, ?_⟩) (by assumption) ?_
                  rotate_left
                  · (intro w hSw; (try dsimp only at hSw); go_simp; (try with_reducible rfl))
                  try simp only [Act.put, List.getElem_toArray, List.getElem_cons_succ, List.getElem_cons_zero, List.setIfInBounds_toArray, List.set_cons_zero, List.set_cons_succ]
                  refine wpAnyH_ready (rs := [23]) (by kernel_rfl) (by simp) ?_
                  refine AllReadyH.cons (o := _) rfl (fun K hK => ?_) (AllReadyH.nil)
                  have t0 := (HQwE.out.cell 0).trans rfl
                  have t1 := (HQwE.out.cell 1).trans rfl
                  have t2 := (HQwE.out.cell 2).trans rfl
                  have u0 := HQwE.out.frozen 0
                  have u1 := HQwE.out.frozen 1
                  have u2 := HQwE.out.frozen 2
                  have hql := HQwE.out.lt
                  go_simp
                  refine hK.out _ _ ?_ (fun hHeld => ?_)
                  · exact ((((HCwE.out.setHi (q := wL.heap.size) (by omega) (fun k hk => by have := HCL.out k hk; omega) 0 (.int .i64 pts)).setHi (q := wL.heap.size) (by omega) (fun k hk => by have := HCL.out k hk; omega) 1 (.slice A n c)).setHi (q := wL.heap.size) (by omega) (fun k hk => by have := HCL.out k hk; omega) 2 (.slice (some ⟨g2, 0, none⟩) (m + 1) d2))).S
                  clear hK K
                  try simp only [Act.put, List.getElem_toArray, List.getElem_cons_succ, List.getElem_cons_zero, List.setIfInBounds_toArray, List.set_cons_zero, List.set_cons_succ]
                  refine wpAnyH_done (by kernel_rfl) ?_ _
                  go_wp2_with fail
                  go_meet
                  exact ⟨_, some ⟨g2, 0, none⟩, d2, rfl, ⟨by omega, (((HQwE.out.set_ 0 (.int .i64 pts)).set_ 1 (.slice A n c)).set_ 2 (.slice (some ⟨g2, 0, none⟩) (m + 1) d2)), ⟨_, own_base (OwnP.setHi (OwnP.setHi (OwnP.setHi HOwE.out (fun k hk => by have h6 : g2 = k := Option.some.inj hk; omega) 0 (.int .i64 pts)) (fun k hk => by have h6 : g2 = k := Option.some.inj hk; omega) 1 (.slice A n c)) (fun k hk => by have h6 : g2 = k := Option.some.inj hk; omega) 2 (.slice (some ⟨g2, 0, none⟩) (m + 1) d2)) (by omega)⟩, (((HCwE.out.setHi (q := wL.heap.size) (by omega) (fun k hk => by have := HCL.out k hk; omega) 0 (.int .i64 pts)).setHi (q := wL.heap.size) (by omega) (fun k hk => by have := HCL.out k hk; omega) 1 (.slice A n c)).setHi (q := wL.heap.size) (by omega) (fun k hk => by have := HCL.out k hk; omega) 2 (.slice (some ⟨g2, 0, none⟩) (m + 1) d2))⟩, (((HMwE.out.setNew (P := wL.heap.size) (by omega) hR 0 _).setNew (P := wL.heap.size) (by omega) hR 1 _).setNew (P := wL.heap.size) (by omega) hR 2 _).mono (by omega)⟩
              case rest =>
                obtain ⟨q, C2, d2, rfl, ⟨hDq, hbq, ⟨xs2, hx2⟩, hd⟩, hm⟩ := hcut
                have HX2 := Lib.hid hx2
                have HCx := Lib.hid hd
                have HMx := Lib.hid hm
                have z0 := (hbq.cell 0).trans rfl
                have z1 := (hbq.cell 1).trans rfl
                have z2 := (hbq.cell 2).trans rfl
                obtain ⟨bs, hbs⟩ := hd.base
                have HBS := Lib.hid hbs
                clear hbq hx2 hd hm hbs s0 s1 s2
                go_wp2_with (fail)
                refine kB (sDealOk_any pts A n c bs C2 (m + 1) d2 xs2 _ HBS.out (OwnP.at_ HX2.out) (by omega) (by omega)) ?_ ?_
                · intro wF _ hbF
                  replace z0 := keep hbF z0
                  replace z1 := keep hbF z1
                  replace z2 := keep hbF z2
                  have HCF := Lib.hid (HCx.out.below hbF)
                  have HMF := Lib.hid (HMx.out.below hbF)
                  have HXF := Lib.hid (own_below HX2.out hbF)
                  obtain ⟨e0, e1, e2, e3, e4, f2, f3, f4⟩ := HCF.out.cells
                  clear hbF
                  go_wp2
                  go_roundw
                  case rel => exact ⟨k - 1, m + 1, d2, C2, by go_num, by omega, by omega, HCF.out.take HXF.out, (((HMF.out.setNew (P := D) (by omega) hR 0 _).setNew (P := D) (by omega) hR 1 _).setNew (P := D) (by omega) hR 2 _).mono (by omega)⟩
                  case measure => simp [intOf]; omega
                · intro wF _ hbF
                  go_wp2
                  go_roundw
                  case rel => exact ⟨k - 1, m, d, C, by go_num, by omega, by omega, HCx.out.below hbF, (HMx.out.below hbF).mono (by omega)⟩
                  case measure => simp [intOf]; omega
            · skip
              go_wp2_with (fail)
              refine (odd_any R _ N0 _ HM.out.2 (by omega) hN0).mono ?_
              rintro e wO ⟨b, rfl, hmO, hsO⟩
              have HCO := Lib.hid (HC.out.mv hmO)
              have HMO := Lib.hid (HM.out.trans hmO)
              have hDQ : ¬ D = w.heap.size := by omega
              have hQD : ¬ w.heap.size = D := by omega
              have hD2 : P < D := HCO.out.pd
              clear hmO hsO e0 e1 e2 e3 e4 f2 f3 f4
              cases b with
              | false =>
                obtain ⟨e0, e1, e2, e3, e4, f2, f3, f4⟩ := HCO.out.cells
                have q0 := (HCO.out.res.cell 0).trans rfl
                have q1 := (HCO.out.res.cell 1).trans rfl
                have q2 := (HCO.out.res.cell 2).trans rfl
                have qf0 := HCO.out.res.frozen 0
                have qf1 := HCO.out.res.frozen 1
                have qf2 := HCO.out.res.frozen 2
                obtain ⟨bs, hbs⟩ := HCO.out.base
                obtain ⟨xs, hxs⟩ := HCO.out.row
                have HBS := Lib.hid hbs
                have HXS := Lib.hid hxs
                have HPL := HCO.out.pl.lt
                have HFAR := Lib.hid HCO.out.far
                clear hbs hxs
                go_wp2_with (fail)
                obtain ⟨h1, h2, h3⟩ := dealFin HBS.out (fun a ha => by have := HFAR.out a ha; omega) HXS.out (by omega) HMO.out hR 0 1 2 (.int .i64 pts) (.slice A n c) (.slice C m d)
                exact bodyPost_ret (v := .agg #[.int .i64 pts, .slice A n c, .slice C m d]) (by simp [results, Try.results73, go_sem, q0, q1, q2]) rfl ⟨_, _, _, _, bs, _, _, _, xs, rfl, by omega, by omega, h1, h2, h3.mono (by omega)⟩
              | true =>
                go_wp2_with (fail)
                refine kPick (pick_any R _ 3 _ HMO.out.2 (by omega)) ?_
                intro y wP hq1 hq2 hmP hsP
                obtain ⟨hy0, hy1⟩ := hq1 (by omega)
                have HCP := Lib.hid (HCO.out.mv hmP)
                have HMP := Lib.hid (HMO.out.trans hmP)
                obtain ⟨e0, e1, e2, e3, e4, f2, f3, f4⟩ := HCP.out.cells
                have q0 := (HCP.out.res.cell 0).trans rfl
                have q1 := (HCP.out.res.cell 1).trans rfl
                have q2 := (HCP.out.res.cell 2).trans rfl
                have qf0 := HCP.out.res.frozen 0
                have qf1 := HCP.out.res.frozen 1
                have qf2 := HCP.out.res.frozen 2
                obtain ⟨bs, hbs⟩ := HCP.out.base
                have HBS := Lib.hid hbs
                have HFAR := Lib.hid HCP.out.far
                have hDp := HCP.out.blk.lt
                clear hq1 hq2 hmP hsP hbs
                have hy : y = 0 ∨ y = 1 ∨ y = 2 := by omega
                rcases hy with rfl | rfl | rfl
                · obtain ⟨xs, hxs⟩ := HCP.out.row
                  have HXS := Lib.hid hxs
                  clear hxs
                  go_wp2_with (fail)
                  obtain ⟨h1, h2, h3⟩ := dealFin (w0 := w) (w := (wP.setCell ⟨D, 0, none⟩ (.int .i64 0)).setCell ⟨D, 1, none⟩ (.slice none 0 0)) (A := none) (n := 0) (bs := []) ⟨rfl, fun h => absurd h (Nat.lt_irrefl 0)⟩ (fun a ha => by cases ha)
                    (OwnP.setHi (OwnP.setHi HXS.out (fun k hk e => by have := (HXS.out.lt k hk).1; omega) 0 _) (fun k hk e => by have := (HXS.out.lt k hk).1; omega) 1 _) (by omega) ((HMP.out.setNew (P := D) (by omega) hR 0 _).setNew (P := D) (by omega) hR 1 _) hR 0 1 2 (.int .i64 0) (.slice none 0 0) (.slice C m d)
                  exact bodyPost_ret (v := .agg #[.int .i64 0, .slice none 0 0, .slice C m d]) (by simp [results, Try.results73, go_sem, q0, q1, q2, hDQ, hQD]) rfl ⟨_, _, _, _, [], _, _, _, xs, rfl, by omega, by omega, h1, h2, h3.mono (by omega)⟩
                · obtain ⟨xs, hxx⟩ := HCP.out.row
                  have HXX := Lib.hid hxx
                  have hDr : ∀ r, (Value.slice C m d).ownBlock = some r → D + 1 ≤ r := fun r hr => (HXX.out.lt r hr).1
                  clear hxx
                  go_wp2_with (first
                    | (at_builtin; refine wpl_app rowPr rfl _ _ (by rfl) (D + 1) _ m (v4 xs) (by rfl) (HXX.out.alloc _) ⟨wP.heap.size, 0, none⟩ 1 1 (v4 [(0, 0, 0, 1)]) (by rfl) rfl (cell4 (by simp) (0, 0, 0, 1) _) (v4_one _) (by decide) (by omega) (by simp; omega) ?_
                       intro g' cap' wE hownE hgrow hat hltE
                       have HOE := Lib.hid hownE
                       have HGE := Lib.hid hgrow
                       clear hownE hgrow hat
                       have hbb : Below wP.heap.size wP (wP.alloc (.cells #[.int .i64 0, .int .i64 0, .int .i64 0, .int .i64 1] 105)) := (Below.refl _ _).alloc (Nat.le_refl _) _
                       have hDi2 : D < (wP.alloc (.cells #[.int .i64 0, .int .i64 0, .int .i64 0, .int .i64 1] 105)).heap.size := by simp; omega
                       have hQi2 : w.heap.size < (wP.alloc (.cells #[.int .i64 0, .int .i64 0, .int .i64 0, .int .i64 1] 105)).heap.size := by simp; omega
                       have hQo : w.heap.size < wP.heap.size := by omega
                       have ff := (HGE.out.frozen_far ⟨D, 2, none⟩ hDi2 (fun e => by have := hDr D e.symm; omega)).trans ((hbb.frozen (p := ⟨D, 2, none⟩) hDp).trans f4)
                       have ee0 := HGE.out.cell (a := ⟨D, 0, none⟩) (keep hbb e2) (fun e => by have := hDr D e.symm; omega)
                       have ee1 := HGE.out.cell (a := ⟨D, 1, none⟩) (keep hbb e3) (fun e => by have := hDr D e.symm; omega)
                       have ee2 := HGE.out.cell (a := ⟨D, 2, none⟩) (keep hbb e4) (fun e => by have := hDr D e.symm; omega)
                       have qq0 := HGE.out.cell (a := ⟨w.heap.size, 0, none⟩) (keep hbb q0) (fun e => by have := hDr w.heap.size e.symm; omega)
                       have qq1 := HGE.out.cell (a := ⟨w.heap.size, 1, none⟩) (keep hbb q1) (fun e => by have := hDr w.heap.size e.symm; omega)
                       have qq2 := HGE.out.cell (a := ⟨w.heap.size, 2, none⟩) (keep hbb q2) (fun e => by have := hDr w.heap.size e.symm; omega)
                       have qg0 := (HGE.out.frozen_far ⟨w.heap.size, 0, none⟩ hQi2 (fun e => by have := hDr w.heap.size e.symm; omega)).trans ((hbb.frozen (p := ⟨w.heap.size, 0, none⟩) hQo).trans qf0)
                       have qg1 := (HGE.out.frozen_far ⟨w.heap.size, 1, none⟩ hQi2 (fun e => by have := hDr w.heap.size e.symm; omega)).trans ((hbb.frozen (p := ⟨w.heap.size, 1, none⟩) hQo).trans qf1)
                       have qg2 := (HGE.out.frozen_far ⟨w.heap.size, 2, none⟩ hQi2 (fun e => by have := hDr w.heap.size e.symm; omega)).trans ((hbb.frozen (p := ⟨w.heap.size, 2, none⟩) hQo).trans qf2)))
                  obtain ⟨h1, h2, h3⟩ := dealFin (w0 := w) (w := wE.setCell ⟨D, 2, none⟩ (.slice (some ⟨g', 0, none⟩) (m + 1) cap')) (A := A) (n := n) (C := some ⟨g', 0, none⟩) (m := m + 1) (d := cap') (xs := xs ++ [(0, 0, 0, 1)]) (base := D + 1) (bs := bs)
                    (((HBS.out.below hbb).keepB (fun a ha => HGE.out.block _ (by have := HFAR.out a ha; omega) (fun e => by have := HFAR.out a ha; have := hDr _ e.symm; omega))).setCell (q := ⟨D, 2, none⟩) (fun a ha => by have := HFAR.out a ha; show a.block ≠ D; omega) _)
                    (fun a ha => by have := HFAR.out a ha; have := HGE.out.size; simp [World.setCell]; omega)
                    (OwnP.setHi (show OwnP wE (D + 1) (some ⟨g', 0, none⟩) (m + 1) cap' (xs ++ [(0, 0, 0, 1)]) from by show World.ownsRow _ _ _ _ _ _ (v4 _); rw [v4_append]; exact HOE.out) (fun k hk e => by have := (HOE.out.lt k hk).1; omega) 2 _) (by omega)
                    (((HMP.out.below hbb).grown HGE.out (fun r hr => by have := hDr r hr; omega) hR).setNew (P := D) (by omega) hR 2 _) hR 0 1 2 (.int .i64 pts) (.slice A n c) (.slice (some ⟨g', 0, none⟩) (m + 1) cap')
                  exact bodyPost_ret (v := .agg #[.int .i64 pts, .slice A n c, .slice (some ⟨g', 0, none⟩) (m + 1) cap']) (by simp [results, Try.results73, go_sem, qq0, qq1, qq2, hDQ, hQD]) rfl ⟨_, _, _, _, bs, _, _, _, _, rfl, by omega, by omega, h1, h2, h3.mono (by omega)⟩
                · obtain ⟨xs, hxx⟩ := HCP.out.row
                  have HXX := Lib.hid hxx
                  have hDr : ∀ r, (Value.slice C m d).ownBlock = some r → D + 1 ≤ r := fun r hr => (HXX.out.lt r hr).1
                  clear hxx
                  go_wp2_with (first
                    | (at_builtin; refine wpl_app rowPr rfl _ _ (by rfl) (D + 1) _ m (v4 xs) (by rfl) (HXX.out.alloc _) ⟨wP.heap.size, 0, none⟩ 1 1 (v4 [(0, 1, 3, 2)]) (by rfl) rfl (cell4 (by simp) (0, 1, 3, 2) _) (v4_one _) (by decide) (by omega) (by simp; omega) ?_
                       intro g' cap' wE hownE hgrow hat hltE
                       have HOE := Lib.hid hownE
                       have HGE := Lib.hid hgrow
                       clear hownE hgrow hat
                       have hbb : Below wP.heap.size wP (wP.alloc (.cells #[.int .i64 0, .int .i64 1, .int .i64 3, .int .i64 2] 105)) := (Below.refl _ _).alloc (Nat.le_refl _) _
                       have hDi2 : D < (wP.alloc (.cells #[.int .i64 0, .int .i64 1, .int .i64 3, .int .i64 2] 105)).heap.size := by simp; omega
                       have hQi2 : w.heap.size < (wP.alloc (.cells #[.int .i64 0, .int .i64 1, .int .i64 3, .int .i64 2] 105)).heap.size := by simp; omega
                       have hQo : w.heap.size < wP.heap.size := by omega
                       have ff := (HGE.out.frozen_far ⟨D, 2, none⟩ hDi2 (fun e => by have := hDr D e.symm; omega)).trans ((hbb.frozen (p := ⟨D, 2, none⟩) hDp).trans f4)
                       have ee0 := HGE.out.cell (a := ⟨D, 0, none⟩) (keep hbb e2) (fun e => by have := hDr D e.symm; omega)
                       have ee1 := HGE.out.cell (a := ⟨D, 1, none⟩) (keep hbb e3) (fun e => by have := hDr D e.symm; omega)
                       have ee2 := HGE.out.cell (a := ⟨D, 2, none⟩) (keep hbb e4) (fun e => by have := hDr D e.symm; omega)
                       have qq0 := HGE.out.cell (a := ⟨w.heap.size, 0, none⟩) (keep hbb q0) (fun e => by have := hDr w.heap.size e.symm; omega)
                       have qq1 := HGE.out.cell (a := ⟨w.heap.size, 1, none⟩) (keep hbb q1) (fun e => by have := hDr w.heap.size e.symm; omega)
                       have qq2 := HGE.out.cell (a := ⟨w.heap.size, 2, none⟩) (keep hbb q2) (fun e => by have := hDr w.heap.size e.symm; omega)
                       have qg0 := (HGE.out.frozen_far ⟨w.heap.size, 0, none⟩ hQi2 (fun e => by have := hDr w.heap.size e.symm; omega)).trans ((hbb.frozen (p := ⟨w.heap.size, 0, none⟩) hQo).trans qf0)
                       have qg1 := (HGE.out.frozen_far ⟨w.heap.size, 1, none⟩ hQi2 (fun e => by have := hDr w.heap.size e.symm; omega)).trans ((hbb.frozen (p := ⟨w.heap.size, 1, none⟩) hQo).trans qf1)
                       have qg2 := (HGE.out.frozen_far ⟨w.heap.size, 2, none⟩ hQi2 (fun e => by have := hDr w.heap.size e.symm; omega)).trans ((hbb.frozen (p := ⟨w.heap.size, 2, none⟩) hQo).trans qf2)))
                  obtain ⟨h1, h2, h3⟩ := dealFin (w0 := w) (w := wE.setCell ⟨D, 2, none⟩ (.slice (some ⟨g', 0, none⟩) (m + 1) cap')) (A := A) (n := n) (C := some ⟨g', 0, none⟩) (m := m + 1) (d := cap') (xs := xs ++ [(0, 1, 3, 2)]) (base := D + 1) (bs := bs)
                    (((HBS.out.below hbb).keepB (fun a ha => HGE.out.block _ (by have := HFAR.out a ha; omega) (fun e => by have := HFAR.out a ha; have := hDr _ e.symm; omega))).setCell (q := ⟨D, 2, none⟩) (fun a ha => by have := HFAR.out a ha; show a.block ≠ D; omega) _)
                    (fun a ha => by have := HFAR.out a ha; have := HGE.out.size; simp [World.setCell]; omega)
                    (OwnP.setHi (show OwnP wE (D + 1) (some ⟨g', 0, none⟩) (m + 1) cap' (xs ++ [(0, 1, 3, 2)]) from by show World.ownsRow _ _ _ _ _ _ (v4 _); rw [v4_append]; exact HOE.out) (fun k hk e => by have := (HOE.out.lt k hk).1; omega) 2 _) (by omega)
                    (((HMP.out.below hbb).grown HGE.out (fun r hr => by have := hDr r hr; omega) hR).setNew (P := D) (by omega) hR 2 _) hR 0 1 2 (.int .i64 pts) (.slice A n c) (.slice (some ⟨g', 0, none⟩) (m + 1) cap')
                  exact bodyPost_ret (v := .agg #[.int .i64 pts, .slice A n c, .slice (some ⟨g', 0, none⟩) (m + 1) cap']) (by simp [results, Try.results73, go_sem, qq0, qq1, qq2, hDQ, hQD]) rfl ⟨_, _, _, _, bs, _, _, _, _, rfl, by omega, by omega, h1, h2, h3.mono (by omega)⟩
          · skip
            go_wp2_with (fail)
            refine (odd_any R _ N0 _ HM.out.2 (by omega) hN0).mono ?_
            rintro e wO ⟨b, rfl, hmO, hsO⟩
            have HCO := Lib.hid (HC.out.mv hmO)
            have HMO := Lib.hid (HM.out.trans hmO)
            have hDQ : ¬ D = w.heap.size := by omega
            have hQD : ¬ w.heap.size = D := by omega
            have hD2 : P < D := HCO.out.pd
            clear hmO hsO e0 e1 e2 e3 e4 f2 f3 f4
            cases b with
            | false =>
              obtain ⟨e0, e1, e2, e3, e4, f2, f3, f4⟩ := HCO.out.cells
              have q0 := (HCO.out.res.cell 0).trans rfl
              have q1 := (HCO.out.res.cell 1).trans rfl
              have q2 := (HCO.out.res.cell 2).trans rfl
              have qf0 := HCO.out.res.frozen 0
              have qf1 := HCO.out.res.frozen 1
              have qf2 := HCO.out.res.frozen 2
              obtain ⟨bs, hbs⟩ := HCO.out.base
              obtain ⟨xs, hxs⟩ := HCO.out.row
              have HBS := Lib.hid hbs
              have HXS := Lib.hid hxs
              have HPL := HCO.out.pl.lt
              have HFAR := Lib.hid HCO.out.far
              clear hbs hxs
              go_wp2_with (fail)
              obtain ⟨h1, h2, h3⟩ := dealFin HBS.out (fun a ha => by have := HFAR.out a ha; omega) HXS.out (by omega) HMO.out hR 0 1 2 (.int .i64 pts) (.slice A n c) (.slice C m d)
              exact bodyPost_ret (v := .agg #[.int .i64 pts, .slice A n c, .slice C m d]) (by simp [results, Try.results73, go_sem, q0, q1, q2]) rfl ⟨_, _, _, _, bs, _, _, _, xs, rfl, by omega, by omega, h1, h2, h3.mono (by omega)⟩
            | true =>
              go_wp2_with (fail)
              refine kPick (pick_any R _ 3 _ HMO.out.2 (by omega)) ?_
              intro y wP hq1 hq2 hmP hsP
              obtain ⟨hy0, hy1⟩ := hq1 (by omega)
              have HCP := Lib.hid (HCO.out.mv hmP)
              have HMP := Lib.hid (HMO.out.trans hmP)
              obtain ⟨e0, e1, e2, e3, e4, f2, f3, f4⟩ := HCP.out.cells
              have q0 := (HCP.out.res.cell 0).trans rfl
              have q1 := (HCP.out.res.cell 1).trans rfl
              have q2 := (HCP.out.res.cell 2).trans rfl
              have qf0 := HCP.out.res.frozen 0
              have qf1 := HCP.out.res.frozen 1
              have qf2 := HCP.out.res.frozen 2
              obtain ⟨bs, hbs⟩ := HCP.out.base
              have HBS := Lib.hid hbs
              have HFAR := Lib.hid HCP.out.far
              have hDp := HCP.out.blk.lt
              clear hq1 hq2 hmP hsP hbs
              have hy : y = 0 ∨ y = 1 ∨ y = 2 := by omega
              rcases hy with rfl | rfl | rfl
              · obtain ⟨xs, hxs⟩ := HCP.out.row
                have HXS := Lib.hid hxs
                clear hxs
                go_wp2_with (fail)
                obtain ⟨h1, h2, h3⟩ := dealFin (w0 := w) (w := (wP.setCell ⟨D, 0, none⟩ (.int .i64 0)).setCell ⟨D, 1, none⟩ (.slice none 0 0)) (A := none) (n := 0) (bs := []) ⟨rfl, fun h => absurd h (Nat.lt_irrefl 0)⟩ (fun a ha => by cases ha)
                  (OwnP.setHi (OwnP.setHi HXS.out (fun k hk e => by have := (HXS.out.lt k hk).1; omega) 0 _) (fun k hk e => by have := (HXS.out.lt k hk).1; omega) 1 _) (by omega) ((HMP.out.setNew (P := D) (by omega) hR 0 _).setNew (P := D) (by omega) hR 1 _) hR 0 1 2 (.int .i64 0) (.slice none 0 0) (.slice C m d)
                exact bodyPost_ret (v := .agg #[.int .i64 0, .slice none 0 0, .slice C m d]) (by simp [results, Try.results73, go_sem, q0, q1, q2, hDQ, hQD]) rfl ⟨_, _, _, _, [], _, _, _, xs, rfl, by omega, by omega, h1, h2, h3.mono (by omega)⟩
              · obtain ⟨xs, hxx⟩ := HCP.out.row
                have HXX := Lib.hid hxx
                have hDr : ∀ r, (Value.slice C m d).ownBlock = some r → D + 1 ≤ r := fun r hr => (HXX.out.lt r hr).1
                clear hxx
                go_wp2_with (first
                  | (at_builtin; refine wpl_app rowPr rfl _ _ (by rfl) (D + 1) _ m (v4 xs) (by rfl) (HXX.out.alloc _) ⟨wP.heap.size, 0, none⟩ 1 1 (v4 [(0, 0, 0, 1)]) (by rfl) rfl (cell4 (by simp) (0, 0, 0, 1) _) (v4_one _) (by decide) (by omega) (by simp; omega) ?_
                     intro g' cap' wE hownE hgrow hat hltE
                     have HOE := Lib.hid hownE
                     have HGE := Lib.hid hgrow
                     clear hownE hgrow hat
                     have hbb : Below wP.heap.size wP (wP.alloc (.cells #[.int .i64 0, .int .i64 0, .int .i64 0, .int .i64 1] 105)) := (Below.refl _ _).alloc (Nat.le_refl _) _
                     have hDi2 : D < (wP.alloc (.cells #[.int .i64 0, .int .i64 0, .int .i64 0, .int .i64 1] 105)).heap.size := by simp; omega
                     have hQi2 : w.heap.size < (wP.alloc (.cells #[.int .i64 0, .int .i64 0, .int .i64 0, .int .i64 1] 105)).heap.size := by simp; omega
                     have hQo : w.heap.size < wP.heap.size := by omega
                     have ff := (HGE.out.frozen_far ⟨D, 2, none⟩ hDi2 (fun e => by have := hDr D e.symm; omega)).trans ((hbb.frozen (p := ⟨D, 2, none⟩) hDp).trans f4)
                     have ee0 := HGE.out.cell (a := ⟨D, 0, none⟩) (keep hbb e2) (fun e => by have := hDr D e.symm; omega)
                     have ee1 := HGE.out.cell (a := ⟨D, 1, none⟩) (keep hbb e3) (fun e => by have := hDr D e.symm; omega)
                     have ee2 := HGE.out.cell (a := ⟨D, 2, none⟩) (keep hbb e4) (fun e => by have := hDr D e.symm; omega)
                     have qq0 := HGE.out.cell (a := ⟨w.heap.size, 0, none⟩) (keep hbb q0) (fun e => by have := hDr w.heap.size e.symm; omega)
                     have qq1 := HGE.out.cell (a := ⟨w.heap.size, 1, none⟩) (keep hbb q1) (fun e => by have := hDr w.heap.size e.symm; omega)
                     have qq2 := HGE.out.cell (a := ⟨w.heap.size, 2, none⟩) (keep hbb q2) (fun e => by have := hDr w.heap.size e.symm; omega)
                     have qg0 := (HGE.out.frozen_far ⟨w.heap.size, 0, none⟩ hQi2 (fun e => by have := hDr w.heap.size e.symm; omega)).trans ((hbb.frozen (p := ⟨w.heap.size, 0, none⟩) hQo).trans qf0)
                     have qg1 := (HGE.out.frozen_far ⟨w.heap.size, 1, none⟩ hQi2 (fun e => by have := hDr w.heap.size e.symm; omega)).trans ((hbb.frozen (p := ⟨w.heap.size, 1, none⟩) hQo).trans qf1)
                     have qg2 := (HGE.out.frozen_far ⟨w.heap.size, 2, none⟩ hQi2 (fun e => by have := hDr w.heap.size e.symm; omega)).trans ((hbb.frozen (p := ⟨w.heap.size, 2, none⟩) hQo).trans qf2)))
                obtain ⟨h1, h2, h3⟩ := dealFin (w0 := w) (w := wE.setCell ⟨D, 2, none⟩ (.slice (some ⟨g', 0, none⟩) (m + 1) cap')) (A := A) (n := n) (C := some ⟨g', 0, none⟩) (m := m + 1) (d := cap') (xs := xs ++ [(0, 0, 0, 1)]) (base := D + 1) (bs := bs)
                  (((HBS.out.below hbb).keepB (fun a ha => HGE.out.block _ (by have := HFAR.out a ha; omega) (fun e => by have := HFAR.out a ha; have := hDr _ e.symm; omega))).setCell (q := ⟨D, 2, none⟩) (fun a ha => by have := HFAR.out a ha; show a.block ≠ D; omega) _)
                  (fun a ha => by have := HFAR.out a ha; have := HGE.out.size; simp [World.setCell]; omega)
                  (OwnP.setHi (show OwnP wE (D + 1) (some ⟨g', 0, none⟩) (m + 1) cap' (xs ++ [(0, 0, 0, 1)]) from by show World.ownsRow _ _ _ _ _ _ (v4 _); rw [v4_append]; exact HOE.out) (fun k hk e => by have := (HOE.out.lt k hk).1; omega) 2 _) (by omega)
                  (((HMP.out.below hbb).grown HGE.out (fun r hr => by have := hDr r hr; omega) hR).setNew (P := D) (by omega) hR 2 _) hR 0 1 2 (.int .i64 pts) (.slice A n c) (.slice (some ⟨g', 0, none⟩) (m + 1) cap')
                exact bodyPost_ret (v := .agg #[.int .i64 pts, .slice A n c, .slice (some ⟨g', 0, none⟩) (m + 1) cap']) (by simp [results, Try.results73, go_sem, qq0, qq1, qq2, hDQ, hQD]) rfl ⟨_, _, _, _, bs, _, _, _, _, rfl, by omega, by omega, h1, h2, h3.mono (by omega)⟩
              · obtain ⟨xs, hxx⟩ := HCP.out.row
                have HXX := Lib.hid hxx
                have hDr : ∀ r, (Value.slice C m d).ownBlock = some r → D + 1 ≤ r := fun r hr => (HXX.out.lt r hr).1
                clear hxx
                go_wp2_with (first
                  | (at_builtin; refine wpl_app rowPr rfl _ _ (by rfl) (D + 1) _ m (v4 xs) (by rfl) (HXX.out.alloc _) ⟨wP.heap.size, 0, none⟩ 1 1 (v4 [(0, 1, 3, 2)]) (by rfl) rfl (cell4 (by simp) (0, 1, 3, 2) _) (v4_one _) (by decide) (by omega) (by simp; omega) ?_
                     intro g' cap' wE hownE hgrow hat hltE
                     have HOE := Lib.hid hownE
                     have HGE := Lib.hid hgrow
                     clear hownE hgrow hat
                     have hbb : Below wP.heap.size wP (wP.alloc (.cells #[.int .i64 0, .int .i64 1, .int .i64 3, .int .i64 2] 105)) := (Below.refl _ _).alloc (Nat.le_refl _) _
                     have hDi2 : D < (wP.alloc (.cells #[.int .i64 0, .int .i64 1, .int .i64 3, .int .i64 2] 105)).heap.size := by simp; omega
                     have hQi2 : w.heap.size < (wP.alloc (.cells #[.int .i64 0, .int .i64 1, .int .i64 3, .int .i64 2] 105)).heap.size := by simp; omega
                     have hQo : w.heap.size < wP.heap.size := by omega
                     have ff := (HGE.out.frozen_far ⟨D, 2, none⟩ hDi2 (fun e => by have := hDr D e.symm; omega)).trans ((hbb.frozen (p := ⟨D, 2, none⟩) hDp).trans f4)
                     have ee0 := HGE.out.cell (a := ⟨D, 0, none⟩) (keep hbb e2) (fun e => by have := hDr D e.symm; omega)
                     have ee1 := HGE.out.cell (a := ⟨D, 1, none⟩) (keep hbb e3) (fun e => by have := hDr D e.symm; omega)
                     have ee2 := HGE.out.cell (a := ⟨D, 2, none⟩) (keep hbb e4) (fun e => by have := hDr D e.symm; omega)
                     have qq0 := HGE.out.cell (a := ⟨w.heap.size, 0, none⟩) (keep hbb q0) (fun e => by have := hDr w.heap.size e.symm; omega)
                     have qq1 := HGE.out.cell (a := ⟨w.heap.size, 1, none⟩) (keep hbb q1) (fun e => by have := hDr w.heap.size e.symm; omega)
                     have qq2 := HGE.out.cell (a := ⟨w.heap.size, 2, none⟩) (keep hbb q2) (fun e => by have := hDr w.heap.size e.symm; omega)
                     have qg0 := (HGE.out.frozen_far ⟨w.heap.size, 0, none⟩ hQi2 (fun e => by have := hDr w.heap.size e.symm; omega)).trans ((hbb.frozen (p := ⟨w.heap.size, 0, none⟩) hQo).trans qf0)
                     have qg1 := (HGE.out.frozen_far ⟨w.heap.size, 1, none⟩ hQi2 (fun e => by have := hDr w.heap.size e.symm; omega)).trans ((hbb.frozen (p := ⟨w.heap.size, 1, none⟩) hQo).trans qf1)
                     have qg2 := (HGE.out.frozen_far ⟨w.heap.size, 2, none⟩ hQi2 (fun e => by have := hDr w.heap.size e.symm; omega)).trans ((hbb.frozen (p := ⟨w.heap.size, 2, none⟩) hQo).trans qf2)))
                obtain ⟨h1, h2, h3⟩ := dealFin (w0 := w) (w := wE.setCell ⟨D, 2, none⟩ (.slice (some ⟨g', 0, none⟩) (m + 1) cap')) (A := A) (n := n) (C := some ⟨g', 0, none⟩) (m := m + 1) (d := cap') (xs := xs ++ [(0, 1, 3, 2)]) (base := D + 1) (bs := bs)
                  (((HBS.out.below hbb).keepB (fun a ha => HGE.out.block _ (by have := HFAR.out a ha; omega) (fun e => by have := HFAR.out a ha; have := hDr _ e.symm; omega))).setCell (q := ⟨D, 2, none⟩) (fun a ha => by have := HFAR.out a ha; show a.block ≠ D; omega) _)
                  (fun a ha => by have := HFAR.out a ha; have := HGE.out.size; simp [World.setCell]; omega)
                  (OwnP.setHi (show OwnP wE (D + 1) (some ⟨g', 0, none⟩) (m + 1) cap' (xs ++ [(0, 1, 3, 2)]) from by show World.ownsRow _ _ _ _ _ _ (v4 _); rw [v4_append]; exact HOE.out) (fun k hk e => by have := (HOE.out.lt k hk).1; omega) 2 _) (by omega)
                  (((HMP.out.below hbb).grown HGE.out (fun r hr => by have := hDr r hr; omega) hR).setNew (P := D) (by omega) hR 2 _) hR 0 1 2 (.int .i64 pts) (.slice A n c) (.slice (some ⟨g', 0, none⟩) (m + 1) cap')
                exact bodyPost_ret (v := .agg #[.int .i64 pts, .slice A n c, .slice (some ⟨g', 0, none⟩) (m + 1) cap']) (by simp [results, Try.results73, go_sem, qq0, qq1, qq2, hDQ, hQD]) rfl ⟨_, _, _, _, bs, _, _, _, _, rfl, by omega, by omega, h1, h2, h3.mono (by omega)⟩

end Go.Proofs.Ytopfhlopicjemaa
