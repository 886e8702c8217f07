/- Draws of terms: l20Term(r, 0) draws a term. -/
import Derived.Test.YtcmicmenkbgfmaaDoorDR5
import Derived.Test.YtcmicmenkbgfmaaDoorM4
namespace Go.Proofs.YtcmicmenkbgfmaaDoor
open Go.RowKit
attribute [local go_sem ↓] Go.wp_at_zero Go.wp_at_succ

/-- The marks of a tree. -/
def TmP (xs : List Mk) : Prop := ∃ t, Wf t ∧ marksOf t = xs
theorem TmP.pos {xs : List Mk} (h : TmP xs) : 0 < xs.length := by obtain ⟨t, _, rfl⟩ := h; exact marks_pos t
theorem tmP_step {l h : Int} (h0 : 0 ≤ l) (h1 : l ≤ h) (h2 : h ≤ 19) : TmP [(0, l, h)] := ⟨.step l h, ⟨h0, h1, h2⟩, rfl⟩
theorem tmP_one {xs : List Mk} {h : Int} (hx : TmP xs) (h0 : 0 ≤ h) (h1 : h ≤ 19) : TmP (xs ++ [(3, 0, h)]) := by
  obtain ⟨t, w, rfl⟩ := hx
  exact ⟨.one t h, ⟨w, h0, h1⟩, rfl⟩
def TwoM (m : Mk) : Prop := m = (1, 0, 0) ∨ m = (2, 0, 0)
theorem twoM_of {z : Int} (h0 : 0 ≤ z) (h1 : z < 3) : TwoM (IntKind.i64.wrap (1 + IntKind.i64.wrap (z.tdiv 2)), 0, 0) := by
  have h : z = 0 ∨ z = 1 ∨ z = 2 := by omega
  rcases h with rfl | rfl | rfl
  · exact .inl (by decide)
  · exact .inl (by decide)
  · exact .inr (by decide)
theorem tmP_two {xs ys : List Mk} {m : Mk} (hx : TmP xs) (hy : TmP ys) (hm : TwoM m) : TmP (xs ++ ys ++ [m]) := by
  obtain ⟨t, w, rfl⟩ := hx
  obtain ⟨u, v, rfl⟩ := hy
  rcases hm with rfl | rfl
  · exact ⟨.two 1 t u, ⟨.inl rfl, w, v⟩, rfl⟩
  · exact ⟨.two 2 t u, ⟨.inr rfl, w, v⟩, rfl⟩
theorem tok_of {xs : List Mk} (h : TmP xs) (hl : xs.length ≤ 11) : TOk xs := by
  obtain ⟨t, w, e⟩ := h
  exact ⟨t, w, e, hl⟩
theorem odd0_any (R : Nat) (w : World) : Calls Tryd.prog 33 #[.pointer (some ⟨R, 0, none⟩), .int .i64 0] w fun e w' => e = .returned (.bool false) ∧ w' = w := by
  go_enter Tryd.func33, Tryd.ntmps33
  go_wp2
  go_ret
  exact ⟨rfl, rfl⟩
set_option maxRecDepth 100000 in
set_option maxHeartbeats 40000000 in
theorem l20Term0_any (R : Nat) (B : Int) (w : World) (h : Rd w R B) (hB : B ≤ 900000000) :
    Calls Tryd.prog 21 #[.pointer (some ⟨R, 0, none⟩), .int .i64 0] w fun e w' => ∃ (g c : Nat) (xs : List Mk), e = .returned (.slice (some ⟨g, 0, none⟩) xs.length c) ∧
      OwnM w' w.heap.size (some ⟨g, 0, none⟩) xs.length c xs ∧ TOk xs ∧ Mv R (B + 100) w w' := by
  have hR := h.lt
  have HR := Lib.hid h
  clear h
  go_enter Tryd.func21, Tryd.ntmps21
  go_wp2_with (fail)
  refine kPick (pick_any R B 4 _ (HR.out.alloc _) (by omega)) ?_
  intro x w1 hx hx9 hm1 hs1
  obtain ⟨hx0, hx1⟩ := hx (by omega)
  have HP1 := Lib.hid ((Rows2.empty w w.heap.size (Nat.le_refl _)).mv hR hm1)
  have HM1 := Lib.hid (show Mv R (B + 1) w w1 from ⟨grown_tr (grown_of_below ((Below.refl _ _).alloc (Nat.le_refl _) _) _) hm1.1, hm1.2⟩)
  clear hm1 hx hx9 hs1
  obtain ⟨K0, HK0⟩ : ∃ K : Int, Hid (1 + x = K) := ⟨_, rfl⟩
  have hK0 : 1 ≤ K0 := by rw [← HK0.out]; omega
  have hK4 : K0 ≤ 4 := by rw [← HK0.out]; omega
  have HKE := HK0.out
  go_wp2_with (fail)
  go_loopw [5, 6] (fun p i wr => ∃ (K : Int) (A : Option Addr) (m c : Nat) (ps : List Part), p = .slice A m c ∧ i = .int .i64 K ∧ 0 ≤ K ∧ 1 ≤ (m : Int) + K ∧ (m : Int) + K ≤ 4 ∧ Rows2 wr w.heap.size A m c ps ∧ (∀ q ∈ ps, TmP q.2) ∧ sumL ps = m ∧ Mv R (B + 1 + 2 * (m : Int)) w wr) (fun _ i _ => (intOf i).toNat)
  case atStart => exact ⟨K0, _, 0, 0, [], rfl, rfl, by omega, by omega, by omega, HP1.out, (fun q hq => by cases hq), rfl, HM1.out.mono (by omega)⟩
  case round =>
    obtain ⟨wo, rfl⟩ : ∃ wo : World, wo = wr := ⟨_, rfl⟩
    obtain ⟨K, A, m, c, ps, rfl, rfl, hk0, hk1, hk4, hp, hpos, hsum, hm⟩ := hrel
    have HP := Lib.hid hp
    have HPOS := Lib.hid hpos
    have HSUM := Lib.hid hsum
    have HM := Lib.hid hm
    clear hp hpos hsum hm HKE
    by_cases hk : 0 < K
    · go_wp2_with (fail)
      refine kPick (pick_any R _ 8 _ HM.out.2 (by omega)) ?_
      intro lo w2 hq1 hq2 hm2 hs2
      obtain ⟨hl0, hl1⟩ := hq1 (by omega)
      have HM2 := Lib.hid (HM.out.trans hm2)
      have HP2 := Lib.hid (HP.out.mv hR hm2)
      clear hq1 hq2 hm2 hs2
      go_wp2_with (fail)
      refine kPick (pick_any R _ 6 _ HM2.out.2 (by omega)) ?_
      intro up w3 hq1 hq2 hm3 hs3
      obtain ⟨hu0, hu1⟩ := hq1 (by omega)
      have HM3 := Lib.hid (HM2.out.trans hm3)
      have HP3 := Lib.hid (HP2.out.mv hR hm3)
      clear hq1 hq2 hm3 hs3
      have hs3 : w.heap.size ≤ w3.heap.size := HM3.out.1.size
      have HNEW := Lib.hid (own_lit w3 w.heap.size 54 3 #[.int .i64 0, .int .i64 lo, .int .i64 (lo + up)] 1 hs3 (by decide) rfl)
      go_wp2_with (at_builtin; refine wpl_app rowR rfl _ _ (by rfl) w.heap.size _ m (vS ps) (by rfl) ((HP3.out.alloc _).alloc _).own ⟨w3.heap.size + 1, 0, none⟩ 1 1 (vS [((some ⟨w3.heap.size, 0, none⟩, 1), [(0, lo, lo + up)])]) (by rfl) rfl (cell_one_at (by simp) _ _) (vS_one _) (by decide) (by omega) (by simp; omega) ?_; intro g' cap' wB hownB hgrow hat hltB)
      have HINN := Lib.hid (show Inn ((w3.alloc (.cells #[.int .i64 0, .int .i64 lo, .int .i64 (lo + up)] 54)).alloc (.cells #[.slice (some ⟨w3.heap.size, 0, none⟩) 1 1] 23)) w.heap.size (Value.slice A m c).ownBlock ((some ⟨w3.heap.size, 0, none⟩, 1), [(0, lo, lo + up)]) from
        ⟨HNEW.out.alloc _, fun g hg e => by simp only [hdV, Value.ownBlock] at hg; cases hg; have := (HP3.out.own.lt _ e).2; omega⟩)
      go_roundw
      case rel =>
        refine ⟨K - 1, some ⟨g', 0, none⟩, m + 1, cap', ps ++ [((some ⟨w3.heap.size, 0, none⟩, 1), [(0, lo, lo + up)])], rfl, rfl, by omega, by push_cast; omega, by push_cast; omega, ((HP3.out.alloc _).alloc _).app (fun q hq => by obtain rfl := List.mem_singleton.1 hq; exact HINN.out) hownB hgrow (hat.imp id (fun h => Nat.le_of_eq h.symm)), fun q hq => ?_, ?_, ?_⟩
        · rcases List.mem_append.1 hq with hq | hq
          · exact HPOS.out q hq
          · obtain rfl := List.mem_singleton.1 hq; exact tmP_step (by omega) (by omega) (by omega)
        · rw [sumL_append, sumL_one, HSUM.out]; rfl
        · exact (((HM3.out.alloc _).alloc _).grown hgrow (fun k hk => (HP3.out.own.lt k hk).1) hR).mono (by push_cast; omega)
      case measure => simp [intOf]; omega
    · obtain rfl : K = 0 := by omega
      have hm1 : 1 ≤ m := by omega
      have hm4 : m ≤ 4 := by omega
      clear hk0 hk1 hk4 hk
      go_wp2_with (fail)
      go_loopw [5, 8] (fun p l wr => ∃ (left : Nat) (A : Option Addr) (m c : Nat) (ps : List Part), p = .slice A m c ∧ l = .int .i64 (left : Int) ∧ 1 ≤ m ∧ m ≤ 4 ∧ left ≤ 3 ∧ Rows2 wr w.heap.size A m c ps ∧ (∀ q ∈ ps, TmP q.2) ∧ sumL ps + m + left ≤ 11 ∧ Mv R (B + 9 + 3 * (7 - (m : Int) - (left : Int))) w wr) (fun p l _ => 4 * (lenOf p) + (intOf l).toNat)
      case atStart => exact ⟨3, A, m, c, ps, rfl, rfl, hm1, hm4, by omega, HP.out, HPOS.out, by rw [HSUM.out]; omega, HM.out.mono (by push_cast; omega)⟩
      case round =>
        obtain ⟨wo, rfl⟩ : ∃ wo : World, wo = wr := ⟨_, rfl⟩
        clear HP HPOS HSUM HM hm1 hm4
        obtain ⟨left, A, m, c, ps, rfl, rfl, hm1, hm4, hl3, hp, hpos, hsum, hm⟩ := hrel
        have HP := Lib.hid hp
        have HPOS := Lib.hid hpos
        have HM := Lib.hid hm
        clear hp hpos hm
        by_cases hlt : 1 < m
        · have hlI : (1 : Int) < (m : Int) := by omega
          go_wp2_with (fail)
          refine kPick (pick_any R _ _ _ HM.out.2 (by omega)) ?_
          intro at_ w4 hq1 hq2 hm4' hs4
          obtain ⟨ha0, ha1⟩ := hq1 (by omega)
          have HM4 := Lib.hid (HM.out.trans hm4')
          have HP4 := Lib.hid (HP.out.mv hR hm4')
          clear hq1 hq2 hm4' hs4
          obtain ⟨j, rfl⟩ := Int.eq_ofNat_of_zero_le ha0
          have hj : j + 1 < m := by omega
          clear ha0 ha1
          by_cases hin : 0 < left
          · have hin2 : (0 : Int) < (left : Int) := by omega
            go_wp2_with (fail)
            refine kPick (pick_any R _ 4 _ HM4.out.2 (by omega)) ?_
            intro y w5 hq1 hq2 hm5' hs5
            obtain ⟨hy0, hy1⟩ := hq1 (by omega)
            have HM5 := Lib.hid (HM4.out.trans hm5')
            have HP5 := Lib.hid (HP4.out.mv hR hm5')
            clear hq1 hq2 hm5' hs5
            by_cases hy : y = 0
            · subst hy
              obtain ⟨g, p1, rfl, hBg, hgl, hp1, hc1, hf1, hi1⟩ := HP5.out.get (j := j) (by omega)
              have hp1m : p1 ∈ ps := List.mem_of_getElem? hp1
              have hpos1 := (HPOS.out p1 hp1m).pos
              have HTM1 := Lib.hid (HPOS.out p1 hp1m)
              have hsat := Lib.hid (sumL_at hp1)
              have HPP1 := Lib.hid hp1
              obtain ⟨⟨A1, c1⟩, x1⟩ := p1
              obtain ⟨g1, rfl, hg1a, hg1⟩ := own_cellsD hi1.1 hpos1
              have HI1 := Lib.hid hi1
              have hx1 : x1.length ≤ 10 := by have := hsat.out; simp only at this; omega
              have hs5 : w.heap.size ≤ w5.heap.size := HM5.out.1.size
              simp only [hdV] at hc1
              clear hi1 hp1 hp1m
              have hjI : (j : Int) < (m : Int) := by omega
              go_wp2_with (first
                | (at_builtin; refine wpl_app rowM rfl _ _ (by rfl) w5.heap.size _ 0 (v3 []) (by rfl) (OwnM.empty w5 _ (Nat.le_refl _)) ⟨g1, 0, none⟩ x1.length c1 (v3 x1) (by rfl) (v3_len _) (MarksAt.news (OwnM.at_ (HI1.out.1.alloc _))) (v3_one _) hpos1 (by omega) (by simp) ?_
                   intro g7 cap7 w7 hown7 hgrow7 hat7 hlt7)
                | fail)
              have hR5 : R < w5.heap.size := by omega
              have HQ7 := Lib.hid ((show Mv R _ w5 w5 from ⟨grown_rf _ _, HM5.out.2⟩).below (((Below.refl _ _).alloc (Nat.le_refl _) _).grown hgrow7 (by simp) (fun k hk => by cases hk; exact Nat.le_refl _)))
              rw [Nat.zero_add, v3_nil, List.nil_append] at hown7
              refine kPick (pick_any R _ 14 _ HQ7.out.2 (by omega)) ?_
              intro hi w8 hq1 hq2 hm8 hs8
              obtain ⟨hh0, hh1⟩ := hq1 (by omega)
              have HQ8 := Lib.hid (HQ7.out.trans hm8)
              have HO8 := Lib.hid (own_mv hown7 hR5 hm8)
              have hs58 : w5.heap.size ≤ w8.heap.size := HQ8.out.1.size
              clear hq1 hq2 hm8 hs8 hown7 hgrow7 hat7 hlt7
              go_wp2_with (first
                | (at_builtin; refine wpl_app rowM rfl _ _ (by rfl) w5.heap.size _ x1.length (v3 x1) (by rfl) (HO8.out.alloc _) ⟨w8.heap.size, 0, none⟩ 1 1 (v3 [(3, 0, 3 + hi)]) (by rfl) rfl (cell3_at (by simp) _ _) (v3_one _) (by decide) (by omega) (by simp; omega) ?_
                   intro g9 cap9 w9 hown9 hgrow9 hat9 hlt9
                   have HQ9 := Lib.hid ((HQ8.out.alloc (.cells #[.int .i64 3, .int .i64 0, .int .i64 (3 + hi)] 54)).grown hgrow9 (fun k hk => (HO8.out.lt k hk).1) hR5)
                   have HP9 := Lib.hid (HP5.out.mv hR HQ9.out)
                   obtain ⟨g', p', e', hBg', _, _, hc9, hf9, _⟩ := HP9.out.get (j := j) (by omega)
                   cases e')
                | fail)
              have hg9 : w5.heap.size ≤ g9 := (hown9.lt g9 rfl).1
              have HSET := Lib.hid (HP9.out.set j (q := ((some ⟨g9, 0, none⟩, cap9), x1 ++ [(3, 0, 3 + hi)])) ⟨by show World.ownsRow _ _ _ _ _ _ (v3 (_ ++ _)); rw [List.length_append, v3_append]; exact own_base hown9 hs5, fun k hk e => by simp only [hdV, Value.ownBlock] at hk e; cases hk; cases e; omega⟩)
              have hsum2 := sumL_set (q := ((some ⟨g9, 0, none⟩, cap9), x1 ++ [(3, 0, 3 + hi)])) HPP1.out
              rw [show hdV ((some ⟨g9, 0, none⟩, cap9), x1 ++ [(3, 0, 3 + hi)]) = .slice (some ⟨g9, 0, none⟩) (x1.length + 1) cap9 by simp [hdV]] at HSET
              go_roundw
              case rel =>
                refine ⟨left - 1, some ⟨g, 0, none⟩, m, c, ps.set j ((some ⟨g9, 0, none⟩, cap9), x1 ++ [(3, 0, 3 + hi)]), rfl, by rw [show ((left - 1 : Nat) : Int) = (left : Int) - 1 by omega], hm1, hm4, by omega, HSET.out, fun q hq => ?_, ?_, ?_⟩
                · rcases List.mem_or_eq_of_mem_set hq with hq | rfl
                  · exact HPOS.out q hq
                  · exact tmP_one HTM1.out (by omega) (by omega)
                · simp at hsum2; omega
                · exact ((HM5.out.trans HQ9.out).setNew hBg' hR j _).mono (by omega)
              case measure => simp [intOf, lenOf]; omega
            · have hyb : (y == 0) = false := by simpa using hy
              -- BEGIN MERGE5
              obtain ⟨g, p1, rfl, hBg, hgl, hp1, hc1, hf1, hi1⟩ := HP5.out.get (j := j) (by omega)
              obtain ⟨g', p2, e2, _, _, hp2, hc2, _, hi2⟩ := HP5.out.get (j := j + 1) (by omega)
              cases e2
              have hpos1 := (HPOS.out p1 (List.mem_of_getElem? hp1)).pos
              have HTM1 := Lib.hid (HPOS.out p1 (List.mem_of_getElem? hp1))
              have hpos2 := (HPOS.out p2 (List.mem_of_getElem? hp2)).pos
              have HTM2 := Lib.hid (HPOS.out p2 (List.mem_of_getElem? hp2))
              have HS1 := Lib.hid (sumL_at hp1)
              have HS2 := Lib.hid (sumL_at hp2)
              have HTK := Lib.hid (sumL_take_succ hp1)
              obtain ⟨⟨A1, c1⟩, x1⟩ := p1
              obtain ⟨⟨A2, c2⟩, x2⟩ := p2
              obtain ⟨g1, rfl, hg1a, hg1⟩ := own_cellsD hi1.1 hpos1
              obtain ⟨g2, rfl, hg2a, hg2⟩ := own_cellsD hi2.1 hpos2
              have HI1 := Lib.hid hi1
              have HI2 := Lib.hid hi2
              have hx12 : x1.length + x2.length ≤ 10 := by have h1 := HS1.out; have h2 := HS2.out; have h3 := HTK.out; simp only at h1 h2 h3; omega
              have hs5 : w.heap.size ≤ w5.heap.size := HM5.out.1.size
              have hR5 : R < w5.heap.size := by omega
              have hgR : g ≠ R := by omega
              have HQ5 := Lib.hid (show Mv R _ w5 w5 from ⟨grown_rf _ _, HM5.out.2⟩)
              simp only [hdV] at hc1 hc2
              clear hi1 hp1 hi2 hp2
              have hjI : (j : Int) < (m : Int) := by omega
              have hjI1 : (j : Int) + 1 < (m : Int) := by omega
              have hjI0 : (0 : Int) ≤ (j : Int) := by omega
              have hjI2 : (0 : Int) ≤ (j : Int) + 1 := by omega
              have HWJ := Lib.hid (show IntKind.i64.wrap ((j : Int) + 1) = (j : Int) + 1 from wrap_id' (by omega) (by omega))
              have hwj := HWJ.out
              go_wp2_with (fail)
              go_region_held_law (fun w' => w'.cell? ⟨g, j, none⟩ = some (.slice (some ⟨g1, 0, none⟩) x1.length c1) ∧ w'.cell? ⟨g, j + 1, none⟩ = some (.slice (some ⟨g2, 0, none⟩) x2.length c2))
                (first | exact ⟨hc1, hc2⟩ | exact ⟨Mv.keepC HQa.out hgR hc1, Mv.keepC HQa.out hgR hc2⟩ | exact ⟨Mv.keepC (HQa.out.alloc _) hgR hc1, Mv.keepC (HQa.out.alloc _) hgR hc2⟩ | exact ⟨Mv.keepC HQ9.out hgR hc1, Mv.keepC HQ9.out hgR hc2⟩ | exact ⟨Mv.keepC (HQ9.out.alloc _) hgR hc1, Mv.keepC (HQ9.out.alloc _) hgR hc2⟩ | exact ⟨Mv.keepC HQ8.out hgR hc1, Mv.keepC HQ8.out hgR hc2⟩ | exact ⟨Mv.keepC HQ7.out hgR hc1, Mv.keepC HQ7.out hgR hc2⟩ | exact ⟨keep (show Below w5.heap.size w5 _ from (by repeat (first | exact Below.refl _ _ | refine Below.alloc ?_ (by simp) _ | apply Below.drew))) hc1, keep (show Below w5.heap.size w5 _ from (by repeat (first | exact Below.refl _ _ | refine Below.alloc ?_ (by simp) _ | apply Below.drew))) hc2⟩)
                (first
                  | (refine step_app rowM (by rfl) _ _ (by rfl) w5.heap.size _ 0 (v3 []) (by rfl) (OwnM.empty _ _ (Nat.le_refl _)) ⟨g1, 0, none⟩ x1.length c1 (v3 x1) (by rfl) (v3_len _) (MarksAt.news ((OwnM.at_ HI1.out.1).below (by repeat (first | exact Below.refl _ _ | refine Below.alloc ?_ (by simp) _ | apply Below.drew)))) (v3_one _) hpos1 (by omega) (by simp) ?_
                     intro g7 cap7 w7 hown7 hgrow7 hat7 hlt7
                     have HQ7 := Lib.hid (HQ5.out.below (Below.grown (show Below w5.heap.size w5 _ from (by repeat (first | exact Below.refl _ _ | refine Below.alloc ?_ (by simp) _ | apply Below.drew))) hgrow7 (by simp) (fun k hk => by cases hk; exact Nat.le_refl _)))
                     have HO7 := Lib.hid hown7)
                  | (refine step_app rowM (by rfl) _ _ (by rfl) w5.heap.size _ (0 + x1.length) (v3 [] ++ v3 x1) (by rfl) HO7.out ⟨g2, 0, none⟩ x2.length c2 (v3 x2) (by rfl) (v3_len _) (MarksAt.news (OwnM.at_ (HI2.out.mv hR HQ7.out).1)) (v3_one _) hpos2 (by omega) (by have := HQ7.out.1.size; omega) ?_
                     intro g8 cap8 w8 hown8 hgrow8 hat8 hlt8
                     have HQ8 := Lib.hid (HQ7.out.grown hgrow8 (fun k hk => (HO7.out.lt k hk).1) hR5)
                     have HO8 := Lib.hid hown8)
                  | (go_simp; go_at_call 31; refine kPick (pick_any R _ 3 _ HQ8.out.2 (by omega)) ?_; intro z w9 hq1 hq2 hm9 hs9
                     obtain ⟨hz0, hz1⟩ := hq1 (by omega)
                     have HQ9 := Lib.hid (HQ8.out.trans hm9)
                     have hown9 := own_mv HO8.out hR5 hm9
                     rw [Nat.zero_add, v3_nil, List.nil_append] at hown9
                     have HO9 := Lib.hid hown9
                     clear hq1 hq2 hs9 hm9 hown9)
                  | (refine step_app rowM (by rfl) _ _ (by rfl) w5.heap.size _ (x1.length + x2.length) (v3 x1 ++ v3 x2) (by rfl) (HO9.out.alloc _) ⟨w9.heap.size, 0, none⟩ 1 1 (v3 [(IntKind.i64.wrap (1 + IntKind.i64.wrap (z.tdiv 2)), 0, 0)]) (by rfl) (by rfl) (cell3_at (by simp) _ _) (v3_one _) (by decide) (by omega) (by have := HQ9.out.1.size; simp; omega) ?_
                     intro ga capa wa hownA hgrowA hatA hltA
                     have HQa := Lib.hid ((HQ9.out.alloc _).grown hgrowA (fun k hk => (HO9.out.lt k hk).1) hR5)))
              all_goals
                have hsa : w5.heap.size ≤ wa.heap.size := HQa.out.1.size
                have HOA := Lib.hid hownA
                have hga0 : w5.heap.size ≤ ga := (hownA.lt ga rfl).1
                have hga1 : ga < wa.heap.size := (hownA.lt ga rfl).2
                have HPa := Lib.hid (HP5.out.mv hR HQa.out)
                have HE := Lib.hid (show vS [((some ⟨ga, 0, none⟩, capa), x1 ++ x2 ++ [(IntKind.i64.wrap (1 + IntKind.i64.wrap (z.tdiv 2)), 0, 0)])] = [.slice (some ⟨ga, 0, none⟩) (x1.length + x2.length + 1) capa] by simp [vS, hdV]; omega)
                obtain ⟨mk, HMK⟩ : ∃ q, Hid (((IntKind.i64.wrap (1 + IntKind.i64.wrap (z.tdiv 2)), 0, 0) : Mk) = q) := ⟨_, rfl⟩
                rw [HMK.out] at HE HOA
                have HTW := Lib.hid (show TwoM mk from by rw [← HMK.out]; exact twoM_of (by omega) (by omega))
                have hgA : g < wa.heap.size := by omega
                have hcm : m ≤ c := HP5.out.room
                have hlps : ps.length = m := HP5.out.len
                have HLP := Lib.hid hlps
                obtain ⟨Ad, hif⟩ : ∃ Ad, (if c = j + 2 then some (⟨g, 0, none⟩ : Addr) else some ⟨g, j + 2, none⟩) = some Ad := by split <;> exact ⟨_, rfl⟩
                clear hown7 hgrow7 hat7 hlt7 hown8 hgrow8 hat8 hlt8 hownA hgrowA hatA hltA HQ7 HQ8 HQ9 HO7 HO8 HO9 hwj hlps hc1 hc2
                have hjI3 : (j : Int) + 2 ≤ (m : Int) := by omega
                go_wp2_with (first
                  | (at_builtin; refine wpl_app0 rowR rfl _ _ (by rfl) wa.heap.size _ 0 [] (by rfl) (own_lit wa wa.heap.size _ 1 #[] 0 (Nat.le_refl _) (by decide) rfl) ⟨g, 0, none⟩ j c (vS (ps.take j)) (by rfl) (by rw [vS_len, List.length_take, HLP.out]; omega) ((HPa.out.alloc _).newsTake j) (vS_one _) (by omega) (by simp) ?_; intro v2 w2 hown2 hgrow2 _
                     have HQb := Lib.hid ((HQa.out.alloc _).grown hgrow2 (fun k hk => by cases hk; exact hsa) hR5)
                     have HOB := Lib.hid (own_kept5 (HOA.out.alloc _) (fun k hk => (HOA.out.lt k hk).2) hgrow2 (fun k hk => by cases hk; exact Nat.le_refl _))
                     rw [Nat.zero_add, List.nil_append] at hown2
                     have HN2 := Lib.hid hown2
                     have hw2 : wa.heap.size ≤ w2.heap.size := by have := hgrow2.size; simp at this; omega
                     clear hown2 hgrow2)
                  | (at_builtin; refine wpl_app rowR rfl _ _ (by rfl) wa.heap.size _ j (vS (ps.take j)) (by rfl) (HN2.out.alloc _) ⟨w2.heap.size, 0, none⟩ 1 1 (vS [((some ⟨ga, 0, none⟩, capa), x1 ++ x2 ++ [mk])]) (by rfl) rfl (by rw [HE.out]; exact cell_one_at (by simp) _ _) (vS_one _) (by decide) (by omega) (by simp; omega) ?_; intro g3 cap3 w3 hown3 hgrow3 _ _
                     have HQc := Lib.hid ((HQb.out.alloc _).grown hgrow3 (fun k hk => Nat.le_trans hsa (HN2.out.lt k hk).1) hR5)
                     have HOC := Lib.hid (own_kept5 (HOB.out.alloc _) (fun k hk => (HOA.out.lt k hk).2) hgrow3 (fun k hk => (HN2.out.lt k hk).1))
                     have HN3 := Lib.hid hown3
                     have hw3 : wa.heap.size ≤ w3.heap.size := by have := hgrow3.size; simp at this; omega
                     clear hown3 hgrow3
                     have HT3 := Lib.hid ((HP5.out.mv hR HQc.out).newsDrop (k := j + 2) (by omega) hif))
                  | (at_builtin; refine wpl_app0 rowR rfl _ _ (by rfl) wa.heap.size _ (j + 1) (vS (ps.take j) ++ vS [((some ⟨ga, 0, none⟩, capa), x1 ++ x2 ++ [mk])]) (by rfl) HN3.out Ad (m - (j + 2)) (c - (j + 2)) (vS (ps.drop (j + 2))) (by (rw [← hif]) <;> rfl) (by simp only [vS_len, List.length_drop, HLP.out]) HT3.out (vS_one _) (by omega) hw3 ?_; intro v4 wd hown4 hgrow4 _
                     have HQd := Lib.hid (HQc.out.grown hgrow4 (fun k hk => Nat.le_trans hsa (HN3.out.lt k hk).1) hR5)
                     have HOD := Lib.hid (own_kept5 HOC.out (fun k hk => (HOA.out.lt k hk).2) hgrow4 (fun k hk => (HN3.out.lt k hk).1))))
                obtain ⟨g4, cap4, rfl, hg4, hl4⟩ := hown4.form (by omega)
                have e1 : j + 1 + (m - (j + 2)) = m - 1 := by omega
                rw [e1, ← vS_append, ← vS_append] at hown4
                have hs1 := HS1.out
                have hs2 := HS2.out
                rw [show j + 1 + 1 = j + 2 from rfl] at hs2
                have hs3 := HTK.out
                (try simp only at hs1)
                (try simp only at hs2)
                (try simp only at hs3)
                go_wp2
                go_roundw
                case rel =>
                  refine ⟨left, some ⟨g4, 0, none⟩, m - 1, cap4, ps.take j ++ [((some ⟨ga, 0, none⟩, capa), x1 ++ x2 ++ [mk])] ++ ps.drop (j + 2), by rw [e1], rfl, by omega, by omega, by omega, ⟨own_base hown4 (Nat.le_trans hs5 hsa), fun p hp => ?_⟩, fun p hp => ?_, ?_, ((HM5.out.trans HQd.out).mono (by omega))⟩
                  · rcases List.mem_append.1 hp with hp | hp
                    · rcases List.mem_append.1 hp with hp | hp
                      · have hi := (HP5.out.inn p (List.mem_of_mem_take hp)).mv hR HQd.out
                        exact ⟨hi.1, fun k hk e => by simp only [Value.ownBlock] at e; cases e; have := ((HP5.out.inn p (List.mem_of_mem_take hp)).1.lt _ hk).2; omega⟩
                      · obtain rfl := List.mem_singleton.1 hp
                        refine ⟨?_, fun k hk e => by simp only [Value.ownBlock, hdV] at e hk; cases e; cases hk; omega⟩
                        show World.ownsRow _ _ _ _ _ _ (v3 (_ ++ _ ++ _))
                        rw [List.length_append, List.length_append, v3_append, v3_append]
                        exact own_base HOD.out hs5
                    · have hi := (HP5.out.inn p (List.mem_of_mem_drop hp)).mv hR HQd.out
                      exact ⟨hi.1, fun k hk e => by simp only [Value.ownBlock] at e; cases e; have := ((HP5.out.inn p (List.mem_of_mem_drop hp)).1.lt _ hk).2; omega⟩
                  · rcases List.mem_append.1 hp with hp | hp
                    · rcases List.mem_append.1 hp with hp | hp
                      · exact HPOS.out p (List.mem_of_mem_take hp)
                      · obtain rfl := List.mem_singleton.1 hp; exact tmP_two HTM1.out HTM2.out HTW.out
                    · exact HPOS.out p (List.mem_of_mem_drop hp)
                  · rw [sumL_append, sumL_append, sumL_one]
                    simp only [List.length_append, List.length_singleton]
                    omega
                case measure => simp [intOf, lenOf]; omega
              -- END MERGE5
          · obtain rfl : left = 0 := by omega
            -- BEGIN MERGE4
            obtain ⟨g, p1, rfl, hBg, hgl, hp1, hc1, hf1, hi1⟩ := HP4.out.get (j := j) (by omega)
            obtain ⟨g', p2, e2, _, _, hp2, hc2, _, hi2⟩ := HP4.out.get (j := j + 1) (by omega)
            cases e2
            have hpos1 := (HPOS.out p1 (List.mem_of_getElem? hp1)).pos
            have HTM1 := Lib.hid (HPOS.out p1 (List.mem_of_getElem? hp1))
            have hpos2 := (HPOS.out p2 (List.mem_of_getElem? hp2)).pos
            have HTM2 := Lib.hid (HPOS.out p2 (List.mem_of_getElem? hp2))
            have HS1 := Lib.hid (sumL_at hp1)
            have HS2 := Lib.hid (sumL_at hp2)
            have HTK := Lib.hid (sumL_take_succ hp1)
            obtain ⟨⟨A1, c1⟩, x1⟩ := p1
            obtain ⟨⟨A2, c2⟩, x2⟩ := p2
            obtain ⟨g1, rfl, hg1a, hg1⟩ := own_cellsD hi1.1 hpos1
            obtain ⟨g2, rfl, hg2a, hg2⟩ := own_cellsD hi2.1 hpos2
            have HI1 := Lib.hid hi1
            have HI2 := Lib.hid hi2
            have hx12 : x1.length + x2.length ≤ 10 := by have h1 := HS1.out; have h2 := HS2.out; have h3 := HTK.out; simp only at h1 h2 h3; omega
            have hs5 : w.heap.size ≤ w4.heap.size := HM4.out.1.size
            have hR5 : R < w4.heap.size := by omega
            have hgR : g ≠ R := by omega
            have HQ5 := Lib.hid (show Mv R _ w4 w4 from ⟨grown_rf _ _, HM4.out.2⟩)
            simp only [hdV] at hc1 hc2
            clear hi1 hp1 hi2 hp2
            have hjI : (j : Int) < (m : Int) := by omega
            have hjI1 : (j : Int) + 1 < (m : Int) := by omega
            have hjI0 : (0 : Int) ≤ (j : Int) := by omega
            have hjI2 : (0 : Int) ≤ (j : Int) + 1 := by omega
            have HWJ := Lib.hid (show IntKind.i64.wrap ((j : Int) + 1) = (j : Int) + 1 from wrap_id' (by omega) (by omega))
            have hwj := HWJ.out
            go_wp2_with (fail)
            go_region_held_law (fun w' => w'.cell? ⟨g, j, none⟩ = some (.slice (some ⟨g1, 0, none⟩) x1.length c1) ∧ w'.cell? ⟨g, j + 1, none⟩ = some (.slice (some ⟨g2, 0, none⟩) x2.length c2))
              (first | exact ⟨hc1, hc2⟩ | exact ⟨Mv.keepC HQa.out hgR hc1, Mv.keepC HQa.out hgR hc2⟩ | exact ⟨Mv.keepC (HQa.out.alloc _) hgR hc1, Mv.keepC (HQa.out.alloc _) hgR hc2⟩ | exact ⟨Mv.keepC HQ9.out hgR hc1, Mv.keepC HQ9.out hgR hc2⟩ | exact ⟨Mv.keepC (HQ9.out.alloc _) hgR hc1, Mv.keepC (HQ9.out.alloc _) hgR hc2⟩ | exact ⟨Mv.keepC HQ8.out hgR hc1, Mv.keepC HQ8.out hgR hc2⟩ | exact ⟨Mv.keepC HQ7.out hgR hc1, Mv.keepC HQ7.out hgR hc2⟩ | exact ⟨keep (show Below w4.heap.size w4 _ from (by repeat (first | exact Below.refl _ _ | refine Below.alloc ?_ (by simp) _ | apply Below.drew))) hc1, keep (show Below w4.heap.size w4 _ from (by repeat (first | exact Below.refl _ _ | refine Below.alloc ?_ (by simp) _ | apply Below.drew))) hc2⟩)
              (first
                | (refine step_app rowM (by rfl) _ _ (by rfl) w4.heap.size _ 0 (v3 []) (by rfl) (OwnM.empty _ _ (Nat.le_refl _)) ⟨g1, 0, none⟩ x1.length c1 (v3 x1) (by rfl) (v3_len _) (MarksAt.news ((OwnM.at_ HI1.out.1).below (by repeat (first | exact Below.refl _ _ | refine Below.alloc ?_ (by simp) _ | apply Below.drew)))) (v3_one _) hpos1 (by omega) (by simp) ?_
                   intro g7 cap7 w7 hown7 hgrow7 hat7 hlt7
                   have HQ7 := Lib.hid (HQ5.out.below (Below.grown (show Below w4.heap.size w4 _ from (by repeat (first | exact Below.refl _ _ | refine Below.alloc ?_ (by simp) _ | apply Below.drew))) hgrow7 (by simp) (fun k hk => by cases hk; exact Nat.le_refl _)))
                   have HO7 := Lib.hid hown7)
                | (refine step_app rowM (by rfl) _ _ (by rfl) w4.heap.size _ (0 + x1.length) (v3 [] ++ v3 x1) (by rfl) HO7.out ⟨g2, 0, none⟩ x2.length c2 (v3 x2) (by rfl) (v3_len _) (MarksAt.news (OwnM.at_ (HI2.out.mv hR HQ7.out).1)) (v3_one _) hpos2 (by omega) (by have := HQ7.out.1.size; omega) ?_
                   intro g8 cap8 w8 hown8 hgrow8 hat8 hlt8
                   have HQ8 := Lib.hid (HQ7.out.grown hgrow8 (fun k hk => (HO7.out.lt k hk).1) hR5)
                   have HO8 := Lib.hid hown8)
                | (go_simp; go_at_call 31; refine kPick (pick_any R _ 3 _ HQ8.out.2 (by omega)) ?_; intro z w9 hq1 hq2 hm9 hs9
                   obtain ⟨hz0, hz1⟩ := hq1 (by omega)
                   have HQ9 := Lib.hid (HQ8.out.trans hm9)
                   have hown9 := own_mv HO8.out hR5 hm9
                   rw [Nat.zero_add, v3_nil, List.nil_append] at hown9
                   have HO9 := Lib.hid hown9
                   clear hq1 hq2 hs9 hm9 hown9)
                | (refine step_app rowM (by rfl) _ _ (by rfl) w4.heap.size _ (x1.length + x2.length) (v3 x1 ++ v3 x2) (by rfl) (HO9.out.alloc _) ⟨w9.heap.size, 0, none⟩ 1 1 (v3 [(IntKind.i64.wrap (1 + IntKind.i64.wrap (z.tdiv 2)), 0, 0)]) (by rfl) (by rfl) (cell3_at (by simp) _ _) (v3_one _) (by decide) (by omega) (by have := HQ9.out.1.size; simp; omega) ?_
                   intro ga capa wa hownA hgrowA hatA hltA
                   have HQa := Lib.hid ((HQ9.out.alloc _).grown hgrowA (fun k hk => (HO9.out.lt k hk).1) hR5)))
            all_goals
              have hsa : w4.heap.size ≤ wa.heap.size := HQa.out.1.size
              have HOA := Lib.hid hownA
              have hga0 : w4.heap.size ≤ ga := (hownA.lt ga rfl).1
              have hga1 : ga < wa.heap.size := (hownA.lt ga rfl).2
              have HPa := Lib.hid (HP4.out.mv hR HQa.out)
              have HE := Lib.hid (show vS [((some ⟨ga, 0, none⟩, capa), x1 ++ x2 ++ [(IntKind.i64.wrap (1 + IntKind.i64.wrap (z.tdiv 2)), 0, 0)])] = [.slice (some ⟨ga, 0, none⟩) (x1.length + x2.length + 1) capa] by simp [vS, hdV]; omega)
              obtain ⟨mk, HMK⟩ : ∃ q, Hid (((IntKind.i64.wrap (1 + IntKind.i64.wrap (z.tdiv 2)), 0, 0) : Mk) = q) := ⟨_, rfl⟩
              rw [HMK.out] at HE HOA
              have HTW := Lib.hid (show TwoM mk from by rw [← HMK.out]; exact twoM_of (by omega) (by omega))
              have hgA : g < wa.heap.size := by omega
              have hcm : m ≤ c := HP4.out.room
              have hlps : ps.length = m := HP4.out.len
              have HLP := Lib.hid hlps
              obtain ⟨Ad, hif⟩ : ∃ Ad, (if c = j + 2 then some (⟨g, 0, none⟩ : Addr) else some ⟨g, j + 2, none⟩) = some Ad := by split <;> exact ⟨_, rfl⟩
              clear hown7 hgrow7 hat7 hlt7 hown8 hgrow8 hat8 hlt8 hownA hgrowA hatA hltA HQ7 HQ8 HQ9 HO7 HO8 HO9 hwj hlps hc1 hc2
              have hjI3 : (j : Int) + 2 ≤ (m : Int) := by omega
              go_wp2_with (first
                | (at_builtin; refine wpl_app0 rowR rfl _ _ (by rfl) wa.heap.size _ 0 [] (by rfl) (own_lit wa wa.heap.size _ 1 #[] 0 (Nat.le_refl _) (by decide) rfl) ⟨g, 0, none⟩ j c (vS (ps.take j)) (by rfl) (by rw [vS_len, List.length_take, HLP.out]; omega) ((HPa.out.alloc _).newsTake j) (vS_one _) (by omega) (by simp) ?_; intro v2 w2 hown2 hgrow2 _
                   have HQb := Lib.hid ((HQa.out.alloc _).grown hgrow2 (fun k hk => by cases hk; exact hsa) hR5)
                   have HOB := Lib.hid (own_kept5 (HOA.out.alloc _) (fun k hk => (HOA.out.lt k hk).2) hgrow2 (fun k hk => by cases hk; exact Nat.le_refl _))
                   rw [Nat.zero_add, List.nil_append] at hown2
                   have HN2 := Lib.hid hown2
                   have hw2 : wa.heap.size ≤ w2.heap.size := by have := hgrow2.size; simp at this; omega
                   clear hown2 hgrow2)
                | (at_builtin; refine wpl_app rowR rfl _ _ (by rfl) wa.heap.size _ j (vS (ps.take j)) (by rfl) (HN2.out.alloc _) ⟨w2.heap.size, 0, none⟩ 1 1 (vS [((some ⟨ga, 0, none⟩, capa), x1 ++ x2 ++ [mk])]) (by rfl) rfl (by rw [HE.out]; exact cell_one_at (by simp) _ _) (vS_one _) (by decide) (by omega) (by simp; omega) ?_; intro g3 cap3 w3 hown3 hgrow3 _ _
                   have HQc := Lib.hid ((HQb.out.alloc _).grown hgrow3 (fun k hk => Nat.le_trans hsa (HN2.out.lt k hk).1) hR5)
                   have HOC := Lib.hid (own_kept5 (HOB.out.alloc _) (fun k hk => (HOA.out.lt k hk).2) hgrow3 (fun k hk => (HN2.out.lt k hk).1))
                   have HN3 := Lib.hid hown3
                   have hw3 : wa.heap.size ≤ w3.heap.size := by have := hgrow3.size; simp at this; omega
                   clear hown3 hgrow3
                   have HT3 := Lib.hid ((HP4.out.mv hR HQc.out).newsDrop (k := j + 2) (by omega) hif))
                | (at_builtin; refine wpl_app0 rowR rfl _ _ (by rfl) wa.heap.size _ (j + 1) (vS (ps.take j) ++ vS [((some ⟨ga, 0, none⟩, capa), x1 ++ x2 ++ [mk])]) (by rfl) HN3.out Ad (m - (j + 2)) (c - (j + 2)) (vS (ps.drop (j + 2))) (by (rw [← hif]) <;> rfl) (by simp only [vS_len, List.length_drop, HLP.out]) HT3.out (vS_one _) (by omega) hw3 ?_; intro v4 wd hown4 hgrow4 _
                   have HQd := Lib.hid (HQc.out.grown hgrow4 (fun k hk => Nat.le_trans hsa (HN3.out.lt k hk).1) hR5)
                   have HOD := Lib.hid (own_kept5 HOC.out (fun k hk => (HOA.out.lt k hk).2) hgrow4 (fun k hk => (HN3.out.lt k hk).1))))
              obtain ⟨g4, cap4, rfl, hg4, hl4⟩ := hown4.form (by omega)
              have e1 : j + 1 + (m - (j + 2)) = m - 1 := by omega
              rw [e1, ← vS_append, ← vS_append] at hown4
              have hs1 := HS1.out
              have hs2 := HS2.out
              rw [show j + 1 + 1 = j + 2 from rfl] at hs2
              have hs3 := HTK.out
              (try simp only at hs1)
              (try simp only at hs2)
              (try simp only at hs3)
              go_wp2
              go_roundw
              case rel =>
                refine ⟨0, some ⟨g4, 0, none⟩, m - 1, cap4, ps.take j ++ [((some ⟨ga, 0, none⟩, capa), x1 ++ x2 ++ [mk])] ++ ps.drop (j + 2), by rw [e1], rfl, by omega, by omega, by omega, ⟨own_base hown4 (Nat.le_trans hs5 hsa), fun p hp => ?_⟩, fun p hp => ?_, ?_, ((HM4.out.trans HQd.out).mono (by omega))⟩
                · rcases List.mem_append.1 hp with hp | hp
                  · rcases List.mem_append.1 hp with hp | hp
                    · have hi := (HP4.out.inn p (List.mem_of_mem_take hp)).mv hR HQd.out
                      exact ⟨hi.1, fun k hk e => by simp only [Value.ownBlock] at e; cases e; have := ((HP4.out.inn p (List.mem_of_mem_take hp)).1.lt _ hk).2; omega⟩
                    · obtain rfl := List.mem_singleton.1 hp
                      refine ⟨?_, fun k hk e => by simp only [Value.ownBlock, hdV] at e hk; cases e; cases hk; omega⟩
                      show World.ownsRow _ _ _ _ _ _ (v3 (_ ++ _ ++ _))
                      rw [List.length_append, List.length_append, v3_append, v3_append]
                      exact own_base HOD.out hs5
                  · have hi := (HP4.out.inn p (List.mem_of_mem_drop hp)).mv hR HQd.out
                    exact ⟨hi.1, fun k hk e => by simp only [Value.ownBlock] at e; cases e; have := ((HP4.out.inn p (List.mem_of_mem_drop hp)).1.lt _ hk).2; omega⟩
                · rcases List.mem_append.1 hp with hp | hp
                  · rcases List.mem_append.1 hp with hp | hp
                    · exact HPOS.out p (List.mem_of_mem_take hp)
                    · obtain rfl := List.mem_singleton.1 hp; exact tmP_two HTM1.out HTM2.out HTW.out
                  · exact HPOS.out p (List.mem_of_mem_drop hp)
                · rw [sumL_append, sumL_append, sumL_one]
                  simp only [List.length_append, List.length_singleton]
                  omega
              case measure => simp [intOf, lenOf]; omega
            -- END MERGE4
        · obtain rfl : m = 1 := by omega
          obtain ⟨g, p1, rfl, hBg, hgl, hp1, hc1, hf1, hi1⟩ := HP.out.get (j := 0) (by omega)
          have hpos1 := (HPOS.out p1 (List.mem_of_getElem? hp1)).pos
          have HTM1 := Lib.hid (HPOS.out p1 (List.mem_of_getElem? hp1))
          have HS1 := Lib.hid (sumL_at hp1)
          obtain ⟨⟨A1, c1⟩, x1⟩ := p1
          obtain ⟨g1, rfl, hg1a, hg1⟩ := own_cellsD hi1.1 hpos1
          have HI1 := Lib.hid hi1
          have hx1 : x1.length ≤ 10 := by have h1 := HS1.out; simp only at h1; omega
          simp only [hdV] at hc1
          replace hpos1 : 0 < x1.length := hpos1
          have hposI : (0 : Int) < (x1.length : Int) := by omega
          clear hi1 hp1
          go_wp2_with (fail)
          refine (odd0_any R _).mono ?_
          rintro e w6 ⟨rfl, rfl⟩
          go_wp2
          go_ret
          exact ⟨g1, c1, x1, rfl, HI1.out.1, tok_of HTM1.out (by omega), HM.out.mono (by omega)⟩

end Go.Proofs.YtcmicmenkbgfmaaDoor
