/- Terms with narrowed steps, by the program: (*part).narrowed. -/
import Derived.Test.YtookhelfbnhadaaMK
import Derived.Test.YtookhelfbnhadaaMJ
import Derived.Test.YtookhelfbnhadaaN7
import Derived.Lib.MinMax
import Derived.Deep.RegionLaw
import Derived.Deep.RegionHeldLaw
import Derived.Deep.DrawnRows
namespace Go.Proofs.Ytookhelfbnhadaa
open Go.RowKit
attribute [local go_sem ↓] Go.wp_at_zero Go.wp_at_succ

theorem node0 {w : World} {D : Nat → Prop} {l h : Int} {t4 : TypeId} {q : Nat} (hq : w.heap.size = q) (h1 : D q) :
    Pt D (w.alloc (.cells #[.int .i64 0, .int .i64 l, .int .i64 h, .slice none 0 0] t4)) (.step l h) ⟨q, 0, none⟩ := by
  subst hq
  refine ⟨w.heap.size, 0, none, 0, rfl, h1, ?_, ?_, ?_, ?_, rfl, fun hn => by simp at hn⟩
  · rw [World.cell?_alloc_new]; rfl
  · rw [World.cell?_alloc_new]; rfl
  · rw [World.cell?_alloc_new]; rfl
  · rw [World.cell?_alloc_new]; rfl

set_option maxRecDepth 100000 in
set_option maxHeartbeats 4000000 in
theorem narrowed_step (l h : Int) (lo hi : Int) (hl : ∀ (a : Addr) (w : World), Pt TT w (.step l h) a → Calls Try.prog 65 #[.pointer (some a)] w (Qt w (lenV (l, h, true))))
    (a : Addr) (w : World) (hp : Pt TT w (.step l h) a) : Calls Try.prog 69 #[.pointer (some a), .int .i64 lo, .int .i64 hi] w (NewPt w (narI (.step l h) lo hi)) := by
  have HP := Lib.hid hp
  have HL := Lib.hid hl
  obtain ⟨b, off, A, c, rfl, c0, c1, c2, c3⟩ := hp.openStep
  clear hp hl
  go_enter Try.func69, Try.ntmps69
  go_wp2_with (fail)
  refine kW (HL.out _ _ HP.out) ?_
  intro m
  simp only [lenV]
  go_wp2
  go_ret
  exact ⟨_, rfl, node0 (w := w.drewN m) rfl (Nat.le_refl _), (below_drewN (Below.refl _ _) m).alloc (Nat.le_refl _) _⟩

set_option maxRecDepth 100000 in
set_option maxHeartbeats 40000000 in
theorem narrowed_loop (t : Tm) (wf : Wf t) (hkind : (markT t).1 = 2 ∨ (markT t).1 = 3) (lo hi lo1 hi1 Lo Hi : Int) (ok1 : Bool) (hLo : max lo lo1 = Lo) (hHi : min hi hi1 = Hi)
    (hl : ∀ (a : Addr) (w : World), Pt TT w t a → Calls Try.prog 65 #[.pointer (some a)] w (Qt w (lenV (lo1, hi1, ok1))))
    (ih : ∀ k, k < (kidsT t).length → ∀ (a : Addr) (w : World), Pt TT w ((kidsT t).getD k dflt) a → Calls Try.prog 69 #[.pointer (some a), .int .i64 Lo, .int .i64 Hi] w (NewPt w (narI ((kidsT t).getD k dflt) Lo Hi)))
    (a : Addr) (w : World) (hp : Pt TT w t a) : Calls Try.prog 69 #[.pointer (some a), .int .i64 lo, .int .i64 hi] w (NewPt w (node (markT t) ((kidsT t).map fun x => narI x Lo Hi))) := by
  have HP := Lib.hid hp
  have HL := Lib.hid hl
  obtain ⟨b, off, A, c, ps, rfl, _, c0, c1, c2, c3, hps, hpl, hk⟩ := hp.open
  have HOK := Lib.hid (markT_ok wf)
  have HAR := Lib.hid (markT_arity wf)
  have hp2 : ps.length ≤ 2 := by rw [hpl]; exact kidsT_len t
  obtain ⟨m, HM⟩ : ∃ q, Hid (markT t = q) := ⟨_, rfl⟩
  rw [HM.out] at c0 c1 c2 HOK HAR hkind ⊢
  obtain ⟨m0, m1, m2⟩ := m
  simp only at c0 c1 c2 hkind
  have HK := Lib.hid hk
  have HPL := Lib.hid hpl
  have IH := Lib.hid ih
  have C0 := Lib.hid c0
  have C1 := Lib.hid c1
  have C2 := Lib.hid c2
  have C3 := Lib.hid c3
  have HPS := Lib.hid hps
  have hq0 : (m0 == 0) = false := by rw [beq_eq_false_iff_ne]; omega
  have hq1 : (m0 == 1) = false := by rw [beq_eq_false_iff_ne]; omega
  clear ih hk hpl hp hl c0 c1 c2 c3 hps
  go_enter Try.func69, Try.ntmps69
  go_wp2_with (fail)
  refine kW (HL.out _ _ HP.out) ?_
  intro m
  simp only [lenV]
  obtain ⟨w1, HW1⟩ : ∃ q, Hid (w.drewN m = q) := ⟨_, rfl⟩
  have HB1 := Lib.hid (show Below w.heap.size w w1 from HW1.out ▸ below_drewN (Below.refl _ _) m)
  have HS1 := Lib.hid (show w1.heap.size = w.heap.size from HW1.out ▸ rfl)
  rw [HW1.out]
  have c0 := keep HB1.out C0.out
  have c1 := keep HB1.out C1.out
  have c2 := keep HB1.out C2.out
  have c3 := keep HB1.out C3.out
  have hbl : b < w1.heap.size := cell_lt c0
  have HN := Lib.hid (Node.new w1 82 54 (m0, m1, m2))
  have HB0 := Lib.hid (show Below w1.heap.size w1 (w1.alloc (.cells #[.int .i64 m0, .int .i64 m1, .int .i64 m2, .slice none 0 0] 82)) from (Below.refl _ _).alloc (Nat.le_refl _) _)
  have HPS1 := Lib.hid (HPS.out.below HB1.out)
  have HK1 := Lib.hid (fun j hj => (HK.out j hj).below HB1.out)
  go_wp2
  go_loopw [18, 111] (fun _ i wr => ∃ (k : Nat) (Av : Option Addr) (cv : Nat) (qs : List Addr), k ≤ ps.length ∧ i = .int .i64 k ∧ Node wr w1.heap.size 82 54 (m0, m1, m2) Av k cv (((kidsT t).map fun x => narI x Lo Hi).take k) qs ∧ Below w1.heap.size w1 wr) (fun _ i _ => ps.length - (intOf i).toNat)
  case atStart => exact ⟨0, none, 0, [], Nat.zero_le _, rfl, HN.out, HB0.out⟩
  case round =>
    obtain ⟨wo, rfl⟩ : ∃ wo : World, wo = wr := ⟨_, rfl⟩
    obtain ⟨k, Av, cv, qs, hk, rfl, hno, hb⟩ := hrel
    have HNO := Lib.hid hno
    have HB := Lib.hid hb
    clear hno hb c0 c1 c2 c3
    have e3 : wo.cell? ⟨w1.heap.size, 3, none⟩ = some (.slice Av k cv) := (HNO.out.blk.cell 3).trans rfl
    by_cases hlt : k < ps.length
    · have HKL := Lib.hid (show k < (kidsT t).length by rw [← HPL.out]; exact hlt)
      obtain ⟨kb, ko, rfl, _, hc⟩ := (HPS1.out.below HB.out).cells (by omega)
      have k0 := hc k hlt
      have HPK := Lib.hid ((HK1.out k hlt).below HB.out)
      obtain ⟨ks, HKS⟩ : ∃ q, Hid ((kidsT t).getD k dflt = q) := ⟨_, rfl⟩
      have IHK := Lib.hid (IH.out k HKL.out)
      rw [HKS.out] at HPK IHK
      obtain ⟨pk, HPKN⟩ : ∃ q, Hid (ps.getD k a0 = q) := ⟨_, rfl⟩
      rw [HPKN.out] at k0 HPK
      have hwl : w1.heap.size < wo.heap.size := HNO.out.blk.lt
      clear hc
      go_wp2_with (fail)
      go_region_law
        (first
          | (go_simp; go_at_call 69; refine kNewPt (IHK.out pk _ (HPK.out.below (by repeat (first | exact Below.refl _ _ | refine Below.alloc ?_ (by simp) _ | apply Below.drew)))) ?_; intro aN wA hpA hbA; have e3A := keep hbA e3; have hwA : w1.heap.size < wA.heap.size := cell_lt e3A)
          | (refine step_app rowP (by rfl) _ _ (by rfl) (w1.heap.size + 1) _ k (vP qs) (by rfl) (own_below (own_below HNO.out.own ((Below.refl wo.heap.size wo).drew.trans hbA)) (by repeat (first | exact Below.refl _ _ | refine Below.alloc ?_ (by simp) _ | apply Below.drew))) ⟨wA.heap.size, 0, none⟩ 1 1 (vP [aN]) (by rfl) rfl (cell_one_at (by simp) _ _) (vP_one _) (by decide) (by omega) (by have := hbA.size; simp at *; omega) ?_
             intro g' cap' wB hownB hgrow hat hltB
             have HBLK := Lib.hid (HNO.out.blkB ((Below.refl wo.heap.size wo).drew.trans hbA) ((Below.refl _ _).alloc (Nat.le_refl _) _) hgrow)
             have hS := And.intro (show wB.cell? ⟨w1.heap.size, 3, none⟩ = some (.slice Av k cv) from (HBLK.out.cell 3).trans rfl) (HBLK.out.frozen 3)
             have eS := hS.1
             have fS := hS.2))
      all_goals
        have hbA' : Below wo.heap.size wo wA := (Below.refl wo.heap.size wo).drew.trans hbA
        have HST := Lib.hid (HNO.out.step hbA' hpA (fun b hb => hb) ((Below.refl _ _).alloc (Nat.le_refl _) _) hownB hgrow (hat.imp id (fun h => Nat.le_of_eq h.symm)))
        have HBW := Lib.hid (((((HB.out.trans (hbA'.mono HB.out.size)).alloc (Nat.le_trans HB.out.size hbA'.size) _).grown hgrow (by have := HB.out.size; have := hbA'.size; simp; omega) (fun k hk => by have := (HNO.out.own.lt k hk).1; omega)).setCell (p := ⟨w1.heap.size, 3, none⟩) (Nat.le_refl _) (.slice (some ⟨g', 0, none⟩) (k + 1) cap')))
        clear hgrow hat hownB
        go_wp2
        go_roundw
        case rel =>
          refine ⟨k + 1, some ⟨g', 0, none⟩, cap', qs ++ [aN], by omega, by go_num, ?_, HBW.out⟩
          have e : ((kidsT t).map fun x => narI x Lo Hi).take (k + 1) = ((kidsT t).map fun x => narI x Lo Hi).take k ++ [narI ks Lo Hi] := by
            have h1 : k < (kidsT t).length := HKL.out
            rw [List.take_succ_eq_append_getElem (by simpa using h1)]
            have h2 := HKS.out
            simp only [List.getD, List.getElem?_eq_getElem h1, Option.getD_some] at h2
            simp [h2]
          rw [e]
          exact HST.out
        case measure => simp [intOf]; omega
    · obtain rfl : k = ps.length := by omega
      have hts : ((kidsT t).map fun x => narI x Lo Hi).take ps.length = (kidsT t).map fun x => narI x Lo Hi := List.take_of_length_le (by simp [HPL.out])
      have HD := Lib.hid HNO.out
      rw [hts] at HD
      clear hts hlt hk
      have hs1 := HS1.out
      have HPD := Lib.hid (HD.out.done (D := fun b => w.heap.size ≤ b) (fun b hb => by rw [hs1] at hb; exact hb) HOK.out (by rw [HAR.out, HPL.out]))
      go_wp2
      go_ret
      exact ⟨_, rfl, HPD.out, HB1.out.trans (HB.out.mono HB1.out.size)⟩

set_option maxRecDepth 100000 in
set_option maxHeartbeats 40000000 in
theorem narrowed_then (x y : Tm) (lo hi lo1 hi1 Lo Hi la ha lb hb : Int) (ok1 oka okb : Bool) (hLo : max lo lo1 = Lo) (hHi : min hi hi1 = Hi)
    (hbd : -2000000 ≤ Lo ∧ Lo ≤ 2000000 ∧ -2000000 ≤ Hi ∧ Hi ≤ 2000000) (hba : 0 ≤ la ∧ la ≤ 1000 ∧ 0 ≤ ha ∧ ha ≤ 1000) (hbb : 0 ≤ lb ∧ lb ≤ 1000 ∧ 0 ≤ hb ∧ hb ≤ 1000)
    (hl : ∀ (a : Addr) (w : World), Pt TT w (.two 1 x y) a → Calls Try.prog 65 #[.pointer (some a)] w (Qt w (lenV (lo1, hi1, ok1))))
    (hlx : ∀ (a : Addr) (w : World), Pt TT w x a → Calls Try.prog 65 #[.pointer (some a)] w (Qt w (lenV (la, ha, oka))))
    (hly : ∀ (a : Addr) (w : World), Pt TT w y a → Calls Try.prog 65 #[.pointer (some a)] w (Qt w (lenV (lb, hb, okb))))
    (ihx : ∀ (a : Addr) (w : World), Pt TT w x a → Calls Try.prog 69 #[.pointer (some a), .int .i64 (Lo - hb), .int .i64 (Hi - lb)] w (NewPt w (narI x (Lo - hb) (Hi - lb))))
    (ihy : ∀ (a : Addr) (w : World), Pt TT w y a → Calls Try.prog 69 #[.pointer (some a), .int .i64 (Lo - ha), .int .i64 (Hi - la)] w (NewPt w (narI y (Lo - ha) (Hi - la))))
    (a : Addr) (w : World) (hp : Pt TT w (.two 1 x y) a) : Calls Try.prog 69 #[.pointer (some a), .int .i64 lo, .int .i64 hi] w (NewPt w (.two 1 (narI x (Lo - hb) (Hi - lb)) (narI y (Lo - ha) (Hi - la)))) := by
  have HP := Lib.hid hp
  have HL := Lib.hid hl
  have HLX := Lib.hid hlx
  have HLY := Lib.hid hly
  obtain ⟨b, off, kb, ko, c, ax, ay, rfl, c0, c1, c2, c3, k0, k1, hx, hy⟩ := hp.openTwo
  have HX := Lib.hid hx
  have HY := Lib.hid hy
  have HIX := Lib.hid ihx
  have HIY := Lib.hid ihy
  obtain ⟨hbd0, hbd1, hbd2, hbd3⟩ := hbd
  obtain ⟨hba0, hba1, hba2, hba3⟩ := hba
  obtain ⟨hbb0, hbb1, hbb2, hbb3⟩ := hbb
  have HW1 := Lib.hid (wrap_id (x := Lo - hb) (by omega) (by omega))
  have HW2 := Lib.hid (wrap_id (x := Hi - lb) (by omega) (by omega))
  have HW3 := Lib.hid (wrap_id (x := Lo - ha) (by omega) (by omega))
  have HW4 := Lib.hid (wrap_id (x := Hi - la) (by omega) (by omega))
  obtain ⟨R1, HR1⟩ : ∃ q, Hid (narI x (Lo - hb) (Hi - lb) = q) := ⟨_, rfl⟩
  obtain ⟨R2, HR2⟩ : ∃ q, Hid (narI y (Lo - ha) (Hi - la) = q) := ⟨_, rfl⟩
  rw [HR1.out] at HIX ⊢
  rw [HR2.out] at HIY ⊢
  have C0 := Lib.hid c0
  have C1 := Lib.hid c1
  have C2 := Lib.hid c2
  have C3 := Lib.hid c3
  have K0 := Lib.hid k0
  have K1 := Lib.hid k1
  clear hp hl hlx hly hx hy ihx ihy
  go_enter Try.func69, Try.ntmps69
  go_wp2_with (fail)
  refine kW (HL.out _ _ HP.out) ?_
  intro m
  simp only [lenV]
  go_wp2_with (fail)
  refine kW (HLX.out _ _ (HX.out.drewN m)) ?_
  intro m'
  simp only [lenV, dd]
  go_wp2_with (fail)
  refine kW (HLY.out _ _ (HY.out.drewN _)) ?_
  intro m2
  simp only [lenV, dd]
  obtain ⟨w1, HWW⟩ : ∃ q, Hid (w.drewN (m + m' + m2) = q) := ⟨_, rfl⟩
  have HB1 := Lib.hid (show Below w.heap.size w w1 from HWW.out ▸ below_drewN (Below.refl _ _) _)
  have HS1 := Lib.hid (show w1.heap.size = w.heap.size from HWW.out ▸ rfl)
  rw [HWW.out]
  replace c0 := keep HB1.out C0.out
  replace c1 := keep HB1.out C1.out
  replace c2 := keep HB1.out C2.out
  replace c3 := keep HB1.out C3.out
  replace k0 := keep HB1.out K0.out
  replace k1 := keep HB1.out K1.out
  have HX1 := Lib.hid (HX.out.below HB1.out)
  have HY1 := Lib.hid (HY.out.below HB1.out)
  have D0 := Lib.hid c0
  have D1 := Lib.hid c1
  have D2 := Lib.hid c2
  have D3 := Lib.hid c3
  have E0 := Lib.hid k0
  have E1 := Lib.hid k1
  have hbl : b < w1.heap.size := cell_lt c0
  have hkl : kb < w1.heap.size := cell_lt k0
  go_wp2_with (fail)
  go_region_held_law (fun w' => w'.cell? ⟨b, off, none⟩ = some (.int .i64 1) ∧ w'.cell? ⟨b, off + 1, none⟩ = some (.int .i64 0) ∧ w'.cell? ⟨b, off + 2, none⟩ = some (.int .i64 0) ∧ w'.cell? ⟨b, off + 3, none⟩ = some (.slice (some ⟨kb, ko, none⟩) 2 c) ∧ w'.cell? ⟨kb, ko, none⟩ = some (.pointer (some ax)) ∧ w'.cell? ⟨kb, ko + 1, none⟩ = some (.pointer (some ay)))
    (first | exact ⟨c0, c1, c2, c3, k0, k1⟩ | exact ⟨keep hbB D0.out, keep hbB D1.out, keep hbB D2.out, keep hbB D3.out, keep hbB E0.out, keep hbB E1.out⟩ | exact ⟨keep hbA D0.out, keep hbA D1.out, keep hbA D2.out, keep hbA D3.out, keep hbA E0.out, keep hbA E1.out⟩ | exact ⟨keep (hbB.alloc hbB.size _) D0.out, keep (hbB.alloc hbB.size _) D1.out, keep (hbB.alloc hbB.size _) D2.out, keep (hbB.alloc hbB.size _) D3.out, keep (hbB.alloc hbB.size _) E0.out, keep (hbB.alloc hbB.size _) E1.out⟩ | exact ⟨keep ((hbB.alloc hbB.size _).alloc (by have := hbB.size; simp; omega) _) D0.out, keep ((hbB.alloc hbB.size _).alloc (by have := hbB.size; simp; omega) _) D1.out, keep ((hbB.alloc hbB.size _).alloc (by have := hbB.size; simp; omega) _) D2.out, keep ((hbB.alloc hbB.size _).alloc (by have := hbB.size; simp; omega) _) D3.out, keep ((hbB.alloc hbB.size _).alloc (by have := hbB.size; simp; omega) _) E0.out, keep ((hbB.alloc hbB.size _).alloc (by have := hbB.size; simp; omega) _) E1.out⟩)
    (first
      | (go_at_call 69; (try rw [HW1.out]); (try rw [HW2.out]); with_reducible refine kNewPt (HIX.out ax _ ?_) ?_; exact HX1.out.below (by repeat (first | exact Below.refl _ _ | refine Below.alloc ?_ (by simp) _ | apply Below.drew))
         intro aA wA hpA hbA'
         have hbA : Below w1.heap.size w1 wA := Below.trans (show Below w1.heap.size w1 _ from (by repeat (first | exact Below.refl _ _ | refine Below.alloc ?_ (by simp) _ | apply Below.drew))) (hbA'.mono (by simp)))
      | (go_at_call 69; (try rw [HW3.out]); (try rw [HW4.out]); with_reducible refine kNewPt (HIY.out ay _ ?_) ?_; exact HY1.out.below hbA
         intro aB wB hpB hbB'
         have hbB : Below w1.heap.size w1 wB := hbA.trans (hbB'.mono hbA.size)))
  all_goals
    go_wp2
    go_ret
    have hs1 := HS1.out
    have hsA := hbA.size
    have hsB := hbB.size
    refine ⟨_, rfl, node2 rfl rfl ((hpA.below hbB').weaken fun b _ hb => by simp at hb; omega) (hpB.weaken fun b _ hb => by omega) ?_ ?_, HB1.out.trans (((hbB.alloc hbB.size _).alloc (by simp; omega) _).mono HB1.out.size)⟩
    · omega
    · omega

theorem narI_node {t : Tm} (hk : (markT t).1 = 2 ∨ (markT t).1 = 3) (lo hi : Int) : narI t lo hi = node (markT t) ((kidsT t).map fun x => narI x (max lo (lenS t).1) (min hi (lenS t).2.1)) := by
  cases t with
  | step l h => simp [markT] at hk
  | one a h => rfl
  | two k a b =>
    simp only [markT] at hk
    have hk1 : k ≠ 1 := by omega
    simp only [narI, if_neg hk1]; rfl

theorem narrowed_any (t : Tm) : Wf t → (lenS t).2.2 = true → stepsT t ≤ 11 → ∀ (lo hi N : Int), -N ≤ lo → lo ≤ N → -N ≤ hi → hi ≤ N → N + 1000 * ((marksOf t).length : Int) ≤ 1000000 →
    ∀ (a : Addr) (w : World), Pt TT w t a → Calls Try.prog 69 #[.pointer (some a), .int .i64 lo, .int .i64 hi] w (NewPt w (narI t lo hi)) := by
  have hlen : ∀ (t : Tm), Wf t → (lenS t).2.2 = true → stepsT t ≤ 11 → ∀ (a : Addr) (w : World), Pt TT w t a → Calls Try.prog 65 #[.pointer (some a)] w (Qt w (lenV ((lenS t).1, (lenS t).2.1, (lenS t).2.2))) := fun t wf hok hs a w hp => by
    have h1 := lengths_any t wf (by omega) a w hp
    rw [(lenI_eq wf).2 hok] at h1
    exact h1
  induction t with
  | step l h =>
    intro wf hok hs lo hi N h0 h1 h2 h3 h4 a w hp
    exact narrowed_step l h lo hi (hlen _ wf hok hs) a w hp
  | one x h ih =>
    intro wf hok hs lo hi N h0 h1 h2 h3 h4 a w hp
    have hm : (marksOf (.one x h)).length = (marksOf x).length + 1 := by simp [marksOf]
    rw [hm] at h4
    push_cast at h4
    have hb := lenS_bd wf
    have hs' := hs
    simp only [stepsT] at hs' hb
    have hkk : (markT (.one x h)).1 = 2 ∨ (markT (.one x h)).1 = 3 := .inr rfl
    rw [narI_node hkk]
    refine narrowed_loop _ wf hkk lo hi _ _ _ _ _ rfl rfl (hlen _ wf hok hs) (fun k hk a w hp => ?_) a w hp
    obtain rfl : k = 0 := by simp [kidsT] at hk; exact hk
    exact ih wf.1 (lenS_ok_one hok) hs' _ _ (N + 1000) (by omega) (by omega) (by omega) (by omega) (by omega) a w hp
  | two k x y ihx ihy =>
    intro wf hok hs lo hi N h0 h1 h2 h3 h4 a w hp
    have hm : (marksOf (.two k x y)).length = (marksOf x).length + (marksOf y).length + 1 := by simp [marksOf]; omega
    rw [hm] at h4
    push_cast at h4
    have hb := lenS_bd wf
    have hbx := lenS_bd wf.2.1
    have hby := lenS_bd wf.2.2
    have hs' := hs
    simp only [stepsT] at hs' hb
    have hok2 := lenS_ok_two hok
    rcases wf.1 with rfl | rfl
    · have e : narI (.two 1 x y) lo hi = .two 1 (narI x (max lo (lenS (.two 1 x y)).1 - (lenS y).2.1) (min hi (lenS (.two 1 x y)).2.1 - (lenS y).1)) (narI y (max lo (lenS (.two 1 x y)).1 - (lenS x).2.1) (min hi (lenS (.two 1 x y)).2.1 - (lenS x).1)) := by simp only [narI, if_pos]
      rw [e]
      refine narrowed_then x y lo hi _ _ _ _ (lenS x).1 (lenS x).2.1 (lenS y).1 (lenS y).2.1 _ _ _ rfl rfl ⟨by omega, by omega, by omega, by omega⟩ ⟨by omega, by omega, by omega, by omega⟩ ⟨by omega, by omega, by omega, by omega⟩ (hlen _ wf hok hs) (hlen _ wf.2.1 hok2.1 (by omega)) (hlen _ wf.2.2 hok2.2 (by omega)) ?_ ?_ a w hp
      · exact ihx wf.2.1 hok2.1 (by omega) _ _ (N + 1000) (by omega) (by omega) (by omega) (by omega) (by omega)
      · exact ihy wf.2.2 hok2.2 (by omega) _ _ (N + 1000) (by omega) (by omega) (by omega) (by omega) (by omega)
    · have hkk : (markT (.two 2 x y)).1 = 2 ∨ (markT (.two 2 x y)).1 = 3 := .inl rfl
      rw [narI_node hkk]
      refine narrowed_loop _ wf hkk lo hi _ _ _ _ _ rfl rfl (hlen _ wf hok hs) (fun k hk a w hp => ?_) a w hp
      match k, hk with
      | 0, _ => exact ihx wf.2.1 hok2.1 (by omega) _ _ (N + 1000) (by omega) (by omega) (by omega) (by omega) (by omega) a w hp
      | 1, _ => exact ihy wf.2.2 hok2.2 (by omega) _ _ (N + 1000) (by omega) (by omega) (by omega) (by omega) (by omega) a w hp

end Go.Proofs.Ytookhelfbnhadaa

