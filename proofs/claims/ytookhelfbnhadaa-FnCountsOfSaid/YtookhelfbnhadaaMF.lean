/- Lengths of all steps for a whole length: plain facts; l12For, (*part).lastsFor, both LastsFor. -/
import Derived.Test.YtookhelfbnhadaaMC
import Derived.Test.YtookhelfbnhadaaO3
import Derived.Test.YtookhelfbnhadaaMD
import Derived.Deep.DrawnRows
namespace Go.Proofs.Ytookhelfbnhadaa
open Go.RowKit
attribute [local go_sem ↓] Go.wp_at_zero Go.wp_at_succ

def forT : Tm → Int → List Int
  | .step _ _, tot => [tot]
  | .one a _, tot => forT a tot
  | .two k a b, tot => if k = 1 then forT a (max (lenS a).1 (tot - (lenS b).2.1)) ++ forT b (tot - max (lenS a).1 (tot - (lenS b).2.1)) else forT a tot ++ forT b tot
theorem forT_len (t : Tm) : ∀ tot, (forT t tot).length = stepsT t := by
  induction t with
  | step l h => intro tot; rfl
  | one a h ih => intro tot; exact ih tot
  | two k a b iha ihb =>
    intro tot
    simp only [forT, stepsT]
    split <;> rw [List.length_append, iha, ihb]
theorem rowI : RowTy Try.prog 37 3 (.int .i64 0) 1 8 := ⟨Try.underlying37, by kernel_rfl, rfl, by decide, by decide⟩
theorem OwnI.news {w : World} {base : Nat} {a : Addr} {n c : Nat} {xs : List Int} (h : OwnI w base (some a) n c xs) : ∀ j u, (vI xs)[j]? = some u → w.cell? (a.add j) = some u := by
  have h1 := OwnI.at_ h
  intro j u hu
  have hl := h1.len
  have hj : j < xs.length := by
    rcases Nat.lt_or_ge j xs.length with h1 | h1
    · exact h1
    · rw [vI, List.getElem?_eq_none (by simpa using h1)] at hu; cases hu
  obtain ⟨b, off, e, _⟩ := h1.cells (by omega)
  cases e
  exact h1.news j u hu

theorem wrap_id {x : Int} (h0 : -9223372036854775808 ≤ x) (h1 : x ≤ 9223372036854775807) : IntKind.i64.wrap x = x := by
  simp [IntKind.wrap, IntKind.bits, IntKind.signed]; omega
theorem own_lit_at {w : World} {q : Nat} (hq : w.heap.size = q) (base : Nat) (e : TypeId) (size : Nat) (cs : Array Value) (n : Nat) (hb : base ≤ w.heap.size) (hm : n ≤ maxLen) (hs : cs.size = n * size) :
    (w.alloc (.cells cs e)).ownsRow base e size (.slice (some ⟨q, 0, none⟩) n n) n cs.toList := by
  subst hq; exact own_lit w base e size cs n hb hm hs

set_option maxRecDepth 100000 in
set_option maxHeartbeats 2000000 in
theorem l12For_any (t : Tm) : Wf t → ∀ (A : Option Addr) (n c : Nat) (tot N : Int) (w : World), MarksAt w A n (marksOf t) → n ≤ c → n ≤ 11 → -N ≤ tot → tot ≤ N → N + 209 * (n : Int) ≤ 1000000 →
    Calls Try.prog 64 #[.slice A n c, .int .i64 tot] w (NewI w (forT t tot)) := by
  induction t with
  | step l h =>
    intro wf A n c tot N w hm hc hn hN0 hN1 hN2
    obtain ⟨b, off, rfl⟩ := hm.some (by rw [← hm.len]; simp [marksOf])
    obtain ⟨-, rfl, c0, c1, c2⟩ := MarksAt.one (x := []) hm
    simp only [List.length_nil, Nat.zero_mul, Nat.add_zero, Nat.zero_add] at c0 c1 c2 hc hn hN2 ⊢
    clear hm
    have hA0 : Below w.heap.size w (w.alloc (.cells #[.int .i64 0, .int .i64 l, .int .i64 h] 27)) := (Below.refl w.heap.size w).alloc (Nat.le_refl _) _
    go_enter Try.func64, Try.ntmps64
    go_wp2
    go_ret
    exact ⟨_, _, rfl, own_lit_at (by simp) w.heap.size _ 1 #[.int .i64 tot] 1 hA0.size (by decide) rfl, hA0.alloc hA0.size _⟩
  | one a h ih =>
    intro wf A n c tot N w hm hc hn hN0 hN1 hN2
    obtain ⟨b, off, rfl⟩ := hm.some (by rw [← hm.len]; simp [marksOf])
    obtain ⟨ha, rfl, c0, c1, c2⟩ := MarksAt.one hm
    clear hm
    have IH := Lib.hid (ih wf.1)
    simp only [forT]
    obtain ⟨p, HP⟩ : ∃ q, Hid ((marksOf a).length = q) := ⟨_, rfl⟩
    rw [HP.out] at ha c0 c1 c2 hc hn hN2 ⊢
    simp only at c0 c1 c2
    clear ih
    have hA0 : Below w.heap.size w (w.alloc (.cells #[.int .i64 3, .int .i64 0, .int .i64 h] 27)) := (Below.refl w.heap.size w).alloc (Nat.le_refl _) _
    go_enter Try.func64, Try.ntmps64
    go_wp2_with (fail)
    refine kNewI (IH.out (some ⟨b, off, none⟩) p c tot N _ (ha.below hA0) (by omega) (by omega) hN0 hN1 (by push_cast at hN2; omega)) ?_
    intro A' c' w1 hown hb1
    go_wp2
    go_ret
    exact ⟨A', c', rfl, own_base hown hA0.size, hA0.trans (hb1.mono hA0.size)⟩
  | two k x y ihx ihy =>
    intro wf A n c tot N w hm hc hn hN0 hN1 hN2
    obtain ⟨b, off, rfl⟩ := hm.some (by rw [← hm.len]; exact marks_pos _)
    obtain ⟨hx, hy, rfl, c0, c1, c2⟩ := MarksAt.two hm
    have HAH := Lib.hid (show Ahead (marksOf (.two k x y)) (marksOf x) ((marksOf x).length + (marksOf y).length) 1 from ⟨[y], (by intro z hz; obtain rfl := List.mem_singleton.1 hz; exact wf.2.2), rfl, by rw [allMarks_one, marksOf]; exact List.take_left' (by simp)⟩)
    have IHX := Lib.hid (ihx wf.2.1)
    have IHY := Lib.hid (ihy wf.2.2)
    have hbx := lenS_bd wf.2.1
    have hby := lenS_bd wf.2.2
    have hsx := stepsT_le x
    have hsy := stepsT_le y
    have hq0 := marks_pos y
    have hp0 := marks_pos x
    have HFX := Lib.hid (fun u => forT_len x u)
    have HFY := Lib.hid (fun u => forT_len y u)
    have HSX := Lib.hid (stepsT_pos x)
    have HSY := Lib.hid (stepsT_pos y)
    obtain ⟨p, HP⟩ : ∃ q, Hid ((marksOf x).length = q) := ⟨_, rfl⟩
    obtain ⟨q, HQ⟩ : ∃ q, Hid ((marksOf y).length = q) := ⟨_, rfl⟩
    have HLX := Lib.hid (l12Lengths_any x wf.2.1)
    have HLY := Lib.hid (l12Lengths_any y wf.2.2)
    simp only [forT]
    obtain ⟨L, HLx⟩ : ∃ q, Hid (lenS x = q) := ⟨_, rfl⟩
    obtain ⟨lo, hi, ok⟩ := L
    obtain ⟨L, HLy⟩ : ∃ q, Hid (lenS y = q) := ⟨_, rfl⟩
    obtain ⟨lo2, hi2, ok2⟩ := L
    rw [HLx.out] at hbx HLX ⊢
    rw [HLy.out] at hby HLY ⊢
    obtain ⟨s1, HS1⟩ : ∃ q, Hid (stepsT x = q) := ⟨_, rfl⟩
    obtain ⟨s2, HS2⟩ : ∃ q, Hid (stepsT y = q) := ⟨_, rfl⟩
    rw [HS1.out] at hbx hsx HFX HSX
    rw [HS2.out] at hby hsy HFY HSY
    simp only at hbx hby ⊢
    rw [HP.out] at hx hy c0 c1 c2 hc hn hN2 hsx HAH hp0 ⊢
    rw [HQ.out] at hy c0 c1 c2 hc hn hN2 hsy hq0 HAH ⊢
    rw [HP.out, HQ.out] at hm
    have HM := Lib.hid hm
    have HX := Lib.hid hx
    have HY := Lib.hid hy
    simp only at c0 c1 c2
    have hcp : ¬ c = p := by omega
    have hI1 : (0 : Int) ≤ (p : Int) := by omega
    have hI2 : (p : Int) ≤ (c : Int) := by omega
    have hI3 : (p : Int) ≤ (p : Int) + (q : Int) := by omega
    have hI4 : (p : Int) + (q : Int) ≤ (c : Int) := by omega
    have hI5 : (p : Int) + (q : Int) < (p : Int) + (q : Int) + 1 := by omega
    have hI6 : (p : Int) + (q : Int) + 1 ≤ (c : Int) := by omega
    have hI7 : (0 : Int) ≤ (p : Int) + (q : Int) := by omega
    have HQP := Lib.hid (show ((p : Int) + (q : Int)).toNat - p = q by omega)
    have h1 := HSX.out
    have h2 := HSY.out
    push_cast at hN2
    clear ihx ihy hm hx hy
    have hA0 : Below w.heap.size w (w.alloc (.cells #[.int .i64 k, .int .i64 0, .int .i64 0] 27)) := (Below.refl w.heap.size w).alloc (Nat.le_refl _) _
    rcases wf.1 with rfl | rfl
    · rw [if_pos rfl]
      obtain ⟨f, HFI⟩ : ∃ f, Hid (max lo (tot - hi2) = f) := ⟨_, rfl⟩
      have hmax := HFI.out
      rw [HFI.out]
      have hf0 : -(N + 209) ≤ f := by omega
      have hf1 : f ≤ N + 209 := by omega
      have hg0 : -(N + 209) ≤ tot - f := by omega
      have hg1 : tot - f ≤ N + 209 := by omega
      have HWR := Lib.hid (wrap_id (x := tot - f) (by omega) (by omega))
      have HA := Lib.hid (HFX.out f)
      have HB := Lib.hid (HFY.out (tot - f))
      obtain ⟨F1, HF1⟩ : ∃ q, Hid (forT x f = q) := ⟨_, rfl⟩
      obtain ⟨F2, HF2⟩ : ∃ q, Hid (forT y (tot - f) = q) := ⟨_, rfl⟩
      rw [HF1.out] at HA ⊢
      rw [HF2.out] at HB ⊢
      go_enter Try.func64, Try.ntmps64
      go_wp2_with (fail)
      refine kV (l11Starts_at (some ⟨b, off, none⟩) (p + q + 1) c (p + q) _ (marksOf x) _ _ (HM.out.below hA0) (by omega) (by omega) HAH.out ?_) ?_
      · push_cast; omega
      rw [HP.out]
      have HCX := Lib.hid (show ∀ (A : Option Addr) (c : Nat) (w : World), MarksAt w A p (marksOf x) → p ≤ c → Calls Try.prog 64 #[.slice A p c, .int .i64 f] w (NewI w F1) from fun A c w hm hc => by
        have h := IHX.out A p c f (N + 209) w hm hc (by omega) hf0 hf1 (by omega)
        rwa [HF1.out] at h)
      have HCY := Lib.hid (show ∀ (A : Option Addr) (c : Nat) (w : World), MarksAt w A q (marksOf y) → q ≤ c → Calls Try.prog 64 #[.slice A q c, .int .i64 (tot - f)] w (NewI w F2) from fun A c w hm hc => by
        have h := IHY.out A q c (tot - f) (N + 209) w hm hc (by omega) hg0 hg1 (by omega)
        rwa [HF2.out] at h)
      go_wp2_with (fail)
      refine kBV (HLX.out (some ⟨b, off, none⟩) p c _ (HX.out.below hA0) (by omega) (by omega)) ?_
      intro w1 hb1
      simp only [lenV]
      have HB1 := Lib.hid (hA0.trans (hb1.mono hA0.size))
      clear hb1
      go_wp2_with (fail)
      refine kBV (HLY.out (some ⟨b, off + p * 3, none⟩) q (c - p) _ (HY.out.below HB1.out) (by omega) (by omega)) ?_
      intro w2 hb2
      simp only [lenV]
      have HBL := Lib.hid (HB1.out.trans (hb2.mono HB1.out.size))
      clear hb2
      by_cases hq1 : lo < tot - hi2
      · obtain rfl : f = tot - hi2 := by rw [← hmax]; omega
        clear hmax
        go_wp2_with (fail)
        go_region_held_law (fun _ => True) (exact trivial) (first
          | (go_at_call 64; with_reducible refine kNewI (HCX.out (some ⟨b, off, none⟩) c _ (HX.out.below HBL.out.drew) (by omega)) ?_
             intro A1 c1' w3 hown1 hb3
             have HO3 := Lib.hid hown1
             have HB3 := Lib.hid (HBL.out.trans ((show Below w2.heap.size w2 w3 from (Below.refl _ _).drew.trans hb3).mono HBL.out.size)))
          | (go_at_call 64; (try rw [HQP.out]); (try rw [HWR.out]); with_reducible refine kNewI (HCY.out (some ⟨b, off + p * 3, none⟩) (c - p) _ (HY.out.below HB3.out) (by omega)) ?_
             intro A2 c2' w4 hown2 hb4
             have HO3' := Lib.hid (own_base (own_below HO3.out hb4) HBL.out.size)
             have HB4 := Lib.hid (HB3.out.trans (hb4.mono HB3.out.size))
             obtain ⟨g2, rfl, hg2a, hg2⟩ := own_cellsD hown2 (by rw [HB.out]; exact HSY.out)
             have HO4 := Lib.hid hown2)
          | (refine step_app rowI (by rfl) _ _ (by rfl) w.heap.size _ F1.length (vI F1) (by rfl) HO3'.out ⟨g2, 0, none⟩ F2.length c2' (vI F2) (by rfl) (vI_len _) (OwnI.news HO4.out) (vI_one _) (by rw [HB.out]; exact HSY.out) (by rw [HA.out, HB.out]; omega) HB4.out.size ?_
             intro g' cap' wB hownB hgrow _ _
             have HBB := Lib.hid (HB4.out.grown hgrow HB4.out.size (fun k hk => (HO3'.out.lt k hk).1))))
        all_goals
          go_wp2
          go_ret
          have hl2 : (F1 ++ F2).length = F1.length + F2.length := List.length_append
          refine ⟨some ⟨g', 0, none⟩, cap', by rw [hl2]; first | (simp; done) | rfl, ?_, HBB.out⟩
          show World.ownsRow _ _ _ _ _ _ (vI _)
          rw [hl2, vI_append]; exact hownB
      · obtain rfl : f = lo := by rw [← hmax]; omega
        clear hmax
        go_wp2_with (fail)
        go_region_held_law (fun _ => True) (exact trivial) (first
          | (go_at_call 64; with_reducible refine kNewI (HCX.out (some ⟨b, off, none⟩) c _ (HX.out.below HBL.out.drew) (by omega)) ?_
             intro A1 c1' w3 hown1 hb3
             have HO3 := Lib.hid hown1
             have HB3 := Lib.hid (HBL.out.trans ((show Below w2.heap.size w2 w3 from (Below.refl _ _).drew.trans hb3).mono HBL.out.size)))
          | (go_at_call 64; (try rw [HQP.out]); (try rw [HWR.out]); with_reducible refine kNewI (HCY.out (some ⟨b, off + p * 3, none⟩) (c - p) _ (HY.out.below HB3.out) (by omega)) ?_
             intro A2 c2' w4 hown2 hb4
             have HO3' := Lib.hid (own_base (own_below HO3.out hb4) HBL.out.size)
             have HB4 := Lib.hid (HB3.out.trans (hb4.mono HB3.out.size))
             obtain ⟨g2, rfl, hg2a, hg2⟩ := own_cellsD hown2 (by rw [HB.out]; exact HSY.out)
             have HO4 := Lib.hid hown2)
          | (refine step_app rowI (by rfl) _ _ (by rfl) w.heap.size _ F1.length (vI F1) (by rfl) HO3'.out ⟨g2, 0, none⟩ F2.length c2' (vI F2) (by rfl) (vI_len _) (OwnI.news HO4.out) (vI_one _) (by rw [HB.out]; exact HSY.out) (by rw [HA.out, HB.out]; omega) HB4.out.size ?_
             intro g' cap' wB hownB hgrow _ _
             have HBB := Lib.hid (HB4.out.grown hgrow HB4.out.size (fun k hk => (HO3'.out.lt k hk).1))))
        all_goals
          go_wp2
          go_ret
          have hl2 : (F1 ++ F2).length = F1.length + F2.length := List.length_append
          refine ⟨some ⟨g', 0, none⟩, cap', by rw [hl2]; first | (simp; done) | rfl, ?_, HBB.out⟩
          show World.ownsRow _ _ _ _ _ _ (vI _)
          rw [hl2, vI_append]; exact hownB
    · rw [if_neg (by decide)]
      have HWR := Lib.hid (wrap_id (x := tot) (by omega) (by omega))
      have HA := Lib.hid (HFX.out tot)
      have HB := Lib.hid (HFY.out tot)
      obtain ⟨F1, HF1⟩ : ∃ q, Hid (forT x tot = q) := ⟨_, rfl⟩
      obtain ⟨F2, HF2⟩ : ∃ q, Hid (forT y tot = q) := ⟨_, rfl⟩
      rw [HF1.out] at HA ⊢
      rw [HF2.out] at HB ⊢
      have HCX := Lib.hid (show ∀ (A : Option Addr) (c : Nat) (w : World), MarksAt w A p (marksOf x) → p ≤ c → Calls Try.prog 64 #[.slice A p c, .int .i64 tot] w (NewI w F1) from fun A c w hm hc => by
        have h := IHX.out A p c tot N w hm hc (by omega) hN0 hN1 (by omega)
        rwa [HF1.out] at h)
      have HCY := Lib.hid (show ∀ (A : Option Addr) (c : Nat) (w : World), MarksAt w A q (marksOf y) → q ≤ c → Calls Try.prog 64 #[.slice A q c, .int .i64 tot] w (NewI w F2) from fun A c w hm hc => by
        have h := IHY.out A q c tot N w hm hc (by omega) hN0 hN1 (by omega)
        rwa [HF2.out] at h)
      have HBL := Lib.hid hA0
      go_enter Try.func64, Try.ntmps64
      go_wp2_with (fail)
      refine kV (l11Starts_at (some ⟨b, off, none⟩) (p + q + 1) c (p + q) _ (marksOf x) _ _ (HM.out.below hA0) (by omega) (by omega) HAH.out ?_) ?_
      · push_cast; omega
      rw [HP.out]
      go_wp2_with (fail)
      go_region_held_law (fun _ => True) (exact trivial) (first
        | (go_at_call 64; with_reducible refine kNewI (HCX.out (some ⟨b, off, none⟩) c _ (HX.out.below HBL.out.drew) (by omega)) ?_
           intro A1 c1' w3 hown1 hb3
           have HO3 := Lib.hid hown1
           have HB3 := Lib.hid (HBL.out.trans ((show Below (w.alloc (.cells #[.int .i64 2, .int .i64 0, .int .i64 0] 27)).heap.size (w.alloc (.cells #[.int .i64 2, .int .i64 0, .int .i64 0] 27)) w3 from (Below.refl _ _).drew.trans hb3).mono HBL.out.size)))
        | (go_at_call 64; (try rw [HQP.out]); (try rw [HWR.out]); with_reducible refine kNewI (HCY.out (some ⟨b, off + p * 3, none⟩) (c - p) _ (HY.out.below HB3.out) (by omega)) ?_
           intro A2 c2' w4 hown2 hb4
           have HO3' := Lib.hid (own_base (own_below HO3.out hb4) HBL.out.size)
           have HB4 := Lib.hid (HB3.out.trans (hb4.mono HB3.out.size))
           obtain ⟨g2, rfl, hg2a, hg2⟩ := own_cellsD hown2 (by rw [HB.out]; exact HSY.out)
           have HO4 := Lib.hid hown2)
        | (refine step_app rowI (by rfl) _ _ (by rfl) w.heap.size _ F1.length (vI F1) (by rfl) HO3'.out ⟨g2, 0, none⟩ F2.length c2' (vI F2) (by rfl) (vI_len _) (OwnI.news HO4.out) (vI_one _) (by rw [HB.out]; exact HSY.out) (by rw [HA.out, HB.out]; omega) HB4.out.size ?_
           intro g' cap' wB hownB hgrow _ _
           have HBB := Lib.hid (HB4.out.grown hgrow HB4.out.size (fun k hk => (HO3'.out.lt k hk).1))))
      all_goals
        go_wp2
        go_ret
        have hl2 : (F1 ++ F2).length = F1.length + F2.length := List.length_append
        refine ⟨some ⟨g', 0, none⟩, cap', by rw [hl2]; first | (simp; done) | rfl, ?_, HBB.out⟩
        show World.ownsRow _ _ _ _ _ _ (vI _)
        rw [hl2, vI_append]; exact hownB

end Go.Proofs.Ytookhelfbnhadaa
