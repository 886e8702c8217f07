/- (*termReader).within from thens; all levels; impl.ReadTerm. -/
import Derived.Test.YtcmicmenkbgfmaaDoorRU3
set_option linter.unusedSimpArgs false
namespace Go.Proofs.YtcmicmenkbgfmaaDoor
open Go.RowKit

set_option maxRecDepth 100000 in
set_option maxHeartbeats 8000000 in
theorem within_of (N : Nat) (hW : PAt .thens 28 N) : PAt .within 55 (N + 1) := by
  intro R s i0 f0 w hs hi0 hN ht hg
  have HW := Lib.hid hW
  have HG := Lib.hid hg
  have HT := Lib.hid ht
  have hR := ht.lt
  clear hW hg ht
  go_enter Tryd.func55, Tryd.ntmps55
  go_wp2_with (fail)
  refine kTk (take_any R s i0 f0 40 40 rfl _ hs HT.out) ?_ ?_
  · intro hlt hd w1 hm1
    have HM1 := Lib.hid hm1
    have HG1 := Lib.hid (HG.out.mv HT.out hm1)
    clear hm1
    go_wp2_with (fail)
    refine kPV (HW.out.go R s (i0 + 1) f0 _ hs (by omega) (by omega) HM1.out.tr HG1.out) ?_
    intro Ax cx xsx ix fx w2 hownx hbdx hrix hmx
    have HM2 := Lib.hid (HM1.out.trans hmx)
    have HO2 := Lib.hid (own_base hownx HM1.out.size)
    obtain ⟨d0, d1, d2, d3⟩ := hbdx
    clear hownx hmx HG1
    obtain ⟨nx, HLX⟩ : ∃ q, Hid (xsx.length = q) := ⟨_, rfl⟩
    rw [HLX.out] at HO2 d2 d3 ⊢
    go_wp2_with (fail)
    refine kTk (take_any R s ix fx 41 41 rfl _ hs HM2.out.tr) ?_ ?_
    · intro hlt2 hd2 w3 hm3
      have HM3 := Lib.hid (HM2.out.trans hm3)
      have HO3 := Lib.hid (own_mvR HO2.out hR hm3)
      have e2 := HM3.out.tr.c2
      have y2 := HM3.out.tr.z2
      have HOS := Lib.hid (own_mvR HO3.out hR (show MvR R s (ix + 1) fx w3 (w3.setCell ⟨R, 2, none⟩ (.bool fx)) from (MvR.rf HM3.out.tr).setFine fx))
      have HMS := Lib.hid (HM3.out.setFine fx)
      have HCL := Lib.hid (show Close (s.data.toList.drop ix) fx (s.data.toList.drop (ix + 1)) fx from fun r e => ⟨by rw [hd2.out] at e; exact (List.cons.inj e).2, rfl⟩)
      clear hm3
      cases fx with
      | true =>
        go_wp2_with (fail)
        go_loopw [3] (fun o wr => ∃ (A : Option Addr) (c : Nat) (xs : List Mk) (i : Nat) (f : Bool), o = .slice A xs.length c ∧ OwnM wr w.heap.size A xs.length c xs ∧ (i0 ≤ i ∧ i ≤ s.size ∧ 1 ≤ xs.length ∧ xs.length ≤ 2 * (i - i0) + 1) ∧ (∀ ys l' f', RI .tW xs (s.data.toList.drop i) f ys l' f' → RI .within [] (s.data.toList.drop i0) f0 ys l' f') ∧ MvR R s i f w wr) (fun _ wr => s.size - posOf wr R)
        case atStart => exact ⟨Ax, cx, xsx, ix + 1, true, by rw [HLX.out], by rw [HLX.out]; exact HOS.out, by rw [HLX.out]; omega, fun ys l' f' h => by rw [hd.out]; exact RI.brack hrix.out HCL.out h, HMS.out⟩
        case round =>
          obtain ⟨wo, rfl⟩ : ∃ wo : World, wo = wr := ⟨_, rfl⟩
          obtain ⟨A, c, xs, i, f, rfl, hown, hbd, hk, hm⟩ := hrel
          have HO := Lib.hid hown
          have HM := Lib.hid hm
          have HK := Lib.hid hk
          obtain ⟨b0, b1, b2, b3⟩ := hbd
          clear hown hm hk
          obtain ⟨n, HLN⟩ : ∃ q, Hid (xs.length = q) := ⟨_, rfl⟩
          rw [HLN.out] at HO b2 b3 ⊢
          go_wp2_with (fail)
          refine kTk (take_any R s i f 60 60 rfl _ hs HM.out.tr) ?_ ?_
          · intro hlt hd w2 hm2
            have HM2 := Lib.hid (HM.out.trans hm2)
            have HO2 := Lib.hid (own_mvR HO.out hR hm2)
            have HG2 := Lib.hid (HG.out.mv HT.out HM2.out)
            clear hm2 HO
            go_wp2_with (fail)
            refine kNum (number_any R s (i + 1) f _ hs (by omega) HM2.out.tr HG2.out) ?_
            intro q i2 g w3 d0 d1 hnum hm3
            have HM3 := Lib.hid (HM2.out.trans hm3)
            have HO3 := Lib.hid (own_mvR HO2.out hR hm3)
            have hz3 := HM3.out.size
            clear hm3 HO2 HG2
            go_wp2_with (first
              | (at_builtin; refine wpl_appX rowM rfl _ _ (by rfl) w.heap.size _ n (v3 xs) (by rfl) (HO3.out.alloc _) (some ⟨w3.heap.size, 0, none⟩) 1 1 (v3 [(3, 0, q)]) (by rfl) (fun e => by cases e) rfl (fun ad e => by cases e; exact cell3_at (by simp) _ _) (v3_one _) (n + 1) rfl (v3 (xs ++ [(3, 0, q)])) (v3_append _ _).symm (by omega) (by simp; omega) ?_
                 intro A5 c5 w5 hown5 hgrow5 hat5
                 have HM5 := Lib.hid ((HM3.out.below ((Below.refl _ _).alloc (Nat.le_refl _) _)).blk hR (HO3.out.alloc _) (Nat.le_refl _) hgrow5)
                 have HO5 := Lib.hid hown5
                 clear hown5 hgrow5 hat5)
              | fail)
            go_wp2
            go_roundw
            case rel =>
              have hl : (xs ++ [((3 : Int), (0 : Int), q)]).length = n + 1 := by rw [List.length_append, HLN.out]; rfl
              refine ⟨A5, c5, xs ++ [(3, 0, q)], i2, f && g, by rw [hl], by rw [hl]; exact HO5.out, ?_, ?_, HM5.out⟩
              · rw [hl]; omega
              · intro zs l' f' h
                exact HK.out _ _ _ (by rw [hd.out]; exact RI.tWmore hnum.out h)
            case measure =>
              rw [HM5.out.pos, HM.out.pos]; omega
          · intro hne w2 hm2
            go_wp2
            go_ret
            exact ⟨A, c, xs, i, f, by rw [HLN.out]; rfl, by rw [HLN.out]; exact own_mvR HO.out hR hm2, by rw [HLN.out]; exact ⟨b0, b1, b2, b3⟩, HK.out _ _ _ (RI.tWstop hne.out), HM.out.trans hm2⟩
      | false =>
        go_wp2_with (fail)
        go_loopw [3] (fun o wr => ∃ (A : Option Addr) (c : Nat) (xs : List Mk) (i : Nat) (f : Bool), o = .slice A xs.length c ∧ OwnM wr w.heap.size A xs.length c xs ∧ (i0 ≤ i ∧ i ≤ s.size ∧ 1 ≤ xs.length ∧ xs.length ≤ 2 * (i - i0) + 1) ∧ (∀ ys l' f', RI .tW xs (s.data.toList.drop i) f ys l' f' → RI .within [] (s.data.toList.drop i0) f0 ys l' f') ∧ MvR R s i f w wr) (fun _ wr => s.size - posOf wr R)
        case atStart => exact ⟨Ax, cx, xsx, ix + 1, false, by rw [HLX.out], by rw [HLX.out]; exact HOS.out, by rw [HLX.out]; omega, fun ys l' f' h => by rw [hd.out]; exact RI.brack hrix.out HCL.out h, HMS.out⟩
        case round =>
          obtain ⟨wo, rfl⟩ : ∃ wo : World, wo = wr := ⟨_, rfl⟩
          obtain ⟨A, c, xs, i, f, rfl, hown, hbd, hk, hm⟩ := hrel
          have HO := Lib.hid hown
          have HM := Lib.hid hm
          have HK := Lib.hid hk
          obtain ⟨b0, b1, b2, b3⟩ := hbd
          clear hown hm hk
          obtain ⟨n, HLN⟩ : ∃ q, Hid (xs.length = q) := ⟨_, rfl⟩
          rw [HLN.out] at HO b2 b3 ⊢
          go_wp2_with (fail)
          refine kTk (take_any R s i f 60 60 rfl _ hs HM.out.tr) ?_ ?_
          · intro hlt hd w2 hm2
            have HM2 := Lib.hid (HM.out.trans hm2)
            have HO2 := Lib.hid (own_mvR HO.out hR hm2)
            have HG2 := Lib.hid (HG.out.mv HT.out HM2.out)
            clear hm2 HO
            go_wp2_with (fail)
            refine kNum (number_any R s (i + 1) f _ hs (by omega) HM2.out.tr HG2.out) ?_
            intro q i2 g w3 d0 d1 hnum hm3
            have HM3 := Lib.hid (HM2.out.trans hm3)
            have HO3 := Lib.hid (own_mvR HO2.out hR hm3)
            have hz3 := HM3.out.size
            clear hm3 HO2 HG2
            go_wp2_with (first
              | (at_builtin; refine wpl_appX rowM rfl _ _ (by rfl) w.heap.size _ n (v3 xs) (by rfl) (HO3.out.alloc _) (some ⟨w3.heap.size, 0, none⟩) 1 1 (v3 [(3, 0, q)]) (by rfl) (fun e => by cases e) rfl (fun ad e => by cases e; exact cell3_at (by simp) _ _) (v3_one _) (n + 1) rfl (v3 (xs ++ [(3, 0, q)])) (v3_append _ _).symm (by omega) (by simp; omega) ?_
                 intro A5 c5 w5 hown5 hgrow5 hat5
                 have HM5 := Lib.hid ((HM3.out.below ((Below.refl _ _).alloc (Nat.le_refl _) _)).blk hR (HO3.out.alloc _) (Nat.le_refl _) hgrow5)
                 have HO5 := Lib.hid hown5
                 clear hown5 hgrow5 hat5)
              | fail)
            go_wp2
            go_roundw
            case rel =>
              have hl : (xs ++ [((3 : Int), (0 : Int), q)]).length = n + 1 := by rw [List.length_append, HLN.out]; rfl
              refine ⟨A5, c5, xs ++ [(3, 0, q)], i2, f && g, by rw [hl], by rw [hl]; exact HO5.out, ?_, ?_, HM5.out⟩
              · rw [hl]; omega
              · intro zs l' f' h
                exact HK.out _ _ _ (by rw [hd.out]; exact RI.tWmore hnum.out h)
            case measure =>
              rw [HM5.out.pos, HM.out.pos]; omega
          · intro hne w2 hm2
            go_wp2
            go_ret
            exact ⟨A, c, xs, i, f, by rw [HLN.out]; rfl, by rw [HLN.out]; exact own_mvR HO.out hR hm2, by rw [HLN.out]; exact ⟨b0, b1, b2, b3⟩, HK.out _ _ _ (RI.tWstop hne.out), HM.out.trans hm2⟩
    · intro hne2 w3 hm3
      have HM3 := Lib.hid (HM2.out.trans hm3)
      have HO3 := Lib.hid (own_mvR HO2.out hR hm3)
      have e2 := HM3.out.tr.c2
      have y2 := HM3.out.tr.z2
      have HOS := Lib.hid (own_mvR HO3.out hR (show MvR R s ix false w3 (w3.setCell ⟨R, 2, none⟩ (.bool false)) from (MvR.rf HM3.out.tr).setFine false))
      have HMS := Lib.hid (HM3.out.setFine false)
      have HCL := Lib.hid (show Close (s.data.toList.drop ix) fx (s.data.toList.drop ix) false from fun r e => absurd (by rw [e]; rfl) hne2.out)
      clear hm3
      go_wp2_with (fail)
      go_loopw [3] (fun o wr => ∃ (A : Option Addr) (c : Nat) (xs : List Mk) (i : Nat) (f : Bool), o = .slice A xs.length c ∧ OwnM wr w.heap.size A xs.length c xs ∧ (i0 ≤ i ∧ i ≤ s.size ∧ 1 ≤ xs.length ∧ xs.length ≤ 2 * (i - i0) + 1) ∧ (∀ ys l' f', RI .tW xs (s.data.toList.drop i) f ys l' f' → RI .within [] (s.data.toList.drop i0) f0 ys l' f') ∧ MvR R s i f w wr) (fun _ wr => s.size - posOf wr R)
      case atStart => exact ⟨Ax, cx, xsx, ix, false, by rw [HLX.out], by rw [HLX.out]; exact HOS.out, by rw [HLX.out]; omega, fun ys l' f' h => by rw [hd.out]; exact RI.brack hrix.out HCL.out h, HMS.out⟩
      case round =>
        obtain ⟨wo, rfl⟩ : ∃ wo : World, wo = wr := ⟨_, rfl⟩
        obtain ⟨A, c, xs, i, f, rfl, hown, hbd, hk, hm⟩ := hrel
        have HO := Lib.hid hown
        have HM := Lib.hid hm
        have HK := Lib.hid hk
        obtain ⟨b0, b1, b2, b3⟩ := hbd
        clear hown hm hk
        obtain ⟨n, HLN⟩ : ∃ q, Hid (xs.length = q) := ⟨_, rfl⟩
        rw [HLN.out] at HO b2 b3 ⊢
        go_wp2_with (fail)
        refine kTk (take_any R s i f 60 60 rfl _ hs HM.out.tr) ?_ ?_
        · intro hlt hd w2 hm2
          have HM2 := Lib.hid (HM.out.trans hm2)
          have HO2 := Lib.hid (own_mvR HO.out hR hm2)
          have HG2 := Lib.hid (HG.out.mv HT.out HM2.out)
          clear hm2 HO
          go_wp2_with (fail)
          refine kNum (number_any R s (i + 1) f _ hs (by omega) HM2.out.tr HG2.out) ?_
          intro q i2 g w3 d0 d1 hnum hm3
          have HM3 := Lib.hid (HM2.out.trans hm3)
          have HO3 := Lib.hid (own_mvR HO2.out hR hm3)
          have hz3 := HM3.out.size
          clear hm3 HO2 HG2
          go_wp2_with (first
            | (at_builtin; refine wpl_appX rowM rfl _ _ (by rfl) w.heap.size _ n (v3 xs) (by rfl) (HO3.out.alloc _) (some ⟨w3.heap.size, 0, none⟩) 1 1 (v3 [(3, 0, q)]) (by rfl) (fun e => by cases e) rfl (fun ad e => by cases e; exact cell3_at (by simp) _ _) (v3_one _) (n + 1) rfl (v3 (xs ++ [(3, 0, q)])) (v3_append _ _).symm (by omega) (by simp; omega) ?_
               intro A5 c5 w5 hown5 hgrow5 hat5
               have HM5 := Lib.hid ((HM3.out.below ((Below.refl _ _).alloc (Nat.le_refl _) _)).blk hR (HO3.out.alloc _) (Nat.le_refl _) hgrow5)
               have HO5 := Lib.hid hown5
               clear hown5 hgrow5 hat5)
            | fail)
          go_wp2
          go_roundw
          case rel =>
            have hl : (xs ++ [((3 : Int), (0 : Int), q)]).length = n + 1 := by rw [List.length_append, HLN.out]; rfl
            refine ⟨A5, c5, xs ++ [(3, 0, q)], i2, f && g, by rw [hl], by rw [hl]; exact HO5.out, ?_, ?_, HM5.out⟩
            · rw [hl]; omega
            · intro zs l' f' h
              exact HK.out _ _ _ (by rw [hd.out]; exact RI.tWmore hnum.out h)
          case measure =>
            rw [HM5.out.pos, HM.out.pos]; omega
        · intro hne w2 hm2
          go_wp2
          go_ret
          exact ⟨A, c, xs, i, f, by rw [HLN.out]; rfl, by rw [HLN.out]; exact own_mvR HO.out hR hm2, by rw [HLN.out]; exact ⟨b0, b1, b2, b3⟩, HK.out _ _ _ (RI.tWstop hne.out), HM.out.trans hm2⟩
  · intro hne1 w1 hm1
    have HM1 := Lib.hid hm1
    have HG1 := Lib.hid (HG.out.mv HT.out hm1)
    clear hm1
    go_wp2_with (fail)
    refine kNum (number_any R s i0 f0 _ hs hi0 HM1.out.tr HG1.out) ?_
    intro lo i1 g1 w2 d0 d1 hnum1 hm2
    have HM2 := Lib.hid (HM1.out.trans hm2)
    have HG2 := Lib.hid (HG.out.mv HT.out HM2.out)
    clear hm2 HG1
    go_wp2_with (fail)
    refine kTk (take_any R s i1 (f0 && g1) 45 45 rfl _ hs HM2.out.tr) ?_ ?_
    · intro hlt2 hd2 wx hmx
      have HMX := Lib.hid (HM2.out.trans hmx)
      have HGX := Lib.hid (HG.out.mv HT.out HMX.out)
      clear hmx HG2
      go_wp2_with (fail)
      refine kNum (number_any R s (i1 + 1) (f0 && g1) _ hs (by omega) HMX.out.tr HGX.out) ?_
      intro hi i2 g2 w3 e0 e1 hnum2 hm3
      have HM3 := Lib.hid (HMX.out.trans hm3)
      have HHI := Lib.hid (show g1 = true → Hi (s.data.toList.drop i1) lo hi g2 (s.data.toList.drop i2) from fun _ => ⟨fun r e => by rw [hd2.out] at e; rw [← (List.cons.inj e).2]; exact hnum2.out, fun e => absurd (by rw [hd2.out]; rfl) e⟩)
      clear hm3 HGX
      go_wp2_with (fail)
      have HMS := Lib.hid (HM3.out.below ((Below.refl w3.heap.size w3).alloc (Nat.le_refl _) (.cells #[.int .i64 0, .int .i64 lo, .int .i64 hi] 54)))
      have HOS := Lib.hid (show OwnM (w3.alloc (.cells #[.int .i64 0, .int .i64 lo, .int .i64 hi] 54)) w.heap.size (some ⟨w3.heap.size, 0, none⟩) 1 1 [(0, lo, hi)] from own_lit w3 w.heap.size 54 3 #[.int .i64 0, .int .i64 lo, .int .i64 hi] 1 HM3.out.size (by decide) rfl)
      go_loopw [3] (fun o wr => ∃ (A : Option Addr) (c : Nat) (xs : List Mk) (i : Nat) (f : Bool), o = .slice A xs.length c ∧ OwnM wr w.heap.size A xs.length c xs ∧ (i0 ≤ i ∧ i ≤ s.size ∧ 1 ≤ xs.length ∧ xs.length ≤ 2 * (i - i0) + 1) ∧ (∀ ys l' f', RI .tW xs (s.data.toList.drop i) f ys l' f' → RI .within [] (s.data.toList.drop i0) f0 ys l' f') ∧ MvR R s i f w wr) (fun _ wr => s.size - posOf wr R)
      case atStart => exact ⟨some ⟨w3.heap.size, 0, none⟩, 1, [(0, lo, hi)], i2, (f0 && g1 && g2), rfl, HOS.out, ⟨by omega, e1, Nat.le_refl _, by simp⟩, fun ys l' f' h => RI.step hne1.out hnum1.out HHI.out h, HMS.out⟩
      case round =>
        obtain ⟨wo, rfl⟩ : ∃ wo : World, wo = wr := ⟨_, rfl⟩
        obtain ⟨A, c, xs, i, f, rfl, hown, hbd, hk, hm⟩ := hrel
        have HO := Lib.hid hown
        have HM := Lib.hid hm
        have HK := Lib.hid hk
        obtain ⟨b0, b1, b2, b3⟩ := hbd
        clear hown hm hk
        obtain ⟨n, HLN⟩ : ∃ q, Hid (xs.length = q) := ⟨_, rfl⟩
        rw [HLN.out] at HO b2 b3 ⊢
        go_wp2_with (fail)
        refine kTk (take_any R s i f 60 60 rfl _ hs HM.out.tr) ?_ ?_
        · intro hlt hd w2 hm2
          have HM2 := Lib.hid (HM.out.trans hm2)
          have HO2 := Lib.hid (own_mvR HO.out hR hm2)
          have HG2 := Lib.hid (HG.out.mv HT.out HM2.out)
          clear hm2 HO
          go_wp2_with (fail)
          refine kNum (number_any R s (i + 1) f _ hs (by omega) HM2.out.tr HG2.out) ?_
          intro q i2 g w3 d0 d1 hnum hm3
          have HM3 := Lib.hid (HM2.out.trans hm3)
          have HO3 := Lib.hid (own_mvR HO2.out hR hm3)
          have hz3 := HM3.out.size
          clear hm3 HO2 HG2
          go_wp2_with (first
            | (at_builtin; refine wpl_appX rowM rfl _ _ (by rfl) w.heap.size _ n (v3 xs) (by rfl) (HO3.out.alloc _) (some ⟨w3.heap.size, 0, none⟩) 1 1 (v3 [(3, 0, q)]) (by rfl) (fun e => by cases e) rfl (fun ad e => by cases e; exact cell3_at (by simp) _ _) (v3_one _) (n + 1) rfl (v3 (xs ++ [(3, 0, q)])) (v3_append _ _).symm (by omega) (by simp; omega) ?_
               intro A5 c5 w5 hown5 hgrow5 hat5
               have HM5 := Lib.hid ((HM3.out.below ((Below.refl _ _).alloc (Nat.le_refl _) _)).blk hR (HO3.out.alloc _) (Nat.le_refl _) hgrow5)
               have HO5 := Lib.hid hown5
               clear hown5 hgrow5 hat5)
            | fail)
          go_wp2
          go_roundw
          case rel =>
            have hl : (xs ++ [((3 : Int), (0 : Int), q)]).length = n + 1 := by rw [List.length_append, HLN.out]; rfl
            refine ⟨A5, c5, xs ++ [(3, 0, q)], i2, f && g, by rw [hl], by rw [hl]; exact HO5.out, ?_, ?_, HM5.out⟩
            · rw [hl]; omega
            · intro zs l' f' h
              exact HK.out _ _ _ (by rw [hd.out]; exact RI.tWmore hnum.out h)
          case measure =>
            rw [HM5.out.pos, HM.out.pos]; omega
        · intro hne w2 hm2
          go_wp2
          go_ret
          exact ⟨A, c, xs, i, f, by rw [HLN.out]; rfl, by rw [HLN.out]; exact own_mvR HO.out hR hm2, by rw [HLN.out]; exact ⟨b0, b1, b2, b3⟩, HK.out _ _ _ (RI.tWstop hne.out), HM.out.trans hm2⟩
    · intro hne2 w3 hm3
      have HM3 := Lib.hid (HM2.out.trans hm3)
      obtain ⟨hi, HLH⟩ : ∃ q, Hid (lo = q) := ⟨_, rfl⟩
      have HHI := Lib.hid (show g1 = true → Hi (s.data.toList.drop i1) lo hi true (s.data.toList.drop i1) from fun _ => ⟨fun r e => absurd (by rw [e]; rfl) hne2.out, fun e => ⟨HLH.out.symm, rfl, rfl⟩⟩)
      clear hm3 HG2
      go_wp2_with (fail)
      have HMS := Lib.hid (HM3.out.below ((Below.refl w3.heap.size w3).alloc (Nat.le_refl _) (.cells #[.int .i64 0, .int .i64 lo, .int .i64 lo] 54)))
      have HOS := Lib.hid (show OwnM (w3.alloc (.cells #[.int .i64 0, .int .i64 lo, .int .i64 lo] 54)) w.heap.size (some ⟨w3.heap.size, 0, none⟩) 1 1 [(0, lo, lo)] from own_lit w3 w.heap.size 54 3 #[.int .i64 0, .int .i64 lo, .int .i64 lo] 1 HM3.out.size (by decide) rfl)
      go_loopw [3] (fun o wr => ∃ (A : Option Addr) (c : Nat) (xs : List Mk) (i : Nat) (f : Bool), o = .slice A xs.length c ∧ OwnM wr w.heap.size A xs.length c xs ∧ (i0 ≤ i ∧ i ≤ s.size ∧ 1 ≤ xs.length ∧ xs.length ≤ 2 * (i - i0) + 1) ∧ (∀ ys l' f', RI .tW xs (s.data.toList.drop i) f ys l' f' → RI .within [] (s.data.toList.drop i0) f0 ys l' f') ∧ MvR R s i f w wr) (fun _ wr => s.size - posOf wr R)
      case atStart => exact ⟨some ⟨w3.heap.size, 0, none⟩, 1, [(0, lo, lo)], i1, (f0 && g1), rfl, HOS.out, ⟨d0, d1, Nat.le_refl _, by simp⟩, fun ys l' f' h => RI.step (g2 := true) (hi := lo) hne1.out hnum1.out (by rw [← HLH.out] at HHI; exact HHI.out) (by rw [Bool.and_true]; exact h), HMS.out⟩
      case round =>
        obtain ⟨wo, rfl⟩ : ∃ wo : World, wo = wr := ⟨_, rfl⟩
        obtain ⟨A, c, xs, i, f, rfl, hown, hbd, hk, hm⟩ := hrel
        have HO := Lib.hid hown
        have HM := Lib.hid hm
        have HK := Lib.hid hk
        obtain ⟨b0, b1, b2, b3⟩ := hbd
        clear hown hm hk
        obtain ⟨n, HLN⟩ : ∃ q, Hid (xs.length = q) := ⟨_, rfl⟩
        rw [HLN.out] at HO b2 b3 ⊢
        go_wp2_with (fail)
        refine kTk (take_any R s i f 60 60 rfl _ hs HM.out.tr) ?_ ?_
        · intro hlt hd w2 hm2
          have HM2 := Lib.hid (HM.out.trans hm2)
          have HO2 := Lib.hid (own_mvR HO.out hR hm2)
          have HG2 := Lib.hid (HG.out.mv HT.out HM2.out)
          clear hm2 HO
          go_wp2_with (fail)
          refine kNum (number_any R s (i + 1) f _ hs (by omega) HM2.out.tr HG2.out) ?_
          intro q i2 g w3 d0 d1 hnum hm3
          have HM3 := Lib.hid (HM2.out.trans hm3)
          have HO3 := Lib.hid (own_mvR HO2.out hR hm3)
          have hz3 := HM3.out.size
          clear hm3 HO2 HG2
          go_wp2_with (first
            | (at_builtin; refine wpl_appX rowM rfl _ _ (by rfl) w.heap.size _ n (v3 xs) (by rfl) (HO3.out.alloc _) (some ⟨w3.heap.size, 0, none⟩) 1 1 (v3 [(3, 0, q)]) (by rfl) (fun e => by cases e) rfl (fun ad e => by cases e; exact cell3_at (by simp) _ _) (v3_one _) (n + 1) rfl (v3 (xs ++ [(3, 0, q)])) (v3_append _ _).symm (by omega) (by simp; omega) ?_
               intro A5 c5 w5 hown5 hgrow5 hat5
               have HM5 := Lib.hid ((HM3.out.below ((Below.refl _ _).alloc (Nat.le_refl _) _)).blk hR (HO3.out.alloc _) (Nat.le_refl _) hgrow5)
               have HO5 := Lib.hid hown5
               clear hown5 hgrow5 hat5)
            | fail)
          go_wp2
          go_roundw
          case rel =>
            have hl : (xs ++ [((3 : Int), (0 : Int), q)]).length = n + 1 := by rw [List.length_append, HLN.out]; rfl
            refine ⟨A5, c5, xs ++ [(3, 0, q)], i2, f && g, by rw [hl], by rw [hl]; exact HO5.out, ?_, ?_, HM5.out⟩
            · rw [hl]; omega
            · intro zs l' f' h
              exact HK.out _ _ _ (by rw [hd.out]; exact RI.tWmore hnum.out h)
          case measure =>
            rw [HM5.out.pos, HM.out.pos]; omega
        · intro hne w2 hm2
          go_wp2
          go_ret
          exact ⟨A, c, xs, i, f, by rw [HLN.out]; rfl, by rw [HLN.out]; exact own_mvR HO.out hR hm2, by rw [HLN.out]; exact ⟨b0, b1, b2, b3⟩, HK.out _ _ _ (RI.tWstop hne.out), HM.out.trans hm2⟩

theorem reader_all (N : Nat) : PAt .thens 28 N := by
  induction N with
  | zero => exact fun R s i f w h1 h2 h3 h4 h5 => absurd h3 (Nat.not_lt_zero _)
  | succ N ih => exact thens_of _ (boths_of _ (within_of N ih))

end Go.Proofs.YtcmicmenkbgfmaaDoor
