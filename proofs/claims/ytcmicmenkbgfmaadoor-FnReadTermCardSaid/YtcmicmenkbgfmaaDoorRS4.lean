/- spec.l11Atom from l11Then; all levels. -/
import Derived.Test.YtcmicmenkbgfmaaDoorRS3
set_option linter.unusedSimpArgs false
namespace Go.Proofs.YtcmicmenkbgfmaaDoor
open Go.RowKit

theorem l11Number_any1 (s : ByteArray) (i : Nat) (w : World) (hs : s.size ≤ 120) (hi : i + 1 ≤ s.size) : Calls Tryd.prog 60 #[.string s, .int .i64 ((i : Int) + 1)] w (NsV s (i + 1) w) := l11Number_any s (i + 1) w hs hi

theorem own_second (w : World) (lo hi : Int) : OwnM ((w.alloc (.cells #[] 54)).alloc (.cells #[.int .i64 0, .int .i64 lo, .int .i64 hi] 54)) w.heap.size (some ⟨w.heap.size + 1, 0, none⟩) 1 1 [(0, lo, hi)] := by
  have h2 := own_lit (w.alloc (.cells #[] 54)) w.heap.size 54 3 #[.int .i64 0, .int .i64 lo, .int .i64 hi] 1 (by simp) (by decide) rfl
  have hz1 : (w.alloc (.cells #[] 54)).heap.size = w.heap.size + 1 := by simp
  rw [hz1] at h2
  exact h2

set_option maxRecDepth 100000 in
set_option maxHeartbeats 16000000 in
theorem l11Atom_of (N : Nat) (hW : SAt .thens 29 N) : SAt .within 56 (N + 1) := by
  intro s i0 w hs hi0 hN
  have HW := Lib.hid hW
  have HA := Lib.hid (show Below w.heap.size w (w.alloc (.cells #[] 54)) from (Below.refl _ _).alloc (Nat.le_refl _) _)
  clear hW
  by_cases hlt : i0 < s.size
  rotate_left
  · have hI : ¬ (i0 : Int) < (s.size : Int) := by omega
    have hI2 : (s.size : Int) ≤ (i0 : Int) := by omega
    have HRI := Lib.hid (show RI .within [] (s.data.toList.drop i0) true [] [] false by rw [drop_none hlt]; exact RI.nil _ _ _ _)
    go_enter Tryd.func56, Tryd.ntmps56
    go_wp2
    refine bodyPost_ret (v := .tuple #[.slice (some ⟨w.heap.size, 0, none⟩) 0 0, .int .i64 (-1)]) (by simp [results, Tryd.results56, go_sem]) rfl ⟨(some ⟨w.heap.size, 0, none⟩), 0, [], -1, rfl, own_empty w w.heap.size (Nat.le_refl _), .inr ⟨rfl, Nat.zero_le _, [], [], HRI.out⟩, HA.out⟩
  have hidx := run_at (Pr := Tryd.prog) 9 s i0 hlt Tryd.underlying9
  have hneg : decide ((i0 : Int) < 0) = false := by simp
  have HDR0 := Lib.hid (drop_bt hlt)
  have HHD0 := Lib.hid (head_bt hlt)
  have HU0 := Lib.hid (u8_eq (a := btA s i0) (b := 40))
  have hI : (i0 : Int) < (s.size : Int) := by omega
  have hI2 : ¬ (s.size : Int) ≤ (i0 : Int) := by omega
  obtain ⟨b0, HB0⟩ : ∃ x, Hid (((btA s i0).toNat : Int) = x) := ⟨_, rfl⟩
  rw [HB0.out] at HU0 hidx
  by_cases hc0 : b0 = 40
  · have hq0 : (b0 == 40) = true := by simpa using hc0
    have HC0 := Lib.hid (show btA s i0 = 40 from HU0.out.1 hc0)
    clear hc0 HB0
    go_enter Tryd.func56, Tryd.ntmps56
    go_wp2_with (fail)
    refine kSV (HW.out.go1 s i0 _ hs (by omega) (by omega)) ?_
    intro A0 c0 xs0 z0 w1 hown0 hfar0 hb0
    have HO0 := Lib.hid (own_base hown0 HA.out.size)
    have HB0 := Lib.hid (HA.out.trans (hb0.mono HA.out.size))
    clear hown0 hb0
    obtain ⟨n0, HL0⟩ : ∃ q, Hid (xs0.length = q) := ⟨_, rfl⟩
    rcases hfar0.out with ⟨j0, rfl, hbd0, hri0⟩ | ⟨rfl, hbd0, a0, l0, hri0⟩
    rotate_left
    · rw [HL0.out] at HO0 hbd0 ⊢
      have HRI := Lib.hid (show RI .within [] (s.data.toList.drop i0) true [] [] false by
        rw [HDR0.out, HC0.out]
        exact RI.brack hri0 (show Close l0 false l0.tail false from fun r e => by rw [e]; exact ⟨rfl, rfl⟩) (RI.fail _ _ _ _ _))
      clear hri0 hfar0 hidx
      go_wp2
      refine bodyPost_ret (v := .tuple #[.slice A0 n0 c0, .int .i64 (-1)]) (by simp [results, Tryd.results56, go_sem]) rfl ⟨A0, c0, xs0, -1, by rw [HL0.out], by rw [HL0.out]; exact HO0.out, .inr ⟨rfl, by rw [HL0.out]; omega, [], [], HRI.out⟩, HB0.out⟩
    · have HRI0 := Lib.hid hri0
      obtain ⟨d0, d1, d2, d3⟩ := hbd0
      rw [HL0.out] at HO0 d2 d3 ⊢
      have hneg2 : decide ((j0 : Int) < 0) = false := by simp
      clear hri0 hfar0 hidx
      by_cases hlt2 : j0 < s.size
      rotate_left
      · have hI3 : ¬ (j0 : Int) < (s.size : Int) := by omega
        have hI4 : (s.size : Int) ≤ (j0 : Int) := by omega
        have HRI := Lib.hid (show RI .within [] (s.data.toList.drop i0) true [] [] false by
          rw [HDR0.out, HC0.out]
          exact RI.brack HRI0.out (show Close (s.data.toList.drop j0) true [] false from fun r e => by rw [drop_none hlt2] at e; cases e) (RI.fail _ _ _ _ _))
        go_wp2
        refine bodyPost_ret (v := .tuple #[.slice A0 n0 c0, .int .i64 (-1)]) (by simp [results, Tryd.results56, go_sem]) rfl ⟨A0, c0, xs0, -1, by rw [HL0.out], by rw [HL0.out]; exact HO0.out, .inr ⟨rfl, by rw [HL0.out]; omega, [], [], HRI.out⟩, HB0.out⟩
      have hidx := run_at (Pr := Tryd.prog) 9 s j0 hlt2 Tryd.underlying9
      have HDR1 := Lib.hid (drop_bt hlt2)
      have HU1 := Lib.hid (u8_eq (a := btA s j0) (b := 41))
      have hd5 : decide (s.size ≤ j0) = false := by simp; omega
      have hI3 : (j0 : Int) < (s.size : Int) := by omega
      have hI4 : ¬ (s.size : Int) ≤ (j0 : Int) := by omega
      obtain ⟨b1, HB1⟩ : ∃ x, Hid (((btA s j0).toNat : Int) = x) := ⟨_, rfl⟩
      rw [HB1.out] at HU1 hidx
      by_cases hc1 : b1 = 41
      · have hq1 : (b1 != 41) = false := by simpa using hc1
        have HC1 := Lib.hid (show btA s j0 = 41 from HU1.out.1 hc1)
        have HFT := Lib.hid (show FarT .within .tW s i0 xs0 ((j0 : Int) + 1) from .inl ⟨j0 + 1, by omega, by rw [HL0.out]; omega, fun ys l' f' h => by
          rw [HDR0.out, HC0.out]
          exact RI.brack HRI0.out (show Close (s.data.toList.drop j0) true (s.data.toList.drop (j0 + 1)) true from fun r e => ⟨by rw [HDR1.out] at e; exact (List.cons.inj e).2, rfl⟩) h⟩)
        clear hc1
        go_wp2_with (fail)
        go_loopw [6, 7] (fun o v wr => ∃ (A : Option Addr) (c : Nat) (xs : List Mk) (z : Int), o = .slice A xs.length c ∧ v = .int .i64 z ∧ OwnM wr w.heap.size A xs.length c xs ∧ FarT .within .tW s i0 xs z ∧ Below w.heap.size w wr) (fun _ v _ => mz s (intOf v))
        case atStart => exact ⟨A0, c0, xs0, (j0 : Int) + 1, by rw [HL0.out], rfl, by rw [HL0.out]; exact HO0.out, HFT.out, HB0.out⟩
        case round =>
          clear hidx
          obtain ⟨wo, rfl⟩ : ∃ wo : World, wo = wr := ⟨_, rfl⟩
          obtain ⟨A, c, xs, z, rfl, rfl, hown, hfar, hb⟩ := hrel
          have HO := Lib.hid hown
          have HB := Lib.hid hb
          clear hown hb
          obtain ⟨n, HLN⟩ : ∃ q, Hid (xs.length = q) := ⟨_, rfl⟩
          rcases hfar with ⟨j, rfl, hbd, hk⟩ | ⟨rfl, hbd, hfl⟩
          rotate_left
          · have HFL := Lib.hid hfl
            rw [HLN.out] at HO hbd ⊢
            clear hfl
            go_wp2
            refine bodyPost_ret (v := .tuple #[.slice A n c, .int .i64 (-1)]) (by simp [results, Tryd.results56, go_sem]) rfl ⟨A, c, xs, -1, by rw [HLN.out], by rw [HLN.out]; exact HO.out, .inr ⟨rfl, by rw [HLN.out]; exact hbd, HFL.out⟩, HB.out⟩
          · obtain ⟨b0, b1, b2, b3⟩ := hbd
            have HK := Lib.hid hk
            rw [HLN.out] at HO b2 b3 ⊢
            clear hk
            by_cases hlt : j < s.size
            · have hidx := run_at (Pr := Tryd.prog) 9 s j hlt Tryd.underlying9
              have HDR := Lib.hid (drop_bt hlt)
              have HHD := Lib.hid (head_bt hlt)
              have HU := Lib.hid (u8_eq (a := btA s j) (b := 60))
              have hjI : (j : Int) < (s.size : Int) := by omega
              obtain ⟨b, HBB⟩ : ∃ x, Hid (((btA s j).toNat : Int) = x) := ⟨_, rfl⟩
              rw [HBB.out] at HU hidx
              by_cases hc : b = 60
              · have hq : (b == 60) = true := by simpa using hc
                have HC := Lib.hid (show btA s j = 60 from HU.out.1 hc)
                clear hc
                have HX := Lib.hid (OwnM.at_ HO.out)
                have hz3 := HB.out.size
                go_wp2_with (fail)
                refine kNs (l11Number_any1 s j _ hs (by omega)) ?_ ?_
                · intro q j2 e0 e1 hnum
                  go_wp2_with (first
                    | (at_builtin; refine wpl_appX rowM rfl _ _ (by rfl) w.heap.size _ 0 [] (by rfl) (own_empty wo w.heap.size hz3) A n c (v3 xs) (by rfl) (marksNil0 HX.out) (len_v3 HX.out) (marksNewsX (HX.out.below ((Below.refl _ _).alloc (Nat.le_refl _) _))) (v3_one _) n (Nat.zero_add _) (v3 xs) (List.nil_append _) (by omega) (by simp; omega) ?_
                       intro A3 c3 w4 hown3 hgrow3 hat3
                       have hb4 := ((Below.refl wo.heap.size wo).alloc (Nat.le_refl _) _).grown hgrow3 (by simp) (fun k hk => by have h5 : wo.heap.size = k := Option.some.inj hk; omega)
                       have HB4 := Lib.hid (HB.out.trans (hb4.mono hz3))
                       have HO4 := Lib.hid hown3
                       have hz4 := HB4.out.size
                       clear hown3 hgrow3 hat3 hb4)
                    | (at_builtin; refine wpl_appX rowM rfl _ _ (by rfl) w.heap.size _ n (v3 xs) (by rfl) (HO4.out.alloc _) (some ⟨w4.heap.size, 0, none⟩) 1 1 (v3 [(3, 0, q)]) (by rfl) (fun e => by cases e) rfl (fun ad e => by cases e; exact cell3_at (by simp) _ _) (v3_one _) (n + 1) rfl (v3 (xs ++ [(3, 0, q)])) (v3_append _ _).symm (by omega) (by simp; omega) ?_
                       intro A6 c6 w6 hown6 hgrow6 hat6
                       have HB6 := Lib.hid ((HB4.out.alloc hz4 _).grown hgrow6 (by simp; omega) (fun k hk => (HO4.out.lt k hk).1))
                       have HO6 := Lib.hid hown6
                       clear hown6 hgrow6 hat6)
                    | fail)
                  go_wp2
                  go_roundw
                  case rel =>
                    have hl : (xs ++ [((3 : Int), (0 : Int), q)]).length = n + 1 := by rw [List.length_append, HLN.out]; rfl
                    refine ⟨A6, c6, xs ++ [(3, 0, q)], (j2 : Int), by rw [hl], rfl, by rw [hl]; exact HO6.out, ?_, HB6.out⟩
                    · refine .inl ⟨j2, rfl, by rw [hl]; omega, fun zs l' f' h => HK.out _ _ _ ?_⟩
                      rw [HDR.out, HC.out]
                      exact RI.tWmore hnum.out h
                  case measure =>
                    simp only [intOf]
                    rw [mz_pos, mz_pos]; omega
                · intro q j2 e0 e1 hnum
                  go_wp2_with (first
                    | (at_builtin; refine wpl_appX rowM rfl _ _ (by rfl) w.heap.size _ 0 [] (by rfl) (own_empty wo w.heap.size hz3) A n c (v3 xs) (by rfl) (marksNil0 HX.out) (len_v3 HX.out) (marksNewsX (HX.out.below ((Below.refl _ _).alloc (Nat.le_refl _) _))) (v3_one _) n (Nat.zero_add _) (v3 xs) (List.nil_append _) (by omega) (by simp; omega) ?_
                       intro A3 c3 w4 hown3 hgrow3 hat3
                       have hb4 := ((Below.refl wo.heap.size wo).alloc (Nat.le_refl _) _).grown hgrow3 (by simp) (fun k hk => by have h5 : wo.heap.size = k := Option.some.inj hk; omega)
                       have HB4 := Lib.hid (HB.out.trans (hb4.mono hz3))
                       have HO4 := Lib.hid hown3
                       have hz4 := HB4.out.size
                       clear hown3 hgrow3 hat3 hb4)
                    | (at_builtin; refine wpl_appX rowM rfl _ _ (by rfl) w.heap.size _ n (v3 xs) (by rfl) (HO4.out.alloc _) (some ⟨w4.heap.size, 0, none⟩) 1 1 (v3 [(3, 0, q)]) (by rfl) (fun e => by cases e) rfl (fun ad e => by cases e; exact cell3_at (by simp) _ _) (v3_one _) (n + 1) rfl (v3 (xs ++ [(3, 0, q)])) (v3_append _ _).symm (by omega) (by simp; omega) ?_
                       intro A6 c6 w6 hown6 hgrow6 hat6
                       have HB6 := Lib.hid ((HB4.out.alloc hz4 _).grown hgrow6 (by simp; omega) (fun k hk => (HO4.out.lt k hk).1))
                       have HO6 := Lib.hid hown6
                       clear hown6 hgrow6 hat6)
                    | fail)
                  go_wp2
                  go_roundw
                  case rel =>
                    have hl : (xs ++ [((3 : Int), (0 : Int), q)]).length = n + 1 := by rw [List.length_append, HLN.out]; rfl
                    refine ⟨A6, c6, xs ++ [(3, 0, q)], -1, by rw [hl], rfl, by rw [hl]; exact HO6.out, ?_, HB6.out⟩
                    · refine .inr ⟨rfl, by rw [hl]; omega, [], s.data.toList.drop j2, HK.out _ _ _ ?_⟩
                      rw [HDR.out, HC.out]
                      exact RI.tWmore hnum.out (RI.fail _ _ _ _ _)
                  case measure =>
                    simp only [intOf]
                    rw [mz_pos, mz_neg]; omega
              · have hq : (b == 60) = false := by simpa using hc
                have HNE := Lib.hid (show (s.data.toList.drop j).head? ≠ some 60 from by rw [HHD.out]; exact fun e => hc (HU.out.2 (Option.some.inj e)))
                clear hc
                go_wp2
                refine bodyPost_ret (v := .tuple #[.slice A n c, .int .i64 (j : Int)]) (by simp [results, Tryd.results56, go_sem]) rfl ⟨A, c, xs, (j : Int), by rw [HLN.out], by rw [HLN.out]; exact HO.out, .inl ⟨j, rfl, by rw [HLN.out]; exact ⟨b0, b1, b2, b3⟩, HK.out _ _ _ (RI.tWstop HNE.out)⟩, HB.out⟩
            · have hd : decide ((j : Int) < (s.size : Int)) = false := by simpa using hlt
              have HNE := Lib.hid (head_none hlt 60)
              go_wp2
              refine bodyPost_ret (v := .tuple #[.slice A n c, .int .i64 (j : Int)]) (by simp [results, Tryd.results56, go_sem]) rfl ⟨A, c, xs, (j : Int), by rw [HLN.out], by rw [HLN.out]; exact HO.out, .inl ⟨j, rfl, by rw [HLN.out]; exact ⟨b0, b1, b2, b3⟩, HK.out _ _ _ (RI.tWstop HNE.out)⟩, HB.out⟩
      · have hq1 : (b1 != 41) = true := by simpa using hc1
        have HRI := Lib.hid (show RI .within [] (s.data.toList.drop i0) true [] [] false by
          rw [HDR0.out, HC0.out]
          exact RI.brack HRI0.out (show Close (s.data.toList.drop j0) true [] false from fun r e => absurd (by rw [HDR1.out] at e; exact HU1.out.2 (List.cons.inj e).1) hc1) (RI.fail _ _ _ _ _))
        clear hc1
        go_wp2
        refine bodyPost_ret (v := .tuple #[.slice A0 n0 c0, .int .i64 (-1)]) (by simp [results, Tryd.results56, go_sem]) rfl ⟨A0, c0, xs0, -1, by rw [HL0.out], by rw [HL0.out]; exact HO0.out, .inr ⟨rfl, by rw [HL0.out]; omega, [], [], HRI.out⟩, HB0.out⟩
  · have hq0 : (b0 == 40) = false := by simpa using hc0
    have HNE0 := Lib.hid (show (s.data.toList.drop i0).head? ≠ some 40 from by rw [HHD0.out]; exact fun e => hc0 (HU0.out.2 (Option.some.inj e)))
    clear hc0 HB0
    go_enter Tryd.func56, Tryd.ntmps56
    go_wp2_with (fail)
    refine kNs (l11Number_any s i0 _ hs hi0) ?_ ?_
    rotate_left
    · intro lo j0 e0 e1 hnum0
      have HFT := Lib.hid (show FarT .within .tW s i0 [(0, lo, lo)] (-1) from .inr ⟨rfl, by simp, [], [], RI.step (g2 := true) (hi := lo) (l2 := []) HNE0.out hnum0.out (fun e => by cases e) (RI.fail _ _ _ _ _)⟩)
      have HOS := Lib.hid (own_second w lo lo)
      have HBS := Lib.hid (show Below w.heap.size w ((w.alloc (.cells #[] 54)).alloc (.cells #[.int .i64 0, .int .i64 lo, .int .i64 lo] 54)) from HA.out.alloc (by simp) _)
      clear hidx
      go_wp2_with (fail)
      go_loopw [6, 7] (fun o v wr => ∃ (A : Option Addr) (c : Nat) (xs : List Mk) (z : Int), o = .slice A xs.length c ∧ v = .int .i64 z ∧ OwnM wr w.heap.size A xs.length c xs ∧ FarT .within .tW s i0 xs z ∧ Below w.heap.size w wr) (fun _ v _ => mz s (intOf v))
      case atStart => exact ⟨_, 1, [(0, lo, lo)], -1, rfl, rfl, HOS.out, HFT.out, HBS.out⟩
      case round =>
        skip
        obtain ⟨wo, rfl⟩ : ∃ wo : World, wo = wr := ⟨_, rfl⟩
        obtain ⟨A, c, xs, z, rfl, rfl, hown, hfar, hb⟩ := hrel
        have HO := Lib.hid hown
        have HB := Lib.hid hb
        clear hown hb
        obtain ⟨n, HLN⟩ : ∃ q, Hid (xs.length = q) := ⟨_, rfl⟩
        rcases hfar with ⟨j, rfl, hbd, hk⟩ | ⟨rfl, hbd, hfl⟩
        rotate_left
        · have HFL := Lib.hid hfl
          rw [HLN.out] at HO hbd ⊢
          clear hfl
          go_wp2
          refine bodyPost_ret (v := .tuple #[.slice A n c, .int .i64 (-1)]) (by simp [results, Tryd.results56, go_sem]) rfl ⟨A, c, xs, -1, by rw [HLN.out], by rw [HLN.out]; exact HO.out, .inr ⟨rfl, by rw [HLN.out]; exact hbd, HFL.out⟩, HB.out⟩
        · obtain ⟨b0, b1, b2, b3⟩ := hbd
          have HK := Lib.hid hk
          rw [HLN.out] at HO b2 b3 ⊢
          clear hk
          by_cases hlt : j < s.size
          · have hidx := run_at (Pr := Tryd.prog) 9 s j hlt Tryd.underlying9
            have HDR := Lib.hid (drop_bt hlt)
            have HHD := Lib.hid (head_bt hlt)
            have HU := Lib.hid (u8_eq (a := btA s j) (b := 60))
            have hjI : (j : Int) < (s.size : Int) := by omega
            obtain ⟨b, HBB⟩ : ∃ x, Hid (((btA s j).toNat : Int) = x) := ⟨_, rfl⟩
            rw [HBB.out] at HU hidx
            by_cases hc : b = 60
            · have hq : (b == 60) = true := by simpa using hc
              have HC := Lib.hid (show btA s j = 60 from HU.out.1 hc)
              clear hc
              have HX := Lib.hid (OwnM.at_ HO.out)
              have hz3 := HB.out.size
              go_wp2_with (fail)
              refine kNs (l11Number_any1 s j _ hs (by omega)) ?_ ?_
              · intro q j2 e0 e1 hnum
                go_wp2_with (first
                  | (at_builtin; refine wpl_appX rowM rfl _ _ (by rfl) w.heap.size _ 0 [] (by rfl) (own_empty wo w.heap.size hz3) A n c (v3 xs) (by rfl) (marksNil0 HX.out) (len_v3 HX.out) (marksNewsX (HX.out.below ((Below.refl _ _).alloc (Nat.le_refl _) _))) (v3_one _) n (Nat.zero_add _) (v3 xs) (List.nil_append _) (by omega) (by simp; omega) ?_
                     intro A3 c3 w4 hown3 hgrow3 hat3
                     have hb4 := ((Below.refl wo.heap.size wo).alloc (Nat.le_refl _) _).grown hgrow3 (by simp) (fun k hk => by have h5 : wo.heap.size = k := Option.some.inj hk; omega)
                     have HB4 := Lib.hid (HB.out.trans (hb4.mono hz3))
                     have HO4 := Lib.hid hown3
                     have hz4 := HB4.out.size
                     clear hown3 hgrow3 hat3 hb4)
                  | (at_builtin; refine wpl_appX rowM rfl _ _ (by rfl) w.heap.size _ n (v3 xs) (by rfl) (HO4.out.alloc _) (some ⟨w4.heap.size, 0, none⟩) 1 1 (v3 [(3, 0, q)]) (by rfl) (fun e => by cases e) rfl (fun ad e => by cases e; exact cell3_at (by simp) _ _) (v3_one _) (n + 1) rfl (v3 (xs ++ [(3, 0, q)])) (v3_append _ _).symm (by omega) (by simp; omega) ?_
                     intro A6 c6 w6 hown6 hgrow6 hat6
                     have HB6 := Lib.hid ((HB4.out.alloc hz4 _).grown hgrow6 (by simp; omega) (fun k hk => (HO4.out.lt k hk).1))
                     have HO6 := Lib.hid hown6
                     clear hown6 hgrow6 hat6)
                  | fail)
                go_wp2
                go_roundw
                case rel =>
                  have hl : (xs ++ [((3 : Int), (0 : Int), q)]).length = n + 1 := by rw [List.length_append, HLN.out]; rfl
                  refine ⟨A6, c6, xs ++ [(3, 0, q)], (j2 : Int), by rw [hl], rfl, by rw [hl]; exact HO6.out, ?_, HB6.out⟩
                  · refine .inl ⟨j2, rfl, by rw [hl]; omega, fun zs l' f' h => HK.out _ _ _ ?_⟩
                    rw [HDR.out, HC.out]
                    exact RI.tWmore hnum.out h
                case measure =>
                  simp only [intOf]
                  rw [mz_pos, mz_pos]; omega
              · intro q j2 e0 e1 hnum
                go_wp2_with (first
                  | (at_builtin; refine wpl_appX rowM rfl _ _ (by rfl) w.heap.size _ 0 [] (by rfl) (own_empty wo w.heap.size hz3) A n c (v3 xs) (by rfl) (marksNil0 HX.out) (len_v3 HX.out) (marksNewsX (HX.out.below ((Below.refl _ _).alloc (Nat.le_refl _) _))) (v3_one _) n (Nat.zero_add _) (v3 xs) (List.nil_append _) (by omega) (by simp; omega) ?_
                     intro A3 c3 w4 hown3 hgrow3 hat3
                     have hb4 := ((Below.refl wo.heap.size wo).alloc (Nat.le_refl _) _).grown hgrow3 (by simp) (fun k hk => by have h5 : wo.heap.size = k := Option.some.inj hk; omega)
                     have HB4 := Lib.hid (HB.out.trans (hb4.mono hz3))
                     have HO4 := Lib.hid hown3
                     have hz4 := HB4.out.size
                     clear hown3 hgrow3 hat3 hb4)
                  | (at_builtin; refine wpl_appX rowM rfl _ _ (by rfl) w.heap.size _ n (v3 xs) (by rfl) (HO4.out.alloc _) (some ⟨w4.heap.size, 0, none⟩) 1 1 (v3 [(3, 0, q)]) (by rfl) (fun e => by cases e) rfl (fun ad e => by cases e; exact cell3_at (by simp) _ _) (v3_one _) (n + 1) rfl (v3 (xs ++ [(3, 0, q)])) (v3_append _ _).symm (by omega) (by simp; omega) ?_
                     intro A6 c6 w6 hown6 hgrow6 hat6
                     have HB6 := Lib.hid ((HB4.out.alloc hz4 _).grown hgrow6 (by simp; omega) (fun k hk => (HO4.out.lt k hk).1))
                     have HO6 := Lib.hid hown6
                     clear hown6 hgrow6 hat6)
                  | fail)
                go_wp2
                go_roundw
                case rel =>
                  have hl : (xs ++ [((3 : Int), (0 : Int), q)]).length = n + 1 := by rw [List.length_append, HLN.out]; rfl
                  refine ⟨A6, c6, xs ++ [(3, 0, q)], -1, by rw [hl], rfl, by rw [hl]; exact HO6.out, ?_, HB6.out⟩
                  · refine .inr ⟨rfl, by rw [hl]; omega, [], s.data.toList.drop j2, HK.out _ _ _ ?_⟩
                    rw [HDR.out, HC.out]
                    exact RI.tWmore hnum.out (RI.fail _ _ _ _ _)
                case measure =>
                  simp only [intOf]
                  rw [mz_pos, mz_neg]; omega
            · have hq : (b == 60) = false := by simpa using hc
              have HNE := Lib.hid (show (s.data.toList.drop j).head? ≠ some 60 from by rw [HHD.out]; exact fun e => hc (HU.out.2 (Option.some.inj e)))
              clear hc
              go_wp2
              refine bodyPost_ret (v := .tuple #[.slice A n c, .int .i64 (j : Int)]) (by simp [results, Tryd.results56, go_sem]) rfl ⟨A, c, xs, (j : Int), by rw [HLN.out], by rw [HLN.out]; exact HO.out, .inl ⟨j, rfl, by rw [HLN.out]; exact ⟨b0, b1, b2, b3⟩, HK.out _ _ _ (RI.tWstop HNE.out)⟩, HB.out⟩
          · have hd : decide ((j : Int) < (s.size : Int)) = false := by simpa using hlt
            have HNE := Lib.hid (head_none hlt 60)
            go_wp2
            refine bodyPost_ret (v := .tuple #[.slice A n c, .int .i64 (j : Int)]) (by simp [results, Tryd.results56, go_sem]) rfl ⟨A, c, xs, (j : Int), by rw [HLN.out], by rw [HLN.out]; exact HO.out, .inl ⟨j, rfl, by rw [HLN.out]; exact ⟨b0, b1, b2, b3⟩, HK.out _ _ _ (RI.tWstop HNE.out)⟩, HB.out⟩
    · intro lo j0 e0 e1 hnum0
      have hp0 : 0 < (j0 : Int) := by omega
      clear hidx
      by_cases hlt2 : j0 < s.size
      rotate_left
      · have hI3 : ¬ (j0 : Int) < (s.size : Int) := by omega
        have hd3 : decide ((j0 : Int) < (s.size : Int)) = false := by simpa using hI3
        have HFT := Lib.hid (show FarT .within .tW s i0 [(0, lo, lo)] (j0 : Int) from .inl ⟨j0, rfl, by simp; omega, fun ys l' f' h => RI.step (g2 := true) (hi := lo) HNE0.out hnum0.out (fun _ => ⟨fun r e => (by rw [drop_none hlt2] at e; cases e), fun _ => ⟨rfl, rfl, rfl⟩⟩) h⟩)
        have HOS := Lib.hid (own_second w lo lo)
        have HBS := Lib.hid (show Below w.heap.size w ((w.alloc (.cells #[] 54)).alloc (.cells #[.int .i64 0, .int .i64 lo, .int .i64 lo] 54)) from HA.out.alloc (by simp) _)
        go_wp2_with (fail)
        go_loopw [6, 7] (fun o v wr => ∃ (A : Option Addr) (c : Nat) (xs : List Mk) (z : Int), o = .slice A xs.length c ∧ v = .int .i64 z ∧ OwnM wr w.heap.size A xs.length c xs ∧ FarT .within .tW s i0 xs z ∧ Below w.heap.size w wr) (fun _ v _ => mz s (intOf v))
        case atStart => exact ⟨_, 1, [(0, lo, lo)], (j0 : Int), rfl, rfl, HOS.out, HFT.out, HBS.out⟩
        case round =>
          skip
          obtain ⟨wo, rfl⟩ : ∃ wo : World, wo = wr := ⟨_, rfl⟩
          obtain ⟨A, c, xs, z, rfl, rfl, hown, hfar, hb⟩ := hrel
          have HO := Lib.hid hown
          have HB := Lib.hid hb
          clear hown hb
          obtain ⟨n, HLN⟩ : ∃ q, Hid (xs.length = q) := ⟨_, rfl⟩
          rcases hfar with ⟨j, rfl, hbd, hk⟩ | ⟨rfl, hbd, hfl⟩
          rotate_left
          · have HFL := Lib.hid hfl
            rw [HLN.out] at HO hbd ⊢
            clear hfl
            go_wp2
            refine bodyPost_ret (v := .tuple #[.slice A n c, .int .i64 (-1)]) (by simp [results, Tryd.results56, go_sem]) rfl ⟨A, c, xs, -1, by rw [HLN.out], by rw [HLN.out]; exact HO.out, .inr ⟨rfl, by rw [HLN.out]; exact hbd, HFL.out⟩, HB.out⟩
          · obtain ⟨b0, b1, b2, b3⟩ := hbd
            have HK := Lib.hid hk
            rw [HLN.out] at HO b2 b3 ⊢
            clear hk
            by_cases hlt : j < s.size
            · have hidx := run_at (Pr := Tryd.prog) 9 s j hlt Tryd.underlying9
              have HDR := Lib.hid (drop_bt hlt)
              have HHD := Lib.hid (head_bt hlt)
              have HU := Lib.hid (u8_eq (a := btA s j) (b := 60))
              have hjI : (j : Int) < (s.size : Int) := by omega
              obtain ⟨b, HBB⟩ : ∃ x, Hid (((btA s j).toNat : Int) = x) := ⟨_, rfl⟩
              rw [HBB.out] at HU hidx
              by_cases hc : b = 60
              · have hq : (b == 60) = true := by simpa using hc
                have HC := Lib.hid (show btA s j = 60 from HU.out.1 hc)
                clear hc
                have HX := Lib.hid (OwnM.at_ HO.out)
                have hz3 := HB.out.size
                go_wp2_with (fail)
                refine kNs (l11Number_any1 s j _ hs (by omega)) ?_ ?_
                · intro q j2 e0 e1 hnum
                  go_wp2_with (first
                    | (at_builtin; refine wpl_appX rowM rfl _ _ (by rfl) w.heap.size _ 0 [] (by rfl) (own_empty wo w.heap.size hz3) A n c (v3 xs) (by rfl) (marksNil0 HX.out) (len_v3 HX.out) (marksNewsX (HX.out.below ((Below.refl _ _).alloc (Nat.le_refl _) _))) (v3_one _) n (Nat.zero_add _) (v3 xs) (List.nil_append _) (by omega) (by simp; omega) ?_
                       intro A3 c3 w4 hown3 hgrow3 hat3
                       have hb4 := ((Below.refl wo.heap.size wo).alloc (Nat.le_refl _) _).grown hgrow3 (by simp) (fun k hk => by have h5 : wo.heap.size = k := Option.some.inj hk; omega)
                       have HB4 := Lib.hid (HB.out.trans (hb4.mono hz3))
                       have HO4 := Lib.hid hown3
                       have hz4 := HB4.out.size
                       clear hown3 hgrow3 hat3 hb4)
                    | (at_builtin; refine wpl_appX rowM rfl _ _ (by rfl) w.heap.size _ n (v3 xs) (by rfl) (HO4.out.alloc _) (some ⟨w4.heap.size, 0, none⟩) 1 1 (v3 [(3, 0, q)]) (by rfl) (fun e => by cases e) rfl (fun ad e => by cases e; exact cell3_at (by simp) _ _) (v3_one _) (n + 1) rfl (v3 (xs ++ [(3, 0, q)])) (v3_append _ _).symm (by omega) (by simp; omega) ?_
                       intro A6 c6 w6 hown6 hgrow6 hat6
                       have HB6 := Lib.hid ((HB4.out.alloc hz4 _).grown hgrow6 (by simp; omega) (fun k hk => (HO4.out.lt k hk).1))
                       have HO6 := Lib.hid hown6
                       clear hown6 hgrow6 hat6)
                    | fail)
                  go_wp2
                  go_roundw
                  case rel =>
                    have hl : (xs ++ [((3 : Int), (0 : Int), q)]).length = n + 1 := by rw [List.length_append, HLN.out]; rfl
                    refine ⟨A6, c6, xs ++ [(3, 0, q)], (j2 : Int), by rw [hl], rfl, by rw [hl]; exact HO6.out, ?_, HB6.out⟩
                    · refine .inl ⟨j2, rfl, by rw [hl]; omega, fun zs l' f' h => HK.out _ _ _ ?_⟩
                      rw [HDR.out, HC.out]
                      exact RI.tWmore hnum.out h
                  case measure =>
                    simp only [intOf]
                    rw [mz_pos, mz_pos]; omega
                · intro q j2 e0 e1 hnum
                  go_wp2_with (first
                    | (at_builtin; refine wpl_appX rowM rfl _ _ (by rfl) w.heap.size _ 0 [] (by rfl) (own_empty wo w.heap.size hz3) A n c (v3 xs) (by rfl) (marksNil0 HX.out) (len_v3 HX.out) (marksNewsX (HX.out.below ((Below.refl _ _).alloc (Nat.le_refl _) _))) (v3_one _) n (Nat.zero_add _) (v3 xs) (List.nil_append _) (by omega) (by simp; omega) ?_
                       intro A3 c3 w4 hown3 hgrow3 hat3
                       have hb4 := ((Below.refl wo.heap.size wo).alloc (Nat.le_refl _) _).grown hgrow3 (by simp) (fun k hk => by have h5 : wo.heap.size = k := Option.some.inj hk; omega)
                       have HB4 := Lib.hid (HB.out.trans (hb4.mono hz3))
                       have HO4 := Lib.hid hown3
                       have hz4 := HB4.out.size
                       clear hown3 hgrow3 hat3 hb4)
                    | (at_builtin; refine wpl_appX rowM rfl _ _ (by rfl) w.heap.size _ n (v3 xs) (by rfl) (HO4.out.alloc _) (some ⟨w4.heap.size, 0, none⟩) 1 1 (v3 [(3, 0, q)]) (by rfl) (fun e => by cases e) rfl (fun ad e => by cases e; exact cell3_at (by simp) _ _) (v3_one _) (n + 1) rfl (v3 (xs ++ [(3, 0, q)])) (v3_append _ _).symm (by omega) (by simp; omega) ?_
                       intro A6 c6 w6 hown6 hgrow6 hat6
                       have HB6 := Lib.hid ((HB4.out.alloc hz4 _).grown hgrow6 (by simp; omega) (fun k hk => (HO4.out.lt k hk).1))
                       have HO6 := Lib.hid hown6
                       clear hown6 hgrow6 hat6)
                    | fail)
                  go_wp2
                  go_roundw
                  case rel =>
                    have hl : (xs ++ [((3 : Int), (0 : Int), q)]).length = n + 1 := by rw [List.length_append, HLN.out]; rfl
                    refine ⟨A6, c6, xs ++ [(3, 0, q)], -1, by rw [hl], rfl, by rw [hl]; exact HO6.out, ?_, HB6.out⟩
                    · refine .inr ⟨rfl, by rw [hl]; omega, [], s.data.toList.drop j2, HK.out _ _ _ ?_⟩
                      rw [HDR.out, HC.out]
                      exact RI.tWmore hnum.out (RI.fail _ _ _ _ _)
                  case measure =>
                    simp only [intOf]
                    rw [mz_pos, mz_neg]; omega
              · have hq : (b == 60) = false := by simpa using hc
                have HNE := Lib.hid (show (s.data.toList.drop j).head? ≠ some 60 from by rw [HHD.out]; exact fun e => hc (HU.out.2 (Option.some.inj e)))
                clear hc
                go_wp2
                refine bodyPost_ret (v := .tuple #[.slice A n c, .int .i64 (j : Int)]) (by simp [results, Tryd.results56, go_sem]) rfl ⟨A, c, xs, (j : Int), by rw [HLN.out], by rw [HLN.out]; exact HO.out, .inl ⟨j, rfl, by rw [HLN.out]; exact ⟨b0, b1, b2, b3⟩, HK.out _ _ _ (RI.tWstop HNE.out)⟩, HB.out⟩
            · have hd : decide ((j : Int) < (s.size : Int)) = false := by simpa using hlt
              have HNE := Lib.hid (head_none hlt 60)
              go_wp2
              refine bodyPost_ret (v := .tuple #[.slice A n c, .int .i64 (j : Int)]) (by simp [results, Tryd.results56, go_sem]) rfl ⟨A, c, xs, (j : Int), by rw [HLN.out], by rw [HLN.out]; exact HO.out, .inl ⟨j, rfl, by rw [HLN.out]; exact ⟨b0, b1, b2, b3⟩, HK.out _ _ _ (RI.tWstop HNE.out)⟩, HB.out⟩
      have hidx := run_at (Pr := Tryd.prog) 9 s j0 hlt2 Tryd.underlying9
      have HDR1 := Lib.hid (drop_bt hlt2)
      have HU1 := Lib.hid (u8_eq (a := btA s j0) (b := 45))
      have hI3 : (j0 : Int) < (s.size : Int) := by omega
      obtain ⟨b1, HB1⟩ : ∃ x, Hid (((btA s j0).toNat : Int) = x) := ⟨_, rfl⟩
      rw [HB1.out] at HU1 hidx
      by_cases hc1 : b1 = 45
      · have hq1 : (b1 == 45) = true := by simpa using hc1
        have HC1 := Lib.hid (show btA s j0 = 45 from HU1.out.1 hc1)
        clear hc1
        go_wp2_with (fail)
        refine kNs (l11Number_any1 s j0 _ hs (by omega)) ?_ ?_
        · intro hi j1 f0 f1 hnum1
          have HFT := Lib.hid (show FarT .within .tW s i0 [(0, lo, hi)] (j1 : Int) from .inl ⟨j1, rfl, by simp; omega, fun ys l' f' h => RI.step (g2 := true) (hi := hi) HNE0.out hnum0.out (fun _ => ⟨fun r e => by rw [HDR1.out] at e; rw [← (List.cons.inj e).2]; exact hnum1.out, fun e => absurd (by rw [HDR1.out, HC1.out]; rfl) e⟩) h⟩)
          have HOS := Lib.hid (own_second w lo hi)
          have HBS := Lib.hid (show Below w.heap.size w ((w.alloc (.cells #[] 54)).alloc (.cells #[.int .i64 0, .int .i64 lo, .int .i64 hi] 54)) from HA.out.alloc (by simp) _)
          clear hidx
          go_wp2_with (fail)
          go_loopw [6, 7] (fun o v wr => ∃ (A : Option Addr) (c : Nat) (xs : List Mk) (z : Int), o = .slice A xs.length c ∧ v = .int .i64 z ∧ OwnM wr w.heap.size A xs.length c xs ∧ FarT .within .tW s i0 xs z ∧ Below w.heap.size w wr) (fun _ v _ => mz s (intOf v))
          case atStart => exact ⟨_, 1, [(0, lo, hi)], (j1 : Int), rfl, rfl, HOS.out, HFT.out, HBS.out⟩
          case round =>
            skip
            obtain ⟨wo, rfl⟩ : ∃ wo : World, wo = wr := ⟨_, rfl⟩
            obtain ⟨A, c, xs, z, rfl, rfl, hown, hfar, hb⟩ := hrel
            have HO := Lib.hid hown
            have HB := Lib.hid hb
            clear hown hb
            obtain ⟨n, HLN⟩ : ∃ q, Hid (xs.length = q) := ⟨_, rfl⟩
            rcases hfar with ⟨j, rfl, hbd, hk⟩ | ⟨rfl, hbd, hfl⟩
            rotate_left
            · have HFL := Lib.hid hfl
              rw [HLN.out] at HO hbd ⊢
              clear hfl
              go_wp2
              refine bodyPost_ret (v := .tuple #[.slice A n c, .int .i64 (-1)]) (by simp [results, Tryd.results56, go_sem]) rfl ⟨A, c, xs, -1, by rw [HLN.out], by rw [HLN.out]; exact HO.out, .inr ⟨rfl, by rw [HLN.out]; exact hbd, HFL.out⟩, HB.out⟩
            · obtain ⟨b0, b1, b2, b3⟩ := hbd
              have HK := Lib.hid hk
              rw [HLN.out] at HO b2 b3 ⊢
              clear hk
              by_cases hlt : j < s.size
              · have hidx := run_at (Pr := Tryd.prog) 9 s j hlt Tryd.underlying9
                have HDR := Lib.hid (drop_bt hlt)
                have HHD := Lib.hid (head_bt hlt)
                have HU := Lib.hid (u8_eq (a := btA s j) (b := 60))
                have hjI : (j : Int) < (s.size : Int) := by omega
                obtain ⟨b, HBB⟩ : ∃ x, Hid (((btA s j).toNat : Int) = x) := ⟨_, rfl⟩
                rw [HBB.out] at HU hidx
                by_cases hc : b = 60
                · have hq : (b == 60) = true := by simpa using hc
                  have HC := Lib.hid (show btA s j = 60 from HU.out.1 hc)
                  clear hc
                  have HX := Lib.hid (OwnM.at_ HO.out)
                  have hz3 := HB.out.size
                  go_wp2_with (fail)
                  refine kNs (l11Number_any1 s j _ hs (by omega)) ?_ ?_
                  · intro q j2 e0 e1 hnum
                    go_wp2_with (first
                      | (at_builtin; refine wpl_appX rowM rfl _ _ (by rfl) w.heap.size _ 0 [] (by rfl) (own_empty wo w.heap.size hz3) A n c (v3 xs) (by rfl) (marksNil0 HX.out) (len_v3 HX.out) (marksNewsX (HX.out.below ((Below.refl _ _).alloc (Nat.le_refl _) _))) (v3_one _) n (Nat.zero_add _) (v3 xs) (List.nil_append _) (by omega) (by simp; omega) ?_
                         intro A3 c3 w4 hown3 hgrow3 hat3
                         have hb4 := ((Below.refl wo.heap.size wo).alloc (Nat.le_refl _) _).grown hgrow3 (by simp) (fun k hk => by have h5 : wo.heap.size = k := Option.some.inj hk; omega)
                         have HB4 := Lib.hid (HB.out.trans (hb4.mono hz3))
                         have HO4 := Lib.hid hown3
                         have hz4 := HB4.out.size
                         clear hown3 hgrow3 hat3 hb4)
                      | (at_builtin; refine wpl_appX rowM rfl _ _ (by rfl) w.heap.size _ n (v3 xs) (by rfl) (HO4.out.alloc _) (some ⟨w4.heap.size, 0, none⟩) 1 1 (v3 [(3, 0, q)]) (by rfl) (fun e => by cases e) rfl (fun ad e => by cases e; exact cell3_at (by simp) _ _) (v3_one _) (n + 1) rfl (v3 (xs ++ [(3, 0, q)])) (v3_append _ _).symm (by omega) (by simp; omega) ?_
                         intro A6 c6 w6 hown6 hgrow6 hat6
                         have HB6 := Lib.hid ((HB4.out.alloc hz4 _).grown hgrow6 (by simp; omega) (fun k hk => (HO4.out.lt k hk).1))
                         have HO6 := Lib.hid hown6
                         clear hown6 hgrow6 hat6)
                      | fail)
                    go_wp2
                    go_roundw
                    case rel =>
                      have hl : (xs ++ [((3 : Int), (0 : Int), q)]).length = n + 1 := by rw [List.length_append, HLN.out]; rfl
                      refine ⟨A6, c6, xs ++ [(3, 0, q)], (j2 : Int), by rw [hl], rfl, by rw [hl]; exact HO6.out, ?_, HB6.out⟩
                      · refine .inl ⟨j2, rfl, by rw [hl]; omega, fun zs l' f' h => HK.out _ _ _ ?_⟩
                        rw [HDR.out, HC.out]
                        exact RI.tWmore hnum.out h
                    case measure =>
                      simp only [intOf]
                      rw [mz_pos, mz_pos]; omega
                  · intro q j2 e0 e1 hnum
                    go_wp2_with (first
                      | (at_builtin; refine wpl_appX rowM rfl _ _ (by rfl) w.heap.size _ 0 [] (by rfl) (own_empty wo w.heap.size hz3) A n c (v3 xs) (by rfl) (marksNil0 HX.out) (len_v3 HX.out) (marksNewsX (HX.out.below ((Below.refl _ _).alloc (Nat.le_refl _) _))) (v3_one _) n (Nat.zero_add _) (v3 xs) (List.nil_append _) (by omega) (by simp; omega) ?_
                         intro A3 c3 w4 hown3 hgrow3 hat3
                         have hb4 := ((Below.refl wo.heap.size wo).alloc (Nat.le_refl _) _).grown hgrow3 (by simp) (fun k hk => by have h5 : wo.heap.size = k := Option.some.inj hk; omega)
                         have HB4 := Lib.hid (HB.out.trans (hb4.mono hz3))
                         have HO4 := Lib.hid hown3
                         have hz4 := HB4.out.size
                         clear hown3 hgrow3 hat3 hb4)
                      | (at_builtin; refine wpl_appX rowM rfl _ _ (by rfl) w.heap.size _ n (v3 xs) (by rfl) (HO4.out.alloc _) (some ⟨w4.heap.size, 0, none⟩) 1 1 (v3 [(3, 0, q)]) (by rfl) (fun e => by cases e) rfl (fun ad e => by cases e; exact cell3_at (by simp) _ _) (v3_one _) (n + 1) rfl (v3 (xs ++ [(3, 0, q)])) (v3_append _ _).symm (by omega) (by simp; omega) ?_
                         intro A6 c6 w6 hown6 hgrow6 hat6
                         have HB6 := Lib.hid ((HB4.out.alloc hz4 _).grown hgrow6 (by simp; omega) (fun k hk => (HO4.out.lt k hk).1))
                         have HO6 := Lib.hid hown6
                         clear hown6 hgrow6 hat6)
                      | fail)
                    go_wp2
                    go_roundw
                    case rel =>
                      have hl : (xs ++ [((3 : Int), (0 : Int), q)]).length = n + 1 := by rw [List.length_append, HLN.out]; rfl
                      refine ⟨A6, c6, xs ++ [(3, 0, q)], -1, by rw [hl], rfl, by rw [hl]; exact HO6.out, ?_, HB6.out⟩
                      · refine .inr ⟨rfl, by rw [hl]; omega, [], s.data.toList.drop j2, HK.out _ _ _ ?_⟩
                        rw [HDR.out, HC.out]
                        exact RI.tWmore hnum.out (RI.fail _ _ _ _ _)
                    case measure =>
                      simp only [intOf]
                      rw [mz_pos, mz_neg]; omega
                · have hq : (b == 60) = false := by simpa using hc
                  have HNE := Lib.hid (show (s.data.toList.drop j).head? ≠ some 60 from by rw [HHD.out]; exact fun e => hc (HU.out.2 (Option.some.inj e)))
                  clear hc
                  go_wp2
                  refine bodyPost_ret (v := .tuple #[.slice A n c, .int .i64 (j : Int)]) (by simp [results, Tryd.results56, go_sem]) rfl ⟨A, c, xs, (j : Int), by rw [HLN.out], by rw [HLN.out]; exact HO.out, .inl ⟨j, rfl, by rw [HLN.out]; exact ⟨b0, b1, b2, b3⟩, HK.out _ _ _ (RI.tWstop HNE.out)⟩, HB.out⟩
              · have hd : decide ((j : Int) < (s.size : Int)) = false := by simpa using hlt
                have HNE := Lib.hid (head_none hlt 60)
                go_wp2
                refine bodyPost_ret (v := .tuple #[.slice A n c, .int .i64 (j : Int)]) (by simp [results, Tryd.results56, go_sem]) rfl ⟨A, c, xs, (j : Int), by rw [HLN.out], by rw [HLN.out]; exact HO.out, .inl ⟨j, rfl, by rw [HLN.out]; exact ⟨b0, b1, b2, b3⟩, HK.out _ _ _ (RI.tWstop HNE.out)⟩, HB.out⟩
        · intro hi j1 f0 f1 hnum1
          have HFT := Lib.hid (show FarT .within .tW s i0 [(0, lo, hi)] (-1) from .inr ⟨rfl, by simp, [], [], RI.step (g2 := false) (hi := hi) HNE0.out hnum0.out (fun _ => ⟨fun r e => by rw [HDR1.out] at e; rw [← (List.cons.inj e).2]; exact hnum1.out, fun e => absurd (by rw [HDR1.out, HC1.out]; rfl) e⟩) (RI.fail _ _ _ _ _)⟩)
          have HOS := Lib.hid (own_second w lo hi)
          have HBS := Lib.hid (show Below w.heap.size w ((w.alloc (.cells #[] 54)).alloc (.cells #[.int .i64 0, .int .i64 lo, .int .i64 hi] 54)) from HA.out.alloc (by simp) _)
          clear hidx
          go_wp2_with (fail)
          go_loopw [6, 7] (fun o v wr => ∃ (A : Option Addr) (c : Nat) (xs : List Mk) (z : Int), o = .slice A xs.length c ∧ v = .int .i64 z ∧ OwnM wr w.heap.size A xs.length c xs ∧ FarT .within .tW s i0 xs z ∧ Below w.heap.size w wr) (fun _ v _ => mz s (intOf v))
          case atStart => exact ⟨_, 1, [(0, lo, hi)], -1, rfl, rfl, HOS.out, HFT.out, HBS.out⟩
          case round =>
            skip
            obtain ⟨wo, rfl⟩ : ∃ wo : World, wo = wr := ⟨_, rfl⟩
            obtain ⟨A, c, xs, z, rfl, rfl, hown, hfar, hb⟩ := hrel
            have HO := Lib.hid hown
            have HB := Lib.hid hb
            clear hown hb
            obtain ⟨n, HLN⟩ : ∃ q, Hid (xs.length = q) := ⟨_, rfl⟩
            rcases hfar with ⟨j, rfl, hbd, hk⟩ | ⟨rfl, hbd, hfl⟩
            rotate_left
            · have HFL := Lib.hid hfl
              rw [HLN.out] at HO hbd ⊢
              clear hfl
              go_wp2
              refine bodyPost_ret (v := .tuple #[.slice A n c, .int .i64 (-1)]) (by simp [results, Tryd.results56, go_sem]) rfl ⟨A, c, xs, -1, by rw [HLN.out], by rw [HLN.out]; exact HO.out, .inr ⟨rfl, by rw [HLN.out]; exact hbd, HFL.out⟩, HB.out⟩
            · obtain ⟨b0, b1, b2, b3⟩ := hbd
              have HK := Lib.hid hk
              rw [HLN.out] at HO b2 b3 ⊢
              clear hk
              by_cases hlt : j < s.size
              · have hidx := run_at (Pr := Tryd.prog) 9 s j hlt Tryd.underlying9
                have HDR := Lib.hid (drop_bt hlt)
                have HHD := Lib.hid (head_bt hlt)
                have HU := Lib.hid (u8_eq (a := btA s j) (b := 60))
                have hjI : (j : Int) < (s.size : Int) := by omega
                obtain ⟨b, HBB⟩ : ∃ x, Hid (((btA s j).toNat : Int) = x) := ⟨_, rfl⟩
                rw [HBB.out] at HU hidx
                by_cases hc : b = 60
                · have hq : (b == 60) = true := by simpa using hc
                  have HC := Lib.hid (show btA s j = 60 from HU.out.1 hc)
                  clear hc
                  have HX := Lib.hid (OwnM.at_ HO.out)
                  have hz3 := HB.out.size
                  go_wp2_with (fail)
                  refine kNs (l11Number_any1 s j _ hs (by omega)) ?_ ?_
                  · intro q j2 e0 e1 hnum
                    go_wp2_with (first
                      | (at_builtin; refine wpl_appX rowM rfl _ _ (by rfl) w.heap.size _ 0 [] (by rfl) (own_empty wo w.heap.size hz3) A n c (v3 xs) (by rfl) (marksNil0 HX.out) (len_v3 HX.out) (marksNewsX (HX.out.below ((Below.refl _ _).alloc (Nat.le_refl _) _))) (v3_one _) n (Nat.zero_add _) (v3 xs) (List.nil_append _) (by omega) (by simp; omega) ?_
                         intro A3 c3 w4 hown3 hgrow3 hat3
                         have hb4 := ((Below.refl wo.heap.size wo).alloc (Nat.le_refl _) _).grown hgrow3 (by simp) (fun k hk => by have h5 : wo.heap.size = k := Option.some.inj hk; omega)
                         have HB4 := Lib.hid (HB.out.trans (hb4.mono hz3))
                         have HO4 := Lib.hid hown3
                         have hz4 := HB4.out.size
                         clear hown3 hgrow3 hat3 hb4)
                      | (at_builtin; refine wpl_appX rowM rfl _ _ (by rfl) w.heap.size _ n (v3 xs) (by rfl) (HO4.out.alloc _) (some ⟨w4.heap.size, 0, none⟩) 1 1 (v3 [(3, 0, q)]) (by rfl) (fun e => by cases e) rfl (fun ad e => by cases e; exact cell3_at (by simp) _ _) (v3_one _) (n + 1) rfl (v3 (xs ++ [(3, 0, q)])) (v3_append _ _).symm (by omega) (by simp; omega) ?_
                         intro A6 c6 w6 hown6 hgrow6 hat6
                         have HB6 := Lib.hid ((HB4.out.alloc hz4 _).grown hgrow6 (by simp; omega) (fun k hk => (HO4.out.lt k hk).1))
                         have HO6 := Lib.hid hown6
                         clear hown6 hgrow6 hat6)
                      | fail)
                    go_wp2
                    go_roundw
                    case rel =>
                      have hl : (xs ++ [((3 : Int), (0 : Int), q)]).length = n + 1 := by rw [List.length_append, HLN.out]; rfl
                      refine ⟨A6, c6, xs ++ [(3, 0, q)], (j2 : Int), by rw [hl], rfl, by rw [hl]; exact HO6.out, ?_, HB6.out⟩
                      · refine .inl ⟨j2, rfl, by rw [hl]; omega, fun zs l' f' h => HK.out _ _ _ ?_⟩
                        rw [HDR.out, HC.out]
                        exact RI.tWmore hnum.out h
                    case measure =>
                      simp only [intOf]
                      rw [mz_pos, mz_pos]; omega
                  · intro q j2 e0 e1 hnum
                    go_wp2_with (first
                      | (at_builtin; refine wpl_appX rowM rfl _ _ (by rfl) w.heap.size _ 0 [] (by rfl) (own_empty wo w.heap.size hz3) A n c (v3 xs) (by rfl) (marksNil0 HX.out) (len_v3 HX.out) (marksNewsX (HX.out.below ((Below.refl _ _).alloc (Nat.le_refl _) _))) (v3_one _) n (Nat.zero_add _) (v3 xs) (List.nil_append _) (by omega) (by simp; omega) ?_
                         intro A3 c3 w4 hown3 hgrow3 hat3
                         have hb4 := ((Below.refl wo.heap.size wo).alloc (Nat.le_refl _) _).grown hgrow3 (by simp) (fun k hk => by have h5 : wo.heap.size = k := Option.some.inj hk; omega)
                         have HB4 := Lib.hid (HB.out.trans (hb4.mono hz3))
                         have HO4 := Lib.hid hown3
                         have hz4 := HB4.out.size
                         clear hown3 hgrow3 hat3 hb4)
                      | (at_builtin; refine wpl_appX rowM rfl _ _ (by rfl) w.heap.size _ n (v3 xs) (by rfl) (HO4.out.alloc _) (some ⟨w4.heap.size, 0, none⟩) 1 1 (v3 [(3, 0, q)]) (by rfl) (fun e => by cases e) rfl (fun ad e => by cases e; exact cell3_at (by simp) _ _) (v3_one _) (n + 1) rfl (v3 (xs ++ [(3, 0, q)])) (v3_append _ _).symm (by omega) (by simp; omega) ?_
                         intro A6 c6 w6 hown6 hgrow6 hat6
                         have HB6 := Lib.hid ((HB4.out.alloc hz4 _).grown hgrow6 (by simp; omega) (fun k hk => (HO4.out.lt k hk).1))
                         have HO6 := Lib.hid hown6
                         clear hown6 hgrow6 hat6)
                      | fail)
                    go_wp2
                    go_roundw
                    case rel =>
                      have hl : (xs ++ [((3 : Int), (0 : Int), q)]).length = n + 1 := by rw [List.length_append, HLN.out]; rfl
                      refine ⟨A6, c6, xs ++ [(3, 0, q)], -1, by rw [hl], rfl, by rw [hl]; exact HO6.out, ?_, HB6.out⟩
                      · refine .inr ⟨rfl, by rw [hl]; omega, [], s.data.toList.drop j2, HK.out _ _ _ ?_⟩
                        rw [HDR.out, HC.out]
                        exact RI.tWmore hnum.out (RI.fail _ _ _ _ _)
                    case measure =>
                      simp only [intOf]
                      rw [mz_pos, mz_neg]; omega
                · have hq : (b == 60) = false := by simpa using hc
                  have HNE := Lib.hid (show (s.data.toList.drop j).head? ≠ some 60 from by rw [HHD.out]; exact fun e => hc (HU.out.2 (Option.some.inj e)))
                  clear hc
                  go_wp2
                  refine bodyPost_ret (v := .tuple #[.slice A n c, .int .i64 (j : Int)]) (by simp [results, Tryd.results56, go_sem]) rfl ⟨A, c, xs, (j : Int), by rw [HLN.out], by rw [HLN.out]; exact HO.out, .inl ⟨j, rfl, by rw [HLN.out]; exact ⟨b0, b1, b2, b3⟩, HK.out _ _ _ (RI.tWstop HNE.out)⟩, HB.out⟩
              · have hd : decide ((j : Int) < (s.size : Int)) = false := by simpa using hlt
                have HNE := Lib.hid (head_none hlt 60)
                go_wp2
                refine bodyPost_ret (v := .tuple #[.slice A n c, .int .i64 (j : Int)]) (by simp [results, Tryd.results56, go_sem]) rfl ⟨A, c, xs, (j : Int), by rw [HLN.out], by rw [HLN.out]; exact HO.out, .inl ⟨j, rfl, by rw [HLN.out]; exact ⟨b0, b1, b2, b3⟩, HK.out _ _ _ (RI.tWstop HNE.out)⟩, HB.out⟩
      · have hq1 : (b1 == 45) = false := by simpa using hc1
        have HFT := Lib.hid (show FarT .within .tW s i0 [(0, lo, lo)] (j0 : Int) from .inl ⟨j0, rfl, by simp; omega, fun ys l' f' h => RI.step (g2 := true) (hi := lo) HNE0.out hnum0.out (fun _ => ⟨fun r e => absurd (by rw [HDR1.out] at e; exact HU1.out.2 (List.cons.inj e).1) hc1, fun _ => ⟨rfl, rfl, rfl⟩⟩) h⟩)
        have HOS := Lib.hid (own_second w lo lo)
        have HBS := Lib.hid (show Below w.heap.size w ((w.alloc (.cells #[] 54)).alloc (.cells #[.int .i64 0, .int .i64 lo, .int .i64 lo] 54)) from HA.out.alloc (by simp) _)
        clear hc1
        go_wp2_with (fail)
        go_loopw [6, 7] (fun o v wr => ∃ (A : Option Addr) (c : Nat) (xs : List Mk) (z : Int), o = .slice A xs.length c ∧ v = .int .i64 z ∧ OwnM wr w.heap.size A xs.length c xs ∧ FarT .within .tW s i0 xs z ∧ Below w.heap.size w wr) (fun _ v _ => mz s (intOf v))
        case atStart => exact ⟨_, 1, [(0, lo, lo)], (j0 : Int), rfl, rfl, HOS.out, HFT.out, HBS.out⟩
        case round =>
          skip
          obtain ⟨wo, rfl⟩ : ∃ wo : World, wo = wr := ⟨_, rfl⟩
          obtain ⟨A, c, xs, z, rfl, rfl, hown, hfar, hb⟩ := hrel
          have HO := Lib.hid hown
          have HB := Lib.hid hb
          clear hown hb
          obtain ⟨n, HLN⟩ : ∃ q, Hid (xs.length = q) := ⟨_, rfl⟩
          rcases hfar with ⟨j, rfl, hbd, hk⟩ | ⟨rfl, hbd, hfl⟩
          rotate_left
          · have HFL := Lib.hid hfl
            rw [HLN.out] at HO hbd ⊢
            clear hfl
            go_wp2
            refine bodyPost_ret (v := .tuple #[.slice A n c, .int .i64 (-1)]) (by simp [results, Tryd.results56, go_sem]) rfl ⟨A, c, xs, -1, by rw [HLN.out], by rw [HLN.out]; exact HO.out, .inr ⟨rfl, by rw [HLN.out]; exact hbd, HFL.out⟩, HB.out⟩
          · obtain ⟨b0, b1, b2, b3⟩ := hbd
            have HK := Lib.hid hk
            rw [HLN.out] at HO b2 b3 ⊢
            clear hk
            by_cases hlt : j < s.size
            · have hidx := run_at (Pr := Tryd.prog) 9 s j hlt Tryd.underlying9
              have HDR := Lib.hid (drop_bt hlt)
              have HHD := Lib.hid (head_bt hlt)
              have HU := Lib.hid (u8_eq (a := btA s j) (b := 60))
              have hjI : (j : Int) < (s.size : Int) := by omega
              obtain ⟨b, HBB⟩ : ∃ x, Hid (((btA s j).toNat : Int) = x) := ⟨_, rfl⟩
              rw [HBB.out] at HU hidx
              by_cases hc : b = 60
              · have hq : (b == 60) = true := by simpa using hc
                have HC := Lib.hid (show btA s j = 60 from HU.out.1 hc)
                clear hc
                have HX := Lib.hid (OwnM.at_ HO.out)
                have hz3 := HB.out.size
                go_wp2_with (fail)
                refine kNs (l11Number_any1 s j _ hs (by omega)) ?_ ?_
                · intro q j2 e0 e1 hnum
                  go_wp2_with (first
                    | (at_builtin; refine wpl_appX rowM rfl _ _ (by rfl) w.heap.size _ 0 [] (by rfl) (own_empty wo w.heap.size hz3) A n c (v3 xs) (by rfl) (marksNil0 HX.out) (len_v3 HX.out) (marksNewsX (HX.out.below ((Below.refl _ _).alloc (Nat.le_refl _) _))) (v3_one _) n (Nat.zero_add _) (v3 xs) (List.nil_append _) (by omega) (by simp; omega) ?_
                       intro A3 c3 w4 hown3 hgrow3 hat3
                       have hb4 := ((Below.refl wo.heap.size wo).alloc (Nat.le_refl _) _).grown hgrow3 (by simp) (fun k hk => by have h5 : wo.heap.size = k := Option.some.inj hk; omega)
                       have HB4 := Lib.hid (HB.out.trans (hb4.mono hz3))
                       have HO4 := Lib.hid hown3
                       have hz4 := HB4.out.size
                       clear hown3 hgrow3 hat3 hb4)
                    | (at_builtin; refine wpl_appX rowM rfl _ _ (by rfl) w.heap.size _ n (v3 xs) (by rfl) (HO4.out.alloc _) (some ⟨w4.heap.size, 0, none⟩) 1 1 (v3 [(3, 0, q)]) (by rfl) (fun e => by cases e) rfl (fun ad e => by cases e; exact cell3_at (by simp) _ _) (v3_one _) (n + 1) rfl (v3 (xs ++ [(3, 0, q)])) (v3_append _ _).symm (by omega) (by simp; omega) ?_
                       intro A6 c6 w6 hown6 hgrow6 hat6
                       have HB6 := Lib.hid ((HB4.out.alloc hz4 _).grown hgrow6 (by simp; omega) (fun k hk => (HO4.out.lt k hk).1))
                       have HO6 := Lib.hid hown6
                       clear hown6 hgrow6 hat6)
                    | fail)
                  go_wp2
                  go_roundw
                  case rel =>
                    have hl : (xs ++ [((3 : Int), (0 : Int), q)]).length = n + 1 := by rw [List.length_append, HLN.out]; rfl
                    refine ⟨A6, c6, xs ++ [(3, 0, q)], (j2 : Int), by rw [hl], rfl, by rw [hl]; exact HO6.out, ?_, HB6.out⟩
                    · refine .inl ⟨j2, rfl, by rw [hl]; omega, fun zs l' f' h => HK.out _ _ _ ?_⟩
                      rw [HDR.out, HC.out]
                      exact RI.tWmore hnum.out h
                  case measure =>
                    simp only [intOf]
                    rw [mz_pos, mz_pos]; omega
                · intro q j2 e0 e1 hnum
                  go_wp2_with (first
                    | (at_builtin; refine wpl_appX rowM rfl _ _ (by rfl) w.heap.size _ 0 [] (by rfl) (own_empty wo w.heap.size hz3) A n c (v3 xs) (by rfl) (marksNil0 HX.out) (len_v3 HX.out) (marksNewsX (HX.out.below ((Below.refl _ _).alloc (Nat.le_refl _) _))) (v3_one _) n (Nat.zero_add _) (v3 xs) (List.nil_append _) (by omega) (by simp; omega) ?_
                       intro A3 c3 w4 hown3 hgrow3 hat3
                       have hb4 := ((Below.refl wo.heap.size wo).alloc (Nat.le_refl _) _).grown hgrow3 (by simp) (fun k hk => by have h5 : wo.heap.size = k := Option.some.inj hk; omega)
                       have HB4 := Lib.hid (HB.out.trans (hb4.mono hz3))
                       have HO4 := Lib.hid hown3
                       have hz4 := HB4.out.size
                       clear hown3 hgrow3 hat3 hb4)
                    | (at_builtin; refine wpl_appX rowM rfl _ _ (by rfl) w.heap.size _ n (v3 xs) (by rfl) (HO4.out.alloc _) (some ⟨w4.heap.size, 0, none⟩) 1 1 (v3 [(3, 0, q)]) (by rfl) (fun e => by cases e) rfl (fun ad e => by cases e; exact cell3_at (by simp) _ _) (v3_one _) (n + 1) rfl (v3 (xs ++ [(3, 0, q)])) (v3_append _ _).symm (by omega) (by simp; omega) ?_
                       intro A6 c6 w6 hown6 hgrow6 hat6
                       have HB6 := Lib.hid ((HB4.out.alloc hz4 _).grown hgrow6 (by simp; omega) (fun k hk => (HO4.out.lt k hk).1))
                       have HO6 := Lib.hid hown6
                       clear hown6 hgrow6 hat6)
                    | fail)
                  go_wp2
                  go_roundw
                  case rel =>
                    have hl : (xs ++ [((3 : Int), (0 : Int), q)]).length = n + 1 := by rw [List.length_append, HLN.out]; rfl
                    refine ⟨A6, c6, xs ++ [(3, 0, q)], -1, by rw [hl], rfl, by rw [hl]; exact HO6.out, ?_, HB6.out⟩
                    · refine .inr ⟨rfl, by rw [hl]; omega, [], s.data.toList.drop j2, HK.out _ _ _ ?_⟩
                      rw [HDR.out, HC.out]
                      exact RI.tWmore hnum.out (RI.fail _ _ _ _ _)
                  case measure =>
                    simp only [intOf]
                    rw [mz_pos, mz_neg]; omega
              · have hq : (b == 60) = false := by simpa using hc
                have HNE := Lib.hid (show (s.data.toList.drop j).head? ≠ some 60 from by rw [HHD.out]; exact fun e => hc (HU.out.2 (Option.some.inj e)))
                clear hc
                go_wp2
                refine bodyPost_ret (v := .tuple #[.slice A n c, .int .i64 (j : Int)]) (by simp [results, Tryd.results56, go_sem]) rfl ⟨A, c, xs, (j : Int), by rw [HLN.out], by rw [HLN.out]; exact HO.out, .inl ⟨j, rfl, by rw [HLN.out]; exact ⟨b0, b1, b2, b3⟩, HK.out _ _ _ (RI.tWstop HNE.out)⟩, HB.out⟩
            · have hd : decide ((j : Int) < (s.size : Int)) = false := by simpa using hlt
              have HNE := Lib.hid (head_none hlt 60)
              go_wp2
              refine bodyPost_ret (v := .tuple #[.slice A n c, .int .i64 (j : Int)]) (by simp [results, Tryd.results56, go_sem]) rfl ⟨A, c, xs, (j : Int), by rw [HLN.out], by rw [HLN.out]; exact HO.out, .inl ⟨j, rfl, by rw [HLN.out]; exact ⟨b0, b1, b2, b3⟩, HK.out _ _ _ (RI.tWstop HNE.out)⟩, HB.out⟩

theorem sreader_all (N : Nat) : SAt .thens 29 N := by
  induction N with
  | zero => exact fun s i w h1 h2 h3 => absurd h3 (Nat.not_lt_zero _)
  | succ N ih => exact l11Then_of _ (l11Both_of _ (l11Atom_of N ih))

end Go.Proofs.YtcmicmenkbgfmaaDoor
