/- spec.l11Both and l11Then: from the level below. -/
import Derived.Test.YtcmicmenkbgfmaaDoorRS2
import Derived.Test.YtcmicmenkbgfmaaDoorOA
import Derived.Test.YtcmicmenkbgfmaaDoorM9
set_option linter.unusedSimpArgs false
namespace Go.Proofs.YtcmicmenkbgfmaaDoor
open Go.RowKit

theorem marksNil0 {w : World} {A : Option Addr} {n : Nat} {xs : List Mk} (h : MarksAt w A n xs) (e : A = none) : n = 0 := by
  rcases Nat.eq_zero_or_pos n with h0 | h0
  · exact h0
  · obtain ⟨b, off, e2, _⟩ := h.cells h0
    rw [e] at e2; cases e2
theorem marksNewsX {w : World} {A : Option Addr} {n : Nat} {xs : List Mk} (h : MarksAt w A n xs) : ∀ ad, A = some ad → ∀ j u, (v3 xs)[j]? = some u → w.cell? (ad.add j) = some u := by
  intro ad e j u hu
  rcases Nat.eq_zero_or_pos n with h0 | h0
  · have hl := h.len
    rw [h0] at hl
    obtain rfl := List.eq_nil_of_length_eq_zero hl
    cases hu
  · obtain ⟨b, off, e2, _⟩ := h.cells h0
    rw [e] at e2
    cases e2
    subst e
    exact h.news j u hu
theorem len_v3 {w : World} {A : Option Addr} {n : Nat} {xs : List Mk} (h : MarksAt w A n xs) : (v3 xs).length = n * 3 := by rw [v3_len, h.len]

/-- How far a reading call has come: a place, or -1. -/
def Far (K : Lv) (s : ByteArray) (i : Nat) (xs : List Mk) (z : Int) : Prop :=
  (∃ j : Nat, z = (j : Int) ∧ (i ≤ j ∧ j ≤ s.size ∧ 1 ≤ xs.length ∧ xs.length ≤ 2 * (j - i) + 1) ∧ RI K [] (s.data.toList.drop i) true xs (s.data.toList.drop j) true) ∨
  (z = -1 ∧ xs.length ≤ 2 * (s.size - i) + 1 ∧ ∃ a l, RI K [] (s.data.toList.drop i) true a l false)
/-- What a reading call leaves. -/
def SV (K : Lv) (s : ByteArray) (i : Nat) (w : World) (e : Ending) (w' : World) : Prop :=
  ∃ (A : Option Addr) (c : Nat) (xs : List Mk) (z : Int), e = .returned (.tuple #[.slice A xs.length c, .int .i64 z]) ∧ OwnM w' w.heap.size A xs.length c xs ∧ Far K s i xs z ∧ Below w.heap.size w w'
theorem kSV {Pr : Program} {fn : FuncId} {args : Array Value} {w : World} {Q : Ending → World → Prop} {K : Lv} {s : ByteArray} {i : Nat} (h : Calls Pr fn args w (SV K s i w))
    (h1 : ∀ A c xs z w', OwnM w' w.heap.size A xs.length c xs → Hid (Far K s i xs z) → Below w.heap.size w w' → Q (.returned (.tuple #[.slice A xs.length c, .int .i64 z])) w') : Calls Pr fn args w Q :=
  h.mono fun e w' ⟨A, c, xs, z, he, h2, h3, h4⟩ => by subst he; exact h1 A c xs z w' h2 (Lib.hid h3) h4
def SAt (K : Lv) (fn : FuncId) (N : Nat) : Prop := ∀ (s : ByteArray) (i : Nat) (w : World), s.size ≤ 120 → i ≤ s.size → s.size - i < N → Calls Tryd.prog fn #[.string s, .int .i64 (i : Int)] w (SV K s i w)
theorem SAt.go {K : Lv} {fn : FuncId} {N : Nat} (h : SAt K fn N) (s : ByteArray) (i : Nat) (w : World) (h1 : s.size ≤ 120) (h2 : i ≤ s.size) (h3 : s.size - i < N) : Calls Tryd.prog fn #[.string s, .int .i64 (i : Int)] w (SV K s i w) := h s i w h1 h2 h3
theorem SAt.go1 {K : Lv} {fn : FuncId} {N : Nat} (h : SAt K fn N) (s : ByteArray) (i : Nat) (w : World) (h1 : s.size ≤ 120) (h2 : i + 1 ≤ s.size) (h3 : s.size - (i + 1) < N) : Calls Tryd.prog fn #[.string s, .int .i64 ((i : Int) + 1)] w (SV K s (i + 1) w) := h s (i + 1) w h1 h2 h3
/-- How far a loop has come that reads what follows. -/
def FarT (K T : Lv) (s : ByteArray) (i : Nat) (xs : List Mk) (z : Int) : Prop :=
  (∃ j : Nat, z = (j : Int) ∧ (i ≤ j ∧ j ≤ s.size ∧ 1 ≤ xs.length ∧ xs.length ≤ 2 * (j - i) + 1) ∧ ∀ ys l' f', RI T xs (s.data.toList.drop j) true ys l' f' → RI K [] (s.data.toList.drop i) true ys l' f') ∨
  (z = -1 ∧ xs.length ≤ 2 * (s.size - i) + 1 ∧ ∃ a l, RI K [] (s.data.toList.drop i) true a l false)
def mz (s : ByteArray) (z : Int) : Nat := if 0 ≤ z then s.size + 1 - z.toNat else 0
theorem mz_pos (s : ByteArray) (j : Nat) : mz s (j : Int) = s.size + 1 - j := by unfold mz; rw [if_pos (by omega), Int.toNat_natCast]
theorem mz_neg (s : ByteArray) : mz s (-1) = 0 := rfl
theorem own_empty (w : World) (base : Nat) (h : base ≤ w.heap.size) : OwnM (w.alloc (.cells #[] 54)) base (some ⟨w.heap.size, 0, none⟩) 0 0 [] := own_lit w base 54 3 #[] 0 h (by decide) rfl

set_option maxRecDepth 100000 in
set_option maxHeartbeats 4000000 in
theorem l11Both_of (N : Nat) (hW : SAt .within 56 N) : SAt .boths 48 N := by
  intro s i0 w hs hi0 hN
  have HW := Lib.hid hW
  clear hW
  go_enter Tryd.func48, Tryd.ntmps48
  go_wp2_with (fail)
  refine kSV (HW.out.go s i0 _ hs hi0 hN) ?_
  intro A0 c0 xs0 z0 w1 hown0 hfar0 hb0
  have HO0 := Lib.hid hown0
  have HB0 := Lib.hid hb0
  clear hown0 hb0
  go_wp2_with (fail)
  go_loopw [6, 7] (fun o v wr => ∃ (A : Option Addr) (c : Nat) (xs : List Mk) (z : Int), o = .slice A xs.length c ∧ v = .int .i64 z ∧ OwnM wr w.heap.size A xs.length c xs ∧ FarT .boths .tB s i0 xs z ∧ Below w.heap.size w wr) (fun _ v _ => mz s (intOf v))
  case atStart =>
    refine ⟨A0, c0, xs0, z0, rfl, rfl, HO0.out, ?_, HB0.out⟩
    rcases hfar0.out with ⟨j, hz, h2, h3⟩ | ⟨hz, h2, a, l, h3⟩
    · exact .inl ⟨j, hz, h2, fun ys l' f' h => RI.boths h3 h⟩
    · exact .inr ⟨hz, h2, [], l, RI.boths h3 (RI.fail _ _ _ _ _)⟩
  case round =>
    clear hfar0 HO0 HB0
    obtain ⟨wo, rfl⟩ : ∃ wo : World, wo = wr := ⟨_, rfl⟩
    obtain ⟨A, c, xs, z, rfl, rfl, hown, hfar, hb⟩ := hrel
    have HO := Lib.hid hown
    have HB := Lib.hid hb
    clear hown hb
    obtain ⟨n, HLN⟩ : ∃ q, Hid (xs.length = q) := ⟨_, rfl⟩
    rcases hfar with ⟨j, rfl, hbd, hk⟩ | ⟨rfl, hbd, hfl⟩
    rotate_left
    · have HFL := Lib.hid hfl
      rw [HLN.out] at HO hbd ⊢
      clear hfl
      go_wp2
      refine bodyPost_ret (v := .tuple #[.slice A n c, .int .i64 (-1)]) (by simp [results, Tryd.results48, go_sem]) rfl ⟨A, c, xs, -1, by rw [HLN.out], by rw [HLN.out]; exact HO.out, .inr ⟨rfl, by rw [HLN.out]; exact hbd, HFL.out⟩, HB.out⟩
    · obtain ⟨b0, b1, b2, b3⟩ := hbd
      have HK := Lib.hid hk
      rw [HLN.out] at HO b2 b3 ⊢
      clear hk
      by_cases hlt : j < s.size
      · have hidx := run_at (Pr := Tryd.prog) 9 s j hlt Tryd.underlying9
        have HDR := Lib.hid (drop_bt hlt)
        have HHD := Lib.hid (head_bt hlt)
        have HU := Lib.hid (u8_eq (a := btA s j) (b := 38))
        have hjI : (j : Int) < (s.size : Int) := by omega
        obtain ⟨b, HBB⟩ : ∃ x, Hid (((btA s j).toNat : Int) = x) := ⟨_, rfl⟩
        rw [HBB.out] at HU hidx
        by_cases hc : b = 38
        · have hq : (b == 38) = true := by simpa using hc
          have HC := Lib.hid (show btA s j = 38 from HU.out.1 hc)
          clear hc
          have hj1 : 0 ≤ (j : Int) + 1 := by omega
          go_wp2_with (fail)
          refine kSV (HW.out.go1 s j _ hs (by omega) (by omega)) ?_
          intro A2 c2 ys z2 w3 hown2 hfar2 hb2
          have HB3 := Lib.hid (HB.out.trans (hb2.mono HB.out.size))
          have HX := Lib.hid ((OwnM.at_ HO.out).below hb2)
          have HY := Lib.hid (OwnM.at_ hown2)
          have hz3 := HB3.out.size
          have hyl : ys.length ≤ 241 := by rcases hfar2.out with ⟨q, _, h2, _⟩ | ⟨_, h2, _⟩ <;> omega
          have HF2 := Lib.hid hfar2.out
          clear hown2 hb2 hfar2
          obtain ⟨m, HLM⟩ : ∃ q, Hid (ys.length = q) := ⟨_, rfl⟩
          rw [HLM.out] at HY hyl ⊢
          go_wp2_with (first
            | (at_builtin; refine wpl_appX rowM rfl _ _ (by rfl) w.heap.size _ 0 [] (by rfl) (own_empty w3 w.heap.size hz3) A n c (v3 xs) (by rfl) (marksNil0 HX.out) (len_v3 HX.out) (marksNewsX (HX.out.below ((Below.refl _ _).alloc (Nat.le_refl _) _))) (v3_one _) n (Nat.zero_add _) (v3 xs) (List.nil_append _) (by omega) (by simp; omega) ?_
               intro A3 c3 w4 hown3 hgrow3 hat3
               have hb4 := ((Below.refl w3.heap.size w3).alloc (Nat.le_refl _) _).grown hgrow3 (by simp) (fun k hk => by have h5 : w3.heap.size = k := Option.some.inj hk; omega)
               have HB4 := Lib.hid (HB3.out.trans (hb4.mono hz3))
               have HO4 := Lib.hid hown3
               have HY4 := Lib.hid (HY.out.below hb4)
               have hz4 := HB4.out.size
               clear hown3 hgrow3 hat3 hb4)
            | (at_builtin; refine wpl_appX rowM rfl _ _ (by rfl) w.heap.size _ n (v3 xs) (by rfl) HO4.out A2 m c2 (v3 ys) (by rfl) (marksNil0 HY4.out) (len_v3 HY4.out) (marksNewsX HY4.out) (v3_one _) (n + m) rfl (v3 (xs ++ ys)) (v3_append _ _).symm (by omega) hz4 ?_
               intro A5 c5 w5 hown5 hgrow5 hat5
               have HB5 := Lib.hid (HB4.out.grown hgrow5 hz4 (fun k hk => (HO4.out.lt k hk).1))
               have HO5 := Lib.hid hown5
               have hz5 := HB5.out.size
               clear hown5 hgrow5 hat5)
            | (at_builtin; refine wpl_appX rowM rfl _ _ (by rfl) w.heap.size _ (n + m) (v3 (xs ++ ys)) (by rfl) (HO5.out.alloc _) (some ⟨w5.heap.size, 0, none⟩) 1 1 (v3 [(2, 0, 0)]) (by rfl) (fun e => by cases e) rfl (fun ad e => by cases e; exact cell3_at (by simp) _ _) (v3_one _) (n + m + 1) rfl (v3 (xs ++ ys ++ [(2, 0, 0)])) (v3_append _ _).symm (by omega) (by simp; omega) ?_
               intro A6 c6 w6 hown6 hgrow6 hat6
               have HB6 := Lib.hid ((HB5.out.alloc hz5 _).grown hgrow6 (by simp; omega) (fun k hk => (HO5.out.lt k hk).1))
               have HO6 := Lib.hid hown6
               clear hown6 hgrow6 hat6)
            | fail)
          go_wp2
          go_roundw
          case rel =>
            have hl : (xs ++ ys ++ [((2 : Int), (0 : Int), (0 : Int))]).length = n + m + 1 := by rw [List.length_append, List.length_append, HLN.out, HLM.out]; rfl
            refine ⟨A6, c6, xs ++ ys ++ [(2, 0, 0)], z2, by rw [hl], rfl, by rw [hl]; exact HO6.out, ?_, HB6.out⟩
            rcases HF2.out with ⟨q, hz, h2, h3⟩ | ⟨hz, h2, a, l, h3⟩
            · refine .inl ⟨q, hz, by rw [hl]; rw [HLM.out] at h2; omega, fun zs l' f' h => HK.out _ _ _ ?_⟩
              rw [HDR.out, HC.out]
              exact RI.tBmore h3 h
            · refine .inr ⟨hz, by rw [hl]; rw [HLM.out] at h2; omega, [], l, HK.out _ _ _ ?_⟩
              rw [HDR.out, HC.out]
              exact RI.tBmore h3 (RI.fail _ _ _ _ _)
          case measure =>
            simp only [intOf]
            rw [mz_pos]
            rcases HF2.out with ⟨q, hz, h2, h3⟩ | ⟨hz, h2, a, l, h3⟩
            · rw [hz, mz_pos]; omega
            · rw [hz, mz_neg]; omega
        · have hq : (b == 38) = false := by simpa using hc
          have HNE := Lib.hid (show (s.data.toList.drop j).head? ≠ some 38 from by rw [HHD.out]; exact fun e => hc (HU.out.2 (Option.some.inj e)))
          clear hc
          go_wp2
          refine bodyPost_ret (v := .tuple #[.slice A n c, .int .i64 (j : Int)]) (by simp [results, Tryd.results48, go_sem]) rfl ⟨A, c, xs, (j : Int), by rw [HLN.out], by rw [HLN.out]; exact HO.out, .inl ⟨j, rfl, by rw [HLN.out]; exact ⟨b0, b1, b2, b3⟩, HK.out _ _ _ (RI.tBstop HNE.out)⟩, HB.out⟩
      · have hd : decide ((j : Int) < (s.size : Int)) = false := by simpa using hlt
        have HNE := Lib.hid (head_none hlt 38)
        go_wp2
        refine bodyPost_ret (v := .tuple #[.slice A n c, .int .i64 (j : Int)]) (by simp [results, Tryd.results48, go_sem]) rfl ⟨A, c, xs, (j : Int), by rw [HLN.out], by rw [HLN.out]; exact HO.out, .inl ⟨j, rfl, by rw [HLN.out]; exact ⟨b0, b1, b2, b3⟩, HK.out _ _ _ (RI.tBstop HNE.out)⟩, HB.out⟩

set_option maxRecDepth 100000 in
set_option maxHeartbeats 4000000 in
theorem l11Then_of (N : Nat) (hW : SAt .boths 48 N) : SAt .thens 29 N := by
  intro s i0 w hs hi0 hN
  have HW := Lib.hid hW
  clear hW
  go_enter Tryd.func29, Tryd.ntmps29
  go_wp2_with (fail)
  refine kSV (HW.out.go s i0 _ hs hi0 hN) ?_
  intro A0 c0 xs0 z0 w1 hown0 hfar0 hb0
  have HO0 := Lib.hid hown0
  have HB0 := Lib.hid hb0
  clear hown0 hb0
  go_wp2_with (fail)
  go_loopw [6, 7] (fun o v wr => ∃ (A : Option Addr) (c : Nat) (xs : List Mk) (z : Int), o = .slice A xs.length c ∧ v = .int .i64 z ∧ OwnM wr w.heap.size A xs.length c xs ∧ FarT .thens .tT s i0 xs z ∧ Below w.heap.size w wr) (fun _ v _ => mz s (intOf v))
  case atStart =>
    refine ⟨A0, c0, xs0, z0, rfl, rfl, HO0.out, ?_, HB0.out⟩
    rcases hfar0.out with ⟨j, hz, h2, h3⟩ | ⟨hz, h2, a, l, h3⟩
    · exact .inl ⟨j, hz, h2, fun ys l' f' h => RI.thens h3 h⟩
    · exact .inr ⟨hz, h2, [], l, RI.thens h3 (RI.fail _ _ _ _ _)⟩
  case round =>
    clear hfar0 HO0 HB0
    obtain ⟨wo, rfl⟩ : ∃ wo : World, wo = wr := ⟨_, rfl⟩
    obtain ⟨A, c, xs, z, rfl, rfl, hown, hfar, hb⟩ := hrel
    have HO := Lib.hid hown
    have HB := Lib.hid hb
    clear hown hb
    obtain ⟨n, HLN⟩ : ∃ q, Hid (xs.length = q) := ⟨_, rfl⟩
    rcases hfar with ⟨j, rfl, hbd, hk⟩ | ⟨rfl, hbd, hfl⟩
    rotate_left
    · have HFL := Lib.hid hfl
      rw [HLN.out] at HO hbd ⊢
      clear hfl
      go_wp2
      refine bodyPost_ret (v := .tuple #[.slice A n c, .int .i64 (-1)]) (by simp [results, Tryd.results29, go_sem]) rfl ⟨A, c, xs, -1, by rw [HLN.out], by rw [HLN.out]; exact HO.out, .inr ⟨rfl, by rw [HLN.out]; exact hbd, HFL.out⟩, HB.out⟩
    · obtain ⟨b0, b1, b2, b3⟩ := hbd
      have HK := Lib.hid hk
      rw [HLN.out] at HO b2 b3 ⊢
      clear hk
      by_cases hlt : j < s.size
      · have hidx := run_at (Pr := Tryd.prog) 9 s j hlt Tryd.underlying9
        have HDR := Lib.hid (drop_bt hlt)
        have HHD := Lib.hid (head_bt hlt)
        have HU := Lib.hid (u8_eq (a := btA s j) (b := 59))
        have hjI : (j : Int) < (s.size : Int) := by omega
        obtain ⟨b, HBB⟩ : ∃ x, Hid (((btA s j).toNat : Int) = x) := ⟨_, rfl⟩
        rw [HBB.out] at HU hidx
        by_cases hc : b = 59
        · have hq : (b == 59) = true := by simpa using hc
          have HC := Lib.hid (show btA s j = 59 from HU.out.1 hc)
          clear hc
          have hj1 : 0 ≤ (j : Int) + 1 := by omega
          go_wp2_with (fail)
          refine kSV (HW.out.go1 s j _ hs (by omega) (by omega)) ?_
          intro A2 c2 ys z2 w3 hown2 hfar2 hb2
          have HB3 := Lib.hid (HB.out.trans (hb2.mono HB.out.size))
          have HX := Lib.hid ((OwnM.at_ HO.out).below hb2)
          have HY := Lib.hid (OwnM.at_ hown2)
          have hz3 := HB3.out.size
          have hyl : ys.length ≤ 241 := by rcases hfar2.out with ⟨q, _, h2, _⟩ | ⟨_, h2, _⟩ <;> omega
          have HF2 := Lib.hid hfar2.out
          clear hown2 hb2 hfar2
          obtain ⟨m, HLM⟩ : ∃ q, Hid (ys.length = q) := ⟨_, rfl⟩
          rw [HLM.out] at HY hyl ⊢
          go_wp2_with (first
            | (at_builtin; refine wpl_appX rowM rfl _ _ (by rfl) w.heap.size _ 0 [] (by rfl) (own_empty w3 w.heap.size hz3) A n c (v3 xs) (by rfl) (marksNil0 HX.out) (len_v3 HX.out) (marksNewsX (HX.out.below ((Below.refl _ _).alloc (Nat.le_refl _) _))) (v3_one _) n (Nat.zero_add _) (v3 xs) (List.nil_append _) (by omega) (by simp; omega) ?_
               intro A3 c3 w4 hown3 hgrow3 hat3
               have hb4 := ((Below.refl w3.heap.size w3).alloc (Nat.le_refl _) _).grown hgrow3 (by simp) (fun k hk => by have h5 : w3.heap.size = k := Option.some.inj hk; omega)
               have HB4 := Lib.hid (HB3.out.trans (hb4.mono hz3))
               have HO4 := Lib.hid hown3
               have HY4 := Lib.hid (HY.out.below hb4)
               have hz4 := HB4.out.size
               clear hown3 hgrow3 hat3 hb4)
            | (at_builtin; refine wpl_appX rowM rfl _ _ (by rfl) w.heap.size _ n (v3 xs) (by rfl) HO4.out A2 m c2 (v3 ys) (by rfl) (marksNil0 HY4.out) (len_v3 HY4.out) (marksNewsX HY4.out) (v3_one _) (n + m) rfl (v3 (xs ++ ys)) (v3_append _ _).symm (by omega) hz4 ?_
               intro A5 c5 w5 hown5 hgrow5 hat5
               have HB5 := Lib.hid (HB4.out.grown hgrow5 hz4 (fun k hk => (HO4.out.lt k hk).1))
               have HO5 := Lib.hid hown5
               have hz5 := HB5.out.size
               clear hown5 hgrow5 hat5)
            | (at_builtin; refine wpl_appX rowM rfl _ _ (by rfl) w.heap.size _ (n + m) (v3 (xs ++ ys)) (by rfl) (HO5.out.alloc _) (some ⟨w5.heap.size, 0, none⟩) 1 1 (v3 [(1, 0, 0)]) (by rfl) (fun e => by cases e) rfl (fun ad e => by cases e; exact cell3_at (by simp) _ _) (v3_one _) (n + m + 1) rfl (v3 (xs ++ ys ++ [(1, 0, 0)])) (v3_append _ _).symm (by omega) (by simp; omega) ?_
               intro A6 c6 w6 hown6 hgrow6 hat6
               have HB6 := Lib.hid ((HB5.out.alloc hz5 _).grown hgrow6 (by simp; omega) (fun k hk => (HO5.out.lt k hk).1))
               have HO6 := Lib.hid hown6
               clear hown6 hgrow6 hat6)
            | fail)
          go_wp2
          go_roundw
          case rel =>
            have hl : (xs ++ ys ++ [((1 : Int), (0 : Int), (0 : Int))]).length = n + m + 1 := by rw [List.length_append, List.length_append, HLN.out, HLM.out]; rfl
            refine ⟨A6, c6, xs ++ ys ++ [(1, 0, 0)], z2, by rw [hl], rfl, by rw [hl]; exact HO6.out, ?_, HB6.out⟩
            rcases HF2.out with ⟨q, hz, h2, h3⟩ | ⟨hz, h2, a, l, h3⟩
            · refine .inl ⟨q, hz, by rw [hl]; rw [HLM.out] at h2; omega, fun zs l' f' h => HK.out _ _ _ ?_⟩
              rw [HDR.out, HC.out]
              exact RI.tTmore h3 h
            · refine .inr ⟨hz, by rw [hl]; rw [HLM.out] at h2; omega, [], l, HK.out _ _ _ ?_⟩
              rw [HDR.out, HC.out]
              exact RI.tTmore h3 (RI.fail _ _ _ _ _)
          case measure =>
            simp only [intOf]
            rw [mz_pos]
            rcases HF2.out with ⟨q, hz, h2, h3⟩ | ⟨hz, h2, a, l, h3⟩
            · rw [hz, mz_pos]; omega
            · rw [hz, mz_neg]; omega
        · have hq : (b == 59) = false := by simpa using hc
          have HNE := Lib.hid (show (s.data.toList.drop j).head? ≠ some 59 from by rw [HHD.out]; exact fun e => hc (HU.out.2 (Option.some.inj e)))
          clear hc
          go_wp2
          refine bodyPost_ret (v := .tuple #[.slice A n c, .int .i64 (j : Int)]) (by simp [results, Tryd.results29, go_sem]) rfl ⟨A, c, xs, (j : Int), by rw [HLN.out], by rw [HLN.out]; exact HO.out, .inl ⟨j, rfl, by rw [HLN.out]; exact ⟨b0, b1, b2, b3⟩, HK.out _ _ _ (RI.tTstop HNE.out)⟩, HB.out⟩
      · have hd : decide ((j : Int) < (s.size : Int)) = false := by simpa using hlt
        have HNE := Lib.hid (head_none hlt 59)
        go_wp2
        refine bodyPost_ret (v := .tuple #[.slice A n c, .int .i64 (j : Int)]) (by simp [results, Tryd.results29, go_sem]) rfl ⟨A, c, xs, (j : Int), by rw [HLN.out], by rw [HLN.out]; exact HO.out, .inl ⟨j, rfl, by rw [HLN.out]; exact ⟨b0, b1, b2, b3⟩, HK.out _ _ _ (RI.tTstop HNE.out)⟩, HB.out⟩

end Go.Proofs.YtcmicmenkbgfmaaDoor
