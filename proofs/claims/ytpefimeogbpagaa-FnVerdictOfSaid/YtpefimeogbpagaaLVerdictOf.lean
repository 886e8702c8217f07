/- The walk of FnVerdictOf: for every code the law returns true, and the code is left as it was. -/
import Derived.Test.YtpefimeogbpagaaW14
import Derived.Test.YtpefimeogbpagaaW10
set_option linter.unusedSimpArgs false
namespace Go.Proofs.Ytpefimeogbpagaa
open Go.RowKit

theorem Vd_cases (p : Int) (bs : List Bd) (hs : List Hp) (now : Int) : (¬ SaOk p bs hs now ∧ Vd p bs hs now = -1) ∨ (SaOk p bs hs now ∧ ((¬ Goes p bs now (DsA p.toNat hs) ∧ Vd p bs hs now = 2) ∨ (Goes p bs now (DsA p.toNat hs) ∧ ((Left (DsA p.toNat hs) ∧ Vd p bs hs now = 1) ∨ (¬ Left (DsA p.toNat hs) ∧ Vd p bs hs now = 0))))) := by
  by_cases h : SaOk p bs hs now
  · refine .inr ⟨h, ?_⟩
    by_cases h2 : Goes p bs now (DsA p.toNat hs)
    · refine .inr ⟨h2, ?_⟩
      by_cases h3 : Left (DsA p.toNat hs)
      · exact .inl ⟨h3, Vd_one h h2 h3⟩
      · exact .inr ⟨h3, Vd_zero h h2 h3⟩
    · exact .inl ⟨h2, Vd_two h h2⟩
  · exact .inl ⟨h, Vd_no h⟩
theorem goes_earlier {P : Nat} {bs : List Bd} {now now' : Int} {ds : List Int} (hs : StOk (P : Int) bs now' ds) (h : Goes (P : Int) bs now ds) (hle : now' ≤ now) : Goes (P : Int) bs now' ds := by
  obtain ⟨t, ht⟩ := goal_of h
  exact goes_of hs ⟨ht.1, fun i hi => ⟨fun e => by have := (ht.2 i hi).1 e; omega, (ht.2 i hi).2⟩⟩
theorem SaOk.st {P : Nat} {bs : List Bd} {hs : List Hp} {now : Int} (h : SaOk (P : Int) bs hs now) : StOk (P : Int) bs now (DsA P hs) := DsA_st h.1 h.2
theorem SaOk.now {p : Int} {bs : List Bd} {hs : List Hp} {now : Int} (h : SaOk p bs hs now) : 0 ≤ now ∧ now ≤ 2000 := by
  have h1 := (lastT_bd h.1.1 (Nat.le_refl hs.length)).1
  obtain ⟨h2, h3⟩ := h.2
  exact ⟨by omega, h3⟩
/-- Between two times at which it may be asked, with a state done alike. -/
theorem Vd_two_times {P : Nat} {bs : List Bd} {hs : List Hp} {now now' : Int} (h : SaOk (P : Int) bs hs now) (h' : SaOk (P : Int) bs hs now') (hle : now ≤ now') :
    (Vd (P : Int) bs hs now ≠ 1 → Vd (P : Int) bs hs now' = Vd (P : Int) bs hs now) ∧ (Vd (P : Int) bs hs now' ≠ 2 → Vd (P : Int) bs hs now = Vd (P : Int) bs hs now') := by
  have e : ((P : Nat) : Int).toNat = P := rfl
  have hG : Goes (P : Int) bs now' (DsA P hs) → Goes (P : Int) bs now (DsA P hs) := fun hg => goes_earlier h.st hg hle
  have hD : ¬ Left (DsA P hs) → (Goes (P : Int) bs now' (DsA P hs) ↔ Goes (P : Int) bs now (DsA P hs)) := fun hl => (goes_done h'.st hl).trans (goes_done h.st hl).symm
  have c1 := Vd_cases (P : Int) bs hs now
  have c2 := Vd_cases (P : Int) bs hs now'
  rw [e] at c1 c2
  rcases c1 with ⟨h1, -⟩ | ⟨-, c1⟩
  · exact absurd h h1
  rcases c2 with ⟨h1, -⟩ | ⟨-, c2⟩
  · exact absurd h' h1
  rcases c1 with ⟨g1, v1⟩ | ⟨g1, ⟨l1, v1⟩ | ⟨l1, v1⟩⟩ <;> rcases c2 with ⟨g2, v2⟩ | ⟨g2, ⟨l2, v2⟩ | ⟨l2, v2⟩⟩ <;> rw [v1, v2]
  · exact ⟨fun _ => rfl, fun _ => rfl⟩
  · exact absurd (hG g2) g1
  · exact absurd (hG g2) g1
  · exact ⟨fun hh => absurd rfl hh, fun hh => absurd rfl hh⟩
  · exact ⟨fun _ => rfl, fun _ => rfl⟩
  · exact absurd l1 l2
  · exact absurd ((hD l1).2 g1) g2
  · exact absurd l2 l1
  · exact ⟨fun _ => rfl, fun _ => rfl⟩
theorem Vd_after {P : Nat} {bs : List Bd} {hs : List Hp} {now : Int} (h : SaOk (P : Int) bs hs now) (h1 : 0 ≤ Vd (P : Int) bs hs (now + 1)) (hv : Vd (P : Int) bs hs now ≠ 1) : Vd (P : Int) bs hs (now + 1) = Vd (P : Int) bs hs now := by
  have h' : SaOk (P : Int) bs hs (now + 1) := by
    by_cases hh : SaOk (P : Int) bs hs (now + 1)
    · exact hh
    · rw [Vd_no hh] at h1; omega
  exact (Vd_two_times h h' (by omega)).1 hv
theorem Vd_before {P : Nat} {bs : List Bd} {hs : List Hp} {now : Int} (h : SaOk (P : Int) bs hs now) (h1 : 0 ≤ Vd (P : Int) bs hs (now - 1)) (hv : Vd (P : Int) bs hs now ≠ 2) : Vd (P : Int) bs hs (now - 1) = Vd (P : Int) bs hs now := by
  have h' : SaOk (P : Int) bs hs (now - 1) := by
    by_cases hh : SaOk (P : Int) bs hs (now - 1)
    · exact hh
    · rw [Vd_no hh] at h1; omega
  exact (Vd_two_times h' h (by omega)).2 hv
theorem goes_more {P k : Nat} {bs : List Bd} {hs : List Hp} {now : Int} (h : SaOk (P : Int) bs hs now) (hm : SaOk (P : Int) bs (hs ++ [((k : Int), now)]) now) (hk : 1 ≤ k ∧ k < P) (hg : Goes (P : Int) bs now (DsA P (hs ++ [((k : Int), now)]))) : Goes (P : Int) bs now (DsA P hs) := by
  obtain ⟨t, ht⟩ := goal_of hg
  have hP := StOk.pos h.1.2
  have hl := DsA_len (p := P) (by omega) hs
  have hn := h.now
  have hnone : (DsA P hs).getD k 0 = -1 := by
    have h1 := DsA_none h.1.1 ⟨by omega, by omega⟩ hs.length (Nat.le_refl _) k hk.1 hk.2 (fun i hi e => by
      have h2 := (hm.1.1 hs.length (by simp)).2.2.2 i hi
      apply h2
      have e1 : (hs ++ [((k : Int), now)]).getD i (0, 0) = hs.getD i (0, 0) := by simp [List.getD, List.getElem?_append_left hi]
      have e2 : (hs ++ [((k : Int), now)]).getD hs.length (0, 0) = ((k : Int), now) := by simp [List.getD]
      rw [e1, e2, e])
    rwa [List.take_length] at h1
  refine goes_of h.st (t := t) ⟨ht.1, fun i hi => ?_⟩
  rw [DsA_snoc] at ht
  have h3 := ht.2 i hi
  simp only [Int.toNat_natCast] at h3
  rw [getD_set (by omega)] at h3
  by_cases e : k = i
  · subst e
    rw [if_pos rfl] at h3
    rw [hnone]
    have h4 := h3.2 (by omega)
    exact ⟨fun _ => by rw [h4]; exact Int.le_refl _, fun hh => absurd rfl hh⟩
  · rw [if_neg e] at h3
    exact h3
theorem Vd_more {P k : Nat} {bs : List Bd} {hs : List Hp} {now : Int} (hv : Vd (P : Int) bs hs now = 2) (hk : 1 ≤ k ∧ k < P) (h1 : 0 ≤ Vd (P : Int) bs (hs ++ [((k : Int), now)]) now) : Vd (P : Int) bs (hs ++ [((k : Int), now)]) now = 2 := by
  have c1 := Vd_cases (P : Int) bs hs now
  have c2 := Vd_cases (P : Int) bs (hs ++ [((k : Int), now)]) now
  rw [show ((P : Nat) : Int).toNat = P from rfl] at c1 c2
  rcases c1 with ⟨-, v1⟩ | ⟨h, c1⟩
  · omega
  rcases c1 with ⟨g1, -⟩ | ⟨-, ⟨-, v1⟩ | ⟨-, v1⟩⟩
  · rcases c2 with ⟨-, v2⟩ | ⟨hm, c2⟩
    · omega
    · rcases c2 with ⟨-, v2⟩ | ⟨g2, -⟩
      · exact v2
      · exact absurd (goes_more h hm hk g2) g1
  · omega
  · omega
theorem Vd_lo {p : Int} {bs : List Bd} {hs : List Hp} {now : Int} (h : Vd p bs hs now < 0) : Vd p bs hs now = -1 := by
  rcases Vd_cases p bs hs now with ⟨-, v⟩ | ⟨-, ⟨-, v⟩ | ⟨-, ⟨-, v⟩ | ⟨-, v⟩⟩⟩ <;> omega
theorem Vd_hi {p : Int} {bs : List Bd} {hs : List Hp} {now : Int} (h : ¬ Vd p bs hs now < 0) : SaOk p bs hs now ∧ (Vd p bs hs now = 0 ∨ Vd p bs hs now = 1 ∨ Vd p bs hs now = 2) := by
  rcases Vd_cases p bs hs now with ⟨-, v⟩ | ⟨h0, ⟨-, v⟩ | ⟨-, ⟨-, v⟩ | ⟨-, v⟩⟩⟩
  · omega
  · exact ⟨h0, .inr (.inr v)⟩
  · exact ⟨h0, .inr (.inl v)⟩
  · exact ⟨h0, .inl v⟩


set_option maxRecDepth 100000 in
set_option maxHeartbeats 8000000 in
theorem FnVerdictOf_any (A0 : Option Addr) (n0 c0 : Nat) (w : World) (F0 : n0 ≤ 9223372036854775807 ∧ n0 ≤ c0 ∧ BytsAt w w.heap.size A0 n0) :
    Calls Try.prog 4 #[.slice A0 n0 c0] w fun e w' => e = .returned (.bool true) ∧ Below w.heap.size w w' := by
  obtain ⟨hm0, hc0, h0⟩ := F0
  by_cases hn : n0 ≤ 1048576
  rotate_left
  · go_enter Try.func4, Try.ntmps4
    go_wp2
    go_ret
    exact ⟨rfl, Below.refl _ _⟩
  go_enter Try.func4, Try.ntmps4
  go_wp2_with (fail)
  refine kDLater (DrawVerdictOf_any A0 n0 c0 w h0 hm0 hc0) ?_
  intro pts A n c xs D m d hs now w1 hnc hmd hrow hhap hb1
  have HL := Lib.hid hhap.len
  have hls := LP.made hb1 hrow hhap pts c 25
  obtain ⟨w2, HW2⟩ : ∃ q, Hid (w1.alloc (.cells #[.int .i64 pts, .slice A n c] 25) = q) := ⟨_, rfl⟩
  rw [HW2.out] at hls
  have L2 := Lib.hid hls
  clear hls hb1 hrow hhap
  go_wp2_with (fail)
  rw [HW2.out]
  obtain ⟨P, HPP⟩ : ∃ q, Hid (w1.heap.size = q) := ⟨_, rfl⟩
  rw [HPP.out] at L2 ⊢
  obtain ⟨p0, p1⟩ := L2.out.s
  have hpl := L2.out.lt
  have HV := Lib.hid (fun (W : World) (now' : Int) (h : BndsAt W A n xs) (g : HapsAt W D m hs) => iVerdictOf_any pts A n c xs D m d hs now' W h g (by omega) (by omega))
  have HVS := Lib.hid (fun (W : World) (h : BndsAt W A n xs) (g : HapsAt W D m hs) => sVerdictOf_any pts A n c xs D m d hs now W h g (by omega) (by omega))
  obtain ⟨v, HVV⟩ : ∃ q, Hid (Vd pts xs hs now = q) := ⟨_, rfl⟩
  have hi1 := HV.out w2 now L2.out.row L2.out.hap
  rw [HVV.out] at hi1
  refine kBV hi1 ?_
  intro w3 hb3
  clear hi1
  have L3 := Lib.hid (L2.out.next hb3)
  clear p0 p1 hpl hb3
  obtain ⟨p0, p1⟩ := L3.out.s
  have hpl := L3.out.lt
  have hi2 := HVS.out w3 L3.out.row L3.out.hap
  rw [HVV.out] at hi2
  have HI2 := Lib.hid hi2
  clear hi2
  go_wp2_with (fail)
  refine kBV HI2.out ?_
  intro w4 hb4
  clear HI2
  have L4 := Lib.hid (L3.out.next hb4)
  clear p0 p1 hpl hb4
  obtain ⟨p0, p1⟩ := L4.out.s
  have hpl := L4.out.lt
  by_cases hv : v < 0
  · have hv1 : v = -1 := by rw [← HVV.out] at hv ⊢; exact Vd_lo hv
    subst hv1
    clear hv
    go_wp2_with (fail)
    refine kBV (alive_any _) ?_
    intro w5 hb5
    go_wp2
    go_ret
    exact ⟨rfl, L4.out.below.trans (hb5.mono L4.out.below.size)⟩
  · have hvd := Vd_hi (p := pts) (bs := xs) (hs := hs) (now := now) (by rw [HVV.out]; exact hv)
    rw [HVV.out] at hvd
    obtain ⟨hsa, h3⟩ := hvd
    obtain ⟨N, rfl, hN1, hN6⟩ := hsa.1.2.1.nat
    have HSA := Lib.hid hsa
    have H3 := Lib.hid h3
    have HLA := Lib.hid (fun (h1 : 0 ≤ Vd (N : Int) xs hs (now + 1)) (h2 : v ≠ 1) => (Vd_after hsa h1 (by rw [HVV.out]; exact h2)).trans HVV.out)
    have HBE := Lib.hid (fun (h1 : 0 ≤ Vd (N : Int) xs hs (now - 1)) (h2 : v ≠ 2) => (Vd_before hsa h1 (by rw [HVV.out]; exact h2)).trans HVV.out)
    have HMO := Lib.hid (fun (k : Nat) (hk : 1 ≤ k ∧ k < N) (h0 : v = 2) (h1 : 0 ≤ Vd (N : Int) xs (hs ++ [((k : Int), now)]) now) => Vd_more (by rw [HVV.out]; exact h0) hk h1)
    obtain ⟨hn0, hn1⟩ := SaOk.now hsa
    obtain ⟨la, HLL⟩ : ∃ q, Hid (Vd (N : Int) xs hs (now + 1) = q) := ⟨_, rfl⟩
    obtain ⟨be, HBB⟩ : ∃ q, Hid (Vd (N : Int) xs hs (now - 1) = q) := ⟨_, rfl⟩
    have hla := HV.out w4 (now + 1) L4.out.row L4.out.hap
    rw [HLL.out] at HLA hla
    have HA4 := Lib.hid hla
    clear hsa h3 hla
    go_wp2_with (fail)
    refine kBV HA4.out ?_
    intro w5 hb5
    have L5 := Lib.hid (L4.out.next hb5)
    clear p0 p1 hpl hb5
    obtain ⟨p0, p1⟩ := L5.out.s
    have hpl := L5.out.lt
    have hbe := HV.out w5 (now - 1) L5.out.row L5.out.hap
    rw [HBB.out] at HBE hbe
    have HA5 := Lib.hid hbe
    clear hbe HA4
    go_wp2_with (fail)
    refine kBV HA5.out ?_
    intro w6 hb6
    clear HA5
    have L6 := Lib.hid (L5.out.next hb6)
    clear p0 p1 hpl hb6
    obtain ⟨p0, p1⟩ := L6.out.s
    have hpl := L6.out.lt
    go_wp2_with (fail)
    go_loopw [9] (fun i wr => ∃ k : Nat, 1 ≤ k ∧ k ≤ N ∧ i = .int .i64 k ∧ LP w wr P (N : Int) A n c xs D m hs) (fun i _ => N - (intOf i).toNat)
    case atStart => exact ⟨1, Nat.le_refl _, hN1, rfl, L6.out⟩
    case round =>
      obtain ⟨wo, rfl⟩ : ∃ wo : World, wo = wr := ⟨_, rfl⟩
      clear p0 p1 hpl
      obtain ⟨k, hk1, hk, rfl, hls⟩ := hrel
      have LO := Lib.hid hls
      obtain ⟨p0, p1⟩ := hls.s
      have hpl := hls.lt
      clear hls
      by_cases hkN : k < N
      · have HOW := Lib.hid (own_litZ (q := wo.heap.size) (w := wo) rfl wo.heap.size 37 2 #[] 0 (Nat.le_refl _) (by decide) rfl)
        have hbe : Below wo.heap.size wo (wo.alloc (.cells #[] 37)) := (Below.refl _ _).alloc (Nat.le_refl _) _
        have HNEW := Lib.hid (fun (ad : Addr) (e : D = some ad) => HapsAt.newsH (LO.out.hap.below hbe) e)
        have HNA := Lib.hid (show D = none → m = 0 from fun e => by
          rcases Nat.eq_zero_or_pos m with h1 | h1
          · exact h1
          · obtain ⟨b, off, e', _⟩ := LO.out.hap.cells h1; rw [e] at e'; cases e')
        have HBE0 := Lib.hid hbe
        have hkI : (k : Int) < (N : Int) := by omega
        clear hbe
        go_wp2_with (first
          | (at_builtin; refine wpl_appX rowHW rfl _ _ (by rfl) wo.heap.size _ 0 [] (by rfl) HOW.out D m d (v2 hs) (by rfl) HNA.out (by rw [v2_len, HL.out]) HNEW.out (v2_one _) m (Nat.zero_add _) (v2 hs) (List.nil_append _) (by omega) HBE0.out.size ?_
             intro A1 c1 wB hownB hgrow hat
             have hbB := HBE0.out.grown hgrow HBE0.out.size (fun k hk => by have h5 : wo.heap.size = k := Option.some.inj hk; omega)
             have HBW := Lib.hid hbB
             have HOB := Lib.hid hownB
             have HP1 := Lib.hid (And.intro (keep hbB p0) (keep hbB p1))
             have hsB := hbB.size
             clear hownB hgrow hat hbB p0 p1
             have p0 := HP1.out.1
             have p1 := HP1.out.2)
          | (at_builtin; refine wpl_appX rowHW rfl _ _ (by rfl) wo.heap.size _ m (v2 hs) (by rfl) (HOB.out.alloc _) (some ⟨wB.heap.size, 0, none⟩) 1 1 (v2 [((k : Int), now)]) (by rfl) (fun e => by cases e) rfl (fun ad e => by cases e; exact cell2H (x := ((k : Int), now)) rfl _) (v2_one _) (m + 1) rfl (v2 (hs ++ [((k : Int), now)])) (v2_append _ _).symm (by omega) (by simp; omega) ?_
             intro A2 c2 wC hownC hgrow hat
             have hbC := (HBW.out.alloc hsB (.cells #[.int .i64 k, .int .i64 now] 37)).grown hgrow (by simp; omega) (fun k hk => (HOB.out.lt k hk).1)
             have HBC := Lib.hid hbC
             have HOC := Lib.hid hownC
             have LC := Lib.hid (LO.out.next hbC)
             clear hownC hgrow hat hbC p0 p1
             have p0 := LC.out.s.1
             have p1 := LC.out.s.2)
          | fail)
        have HAC := Lib.hid (show HapsAt wC A2 (m + 1) (hs ++ [((k : Int), now)]) from OwnH.at_ HOC.out)
        obtain ⟨u, HUU⟩ : ∃ q, Hid (Vd (N : Int) xs (hs ++ [((k : Int), now)]) now = q) := ⟨_, rfl⟩
        have hmo := HMO.out k ⟨hk1, hkN⟩
        have hiv := iVerdictOf_any (N : Int) A n c xs A2 (m + 1) c2 (hs ++ [((k : Int), now)]) now wC LC.out.row HAC.out (by omega) (by omega)
        rw [HUU.out] at hmo hiv
        refine kBV hiv ?_
        intro wD hbD
        have HM2 := Lib.hid hmo
        have LD := Lib.hid (LC.out.next hbD)
        clear p0 p1 hpl hbD hiv hmo
        obtain ⟨p0, p1⟩ := LD.out.s
        have hpl := LD.out.lt
        by_cases hu : 0 ≤ u
        · by_cases h2 : v = 2
          · have hu2 : u = 2 := HM2.out h2 hu
            have q1 : (v == 2) = true := by simpa using h2
            have q2 : (u == 2) = true := by simpa using hu2
            have q3 : (u != 2) = false := by simp [hu2]
            clear h2 hu2 hv
            go_wp2
            go_roundw
            case rel => exact ⟨k + 1, by omega, by omega, by go_num, LD.out⟩
            case measure => simp [intOf]; omega
          · have h2b : (v == 2) = false := by simpa using h2
            clear h2
            go_wp2
            go_roundw
            case rel => exact ⟨k + 1, by omega, by omega, by go_num, LD.out⟩
            case measure => simp [intOf]; omega
        · go_wp2
          go_roundw
          case rel => exact ⟨k + 1, by omega, by omega, by go_num, LD.out⟩
          case measure => simp [intOf]; omega
      · obtain rfl : k = N := by omega
        have HLA2 := Lib.hid (fun (h1 : ¬ la < 0) (h2 : v ≠ 1) => HLA.out (by omega) h2)
        have HBE2 := Lib.hid (fun (h1 : ¬ be < 0) (h2 : v ≠ 2) => HBE.out (by omega) h2)
        clear hv HVV
        rcases H3.out with h3 | h3 | h3 <;> subst h3
        · by_cases hl : la < 0
          · by_cases hb : be < 0
            · go_wp2
              go_ret
              exact ⟨rfl, LO.out.below⟩
            · have hb2 : be = 0 := HBE2.out hb (by decide)
              subst hb2
              clear hb
              go_wp2
              go_ret
              exact ⟨rfl, LO.out.below⟩
          · have hl2 : la = 0 := HLA2.out hl (by decide)
            subst hl2
            clear hl
            by_cases hb : be < 0
            · go_wp2
              go_ret
              exact ⟨rfl, LO.out.below⟩
            · have hb2 : be = 0 := HBE2.out hb (by decide)
              subst hb2
              clear hb
              go_wp2
              go_ret
              exact ⟨rfl, LO.out.below⟩
        · by_cases hb : be < 0
          · by_cases hl : la < 0
            · go_wp2
              go_ret
              exact ⟨rfl, LO.out.below⟩
            · go_wp2
              go_ret
              exact ⟨rfl, LO.out.below⟩
          · have hb2 : be = 1 := HBE2.out hb (by decide)
            subst hb2
            clear hb
            by_cases hl : la < 0
            · go_wp2
              go_ret
              exact ⟨rfl, LO.out.below⟩
            · go_wp2
              go_ret
              exact ⟨rfl, LO.out.below⟩
        · by_cases hl : la < 0
          · by_cases hb : be < 0
            · go_wp2
              go_ret
              exact ⟨rfl, LO.out.below⟩
            · go_wp2
              go_ret
              exact ⟨rfl, LO.out.below⟩
          · have hl2 : la = 2 := HLA2.out hl (by decide)
            subst hl2
            clear hl
            by_cases hb : be < 0
            · go_wp2
              go_ret
              exact ⟨rfl, LO.out.below⟩
            · go_wp2
              go_ret
              exact ⟨rfl, LO.out.below⟩

end Go.Proofs.Ytpefimeogbpagaa
