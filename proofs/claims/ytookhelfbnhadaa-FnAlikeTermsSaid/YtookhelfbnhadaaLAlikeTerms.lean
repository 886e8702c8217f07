/- The walk of FnAlikeTerms: for every code the law returns true, and the code is left as it was. -/
import Derived.Test.YtookhelfbnhadaaDR9
import Derived.Test.YtookhelfbnhadaaAL
import Derived.Test.YtookhelfbnhadaaQ2
import Derived.Test.YtookhelfbnhadaaM8
import Derived.Test.YtookhelfbnhadaaO5
import Derived.Deep.RegionHeldLaw
import Derived.Deep.DrawnRows
namespace Go.Proofs.Ytookhelfbnhadaa
open Go.RowKit
attribute [local go_sem ↓] Go.wp_at_zero Go.wp_at_succ

theorem alikeP_symm {xs ys : List Mk} : AlikeP xs ys ↔ AlikeP ys xs := ⟨fun h => ⟨h.2.1, h.1, h.2.2.symm⟩, fun h => ⟨h.2.1, h.1, h.2.2.symm⟩⟩
theorem tIs_then23 {xs : List Mk} {x : Tm} (hx : TIs xs x) (hl : xs.length ≤ 9) : TIs (xs ++ [(0, 2, 3), (1, 0, 0)]) (.two 1 x (.step 2 3)) := by
  have := tIs_two hx (tIs_step (l := 2) (h := 3) (by decide) (by decide) (by decide)) (.inl rfl) (by simp; omega)
  rw [List.append_assoc] at this
  exact this
theorem lenR_then (x y : Tm) : lenR (.two 1 x (.step 2 3)) = lenR (.two 1 y (.step 2 3)) ↔ lenR x = lenR y := by
  have e : ∀ t : Tm, lenR (.two 1 t (.step 2 3)) = if (lenS t).2.2 = false then (0, 0, false) else ((lenS t).1 + 2, (lenS t).2.1 + 3, (lenS t).2.2) := by
    intro t
    simp [lenR, lenS]
  rw [e x, e y]
  unfold lenR
  obtain ⟨a, b, c⟩ := lenS x
  obtain ⟨d, e', f⟩ := lenS y
  cases c <;> cases f <;> simp
theorem alike_then {xs ys : List Mk} (hx : TOk xs) (hy : TOk ys) (h1 : TOk (xs ++ [(0, 2, 3), (1, 0, 0)])) (h2 : TOk (ys ++ [(0, 2, 3), (1, 0, 0)])) : AlikeP (xs ++ [(0, 2, 3), (1, 0, 0)]) (ys ++ [(0, 2, 3), (1, 0, 0)]) ↔ AlikeP xs ys := by
  have l1 := h1.len
  have l2 := h2.len
  simp at l1 l2
  obtain ⟨x, hx⟩ := hx
  obtain ⟨y, hy⟩ := hy
  have t1 := tIs_then23 (show TIs xs x from hx) (by omega)
  have t2 := tIs_then23 (show TIs ys y from hy) (by omega)
  have e1 : LenF (xs ++ [(0, 2, 3), (1, 0, 0)]) = lenR (.two 1 x (.step 2 3)) := onT_pos t1
  have e2 : LenF (ys ++ [(0, 2, 3), (1, 0, 0)]) = lenR (.two 1 y (.step 2 3)) := onT_pos t2
  have e3 : LenF xs = lenR x := onT_pos hx
  have e4 : LenF ys = lenR y := onT_pos hy
  unfold AlikeP
  rw [e1, e2, e3, e4, lenR_then]
  exact ⟨fun h => ⟨⟨x, hx⟩, ⟨y, hy⟩, h.2.2⟩, fun h => ⟨h1, h2, h.2.2⟩⟩

set_option maxRecDepth 100000 in
set_option maxHeartbeats 40000000 in
theorem FnAlikeTerms_any (A0 : Option Addr) (n0 c0 : Nat) (w : World) (F0 : n0 ≤ 9223372036854775807 ∧ n0 ≤ c0 ∧ BytsAt w w.heap.size A0 n0) :
    Calls Try.prog 9 #[.slice A0 n0 c0] w fun e w' => e = .returned (.bool true) ∧ Below w.heap.size w w' := by
  obtain ⟨hm0, hc0, h0⟩ := F0
  by_cases hn : n0 ≤ 1048576
  rotate_left
  · go_enter Try.func9, Try.ntmps9
    go_wp2
    go_ret
    exact ⟨rfl, Below.refl _ _⟩
  go_enter Try.func9, Try.ntmps9
  go_wp2_with (fail)
  refine kDrawnTT (drawAlikeTerms_any A0 n0 c0 w h0 hm0 hc0) ?_
  intro g c xs A2 c2 ys w1 hmx hl hcap hmy hl2 hcap2 hb1
  have HM1 := Lib.hid hmx
  have HN1 := Lib.hid hmy
  have HB1 := Lib.hid hb1
  clear hmx hmy hb1
  obtain ⟨ok, HOK⟩ : ∃ q, Hid (B (AlikeP xs ys) = q) := ⟨_, rfl⟩
  have hi1 := iAlikeTerms_any (some ⟨g, 0, none⟩) xs.length c xs A2 ys.length c2 ys w1 HM1.out HN1.out (by omega) (by omega)
  rw [HOK.out] at hi1
  go_wp2_with (fail)
  refine kBV hi1 ?_
  intro w2 hb2
  clear hi1
  have HB2 := Lib.hid (HB1.out.trans (hb2.mono HB1.out.size))
  have HM2 := Lib.hid (HM1.out.below hb2)
  have HN2 := Lib.hid (HN1.out.below hb2)
  clear hb2
  have hi2 := sAlikeTerms_any (some ⟨g, 0, none⟩) xs.length c xs A2 ys.length c2 ys w2 HM2.out HN2.out (by omega) (by omega) hcap hcap2
  rw [HOK.out] at hi2
  go_wp2_with (fail)
  refine kBV hi2 ?_
  intro w3' hb3
  clear hi2
  have HB3 := Lib.hid (HB2.out.trans (hb3.mono HB2.out.size))
  have HM3 := Lib.hid (HM2.out.below hb3)
  have HN3 := Lib.hid (HN2.out.below hb3)
  clear hb3
  by_cases hTx : TOk xs
  rotate_left
  · have hokf : ok = false := by rw [← HOK.out]; exact B_false (fun h => hTx h.1)
    subst hokf
    have HT := Lib.hid hTx
    clear hTx
    go_wp2_with (fail)
    refine kB (sTermOk_any (some ⟨g, 0, none⟩) xs.length c xs _ HM3.out (by omega)) (fun _ h _ => absurd h.out HT.out) ?_
    intro w5 _ hb5
    have HB5 := Lib.hid (HB3.out.trans (hb5.mono HB3.out.size))
    clear hb5
    go_wp2_with (fail)
    refine kBV (alive_any _) ?_
    intro w6 hb6
    go_wp2
    go_ret
    exact ⟨rfl, HB5.out.trans (hb6.mono HB5.out.size)⟩
  have HTX := Lib.hid hTx
  go_wp2_with (fail)
  refine kB (sTermOk_any (some ⟨g, 0, none⟩) xs.length c xs _ HM3.out (by omega)) ?_ (fun _ h _ => absurd HTX.out h.out)
  intro w4 _ hb4
  have HB4 := Lib.hid (HB3.out.trans (hb4.mono HB3.out.size))
  have HM4 := Lib.hid (HM3.out.below hb4)
  have HN4 := Lib.hid (HN3.out.below hb4)
  clear hb4 hTx
  by_cases hTy : TOk ys
  rotate_left
  · have hokf : ok = false := by rw [← HOK.out]; exact B_false (fun h => hTy h.2.1)
    subst hokf
    have HT := Lib.hid hTy
    clear hTy
    go_wp2_with (fail)
    refine kB (sTermOk_any A2 ys.length c2 ys _ HN4.out (by omega)) (fun _ h _ => absurd h.out HT.out) ?_
    intro w5 _ hb5
    have HB5 := Lib.hid (HB4.out.trans (hb5.mono HB4.out.size))
    clear hb5
    go_wp2_with (fail)
    refine kBV (alive_any _) ?_
    intro w6 hb6
    go_wp2
    go_ret
    exact ⟨rfl, HB5.out.trans (hb6.mono HB5.out.size)⟩
  have HTY := Lib.hid hTy
  have hyp : 0 < ys.length := by obtain ⟨y, hy⟩ := hTy; exact tIs_pos hy
  obtain ⟨gy, oy, rfl⟩ := HN4.out.some hyp
  go_wp2_with (fail)
  refine kB (sTermOk_any (some ⟨gy, oy, none⟩) ys.length c2 ys _ HN4.out (by omega)) ?_ (fun _ h _ => absurd HTY.out h.out)
  intro w3 _ hb5
  have HB5 := Lib.hid (HB4.out.trans (hb5.mono HB4.out.size))
  have HM5 := Lib.hid (HM4.out.below hb5)
  have HN5 := Lib.hid (HN4.out.below hb5)
  clear hb5 hTy
  have HSY := Lib.hid (show B (AlikeP ys xs) = ok by rw [← HOK.out]; exact B_congr alikeP_symm)
  have HSELF := Lib.hid (show AlikeP xs xs from ⟨HTX.out, HTX.out, rfl⟩)
  have HTHEN := Lib.hid (show TOk (xs ++ [(0, 2, 3), (1, 0, 0)]) → TOk (ys ++ [(0, 2, 3), (1, 0, 0)]) → B (AlikeP (xs ++ [(0, 2, 3), (1, 0, 0)]) (ys ++ [(0, 2, 3), (1, 0, 0)])) = ok from fun h1 h2 => by rw [← HOK.out]; exact B_congr (alike_then HTX.out HTY.out h1 h2))
  go_wp2_with (fail)
  obtain ⟨w9, HW4⟩ : ∃ q, Hid (w3.alloc (.cells #[.int .i64 0, .int .i64 2, .int .i64 3] 27) = q) := ⟨_, rfl⟩
  have HB6 := Lib.hid (show Below w.heap.size w w9 from HW4.out ▸ HB5.out.alloc HB5.out.size _)
  have HM6 := Lib.hid (show MarksAt w9 (some ⟨g, 0, none⟩) xs.length xs from HW4.out ▸ HM5.out.below ((Below.refl _ _).alloc (Nat.le_refl _) _))
  have HN6 := Lib.hid (show MarksAt w9 (some ⟨gy, oy, none⟩) ys.length ys from HW4.out ▸ HN5.out.below ((Below.refl _ _).alloc (Nat.le_refl _) _))
  have s0 : w9.cell? ⟨w3.heap.size, 0, none⟩ = some (.int .i64 0) := HW4.out ▸ by simp [go_sem]
  have s1 : w9.cell? ⟨w3.heap.size, 1, none⟩ = some (.int .i64 2) := HW4.out ▸ by simp [go_sem]
  have s2 : w9.cell? ⟨w3.heap.size, 2, none⟩ = some (.int .i64 3) := HW4.out ▸ by simp [go_sem]
  rw [HW4.out]
  obtain ⟨sb, HSB⟩ : ∃ q, Hid (w3.heap.size = q) := ⟨_, rfl⟩
  rw [HSB.out] at s0 s1 s2 ⊢
  go_region_held_law (fun w' => w'.cell? ⟨sb, 0, none⟩ = some (.int .i64 0) ∧ w'.cell? ⟨sb, 1, none⟩ = some (.int .i64 2) ∧ w'.cell? ⟨sb, 2, none⟩ = some (.int .i64 3))
    (first | exact ⟨s0, s1, s2⟩ | exact ⟨keep hb18 s0, keep hb18 s1, keep hb18 s2⟩ | exact ⟨keep hb17 s0, keep hb17 s1, keep hb17 s2⟩ | exact ⟨keep (hb17.alloc hb17.size _) s0, keep (hb17.alloc hb17.size _) s1, keep (hb17.alloc hb17.size _) s2⟩ | exact ⟨keep (show Below w9.heap.size w9 _ from (by repeat (first | exact Below.refl _ _ | refine Below.alloc ?_ (by simp) _ | apply Below.drew))) s0, keep (show Below w9.heap.size w9 _ from (by repeat (first | exact Below.refl _ _ | refine Below.alloc ?_ (by simp) _ | apply Below.drew))) s1, keep (show Below w9.heap.size w9 _ from (by repeat (first | exact Below.refl _ _ | refine Below.alloc ?_ (by simp) _ | apply Below.drew))) s2⟩)
    (first
      | (refine step_appE rowM (by rfl) _ _ (by rfl) w9.heap.size _ 0 0 (v3 []) (by rfl) (by first | exact OwnM.empty_at (by simp) _ (by omega) | exact (OwnM.empty_at (by simp) _ (by omega)).alloc _) ⟨g, 0, none⟩ xs.length c (v3 xs) (by rfl) (v3_len _) (MarksAt.news (HM6.out.below (by repeat (first | exact Below.refl _ _ | refine Below.alloc ?_ (by simp) _ | apply Below.drew)))) (v3_one _) xs.length (Nat.zero_add _) (v3 xs) (List.nil_append _) (by omega) (by simp <;> omega) ?_
         intro g17 cap17 w17 hown17 hgrow17 hat17 hlt17
         have hb17 : Below w9.heap.size w9 w17 := Below.grown (show Below w9.heap.size w9 _ from (by repeat (first | exact Below.refl _ _ | refine Below.alloc ?_ (by simp) _ | apply Below.drew))) hgrow17 (by simp <;> omega) (fun k hk => by cases hk; simp <;> omega))
      | (refine step_appE rowM (by rfl) _ _ (by rfl) w9.heap.size g17 xs.length cap17 (v3 xs) (by rfl) (by first | exact hown17 | exact hown17.alloc _) _ 2 2 (v3 [(0, 2, 3), (1, 0, 0)]) (by rfl) (by rfl)
           (by first
             | exact cell6_at (by simp) _ _ _
             | exact fun j u hu => hgrow17.cell (cell6_at (by simp) _ _ _ j u hu) (fun e => by simp [addr_add] at e)
             | exact fun j u hu => hgrow17.cell (keep ((Below.refl _ _).alloc (Nat.le_refl _) _) (cell6_at (by simp) _ _ _ j u hu)) (fun e => by simp [addr_add] at e)) (v3_one _) (xs.length + 2) rfl (v3 (xs ++ [(0, 2, 3), (1, 0, 0)])) (v3_append _ _).symm (by omega) (by have := hb17.size; simp <;> omega) ?_
         intro g18 cap18 w18 hown18 hgrow18 hat18 hlt18
         have hb18 : Below w9.heap.size w9 w18 := Below.grown (by first | exact hb17 | exact hb17.alloc hb17.size _) hgrow18 (by have := hb17.size; simp <;> omega) (fun k hk => by cases hk; exact (hown17.lt _ rfl).1)))
  all_goals
    have HB8 := Lib.hid (HB6.out.trans (hb18.mono HB6.out.size))
    have HM8 := Lib.hid (HM6.out.below hb18)
    have HN8 := Lib.hid (HN6.out.below hb18)
    have HT8 := Lib.hid (OwnM.at_ hown18)
    replace s0 := keep hb18 s0
    replace s1 := keep hb18 s1
    replace s2 := keep hb18 s2
    clear hown17 hgrow17 hat17 hlt17 hown18 hgrow18 hat18 hlt18 hb17 hb18
    simp only [List.getElem_toArray, List.getElem_cons_succ, List.getElem_cons_zero]
    go_wp2_with (fail)
    go_region_held_law (fun w' => w'.cell? ⟨sb, 0, none⟩ = some (.int .i64 0) ∧ w'.cell? ⟨sb, 1, none⟩ = some (.int .i64 2) ∧ w'.cell? ⟨sb, 2, none⟩ = some (.int .i64 3))
      (first | exact ⟨s0, s1, s2⟩ | exact ⟨keep hb21 s0, keep hb21 s1, keep hb21 s2⟩ | exact ⟨keep hb20 s0, keep hb20 s1, keep hb20 s2⟩ | exact ⟨keep (hb20.alloc hb20.size _) s0, keep (hb20.alloc hb20.size _) s1, keep (hb20.alloc hb20.size _) s2⟩ | exact ⟨keep (show Below w18.heap.size w18 _ from (by repeat (first | exact Below.refl _ _ | refine Below.alloc ?_ (by simp) _ | apply Below.drew))) s0, keep (show Below w18.heap.size w18 _ from (by repeat (first | exact Below.refl _ _ | refine Below.alloc ?_ (by simp) _ | apply Below.drew))) s1, keep (show Below w18.heap.size w18 _ from (by repeat (first | exact Below.refl _ _ | refine Below.alloc ?_ (by simp) _ | apply Below.drew))) s2⟩)
      (first
        | (refine step_appE rowM (by rfl) _ _ (by rfl) w18.heap.size _ 0 0 (v3 []) (by rfl) (by first | exact OwnM.empty_at (by simp) _ (by omega) | exact (OwnM.empty_at (by simp) _ (by omega)).alloc _) ⟨gy, oy, none⟩ ys.length c2 (v3 ys) (by rfl) (v3_len _) (MarksAt.news (HN8.out.below (by repeat (first | exact Below.refl _ _ | refine Below.alloc ?_ (by simp) _ | apply Below.drew)))) (v3_one _) ys.length (Nat.zero_add _) (v3 ys) (List.nil_append _) (by omega) (by simp <;> omega) ?_
           intro g20 cap20 w20 hown20 hgrow20 hat20 hlt20
           have hb20 : Below w18.heap.size w18 w20 := Below.grown (show Below w18.heap.size w18 _ from (by repeat (first | exact Below.refl _ _ | refine Below.alloc ?_ (by simp) _ | apply Below.drew))) hgrow20 (by simp <;> omega) (fun k hk => by cases hk; simp <;> omega))
        | (refine step_appE rowM (by rfl) _ _ (by rfl) w18.heap.size g20 ys.length cap20 (v3 ys) (by rfl) (by first | exact hown20 | exact hown20.alloc _) _ 2 2 (v3 [(0, 2, 3), (1, 0, 0)]) (by rfl) (by rfl)
             (by first
               | exact cell6_at (by simp) _ _ _
               | exact fun j u hu => hgrow20.cell (cell6_at (by simp) _ _ _ j u hu) (fun e => by simp [addr_add] at e)
               | exact fun j u hu => hgrow20.cell (keep ((Below.refl _ _).alloc (Nat.le_refl _) _) (cell6_at (by simp) _ _ _ j u hu)) (fun e => by simp [addr_add] at e)) (v3_one _) (ys.length + 2) rfl (v3 (ys ++ [(0, 2, 3), (1, 0, 0)])) (v3_append _ _).symm (by omega) (by have := hb20.size; simp <;> omega) ?_
           intro g21 cap21 w21 hown21 hgrow21 hat21 hlt21
           have hb21 : Below w18.heap.size w18 w21 := Below.grown (by first | exact hb20 | exact hb20.alloc hb20.size _) hgrow21 (by have := hb20.size; simp <;> omega) (fun k hk => by cases hk; exact (hown20.lt _ rfl).1)))
    all_goals
      have HB11 := Lib.hid (HB8.out.trans (hb21.mono HB8.out.size))
      have HM11 := Lib.hid (HM8.out.below hb21)
      have HN11 := Lib.hid (HN8.out.below hb21)
      have HT11 := Lib.hid (HT8.out.below hb21)
      have HU11 := Lib.hid (OwnM.at_ hown21)
      clear hown20 hgrow20 hat20 hlt20 hown21 hgrow21 hat21 hlt21 hb20 hb21 s0 s1 s2
      simp only [List.getElem_toArray, List.getElem_cons_succ, List.getElem_cons_zero]
      have hi3 := iAlikeTerms_any (some ⟨gy, oy, none⟩) ys.length c2 ys (some ⟨g, 0, none⟩) xs.length c xs w21 HN11.out HM11.out (by omega) (by omega)
      rw [HSY.out] at hi3
      go_wp2_with (fail)
      refine kBV hi3 ?_
      intro w22 hb22
      clear hi3
      have HB22 := Lib.hid (HB11.out.trans (hb22.mono HB11.out.size))
      have HM22 := Lib.hid (HM11.out.below hb22)
      have HT22 := Lib.hid (HT11.out.below hb22)
      have HU22 := Lib.hid (HU11.out.below hb22)
      clear hb22
      have HOKB : (ok == ok) = true := by simp
      cases ok
      all_goals
        go_wp2_with (fail)
        refine kB (iAlikeTerms_any (some ⟨g, 0, none⟩) xs.length c xs (some ⟨g, 0, none⟩) xs.length c xs w22 HM22.out HM22.out (by omega) (by omega)) ?_ (fun _ h _ => absurd HSELF.out h.out)
        intro w23 _ hb23
        have HB23 := Lib.hid (HB22.out.trans (hb23.mono HB22.out.size))
        have HT23 := Lib.hid (HT22.out.below hb23)
        have HU23 := Lib.hid (HU22.out.below hb23)
        clear hb23
        go_wp2_with (fail)
        refine kB (iTermOk_any _ (xs.length + 2) _ _ _ HT23.out (by omega)) ?_ ?_
        rotate_left
        · intro w24 _ hb24
          go_wp2
          go_ret
          exact ⟨rfl, HB23.out.trans (hb24.mono HB23.out.size)⟩
        intro w24 ht1 hb24
        have HB24 := Lib.hid (HB23.out.trans (hb24.mono HB23.out.size))
        have HT24 := Lib.hid (HT23.out.below hb24)
        have HU24 := Lib.hid (HU23.out.below hb24)
        clear hb24
        go_wp2_with (fail)
        refine kB (iTermOk_any _ (ys.length + 2) _ _ _ HU24.out (by omega)) ?_ ?_
        rotate_left
        · intro w25 _ hb25
          go_wp2
          go_ret
          exact ⟨rfl, HB24.out.trans (hb25.mono HB24.out.size)⟩
        intro w25 ht2 hb25
        have HB25 := Lib.hid (HB24.out.trans (hb25.mono HB24.out.size))
        have HT25 := Lib.hid (HT24.out.below hb25)
        have HU25 := Lib.hid (HU24.out.below hb25)
        clear hb25
        have hth := HTHEN.out ht1.out ht2.out
        have hi4 := iAlikeTerms_any _ (xs.length + 2) cap18 _ _ (ys.length + 2) cap21 _ w25 HT25.out HU25.out (by omega) (by omega)
        rw [hth] at hi4
        clear hth
        go_wp2_with (fail)
        refine kBV hi4 ?_
        intro w26 hb26
        clear hi4
        go_wp2
        go_ret
        exact ⟨rfl, HB25.out.trans (hb26.mono HB25.out.size)⟩

end Go.Proofs.Ytookhelfbnhadaa

