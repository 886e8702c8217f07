/- The walk of FnTermOk: for every code the law returns true, and the code is left as it was. -/
import Derived.Test.YtookhelfbnhadaaDR6
import Derived.Test.YtookhelfbnhadaaAL
import Derived.Test.YtookhelfbnhadaaQ2
import Derived.Test.YtookhelfbnhadaaO5
import Derived.Deep.RegionHeldLaw
import Derived.Deep.DrawnRows
namespace Go.Proofs.Ytookhelfbnhadaa
open Go.RowKit
attribute [local go_sem ↓] Go.wp_at_zero Go.wp_at_succ

theorem marks1_at {w : World} {q : Nat} (hq : w.heap.size = q) (x : Mk) (t : TypeId) : MarksAt (w.alloc (.cells #[.int .i64 x.1, .int .i64 x.2.1, .int .i64 x.2.2] t)) (some ⟨q, 0, none⟩) 1 [x] := by
  subst hq
  refine ⟨rfl, fun _ => ⟨w.heap.size, 0, rfl, fun j hj => ?_⟩⟩
  obtain rfl : j = 0 := by omega
  exact ⟨by rw [World.cell?_alloc_new]; rfl, by rw [World.cell?_alloc_new]; rfl, by rw [World.cell?_alloc_new]; rfl⟩
theorem tIs_two_step {xs : List Mk} {x : Tm} {k l h : Int} (hx : TIs xs x) (hk : k = 1 ∨ k = 2) (h0 : 0 ≤ l) (h1 : l ≤ h) (h2 : h ≤ 19) (hl : xs.length ≤ 9) : TIs (xs ++ [(0, l, h), (k, 0, 0)]) (.two k x (.step l h)) := by
  have := tIs_two hx (tIs_step h0 h1 h2) hk (by simp; omega)
  rw [List.append_assoc] at this
  exact this
theorem tok_zero : TOk [(0, 0, 0)] := ⟨.step 0 0, tIs_step (by decide) (by decide) (by decide)⟩

set_option maxRecDepth 100000 in
set_option maxHeartbeats 40000000 in
theorem FnTermOk_any (A0 : Option Addr) (n0 c0 : Nat) (w : World) (F0 : n0 ≤ 9223372036854775807 ∧ n0 ≤ c0 ∧ BytsAt w w.heap.size A0 n0) :
    Calls Try.prog 3 #[.slice A0 n0 c0] w fun e w' => e = .returned (.bool true) ∧ Below w.heap.size w w' := by
  obtain ⟨hm0, hc0, h0⟩ := F0
  by_cases hn : n0 ≤ 1048576
  rotate_left
  · go_enter Try.func3, Try.ntmps3
    go_wp2
    go_ret
    exact ⟨rfl, Below.refl _ _⟩
  go_enter Try.func3, Try.ntmps3
  go_wp2_with (fail)
  refine kDrawnT (drawTermOk_any A0 n0 c0 w h0 hm0 hc0) ?_
  intro g c xs w1 hown hl hb1
  have hcap := OwnM.cap hown
  have HM1 := Lib.hid (OwnM.at_ hown)
  have HB1 := Lib.hid hb1
  clear hown hb1
  obtain ⟨ok, HOK⟩ : ∃ q, Hid (B (TOk xs) = q) := ⟨_, rfl⟩
  have hi1 := iTermOk_any (some ⟨g, 0, none⟩) xs.length c xs w1 HM1.out (by omega)
  rw [HOK.out] at hi1
  go_wp2_with (fail)
  refine kBV hi1 ?_
  intro w2 hb2
  clear hi1
  have HB2 := Lib.hid (HB1.out.trans (hb2.mono HB1.out.size))
  have HM2 := Lib.hid (HM1.out.below hb2)
  clear hb2
  have hi2 := sTermOk_any (some ⟨g, 0, none⟩) xs.length c xs w2 HM2.out (by omega)
  rw [HOK.out] at hi2
  go_wp2_with (fail)
  refine kBV hi2 ?_
  intro w3 hb3
  clear hi2
  have HB3 := Lib.hid (HB2.out.trans (hb3.mono HB2.out.size))
  have HM3 := Lib.hid (HM2.out.below hb3)
  clear hb3
  go_wp2_with (fail)
  obtain ⟨w4, HW4⟩ : ∃ q, Hid (w3.alloc (.cells #[.int .i64 0, .int .i64 1, .int .i64 2] 27) = q) := ⟨_, rfl⟩
  have HB4 := Lib.hid (show Below w.heap.size w w4 from HW4.out ▸ HB3.out.alloc HB3.out.size _)
  have HM4 := Lib.hid (show MarksAt w4 (some ⟨g, 0, none⟩) xs.length xs from HW4.out ▸ HM3.out.below ((Below.refl _ _).alloc (Nat.le_refl _) _))
  have s0 : w4.cell? ⟨w3.heap.size, 0, none⟩ = some (.int .i64 0) := HW4.out ▸ by simp [go_sem]
  have s1 : w4.cell? ⟨w3.heap.size, 1, none⟩ = some (.int .i64 1) := HW4.out ▸ by simp [go_sem]
  have s2 : w4.cell? ⟨w3.heap.size, 2, none⟩ = some (.int .i64 2) := HW4.out ▸ by simp [go_sem]
  rw [HW4.out]
  obtain ⟨sb, HSB⟩ : ∃ q, Hid (w3.heap.size = q) := ⟨_, rfl⟩
  rw [HSB.out] at s0 s1 s2 ⊢
  go_region_held_law (fun w' => w'.cell? ⟨sb, 0, none⟩ = some (.int .i64 0) ∧ w'.cell? ⟨sb, 1, none⟩ = some (.int .i64 1) ∧ w'.cell? ⟨sb, 2, none⟩ = some (.int .i64 2))
    (first | exact ⟨s0, s1, s2⟩ | exact ⟨keep hb8 s0, keep hb8 s1, keep hb8 s2⟩ | exact ⟨keep hb7 s0, keep hb7 s1, keep hb7 s2⟩ | exact ⟨keep (hb7.alloc hb7.size _) s0, keep (hb7.alloc hb7.size _) s1, keep (hb7.alloc hb7.size _) s2⟩ | exact ⟨keep (show Below w4.heap.size w4 _ from (by repeat (first | exact Below.refl _ _ | refine Below.alloc ?_ (by simp) _ | apply Below.drew))) s0, keep (show Below w4.heap.size w4 _ from (by repeat (first | exact Below.refl _ _ | refine Below.alloc ?_ (by simp) _ | apply Below.drew))) s1, keep (show Below w4.heap.size w4 _ from (by repeat (first | exact Below.refl _ _ | refine Below.alloc ?_ (by simp) _ | apply Below.drew))) s2⟩)
    (first
      | (refine step_appE rowM (by rfl) _ _ (by rfl) w4.heap.size _ 0 0 (v3 []) (by rfl) (by first | exact OwnM.empty_at (by simp) _ (by omega) | exact (OwnM.empty_at (by simp) _ (by omega)).alloc _) ⟨g, 0, none⟩ xs.length c (v3 xs) (by rfl) (v3_len _) (MarksAt.news (HM4.out.below (by repeat (first | exact Below.refl _ _ | refine Below.alloc ?_ (by simp) _ | apply Below.drew)))) (v3_one _) xs.length (Nat.zero_add _) (v3 xs) (List.nil_append _) (by omega) (by simp <;> omega) ?_
         intro g7 cap7 w7 hown7 hgrow7 hat7 hlt7
         have hb7 : Below w4.heap.size w4 w7 := Below.grown (show Below w4.heap.size w4 _ from (by repeat (first | exact Below.refl _ _ | refine Below.alloc ?_ (by simp) _ | apply Below.drew))) hgrow7 (by simp <;> omega) (fun k hk => by cases hk; simp <;> omega))
      | (refine step_appE rowM (by rfl) _ _ (by rfl) w4.heap.size g7 xs.length cap7 (v3 xs) (by rfl) (by first | exact hown7 | exact hown7.alloc _) _ 2 2 (v3 [(0, 1, 2), (1, 0, 0)]) (by rfl) (by rfl)
           (by first
             | exact cell6_at (by simp) _ _ _
             | exact fun j u hu => hgrow7.cell (cell6_at (by simp) _ _ _ j u hu) (fun e => by simp [addr_add] at e)
             | exact fun j u hu => hgrow7.cell (keep ((Below.refl _ _).alloc (Nat.le_refl _) _) (cell6_at (by simp) _ _ _ j u hu)) (fun e => by simp [addr_add] at e)) (v3_one _) (xs.length + 2) rfl (v3 (xs ++ [(0, 1, 2), (1, 0, 0)])) (v3_append _ _).symm (by omega) (by have := hb7.size; simp <;> omega) ?_
         intro g8 cap8 w8 hown8 hgrow8 hat8 hlt8
         have hb8 : Below w4.heap.size w4 w8 := Below.grown (by first | exact hb7 | exact hb7.alloc hb7.size _) hgrow8 (by have := hb7.size; simp <;> omega) (fun k hk => by cases hk; exact (hown7.lt _ rfl).1)))
  all_goals
    have HB8 := Lib.hid (HB4.out.trans (hb8.mono HB4.out.size))
    have HM8 := Lib.hid (HM4.out.below hb8)
    have HT8 := Lib.hid (OwnM.at_ hown8)
    replace s0 := keep hb8 s0
    replace s1 := keep hb8 s1
    replace s2 := keep hb8 s2
    clear hown7 hgrow7 hat7 hlt7 hown8 hgrow8 hat8 hlt8 hb7 hb8
    simp only [List.getElem_toArray, List.getElem_cons_succ, List.getElem_cons_zero]
    go_wp2_with (fail)
    go_region_held_law (fun w' => w'.cell? ⟨sb, 0, none⟩ = some (.int .i64 0) ∧ w'.cell? ⟨sb, 1, none⟩ = some (.int .i64 1) ∧ w'.cell? ⟨sb, 2, none⟩ = some (.int .i64 2))
      (first | exact ⟨s0, s1, s2⟩ | exact ⟨keep hb11 s0, keep hb11 s1, keep hb11 s2⟩ | exact ⟨keep hb10 s0, keep hb10 s1, keep hb10 s2⟩ | exact ⟨keep (hb10.alloc hb10.size _) s0, keep (hb10.alloc hb10.size _) s1, keep (hb10.alloc hb10.size _) s2⟩ | exact ⟨keep (show Below w8.heap.size w8 _ from (by repeat (first | exact Below.refl _ _ | refine Below.alloc ?_ (by simp) _ | apply Below.drew))) s0, keep (show Below w8.heap.size w8 _ from (by repeat (first | exact Below.refl _ _ | refine Below.alloc ?_ (by simp) _ | apply Below.drew))) s1, keep (show Below w8.heap.size w8 _ from (by repeat (first | exact Below.refl _ _ | refine Below.alloc ?_ (by simp) _ | apply Below.drew))) s2⟩)
      (first
        | (refine step_appE rowM (by rfl) _ _ (by rfl) w8.heap.size _ 0 0 (v3 []) (by rfl) (by first | exact OwnM.empty_at (by simp) _ (by omega) | exact (OwnM.empty_at (by simp) _ (by omega)).alloc _) ⟨g, 0, none⟩ xs.length c (v3 xs) (by rfl) (v3_len _) (MarksAt.news (HM8.out.below (by repeat (first | exact Below.refl _ _ | refine Below.alloc ?_ (by simp) _ | apply Below.drew)))) (v3_one _) xs.length (Nat.zero_add _) (v3 xs) (List.nil_append _) (by omega) (by simp <;> omega) ?_
           intro g10 cap10 w10 hown10 hgrow10 hat10 hlt10
           have hb10 : Below w8.heap.size w8 w10 := Below.grown (show Below w8.heap.size w8 _ from (by repeat (first | exact Below.refl _ _ | refine Below.alloc ?_ (by simp) _ | apply Below.drew))) hgrow10 (by simp <;> omega) (fun k hk => by cases hk; simp <;> omega))
        | (refine step_appE rowM (by rfl) _ _ (by rfl) w8.heap.size g10 xs.length cap10 (v3 xs) (by rfl) (by first | exact hown10 | exact hown10.alloc _) _ 2 2 (v3 [(0, 1, 2), (2, 0, 0)]) (by rfl) (by rfl)
             (by first
               | exact cell6_at (by simp) _ _ _
               | exact fun j u hu => hgrow10.cell (cell6_at (by simp) _ _ _ j u hu) (fun e => by simp [addr_add] at e)
               | exact fun j u hu => hgrow10.cell (keep ((Below.refl _ _).alloc (Nat.le_refl _) _) (cell6_at (by simp) _ _ _ j u hu)) (fun e => by simp [addr_add] at e)) (v3_one _) (xs.length + 2) rfl (v3 (xs ++ [(0, 1, 2), (2, 0, 0)])) (v3_append _ _).symm (by omega) (by have := hb10.size; simp <;> omega) ?_
           intro g11 cap11 w11 hown11 hgrow11 hat11 hlt11
           have hb11 : Below w8.heap.size w8 w11 := Below.grown (by first | exact hb10 | exact hb10.alloc hb10.size _) hgrow11 (by have := hb10.size; simp <;> omega) (fun k hk => by cases hk; exact (hown10.lt _ rfl).1)))
    all_goals
      have HB11 := Lib.hid (HB8.out.trans (hb11.mono HB8.out.size))
      have HM11 := Lib.hid (HM8.out.below hb11)
      have HT11 := Lib.hid (HT8.out.below hb11)
      have HU11 := Lib.hid (OwnM.at_ hown11)
      clear hown10 hgrow10 hat10 hlt10 hown11 hgrow11 hat11 hlt11 hb10 hb11 s0 s1 s2
      simp only [List.getElem_toArray, List.getElem_cons_succ, List.getElem_cons_zero]
      go_wp2_with (first
        | (at_builtin; refine wpl_appE rowM rfl _ _ (by rfl) w11.heap.size _ 0 0 (v3 []) (by rfl) (OwnM.empty w11 _ (Nat.le_refl _)) ⟨g, 0, none⟩ xs.length c (v3 xs) (by rfl) (v3_len _) (MarksAt.news (HM11.out.below ((Below.refl _ _).alloc (Nat.le_refl _) _))) (v3_one _) xs.length (Nat.zero_add _) (v3 xs) (List.nil_append _) (by omega) (by simp) ?_
           intro g12 cap12 w12 hown12 hgrow12 hat12 hlt12
           have hb12 : Below w11.heap.size w11 w12 := Below.grown ((Below.refl _ _).alloc (Nat.le_refl _) _) hgrow12 (by simp) (fun k hk => by cases hk; exact Nat.le_refl _)
           have hs12 := hb12.size)
        | (at_builtin; refine wpl_appE rowM rfl _ _ (by rfl) w11.heap.size g12 xs.length cap12 (v3 xs) (by rfl) (hown12.alloc _) _ 1 1 (v3 [(3, 0, 5)]) (by rfl) (by rfl) (cell3_at (by simp) _ _) (v3_one _) (xs.length + 1) rfl (v3 (xs ++ [(3, 0, 5)])) (v3_append _ _).symm (by omega) (by simp <;> omega) ?_
           intro g13 cap13 w13 hown13 hgrow13 hat13 hlt13
           have hb13 : Below w11.heap.size w11 w13 := Below.grown (hb12.alloc hb12.size _) hgrow13 (by simp <;> omega) (fun k hk => by cases hk; exact (hown12.lt _ rfl).1)
           have HB13 := Lib.hid (HB11.out.trans (hb13.mono HB11.out.size))
           have HM13 := Lib.hid (HM11.out.below hb13)
           have HT13 := Lib.hid (HT11.out.below hb13)
           have HU13 := Lib.hid (HU11.out.below hb13)
           have HV13 := Lib.hid (OwnM.at_ hown13)
           clear hown12 hgrow12 hat12 hlt12 hown13 hgrow13 hat13 hlt13 hb12 hb13 hs12))
      refine kB (iTermOk_any _ 1 1 [(0, 0, 0)] _ (marks1_at (by simp) (0, 0, 0) _) (by omega)) ?_ (fun _ h _ => absurd tok_zero h.out)
      intro w14 _ hb14
      have hb14' : Below w13.heap.size w13 w14 := ((Below.refl _ _).alloc (Nat.le_refl _) _).trans (hb14.mono (by simp))
      have HB14 := Lib.hid (HB13.out.trans (hb14'.mono HB13.out.size))
      have HT14 := Lib.hid (HT13.out.below hb14')
      have HU14 := Lib.hid (HU13.out.below hb14')
      have HV14 := Lib.hid (HV13.out.below hb14')
      clear hb14 hb14'
      cases ok with
      | false =>
        go_wp2_with (fail)
        refine kBV (alive_any _) ?_
        intro w15 hb15
        go_wp2
        go_ret
        exact ⟨rfl, HB14.out.trans (hb15.mono HB14.out.size)⟩
      | true =>
        by_cases h9 : xs.length ≤ 9
        · have HX := Lib.hid (of_B HOK.out)
          have h9' : ¬ (9 : Int) < (xs.length : Int) := by omega
          have HP1 := Lib.hid (show TOk (xs ++ [(0, 1, 2), (1, 0, 0)]) from by
            obtain ⟨x, hx⟩ := HX.out
            exact ⟨_, tIs_two_step (show TIs xs x from hx) (.inl rfl) (by decide) (by decide) (by decide) h9⟩)
          have HP2 := Lib.hid (show TOk (xs ++ [(0, 1, 2), (2, 0, 0)]) from by
            obtain ⟨x, hx⟩ := HX.out
            exact ⟨_, tIs_two_step (show TIs xs x from hx) (.inr rfl) (by decide) (by decide) (by decide) h9⟩)
          have HP3 := Lib.hid (show TOk (xs ++ [(3, 0, 5)]) from by
            obtain ⟨x, hx⟩ := HX.out
            exact ⟨_, tIs_one (h := 5) (show TIs xs x from hx) (by decide) (by decide) (by omega)⟩)
          go_wp2_with (fail)
          refine kB (iTermOk_any _ (xs.length + 2) _ _ _ HT14.out (by omega)) ?_ (fun _ h _ => absurd HP1.out h.out)
          intro w15 _ hb15
          have HB15 := Lib.hid (HB14.out.trans (hb15.mono HB14.out.size))
          have HU15 := Lib.hid (HU14.out.below hb15)
          have HV15 := Lib.hid (HV14.out.below hb15)
          clear hb15
          go_wp2_with (fail)
          refine kB (iTermOk_any _ (xs.length + 2) _ _ _ HU15.out (by omega)) ?_ (fun _ h _ => absurd HP2.out h.out)
          intro w16 _ hb16
          have HB16 := Lib.hid (HB15.out.trans (hb16.mono HB15.out.size))
          have HV16 := Lib.hid (HV15.out.below hb16)
          clear hb16
          go_wp2_with (fail)
          refine kB (iTermOk_any _ (xs.length + 1) _ _ _ HV16.out (by omega)) ?_ (fun _ h _ => absurd HP3.out h.out)
          intro w17 _ hb17
          have HB17 := Lib.hid (HB16.out.trans (hb17.mono HB16.out.size))
          clear hb17
          go_wp2_with (fail)
          refine kBV (alive_any _) ?_
          intro w18 hb18
          go_wp2
          go_ret
          exact ⟨rfl, HB17.out.trans (hb18.mono HB17.out.size)⟩
        · have h9' : (9 : Int) < (xs.length : Int) := by omega
          go_wp2_with (fail)
          refine kBV (alive_any _) ?_
          intro w15 hb15
          go_wp2
          go_ret
          exact ⟨rfl, HB14.out.trans (hb15.mono HB14.out.size)⟩

end Go.Proofs.Ytookhelfbnhadaa
