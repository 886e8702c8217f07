/- The walk of FnDealOk: for every code the law returns true, and the code is left as it was. Printed by gen_ldeal.py. -/
import Derived.Test.YtopfhlopicjemaaDRE
import Derived.Test.YtopfhlopicjemaaD2
import Derived.Test.YtopfhlopicjemaaAL
import Derived.Test.YtopfhlopicjemaaDC
import Derived.Deep.DrawnRows
import Derived.Deep.RegionHeld3
import Derived.Deep.RegionLaw
namespace Go.Proofs.Ytopfhlopicjemaa
open Go.RowKit
attribute [local go_sem ↓] Go.wp_at_zero Go.wp_at_succ

theorem proms0 (w : World) : PromsAt w none 0 [] := ⟨rfl, fun h => absurd h (Nat.lt_irrefl 0)⟩
theorem dlOk_base {p : Int} {bs : List Bd} {ls : List Pm} (h : DlOk p bs ls) : DlOk p bs [] := ⟨h.1, h.2.1, by decide, fun j hj => absurd hj (Nat.not_lt_zero j)⟩
theorem dlOk_zero : ¬ DlOk 0 [] [] := fun h => plOk_zero h.1
theorem dlOk_take {p : Int} {bs : List Bd} {ls : List Pm} (h : DlOk p bs ls) (k : Nat) : DlOk p bs (ls.take k) := by
  have hg : ∀ j, j < k → (ls.take k).getD j (0, 0, 0, 0) = ls.getD j (0, 0, 0, 0) := fun j hj => by simp [List.getD, hj]
  refine ⟨h.1, h.2.1, by have := h.2.2.1; rw [List.length_take]; omega, fun j hj => ?_⟩
  rw [List.length_take] at hj
  have h1 := h.2.2.2 j (by omega)
  rw [hg j (by omega)]
  refine ⟨h1.1, fun i hi hij => ?_⟩
  rw [List.length_take] at hi
  rw [hg j (by omega), hg i (by omega)]
  exact h1.2 i (by omega) hij

set_option maxHeartbeats 1000000 in
theorem drawDealOk_any (A : Option Addr) (n c : Nat) (w : World) (h : BytsAt w w.heap.size A n) (hn : n ≤ 9223372036854775807) (hc : n ≤ c) :
    Calls Try.prog 39 #[.slice A n c] w fun e w' => ∃ (p : Int) (A : Option Addr) (n c : Nat) (bs : List Bd) (C : Option Addr) (m d : Nat) (ls : List Pm), e = .returned (.agg #[.int .i64 p, .slice A n c, .slice C m d]) ∧ n ≤ 9 ∧ m ≤ 4 ∧ m ≤ d ∧ BndsAt w' A n bs ∧ PromsAt w' C m ls ∧ Below w.heap.size w w' := by
  have HQ0 := Lib.hid (Blk.new w 66 #[.int .i64 0, .slice none 0 0, .slice none 0 0])
  have HA0 := Lib.hid ((Below.refl w.heap.size w).alloc (Nat.le_refl _) (.cells #[.int .i64 0, .slice none 0 0, .slice none 0 0] 66))
  have HBY := Lib.hid ((h.keep (w' := w.alloc (.cells #[.int .i64 0, .slice none 0 0, .slice none 0 0] 66)) (fun b hb => Below.heap_alloc w _ b hb)).older (R' := (w.alloc (.cells #[.int .i64 0, .slice none 0 0, .slice none 0 0] 66)).heap.size) HA0.out.size)
  go_enter Try.func39, Try.ntmps39
  go_wp2_with (fail)
  refine kOpen (open_any A n c _ HBY.out hn hc) ?_
  intro R w1 hR hr1 hb1
  have HQ1 := Lib.hid (HQ0.out.below hb1 HQ0.out.lt)
  have HB1 := Lib.hid (HA0.out.trans (hb1.mono HA0.out.size))
  go_wp2_with (fail)
  refine (l20Deal_any R 0 2 _ hr1 (by omega) (by omega)).mono ?_
  rintro e w2 ⟨p, A1, n1, c1, bs, C, m, d, ls, rfl, hn9, hm4, hmd, hfr, hm⟩
  have hR2 : w.heap.size < R := by have := hR; simp at this; omega
  have hw1 : w.heap.size < w1.heap.size := HQ1.out.lt
  have HQ2 := Lib.hid (show Blk w2 w.heap.size 66 #[.int .i64 0, .slice none 0 0, .slice none 0 0] from (hm.1.block _ hw1 (fun e => by cases e; omega)).trans HQ1.out)
  have HB := Lib.hid (hm.below_of HB1.out (Nat.le_of_lt hR2))
  have HF := Lib.hid hfr
  have q0 := (HQ2.out.cell 0).trans rfl
  have q1 := (HQ2.out.cell 1).trans rfl
  have q2 := (HQ2.out.cell 2).trans rfl
  have qf0 := HQ2.out.frozen 0
  have qf1 := HQ2.out.frozen 1
  have qf2 := HQ2.out.frozen 2
  have hwR : w.heap.size < w1.heap.size := hw1
  clear hfr hm hb1
  go_wp2
  have hfin := HF.out (((w2.setCell ⟨w.heap.size, 0, none⟩ (.int .i64 p)).setCell ⟨w.heap.size, 1, none⟩ (.slice A1 n1 c1)).setCell ⟨w.heap.size, 2, none⟩ (.slice C m d)) (fun k hk _ => ((Below.heap_setCell _ ⟨w.heap.size, 2, none⟩ _ k (by show k ≠ w.heap.size; omega)).trans (Below.heap_setCell _ ⟨w.heap.size, 1, none⟩ _ k (by show k ≠ w.heap.size; omega))).trans (Below.heap_setCell _ ⟨w.heap.size, 0, none⟩ _ k (by show k ≠ w.heap.size; omega)))
  refine bodyPost_ret (v := .agg #[.int .i64 p, .slice A1 n1 c1, .slice C m d]) (by simp [results, Try.results39, go_sem, q0, q1, q2]) rfl ⟨_, _, _, _, bs, _, _, _, ls, rfl, hn9, hm4, hmd, hfin.1, hfin.2, ((HB.out.setCell (Nat.le_refl _) _).setCell (Nat.le_refl _) _).setCell (Nat.le_refl _) _⟩

-- THE WALK
set_option maxRecDepth 100000 in
set_option maxHeartbeats 40000000 in
theorem FnDealOk_any (A0 : Option Addr) (n0 c0 : Nat) (w : World) (F0 : n0 ≤ 9223372036854775807 ∧ n0 ≤ c0 ∧ BytsAt w w.heap.size A0 n0) :
    Calls Try.prog 12 #[.slice A0 n0 c0] w fun e w' => e = .returned (.bool true) ∧ Below w.heap.size w w' := by
  obtain ⟨hm0, hc0, h0⟩ := F0
  by_cases hn : n0 ≤ 1048576
  rotate_left
  · go_enter Try.func12, Try.ntmps12
    go_wp2
    go_ret
    exact ⟨rfl, Below.refl _ _⟩
  go_enter Try.func12, Try.ntmps12
  go_wp2_with (fail)
  refine (drawDealOk_any A0 n0 c0 w h0 hm0 hc0).mono ?_
  rintro e w1 ⟨p, A, n, c, bs, C, m, d, ls, rfl, hn9, hm4, hmd, hi, hj, hb1⟩
  obtain ⟨w2, HW2⟩ : ∃ q, Hid (w1.alloc (.cells #[.int .i64 p, .slice A n c, .slice C m d] 66) = q) := ⟨_, rfl⟩
  have hb12 : Below w1.heap.size w1 w2 := HW2.out ▸ (Below.refl _ _).alloc (Nat.le_refl _) _
  have HB2 := Lib.hid (hb1.trans (hb12.mono hb1.size))
  have HI2 := Lib.hid (hi.below hb12)
  have HJ2 := Lib.hid (hj.below hb12)
  have p0 : w2.cell? ⟨w1.heap.size, 0, none⟩ = some (.int .i64 p) := HW2.out ▸ by simp [go_sem]
  have p1 : w2.cell? ⟨w1.heap.size, 1, none⟩ = some (.slice A n c) := HW2.out ▸ by simp [go_sem]
  have p2 : w2.cell? ⟨w1.heap.size, 2, none⟩ = some (.slice C m d) := HW2.out ▸ by simp [go_sem]
  have HNX := Lib.hid hi.len
  have HMY := Lib.hid hj.len
  obtain ⟨ok, HOK⟩ : ∃ q, Hid (B (DlOk p bs ls) = q) := ⟨_, rfl⟩
  have hi1 := iDealOk_any p A n c bs C m d ls w2 HI2.out HJ2.out (by omega) (by omega)
  rw [HOK.out] at hi1
  clear hi hj hb1 hb12
  go_wp2_with (fail)
  rw [HW2.out]
  obtain ⟨pb, HPB⟩ : ∃ q, Hid (w1.heap.size = q) := ⟨_, rfl⟩
  rw [HPB.out] at p0 p1 p2 ⊢
  refine kBV hi1 ?_
  intro w3 hb3
  clear hi1
  have HB3 := Lib.hid (HB2.out.trans (hb3.mono HB2.out.size))
  have HI3 := Lib.hid (HI2.out.below hb3)
  have HJ3 := Lib.hid (HJ2.out.below hb3)
  replace p0 := keep hb3 p0
  replace p1 := keep hb3 p1
  replace p2 := keep hb3 p2
  clear hb3
  have hi2 := sDealOk_any p A n c bs C m d ls w3 HI3.out HJ3.out (by omega) (by omega) 
  rw [HOK.out] at hi2
  go_wp2_with (fail)
  refine kBV hi2 ?_
  intro w4 hb4
  clear hi2
  have HB4 := Lib.hid (HB3.out.trans (hb4.mono HB3.out.size))
  have HI4 := Lib.hid (HI3.out.below hb4)
  have HJ4 := Lib.hid (HJ3.out.below hb4)
  replace p0 := keep hb4 p0
  replace p1 := keep hb4 p1
  replace p2 := keep hb4 p2
  have P0 := Lib.hid p0
  have P1 := Lib.hid p1
  have P2 := Lib.hid p2
  have hpb : pb < w4.heap.size := cell_lt p0
  clear hb4
  cases ok with
  | false =>
    go_wp2_with (fail)
    refine wp_region_held_drew (S := fun w' => w'.cell? ⟨pb, 0, none⟩ = some (.int .i64 p) ∧ w'.cell? ⟨pb, 1, none⟩ = some (.slice A n c) ∧ w'.cell? ⟨pb, 2, none⟩ = some (.slice C m d)) (by kernel_rfl) ?_ (fun hHeld => ?_)
    · (try dsimp only); first | exact ⟨p0, p1, p2⟩ | exact ⟨keep (show Below w4.heap.size w4 _ from (by repeat (first | exact Below.refl _ _ | exact hbD | exact hbC | exact hbB | exact hbA | refine Below.alloc ?_ (by first | (simp; done) | (have := hbA.size; simp <;> omega) | (have := hbB.size; simp <;> omega) | (have := hbC.size; simp <;> omega) | (have := hbD.size; simp <;> omega)) _ | apply Below.drew))) P0.out, keep (show Below w4.heap.size w4 _ from (by repeat (first | exact Below.refl _ _ | exact hbD | exact hbC | exact hbB | exact hbA | refine Below.alloc ?_ (by first | (simp; done) | (have := hbA.size; simp <;> omega) | (have := hbB.size; simp <;> omega) | (have := hbC.size; simp <;> omega) | (have := hbD.size; simp <;> omega)) _ | apply Below.drew))) P1.out, keep (show Below w4.heap.size w4 _ from (by repeat (first | exact Below.refl _ _ | exact hbD | exact hbC | exact hbB | exact hbA | refine Below.alloc ?_ (by first | (simp; done) | (have := hbA.size; simp <;> omega) | (have := hbB.size; simp <;> omega) | (have := hbC.size; simp <;> omega) | (have := hbD.size; simp <;> omega)) _ | apply Below.drew))) P2.out⟩
    refine wpAnyH_take (i := 0) (oi := _) (v := ?_) rfl (by kernel_rfl) (by kernel_rfl) (by kernel_rfl) (fun _ _ _ h => h) (Or.inl ⟨by kernel_rfl, ?_⟩) (by assumption) ?_
    rotate_left
    · (intro w hSw; (try dsimp only at hSw); go_simp; (try with_reducible rfl))
    try simp only [Act.put, List.getElem_toArray, List.getElem_cons_succ, List.getElem_cons_zero, List.setIfInBounds_toArray, List.set_cons_zero, List.set_cons_succ]
    refine wpAnyH_take (i := 1) (oi := _) (v := ?_) rfl (by kernel_rfl) (by kernel_rfl) (by kernel_rfl) (fun _ _ _ h => h) (Or.inl ⟨by kernel_rfl, ?_⟩) (by assumption) ?_
    rotate_left
    · (intro w hSw; (try dsimp only at hSw); go_simp; (try with_reducible rfl))
    try simp only [Act.put, List.getElem_toArray, List.getElem_cons_succ, List.getElem_cons_zero, List.setIfInBounds_toArray, List.set_cons_zero, List.set_cons_succ]
    refine wpAnyH_take (i := 2) (oi := _) (v := ?_) rfl (by kernel_rfl) (by kernel_rfl) (by kernel_rfl) (fun _ _ _ h => h) (Or.inl ⟨by kernel_rfl, ?_⟩) (by assumption) ?_
    rotate_left
    · (intro w hSw; (try dsimp only at hSw); go_simp; (try with_reducible rfl))
    try simp only [Act.put, List.getElem_toArray, List.getElem_cons_succ, List.getElem_cons_zero, List.setIfInBounds_toArray, List.set_cons_zero, List.set_cons_succ]
    refine wpAnyH_take (i := 3) (oi := _) (v := undef) rfl (by kernel_rfl) (by kernel_rfl) (by kernel_rfl) (fun _ _ _ h => h) (Or.inr ⟨by kernel_rfl, Eq.refl undef⟩) (by assumption) ?_
    try simp only [Act.put, List.getElem_toArray, List.getElem_cons_succ, List.getElem_cons_zero, List.setIfInBounds_toArray, List.set_cons_zero, List.set_cons_succ]
    refine wpAnyH_take (i := 4) (oi := _) (v := undef) rfl (by kernel_rfl) (by kernel_rfl) (by kernel_rfl) (fun _ _ _ h => h) (Or.inr ⟨by kernel_rfl, Eq.refl undef⟩) (by assumption) ?_
    try simp only [Act.put, List.getElem_toArray, List.getElem_cons_succ, List.getElem_cons_zero, List.setIfInBounds_toArray, List.set_cons_zero, List.set_cons_succ]
    refine wpAnyH_take (i := 5) (oi := _) (v := undef) rfl (by kernel_rfl) (by kernel_rfl) (by kernel_rfl) (fun _ _ _ h => h) (Or.inr ⟨by kernel_rfl, Eq.refl undef⟩) (by assumption) ?_
    try simp only [Act.put, List.getElem_toArray, List.getElem_cons_succ, List.getElem_cons_zero, List.setIfInBounds_toArray, List.set_cons_zero, List.set_cons_succ]
    refine wpAnyH_take (i := 6) (oi := _) (v := undef) rfl (by kernel_rfl) (by kernel_rfl) (by kernel_rfl) (fun _ _ _ h => h) (Or.inr ⟨by kernel_rfl, Eq.refl undef⟩) (by assumption) ?_
    try simp only [Act.put, List.getElem_toArray, List.getElem_cons_succ, List.getElem_cons_zero, List.setIfInBounds_toArray, List.set_cons_zero, List.set_cons_succ]
    refine wpAnyH_take (i := 7) (oi := _) (v := undef) rfl (by kernel_rfl) (by kernel_rfl) (by kernel_rfl) (fun _ _ _ h => h) (Or.inr ⟨by kernel_rfl, Eq.refl undef⟩) (by assumption) ?_
    try simp only [Act.put, List.getElem_toArray, List.getElem_cons_succ, List.getElem_cons_zero, List.setIfInBounds_toArray, List.set_cons_zero, List.set_cons_succ]
    refine wpAnyH_take (i := 8) (oi := _) (v := undef) rfl (by kernel_rfl) (by kernel_rfl) (by kernel_rfl) (fun _ _ _ h => h) (Or.inr ⟨by kernel_rfl, Eq.refl undef⟩) (by assumption) ?_
    try simp only [Act.put, List.getElem_toArray, List.getElem_cons_succ, List.getElem_cons_zero, List.setIfInBounds_toArray, List.set_cons_zero, List.set_cons_succ]
    refine wpAnyH_take (i := 9) (oi := _) (v := undef) rfl (by kernel_rfl) (by kernel_rfl) (by kernel_rfl) (fun _ _ _ h => h) (Or.inr ⟨by kernel_rfl, Eq.refl undef⟩) (by assumption) ?_
    try simp only [Act.put, List.getElem_toArray, List.getElem_cons_succ, List.getElem_cons_zero, List.setIfInBounds_toArray, List.set_cons_zero, List.set_cons_succ]
    refine wpAnyH_take (i := 10) (oi := _) (v := undef) rfl (by kernel_rfl) (by kernel_rfl) (by kernel_rfl) (fun _ _ _ h => h) (Or.inr ⟨by kernel_rfl, Eq.refl undef⟩) (by assumption) ?_
    try simp only [Act.put, List.getElem_toArray, List.getElem_cons_succ, List.getElem_cons_zero, List.setIfInBounds_toArray, List.set_cons_zero, List.set_cons_succ]
    refine wpAnyH_take (i := 11) (oi := _) (v := undef) rfl (by kernel_rfl) (by kernel_rfl) (by kernel_rfl) (fun _ _ _ h => h) (Or.inr ⟨by kernel_rfl, Eq.refl undef⟩) (by assumption) ?_
    try simp only [Act.put, List.getElem_toArray, List.getElem_cons_succ, List.getElem_cons_zero, List.setIfInBounds_toArray, List.set_cons_zero, List.set_cons_succ]
    refine wpAnyH_take (i := 12) (oi := _) (v := undef) rfl (by kernel_rfl) (by kernel_rfl) (by kernel_rfl) (fun _ _ _ h => h) (Or.inr ⟨by kernel_rfl, Eq.refl undef⟩) (by assumption) ?_
    try simp only [Act.put, List.getElem_toArray, List.getElem_cons_succ, List.getElem_cons_zero, List.setIfInBounds_toArray, List.set_cons_zero, List.set_cons_succ]
    refine wpAnyH_take (i := 13) (oi := _) (v := undef) rfl (by kernel_rfl) (by kernel_rfl) (by kernel_rfl) (fun _ _ _ h => h) (Or.inr ⟨by kernel_rfl, Eq.refl undef⟩) (by assumption) ?_
    try simp only [Act.put, List.getElem_toArray, List.getElem_cons_succ, List.getElem_cons_zero, List.setIfInBounds_toArray, List.set_cons_zero, List.set_cons_succ]
    refine wpAnyH_take (i := 14) (oi := _) (v := undef) rfl (by kernel_rfl) (by kernel_rfl) (by kernel_rfl) (fun _ _ _ h => h) (Or.inr ⟨by kernel_rfl, Eq.refl undef⟩) (by assumption) ?_
    try simp only [Act.put, List.getElem_toArray, List.getElem_cons_succ, List.getElem_cons_zero, List.setIfInBounds_toArray, List.set_cons_zero, List.set_cons_succ]
    refine wpAnyH_take (i := 15) (oi := _) (v := undef) rfl (by kernel_rfl) (by kernel_rfl) (by kernel_rfl) (fun _ _ _ h => h) (Or.inr ⟨by kernel_rfl, Eq.refl undef⟩) (by assumption) ?_
    try simp only [Act.put, List.getElem_toArray, List.getElem_cons_succ, List.getElem_cons_zero, List.setIfInBounds_toArray, List.set_cons_zero, List.set_cons_succ]
    refine wpAnyH_take (i := 16) (oi := _) (v := undef) rfl (by kernel_rfl) (by kernel_rfl) (by kernel_rfl) (fun _ _ _ h => h) (Or.inr ⟨by kernel_rfl, Eq.refl undef⟩) (by assumption) ?_
    try simp only [Act.put, List.getElem_toArray, List.getElem_cons_succ, List.getElem_cons_zero, List.setIfInBounds_toArray, List.set_cons_zero, List.set_cons_succ]
    refine wpAnyH_take (i := 17) (oi := _) (v := undef) rfl (by kernel_rfl) (by kernel_rfl) (by kernel_rfl) (fun _ _ _ h => h) (Or.inr ⟨by kernel_rfl, Eq.refl undef⟩) (by assumption) ?_
    try simp only [Act.put, List.getElem_toArray, List.getElem_cons_succ, List.getElem_cons_zero, List.setIfInBounds_toArray, List.set_cons_zero, List.set_cons_succ]
    refine wpAnyH_take (i := 18) (oi := _) (v := undef) rfl (by kernel_rfl) (by kernel_rfl) (by kernel_rfl) (fun _ _ _ h => h) (Or.inr ⟨by kernel_rfl, Eq.refl undef⟩) (by assumption) ?_
    try simp only [Act.put, List.getElem_toArray, List.getElem_cons_succ, List.getElem_cons_zero, List.setIfInBounds_toArray, List.set_cons_zero, List.set_cons_succ]
    refine wpAnyH_take (i := 19) (oi := _) (v := undef) rfl (by kernel_rfl) (by kernel_rfl) (by kernel_rfl) (fun _ _ _ h => h) (Or.inr ⟨by kernel_rfl, Eq.refl undef⟩) (by assumption) ?_
    try simp only [Act.put, List.getElem_toArray, List.getElem_cons_succ, List.getElem_cons_zero, List.setIfInBounds_toArray, List.set_cons_zero, List.set_cons_succ]
    refine wpAnyH_take (i := 20) (oi := _) (v := undef) rfl (by kernel_rfl) (by kernel_rfl) (by kernel_rfl) (fun _ _ _ h => h) (Or.inr ⟨by kernel_rfl, Eq.refl undef⟩) (by assumption) ?_
    try simp only [Act.put, List.getElem_toArray, List.getElem_cons_succ, List.getElem_cons_zero, List.setIfInBounds_toArray, List.set_cons_zero, List.set_cons_succ]
    refine wpAnyH_take (i := 21) (oi := _) (v := ?_) rfl (by kernel_rfl) (by kernel_rfl) (by kernel_rfl) (fun _ _ _ h => h) (Or.inl ⟨by kernel_rfl, ?_⟩) (by assumption) ?_
    rotate_left
    · (intro w hSw; (try dsimp only at hSw); go_simp; (try with_reducible rfl))
    try simp only [Act.put, List.getElem_toArray, List.getElem_cons_succ, List.getElem_cons_zero, List.setIfInBounds_toArray, List.set_cons_zero, List.set_cons_succ]
    refine wpAnyH_take (i := 22) (oi := _) (v := ?_) rfl (by kernel_rfl) (by kernel_rfl) (by kernel_rfl) (fun _ _ _ h => h) (Or.inl ⟨by kernel_rfl, ?_⟩) (by assumption) ?_
    rotate_left
    · (intro w hSw; (try dsimp only at hSw); go_simp; (try with_reducible rfl))
    try simp only [Act.put, List.getElem_toArray, List.getElem_cons_succ, List.getElem_cons_zero, List.setIfInBounds_toArray, List.set_cons_zero, List.set_cons_succ]
    refine wpAnyH_take (i := 23) (oi := _) (v := ?_) rfl (by kernel_rfl) (by kernel_rfl) (by kernel_rfl) (fun _ _ _ h => h) (Or.inl ⟨by kernel_rfl, ?_⟩) (by assumption) ?_
    rotate_left
    · (intro w hSw; (try dsimp only at hSw); go_simp; (try with_reducible rfl))
    try simp only [Act.put, List.getElem_toArray, List.getElem_cons_succ, List.getElem_cons_zero, List.setIfInBounds_toArray, List.set_cons_zero, List.set_cons_succ]
    refine wpAnyH_ready (rs := [24]) (by kernel_rfl) (by simp) ?_
    refine AllReadyH.cons (o := _) rfl (fun K hK => ?_) (AllReadyH.nil)
    go_simp
    go_at_call 40; with_reducible refine kB (iDealOk_any 0 none 0 0 [] none 0 0 [] _ (bnds0 _) (proms0 _) (by omega) (by omega)) (fun _ h _ => absurd h.out dlOk_zero) ?_
    intro wB _ hbB'
    have hbB : Below w4.heap.size w4 wB := Below.trans (show Below w4.heap.size w4 _ from (by repeat (first | exact Below.refl _ _ | exact hbD | exact hbC | exact hbB | exact hbA | refine Below.alloc ?_ (by first | (simp; done) | (have := hbA.size; simp <;> omega) | (have := hbB.size; simp <;> omega) | (have := hbC.size; simp <;> omega) | (have := hbD.size; simp <;> omega)) _ | apply Below.drew))) (hbB'.mono (by first | (simp; done) | (have := hbA.size; simp <;> omega) | (have := hbB.size; simp <;> omega) | (have := hbC.size; simp <;> omega) | (have := hbD.size; simp <;> omega)))
    go_wp2_with fail
    refine hK.out _ _ ?_ (fun hHeld => ?_)
    · (try dsimp only); first | exact ⟨p0, p1, p2⟩ | exact ⟨keep (show Below w4.heap.size w4 _ from (by repeat (first | exact Below.refl _ _ | exact hbD | exact hbC | exact hbB | exact hbA | refine Below.alloc ?_ (by first | (simp; done) | (have := hbA.size; simp <;> omega) | (have := hbB.size; simp <;> omega) | (have := hbC.size; simp <;> omega) | (have := hbD.size; simp <;> omega)) _ | apply Below.drew))) P0.out, keep (show Below w4.heap.size w4 _ from (by repeat (first | exact Below.refl _ _ | exact hbD | exact hbC | exact hbB | exact hbA | refine Below.alloc ?_ (by first | (simp; done) | (have := hbA.size; simp <;> omega) | (have := hbB.size; simp <;> omega) | (have := hbC.size; simp <;> omega) | (have := hbD.size; simp <;> omega)) _ | apply Below.drew))) P1.out, keep (show Below w4.heap.size w4 _ from (by repeat (first | exact Below.refl _ _ | exact hbD | exact hbC | exact hbB | exact hbA | refine Below.alloc ?_ (by first | (simp; done) | (have := hbA.size; simp <;> omega) | (have := hbB.size; simp <;> omega) | (have := hbC.size; simp <;> omega) | (have := hbD.size; simp <;> omega)) _ | apply Below.drew))) P2.out⟩
    clear hK K
    try simp only [Act.put, List.getElem_toArray, List.getElem_cons_succ, List.getElem_cons_zero, List.setIfInBounds_toArray, List.set_cons_zero, List.set_cons_succ]
    refine wpAnyH_take (i := 25) (oi := _) (v := ?_) rfl (by kernel_rfl) (by kernel_rfl) (by kernel_rfl) (fun _ _ _ h => h) (Or.inl ⟨by kernel_rfl, ?_⟩) (by assumption) ?_
    rotate_left
    · (intro w hSw; (try dsimp only at hSw); go_simp; (try with_reducible rfl))
    try simp only [Act.put, List.getElem_toArray, List.getElem_cons_succ, List.getElem_cons_zero, List.setIfInBounds_toArray, List.set_cons_zero, List.set_cons_succ]
    refine wpAnyH_take (i := 26) (oi := _) (v := ?_) rfl (by kernel_rfl) (by kernel_rfl) (by kernel_rfl) (fun _ _ _ h => h) (Or.inl ⟨by kernel_rfl, ?_⟩) (by assumption) ?_
    rotate_left
    · (intro w hSw; (try dsimp only at hSw); go_simp; (try with_reducible rfl))
    try simp only [Act.put, List.getElem_toArray, List.getElem_cons_succ, List.getElem_cons_zero, List.setIfInBounds_toArray, List.set_cons_zero, List.set_cons_succ]
    refine wpAnyH_take (i := 27) (oi := _) (v := ?_) rfl (by kernel_rfl) (by kernel_rfl) (by kernel_rfl) (fun _ _ _ h => h) (Or.inl ⟨by kernel_rfl, ?_⟩) (by assumption) ?_
    rotate_left
    · (intro w hSw; (try dsimp only at hSw); go_simp; (try with_reducible rfl))
    try simp only [Act.put, List.getElem_toArray, List.getElem_cons_succ, List.getElem_cons_zero, List.setIfInBounds_toArray, List.set_cons_zero, List.set_cons_succ]
    refine wpAnyH_ready (rs := [28]) (by kernel_rfl) (by simp) ?_
    refine AllReadyH.cons (o := _) rfl (fun K hK => ?_) (AllReadyH.nil)
    go_simp
    go_at_call 27; with_reducible refine kBV (alive_any _) ?_
    intro wD hbD'
    have hbD : Below w4.heap.size w4 wD := Below.trans (show Below w4.heap.size w4 _ from (by repeat (first | exact Below.refl _ _ | exact hbD | exact hbC | exact hbB | exact hbA | refine Below.alloc ?_ (by first | (simp; done) | (have := hbA.size; simp <;> omega) | (have := hbB.size; simp <;> omega) | (have := hbC.size; simp <;> omega) | (have := hbD.size; simp <;> omega)) _ | apply Below.drew))) (hbD'.mono (by first | (simp; done) | (have := hbA.size; simp <;> omega) | (have := hbB.size; simp <;> omega) | (have := hbC.size; simp <;> omega) | (have := hbD.size; simp <;> omega)))
    go_wp2_with fail
    refine hK.out _ _ ?_ (fun hHeld => ?_)
    · (try dsimp only); first | exact ⟨p0, p1, p2⟩ | exact ⟨keep (show Below w4.heap.size w4 _ from (by repeat (first | exact Below.refl _ _ | exact hbD | exact hbC | exact hbB | exact hbA | refine Below.alloc ?_ (by first | (simp; done) | (have := hbA.size; simp <;> omega) | (have := hbB.size; simp <;> omega) | (have := hbC.size; simp <;> omega) | (have := hbD.size; simp <;> omega)) _ | apply Below.drew))) P0.out, keep (show Below w4.heap.size w4 _ from (by repeat (first | exact Below.refl _ _ | exact hbD | exact hbC | exact hbB | exact hbA | refine Below.alloc ?_ (by first | (simp; done) | (have := hbA.size; simp <;> omega) | (have := hbB.size; simp <;> omega) | (have := hbC.size; simp <;> omega) | (have := hbD.size; simp <;> omega)) _ | apply Below.drew))) P1.out, keep (show Below w4.heap.size w4 _ from (by repeat (first | exact Below.refl _ _ | exact hbD | exact hbC | exact hbB | exact hbA | refine Below.alloc ?_ (by first | (simp; done) | (have := hbA.size; simp <;> omega) | (have := hbB.size; simp <;> omega) | (have := hbC.size; simp <;> omega) | (have := hbD.size; simp <;> omega)) _ | apply Below.drew))) P2.out⟩
    clear hK K
    try simp only [Act.put, List.getElem_toArray, List.getElem_cons_succ, List.getElem_cons_zero, List.setIfInBounds_toArray, List.set_cons_zero, List.set_cons_succ]
    refine wpAnyH_take (i := 29) (oi := _) (v := ?_) rfl (by kernel_rfl) (by kernel_rfl) (by kernel_rfl) (fun _ _ _ h => h) (Or.inl ⟨by kernel_rfl, ?_⟩) (by assumption) ?_
    rotate_left
    · (intro w hSw; (try dsimp only at hSw); go_simp; (try with_reducible rfl))
    try simp only [Act.put, List.getElem_toArray, List.getElem_cons_succ, List.getElem_cons_zero, List.setIfInBounds_toArray, List.set_cons_zero, List.set_cons_succ]
    refine wpAnyH_take (i := 30) (oi := _) (v := ?_) rfl (by kernel_rfl) (by kernel_rfl) (by kernel_rfl) (fun _ _ _ h => h) (Or.inl ⟨by kernel_rfl, ?_⟩) (by assumption) ?_
    rotate_left
    · (intro w hSw; (try dsimp only at hSw); go_simp; (try with_reducible rfl))
    try simp only [Act.put, List.getElem_toArray, List.getElem_cons_succ, List.getElem_cons_zero, List.setIfInBounds_toArray, List.set_cons_zero, List.set_cons_succ]
    refine wpAnyH_done (by kernel_rfl) ?_ _
    go_wp2
    go_ret
    exact ⟨rfl, HB4.out.trans (hbD.mono HB4.out.size)⟩
  | true =>
    have HPK := Lib.hid (of_B HOK.out)
    by_cases hm0 : m = 0
    · subst hm0
      go_wp2_with (fail)
      refine wp_region_held_drew (S := fun w' => w'.cell? ⟨pb, 0, none⟩ = some (.int .i64 p) ∧ w'.cell? ⟨pb, 1, none⟩ = some (.slice A n c) ∧ w'.cell? ⟨pb, 2, none⟩ = some (.slice C 0 d)) (by kernel_rfl) ?_ (fun hHeld => ?_)
      · (try dsimp only); first | exact ⟨p0, p1, p2⟩ | exact ⟨keep (show Below w4.heap.size w4 _ from (by repeat (first | exact Below.refl _ _ | exact hbD | exact hbC | exact hbB | exact hbA | refine Below.alloc ?_ (by first | (simp; done) | (have := hbA.size; simp <;> omega) | (have := hbB.size; simp <;> omega) | (have := hbC.size; simp <;> omega) | (have := hbD.size; simp <;> omega)) _ | apply Below.drew))) P0.out, keep (show Below w4.heap.size w4 _ from (by repeat (first | exact Below.refl _ _ | exact hbD | exact hbC | exact hbB | exact hbA | refine Below.alloc ?_ (by first | (simp; done) | (have := hbA.size; simp <;> omega) | (have := hbB.size; simp <;> omega) | (have := hbC.size; simp <;> omega) | (have := hbD.size; simp <;> omega)) _ | apply Below.drew))) P1.out, keep (show Below w4.heap.size w4 _ from (by repeat (first | exact Below.refl _ _ | exact hbD | exact hbC | exact hbB | exact hbA | refine Below.alloc ?_ (by first | (simp; done) | (have := hbA.size; simp <;> omega) | (have := hbB.size; simp <;> omega) | (have := hbC.size; simp <;> omega) | (have := hbD.size; simp <;> omega)) _ | apply Below.drew))) P2.out⟩
      refine wpAnyH_take (i := 0) (oi := _) (v := ?_) rfl (by kernel_rfl) (by kernel_rfl) (by kernel_rfl) (fun _ _ _ h => h) (Or.inl ⟨by kernel_rfl, ?_⟩) (by assumption) ?_
      rotate_left
      · (intro w hSw; (try dsimp only at hSw); go_simp; (try with_reducible rfl))
      try simp only [Act.put, List.getElem_toArray, List.getElem_cons_succ, List.getElem_cons_zero, List.setIfInBounds_toArray, List.set_cons_zero, List.set_cons_succ]
      refine wpAnyH_take (i := 1) (oi := _) (v := ?_) rfl (by kernel_rfl) (by kernel_rfl) (by kernel_rfl) (fun _ _ _ h => h) (Or.inl ⟨by kernel_rfl, ?_⟩) (by assumption) ?_
      rotate_left
      · (intro w hSw; (try dsimp only at hSw); go_simp; (try with_reducible rfl))
      try simp only [Act.put, List.getElem_toArray, List.getElem_cons_succ, List.getElem_cons_zero, List.setIfInBounds_toArray, List.set_cons_zero, List.set_cons_succ]
      refine wpAnyH_take (i := 2) (oi := _) (v := ?_) rfl (by kernel_rfl) (by kernel_rfl) (by kernel_rfl) (fun _ _ _ h => h) (Or.inl ⟨by kernel_rfl, ?_⟩) (by assumption) ?_
      rotate_left
      · (intro w hSw; (try dsimp only at hSw); go_simp; (try with_reducible rfl))
      try simp only [Act.put, List.getElem_toArray, List.getElem_cons_succ, List.getElem_cons_zero, List.setIfInBounds_toArray, List.set_cons_zero, List.set_cons_succ]
      refine wpAnyH_take (i := 3) (oi := _) (v := ?_) rfl (by kernel_rfl) (by kernel_rfl) (by kernel_rfl) (fun _ _ _ h => h) (Or.inl ⟨by kernel_rfl, ?_⟩) (by assumption) ?_
      rotate_left
      · (intro w hSw; (try dsimp only at hSw); go_simp; (try with_reducible rfl))
      try simp only [Act.put, List.getElem_toArray, List.getElem_cons_succ, List.getElem_cons_zero, List.setIfInBounds_toArray, List.set_cons_zero, List.set_cons_succ]
      refine wpAnyH_take (i := 4) (oi := _) (v := ?_) rfl (by kernel_rfl) (by kernel_rfl) (by kernel_rfl) (fun _ _ _ h => h) (Or.inl ⟨by kernel_rfl, ?_⟩) (by assumption) ?_
      rotate_left
      · (intro w hSw; (try dsimp only at hSw); go_simp; (try with_reducible rfl))
      try simp only [Act.put, List.getElem_toArray, List.getElem_cons_succ, List.getElem_cons_zero, List.setIfInBounds_toArray, List.set_cons_zero, List.set_cons_succ]
      refine wpAnyH_take (i := 5) (oi := _) (v := ?_) rfl (by kernel_rfl) (by kernel_rfl) (by kernel_rfl) (fun _ _ _ h => h) (Or.inl ⟨by kernel_rfl, ?_⟩) (by assumption) ?_
      rotate_left
      · (intro w hSw; (try dsimp only at hSw); go_simp; (try with_reducible rfl))
      try simp only [Act.put, List.getElem_toArray, List.getElem_cons_succ, List.getElem_cons_zero, List.setIfInBounds_toArray, List.set_cons_zero, List.set_cons_succ]
      refine wpAnyH_ready (rs := [6]) (by kernel_rfl) (by simp) ?_
      refine AllReadyH.cons (o := _) rfl (fun K hK => ?_) (AllReadyH.nil)
      go_simp
      go_at_call 40; with_reducible refine kB (iDealOk_any p A n c bs none 0 0 [] _ (HI4.out.below (by repeat (first | exact Below.refl _ _ | exact hbD | exact hbC | exact hbB | exact hbA | refine Below.alloc ?_ (by first | (simp; done) | (have := hbA.size; simp <;> omega) | (have := hbB.size; simp <;> omega) | (have := hbC.size; simp <;> omega) | (have := hbD.size; simp <;> omega)) _ | apply Below.drew))) (proms0 _) (by omega) (by omega)) ?_ (fun _ h _ => absurd (dlOk_base HPK.out) h.out)
      intro wA _ hbA'
      have hbA : Below w4.heap.size w4 wA := Below.trans (show Below w4.heap.size w4 _ from (by repeat (first | exact Below.refl _ _ | exact hbD | exact hbC | exact hbB | exact hbA | refine Below.alloc ?_ (by first | (simp; done) | (have := hbA.size; simp <;> omega) | (have := hbB.size; simp <;> omega) | (have := hbC.size; simp <;> omega) | (have := hbD.size; simp <;> omega)) _ | apply Below.drew))) (hbA'.mono (by first | (simp; done) | (have := hbA.size; simp <;> omega) | (have := hbB.size; simp <;> omega) | (have := hbC.size; simp <;> omega) | (have := hbD.size; simp <;> omega)))
      go_wp2_with fail
      refine hK.out _ _ ?_ (fun hHeld => ?_)
      · (try dsimp only); first | exact ⟨p0, p1, p2⟩ | exact ⟨keep (show Below w4.heap.size w4 _ from (by repeat (first | exact Below.refl _ _ | exact hbD | exact hbC | exact hbB | exact hbA | refine Below.alloc ?_ (by first | (simp; done) | (have := hbA.size; simp <;> omega) | (have := hbB.size; simp <;> omega) | (have := hbC.size; simp <;> omega) | (have := hbD.size; simp <;> omega)) _ | apply Below.drew))) P0.out, keep (show Below w4.heap.size w4 _ from (by repeat (first | exact Below.refl _ _ | exact hbD | exact hbC | exact hbB | exact hbA | refine Below.alloc ?_ (by first | (simp; done) | (have := hbA.size; simp <;> omega) | (have := hbB.size; simp <;> omega) | (have := hbC.size; simp <;> omega) | (have := hbD.size; simp <;> omega)) _ | apply Below.drew))) P1.out, keep (show Below w4.heap.size w4 _ from (by repeat (first | exact Below.refl _ _ | exact hbD | exact hbC | exact hbB | exact hbA | refine Below.alloc ?_ (by first | (simp; done) | (have := hbA.size; simp <;> omega) | (have := hbB.size; simp <;> omega) | (have := hbC.size; simp <;> omega) | (have := hbD.size; simp <;> omega)) _ | apply Below.drew))) P2.out⟩
      clear hK K
      try simp only [Act.put, List.getElem_toArray, List.getElem_cons_succ, List.getElem_cons_zero, List.setIfInBounds_toArray, List.set_cons_zero, List.set_cons_succ]
      refine wpAnyH_take (i := 7) (oi := _) (v := ?_) rfl (by kernel_rfl) (by kernel_rfl) (by kernel_rfl) (fun _ _ _ h => h) (Or.inl ⟨by kernel_rfl, ?_⟩) (by assumption) ?_
      rotate_left
      · (intro w hSw; (try dsimp only at hSw); go_simp; (try with_reducible rfl))
      try simp only [Act.put, List.getElem_toArray, List.getElem_cons_succ, List.getElem_cons_zero, List.setIfInBounds_toArray, List.set_cons_zero, List.set_cons_succ]
      refine wpAnyH_take (i := 8) (oi := _) (v := ?_) rfl (by kernel_rfl) (by kernel_rfl) (by kernel_rfl) (fun _ _ _ h => h) (Or.inl ⟨by kernel_rfl, ?_⟩) (by assumption) ?_
      rotate_left
      · (intro w hSw; (try dsimp only at hSw); go_simp; (try with_reducible rfl))
      try simp only [Act.put, List.getElem_toArray, List.getElem_cons_succ, List.getElem_cons_zero, List.setIfInBounds_toArray, List.set_cons_zero, List.set_cons_succ]
      refine wpAnyH_take (i := 9) (oi := _) (v := ?_) rfl (by kernel_rfl) (by kernel_rfl) (by kernel_rfl) (fun _ _ _ h => h) (Or.inl ⟨by kernel_rfl, ?_⟩) (by assumption) ?_
      rotate_left
      · (intro w hSw; (try dsimp only at hSw); go_simp; (try with_reducible rfl))
      try simp only [Act.put, List.getElem_toArray, List.getElem_cons_succ, List.getElem_cons_zero, List.setIfInBounds_toArray, List.set_cons_zero, List.set_cons_succ]
      refine wpAnyH_take (i := 10) (oi := _) (v := ?_) rfl (by kernel_rfl) (by kernel_rfl) (by kernel_rfl) (fun _ _ _ h => h) (Or.inl ⟨by kernel_rfl, ?_⟩) (by assumption) ?_
      rotate_left
      · (intro w hSw; (try dsimp only at hSw); go_simp; (try with_reducible rfl))
      try simp only [Act.put, List.getElem_toArray, List.getElem_cons_succ, List.getElem_cons_zero, List.setIfInBounds_toArray, List.set_cons_zero, List.set_cons_succ]
      refine wpAnyH_take (i := 11) (oi := _) (v := undef) rfl (by kernel_rfl) (by kernel_rfl) (by kernel_rfl) (fun _ _ _ h => h) (Or.inr ⟨by kernel_rfl, Eq.refl undef⟩) (by assumption) ?_
      try simp only [Act.put, List.getElem_toArray, List.getElem_cons_succ, List.getElem_cons_zero, List.setIfInBounds_toArray, List.set_cons_zero, List.set_cons_succ]
      refine wpAnyH_take (i := 12) (oi := _) (v := undef) rfl (by kernel_rfl) (by kernel_rfl) (by kernel_rfl) (fun _ _ _ h => h) (Or.inr ⟨by kernel_rfl, Eq.refl undef⟩) (by assumption) ?_
      try simp only [Act.put, List.getElem_toArray, List.getElem_cons_succ, List.getElem_cons_zero, List.setIfInBounds_toArray, List.set_cons_zero, List.set_cons_succ]
      refine wpAnyH_take (i := 13) (oi := _) (v := undef) rfl (by kernel_rfl) (by kernel_rfl) (by kernel_rfl) (fun _ _ _ h => h) (Or.inr ⟨by kernel_rfl, Eq.refl undef⟩) (by assumption) ?_
      try simp only [Act.put, List.getElem_toArray, List.getElem_cons_succ, List.getElem_cons_zero, List.setIfInBounds_toArray, List.set_cons_zero, List.set_cons_succ]
      refine wpAnyH_take (i := 14) (oi := _) (v := undef) rfl (by kernel_rfl) (by kernel_rfl) (by kernel_rfl) (fun _ _ _ h => h) (Or.inr ⟨by kernel_rfl, Eq.refl undef⟩) (by assumption) ?_
      try simp only [Act.put, List.getElem_toArray, List.getElem_cons_succ, List.getElem_cons_zero, List.setIfInBounds_toArray, List.set_cons_zero, List.set_cons_succ]
      refine wpAnyH_take (i := 15) (oi := _) (v := undef) rfl (by kernel_rfl) (by kernel_rfl) (by kernel_rfl) (fun _ _ _ h => h) (Or.inr ⟨by kernel_rfl, Eq.refl undef⟩) (by assumption) ?_
      try simp only [Act.put, List.getElem_toArray, List.getElem_cons_succ, List.getElem_cons_zero, List.setIfInBounds_toArray, List.set_cons_zero, List.set_cons_succ]
      refine wpAnyH_take (i := 16) (oi := _) (v := undef) rfl (by kernel_rfl) (by kernel_rfl) (by kernel_rfl) (fun _ _ _ h => h) (Or.inr ⟨by kernel_rfl, Eq.refl undef⟩) (by assumption) ?_
      try simp only [Act.put, List.getElem_toArray, List.getElem_cons_succ, List.getElem_cons_zero, List.setIfInBounds_toArray, List.set_cons_zero, List.set_cons_succ]
      refine wpAnyH_take (i := 17) (oi := _) (v := undef) rfl (by kernel_rfl) (by kernel_rfl) (by kernel_rfl) (fun _ _ _ h => h) (Or.inr ⟨by kernel_rfl, Eq.refl undef⟩) (by assumption) ?_
      try simp only [Act.put, List.getElem_toArray, List.getElem_cons_succ, List.getElem_cons_zero, List.setIfInBounds_toArray, List.set_cons_zero, List.set_cons_succ]
      refine wpAnyH_take (i := 18) (oi := _) (v := undef) rfl (by kernel_rfl) (by kernel_rfl) (by kernel_rfl) (fun _ _ _ h => h) (Or.inr ⟨by kernel_rfl, Eq.refl undef⟩) (by assumption) ?_
      try simp only [Act.put, List.getElem_toArray, List.getElem_cons_succ, List.getElem_cons_zero, List.setIfInBounds_toArray, List.set_cons_zero, List.set_cons_succ]
      refine wpAnyH_take (i := 19) (oi := _) (v := ?_) rfl (by kernel_rfl) (by kernel_rfl) (by kernel_rfl) (fun _ _ _ h => h) (Or.inl ⟨by kernel_rfl, ?_⟩) (by assumption) ?_
      rotate_left
      · (intro w hSw; (try dsimp only at hSw); go_simp; (try with_reducible rfl))
      try simp only [Act.put, List.getElem_toArray, List.getElem_cons_succ, List.getElem_cons_zero, List.setIfInBounds_toArray, List.set_cons_zero, List.set_cons_succ]
      refine wpAnyH_take (i := 20) (oi := _) (v := ?_) rfl (by kernel_rfl) (by kernel_rfl) (by kernel_rfl) (fun _ _ _ h => h) (Or.inl ⟨by kernel_rfl, ?_⟩) (by assumption) ?_
      rotate_left
      · (intro w hSw; (try dsimp only at hSw); go_simp; (try with_reducible rfl))
      try simp only [Act.put, List.getElem_toArray, List.getElem_cons_succ, List.getElem_cons_zero, List.setIfInBounds_toArray, List.set_cons_zero, List.set_cons_succ]
      refine wpAnyH_take (i := 21) (oi := _) (v := ?_) rfl (by kernel_rfl) (by kernel_rfl) (by kernel_rfl) (fun _ _ _ h => h) (Or.inl ⟨by kernel_rfl, ?_⟩) (by assumption) ?_
      rotate_left
      · (intro w hSw; (try dsimp only at hSw); go_simp; (try with_reducible rfl))
      try simp only [Act.put, List.getElem_toArray, List.getElem_cons_succ, List.getElem_cons_zero, List.setIfInBounds_toArray, List.set_cons_zero, List.set_cons_succ]
      refine wpAnyH_take (i := 22) (oi := _) (v := ?_) rfl (by kernel_rfl) (by kernel_rfl) (by kernel_rfl) (fun _ _ _ h => h) (Or.inl ⟨by kernel_rfl, ?_⟩) (by assumption) ?_
      rotate_left
      · (intro w hSw; (try dsimp only at hSw); go_simp; (try with_reducible rfl))
      try simp only [Act.put, List.getElem_toArray, List.getElem_cons_succ, List.getElem_cons_zero, List.setIfInBounds_toArray, List.set_cons_zero, List.set_cons_succ]
      refine wpAnyH_take (i := 23) (oi := _) (v := ?_) rfl (by kernel_rfl) (by kernel_rfl) (by kernel_rfl) (fun _ _ _ h => h) (Or.inl ⟨by kernel_rfl, ?_⟩) (by assumption) ?_
      rotate_left
      · (intro w hSw; (try dsimp only at hSw); go_simp; (try with_reducible rfl))
      try simp only [Act.put, List.getElem_toArray, List.getElem_cons_succ, List.getElem_cons_zero, List.setIfInBounds_toArray, List.set_cons_zero, List.set_cons_succ]
      refine wpAnyH_ready (rs := [24]) (by kernel_rfl) (by simp) ?_
      refine AllReadyH.cons (o := _) rfl (fun K hK => ?_) (AllReadyH.nil)
      go_simp
      go_at_call 40; with_reducible refine kB (iDealOk_any 0 none 0 0 [] none 0 0 [] _ (bnds0 _) (proms0 _) (by omega) (by omega)) (fun _ h _ => absurd h.out dlOk_zero) ?_
      intro wB _ hbB'
      have hbB : Below w4.heap.size w4 wB := Below.trans (show Below w4.heap.size w4 _ from (by repeat (first | exact Below.refl _ _ | exact hbD | exact hbC | exact hbB | exact hbA | refine Below.alloc ?_ (by first | (simp; done) | (have := hbA.size; simp <;> omega) | (have := hbB.size; simp <;> omega) | (have := hbC.size; simp <;> omega) | (have := hbD.size; simp <;> omega)) _ | apply Below.drew))) (hbB'.mono (by first | (simp; done) | (have := hbA.size; simp <;> omega) | (have := hbB.size; simp <;> omega) | (have := hbC.size; simp <;> omega) | (have := hbD.size; simp <;> omega)))
      go_wp2_with fail
      refine hK.out _ _ ?_ (fun hHeld => ?_)
      · (try dsimp only); first | exact ⟨p0, p1, p2⟩ | exact ⟨keep (show Below w4.heap.size w4 _ from (by repeat (first | exact Below.refl _ _ | exact hbD | exact hbC | exact hbB | exact hbA | refine Below.alloc ?_ (by first | (simp; done) | (have := hbA.size; simp <;> omega) | (have := hbB.size; simp <;> omega) | (have := hbC.size; simp <;> omega) | (have := hbD.size; simp <;> omega)) _ | apply Below.drew))) P0.out, keep (show Below w4.heap.size w4 _ from (by repeat (first | exact Below.refl _ _ | exact hbD | exact hbC | exact hbB | exact hbA | refine Below.alloc ?_ (by first | (simp; done) | (have := hbA.size; simp <;> omega) | (have := hbB.size; simp <;> omega) | (have := hbC.size; simp <;> omega) | (have := hbD.size; simp <;> omega)) _ | apply Below.drew))) P1.out, keep (show Below w4.heap.size w4 _ from (by repeat (first | exact Below.refl _ _ | exact hbD | exact hbC | exact hbB | exact hbA | refine Below.alloc ?_ (by first | (simp; done) | (have := hbA.size; simp <;> omega) | (have := hbB.size; simp <;> omega) | (have := hbC.size; simp <;> omega) | (have := hbD.size; simp <;> omega)) _ | apply Below.drew))) P2.out⟩
      clear hK K
      try simp only [Act.put, List.getElem_toArray, List.getElem_cons_succ, List.getElem_cons_zero, List.setIfInBounds_toArray, List.set_cons_zero, List.set_cons_succ]
      refine wpAnyH_take (i := 25) (oi := _) (v := ?_) rfl (by kernel_rfl) (by kernel_rfl) (by kernel_rfl) (fun _ _ _ h => h) (Or.inl ⟨by kernel_rfl, ?_⟩) (by assumption) ?_
      rotate_left
      · (intro w hSw; (try dsimp only at hSw); go_simp; (try with_reducible rfl))
      try simp only [Act.put, List.getElem_toArray, List.getElem_cons_succ, List.getElem_cons_zero, List.setIfInBounds_toArray, List.set_cons_zero, List.set_cons_succ]
      refine wpAnyH_take (i := 26) (oi := _) (v := ?_) rfl (by kernel_rfl) (by kernel_rfl) (by kernel_rfl) (fun _ _ _ h => h) (Or.inl ⟨by kernel_rfl, ?_⟩) (by assumption) ?_
      rotate_left
      · (intro w hSw; (try dsimp only at hSw); go_simp; (try with_reducible rfl))
      try simp only [Act.put, List.getElem_toArray, List.getElem_cons_succ, List.getElem_cons_zero, List.setIfInBounds_toArray, List.set_cons_zero, List.set_cons_succ]
      refine wpAnyH_take (i := 27) (oi := _) (v := ?_) rfl (by kernel_rfl) (by kernel_rfl) (by kernel_rfl) (fun _ _ _ h => h) (Or.inl ⟨by kernel_rfl, ?_⟩) (by assumption) ?_
      rotate_left
      · (intro w hSw; (try dsimp only at hSw); go_simp; (try with_reducible rfl))
      try simp only [Act.put, List.getElem_toArray, List.getElem_cons_succ, List.getElem_cons_zero, List.setIfInBounds_toArray, List.set_cons_zero, List.set_cons_succ]
      refine wpAnyH_ready (rs := [28]) (by kernel_rfl) (by simp) ?_
      refine AllReadyH.cons (o := _) rfl (fun K hK => ?_) (AllReadyH.nil)
      go_simp
      go_at_call 27; with_reducible refine kBV (alive_any _) ?_
      intro wD hbD'
      have hbD : Below w4.heap.size w4 wD := Below.trans (show Below w4.heap.size w4 _ from (by repeat (first | exact Below.refl _ _ | exact hbD | exact hbC | exact hbB | exact hbA | refine Below.alloc ?_ (by first | (simp; done) | (have := hbA.size; simp <;> omega) | (have := hbB.size; simp <;> omega) | (have := hbC.size; simp <;> omega) | (have := hbD.size; simp <;> omega)) _ | apply Below.drew))) (hbD'.mono (by first | (simp; done) | (have := hbA.size; simp <;> omega) | (have := hbB.size; simp <;> omega) | (have := hbC.size; simp <;> omega) | (have := hbD.size; simp <;> omega)))
      go_wp2_with fail
      refine hK.out _ _ ?_ (fun hHeld => ?_)
      · (try dsimp only); first | exact ⟨p0, p1, p2⟩ | exact ⟨keep (show Below w4.heap.size w4 _ from (by repeat (first | exact Below.refl _ _ | exact hbD | exact hbC | exact hbB | exact hbA | refine Below.alloc ?_ (by first | (simp; done) | (have := hbA.size; simp <;> omega) | (have := hbB.size; simp <;> omega) | (have := hbC.size; simp <;> omega) | (have := hbD.size; simp <;> omega)) _ | apply Below.drew))) P0.out, keep (show Below w4.heap.size w4 _ from (by repeat (first | exact Below.refl _ _ | exact hbD | exact hbC | exact hbB | exact hbA | refine Below.alloc ?_ (by first | (simp; done) | (have := hbA.size; simp <;> omega) | (have := hbB.size; simp <;> omega) | (have := hbC.size; simp <;> omega) | (have := hbD.size; simp <;> omega)) _ | apply Below.drew))) P1.out, keep (show Below w4.heap.size w4 _ from (by repeat (first | exact Below.refl _ _ | exact hbD | exact hbC | exact hbB | exact hbA | refine Below.alloc ?_ (by first | (simp; done) | (have := hbA.size; simp <;> omega) | (have := hbB.size; simp <;> omega) | (have := hbC.size; simp <;> omega) | (have := hbD.size; simp <;> omega)) _ | apply Below.drew))) P2.out⟩
      clear hK K
      try simp only [Act.put, List.getElem_toArray, List.getElem_cons_succ, List.getElem_cons_zero, List.setIfInBounds_toArray, List.set_cons_zero, List.set_cons_succ]
      refine wpAnyH_take (i := 29) (oi := _) (v := ?_) rfl (by kernel_rfl) (by kernel_rfl) (by kernel_rfl) (fun _ _ _ h => h) (Or.inl ⟨by kernel_rfl, ?_⟩) (by assumption) ?_
      rotate_left
      · (intro w hSw; (try dsimp only at hSw); go_simp; (try with_reducible rfl))
      try simp only [Act.put, List.getElem_toArray, List.getElem_cons_succ, List.getElem_cons_zero, List.setIfInBounds_toArray, List.set_cons_zero, List.set_cons_succ]
      refine wpAnyH_take (i := 30) (oi := _) (v := ?_) rfl (by kernel_rfl) (by kernel_rfl) (by kernel_rfl) (fun _ _ _ h => h) (Or.inl ⟨by kernel_rfl, ?_⟩) (by assumption) ?_
      rotate_left
      · (intro w hSw; (try dsimp only at hSw); go_simp; (try with_reducible rfl))
      try simp only [Act.put, List.getElem_toArray, List.getElem_cons_succ, List.getElem_cons_zero, List.setIfInBounds_toArray, List.set_cons_zero, List.set_cons_succ]
      refine wpAnyH_done (by kernel_rfl) ?_ _
      go_wp2
      go_ret
      exact ⟨rfl, HB4.out.trans (hbD.mono HB4.out.size)⟩
    · obtain ⟨k, rfl⟩ : ∃ k, m = k + 1 := ⟨m - 1, by omega⟩
      have HTK := Lib.hid (dlOk_take HPK.out k)
      have hk : ((k + 1 : Nat) : Int) - 1 = (k : Int) := by omega
      have hk0 : ¬ (k : Int) < 0 := by omega
      have hk1 : (0 : Int) ≤ (k : Int) := by omega
      have hk3 : (k : Int) ≤ (d : Int) := by omega
      go_wp2_with (fail)
      refine wp_region_held_drew (S := fun w' => w'.cell? ⟨pb, 0, none⟩ = some (.int .i64 p) ∧ w'.cell? ⟨pb, 1, none⟩ = some (.slice A n c) ∧ w'.cell? ⟨pb, 2, none⟩ = some (.slice C (k + 1) d)) (by kernel_rfl) ?_ (fun hHeld => ?_)
      · (try dsimp only); first | exact ⟨p0, p1, p2⟩ | exact ⟨keep (show Below w4.heap.size w4 _ from (by repeat (first | exact Below.refl _ _ | exact hbD | exact hbC | exact hbB | exact hbA | refine Below.alloc ?_ (by first | (simp; done) | (have := hbA.size; simp <;> omega) | (have := hbB.size; simp <;> omega) | (have := hbC.size; simp <;> omega) | (have := hbD.size; simp <;> omega)) _ | apply Below.drew))) P0.out, keep (show Below w4.heap.size w4 _ from (by repeat (first | exact Below.refl _ _ | exact hbD | exact hbC | exact hbB | exact hbA | refine Below.alloc ?_ (by first | (simp; done) | (have := hbA.size; simp <;> omega) | (have := hbB.size; simp <;> omega) | (have := hbC.size; simp <;> omega) | (have := hbD.size; simp <;> omega)) _ | apply Below.drew))) P1.out, keep (show Below w4.heap.size w4 _ from (by repeat (first | exact Below.refl _ _ | exact hbD | exact hbC | exact hbB | exact hbA | refine Below.alloc ?_ (by first | (simp; done) | (have := hbA.size; simp <;> omega) | (have := hbB.size; simp <;> omega) | (have := hbC.size; simp <;> omega) | (have := hbD.size; simp <;> omega)) _ | apply Below.drew))) P2.out⟩
      refine wpAnyH_take (i := 0) (oi := _) (v := ?_) rfl (by kernel_rfl) (by kernel_rfl) (by kernel_rfl) (fun _ _ _ h => h) (Or.inl ⟨by kernel_rfl, ?_⟩) (by assumption) ?_
      rotate_left
      · (intro w hSw; (try dsimp only at hSw); go_simp; (try with_reducible rfl))
      try simp only [Act.put, List.getElem_toArray, List.getElem_cons_succ, List.getElem_cons_zero, List.setIfInBounds_toArray, List.set_cons_zero, List.set_cons_succ]
      refine wpAnyH_take (i := 1) (oi := _) (v := ?_) rfl (by kernel_rfl) (by kernel_rfl) (by kernel_rfl) (fun _ _ _ h => h) (Or.inl ⟨by kernel_rfl, ?_⟩) (by assumption) ?_
      rotate_left
      · (intro w hSw; (try dsimp only at hSw); go_simp; (try with_reducible rfl))
      try simp only [Act.put, List.getElem_toArray, List.getElem_cons_succ, List.getElem_cons_zero, List.setIfInBounds_toArray, List.set_cons_zero, List.set_cons_succ]
      refine wpAnyH_take (i := 2) (oi := _) (v := ?_) rfl (by kernel_rfl) (by kernel_rfl) (by kernel_rfl) (fun _ _ _ h => h) (Or.inl ⟨by kernel_rfl, ?_⟩) (by assumption) ?_
      rotate_left
      · (intro w hSw; (try dsimp only at hSw); go_simp; (try with_reducible rfl))
      try simp only [Act.put, List.getElem_toArray, List.getElem_cons_succ, List.getElem_cons_zero, List.setIfInBounds_toArray, List.set_cons_zero, List.set_cons_succ]
      refine wpAnyH_take (i := 3) (oi := _) (v := ?_) rfl (by kernel_rfl) (by kernel_rfl) (by kernel_rfl) (fun _ _ _ h => h) (Or.inl ⟨by kernel_rfl, ?_⟩) (by assumption) ?_
      rotate_left
      · (intro w hSw; (try dsimp only at hSw); go_simp; (try with_reducible rfl))
      try simp only [Act.put, List.getElem_toArray, List.getElem_cons_succ, List.getElem_cons_zero, List.setIfInBounds_toArray, List.set_cons_zero, List.set_cons_succ]
      refine wpAnyH_take (i := 4) (oi := _) (v := ?_) rfl (by kernel_rfl) (by kernel_rfl) (by kernel_rfl) (fun _ _ _ h => h) (Or.inl ⟨by kernel_rfl, ?_⟩) (by assumption) ?_
      rotate_left
      · (intro w hSw; (try dsimp only at hSw); go_simp; (try with_reducible rfl))
      try simp only [Act.put, List.getElem_toArray, List.getElem_cons_succ, List.getElem_cons_zero, List.setIfInBounds_toArray, List.set_cons_zero, List.set_cons_succ]
      refine wpAnyH_take (i := 5) (oi := _) (v := ?_) rfl (by kernel_rfl) (by kernel_rfl) (by kernel_rfl) (fun _ _ _ h => h) (Or.inl ⟨by kernel_rfl, ?_⟩) (by assumption) ?_
      rotate_left
      · (intro w hSw; (try dsimp only at hSw); go_simp; (try with_reducible rfl))
      try simp only [Act.put, List.getElem_toArray, List.getElem_cons_succ, List.getElem_cons_zero, List.setIfInBounds_toArray, List.set_cons_zero, List.set_cons_succ]
      refine wpAnyH_ready (rs := [6]) (by kernel_rfl) (by simp) ?_
      refine AllReadyH.cons (o := _) rfl (fun K hK => ?_) (AllReadyH.nil)
      go_simp
      go_at_call 40; with_reducible refine kB (iDealOk_any p A n c bs none 0 0 [] _ (HI4.out.below (by repeat (first | exact Below.refl _ _ | exact hbD | exact hbC | exact hbB | exact hbA | refine Below.alloc ?_ (by first | (simp; done) | (have := hbA.size; simp <;> omega) | (have := hbB.size; simp <;> omega) | (have := hbC.size; simp <;> omega) | (have := hbD.size; simp <;> omega)) _ | apply Below.drew))) (proms0 _) (by omega) (by omega)) ?_ (fun _ h _ => absurd (dlOk_base HPK.out) h.out)
      intro wA _ hbA'
      have hbA : Below w4.heap.size w4 wA := Below.trans (show Below w4.heap.size w4 _ from (by repeat (first | exact Below.refl _ _ | exact hbD | exact hbC | exact hbB | exact hbA | refine Below.alloc ?_ (by first | (simp; done) | (have := hbA.size; simp <;> omega) | (have := hbB.size; simp <;> omega) | (have := hbC.size; simp <;> omega) | (have := hbD.size; simp <;> omega)) _ | apply Below.drew))) (hbA'.mono (by first | (simp; done) | (have := hbA.size; simp <;> omega) | (have := hbB.size; simp <;> omega) | (have := hbC.size; simp <;> omega) | (have := hbD.size; simp <;> omega)))
      go_wp2_with fail
      refine hK.out _ _ ?_ (fun hHeld => ?_)
      · (try dsimp only); first | exact ⟨p0, p1, p2⟩ | exact ⟨keep (show Below w4.heap.size w4 _ from (by repeat (first | exact Below.refl _ _ | exact hbD | exact hbC | exact hbB | exact hbA | refine Below.alloc ?_ (by first | (simp; done) | (have := hbA.size; simp <;> omega) | (have := hbB.size; simp <;> omega) | (have := hbC.size; simp <;> omega) | (have := hbD.size; simp <;> omega)) _ | apply Below.drew))) P0.out, keep (show Below w4.heap.size w4 _ from (by repeat (first | exact Below.refl _ _ | exact hbD | exact hbC | exact hbB | exact hbA | refine Below.alloc ?_ (by first | (simp; done) | (have := hbA.size; simp <;> omega) | (have := hbB.size; simp <;> omega) | (have := hbC.size; simp <;> omega) | (have := hbD.size; simp <;> omega)) _ | apply Below.drew))) P1.out, keep (show Below w4.heap.size w4 _ from (by repeat (first | exact Below.refl _ _ | exact hbD | exact hbC | exact hbB | exact hbA | refine Below.alloc ?_ (by first | (simp; done) | (have := hbA.size; simp <;> omega) | (have := hbB.size; simp <;> omega) | (have := hbC.size; simp <;> omega) | (have := hbD.size; simp <;> omega)) _ | apply Below.drew))) P2.out⟩
      clear hK K
      try simp only [Act.put, List.getElem_toArray, List.getElem_cons_succ, List.getElem_cons_zero, List.setIfInBounds_toArray, List.set_cons_zero, List.set_cons_succ]
      refine wpAnyH_take (i := 7) (oi := _) (v := ?_) rfl (by kernel_rfl) (by kernel_rfl) (by kernel_rfl) (fun _ _ _ h => h) (Or.inl ⟨by kernel_rfl, ?_⟩) (by assumption) ?_
      rotate_left
      · (intro w hSw; (try dsimp only at hSw); go_simp; (try with_reducible rfl))
      try simp only [Act.put, List.getElem_toArray, List.getElem_cons_succ, List.getElem_cons_zero, List.setIfInBounds_toArray, List.set_cons_zero, List.set_cons_succ]
      refine wpAnyH_take (i := 8) (oi := _) (v := ?_) rfl (by kernel_rfl) (by kernel_rfl) (by kernel_rfl) (fun _ _ _ h => h) (Or.inl ⟨by kernel_rfl, ?_⟩) (by assumption) ?_
      rotate_left
      · (intro w hSw; (try dsimp only at hSw); go_simp; (try with_reducible rfl))
      try simp only [Act.put, List.getElem_toArray, List.getElem_cons_succ, List.getElem_cons_zero, List.setIfInBounds_toArray, List.set_cons_zero, List.set_cons_succ]
      refine wpAnyH_take (i := 9) (oi := _) (v := ?_) rfl (by kernel_rfl) (by kernel_rfl) (by kernel_rfl) (fun _ _ _ h => h) (Or.inl ⟨by kernel_rfl, ?_⟩) (by assumption) ?_
      rotate_left
      · (intro w hSw; (try dsimp only at hSw); go_simp; (try with_reducible rfl))
      try simp only [Act.put, List.getElem_toArray, List.getElem_cons_succ, List.getElem_cons_zero, List.setIfInBounds_toArray, List.set_cons_zero, List.set_cons_succ]
      refine wpAnyH_take (i := 10) (oi := _) (v := ?_) rfl (by kernel_rfl) (by kernel_rfl) (by kernel_rfl) (fun _ _ _ h => h) (Or.inl ⟨by kernel_rfl, ?_⟩) (by assumption) ?_
      rotate_left
      · (intro w hSw; (try dsimp only at hSw); go_simp; (try with_reducible rfl))
      try simp only [Act.put, List.getElem_toArray, List.getElem_cons_succ, List.getElem_cons_zero, List.setIfInBounds_toArray, List.set_cons_zero, List.set_cons_succ]
      refine wpAnyH_take (i := 11) (oi := _) (v := ?_) rfl (by kernel_rfl) (by kernel_rfl) (by kernel_rfl) (fun _ _ _ h => h) (Or.inl ⟨by kernel_rfl, ?_⟩) (by assumption) ?_
      rotate_left
      · (intro w hSw; (try dsimp only at hSw); go_simp; (try with_reducible rfl))
      try simp only [Act.put, List.getElem_toArray, List.getElem_cons_succ, List.getElem_cons_zero, List.setIfInBounds_toArray, List.set_cons_zero, List.set_cons_succ]
      refine wpAnyH_take (i := 12) (oi := _) (v := ?_) rfl (by kernel_rfl) (by kernel_rfl) (by kernel_rfl) (fun _ _ _ h => h) (Or.inl ⟨by kernel_rfl, ?_⟩) (by assumption) ?_
      rotate_left
      · (intro w hSw; (try dsimp only at hSw); go_simp; (try with_reducible rfl))
      try simp only [Act.put, List.getElem_toArray, List.getElem_cons_succ, List.getElem_cons_zero, List.setIfInBounds_toArray, List.set_cons_zero, List.set_cons_succ]
      refine wpAnyH_take (i := 13) (oi := _) (v := ?_) rfl (by kernel_rfl) (by kernel_rfl) (by kernel_rfl) (fun _ _ _ h => h) (Or.inl ⟨by kernel_rfl, ?_⟩) (by assumption) ?_
      rotate_left
      · (intro w hSw; (try dsimp only at hSw); go_simp; (try with_reducible rfl))
      try simp only [Act.put, List.getElem_toArray, List.getElem_cons_succ, List.getElem_cons_zero, List.setIfInBounds_toArray, List.set_cons_zero, List.set_cons_succ]
      refine wpAnyH_take (i := 14) (oi := _) (v := ?_) rfl (by kernel_rfl) (by kernel_rfl) (by kernel_rfl) (fun _ _ _ h => h) (Or.inl ⟨by kernel_rfl, ?_⟩) (by assumption) ?_
      rotate_left
      · (intro w hSw; (try dsimp only at hSw); go_simp; (try with_reducible rfl))
      try simp only [Act.put, List.getElem_toArray, List.getElem_cons_succ, List.getElem_cons_zero, List.setIfInBounds_toArray, List.set_cons_zero, List.set_cons_succ]
      refine wpAnyH_take (i := 15) (oi := _) (v := ?_) rfl (by kernel_rfl) (by kernel_rfl) (by kernel_rfl) (fun _ _ _ h => h) (Or.inl ⟨by kernel_rfl, ?_⟩) (by assumption) ?_
      rotate_left
      · (intro w hSw; (try dsimp only at hSw); go_simp; (try with_reducible rfl))
      try simp only [Act.put, List.getElem_toArray, List.getElem_cons_succ, List.getElem_cons_zero, List.setIfInBounds_toArray, List.set_cons_zero, List.set_cons_succ]
      refine wpAnyH_take (i := 16) (oi := _) (v := ?_) rfl (by kernel_rfl) (by kernel_rfl) (by kernel_rfl) (fun _ _ _ h => h) (Or.inl ⟨by kernel_rfl, ?_⟩) (by assumption) ?_
      rotate_left
      · (intro w hSw; (try dsimp only at hSw); go_simp; (try with_reducible rfl))
      try simp only [Act.put, List.getElem_toArray, List.getElem_cons_succ, List.getElem_cons_zero, List.setIfInBounds_toArray, List.set_cons_zero, List.set_cons_succ]
      refine wpAnyH_take (i := 17) (oi := _) (v := ?_) rfl (by kernel_rfl) (by kernel_rfl) (by kernel_rfl) (fun _ _ _ h => h) (Or.inl ⟨by kernel_rfl, ?_⟩) (by assumption) ?_
      rotate_left
      · (intro w hSw; (try dsimp only at hSw); go_simp; (try with_reducible rfl))
      try simp only [Act.put, List.getElem_toArray, List.getElem_cons_succ, List.getElem_cons_zero, List.setIfInBounds_toArray, List.set_cons_zero, List.set_cons_succ]
      refine wpAnyH_ready (rs := [18]) (by kernel_rfl) (by simp) ?_
      refine AllReadyH.cons (o := _) rfl (fun K hK => ?_) (AllReadyH.nil)
      go_simp
      go_at_call 40; with_reducible refine kB (iDealOk_any p A n c bs C k d (ls.take k) _ (HI4.out.below (by repeat (first | exact Below.refl _ _ | exact hbD | exact hbC | exact hbB | exact hbA | refine Below.alloc ?_ (by first | (simp; done) | (have := hbA.size; simp <;> omega) | (have := hbB.size; simp <;> omega) | (have := hbC.size; simp <;> omega) | (have := hbD.size; simp <;> omega)) _ | apply Below.drew))) ((HJ4.out.below (by repeat (first | exact Below.refl _ _ | exact hbD | exact hbC | exact hbB | exact hbA | refine Below.alloc ?_ (by first | (simp; done) | (have := hbA.size; simp <;> omega) | (have := hbB.size; simp <;> omega) | (have := hbC.size; simp <;> omega) | (have := hbD.size; simp <;> omega)) _ | apply Below.drew))).cut (by omega)) (by omega) (by omega)) ?_ (fun _ h _ => absurd HTK.out h.out)
      intro wC _ hbC'
      have hbC : Below w4.heap.size w4 wC := Below.trans (show Below w4.heap.size w4 _ from (by repeat (first | exact Below.refl _ _ | exact hbD | exact hbC | exact hbB | exact hbA | refine Below.alloc ?_ (by first | (simp; done) | (have := hbA.size; simp <;> omega) | (have := hbB.size; simp <;> omega) | (have := hbC.size; simp <;> omega) | (have := hbD.size; simp <;> omega)) _ | apply Below.drew))) (hbC'.mono (by first | (simp; done) | (have := hbA.size; simp <;> omega) | (have := hbB.size; simp <;> omega) | (have := hbC.size; simp <;> omega) | (have := hbD.size; simp <;> omega)))
      go_wp2_with fail
      refine hK.out _ _ ?_ (fun hHeld => ?_)
      · (try dsimp only); first | exact ⟨p0, p1, p2⟩ | exact ⟨keep (show Below w4.heap.size w4 _ from (by repeat (first | exact Below.refl _ _ | exact hbD | exact hbC | exact hbB | exact hbA | refine Below.alloc ?_ (by first | (simp; done) | (have := hbA.size; simp <;> omega) | (have := hbB.size; simp <;> omega) | (have := hbC.size; simp <;> omega) | (have := hbD.size; simp <;> omega)) _ | apply Below.drew))) P0.out, keep (show Below w4.heap.size w4 _ from (by repeat (first | exact Below.refl _ _ | exact hbD | exact hbC | exact hbB | exact hbA | refine Below.alloc ?_ (by first | (simp; done) | (have := hbA.size; simp <;> omega) | (have := hbB.size; simp <;> omega) | (have := hbC.size; simp <;> omega) | (have := hbD.size; simp <;> omega)) _ | apply Below.drew))) P1.out, keep (show Below w4.heap.size w4 _ from (by repeat (first | exact Below.refl _ _ | exact hbD | exact hbC | exact hbB | exact hbA | refine Below.alloc ?_ (by first | (simp; done) | (have := hbA.size; simp <;> omega) | (have := hbB.size; simp <;> omega) | (have := hbC.size; simp <;> omega) | (have := hbD.size; simp <;> omega)) _ | apply Below.drew))) P2.out⟩
      clear hK K
      try simp only [Act.put, List.getElem_toArray, List.getElem_cons_succ, List.getElem_cons_zero, List.setIfInBounds_toArray, List.set_cons_zero, List.set_cons_succ]
      refine wpAnyH_take (i := 19) (oi := _) (v := ?_) rfl (by kernel_rfl) (by kernel_rfl) (by kernel_rfl) (fun _ _ _ h => h) (Or.inl ⟨by kernel_rfl, ?_⟩) (by assumption) ?_
      rotate_left
      · (intro w hSw; (try dsimp only at hSw); go_simp; (try with_reducible rfl))
      try simp only [Act.put, List.getElem_toArray, List.getElem_cons_succ, List.getElem_cons_zero, List.setIfInBounds_toArray, List.set_cons_zero, List.set_cons_succ]
      refine wpAnyH_take (i := 20) (oi := _) (v := ?_) rfl (by kernel_rfl) (by kernel_rfl) (by kernel_rfl) (fun _ _ _ h => h) (Or.inl ⟨by kernel_rfl, ?_⟩) (by assumption) ?_
      rotate_left
      · (intro w hSw; (try dsimp only at hSw); go_simp; (try with_reducible rfl))
      try simp only [Act.put, List.getElem_toArray, List.getElem_cons_succ, List.getElem_cons_zero, List.setIfInBounds_toArray, List.set_cons_zero, List.set_cons_succ]
      refine wpAnyH_take (i := 21) (oi := _) (v := ?_) rfl (by kernel_rfl) (by kernel_rfl) (by kernel_rfl) (fun _ _ _ h => h) (Or.inl ⟨by kernel_rfl, ?_⟩) (by assumption) ?_
      rotate_left
      · (intro w hSw; (try dsimp only at hSw); go_simp; (try with_reducible rfl))
      try simp only [Act.put, List.getElem_toArray, List.getElem_cons_succ, List.getElem_cons_zero, List.setIfInBounds_toArray, List.set_cons_zero, List.set_cons_succ]
      refine wpAnyH_take (i := 22) (oi := _) (v := ?_) rfl (by kernel_rfl) (by kernel_rfl) (by kernel_rfl) (fun _ _ _ h => h) (Or.inl ⟨by kernel_rfl, ?_⟩) (by assumption) ?_
      rotate_left
      · (intro w hSw; (try dsimp only at hSw); go_simp; (try with_reducible rfl))
      try simp only [Act.put, List.getElem_toArray, List.getElem_cons_succ, List.getElem_cons_zero, List.setIfInBounds_toArray, List.set_cons_zero, List.set_cons_succ]
      refine wpAnyH_take (i := 23) (oi := _) (v := ?_) rfl (by kernel_rfl) (by kernel_rfl) (by kernel_rfl) (fun _ _ _ h => h) (Or.inl ⟨by kernel_rfl, ?_⟩) (by assumption) ?_
      rotate_left
      · (intro w hSw; (try dsimp only at hSw); go_simp; (try with_reducible rfl))
      try simp only [Act.put, List.getElem_toArray, List.getElem_cons_succ, List.getElem_cons_zero, List.setIfInBounds_toArray, List.set_cons_zero, List.set_cons_succ]
      refine wpAnyH_ready (rs := [24]) (by kernel_rfl) (by simp) ?_
      refine AllReadyH.cons (o := _) rfl (fun K hK => ?_) (AllReadyH.nil)
      go_simp
      go_at_call 40; with_reducible refine kB (iDealOk_any 0 none 0 0 [] none 0 0 [] _ (bnds0 _) (proms0 _) (by omega) (by omega)) (fun _ h _ => absurd h.out dlOk_zero) ?_
      intro wB _ hbB'
      have hbB : Below w4.heap.size w4 wB := Below.trans (show Below w4.heap.size w4 _ from (by repeat (first | exact Below.refl _ _ | exact hbD | exact hbC | exact hbB | exact hbA | refine Below.alloc ?_ (by first | (simp; done) | (have := hbA.size; simp <;> omega) | (have := hbB.size; simp <;> omega) | (have := hbC.size; simp <;> omega) | (have := hbD.size; simp <;> omega)) _ | apply Below.drew))) (hbB'.mono (by first | (simp; done) | (have := hbA.size; simp <;> omega) | (have := hbB.size; simp <;> omega) | (have := hbC.size; simp <;> omega) | (have := hbD.size; simp <;> omega)))
      go_wp2_with fail
      refine hK.out _ _ ?_ (fun hHeld => ?_)
      · (try dsimp only); first | exact ⟨p0, p1, p2⟩ | exact ⟨keep (show Below w4.heap.size w4 _ from (by repeat (first | exact Below.refl _ _ | exact hbD | exact hbC | exact hbB | exact hbA | refine Below.alloc ?_ (by first | (simp; done) | (have := hbA.size; simp <;> omega) | (have := hbB.size; simp <;> omega) | (have := hbC.size; simp <;> omega) | (have := hbD.size; simp <;> omega)) _ | apply Below.drew))) P0.out, keep (show Below w4.heap.size w4 _ from (by repeat (first | exact Below.refl _ _ | exact hbD | exact hbC | exact hbB | exact hbA | refine Below.alloc ?_ (by first | (simp; done) | (have := hbA.size; simp <;> omega) | (have := hbB.size; simp <;> omega) | (have := hbC.size; simp <;> omega) | (have := hbD.size; simp <;> omega)) _ | apply Below.drew))) P1.out, keep (show Below w4.heap.size w4 _ from (by repeat (first | exact Below.refl _ _ | exact hbD | exact hbC | exact hbB | exact hbA | refine Below.alloc ?_ (by first | (simp; done) | (have := hbA.size; simp <;> omega) | (have := hbB.size; simp <;> omega) | (have := hbC.size; simp <;> omega) | (have := hbD.size; simp <;> omega)) _ | apply Below.drew))) P2.out⟩
      clear hK K
      try simp only [Act.put, List.getElem_toArray, List.getElem_cons_succ, List.getElem_cons_zero, List.setIfInBounds_toArray, List.set_cons_zero, List.set_cons_succ]
      refine wpAnyH_take (i := 25) (oi := _) (v := ?_) rfl (by kernel_rfl) (by kernel_rfl) (by kernel_rfl) (fun _ _ _ h => h) (Or.inl ⟨by kernel_rfl, ?_⟩) (by assumption) ?_
      rotate_left
      · (intro w hSw; (try dsimp only at hSw); go_simp; (try with_reducible rfl))
      try simp only [Act.put, List.getElem_toArray, List.getElem_cons_succ, List.getElem_cons_zero, List.setIfInBounds_toArray, List.set_cons_zero, List.set_cons_succ]
      refine wpAnyH_take (i := 26) (oi := _) (v := ?_) rfl (by kernel_rfl) (by kernel_rfl) (by kernel_rfl) (fun _ _ _ h => h) (Or.inl ⟨by kernel_rfl, ?_⟩) (by assumption) ?_
      rotate_left
      · (intro w hSw; (try dsimp only at hSw); go_simp; (try with_reducible rfl))
      try simp only [Act.put, List.getElem_toArray, List.getElem_cons_succ, List.getElem_cons_zero, List.setIfInBounds_toArray, List.set_cons_zero, List.set_cons_succ]
      refine wpAnyH_take (i := 27) (oi := _) (v := ?_) rfl (by kernel_rfl) (by kernel_rfl) (by kernel_rfl) (fun _ _ _ h => h) (Or.inl ⟨by kernel_rfl, ?_⟩) (by assumption) ?_
      rotate_left
      · (intro w hSw; (try dsimp only at hSw); go_simp; (try with_reducible rfl))
      try simp only [Act.put, List.getElem_toArray, List.getElem_cons_succ, List.getElem_cons_zero, List.setIfInBounds_toArray, List.set_cons_zero, List.set_cons_succ]
      refine wpAnyH_ready (rs := [28]) (by kernel_rfl) (by simp) ?_
      refine AllReadyH.cons (o := _) rfl (fun K hK => ?_) (AllReadyH.nil)
      go_simp
      go_at_call 27; with_reducible refine kBV (alive_any _) ?_
      intro wD hbD'
      have hbD : Below w4.heap.size w4 wD := Below.trans (show Below w4.heap.size w4 _ from (by repeat (first | exact Below.refl _ _ | exact hbD | exact hbC | exact hbB | exact hbA | refine Below.alloc ?_ (by first | (simp; done) | (have := hbA.size; simp <;> omega) | (have := hbB.size; simp <;> omega) | (have := hbC.size; simp <;> omega) | (have := hbD.size; simp <;> omega)) _ | apply Below.drew))) (hbD'.mono (by first | (simp; done) | (have := hbA.size; simp <;> omega) | (have := hbB.size; simp <;> omega) | (have := hbC.size; simp <;> omega) | (have := hbD.size; simp <;> omega)))
      go_wp2_with fail
      refine hK.out _ _ ?_ (fun hHeld => ?_)
      · (try dsimp only); first | exact ⟨p0, p1, p2⟩ | exact ⟨keep (show Below w4.heap.size w4 _ from (by repeat (first | exact Below.refl _ _ | exact hbD | exact hbC | exact hbB | exact hbA | refine Below.alloc ?_ (by first | (simp; done) | (have := hbA.size; simp <;> omega) | (have := hbB.size; simp <;> omega) | (have := hbC.size; simp <;> omega) | (have := hbD.size; simp <;> omega)) _ | apply Below.drew))) P0.out, keep (show Below w4.heap.size w4 _ from (by repeat (first | exact Below.refl _ _ | exact hbD | exact hbC | exact hbB | exact hbA | refine Below.alloc ?_ (by first | (simp; done) | (have := hbA.size; simp <;> omega) | (have := hbB.size; simp <;> omega) | (have := hbC.size; simp <;> omega) | (have := hbD.size; simp <;> omega)) _ | apply Below.drew))) P1.out, keep (show Below w4.heap.size w4 _ from (by repeat (first | exact Below.refl _ _ | exact hbD | exact hbC | exact hbB | exact hbA | refine Below.alloc ?_ (by first | (simp; done) | (have := hbA.size; simp <;> omega) | (have := hbB.size; simp <;> omega) | (have := hbC.size; simp <;> omega) | (have := hbD.size; simp <;> omega)) _ | apply Below.drew))) P2.out⟩
      clear hK K
      try simp only [Act.put, List.getElem_toArray, List.getElem_cons_succ, List.getElem_cons_zero, List.setIfInBounds_toArray, List.set_cons_zero, List.set_cons_succ]
      refine wpAnyH_take (i := 29) (oi := _) (v := ?_) rfl (by kernel_rfl) (by kernel_rfl) (by kernel_rfl) (fun _ _ _ h => h) (Or.inl ⟨by kernel_rfl, ?_⟩) (by assumption) ?_
      rotate_left
      · (intro w hSw; (try dsimp only at hSw); go_simp; (try with_reducible rfl))
      try simp only [Act.put, List.getElem_toArray, List.getElem_cons_succ, List.getElem_cons_zero, List.setIfInBounds_toArray, List.set_cons_zero, List.set_cons_succ]
      refine wpAnyH_take (i := 30) (oi := _) (v := ?_) rfl (by kernel_rfl) (by kernel_rfl) (by kernel_rfl) (fun _ _ _ h => h) (Or.inl ⟨by kernel_rfl, ?_⟩) (by assumption) ?_
      rotate_left
      · (intro w hSw; (try dsimp only at hSw); go_simp; (try with_reducible rfl))
      try simp only [Act.put, List.getElem_toArray, List.getElem_cons_succ, List.getElem_cons_zero, List.setIfInBounds_toArray, List.set_cons_zero, List.set_cons_succ]
      refine wpAnyH_done (by kernel_rfl) ?_ _
      go_wp2
      go_ret
      exact ⟨rfl, HB4.out.trans (hbD.mono HB4.out.size)⟩

end Go.Proofs.Ytopfhlopicjemaa
