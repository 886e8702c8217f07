/- The walk of FnProjectOk: for every code the law returns true, and the code is left as it was. -/
import Derived.Test.YtopfhlopicjemaaDR4
import Derived.Test.YtopfhlopicjemaaA4
import Derived.Test.YtopfhlopicjemaaAL
import Derived.Deep.DrawnRows
import Derived.Deep.RegionHeld3
import Derived.Deep.RegionLaw
namespace Go.Proofs.Ytopfhlopicjemaa
open Go.RowKit
attribute [local go_sem ↓] Go.wp_at_zero Go.wp_at_succ

theorem prj_nil : PrjOk [] [] := ⟨fun x hx => by simp at hx, fun i hi => absurd hi (Nat.not_lt_zero _), by decide, rfl⟩
theorem prj_one : PrjOk [1] [0] := by
  refine ⟨fun x hx => ?_, fun i hi => ?_, by decide, rfl⟩
  · simp at hx; subst hx; unfold InR; omega
  · obtain rfl : i = 0 := by simp at hi; exact hi
    exact ⟨by decide, by decide⟩
theorem prj_take {xs ys : List Int} (h : PrjOk xs ys) (k : Nat) (hk : k ≤ xs.length) : PrjOk (xs.take k) (ys.take k) := by
  obtain ⟨h1, h2, h3, h4⟩ := h
  refine ⟨fun x hx => h1 x (List.mem_of_mem_take hx), ?_, by simp; omega, by simp; omega⟩
  intro i hi
  rw [List.length_take] at hi
  have := h2 i (by omega)
  rwa [show (ys.take k).getD i 0 = ys.getD i 0 by simp only [List.getD]; rw [List.getElem?_take_of_lt (by omega)]]

set_option maxHeartbeats 1000000 in
theorem drawProjectOk_any (A : Option Addr) (n c : Nat) (w : World) (h : BytsAt w w.heap.size A n) (hn : n ≤ 9223372036854775807) (hc : n ≤ c) :
    Calls Try.prog 26 #[.slice A n c] w fun e w' => ∃ (A : Option Addr) (n c : Nat) (B' : Option Addr) (m d : Nat) (xs ys : List Int), e = .returned (.agg #[.slice A n c, .slice B' m d]) ∧ IntsAt w' A n xs ∧ IntsAt w' B' m ys ∧ n ≤ 10 ∧ m ≤ 10 ∧ n ≤ c ∧ m ≤ d ∧ Below w.heap.size w w' := by
  have HQ0 := Lib.hid (Blk.new w 34 #[.slice none 0 0, .slice none 0 0])
  have HA0 := Lib.hid ((Below.refl w.heap.size w).alloc (Nat.le_refl _) (.cells #[.slice none 0 0, .slice none 0 0] 34))
  have HBY := Lib.hid ((h.keep (w' := w.alloc (.cells #[.slice none 0 0, .slice none 0 0] 34)) (fun b hb => Below.heap_alloc w _ b hb)).older (R' := (w.alloc (.cells #[.slice none 0 0, .slice none 0 0] 34)).heap.size) HA0.out.size)
  go_enter Try.func26, Try.ntmps26
  go_wp2_with (fail)
  refine kOpen (open_any A n c _ HBY.out hn hc) ?_
  intro R w1 hR hr1 hb1
  have HQ1 := Lib.hid (HQ0.out.below hb1 HQ0.out.lt)
  have HB1 := Lib.hid (HA0.out.trans (hb1.mono HA0.out.size))
  go_wp2_with (fail)
  refine (l20Project_any R 0 2 _ hr1 (by omega) (by omega)).mono ?_
  rintro e w2 ⟨A1, n1, c1, B1, m1, d1, xs, ys, rfl, ho1, ho2, hn1, hm1, hm⟩
  have hR2 : w.heap.size < R := by have := hR; simp at this; omega
  have hw1 : w.heap.size < w1.heap.size := HQ1.out.lt
  have HQ2 := Lib.hid (show Blk w2 w.heap.size 34 #[.slice none 0 0, .slice none 0 0] from (hm.1.block _ hw1 (fun e => by cases e; omega)).trans HQ1.out)
  have HB := Lib.hid (hm.below_of HB1.out (Nat.le_of_lt hR2))
  have hc1 : n1 ≤ c1 := by obtain ⟨_, _, e, hcv, _⟩ := own_cells ho1; cases e; exact hcv
  have hd1 : m1 ≤ d1 := by obtain ⟨_, _, e, hcv, _⟩ := own_cells ho2; cases e; exact hcv
  have HO1 := Lib.hid ho1
  have HO2 := Lib.hid ho2
  have q0 := (HQ2.out.cell 0).trans rfl
  have q1 := (HQ2.out.cell 1).trans rfl
  have qf0 := HQ2.out.frozen 0
  have qf1 := HQ2.out.frozen 1
  clear ho1 ho2 hm hb1
  go_wp2
  refine bodyPost_ret (v := .agg #[.slice A1 n1 c1, .slice B1 m1 d1]) (by simp [results, Try.results26, go_sem, q0, q1]) rfl ⟨_, _, _, _, _, _, xs, ys, rfl, ownI_at (own_setOld (own_setOld HO1.out hw1 _ _) hw1 _ _), ownI_at (own_setOld (own_setOld HO2.out hw1 _ _) hw1 _ _), hn1, hm1, hc1, hd1, (HB.out.setCell (Nat.le_refl _) _).setCell (Nat.le_refl _) _⟩

theorem ints0 (w : World) : IntsAt w none 0 [] := ⟨rfl, fun h => absurd h (Nat.lt_irrefl 0)⟩
theorem ints1 {w : World} {q : Nat} (hq : w.heap.size = q) (x : Int) (t : TypeId) : IntsAt (w.alloc (.cells #[.int .i64 x] t)) (some ⟨q, 0, none⟩) 1 [x] := by
  subst hq
  refine ⟨rfl, fun _ => ⟨w.heap.size, 0, rfl, fun j hj => ?_⟩⟩
  obtain rfl : j = 0 := by omega
  rw [World.cell?_alloc_new]; rfl
-- THE WALK
theorem IntsAt.allocB {w : World} {A : Option Addr} {n : Nat} {xs : List Int} {o : Obj} (h : IntsAt w A n xs) : IntsAt (w.alloc o) A n xs := h.below ((Below.refl _ _).alloc (Nat.le_refl _) _)
theorem IntsAt.drewB {w : World} {A : Option Addr} {n : Nat} {xs : List Int} (h : IntsAt w A n xs) : IntsAt w.drew A n xs := h.drewN 1
set_option maxRecDepth 100000 in
set_option maxHeartbeats 40000000 in
theorem FnProjectOk_any (A0 : Option Addr) (n0 c0 : Nat) (w : World) (F0 : n0 ≤ 9223372036854775807 ∧ n0 ≤ c0 ∧ BytsAt w w.heap.size A0 n0) :
    Calls Try.prog 6 #[.slice A0 n0 c0] w fun e w' => e = .returned (.bool true) ∧ Below w.heap.size w w' := by
  obtain ⟨hm0, hc0, h0⟩ := F0
  by_cases hn : n0 ≤ 1048576
  rotate_left
  · go_enter Try.func6, Try.ntmps6
    go_wp2
    go_ret
    exact ⟨rfl, Below.refl _ _⟩
  go_enter Try.func6, Try.ntmps6
  go_wp2_with (fail)
  refine (drawProjectOk_any A0 n0 c0 w h0 hm0 hc0).mono ?_
  rintro e w1 ⟨A, n, c, B', m, d, xs, ys, rfl, hi, hj, hn1, hm1, hnc, hmd, hb1⟩
  obtain ⟨w2, HW2⟩ : ∃ q, Hid (w1.alloc (.cells #[.slice A n c, .slice B' m d] 34) = q) := ⟨_, rfl⟩
  have hb12 : Below w1.heap.size w1 w2 := HW2.out ▸ (Below.refl _ _).alloc (Nat.le_refl _) _
  have HB2 := Lib.hid (hb1.trans (hb12.mono hb1.size))
  have HI2 := Lib.hid (hi.below hb12)
  have HJ2 := Lib.hid (hj.below hb12)
  have p0 : w2.cell? ⟨w1.heap.size, 0, none⟩ = some (.slice A n c) := HW2.out ▸ by simp [go_sem]
  have p1 : w2.cell? ⟨w1.heap.size, 1, none⟩ = some (.slice B' m d) := HW2.out ▸ by simp [go_sem]
  have HNX := Lib.hid hi.len
  have HMY := Lib.hid hj.len
  obtain ⟨ok, HOK⟩ : ∃ q, Hid (B (PrjOk xs ys) = q) := ⟨_, rfl⟩
  have hi1 := iProjectOk_any A n c xs B' m d ys w2 HI2.out HJ2.out (by omega) (by omega)
  rw [HOK.out] at hi1
  clear hi hj hb1 hb12
  go_wp2_with (fail)
  rw [HW2.out]
  obtain ⟨pb, HPB⟩ : ∃ q, Hid (w1.heap.size = q) := ⟨_, rfl⟩
  rw [HPB.out] at p0 p1 ⊢
  refine kBV hi1 ?_
  intro w3 hb3
  clear hi1
  have HB3 := Lib.hid (HB2.out.trans (hb3.mono HB2.out.size))
  have HI3 := Lib.hid (HI2.out.below hb3)
  have HJ3 := Lib.hid (HJ2.out.below hb3)
  replace p0 := keep hb3 p0
  replace p1 := keep hb3 p1
  clear hb3
  have hi2 := sProjectOk_any A n c xs B' m d ys w3 HI3.out HJ3.out (by omega) (by omega)
  rw [HOK.out] at hi2
  go_wp2_with (fail)
  refine kBV hi2 ?_
  intro w4 hb4
  clear hi2
  have HB4 := Lib.hid (HB3.out.trans (hb4.mono HB3.out.size))
  have HI4 := Lib.hid (HI3.out.below hb4)
  have HJ4 := Lib.hid (HJ3.out.below hb4)
  replace p0 := keep hb4 p0
  replace p1 := keep hb4 p1
  have P0 := Lib.hid p0
  have P1 := Lib.hid p1
  have hpb : pb < w4.heap.size := cell_lt p0
  clear hb4
  cases ok with
  | false =>
    go_wp2_with (fail)
    refine wp_region_held_drew (S := fun w' => w'.cell? ⟨pb, 0, none⟩ = some (.slice A n c) ∧ w'.cell? ⟨pb, 1, none⟩ = some (.slice B' m d)) (by kernel_rfl) ?_ (fun hHeld => ?_)
    · (try dsimp only); first | exact ⟨p0, p1⟩ | exact ⟨keep (show Below w4.heap.size w4 _ from (by repeat (first | exact Below.refl _ _ | exact hbD | exact hbC | exact hbB | exact hbA | refine Below.alloc ?_ (by first | (simp; done) | (have := hbA.size; simp <;> omega) | (have := hbB.size; simp <;> omega) | (have := hbC.size; simp <;> omega) | (have := hbD.size; simp <;> omega)) _ | apply Below.drew))) P0.out, keep (show Below w4.heap.size w4 _ from (by repeat (first | exact Below.refl _ _ | exact hbD | exact hbC | exact hbB | exact hbA | refine Below.alloc ?_ (by first | (simp; done) | (have := hbA.size; simp <;> omega) | (have := hbB.size; simp <;> omega) | (have := hbC.size; simp <;> omega) | (have := hbD.size; simp <;> omega)) _ | apply Below.drew))) P1.out⟩
    refine wpAnyH_take (i := 0) (oi := _) (v := ?_) rfl (by kernel_rfl) (by kernel_rfl) (by kernel_rfl) (fun _ _ _ h => h) (Or.inl ⟨by kernel_rfl, ?_⟩) (by assumption) ?_
    rotate_left
    · (intro w hSw; (try dsimp only at hSw); go_simp; (try with_reducible rfl))
    try simp only [Act.put, List.getElem_toArray, List.getElem_cons_succ, List.getElem_cons_zero, List.setIfInBounds_toArray, List.set_cons_zero, List.set_cons_succ]
    refine wpAnyH_ready (rs := [1]) (by kernel_rfl) (by simp) ?_
    refine AllReadyH.cons (o := _) rfl (fun K hK => ?_) AllReadyH.nil
    go_simp
    go_at_call 24; with_reducible refine kB (iProjectOk_any none 0 0 [] none 0 0 [] _ (ints0 _) (ints0 _) (by omega) (by omega)) ?_ (fun _ h _ => absurd prj_nil h.out)
    intro wA _ hbA'
    have hbA : Below w4.heap.size w4 wA := Below.trans (show Below w4.heap.size w4 _ from (by repeat (first | exact Below.refl _ _ | exact hbD | exact hbC | exact hbB | exact hbA | refine Below.alloc ?_ (by first | (simp; done) | (have := hbA.size; simp <;> omega) | (have := hbB.size; simp <;> omega) | (have := hbC.size; simp <;> omega) | (have := hbD.size; simp <;> omega)) _ | apply Below.drew))) (hbA'.mono (by first | (simp; done) | (have := hbA.size; simp <;> omega) | (have := hbB.size; simp <;> omega) | (have := hbC.size; simp <;> omega) | (have := hbD.size; simp <;> omega)))
    go_wp2_with fail
    refine hK.out _ _ ?_ (fun hHeld => ?_)
    · (try dsimp only); first | exact ⟨p0, p1⟩ | exact ⟨keep (show Below w4.heap.size w4 _ from (by repeat (first | exact Below.refl _ _ | exact hbD | exact hbC | exact hbB | exact hbA | refine Below.alloc ?_ (by first | (simp; done) | (have := hbA.size; simp <;> omega) | (have := hbB.size; simp <;> omega) | (have := hbC.size; simp <;> omega) | (have := hbD.size; simp <;> omega)) _ | apply Below.drew))) P0.out, keep (show Below w4.heap.size w4 _ from (by repeat (first | exact Below.refl _ _ | exact hbD | exact hbC | exact hbB | exact hbA | refine Below.alloc ?_ (by first | (simp; done) | (have := hbA.size; simp <;> omega) | (have := hbB.size; simp <;> omega) | (have := hbC.size; simp <;> omega) | (have := hbD.size; simp <;> omega)) _ | apply Below.drew))) P1.out⟩
    clear hK K
    try simp only [Act.put, List.getElem_toArray, List.getElem_cons_succ, List.getElem_cons_zero, List.setIfInBounds_toArray, List.set_cons_zero, List.set_cons_succ]
    refine wpAnyH_take (i := 2) (oi := _) (v := ?_) rfl (by kernel_rfl) (by kernel_rfl) (by kernel_rfl) (fun _ _ _ h => h) (Or.inl ⟨by kernel_rfl, ?_⟩) (by assumption) ?_
    rotate_left
    · (intro w hSw; (try dsimp only at hSw); go_simp; (try with_reducible rfl))
    try simp only [Act.put, List.getElem_toArray, List.getElem_cons_succ, List.getElem_cons_zero, List.setIfInBounds_toArray, List.set_cons_zero, List.set_cons_succ]
    refine wpAnyH_ready (rs := [3, 4]) (by kernel_rfl) (by simp) ?_
    refine AllReadyH.cons (o := _) rfl (fun K hK => ?_) (AllReadyH.cons (o := _) rfl (fun K hK => ?_) AllReadyH.nil)
    · go_simp
      refine hK.out _ _ ?_ (fun hHeld => ?_)
      · (try dsimp only); first | exact ⟨p0, p1⟩ | exact ⟨keep (show Below w4.heap.size w4 _ from (by repeat (first | exact Below.refl _ _ | exact hbD | exact hbC | exact hbB | exact hbA | refine Below.alloc ?_ (by first | (simp; done) | (have := hbA.size; simp <;> omega) | (have := hbB.size; simp <;> omega) | (have := hbC.size; simp <;> omega) | (have := hbD.size; simp <;> omega)) _ | apply Below.drew))) P0.out, keep (show Below w4.heap.size w4 _ from (by repeat (first | exact Below.refl _ _ | exact hbD | exact hbC | exact hbB | exact hbA | refine Below.alloc ?_ (by first | (simp; done) | (have := hbA.size; simp <;> omega) | (have := hbB.size; simp <;> omega) | (have := hbC.size; simp <;> omega) | (have := hbD.size; simp <;> omega)) _ | apply Below.drew))) P1.out⟩
      clear hK K
      try simp only [Act.put, List.getElem_toArray, List.getElem_cons_succ, List.getElem_cons_zero, List.setIfInBounds_toArray, List.set_cons_zero, List.set_cons_succ]
      refine wpAnyH_ready (rs := [4]) (by kernel_rfl) (by simp) ?_
      refine AllReadyH.cons (o := _) rfl (fun K hK => ?_) AllReadyH.nil
      go_simp
      refine hK.out _ _ ?_ (fun hHeld => ?_)
      · (try dsimp only); first | exact ⟨p0, p1⟩ | exact ⟨keep (show Below w4.heap.size w4 _ from (by repeat (first | exact Below.refl _ _ | exact hbD | exact hbC | exact hbB | exact hbA | refine Below.alloc ?_ (by first | (simp; done) | (have := hbA.size; simp <;> omega) | (have := hbB.size; simp <;> omega) | (have := hbC.size; simp <;> omega) | (have := hbD.size; simp <;> omega)) _ | apply Below.drew))) P0.out, keep (show Below w4.heap.size w4 _ from (by repeat (first | exact Below.refl _ _ | exact hbD | exact hbC | exact hbB | exact hbA | refine Below.alloc ?_ (by first | (simp; done) | (have := hbA.size; simp <;> omega) | (have := hbB.size; simp <;> omega) | (have := hbC.size; simp <;> omega) | (have := hbD.size; simp <;> omega)) _ | apply Below.drew))) P1.out⟩
      clear hK K
      try simp only [Act.put, List.getElem_toArray, List.getElem_cons_succ, List.getElem_cons_zero, List.setIfInBounds_toArray, List.set_cons_zero, List.set_cons_succ]
      refine wpAnyH_take (i := 5) (oi := _) (v := ?_) rfl (by kernel_rfl) (by kernel_rfl) (by kernel_rfl) (fun _ _ _ h => h) (Or.inl ⟨by kernel_rfl, ?_⟩) (by assumption) ?_
      rotate_left
      · (intro w hSw; (try dsimp only at hSw); go_simp; (try with_reducible rfl))
      try simp only [Act.put, List.getElem_toArray, List.getElem_cons_succ, List.getElem_cons_zero, List.setIfInBounds_toArray, List.set_cons_zero, List.set_cons_succ]
      refine wpAnyH_ready (rs := [6]) (by kernel_rfl) (by simp) ?_
      refine AllReadyH.cons (o := _) rfl (fun K hK => ?_) AllReadyH.nil
      go_simp
      go_at_call 24; with_reducible refine kB (iProjectOk_any _ 1 1 [1] _ 1 1 [0] _ (by repeat (first | exact ints1 (by simp) 1 _ | apply IntsAt.allocB | apply IntsAt.drewB | refine IntsAt.below ?_ hbC' | refine IntsAt.below ?_ hbB' | refine IntsAt.below ?_ hbA')) (by repeat (first | exact ints1 (by simp) 0 _ | apply IntsAt.allocB | apply IntsAt.drewB | refine IntsAt.below ?_ hbC' | refine IntsAt.below ?_ hbB' | refine IntsAt.below ?_ hbA')) (by omega) (by omega)) ?_ (fun _ h _ => absurd prj_one h.out)
      intro wB _ hbB'
      have hbB : Below w4.heap.size w4 wB := Below.trans (show Below w4.heap.size w4 _ from (by repeat (first | exact Below.refl _ _ | exact hbD | exact hbC | exact hbB | exact hbA | refine Below.alloc ?_ (by first | (simp; done) | (have := hbA.size; simp <;> omega) | (have := hbB.size; simp <;> omega) | (have := hbC.size; simp <;> omega) | (have := hbD.size; simp <;> omega)) _ | apply Below.drew))) (hbB'.mono (by first | (simp; done) | (have := hbA.size; simp <;> omega) | (have := hbB.size; simp <;> omega) | (have := hbC.size; simp <;> omega) | (have := hbD.size; simp <;> omega)))
      go_wp2_with fail
      refine hK.out _ _ ?_ (fun hHeld => ?_)
      · (try dsimp only); first | exact ⟨p0, p1⟩ | exact ⟨keep (show Below w4.heap.size w4 _ from (by repeat (first | exact Below.refl _ _ | exact hbD | exact hbC | exact hbB | exact hbA | refine Below.alloc ?_ (by first | (simp; done) | (have := hbA.size; simp <;> omega) | (have := hbB.size; simp <;> omega) | (have := hbC.size; simp <;> omega) | (have := hbD.size; simp <;> omega)) _ | apply Below.drew))) P0.out, keep (show Below w4.heap.size w4 _ from (by repeat (first | exact Below.refl _ _ | exact hbD | exact hbC | exact hbB | exact hbA | refine Below.alloc ?_ (by first | (simp; done) | (have := hbA.size; simp <;> omega) | (have := hbB.size; simp <;> omega) | (have := hbC.size; simp <;> omega) | (have := hbD.size; simp <;> omega)) _ | apply Below.drew))) P1.out⟩
      clear hK K
      try simp only [Act.put, List.getElem_toArray, List.getElem_cons_succ, List.getElem_cons_zero, List.setIfInBounds_toArray, List.set_cons_zero, List.set_cons_succ]
      refine wpAnyH_take (i := 7) (oi := _) (v := ?_) rfl (by kernel_rfl) (by kernel_rfl) (by kernel_rfl) (fun _ _ _ h => h) (Or.inl ⟨by kernel_rfl, ?_⟩) (by assumption) ?_
      rotate_left
      · (intro w hSw; (try dsimp only at hSw); go_simp; (try with_reducible rfl))
      try simp only [Act.put, List.getElem_toArray, List.getElem_cons_succ, List.getElem_cons_zero, List.setIfInBounds_toArray, List.set_cons_zero, List.set_cons_succ]
      refine wpAnyH_take (i := 8) (oi := _) (v := ?_) rfl (by kernel_rfl) (by kernel_rfl) (by kernel_rfl) (fun _ _ _ h => h) (Or.inl ⟨by kernel_rfl, ?_⟩) (by assumption) ?_
      rotate_left
      · (intro w hSw; (try dsimp only at hSw); go_simp; (try with_reducible rfl))
      try simp only [Act.put, List.getElem_toArray, List.getElem_cons_succ, List.getElem_cons_zero, List.setIfInBounds_toArray, List.set_cons_zero, List.set_cons_succ]
      refine wpAnyH_take (i := 9) (oi := _) (v := ?_) rfl (by kernel_rfl) (by kernel_rfl) (by kernel_rfl) (fun _ _ _ h => h) (Or.inl ⟨by kernel_rfl, ?_⟩) (by assumption) ?_
      rotate_left
      · (intro w hSw; (try dsimp only at hSw); go_simp; (try with_reducible rfl))
      try simp only [Act.put, List.getElem_toArray, List.getElem_cons_succ, List.getElem_cons_zero, List.setIfInBounds_toArray, List.set_cons_zero, List.set_cons_succ]
      refine wpAnyH_take (i := 10) (oi := _) (v := ?_) rfl (by kernel_rfl) (by kernel_rfl) (by kernel_rfl) (fun _ _ _ h => h) (Or.inl ⟨by kernel_rfl, ?_⟩) (by assumption) ?_
      rotate_left
      · (intro w hSw; (try dsimp only at hSw); go_simp; (try with_reducible rfl))
      try simp only [Act.put, List.getElem_toArray, List.getElem_cons_succ, List.getElem_cons_zero, List.setIfInBounds_toArray, List.set_cons_zero, List.set_cons_succ]
      refine wpAnyH_take (i := 11) (oi := _) (v := ?_) rfl (by kernel_rfl) (by kernel_rfl) (by kernel_rfl) (fun _ _ _ h => h) (Or.inl ⟨by kernel_rfl, ?_⟩) (by assumption) ?_
      rotate_left
      · (intro w hSw; (try dsimp only at hSw); go_simp; (try with_reducible rfl))
      try simp only [Act.put, List.getElem_toArray, List.getElem_cons_succ, List.getElem_cons_zero, List.setIfInBounds_toArray, List.set_cons_zero, List.set_cons_succ]
      refine wpAnyH_take (i := 12) (oi := _) (v := undef) rfl (by kernel_rfl) (by kernel_rfl) (by kernel_rfl) (fun _ _ _ h => h) (Or.inr ⟨by kernel_rfl, Eq.refl undef⟩) (by assumption) ?_
      try simp only [Act.put, List.getElem_toArray, List.getElem_cons_succ, List.getElem_cons_zero, List.setIfInBounds_toArray, List.set_cons_zero, List.set_cons_succ]
      refine wpAnyH_take (i := 13) (oi := _) (v := undef) rfl (by kernel_rfl) (by kernel_rfl) (by kernel_rfl) (fun _ _ _ h => h) (Or.inr ⟨by kernel_rfl, Eq.refl undef⟩) (by assumption) ?_
      try simp only [Act.put, List.getElem_toArray, List.getElem_cons_succ, List.getElem_cons_zero, List.setIfInBounds_toArray, List.set_cons_zero, List.set_cons_succ]
      refine wpAnyH_take (i := 14) (oi := _) (v := ?_) rfl (by kernel_rfl) (by kernel_rfl) (by kernel_rfl) (fun _ _ _ h => h) (Or.inl ⟨by kernel_rfl, ?_⟩) (by assumption) ?_
      rotate_left
      · (intro w hSw; (try dsimp only at hSw); go_simp; (try with_reducible rfl))
      try simp only [Act.put, List.getElem_toArray, List.getElem_cons_succ, List.getElem_cons_zero, List.setIfInBounds_toArray, List.set_cons_zero, List.set_cons_succ]
      refine wpAnyH_take (i := 15) (oi := _) (v := ?_) rfl (by kernel_rfl) (by kernel_rfl) (by kernel_rfl) (fun _ _ _ h => h) (Or.inl ⟨by kernel_rfl, ?_⟩) (by assumption) ?_
      rotate_left
      · (intro w hSw; (try dsimp only at hSw); go_simp; (try with_reducible rfl))
      try simp only [Act.put, List.getElem_toArray, List.getElem_cons_succ, List.getElem_cons_zero, List.setIfInBounds_toArray, List.set_cons_zero, List.set_cons_succ]
      refine wpAnyH_take (i := 16) (oi := _) (v := undef) rfl (by kernel_rfl) (by kernel_rfl) (by kernel_rfl) (fun _ _ _ h => h) (Or.inr ⟨by kernel_rfl, Eq.refl undef⟩) (by assumption) ?_
      try simp only [Act.put, List.getElem_toArray, List.getElem_cons_succ, List.getElem_cons_zero, List.setIfInBounds_toArray, List.set_cons_zero, List.set_cons_succ]
      refine wpAnyH_take (i := 17) (oi := _) (v := undef) rfl (by kernel_rfl) (by kernel_rfl) (by kernel_rfl) (fun _ _ _ h => h) (Or.inr ⟨by kernel_rfl, Eq.refl undef⟩) (by assumption) ?_
      try simp only [Act.put, List.getElem_toArray, List.getElem_cons_succ, List.getElem_cons_zero, List.setIfInBounds_toArray, List.set_cons_zero, List.set_cons_succ]
      refine wpAnyH_take (i := 18) (oi := _) (v := undef) rfl (by kernel_rfl) (by kernel_rfl) (by kernel_rfl) (fun _ _ _ h => h) (Or.inr ⟨by kernel_rfl, Eq.refl undef⟩) (by assumption) ?_
      try simp only [Act.put, List.getElem_toArray, List.getElem_cons_succ, List.getElem_cons_zero, List.setIfInBounds_toArray, List.set_cons_zero, List.set_cons_succ]
      refine wpAnyH_take (i := 19) (oi := _) (v := undef) rfl (by kernel_rfl) (by kernel_rfl) (by kernel_rfl) (fun _ _ _ h => h) (Or.inr ⟨by kernel_rfl, Eq.refl undef⟩) (by assumption) ?_
      try simp only [Act.put, List.getElem_toArray, List.getElem_cons_succ, List.getElem_cons_zero, List.setIfInBounds_toArray, List.set_cons_zero, List.set_cons_succ]
      refine wpAnyH_take (i := 20) (oi := _) (v := undef) rfl (by kernel_rfl) (by kernel_rfl) (by kernel_rfl) (fun _ _ _ h => h) (Or.inr ⟨by kernel_rfl, Eq.refl undef⟩) (by assumption) ?_
      try simp only [Act.put, List.getElem_toArray, List.getElem_cons_succ, List.getElem_cons_zero, List.setIfInBounds_toArray, List.set_cons_zero, List.set_cons_succ]
      refine wpAnyH_take (i := 21) (oi := _) (v := undef) rfl (by kernel_rfl) (by kernel_rfl) (by kernel_rfl) (fun _ _ _ h => h) (Or.inr ⟨by kernel_rfl, Eq.refl undef⟩) (by assumption) ?_
      try simp only [Act.put, List.getElem_toArray, List.getElem_cons_succ, List.getElem_cons_zero, List.setIfInBounds_toArray, List.set_cons_zero, List.set_cons_succ]
      refine wpAnyH_take (i := 22) (oi := _) (v := undef) rfl (by kernel_rfl) (by kernel_rfl) (by kernel_rfl) (fun _ _ _ h => h) (Or.inr ⟨by kernel_rfl, Eq.refl undef⟩) (by assumption) ?_
      try simp only [Act.put, List.getElem_toArray, List.getElem_cons_succ, List.getElem_cons_zero, List.setIfInBounds_toArray, List.set_cons_zero, List.set_cons_succ]
      refine wpAnyH_take (i := 23) (oi := _) (v := undef) rfl (by kernel_rfl) (by kernel_rfl) (by kernel_rfl) (fun _ _ _ h => h) (Or.inr ⟨by kernel_rfl, Eq.refl undef⟩) (by assumption) ?_
      try simp only [Act.put, List.getElem_toArray, List.getElem_cons_succ, List.getElem_cons_zero, List.setIfInBounds_toArray, List.set_cons_zero, List.set_cons_succ]
      refine wpAnyH_take (i := 24) (oi := _) (v := undef) rfl (by kernel_rfl) (by kernel_rfl) (by kernel_rfl) (fun _ _ _ h => h) (Or.inr ⟨by kernel_rfl, Eq.refl undef⟩) (by assumption) ?_
      try simp only [Act.put, List.getElem_toArray, List.getElem_cons_succ, List.getElem_cons_zero, List.setIfInBounds_toArray, List.set_cons_zero, List.set_cons_succ]
      refine wpAnyH_take (i := 25) (oi := _) (v := undef) rfl (by kernel_rfl) (by kernel_rfl) (by kernel_rfl) (fun _ _ _ h => h) (Or.inr ⟨by kernel_rfl, Eq.refl undef⟩) (by assumption) ?_
      try simp only [Act.put, List.getElem_toArray, List.getElem_cons_succ, List.getElem_cons_zero, List.setIfInBounds_toArray, List.set_cons_zero, List.set_cons_succ]
      refine wpAnyH_take (i := 26) (oi := _) (v := ?_) rfl (by kernel_rfl) (by kernel_rfl) (by kernel_rfl) (fun _ _ _ h => h) (Or.inl ⟨by kernel_rfl, ?_⟩) (by assumption) ?_
      rotate_left
      · (intro w hSw; (try dsimp only at hSw); go_simp; (try with_reducible rfl))
      try simp only [Act.put, List.getElem_toArray, List.getElem_cons_succ, List.getElem_cons_zero, List.setIfInBounds_toArray, List.set_cons_zero, List.set_cons_succ]
      refine wpAnyH_take (i := 27) (oi := _) (v := ?_) rfl (by kernel_rfl) (by kernel_rfl) (by kernel_rfl) (fun _ _ _ h => h) (Or.inl ⟨by kernel_rfl, ?_⟩) (by assumption) ?_
      rotate_left
      · (intro w hSw; (try dsimp only at hSw); go_simp; (try with_reducible rfl))
      try simp only [Act.put, List.getElem_toArray, List.getElem_cons_succ, List.getElem_cons_zero, List.setIfInBounds_toArray, List.set_cons_zero, List.set_cons_succ]
      refine wpAnyH_take (i := 28) (oi := _) (v := ?_) rfl (by kernel_rfl) (by kernel_rfl) (by kernel_rfl) (fun _ _ _ h => h) (Or.inl ⟨by kernel_rfl, ?_⟩) (by assumption) ?_
      rotate_left
      · (intro w hSw; (try dsimp only at hSw); go_simp; (try with_reducible rfl))
      try simp only [Act.put, List.getElem_toArray, List.getElem_cons_succ, List.getElem_cons_zero, List.setIfInBounds_toArray, List.set_cons_zero, List.set_cons_succ]
      refine wpAnyH_ready (rs := [29]) (by kernel_rfl) (by simp) ?_
      refine AllReadyH.cons (o := _) rfl (fun K hK => ?_) AllReadyH.nil
      go_simp
      go_at_call 27; with_reducible refine kBV (alive_any _) ?_
      intro wD hbD'
      have hbD : Below w4.heap.size w4 wD := Below.trans (show Below w4.heap.size w4 _ from (by repeat (first | exact Below.refl _ _ | exact hbD | exact hbC | exact hbB | exact hbA | refine Below.alloc ?_ (by first | (simp; done) | (have := hbA.size; simp <;> omega) | (have := hbB.size; simp <;> omega) | (have := hbC.size; simp <;> omega) | (have := hbD.size; simp <;> omega)) _ | apply Below.drew))) (hbD'.mono (by first | (simp; done) | (have := hbA.size; simp <;> omega) | (have := hbB.size; simp <;> omega) | (have := hbC.size; simp <;> omega) | (have := hbD.size; simp <;> omega)))
      go_wp2_with fail
      refine hK.out _ _ ?_ (fun hHeld => ?_)
      · (try dsimp only); first | exact ⟨p0, p1⟩ | exact ⟨keep (show Below w4.heap.size w4 _ from (by repeat (first | exact Below.refl _ _ | exact hbD | exact hbC | exact hbB | exact hbA | refine Below.alloc ?_ (by first | (simp; done) | (have := hbA.size; simp <;> omega) | (have := hbB.size; simp <;> omega) | (have := hbC.size; simp <;> omega) | (have := hbD.size; simp <;> omega)) _ | apply Below.drew))) P0.out, keep (show Below w4.heap.size w4 _ from (by repeat (first | exact Below.refl _ _ | exact hbD | exact hbC | exact hbB | exact hbA | refine Below.alloc ?_ (by first | (simp; done) | (have := hbA.size; simp <;> omega) | (have := hbB.size; simp <;> omega) | (have := hbC.size; simp <;> omega) | (have := hbD.size; simp <;> omega)) _ | apply Below.drew))) P1.out⟩
      clear hK K
      try simp only [Act.put, List.getElem_toArray, List.getElem_cons_succ, List.getElem_cons_zero, List.setIfInBounds_toArray, List.set_cons_zero, List.set_cons_succ]
      refine wpAnyH_take (i := 30) (oi := _) (v := ?_) rfl (by kernel_rfl) (by kernel_rfl) (by kernel_rfl) (fun _ _ _ h => h) (Or.inl ⟨by kernel_rfl, ?_⟩) (by assumption) ?_
      rotate_left
      · (intro w hSw; (try dsimp only at hSw); go_simp; (try with_reducible rfl))
      try simp only [Act.put, List.getElem_toArray, List.getElem_cons_succ, List.getElem_cons_zero, List.setIfInBounds_toArray, List.set_cons_zero, List.set_cons_succ]
      refine wpAnyH_take (i := 31) (oi := _) (v := ?_) rfl (by kernel_rfl) (by kernel_rfl) (by kernel_rfl) (fun _ _ _ h => h) (Or.inl ⟨by kernel_rfl, ?_⟩) (by assumption) ?_
      rotate_left
      · (intro w hSw; (try dsimp only at hSw); go_simp; (try with_reducible rfl))
      try simp only [Act.put, List.getElem_toArray, List.getElem_cons_succ, List.getElem_cons_zero, List.setIfInBounds_toArray, List.set_cons_zero, List.set_cons_succ]
      refine wpAnyH_done (by kernel_rfl) ?_ _
      go_wp2
      go_ret
      exact ⟨rfl, HB4.out.trans (hbD.mono HB4.out.size)⟩
    · go_simp
      refine hK.out _ _ ?_ (fun hHeld => ?_)
      · (try dsimp only); first | exact ⟨p0, p1⟩ | exact ⟨keep (show Below w4.heap.size w4 _ from (by repeat (first | exact Below.refl _ _ | exact hbD | exact hbC | exact hbB | exact hbA | refine Below.alloc ?_ (by first | (simp; done) | (have := hbA.size; simp <;> omega) | (have := hbB.size; simp <;> omega) | (have := hbC.size; simp <;> omega) | (have := hbD.size; simp <;> omega)) _ | apply Below.drew))) P0.out, keep (show Below w4.heap.size w4 _ from (by repeat (first | exact Below.refl _ _ | exact hbD | exact hbC | exact hbB | exact hbA | refine Below.alloc ?_ (by first | (simp; done) | (have := hbA.size; simp <;> omega) | (have := hbB.size; simp <;> omega) | (have := hbC.size; simp <;> omega) | (have := hbD.size; simp <;> omega)) _ | apply Below.drew))) P1.out⟩
      clear hK K
      try simp only [Act.put, List.getElem_toArray, List.getElem_cons_succ, List.getElem_cons_zero, List.setIfInBounds_toArray, List.set_cons_zero, List.set_cons_succ]
      refine wpAnyH_ready (rs := [3]) (by kernel_rfl) (by simp) ?_
      refine AllReadyH.cons (o := _) rfl (fun K hK => ?_) AllReadyH.nil
      go_simp
      refine hK.out _ _ ?_ (fun hHeld => ?_)
      · (try dsimp only); first | exact ⟨p0, p1⟩ | exact ⟨keep (show Below w4.heap.size w4 _ from (by repeat (first | exact Below.refl _ _ | exact hbD | exact hbC | exact hbB | exact hbA | refine Below.alloc ?_ (by first | (simp; done) | (have := hbA.size; simp <;> omega) | (have := hbB.size; simp <;> omega) | (have := hbC.size; simp <;> omega) | (have := hbD.size; simp <;> omega)) _ | apply Below.drew))) P0.out, keep (show Below w4.heap.size w4 _ from (by repeat (first | exact Below.refl _ _ | exact hbD | exact hbC | exact hbB | exact hbA | refine Below.alloc ?_ (by first | (simp; done) | (have := hbA.size; simp <;> omega) | (have := hbB.size; simp <;> omega) | (have := hbC.size; simp <;> omega) | (have := hbD.size; simp <;> omega)) _ | apply Below.drew))) P1.out⟩
      clear hK K
      try simp only [Act.put, List.getElem_toArray, List.getElem_cons_succ, List.getElem_cons_zero, List.setIfInBounds_toArray, List.set_cons_zero, List.set_cons_succ]
      refine wpAnyH_take (i := 5) (oi := _) (v := ?_) rfl (by kernel_rfl) (by kernel_rfl) (by kernel_rfl) (fun _ _ _ h => h) (Or.inl ⟨by kernel_rfl, ?_⟩) (by assumption) ?_
      rotate_left
      · (intro w hSw; (try dsimp only at hSw); go_simp; (try with_reducible rfl))
      try simp only [Act.put, List.getElem_toArray, List.getElem_cons_succ, List.getElem_cons_zero, List.setIfInBounds_toArray, List.set_cons_zero, List.set_cons_succ]
      refine wpAnyH_ready (rs := [6]) (by kernel_rfl) (by simp) ?_
      refine AllReadyH.cons (o := _) rfl (fun K hK => ?_) AllReadyH.nil
      go_simp
      go_at_call 24; with_reducible refine kB (iProjectOk_any _ 1 1 [1] _ 1 1 [0] _ (by repeat (first | exact ints1 (by simp) 1 _ | apply IntsAt.allocB | apply IntsAt.drewB | refine IntsAt.below ?_ hbC' | refine IntsAt.below ?_ hbB' | refine IntsAt.below ?_ hbA')) (by repeat (first | exact ints1 (by simp) 0 _ | apply IntsAt.allocB | apply IntsAt.drewB | refine IntsAt.below ?_ hbC' | refine IntsAt.below ?_ hbB' | refine IntsAt.below ?_ hbA')) (by omega) (by omega)) ?_ (fun _ h _ => absurd prj_one h.out)
      intro wB _ hbB'
      have hbB : Below w4.heap.size w4 wB := Below.trans (show Below w4.heap.size w4 _ from (by repeat (first | exact Below.refl _ _ | exact hbD | exact hbC | exact hbB | exact hbA | refine Below.alloc ?_ (by first | (simp; done) | (have := hbA.size; simp <;> omega) | (have := hbB.size; simp <;> omega) | (have := hbC.size; simp <;> omega) | (have := hbD.size; simp <;> omega)) _ | apply Below.drew))) (hbB'.mono (by first | (simp; done) | (have := hbA.size; simp <;> omega) | (have := hbB.size; simp <;> omega) | (have := hbC.size; simp <;> omega) | (have := hbD.size; simp <;> omega)))
      go_wp2_with fail
      refine hK.out _ _ ?_ (fun hHeld => ?_)
      · (try dsimp only); first | exact ⟨p0, p1⟩ | exact ⟨keep (show Below w4.heap.size w4 _ from (by repeat (first | exact Below.refl _ _ | exact hbD | exact hbC | exact hbB | exact hbA | refine Below.alloc ?_ (by first | (simp; done) | (have := hbA.size; simp <;> omega) | (have := hbB.size; simp <;> omega) | (have := hbC.size; simp <;> omega) | (have := hbD.size; simp <;> omega)) _ | apply Below.drew))) P0.out, keep (show Below w4.heap.size w4 _ from (by repeat (first | exact Below.refl _ _ | exact hbD | exact hbC | exact hbB | exact hbA | refine Below.alloc ?_ (by first | (simp; done) | (have := hbA.size; simp <;> omega) | (have := hbB.size; simp <;> omega) | (have := hbC.size; simp <;> omega) | (have := hbD.size; simp <;> omega)) _ | apply Below.drew))) P1.out⟩
      clear hK K
      try simp only [Act.put, List.getElem_toArray, List.getElem_cons_succ, List.getElem_cons_zero, List.setIfInBounds_toArray, List.set_cons_zero, List.set_cons_succ]
      refine wpAnyH_take (i := 7) (oi := _) (v := ?_) rfl (by kernel_rfl) (by kernel_rfl) (by kernel_rfl) (fun _ _ _ h => h) (Or.inl ⟨by kernel_rfl, ?_⟩) (by assumption) ?_
      rotate_left
      · (intro w hSw; (try dsimp only at hSw); go_simp; (try with_reducible rfl))
      try simp only [Act.put, List.getElem_toArray, List.getElem_cons_succ, List.getElem_cons_zero, List.setIfInBounds_toArray, List.set_cons_zero, List.set_cons_succ]
      refine wpAnyH_take (i := 8) (oi := _) (v := ?_) rfl (by kernel_rfl) (by kernel_rfl) (by kernel_rfl) (fun _ _ _ h => h) (Or.inl ⟨by kernel_rfl, ?_⟩) (by assumption) ?_
      rotate_left
      · (intro w hSw; (try dsimp only at hSw); go_simp; (try with_reducible rfl))
      try simp only [Act.put, List.getElem_toArray, List.getElem_cons_succ, List.getElem_cons_zero, List.setIfInBounds_toArray, List.set_cons_zero, List.set_cons_succ]
      refine wpAnyH_take (i := 9) (oi := _) (v := ?_) rfl (by kernel_rfl) (by kernel_rfl) (by kernel_rfl) (fun _ _ _ h => h) (Or.inl ⟨by kernel_rfl, ?_⟩) (by assumption) ?_
      rotate_left
      · (intro w hSw; (try dsimp only at hSw); go_simp; (try with_reducible rfl))
      try simp only [Act.put, List.getElem_toArray, List.getElem_cons_succ, List.getElem_cons_zero, List.setIfInBounds_toArray, List.set_cons_zero, List.set_cons_succ]
      refine wpAnyH_take (i := 10) (oi := _) (v := ?_) rfl (by kernel_rfl) (by kernel_rfl) (by kernel_rfl) (fun _ _ _ h => h) (Or.inl ⟨by kernel_rfl, ?_⟩) (by assumption) ?_
      rotate_left
      · (intro w hSw; (try dsimp only at hSw); go_simp; (try with_reducible rfl))
      try simp only [Act.put, List.getElem_toArray, List.getElem_cons_succ, List.getElem_cons_zero, List.setIfInBounds_toArray, List.set_cons_zero, List.set_cons_succ]
      refine wpAnyH_take (i := 11) (oi := _) (v := ?_) rfl (by kernel_rfl) (by kernel_rfl) (by kernel_rfl) (fun _ _ _ h => h) (Or.inl ⟨by kernel_rfl, ?_⟩) (by assumption) ?_
      rotate_left
      · (intro w hSw; (try dsimp only at hSw); go_simp; (try with_reducible rfl))
      try simp only [Act.put, List.getElem_toArray, List.getElem_cons_succ, List.getElem_cons_zero, List.setIfInBounds_toArray, List.set_cons_zero, List.set_cons_succ]
      refine wpAnyH_take (i := 12) (oi := _) (v := undef) rfl (by kernel_rfl) (by kernel_rfl) (by kernel_rfl) (fun _ _ _ h => h) (Or.inr ⟨by kernel_rfl, Eq.refl undef⟩) (by assumption) ?_
      try simp only [Act.put, List.getElem_toArray, List.getElem_cons_succ, List.getElem_cons_zero, List.setIfInBounds_toArray, List.set_cons_zero, List.set_cons_succ]
      refine wpAnyH_take (i := 13) (oi := _) (v := undef) rfl (by kernel_rfl) (by kernel_rfl) (by kernel_rfl) (fun _ _ _ h => h) (Or.inr ⟨by kernel_rfl, Eq.refl undef⟩) (by assumption) ?_
      try simp only [Act.put, List.getElem_toArray, List.getElem_cons_succ, List.getElem_cons_zero, List.setIfInBounds_toArray, List.set_cons_zero, List.set_cons_succ]
      refine wpAnyH_take (i := 14) (oi := _) (v := ?_) rfl (by kernel_rfl) (by kernel_rfl) (by kernel_rfl) (fun _ _ _ h => h) (Or.inl ⟨by kernel_rfl, ?_⟩) (by assumption) ?_
      rotate_left
      · (intro w hSw; (try dsimp only at hSw); go_simp; (try with_reducible rfl))
      try simp only [Act.put, List.getElem_toArray, List.getElem_cons_succ, List.getElem_cons_zero, List.setIfInBounds_toArray, List.set_cons_zero, List.set_cons_succ]
      refine wpAnyH_take (i := 15) (oi := _) (v := ?_) rfl (by kernel_rfl) (by kernel_rfl) (by kernel_rfl) (fun _ _ _ h => h) (Or.inl ⟨by kernel_rfl, ?_⟩) (by assumption) ?_
      rotate_left
      · (intro w hSw; (try dsimp only at hSw); go_simp; (try with_reducible rfl))
      try simp only [Act.put, List.getElem_toArray, List.getElem_cons_succ, List.getElem_cons_zero, List.setIfInBounds_toArray, List.set_cons_zero, List.set_cons_succ]
      refine wpAnyH_take (i := 16) (oi := _) (v := undef) rfl (by kernel_rfl) (by kernel_rfl) (by kernel_rfl) (fun _ _ _ h => h) (Or.inr ⟨by kernel_rfl, Eq.refl undef⟩) (by assumption) ?_
      try simp only [Act.put, List.getElem_toArray, List.getElem_cons_succ, List.getElem_cons_zero, List.setIfInBounds_toArray, List.set_cons_zero, List.set_cons_succ]
      refine wpAnyH_take (i := 17) (oi := _) (v := undef) rfl (by kernel_rfl) (by kernel_rfl) (by kernel_rfl) (fun _ _ _ h => h) (Or.inr ⟨by kernel_rfl, Eq.refl undef⟩) (by assumption) ?_
      try simp only [Act.put, List.getElem_toArray, List.getElem_cons_succ, List.getElem_cons_zero, List.setIfInBounds_toArray, List.set_cons_zero, List.set_cons_succ]
      refine wpAnyH_take (i := 18) (oi := _) (v := undef) rfl (by kernel_rfl) (by kernel_rfl) (by kernel_rfl) (fun _ _ _ h => h) (Or.inr ⟨by kernel_rfl, Eq.refl undef⟩) (by assumption) ?_
      try simp only [Act.put, List.getElem_toArray, List.getElem_cons_succ, List.getElem_cons_zero, List.setIfInBounds_toArray, List.set_cons_zero, List.set_cons_succ]
      refine wpAnyH_take (i := 19) (oi := _) (v := undef) rfl (by kernel_rfl) (by kernel_rfl) (by kernel_rfl) (fun _ _ _ h => h) (Or.inr ⟨by kernel_rfl, Eq.refl undef⟩) (by assumption) ?_
      try simp only [Act.put, List.getElem_toArray, List.getElem_cons_succ, List.getElem_cons_zero, List.setIfInBounds_toArray, List.set_cons_zero, List.set_cons_succ]
      refine wpAnyH_take (i := 20) (oi := _) (v := undef) rfl (by kernel_rfl) (by kernel_rfl) (by kernel_rfl) (fun _ _ _ h => h) (Or.inr ⟨by kernel_rfl, Eq.refl undef⟩) (by assumption) ?_
      try simp only [Act.put, List.getElem_toArray, List.getElem_cons_succ, List.getElem_cons_zero, List.setIfInBounds_toArray, List.set_cons_zero, List.set_cons_succ]
      refine wpAnyH_take (i := 21) (oi := _) (v := undef) rfl (by kernel_rfl) (by kernel_rfl) (by kernel_rfl) (fun _ _ _ h => h) (Or.inr ⟨by kernel_rfl, Eq.refl undef⟩) (by assumption) ?_
      try simp only [Act.put, List.getElem_toArray, List.getElem_cons_succ, List.getElem_cons_zero, List.setIfInBounds_toArray, List.set_cons_zero, List.set_cons_succ]
      refine wpAnyH_take (i := 22) (oi := _) (v := undef) rfl (by kernel_rfl) (by kernel_rfl) (by kernel_rfl) (fun _ _ _ h => h) (Or.inr ⟨by kernel_rfl, Eq.refl undef⟩) (by assumption) ?_
      try simp only [Act.put, List.getElem_toArray, List.getElem_cons_succ, List.getElem_cons_zero, List.setIfInBounds_toArray, List.set_cons_zero, List.set_cons_succ]
      refine wpAnyH_take (i := 23) (oi := _) (v := undef) rfl (by kernel_rfl) (by kernel_rfl) (by kernel_rfl) (fun _ _ _ h => h) (Or.inr ⟨by kernel_rfl, Eq.refl undef⟩) (by assumption) ?_
      try simp only [Act.put, List.getElem_toArray, List.getElem_cons_succ, List.getElem_cons_zero, List.setIfInBounds_toArray, List.set_cons_zero, List.set_cons_succ]
      refine wpAnyH_take (i := 24) (oi := _) (v := undef) rfl (by kernel_rfl) (by kernel_rfl) (by kernel_rfl) (fun _ _ _ h => h) (Or.inr ⟨by kernel_rfl, Eq.refl undef⟩) (by assumption) ?_
      try simp only [Act.put, List.getElem_toArray, List.getElem_cons_succ, List.getElem_cons_zero, List.setIfInBounds_toArray, List.set_cons_zero, List.set_cons_succ]
      refine wpAnyH_take (i := 25) (oi := _) (v := undef) rfl (by kernel_rfl) (by kernel_rfl) (by kernel_rfl) (fun _ _ _ h => h) (Or.inr ⟨by kernel_rfl, Eq.refl undef⟩) (by assumption) ?_
      try simp only [Act.put, List.getElem_toArray, List.getElem_cons_succ, List.getElem_cons_zero, List.setIfInBounds_toArray, List.set_cons_zero, List.set_cons_succ]
      refine wpAnyH_take (i := 26) (oi := _) (v := ?_) rfl (by kernel_rfl) (by kernel_rfl) (by kernel_rfl) (fun _ _ _ h => h) (Or.inl ⟨by kernel_rfl, ?_⟩) (by assumption) ?_
      rotate_left
      · (intro w hSw; (try dsimp only at hSw); go_simp; (try with_reducible rfl))
      try simp only [Act.put, List.getElem_toArray, List.getElem_cons_succ, List.getElem_cons_zero, List.setIfInBounds_toArray, List.set_cons_zero, List.set_cons_succ]
      refine wpAnyH_take (i := 27) (oi := _) (v := ?_) rfl (by kernel_rfl) (by kernel_rfl) (by kernel_rfl) (fun _ _ _ h => h) (Or.inl ⟨by kernel_rfl, ?_⟩) (by assumption) ?_
      rotate_left
      · (intro w hSw; (try dsimp only at hSw); go_simp; (try with_reducible rfl))
      try simp only [Act.put, List.getElem_toArray, List.getElem_cons_succ, List.getElem_cons_zero, List.setIfInBounds_toArray, List.set_cons_zero, List.set_cons_succ]
      refine wpAnyH_take (i := 28) (oi := _) (v := ?_) rfl (by kernel_rfl) (by kernel_rfl) (by kernel_rfl) (fun _ _ _ h => h) (Or.inl ⟨by kernel_rfl, ?_⟩) (by assumption) ?_
      rotate_left
      · (intro w hSw; (try dsimp only at hSw); go_simp; (try with_reducible rfl))
      try simp only [Act.put, List.getElem_toArray, List.getElem_cons_succ, List.getElem_cons_zero, List.setIfInBounds_toArray, List.set_cons_zero, List.set_cons_succ]
      refine wpAnyH_ready (rs := [29]) (by kernel_rfl) (by simp) ?_
      refine AllReadyH.cons (o := _) rfl (fun K hK => ?_) AllReadyH.nil
      go_simp
      go_at_call 27; with_reducible refine kBV (alive_any _) ?_
      intro wD hbD'
      have hbD : Below w4.heap.size w4 wD := Below.trans (show Below w4.heap.size w4 _ from (by repeat (first | exact Below.refl _ _ | exact hbD | exact hbC | exact hbB | exact hbA | refine Below.alloc ?_ (by first | (simp; done) | (have := hbA.size; simp <;> omega) | (have := hbB.size; simp <;> omega) | (have := hbC.size; simp <;> omega) | (have := hbD.size; simp <;> omega)) _ | apply Below.drew))) (hbD'.mono (by first | (simp; done) | (have := hbA.size; simp <;> omega) | (have := hbB.size; simp <;> omega) | (have := hbC.size; simp <;> omega) | (have := hbD.size; simp <;> omega)))
      go_wp2_with fail
      refine hK.out _ _ ?_ (fun hHeld => ?_)
      · (try dsimp only); first | exact ⟨p0, p1⟩ | exact ⟨keep (show Below w4.heap.size w4 _ from (by repeat (first | exact Below.refl _ _ | exact hbD | exact hbC | exact hbB | exact hbA | refine Below.alloc ?_ (by first | (simp; done) | (have := hbA.size; simp <;> omega) | (have := hbB.size; simp <;> omega) | (have := hbC.size; simp <;> omega) | (have := hbD.size; simp <;> omega)) _ | apply Below.drew))) P0.out, keep (show Below w4.heap.size w4 _ from (by repeat (first | exact Below.refl _ _ | exact hbD | exact hbC | exact hbB | exact hbA | refine Below.alloc ?_ (by first | (simp; done) | (have := hbA.size; simp <;> omega) | (have := hbB.size; simp <;> omega) | (have := hbC.size; simp <;> omega) | (have := hbD.size; simp <;> omega)) _ | apply Below.drew))) P1.out⟩
      clear hK K
      try simp only [Act.put, List.getElem_toArray, List.getElem_cons_succ, List.getElem_cons_zero, List.setIfInBounds_toArray, List.set_cons_zero, List.set_cons_succ]
      refine wpAnyH_take (i := 30) (oi := _) (v := ?_) rfl (by kernel_rfl) (by kernel_rfl) (by kernel_rfl) (fun _ _ _ h => h) (Or.inl ⟨by kernel_rfl, ?_⟩) (by assumption) ?_
      rotate_left
      · (intro w hSw; (try dsimp only at hSw); go_simp; (try with_reducible rfl))
      try simp only [Act.put, List.getElem_toArray, List.getElem_cons_succ, List.getElem_cons_zero, List.setIfInBounds_toArray, List.set_cons_zero, List.set_cons_succ]
      refine wpAnyH_take (i := 31) (oi := _) (v := ?_) rfl (by kernel_rfl) (by kernel_rfl) (by kernel_rfl) (fun _ _ _ h => h) (Or.inl ⟨by kernel_rfl, ?_⟩) (by assumption) ?_
      rotate_left
      · (intro w hSw; (try dsimp only at hSw); go_simp; (try with_reducible rfl))
      try simp only [Act.put, List.getElem_toArray, List.getElem_cons_succ, List.getElem_cons_zero, List.setIfInBounds_toArray, List.set_cons_zero, List.set_cons_succ]
      refine wpAnyH_done (by kernel_rfl) ?_ _
      go_wp2
      go_ret
      exact ⟨rfl, HB4.out.trans (hbD.mono HB4.out.size)⟩
  | true =>
    have hP := of_B HOK.out
    obtain rfl : m = n := by have h1 := hP.2.2.2; have := HNX.out; have := HMY.out; omega
    by_cases hm0 : m = 0
    · subst hm0
      clear hP
      go_wp2_with (fail)
      refine wp_region_held_drew (S := fun w' => w'.cell? ⟨pb, 0, none⟩ = some (.slice A 0 c) ∧ w'.cell? ⟨pb, 1, none⟩ = some (.slice B' 0 d)) (by kernel_rfl) ?_ (fun hHeld => ?_)
      · (try dsimp only); first | exact ⟨p0, p1⟩ | exact ⟨keep (show Below w4.heap.size w4 _ from (by repeat (first | exact Below.refl _ _ | exact hbD | exact hbC | exact hbB | exact hbA | refine Below.alloc ?_ (by first | (simp; done) | (have := hbA.size; simp <;> omega) | (have := hbB.size; simp <;> omega) | (have := hbC.size; simp <;> omega) | (have := hbD.size; simp <;> omega)) _ | apply Below.drew))) P0.out, keep (show Below w4.heap.size w4 _ from (by repeat (first | exact Below.refl _ _ | exact hbD | exact hbC | exact hbB | exact hbA | refine Below.alloc ?_ (by first | (simp; done) | (have := hbA.size; simp <;> omega) | (have := hbB.size; simp <;> omega) | (have := hbC.size; simp <;> omega) | (have := hbD.size; simp <;> omega)) _ | apply Below.drew))) P1.out⟩
      refine wpAnyH_take (i := 0) (oi := _) (v := ?_) rfl (by kernel_rfl) (by kernel_rfl) (by kernel_rfl) (fun _ _ _ h => h) (Or.inl ⟨by kernel_rfl, ?_⟩) (by assumption) ?_
      rotate_left
      · (intro w hSw; (try dsimp only at hSw); go_simp; (try with_reducible rfl))
      try simp only [Act.put, List.getElem_toArray, List.getElem_cons_succ, List.getElem_cons_zero, List.setIfInBounds_toArray, List.set_cons_zero, List.set_cons_succ]
      refine wpAnyH_ready (rs := [1]) (by kernel_rfl) (by simp) ?_
      refine AllReadyH.cons (o := _) rfl (fun K hK => ?_) AllReadyH.nil
      go_simp
      go_at_call 24; with_reducible refine kB (iProjectOk_any none 0 0 [] none 0 0 [] _ (ints0 _) (ints0 _) (by omega) (by omega)) ?_ (fun _ h _ => absurd prj_nil h.out)
      intro wA _ hbA'
      have hbA : Below w4.heap.size w4 wA := Below.trans (show Below w4.heap.size w4 _ from (by repeat (first | exact Below.refl _ _ | exact hbD | exact hbC | exact hbB | exact hbA | refine Below.alloc ?_ (by first | (simp; done) | (have := hbA.size; simp <;> omega) | (have := hbB.size; simp <;> omega) | (have := hbC.size; simp <;> omega) | (have := hbD.size; simp <;> omega)) _ | apply Below.drew))) (hbA'.mono (by first | (simp; done) | (have := hbA.size; simp <;> omega) | (have := hbB.size; simp <;> omega) | (have := hbC.size; simp <;> omega) | (have := hbD.size; simp <;> omega)))
      go_wp2_with fail
      refine hK.out _ _ ?_ (fun hHeld => ?_)
      · (try dsimp only); first | exact ⟨p0, p1⟩ | exact ⟨keep (show Below w4.heap.size w4 _ from (by repeat (first | exact Below.refl _ _ | exact hbD | exact hbC | exact hbB | exact hbA | refine Below.alloc ?_ (by first | (simp; done) | (have := hbA.size; simp <;> omega) | (have := hbB.size; simp <;> omega) | (have := hbC.size; simp <;> omega) | (have := hbD.size; simp <;> omega)) _ | apply Below.drew))) P0.out, keep (show Below w4.heap.size w4 _ from (by repeat (first | exact Below.refl _ _ | exact hbD | exact hbC | exact hbB | exact hbA | refine Below.alloc ?_ (by first | (simp; done) | (have := hbA.size; simp <;> omega) | (have := hbB.size; simp <;> omega) | (have := hbC.size; simp <;> omega) | (have := hbD.size; simp <;> omega)) _ | apply Below.drew))) P1.out⟩
      clear hK K
      try simp only [Act.put, List.getElem_toArray, List.getElem_cons_succ, List.getElem_cons_zero, List.setIfInBounds_toArray, List.set_cons_zero, List.set_cons_succ]
      refine wpAnyH_take (i := 2) (oi := _) (v := ?_) rfl (by kernel_rfl) (by kernel_rfl) (by kernel_rfl) (fun _ _ _ h => h) (Or.inl ⟨by kernel_rfl, ?_⟩) (by assumption) ?_
      rotate_left
      · (intro w hSw; (try dsimp only at hSw); go_simp; (try with_reducible rfl))
      try simp only [Act.put, List.getElem_toArray, List.getElem_cons_succ, List.getElem_cons_zero, List.setIfInBounds_toArray, List.set_cons_zero, List.set_cons_succ]
      refine wpAnyH_ready (rs := [3, 4]) (by kernel_rfl) (by simp) ?_
      refine AllReadyH.cons (o := _) rfl (fun K hK => ?_) (AllReadyH.cons (o := _) rfl (fun K hK => ?_) AllReadyH.nil)
      · go_simp
        refine hK.out _ _ ?_ (fun hHeld => ?_)
        · (try dsimp only); first | exact ⟨p0, p1⟩ | exact ⟨keep (show Below w4.heap.size w4 _ from (by repeat (first | exact Below.refl _ _ | exact hbD | exact hbC | exact hbB | exact hbA | refine Below.alloc ?_ (by first | (simp; done) | (have := hbA.size; simp <;> omega) | (have := hbB.size; simp <;> omega) | (have := hbC.size; simp <;> omega) | (have := hbD.size; simp <;> omega)) _ | apply Below.drew))) P0.out, keep (show Below w4.heap.size w4 _ from (by repeat (first | exact Below.refl _ _ | exact hbD | exact hbC | exact hbB | exact hbA | refine Below.alloc ?_ (by first | (simp; done) | (have := hbA.size; simp <;> omega) | (have := hbB.size; simp <;> omega) | (have := hbC.size; simp <;> omega) | (have := hbD.size; simp <;> omega)) _ | apply Below.drew))) P1.out⟩
        clear hK K
        try simp only [Act.put, List.getElem_toArray, List.getElem_cons_succ, List.getElem_cons_zero, List.setIfInBounds_toArray, List.set_cons_zero, List.set_cons_succ]
        refine wpAnyH_ready (rs := [4]) (by kernel_rfl) (by simp) ?_
        refine AllReadyH.cons (o := _) rfl (fun K hK => ?_) AllReadyH.nil
        go_simp
        refine hK.out _ _ ?_ (fun hHeld => ?_)
        · (try dsimp only); first | exact ⟨p0, p1⟩ | exact ⟨keep (show Below w4.heap.size w4 _ from (by repeat (first | exact Below.refl _ _ | exact hbD | exact hbC | exact hbB | exact hbA | refine Below.alloc ?_ (by first | (simp; done) | (have := hbA.size; simp <;> omega) | (have := hbB.size; simp <;> omega) | (have := hbC.size; simp <;> omega) | (have := hbD.size; simp <;> omega)) _ | apply Below.drew))) P0.out, keep (show Below w4.heap.size w4 _ from (by repeat (first | exact Below.refl _ _ | exact hbD | exact hbC | exact hbB | exact hbA | refine Below.alloc ?_ (by first | (simp; done) | (have := hbA.size; simp <;> omega) | (have := hbB.size; simp <;> omega) | (have := hbC.size; simp <;> omega) | (have := hbD.size; simp <;> omega)) _ | apply Below.drew))) P1.out⟩
        clear hK K
        try simp only [Act.put, List.getElem_toArray, List.getElem_cons_succ, List.getElem_cons_zero, List.setIfInBounds_toArray, List.set_cons_zero, List.set_cons_succ]
        refine wpAnyH_take (i := 5) (oi := _) (v := ?_) rfl (by kernel_rfl) (by kernel_rfl) (by kernel_rfl) (fun _ _ _ h => h) (Or.inl ⟨by kernel_rfl, ?_⟩) (by assumption) ?_
        rotate_left
        · (intro w hSw; (try dsimp only at hSw); go_simp; (try with_reducible rfl))
        try simp only [Act.put, List.getElem_toArray, List.getElem_cons_succ, List.getElem_cons_zero, List.setIfInBounds_toArray, List.set_cons_zero, List.set_cons_succ]
        refine wpAnyH_ready (rs := [6]) (by kernel_rfl) (by simp) ?_
        refine AllReadyH.cons (o := _) rfl (fun K hK => ?_) AllReadyH.nil
        go_simp
        go_at_call 24; with_reducible refine kB (iProjectOk_any _ 1 1 [1] _ 1 1 [0] _ (by repeat (first | exact ints1 (by simp) 1 _ | apply IntsAt.allocB | apply IntsAt.drewB | refine IntsAt.below ?_ hbC' | refine IntsAt.below ?_ hbB' | refine IntsAt.below ?_ hbA')) (by repeat (first | exact ints1 (by simp) 0 _ | apply IntsAt.allocB | apply IntsAt.drewB | refine IntsAt.below ?_ hbC' | refine IntsAt.below ?_ hbB' | refine IntsAt.below ?_ hbA')) (by omega) (by omega)) ?_ (fun _ h _ => absurd prj_one h.out)
        intro wB _ hbB'
        have hbB : Below w4.heap.size w4 wB := Below.trans (show Below w4.heap.size w4 _ from (by repeat (first | exact Below.refl _ _ | exact hbD | exact hbC | exact hbB | exact hbA | refine Below.alloc ?_ (by first | (simp; done) | (have := hbA.size; simp <;> omega) | (have := hbB.size; simp <;> omega) | (have := hbC.size; simp <;> omega) | (have := hbD.size; simp <;> omega)) _ | apply Below.drew))) (hbB'.mono (by first | (simp; done) | (have := hbA.size; simp <;> omega) | (have := hbB.size; simp <;> omega) | (have := hbC.size; simp <;> omega) | (have := hbD.size; simp <;> omega)))
        go_wp2_with fail
        refine hK.out _ _ ?_ (fun hHeld => ?_)
        · (try dsimp only); first | exact ⟨p0, p1⟩ | exact ⟨keep (show Below w4.heap.size w4 _ from (by repeat (first | exact Below.refl _ _ | exact hbD | exact hbC | exact hbB | exact hbA | refine Below.alloc ?_ (by first | (simp; done) | (have := hbA.size; simp <;> omega) | (have := hbB.size; simp <;> omega) | (have := hbC.size; simp <;> omega) | (have := hbD.size; simp <;> omega)) _ | apply Below.drew))) P0.out, keep (show Below w4.heap.size w4 _ from (by repeat (first | exact Below.refl _ _ | exact hbD | exact hbC | exact hbB | exact hbA | refine Below.alloc ?_ (by first | (simp; done) | (have := hbA.size; simp <;> omega) | (have := hbB.size; simp <;> omega) | (have := hbC.size; simp <;> omega) | (have := hbD.size; simp <;> omega)) _ | apply Below.drew))) P1.out⟩
        clear hK K
        try simp only [Act.put, List.getElem_toArray, List.getElem_cons_succ, List.getElem_cons_zero, List.setIfInBounds_toArray, List.set_cons_zero, List.set_cons_succ]
        refine wpAnyH_take (i := 7) (oi := _) (v := ?_) rfl (by kernel_rfl) (by kernel_rfl) (by kernel_rfl) (fun _ _ _ h => h) (Or.inl ⟨by kernel_rfl, ?_⟩) (by assumption) ?_
        rotate_left
        · (intro w hSw; (try dsimp only at hSw); go_simp; (try with_reducible rfl))
        try simp only [Act.put, List.getElem_toArray, List.getElem_cons_succ, List.getElem_cons_zero, List.setIfInBounds_toArray, List.set_cons_zero, List.set_cons_succ]
        refine wpAnyH_take (i := 8) (oi := _) (v := ?_) rfl (by kernel_rfl) (by kernel_rfl) (by kernel_rfl) (fun _ _ _ h => h) (Or.inl ⟨by kernel_rfl, ?_⟩) (by assumption) ?_
        rotate_left
        · (intro w hSw; (try dsimp only at hSw); go_simp; (try with_reducible rfl))
        try simp only [Act.put, List.getElem_toArray, List.getElem_cons_succ, List.getElem_cons_zero, List.setIfInBounds_toArray, List.set_cons_zero, List.set_cons_succ]
        refine wpAnyH_take (i := 9) (oi := _) (v := ?_) rfl (by kernel_rfl) (by kernel_rfl) (by kernel_rfl) (fun _ _ _ h => h) (Or.inl ⟨by kernel_rfl, ?_⟩) (by assumption) ?_
        rotate_left
        · (intro w hSw; (try dsimp only at hSw); go_simp; (try with_reducible rfl))
        try simp only [Act.put, List.getElem_toArray, List.getElem_cons_succ, List.getElem_cons_zero, List.setIfInBounds_toArray, List.set_cons_zero, List.set_cons_succ]
        refine wpAnyH_take (i := 10) (oi := _) (v := ?_) rfl (by kernel_rfl) (by kernel_rfl) (by kernel_rfl) (fun _ _ _ h => h) (Or.inl ⟨by kernel_rfl, ?_⟩) (by assumption) ?_
        rotate_left
        · (intro w hSw; (try dsimp only at hSw); go_simp; (try with_reducible rfl))
        try simp only [Act.put, List.getElem_toArray, List.getElem_cons_succ, List.getElem_cons_zero, List.setIfInBounds_toArray, List.set_cons_zero, List.set_cons_succ]
        refine wpAnyH_take (i := 11) (oi := _) (v := ?_) rfl (by kernel_rfl) (by kernel_rfl) (by kernel_rfl) (fun _ _ _ h => h) (Or.inl ⟨by kernel_rfl, ?_⟩) (by assumption) ?_
        rotate_left
        · (intro w hSw; (try dsimp only at hSw); go_simp; (try with_reducible rfl))
        try simp only [Act.put, List.getElem_toArray, List.getElem_cons_succ, List.getElem_cons_zero, List.setIfInBounds_toArray, List.set_cons_zero, List.set_cons_succ]
        refine wpAnyH_take (i := 12) (oi := _) (v := ?_) rfl (by kernel_rfl) (by kernel_rfl) (by kernel_rfl) (fun _ _ _ h => h) (Or.inl ⟨by kernel_rfl, ?_⟩) (by assumption) ?_
        rotate_left
        · (intro w hSw; (try dsimp only at hSw); go_simp; (try with_reducible rfl))
        try simp only [Act.put, List.getElem_toArray, List.getElem_cons_succ, List.getElem_cons_zero, List.setIfInBounds_toArray, List.set_cons_zero, List.set_cons_succ]
        refine wpAnyH_take (i := 13) (oi := _) (v := ?_) rfl (by kernel_rfl) (by kernel_rfl) (by kernel_rfl) (fun _ _ _ h => h) (Or.inl ⟨by kernel_rfl, ?_⟩) (by assumption) ?_
        rotate_left
        · (intro w hSw; (try dsimp only at hSw); go_simp; (try with_reducible rfl))
        try simp only [Act.put, List.getElem_toArray, List.getElem_cons_succ, List.getElem_cons_zero, List.setIfInBounds_toArray, List.set_cons_zero, List.set_cons_succ]
        refine wpAnyH_take (i := 14) (oi := _) (v := ?_) rfl (by kernel_rfl) (by kernel_rfl) (by kernel_rfl) (fun _ _ _ h => h) (Or.inl ⟨by kernel_rfl, ?_⟩) (by assumption) ?_
        rotate_left
        · (intro w hSw; (try dsimp only at hSw); go_simp; (try with_reducible rfl))
        try simp only [Act.put, List.getElem_toArray, List.getElem_cons_succ, List.getElem_cons_zero, List.setIfInBounds_toArray, List.set_cons_zero, List.set_cons_succ]
        refine wpAnyH_take (i := 15) (oi := _) (v := ?_) rfl (by kernel_rfl) (by kernel_rfl) (by kernel_rfl) (fun _ _ _ h => h) (Or.inl ⟨by kernel_rfl, ?_⟩) (by assumption) ?_
        rotate_left
        · (intro w hSw; (try dsimp only at hSw); go_simp; (try with_reducible rfl))
        try simp only [Act.put, List.getElem_toArray, List.getElem_cons_succ, List.getElem_cons_zero, List.setIfInBounds_toArray, List.set_cons_zero, List.set_cons_succ]
        refine wpAnyH_take (i := 16) (oi := _) (v := undef) rfl (by kernel_rfl) (by kernel_rfl) (by kernel_rfl) (fun _ _ _ h => h) (Or.inr ⟨by kernel_rfl, Eq.refl undef⟩) (by assumption) ?_
        try simp only [Act.put, List.getElem_toArray, List.getElem_cons_succ, List.getElem_cons_zero, List.setIfInBounds_toArray, List.set_cons_zero, List.set_cons_succ]
        refine wpAnyH_take (i := 17) (oi := _) (v := undef) rfl (by kernel_rfl) (by kernel_rfl) (by kernel_rfl) (fun _ _ _ h => h) (Or.inr ⟨by kernel_rfl, Eq.refl undef⟩) (by assumption) ?_
        try simp only [Act.put, List.getElem_toArray, List.getElem_cons_succ, List.getElem_cons_zero, List.setIfInBounds_toArray, List.set_cons_zero, List.set_cons_succ]
        refine wpAnyH_take (i := 18) (oi := _) (v := undef) rfl (by kernel_rfl) (by kernel_rfl) (by kernel_rfl) (fun _ _ _ h => h) (Or.inr ⟨by kernel_rfl, Eq.refl undef⟩) (by assumption) ?_
        try simp only [Act.put, List.getElem_toArray, List.getElem_cons_succ, List.getElem_cons_zero, List.setIfInBounds_toArray, List.set_cons_zero, List.set_cons_succ]
        refine wpAnyH_take (i := 19) (oi := _) (v := undef) rfl (by kernel_rfl) (by kernel_rfl) (by kernel_rfl) (fun _ _ _ h => h) (Or.inr ⟨by kernel_rfl, Eq.refl undef⟩) (by assumption) ?_
        try simp only [Act.put, List.getElem_toArray, List.getElem_cons_succ, List.getElem_cons_zero, List.setIfInBounds_toArray, List.set_cons_zero, List.set_cons_succ]
        refine wpAnyH_take (i := 20) (oi := _) (v := undef) rfl (by kernel_rfl) (by kernel_rfl) (by kernel_rfl) (fun _ _ _ h => h) (Or.inr ⟨by kernel_rfl, Eq.refl undef⟩) (by assumption) ?_
        try simp only [Act.put, List.getElem_toArray, List.getElem_cons_succ, List.getElem_cons_zero, List.setIfInBounds_toArray, List.set_cons_zero, List.set_cons_succ]
        refine wpAnyH_take (i := 21) (oi := _) (v := undef) rfl (by kernel_rfl) (by kernel_rfl) (by kernel_rfl) (fun _ _ _ h => h) (Or.inr ⟨by kernel_rfl, Eq.refl undef⟩) (by assumption) ?_
        try simp only [Act.put, List.getElem_toArray, List.getElem_cons_succ, List.getElem_cons_zero, List.setIfInBounds_toArray, List.set_cons_zero, List.set_cons_succ]
        refine wpAnyH_take (i := 22) (oi := _) (v := undef) rfl (by kernel_rfl) (by kernel_rfl) (by kernel_rfl) (fun _ _ _ h => h) (Or.inr ⟨by kernel_rfl, Eq.refl undef⟩) (by assumption) ?_
        try simp only [Act.put, List.getElem_toArray, List.getElem_cons_succ, List.getElem_cons_zero, List.setIfInBounds_toArray, List.set_cons_zero, List.set_cons_succ]
        refine wpAnyH_take (i := 23) (oi := _) (v := undef) rfl (by kernel_rfl) (by kernel_rfl) (by kernel_rfl) (fun _ _ _ h => h) (Or.inr ⟨by kernel_rfl, Eq.refl undef⟩) (by assumption) ?_
        try simp only [Act.put, List.getElem_toArray, List.getElem_cons_succ, List.getElem_cons_zero, List.setIfInBounds_toArray, List.set_cons_zero, List.set_cons_succ]
        refine wpAnyH_take (i := 24) (oi := _) (v := undef) rfl (by kernel_rfl) (by kernel_rfl) (by kernel_rfl) (fun _ _ _ h => h) (Or.inr ⟨by kernel_rfl, Eq.refl undef⟩) (by assumption) ?_
        try simp only [Act.put, List.getElem_toArray, List.getElem_cons_succ, List.getElem_cons_zero, List.setIfInBounds_toArray, List.set_cons_zero, List.set_cons_succ]
        refine wpAnyH_take (i := 25) (oi := _) (v := undef) rfl (by kernel_rfl) (by kernel_rfl) (by kernel_rfl) (fun _ _ _ h => h) (Or.inr ⟨by kernel_rfl, Eq.refl undef⟩) (by assumption) ?_
        try simp only [Act.put, List.getElem_toArray, List.getElem_cons_succ, List.getElem_cons_zero, List.setIfInBounds_toArray, List.set_cons_zero, List.set_cons_succ]
        refine wpAnyH_take (i := 26) (oi := _) (v := ?_) rfl (by kernel_rfl) (by kernel_rfl) (by kernel_rfl) (fun _ _ _ h => h) (Or.inl ⟨by kernel_rfl, ?_⟩) (by assumption) ?_
        rotate_left
        · (intro w hSw; (try dsimp only at hSw); go_simp; (try with_reducible rfl))
        try simp only [Act.put, List.getElem_toArray, List.getElem_cons_succ, List.getElem_cons_zero, List.setIfInBounds_toArray, List.set_cons_zero, List.set_cons_succ]
        refine wpAnyH_take (i := 27) (oi := _) (v := ?_) rfl (by kernel_rfl) (by kernel_rfl) (by kernel_rfl) (fun _ _ _ h => h) (Or.inl ⟨by kernel_rfl, ?_⟩) (by assumption) ?_
        rotate_left
        · (intro w hSw; (try dsimp only at hSw); go_simp; (try with_reducible rfl))
        try simp only [Act.put, List.getElem_toArray, List.getElem_cons_succ, List.getElem_cons_zero, List.setIfInBounds_toArray, List.set_cons_zero, List.set_cons_succ]
        refine wpAnyH_take (i := 28) (oi := _) (v := ?_) rfl (by kernel_rfl) (by kernel_rfl) (by kernel_rfl) (fun _ _ _ h => h) (Or.inl ⟨by kernel_rfl, ?_⟩) (by assumption) ?_
        rotate_left
        · (intro w hSw; (try dsimp only at hSw); go_simp; (try with_reducible rfl))
        try simp only [Act.put, List.getElem_toArray, List.getElem_cons_succ, List.getElem_cons_zero, List.setIfInBounds_toArray, List.set_cons_zero, List.set_cons_succ]
        refine wpAnyH_ready (rs := [29]) (by kernel_rfl) (by simp) ?_
        refine AllReadyH.cons (o := _) rfl (fun K hK => ?_) AllReadyH.nil
        go_simp
        go_at_call 27; with_reducible refine kBV (alive_any _) ?_
        intro wD hbD'
        have hbD : Below w4.heap.size w4 wD := Below.trans (show Below w4.heap.size w4 _ from (by repeat (first | exact Below.refl _ _ | exact hbD | exact hbC | exact hbB | exact hbA | refine Below.alloc ?_ (by first | (simp; done) | (have := hbA.size; simp <;> omega) | (have := hbB.size; simp <;> omega) | (have := hbC.size; simp <;> omega) | (have := hbD.size; simp <;> omega)) _ | apply Below.drew))) (hbD'.mono (by first | (simp; done) | (have := hbA.size; simp <;> omega) | (have := hbB.size; simp <;> omega) | (have := hbC.size; simp <;> omega) | (have := hbD.size; simp <;> omega)))
        go_wp2_with fail
        refine hK.out _ _ ?_ (fun hHeld => ?_)
        · (try dsimp only); first | exact ⟨p0, p1⟩ | exact ⟨keep (show Below w4.heap.size w4 _ from (by repeat (first | exact Below.refl _ _ | exact hbD | exact hbC | exact hbB | exact hbA | refine Below.alloc ?_ (by first | (simp; done) | (have := hbA.size; simp <;> omega) | (have := hbB.size; simp <;> omega) | (have := hbC.size; simp <;> omega) | (have := hbD.size; simp <;> omega)) _ | apply Below.drew))) P0.out, keep (show Below w4.heap.size w4 _ from (by repeat (first | exact Below.refl _ _ | exact hbD | exact hbC | exact hbB | exact hbA | refine Below.alloc ?_ (by first | (simp; done) | (have := hbA.size; simp <;> omega) | (have := hbB.size; simp <;> omega) | (have := hbC.size; simp <;> omega) | (have := hbD.size; simp <;> omega)) _ | apply Below.drew))) P1.out⟩
        clear hK K
        try simp only [Act.put, List.getElem_toArray, List.getElem_cons_succ, List.getElem_cons_zero, List.setIfInBounds_toArray, List.set_cons_zero, List.set_cons_succ]
        refine wpAnyH_take (i := 30) (oi := _) (v := ?_) rfl (by kernel_rfl) (by kernel_rfl) (by kernel_rfl) (fun _ _ _ h => h) (Or.inl ⟨by kernel_rfl, ?_⟩) (by assumption) ?_
        rotate_left
        · (intro w hSw; (try dsimp only at hSw); go_simp; (try with_reducible rfl))
        try simp only [Act.put, List.getElem_toArray, List.getElem_cons_succ, List.getElem_cons_zero, List.setIfInBounds_toArray, List.set_cons_zero, List.set_cons_succ]
        refine wpAnyH_take (i := 31) (oi := _) (v := ?_) rfl (by kernel_rfl) (by kernel_rfl) (by kernel_rfl) (fun _ _ _ h => h) (Or.inl ⟨by kernel_rfl, ?_⟩) (by assumption) ?_
        rotate_left
        · (intro w hSw; (try dsimp only at hSw); go_simp; (try with_reducible rfl))
        try simp only [Act.put, List.getElem_toArray, List.getElem_cons_succ, List.getElem_cons_zero, List.setIfInBounds_toArray, List.set_cons_zero, List.set_cons_succ]
        refine wpAnyH_done (by kernel_rfl) ?_ _
        go_wp2
        go_ret
        exact ⟨rfl, HB4.out.trans (hbD.mono HB4.out.size)⟩
      · go_simp
        refine hK.out _ _ ?_ (fun hHeld => ?_)
        · (try dsimp only); first | exact ⟨p0, p1⟩ | exact ⟨keep (show Below w4.heap.size w4 _ from (by repeat (first | exact Below.refl _ _ | exact hbD | exact hbC | exact hbB | exact hbA | refine Below.alloc ?_ (by first | (simp; done) | (have := hbA.size; simp <;> omega) | (have := hbB.size; simp <;> omega) | (have := hbC.size; simp <;> omega) | (have := hbD.size; simp <;> omega)) _ | apply Below.drew))) P0.out, keep (show Below w4.heap.size w4 _ from (by repeat (first | exact Below.refl _ _ | exact hbD | exact hbC | exact hbB | exact hbA | refine Below.alloc ?_ (by first | (simp; done) | (have := hbA.size; simp <;> omega) | (have := hbB.size; simp <;> omega) | (have := hbC.size; simp <;> omega) | (have := hbD.size; simp <;> omega)) _ | apply Below.drew))) P1.out⟩
        clear hK K
        try simp only [Act.put, List.getElem_toArray, List.getElem_cons_succ, List.getElem_cons_zero, List.setIfInBounds_toArray, List.set_cons_zero, List.set_cons_succ]
        refine wpAnyH_ready (rs := [3]) (by kernel_rfl) (by simp) ?_
        refine AllReadyH.cons (o := _) rfl (fun K hK => ?_) AllReadyH.nil
        go_simp
        refine hK.out _ _ ?_ (fun hHeld => ?_)
        · (try dsimp only); first | exact ⟨p0, p1⟩ | exact ⟨keep (show Below w4.heap.size w4 _ from (by repeat (first | exact Below.refl _ _ | exact hbD | exact hbC | exact hbB | exact hbA | refine Below.alloc ?_ (by first | (simp; done) | (have := hbA.size; simp <;> omega) | (have := hbB.size; simp <;> omega) | (have := hbC.size; simp <;> omega) | (have := hbD.size; simp <;> omega)) _ | apply Below.drew))) P0.out, keep (show Below w4.heap.size w4 _ from (by repeat (first | exact Below.refl _ _ | exact hbD | exact hbC | exact hbB | exact hbA | refine Below.alloc ?_ (by first | (simp; done) | (have := hbA.size; simp <;> omega) | (have := hbB.size; simp <;> omega) | (have := hbC.size; simp <;> omega) | (have := hbD.size; simp <;> omega)) _ | apply Below.drew))) P1.out⟩
        clear hK K
        try simp only [Act.put, List.getElem_toArray, List.getElem_cons_succ, List.getElem_cons_zero, List.setIfInBounds_toArray, List.set_cons_zero, List.set_cons_succ]
        refine wpAnyH_take (i := 5) (oi := _) (v := ?_) rfl (by kernel_rfl) (by kernel_rfl) (by kernel_rfl) (fun _ _ _ h => h) (Or.inl ⟨by kernel_rfl, ?_⟩) (by assumption) ?_
        rotate_left
        · (intro w hSw; (try dsimp only at hSw); go_simp; (try with_reducible rfl))
        try simp only [Act.put, List.getElem_toArray, List.getElem_cons_succ, List.getElem_cons_zero, List.setIfInBounds_toArray, List.set_cons_zero, List.set_cons_succ]
        refine wpAnyH_ready (rs := [6]) (by kernel_rfl) (by simp) ?_
        refine AllReadyH.cons (o := _) rfl (fun K hK => ?_) AllReadyH.nil
        go_simp
        go_at_call 24; with_reducible refine kB (iProjectOk_any _ 1 1 [1] _ 1 1 [0] _ (by repeat (first | exact ints1 (by simp) 1 _ | apply IntsAt.allocB | apply IntsAt.drewB | refine IntsAt.below ?_ hbC' | refine IntsAt.below ?_ hbB' | refine IntsAt.below ?_ hbA')) (by repeat (first | exact ints1 (by simp) 0 _ | apply IntsAt.allocB | apply IntsAt.drewB | refine IntsAt.below ?_ hbC' | refine IntsAt.below ?_ hbB' | refine IntsAt.below ?_ hbA')) (by omega) (by omega)) ?_ (fun _ h _ => absurd prj_one h.out)
        intro wB _ hbB'
        have hbB : Below w4.heap.size w4 wB := Below.trans (show Below w4.heap.size w4 _ from (by repeat (first | exact Below.refl _ _ | exact hbD | exact hbC | exact hbB | exact hbA | refine Below.alloc ?_ (by first | (simp; done) | (have := hbA.size; simp <;> omega) | (have := hbB.size; simp <;> omega) | (have := hbC.size; simp <;> omega) | (have := hbD.size; simp <;> omega)) _ | apply Below.drew))) (hbB'.mono (by first | (simp; done) | (have := hbA.size; simp <;> omega) | (have := hbB.size; simp <;> omega) | (have := hbC.size; simp <;> omega) | (have := hbD.size; simp <;> omega)))
        go_wp2_with fail
        refine hK.out _ _ ?_ (fun hHeld => ?_)
        · (try dsimp only); first | exact ⟨p0, p1⟩ | exact ⟨keep (show Below w4.heap.size w4 _ from (by repeat (first | exact Below.refl _ _ | exact hbD | exact hbC | exact hbB | exact hbA | refine Below.alloc ?_ (by first | (simp; done) | (have := hbA.size; simp <;> omega) | (have := hbB.size; simp <;> omega) | (have := hbC.size; simp <;> omega) | (have := hbD.size; simp <;> omega)) _ | apply Below.drew))) P0.out, keep (show Below w4.heap.size w4 _ from (by repeat (first | exact Below.refl _ _ | exact hbD | exact hbC | exact hbB | exact hbA | refine Below.alloc ?_ (by first | (simp; done) | (have := hbA.size; simp <;> omega) | (have := hbB.size; simp <;> omega) | (have := hbC.size; simp <;> omega) | (have := hbD.size; simp <;> omega)) _ | apply Below.drew))) P1.out⟩
        clear hK K
        try simp only [Act.put, List.getElem_toArray, List.getElem_cons_succ, List.getElem_cons_zero, List.setIfInBounds_toArray, List.set_cons_zero, List.set_cons_succ]
        refine wpAnyH_take (i := 7) (oi := _) (v := ?_) rfl (by kernel_rfl) (by kernel_rfl) (by kernel_rfl) (fun _ _ _ h => h) (Or.inl ⟨by kernel_rfl, ?_⟩) (by assumption) ?_
        rotate_left
        · (intro w hSw; (try dsimp only at hSw); go_simp; (try with_reducible rfl))
        try simp only [Act.put, List.getElem_toArray, List.getElem_cons_succ, List.getElem_cons_zero, List.setIfInBounds_toArray, List.set_cons_zero, List.set_cons_succ]
        refine wpAnyH_take (i := 8) (oi := _) (v := ?_) rfl (by kernel_rfl) (by kernel_rfl) (by kernel_rfl) (fun _ _ _ h => h) (Or.inl ⟨by kernel_rfl, ?_⟩) (by assumption) ?_
        rotate_left
        · (intro w hSw; (try dsimp only at hSw); go_simp; (try with_reducible rfl))
        try simp only [Act.put, List.getElem_toArray, List.getElem_cons_succ, List.getElem_cons_zero, List.setIfInBounds_toArray, List.set_cons_zero, List.set_cons_succ]
        refine wpAnyH_take (i := 9) (oi := _) (v := ?_) rfl (by kernel_rfl) (by kernel_rfl) (by kernel_rfl) (fun _ _ _ h => h) (Or.inl ⟨by kernel_rfl, ?_⟩) (by assumption) ?_
        rotate_left
        · (intro w hSw; (try dsimp only at hSw); go_simp; (try with_reducible rfl))
        try simp only [Act.put, List.getElem_toArray, List.getElem_cons_succ, List.getElem_cons_zero, List.setIfInBounds_toArray, List.set_cons_zero, List.set_cons_succ]
        refine wpAnyH_take (i := 10) (oi := _) (v := ?_) rfl (by kernel_rfl) (by kernel_rfl) (by kernel_rfl) (fun _ _ _ h => h) (Or.inl ⟨by kernel_rfl, ?_⟩) (by assumption) ?_
        rotate_left
        · (intro w hSw; (try dsimp only at hSw); go_simp; (try with_reducible rfl))
        try simp only [Act.put, List.getElem_toArray, List.getElem_cons_succ, List.getElem_cons_zero, List.setIfInBounds_toArray, List.set_cons_zero, List.set_cons_succ]
        refine wpAnyH_take (i := 11) (oi := _) (v := ?_) rfl (by kernel_rfl) (by kernel_rfl) (by kernel_rfl) (fun _ _ _ h => h) (Or.inl ⟨by kernel_rfl, ?_⟩) (by assumption) ?_
        rotate_left
        · (intro w hSw; (try dsimp only at hSw); go_simp; (try with_reducible rfl))
        try simp only [Act.put, List.getElem_toArray, List.getElem_cons_succ, List.getElem_cons_zero, List.setIfInBounds_toArray, List.set_cons_zero, List.set_cons_succ]
        refine wpAnyH_take (i := 12) (oi := _) (v := ?_) rfl (by kernel_rfl) (by kernel_rfl) (by kernel_rfl) (fun _ _ _ h => h) (Or.inl ⟨by kernel_rfl, ?_⟩) (by assumption) ?_
        rotate_left
        · (intro w hSw; (try dsimp only at hSw); go_simp; (try with_reducible rfl))
        try simp only [Act.put, List.getElem_toArray, List.getElem_cons_succ, List.getElem_cons_zero, List.setIfInBounds_toArray, List.set_cons_zero, List.set_cons_succ]
        refine wpAnyH_take (i := 13) (oi := _) (v := ?_) rfl (by kernel_rfl) (by kernel_rfl) (by kernel_rfl) (fun _ _ _ h => h) (Or.inl ⟨by kernel_rfl, ?_⟩) (by assumption) ?_
        rotate_left
        · (intro w hSw; (try dsimp only at hSw); go_simp; (try with_reducible rfl))
        try simp only [Act.put, List.getElem_toArray, List.getElem_cons_succ, List.getElem_cons_zero, List.setIfInBounds_toArray, List.set_cons_zero, List.set_cons_succ]
        refine wpAnyH_take (i := 14) (oi := _) (v := ?_) rfl (by kernel_rfl) (by kernel_rfl) (by kernel_rfl) (fun _ _ _ h => h) (Or.inl ⟨by kernel_rfl, ?_⟩) (by assumption) ?_
        rotate_left
        · (intro w hSw; (try dsimp only at hSw); go_simp; (try with_reducible rfl))
        try simp only [Act.put, List.getElem_toArray, List.getElem_cons_succ, List.getElem_cons_zero, List.setIfInBounds_toArray, List.set_cons_zero, List.set_cons_succ]
        refine wpAnyH_take (i := 15) (oi := _) (v := ?_) rfl (by kernel_rfl) (by kernel_rfl) (by kernel_rfl) (fun _ _ _ h => h) (Or.inl ⟨by kernel_rfl, ?_⟩) (by assumption) ?_
        rotate_left
        · (intro w hSw; (try dsimp only at hSw); go_simp; (try with_reducible rfl))
        try simp only [Act.put, List.getElem_toArray, List.getElem_cons_succ, List.getElem_cons_zero, List.setIfInBounds_toArray, List.set_cons_zero, List.set_cons_succ]
        refine wpAnyH_take (i := 16) (oi := _) (v := undef) rfl (by kernel_rfl) (by kernel_rfl) (by kernel_rfl) (fun _ _ _ h => h) (Or.inr ⟨by kernel_rfl, Eq.refl undef⟩) (by assumption) ?_
        try simp only [Act.put, List.getElem_toArray, List.getElem_cons_succ, List.getElem_cons_zero, List.setIfInBounds_toArray, List.set_cons_zero, List.set_cons_succ]
        refine wpAnyH_take (i := 17) (oi := _) (v := undef) rfl (by kernel_rfl) (by kernel_rfl) (by kernel_rfl) (fun _ _ _ h => h) (Or.inr ⟨by kernel_rfl, Eq.refl undef⟩) (by assumption) ?_
        try simp only [Act.put, List.getElem_toArray, List.getElem_cons_succ, List.getElem_cons_zero, List.setIfInBounds_toArray, List.set_cons_zero, List.set_cons_succ]
        refine wpAnyH_take (i := 18) (oi := _) (v := undef) rfl (by kernel_rfl) (by kernel_rfl) (by kernel_rfl) (fun _ _ _ h => h) (Or.inr ⟨by kernel_rfl, Eq.refl undef⟩) (by assumption) ?_
        try simp only [Act.put, List.getElem_toArray, List.getElem_cons_succ, List.getElem_cons_zero, List.setIfInBounds_toArray, List.set_cons_zero, List.set_cons_succ]
        refine wpAnyH_take (i := 19) (oi := _) (v := undef) rfl (by kernel_rfl) (by kernel_rfl) (by kernel_rfl) (fun _ _ _ h => h) (Or.inr ⟨by kernel_rfl, Eq.refl undef⟩) (by assumption) ?_
        try simp only [Act.put, List.getElem_toArray, List.getElem_cons_succ, List.getElem_cons_zero, List.setIfInBounds_toArray, List.set_cons_zero, List.set_cons_succ]
        refine wpAnyH_take (i := 20) (oi := _) (v := undef) rfl (by kernel_rfl) (by kernel_rfl) (by kernel_rfl) (fun _ _ _ h => h) (Or.inr ⟨by kernel_rfl, Eq.refl undef⟩) (by assumption) ?_
        try simp only [Act.put, List.getElem_toArray, List.getElem_cons_succ, List.getElem_cons_zero, List.setIfInBounds_toArray, List.set_cons_zero, List.set_cons_succ]
        refine wpAnyH_take (i := 21) (oi := _) (v := undef) rfl (by kernel_rfl) (by kernel_rfl) (by kernel_rfl) (fun _ _ _ h => h) (Or.inr ⟨by kernel_rfl, Eq.refl undef⟩) (by assumption) ?_
        try simp only [Act.put, List.getElem_toArray, List.getElem_cons_succ, List.getElem_cons_zero, List.setIfInBounds_toArray, List.set_cons_zero, List.set_cons_succ]
        refine wpAnyH_take (i := 22) (oi := _) (v := undef) rfl (by kernel_rfl) (by kernel_rfl) (by kernel_rfl) (fun _ _ _ h => h) (Or.inr ⟨by kernel_rfl, Eq.refl undef⟩) (by assumption) ?_
        try simp only [Act.put, List.getElem_toArray, List.getElem_cons_succ, List.getElem_cons_zero, List.setIfInBounds_toArray, List.set_cons_zero, List.set_cons_succ]
        refine wpAnyH_take (i := 23) (oi := _) (v := undef) rfl (by kernel_rfl) (by kernel_rfl) (by kernel_rfl) (fun _ _ _ h => h) (Or.inr ⟨by kernel_rfl, Eq.refl undef⟩) (by assumption) ?_
        try simp only [Act.put, List.getElem_toArray, List.getElem_cons_succ, List.getElem_cons_zero, List.setIfInBounds_toArray, List.set_cons_zero, List.set_cons_succ]
        refine wpAnyH_take (i := 24) (oi := _) (v := undef) rfl (by kernel_rfl) (by kernel_rfl) (by kernel_rfl) (fun _ _ _ h => h) (Or.inr ⟨by kernel_rfl, Eq.refl undef⟩) (by assumption) ?_
        try simp only [Act.put, List.getElem_toArray, List.getElem_cons_succ, List.getElem_cons_zero, List.setIfInBounds_toArray, List.set_cons_zero, List.set_cons_succ]
        refine wpAnyH_take (i := 25) (oi := _) (v := undef) rfl (by kernel_rfl) (by kernel_rfl) (by kernel_rfl) (fun _ _ _ h => h) (Or.inr ⟨by kernel_rfl, Eq.refl undef⟩) (by assumption) ?_
        try simp only [Act.put, List.getElem_toArray, List.getElem_cons_succ, List.getElem_cons_zero, List.setIfInBounds_toArray, List.set_cons_zero, List.set_cons_succ]
        refine wpAnyH_take (i := 26) (oi := _) (v := ?_) rfl (by kernel_rfl) (by kernel_rfl) (by kernel_rfl) (fun _ _ _ h => h) (Or.inl ⟨by kernel_rfl, ?_⟩) (by assumption) ?_
        rotate_left
        · (intro w hSw; (try dsimp only at hSw); go_simp; (try with_reducible rfl))
        try simp only [Act.put, List.getElem_toArray, List.getElem_cons_succ, List.getElem_cons_zero, List.setIfInBounds_toArray, List.set_cons_zero, List.set_cons_succ]
        refine wpAnyH_take (i := 27) (oi := _) (v := ?_) rfl (by kernel_rfl) (by kernel_rfl) (by kernel_rfl) (fun _ _ _ h => h) (Or.inl ⟨by kernel_rfl, ?_⟩) (by assumption) ?_
        rotate_left
        · (intro w hSw; (try dsimp only at hSw); go_simp; (try with_reducible rfl))
        try simp only [Act.put, List.getElem_toArray, List.getElem_cons_succ, List.getElem_cons_zero, List.setIfInBounds_toArray, List.set_cons_zero, List.set_cons_succ]
        refine wpAnyH_take (i := 28) (oi := _) (v := ?_) rfl (by kernel_rfl) (by kernel_rfl) (by kernel_rfl) (fun _ _ _ h => h) (Or.inl ⟨by kernel_rfl, ?_⟩) (by assumption) ?_
        rotate_left
        · (intro w hSw; (try dsimp only at hSw); go_simp; (try with_reducible rfl))
        try simp only [Act.put, List.getElem_toArray, List.getElem_cons_succ, List.getElem_cons_zero, List.setIfInBounds_toArray, List.set_cons_zero, List.set_cons_succ]
        refine wpAnyH_ready (rs := [29]) (by kernel_rfl) (by simp) ?_
        refine AllReadyH.cons (o := _) rfl (fun K hK => ?_) AllReadyH.nil
        go_simp
        go_at_call 27; with_reducible refine kBV (alive_any _) ?_
        intro wD hbD'
        have hbD : Below w4.heap.size w4 wD := Below.trans (show Below w4.heap.size w4 _ from (by repeat (first | exact Below.refl _ _ | exact hbD | exact hbC | exact hbB | exact hbA | refine Below.alloc ?_ (by first | (simp; done) | (have := hbA.size; simp <;> omega) | (have := hbB.size; simp <;> omega) | (have := hbC.size; simp <;> omega) | (have := hbD.size; simp <;> omega)) _ | apply Below.drew))) (hbD'.mono (by first | (simp; done) | (have := hbA.size; simp <;> omega) | (have := hbB.size; simp <;> omega) | (have := hbC.size; simp <;> omega) | (have := hbD.size; simp <;> omega)))
        go_wp2_with fail
        refine hK.out _ _ ?_ (fun hHeld => ?_)
        · (try dsimp only); first | exact ⟨p0, p1⟩ | exact ⟨keep (show Below w4.heap.size w4 _ from (by repeat (first | exact Below.refl _ _ | exact hbD | exact hbC | exact hbB | exact hbA | refine Below.alloc ?_ (by first | (simp; done) | (have := hbA.size; simp <;> omega) | (have := hbB.size; simp <;> omega) | (have := hbC.size; simp <;> omega) | (have := hbD.size; simp <;> omega)) _ | apply Below.drew))) P0.out, keep (show Below w4.heap.size w4 _ from (by repeat (first | exact Below.refl _ _ | exact hbD | exact hbC | exact hbB | exact hbA | refine Below.alloc ?_ (by first | (simp; done) | (have := hbA.size; simp <;> omega) | (have := hbB.size; simp <;> omega) | (have := hbC.size; simp <;> omega) | (have := hbD.size; simp <;> omega)) _ | apply Below.drew))) P1.out⟩
        clear hK K
        try simp only [Act.put, List.getElem_toArray, List.getElem_cons_succ, List.getElem_cons_zero, List.setIfInBounds_toArray, List.set_cons_zero, List.set_cons_succ]
        refine wpAnyH_take (i := 30) (oi := _) (v := ?_) rfl (by kernel_rfl) (by kernel_rfl) (by kernel_rfl) (fun _ _ _ h => h) (Or.inl ⟨by kernel_rfl, ?_⟩) (by assumption) ?_
        rotate_left
        · (intro w hSw; (try dsimp only at hSw); go_simp; (try with_reducible rfl))
        try simp only [Act.put, List.getElem_toArray, List.getElem_cons_succ, List.getElem_cons_zero, List.setIfInBounds_toArray, List.set_cons_zero, List.set_cons_succ]
        refine wpAnyH_take (i := 31) (oi := _) (v := ?_) rfl (by kernel_rfl) (by kernel_rfl) (by kernel_rfl) (fun _ _ _ h => h) (Or.inl ⟨by kernel_rfl, ?_⟩) (by assumption) ?_
        rotate_left
        · (intro w hSw; (try dsimp only at hSw); go_simp; (try with_reducible rfl))
        try simp only [Act.put, List.getElem_toArray, List.getElem_cons_succ, List.getElem_cons_zero, List.setIfInBounds_toArray, List.set_cons_zero, List.set_cons_succ]
        refine wpAnyH_done (by kernel_rfl) ?_ _
        go_wp2
        go_ret
        exact ⟨rfl, HB4.out.trans (hbD.mono HB4.out.size)⟩
    · obtain ⟨k, rfl⟩ : ∃ k, m = k + 1 := ⟨m - 1, by omega⟩
      have HTK := Lib.hid (prj_take hP k (by have := HNX.out; omega))
      have hk : ((k + 1 : Nat) : Int) - 1 = (k : Int) := by omega
      have hk0 : ¬ (k : Int) < 0 := by omega
      have hk1 : (0 : Int) ≤ (k : Int) := by omega
      have hk2 : (k : Int) ≤ (c : Int) := by omega
      have hk3 : (k : Int) ≤ (d : Int) := by omega
      clear hP
      go_wp2_with (fail)
      refine wp_region_held_drew (S := fun w' => w'.cell? ⟨pb, 0, none⟩ = some (.slice A (k + 1) c) ∧ w'.cell? ⟨pb, 1, none⟩ = some (.slice B' (k + 1) d)) (by kernel_rfl) ?_ (fun hHeld => ?_)
      · (try dsimp only); first | exact ⟨p0, p1⟩ | exact ⟨keep (show Below w4.heap.size w4 _ from (by repeat (first | exact Below.refl _ _ | exact hbD | exact hbC | exact hbB | exact hbA | refine Below.alloc ?_ (by first | (simp; done) | (have := hbA.size; simp <;> omega) | (have := hbB.size; simp <;> omega) | (have := hbC.size; simp <;> omega) | (have := hbD.size; simp <;> omega)) _ | apply Below.drew))) P0.out, keep (show Below w4.heap.size w4 _ from (by repeat (first | exact Below.refl _ _ | exact hbD | exact hbC | exact hbB | exact hbA | refine Below.alloc ?_ (by first | (simp; done) | (have := hbA.size; simp <;> omega) | (have := hbB.size; simp <;> omega) | (have := hbC.size; simp <;> omega) | (have := hbD.size; simp <;> omega)) _ | apply Below.drew))) P1.out⟩
      refine wpAnyH_take (i := 0) (oi := _) (v := ?_) rfl (by kernel_rfl) (by kernel_rfl) (by kernel_rfl) (fun _ _ _ h => h) (Or.inl ⟨by kernel_rfl, ?_⟩) (by assumption) ?_
      rotate_left
      · (intro w hSw; (try dsimp only at hSw); go_simp; (try with_reducible rfl))
      try simp only [Act.put, List.getElem_toArray, List.getElem_cons_succ, List.getElem_cons_zero, List.setIfInBounds_toArray, List.set_cons_zero, List.set_cons_succ]
      refine wpAnyH_ready (rs := [1]) (by kernel_rfl) (by simp) ?_
      refine AllReadyH.cons (o := _) rfl (fun K hK => ?_) AllReadyH.nil
      go_simp
      go_at_call 24; with_reducible refine kB (iProjectOk_any none 0 0 [] none 0 0 [] _ (ints0 _) (ints0 _) (by omega) (by omega)) ?_ (fun _ h _ => absurd prj_nil h.out)
      intro wA _ hbA'
      have hbA : Below w4.heap.size w4 wA := Below.trans (show Below w4.heap.size w4 _ from (by repeat (first | exact Below.refl _ _ | exact hbD | exact hbC | exact hbB | exact hbA | refine Below.alloc ?_ (by first | (simp; done) | (have := hbA.size; simp <;> omega) | (have := hbB.size; simp <;> omega) | (have := hbC.size; simp <;> omega) | (have := hbD.size; simp <;> omega)) _ | apply Below.drew))) (hbA'.mono (by first | (simp; done) | (have := hbA.size; simp <;> omega) | (have := hbB.size; simp <;> omega) | (have := hbC.size; simp <;> omega) | (have := hbD.size; simp <;> omega)))
      go_wp2_with fail
      refine hK.out _ _ ?_ (fun hHeld => ?_)
      · (try dsimp only); first | exact ⟨p0, p1⟩ | exact ⟨keep (show Below w4.heap.size w4 _ from (by repeat (first | exact Below.refl _ _ | exact hbD | exact hbC | exact hbB | exact hbA | refine Below.alloc ?_ (by first | (simp; done) | (have := hbA.size; simp <;> omega) | (have := hbB.size; simp <;> omega) | (have := hbC.size; simp <;> omega) | (have := hbD.size; simp <;> omega)) _ | apply Below.drew))) P0.out, keep (show Below w4.heap.size w4 _ from (by repeat (first | exact Below.refl _ _ | exact hbD | exact hbC | exact hbB | exact hbA | refine Below.alloc ?_ (by first | (simp; done) | (have := hbA.size; simp <;> omega) | (have := hbB.size; simp <;> omega) | (have := hbC.size; simp <;> omega) | (have := hbD.size; simp <;> omega)) _ | apply Below.drew))) P1.out⟩
      clear hK K
      try simp only [Act.put, List.getElem_toArray, List.getElem_cons_succ, List.getElem_cons_zero, List.setIfInBounds_toArray, List.set_cons_zero, List.set_cons_succ]
      refine wpAnyH_take (i := 2) (oi := _) (v := ?_) rfl (by kernel_rfl) (by kernel_rfl) (by kernel_rfl) (fun _ _ _ h => h) (Or.inl ⟨by kernel_rfl, ?_⟩) (by assumption) ?_
      rotate_left
      · (intro w hSw; (try dsimp only at hSw); go_simp; (try with_reducible rfl))
      try simp only [Act.put, List.getElem_toArray, List.getElem_cons_succ, List.getElem_cons_zero, List.setIfInBounds_toArray, List.set_cons_zero, List.set_cons_succ]
      refine wpAnyH_ready (rs := [3, 4]) (by kernel_rfl) (by simp) ?_
      refine AllReadyH.cons (o := _) rfl (fun K hK => ?_) (AllReadyH.cons (o := _) rfl (fun K hK => ?_) AllReadyH.nil)
      · go_simp
        refine hK.out _ _ ?_ (fun hHeld => ?_)
        · (try dsimp only); first | exact ⟨p0, p1⟩ | exact ⟨keep (show Below w4.heap.size w4 _ from (by repeat (first | exact Below.refl _ _ | exact hbD | exact hbC | exact hbB | exact hbA | refine Below.alloc ?_ (by first | (simp; done) | (have := hbA.size; simp <;> omega) | (have := hbB.size; simp <;> omega) | (have := hbC.size; simp <;> omega) | (have := hbD.size; simp <;> omega)) _ | apply Below.drew))) P0.out, keep (show Below w4.heap.size w4 _ from (by repeat (first | exact Below.refl _ _ | exact hbD | exact hbC | exact hbB | exact hbA | refine Below.alloc ?_ (by first | (simp; done) | (have := hbA.size; simp <;> omega) | (have := hbB.size; simp <;> omega) | (have := hbC.size; simp <;> omega) | (have := hbD.size; simp <;> omega)) _ | apply Below.drew))) P1.out⟩
        clear hK K
        try simp only [Act.put, List.getElem_toArray, List.getElem_cons_succ, List.getElem_cons_zero, List.setIfInBounds_toArray, List.set_cons_zero, List.set_cons_succ]
        refine wpAnyH_ready (rs := [4]) (by kernel_rfl) (by simp) ?_
        refine AllReadyH.cons (o := _) rfl (fun K hK => ?_) AllReadyH.nil
        go_simp
        refine hK.out _ _ ?_ (fun hHeld => ?_)
        · (try dsimp only); first | exact ⟨p0, p1⟩ | exact ⟨keep (show Below w4.heap.size w4 _ from (by repeat (first | exact Below.refl _ _ | exact hbD | exact hbC | exact hbB | exact hbA | refine Below.alloc ?_ (by first | (simp; done) | (have := hbA.size; simp <;> omega) | (have := hbB.size; simp <;> omega) | (have := hbC.size; simp <;> omega) | (have := hbD.size; simp <;> omega)) _ | apply Below.drew))) P0.out, keep (show Below w4.heap.size w4 _ from (by repeat (first | exact Below.refl _ _ | exact hbD | exact hbC | exact hbB | exact hbA | refine Below.alloc ?_ (by first | (simp; done) | (have := hbA.size; simp <;> omega) | (have := hbB.size; simp <;> omega) | (have := hbC.size; simp <;> omega) | (have := hbD.size; simp <;> omega)) _ | apply Below.drew))) P1.out⟩
        clear hK K
        try simp only [Act.put, List.getElem_toArray, List.getElem_cons_succ, List.getElem_cons_zero, List.setIfInBounds_toArray, List.set_cons_zero, List.set_cons_succ]
        refine wpAnyH_take (i := 5) (oi := _) (v := ?_) rfl (by kernel_rfl) (by kernel_rfl) (by kernel_rfl) (fun _ _ _ h => h) (Or.inl ⟨by kernel_rfl, ?_⟩) (by assumption) ?_
        rotate_left
        · (intro w hSw; (try dsimp only at hSw); go_simp; (try with_reducible rfl))
        try simp only [Act.put, List.getElem_toArray, List.getElem_cons_succ, List.getElem_cons_zero, List.setIfInBounds_toArray, List.set_cons_zero, List.set_cons_succ]
        refine wpAnyH_ready (rs := [6]) (by kernel_rfl) (by simp) ?_
        refine AllReadyH.cons (o := _) rfl (fun K hK => ?_) AllReadyH.nil
        go_simp
        go_at_call 24; with_reducible refine kB (iProjectOk_any _ 1 1 [1] _ 1 1 [0] _ (by repeat (first | exact ints1 (by simp) 1 _ | apply IntsAt.allocB | apply IntsAt.drewB | refine IntsAt.below ?_ hbC' | refine IntsAt.below ?_ hbB' | refine IntsAt.below ?_ hbA')) (by repeat (first | exact ints1 (by simp) 0 _ | apply IntsAt.allocB | apply IntsAt.drewB | refine IntsAt.below ?_ hbC' | refine IntsAt.below ?_ hbB' | refine IntsAt.below ?_ hbA')) (by omega) (by omega)) ?_ (fun _ h _ => absurd prj_one h.out)
        intro wB _ hbB'
        have hbB : Below w4.heap.size w4 wB := Below.trans (show Below w4.heap.size w4 _ from (by repeat (first | exact Below.refl _ _ | exact hbD | exact hbC | exact hbB | exact hbA | refine Below.alloc ?_ (by first | (simp; done) | (have := hbA.size; simp <;> omega) | (have := hbB.size; simp <;> omega) | (have := hbC.size; simp <;> omega) | (have := hbD.size; simp <;> omega)) _ | apply Below.drew))) (hbB'.mono (by first | (simp; done) | (have := hbA.size; simp <;> omega) | (have := hbB.size; simp <;> omega) | (have := hbC.size; simp <;> omega) | (have := hbD.size; simp <;> omega)))
        go_wp2_with fail
        refine hK.out _ _ ?_ (fun hHeld => ?_)
        · (try dsimp only); first | exact ⟨p0, p1⟩ | exact ⟨keep (show Below w4.heap.size w4 _ from (by repeat (first | exact Below.refl _ _ | exact hbD | exact hbC | exact hbB | exact hbA | refine Below.alloc ?_ (by first | (simp; done) | (have := hbA.size; simp <;> omega) | (have := hbB.size; simp <;> omega) | (have := hbC.size; simp <;> omega) | (have := hbD.size; simp <;> omega)) _ | apply Below.drew))) P0.out, keep (show Below w4.heap.size w4 _ from (by repeat (first | exact Below.refl _ _ | exact hbD | exact hbC | exact hbB | exact hbA | refine Below.alloc ?_ (by first | (simp; done) | (have := hbA.size; simp <;> omega) | (have := hbB.size; simp <;> omega) | (have := hbC.size; simp <;> omega) | (have := hbD.size; simp <;> omega)) _ | apply Below.drew))) P1.out⟩
        clear hK K
        try simp only [Act.put, List.getElem_toArray, List.getElem_cons_succ, List.getElem_cons_zero, List.setIfInBounds_toArray, List.set_cons_zero, List.set_cons_succ]
        refine wpAnyH_take (i := 7) (oi := _) (v := ?_) rfl (by kernel_rfl) (by kernel_rfl) (by kernel_rfl) (fun _ _ _ h => h) (Or.inl ⟨by kernel_rfl, ?_⟩) (by assumption) ?_
        rotate_left
        · (intro w hSw; (try dsimp only at hSw); go_simp; (try with_reducible rfl))
        try simp only [Act.put, List.getElem_toArray, List.getElem_cons_succ, List.getElem_cons_zero, List.setIfInBounds_toArray, List.set_cons_zero, List.set_cons_succ]
        refine wpAnyH_take (i := 8) (oi := _) (v := ?_) rfl (by kernel_rfl) (by kernel_rfl) (by kernel_rfl) (fun _ _ _ h => h) (Or.inl ⟨by kernel_rfl, ?_⟩) (by assumption) ?_
        rotate_left
        · (intro w hSw; (try dsimp only at hSw); go_simp; (try with_reducible rfl))
        try simp only [Act.put, List.getElem_toArray, List.getElem_cons_succ, List.getElem_cons_zero, List.setIfInBounds_toArray, List.set_cons_zero, List.set_cons_succ]
        refine wpAnyH_take (i := 9) (oi := _) (v := ?_) rfl (by kernel_rfl) (by kernel_rfl) (by kernel_rfl) (fun _ _ _ h => h) (Or.inl ⟨by kernel_rfl, ?_⟩) (by assumption) ?_
        rotate_left
        · (intro w hSw; (try dsimp only at hSw); go_simp; (try with_reducible rfl))
        try simp only [Act.put, List.getElem_toArray, List.getElem_cons_succ, List.getElem_cons_zero, List.setIfInBounds_toArray, List.set_cons_zero, List.set_cons_succ]
        refine wpAnyH_take (i := 10) (oi := _) (v := ?_) rfl (by kernel_rfl) (by kernel_rfl) (by kernel_rfl) (fun _ _ _ h => h) (Or.inl ⟨by kernel_rfl, ?_⟩) (by assumption) ?_
        rotate_left
        · (intro w hSw; (try dsimp only at hSw); go_simp; (try with_reducible rfl))
        try simp only [Act.put, List.getElem_toArray, List.getElem_cons_succ, List.getElem_cons_zero, List.setIfInBounds_toArray, List.set_cons_zero, List.set_cons_succ]
        refine wpAnyH_take (i := 11) (oi := _) (v := ?_) rfl (by kernel_rfl) (by kernel_rfl) (by kernel_rfl) (fun _ _ _ h => h) (Or.inl ⟨by kernel_rfl, ?_⟩) (by assumption) ?_
        rotate_left
        · (intro w hSw; (try dsimp only at hSw); go_simp; (try with_reducible rfl))
        try simp only [Act.put, List.getElem_toArray, List.getElem_cons_succ, List.getElem_cons_zero, List.setIfInBounds_toArray, List.set_cons_zero, List.set_cons_succ]
        refine wpAnyH_take (i := 12) (oi := _) (v := ?_) rfl (by kernel_rfl) (by kernel_rfl) (by kernel_rfl) (fun _ _ _ h => h) (Or.inl ⟨by kernel_rfl, ?_⟩) (by assumption) ?_
        rotate_left
        · (intro w hSw; (try dsimp only at hSw); go_simp; (try with_reducible rfl))
        try simp only [Act.put, List.getElem_toArray, List.getElem_cons_succ, List.getElem_cons_zero, List.setIfInBounds_toArray, List.set_cons_zero, List.set_cons_succ]
        refine wpAnyH_take (i := 13) (oi := _) (v := ?_) rfl (by kernel_rfl) (by kernel_rfl) (by kernel_rfl) (fun _ _ _ h => h) (Or.inl ⟨by kernel_rfl, ?_⟩) (by assumption) ?_
        rotate_left
        · (intro w hSw; (try dsimp only at hSw); go_simp; (try with_reducible rfl))
        try simp only [Act.put, List.getElem_toArray, List.getElem_cons_succ, List.getElem_cons_zero, List.setIfInBounds_toArray, List.set_cons_zero, List.set_cons_succ]
        refine wpAnyH_take (i := 14) (oi := _) (v := ?_) rfl (by kernel_rfl) (by kernel_rfl) (by kernel_rfl) (fun _ _ _ h => h) (Or.inl ⟨by kernel_rfl, ?_⟩) (by assumption) ?_
        rotate_left
        · (intro w hSw; (try dsimp only at hSw); go_simp; (try with_reducible rfl))
        try simp only [Act.put, List.getElem_toArray, List.getElem_cons_succ, List.getElem_cons_zero, List.setIfInBounds_toArray, List.set_cons_zero, List.set_cons_succ]
        refine wpAnyH_take (i := 15) (oi := _) (v := ?_) rfl (by kernel_rfl) (by kernel_rfl) (by kernel_rfl) (fun _ _ _ h => h) (Or.inl ⟨by kernel_rfl, ?_⟩) (by assumption) ?_
        rotate_left
        · (intro w hSw; (try dsimp only at hSw); go_simp; (try with_reducible rfl))
        try simp only [Act.put, List.getElem_toArray, List.getElem_cons_succ, List.getElem_cons_zero, List.setIfInBounds_toArray, List.set_cons_zero, List.set_cons_succ]
        refine wpAnyH_take (i := 16) (oi := _) (v := ?_) rfl (by kernel_rfl) (by kernel_rfl) (by kernel_rfl) (fun _ _ _ h => h) (Or.inl ⟨by kernel_rfl, ?_⟩) (by assumption) ?_
        rotate_left
        · (intro w hSw; (try dsimp only at hSw); go_simp; (try with_reducible rfl))
        try simp only [Act.put, List.getElem_toArray, List.getElem_cons_succ, List.getElem_cons_zero, List.setIfInBounds_toArray, List.set_cons_zero, List.set_cons_succ]
        refine wpAnyH_take (i := 17) (oi := _) (v := ?_) rfl (by kernel_rfl) (by kernel_rfl) (by kernel_rfl) (fun _ _ _ h => h) (Or.inl ⟨by kernel_rfl, ?_⟩) (by assumption) ?_
        rotate_left
        · (intro w hSw; (try dsimp only at hSw); go_simp; (try with_reducible rfl))
        try simp only [Act.put, List.getElem_toArray, List.getElem_cons_succ, List.getElem_cons_zero, List.setIfInBounds_toArray, List.set_cons_zero, List.set_cons_succ]
        refine wpAnyH_take (i := 18) (oi := _) (v := ?_) rfl (by kernel_rfl) (by kernel_rfl) (by kernel_rfl) (fun _ _ _ h => h) (Or.inl ⟨by kernel_rfl, ?_⟩) (by assumption) ?_
        rotate_left
        · (intro w hSw; (try dsimp only at hSw); go_simp; (try with_reducible rfl))
        try simp only [Act.put, List.getElem_toArray, List.getElem_cons_succ, List.getElem_cons_zero, List.setIfInBounds_toArray, List.set_cons_zero, List.set_cons_succ]
        refine wpAnyH_take (i := 19) (oi := _) (v := ?_) rfl (by kernel_rfl) (by kernel_rfl) (by kernel_rfl) (fun _ _ _ h => h) (Or.inl ⟨by kernel_rfl, ?_⟩) (by assumption) ?_
        rotate_left
        · (intro w hSw; (try dsimp only at hSw); go_simp; (try with_reducible rfl))
        try simp only [Act.put, List.getElem_toArray, List.getElem_cons_succ, List.getElem_cons_zero, List.setIfInBounds_toArray, List.set_cons_zero, List.set_cons_succ]
        refine wpAnyH_take (i := 20) (oi := _) (v := ?_) rfl (by kernel_rfl) (by kernel_rfl) (by kernel_rfl) (fun _ _ _ h => h) (Or.inl ⟨by kernel_rfl, ?_⟩) (by assumption) ?_
        rotate_left
        · (intro w hSw; (try dsimp only at hSw); go_simp; (try with_reducible rfl))
        try simp only [Act.put, List.getElem_toArray, List.getElem_cons_succ, List.getElem_cons_zero, List.setIfInBounds_toArray, List.set_cons_zero, List.set_cons_succ]
        refine wpAnyH_take (i := 21) (oi := _) (v := ?_) rfl (by kernel_rfl) (by kernel_rfl) (by kernel_rfl) (fun _ _ _ h => h) (Or.inl ⟨by kernel_rfl, ?_⟩) (by assumption) ?_
        rotate_left
        · (intro w hSw; (try dsimp only at hSw); go_simp; (try with_reducible rfl))
        try simp only [Act.put, List.getElem_toArray, List.getElem_cons_succ, List.getElem_cons_zero, List.setIfInBounds_toArray, List.set_cons_zero, List.set_cons_succ]
        refine wpAnyH_take (i := 22) (oi := _) (v := ?_) rfl (by kernel_rfl) (by kernel_rfl) (by kernel_rfl) (fun _ _ _ h => h) (Or.inl ⟨by kernel_rfl, ?_⟩) (by assumption) ?_
        rotate_left
        · (intro w hSw; (try dsimp only at hSw); go_simp; (try with_reducible rfl))
        try simp only [Act.put, List.getElem_toArray, List.getElem_cons_succ, List.getElem_cons_zero, List.setIfInBounds_toArray, List.set_cons_zero, List.set_cons_succ]
        refine wpAnyH_take (i := 23) (oi := _) (v := ?_) rfl (by kernel_rfl) (by kernel_rfl) (by kernel_rfl) (fun _ _ _ h => h) (Or.inl ⟨by kernel_rfl, ?_⟩) (by assumption) ?_
        rotate_left
        · (intro w hSw; (try dsimp only at hSw); go_simp; (try with_reducible rfl))
        try simp only [Act.put, List.getElem_toArray, List.getElem_cons_succ, List.getElem_cons_zero, List.setIfInBounds_toArray, List.set_cons_zero, List.set_cons_succ]
        refine wpAnyH_take (i := 24) (oi := _) (v := ?_) rfl (by kernel_rfl) (by kernel_rfl) (by kernel_rfl) (fun _ _ _ h => h) (Or.inl ⟨by kernel_rfl, ?_⟩) (by assumption) ?_
        rotate_left
        · (intro w hSw; (try dsimp only at hSw); go_simp; (try with_reducible rfl))
        try simp only [Act.put, List.getElem_toArray, List.getElem_cons_succ, List.getElem_cons_zero, List.setIfInBounds_toArray, List.set_cons_zero, List.set_cons_succ]
        refine wpAnyH_ready (rs := [25]) (by kernel_rfl) (by simp) ?_
        refine AllReadyH.cons (o := _) rfl (fun K hK => ?_) AllReadyH.nil
        go_simp
        go_at_call 24; with_reducible refine kB (iProjectOk_any A k c (xs.take k) B' k d (ys.take k) _ ((HI4.out.below (by repeat (first | exact Below.refl _ _ | exact hbD | exact hbC | exact hbB | exact hbA | refine Below.alloc ?_ (by first | (simp; done) | (have := hbA.size; simp <;> omega) | (have := hbB.size; simp <;> omega) | (have := hbC.size; simp <;> omega) | (have := hbD.size; simp <;> omega)) _ | apply Below.drew))).cut (by omega)) ((HJ4.out.below (by repeat (first | exact Below.refl _ _ | exact hbD | exact hbC | exact hbB | exact hbA | refine Below.alloc ?_ (by first | (simp; done) | (have := hbA.size; simp <;> omega) | (have := hbB.size; simp <;> omega) | (have := hbC.size; simp <;> omega) | (have := hbD.size; simp <;> omega)) _ | apply Below.drew))).cut (by omega)) (by omega) (by omega)) ?_ (fun _ h _ => absurd HTK.out h.out)
        intro wC _ hbC'
        have hbC : Below w4.heap.size w4 wC := Below.trans (show Below w4.heap.size w4 _ from (by repeat (first | exact Below.refl _ _ | exact hbD | exact hbC | exact hbB | exact hbA | refine Below.alloc ?_ (by first | (simp; done) | (have := hbA.size; simp <;> omega) | (have := hbB.size; simp <;> omega) | (have := hbC.size; simp <;> omega) | (have := hbD.size; simp <;> omega)) _ | apply Below.drew))) (hbC'.mono (by first | (simp; done) | (have := hbA.size; simp <;> omega) | (have := hbB.size; simp <;> omega) | (have := hbC.size; simp <;> omega) | (have := hbD.size; simp <;> omega)))
        go_wp2_with fail
        refine hK.out _ _ ?_ (fun hHeld => ?_)
        · (try dsimp only); first | exact ⟨p0, p1⟩ | exact ⟨keep (show Below w4.heap.size w4 _ from (by repeat (first | exact Below.refl _ _ | exact hbD | exact hbC | exact hbB | exact hbA | refine Below.alloc ?_ (by first | (simp; done) | (have := hbA.size; simp <;> omega) | (have := hbB.size; simp <;> omega) | (have := hbC.size; simp <;> omega) | (have := hbD.size; simp <;> omega)) _ | apply Below.drew))) P0.out, keep (show Below w4.heap.size w4 _ from (by repeat (first | exact Below.refl _ _ | exact hbD | exact hbC | exact hbB | exact hbA | refine Below.alloc ?_ (by first | (simp; done) | (have := hbA.size; simp <;> omega) | (have := hbB.size; simp <;> omega) | (have := hbC.size; simp <;> omega) | (have := hbD.size; simp <;> omega)) _ | apply Below.drew))) P1.out⟩
        clear hK K
        try simp only [Act.put, List.getElem_toArray, List.getElem_cons_succ, List.getElem_cons_zero, List.setIfInBounds_toArray, List.set_cons_zero, List.set_cons_succ]
        refine wpAnyH_take (i := 26) (oi := _) (v := ?_) rfl (by kernel_rfl) (by kernel_rfl) (by kernel_rfl) (fun _ _ _ h => h) (Or.inl ⟨by kernel_rfl, ?_⟩) (by assumption) ?_
        rotate_left
        · (intro w hSw; (try dsimp only at hSw); go_simp; (try with_reducible rfl))
        try simp only [Act.put, List.getElem_toArray, List.getElem_cons_succ, List.getElem_cons_zero, List.setIfInBounds_toArray, List.set_cons_zero, List.set_cons_succ]
        refine wpAnyH_take (i := 27) (oi := _) (v := ?_) rfl (by kernel_rfl) (by kernel_rfl) (by kernel_rfl) (fun _ _ _ h => h) (Or.inl ⟨by kernel_rfl, ?_⟩) (by assumption) ?_
        rotate_left
        · (intro w hSw; (try dsimp only at hSw); go_simp; (try with_reducible rfl))
        try simp only [Act.put, List.getElem_toArray, List.getElem_cons_succ, List.getElem_cons_zero, List.setIfInBounds_toArray, List.set_cons_zero, List.set_cons_succ]
        refine wpAnyH_take (i := 28) (oi := _) (v := ?_) rfl (by kernel_rfl) (by kernel_rfl) (by kernel_rfl) (fun _ _ _ h => h) (Or.inl ⟨by kernel_rfl, ?_⟩) (by assumption) ?_
        rotate_left
        · (intro w hSw; (try dsimp only at hSw); go_simp; (try with_reducible rfl))
        try simp only [Act.put, List.getElem_toArray, List.getElem_cons_succ, List.getElem_cons_zero, List.setIfInBounds_toArray, List.set_cons_zero, List.set_cons_succ]
        refine wpAnyH_ready (rs := [29]) (by kernel_rfl) (by simp) ?_
        refine AllReadyH.cons (o := _) rfl (fun K hK => ?_) AllReadyH.nil
        go_simp
        go_at_call 27; with_reducible refine kBV (alive_any _) ?_
        intro wD hbD'
        have hbD : Below w4.heap.size w4 wD := Below.trans (show Below w4.heap.size w4 _ from (by repeat (first | exact Below.refl _ _ | exact hbD | exact hbC | exact hbB | exact hbA | refine Below.alloc ?_ (by first | (simp; done) | (have := hbA.size; simp <;> omega) | (have := hbB.size; simp <;> omega) | (have := hbC.size; simp <;> omega) | (have := hbD.size; simp <;> omega)) _ | apply Below.drew))) (hbD'.mono (by first | (simp; done) | (have := hbA.size; simp <;> omega) | (have := hbB.size; simp <;> omega) | (have := hbC.size; simp <;> omega) | (have := hbD.size; simp <;> omega)))
        go_wp2_with fail
        refine hK.out _ _ ?_ (fun hHeld => ?_)
        · (try dsimp only); first | exact ⟨p0, p1⟩ | exact ⟨keep (show Below w4.heap.size w4 _ from (by repeat (first | exact Below.refl _ _ | exact hbD | exact hbC | exact hbB | exact hbA | refine Below.alloc ?_ (by first | (simp; done) | (have := hbA.size; simp <;> omega) | (have := hbB.size; simp <;> omega) | (have := hbC.size; simp <;> omega) | (have := hbD.size; simp <;> omega)) _ | apply Below.drew))) P0.out, keep (show Below w4.heap.size w4 _ from (by repeat (first | exact Below.refl _ _ | exact hbD | exact hbC | exact hbB | exact hbA | refine Below.alloc ?_ (by first | (simp; done) | (have := hbA.size; simp <;> omega) | (have := hbB.size; simp <;> omega) | (have := hbC.size; simp <;> omega) | (have := hbD.size; simp <;> omega)) _ | apply Below.drew))) P1.out⟩
        clear hK K
        try simp only [Act.put, List.getElem_toArray, List.getElem_cons_succ, List.getElem_cons_zero, List.setIfInBounds_toArray, List.set_cons_zero, List.set_cons_succ]
        refine wpAnyH_take (i := 30) (oi := _) (v := ?_) rfl (by kernel_rfl) (by kernel_rfl) (by kernel_rfl) (fun _ _ _ h => h) (Or.inl ⟨by kernel_rfl, ?_⟩) (by assumption) ?_
        rotate_left
        · (intro w hSw; (try dsimp only at hSw); go_simp; (try with_reducible rfl))
        try simp only [Act.put, List.getElem_toArray, List.getElem_cons_succ, List.getElem_cons_zero, List.setIfInBounds_toArray, List.set_cons_zero, List.set_cons_succ]
        refine wpAnyH_take (i := 31) (oi := _) (v := ?_) rfl (by kernel_rfl) (by kernel_rfl) (by kernel_rfl) (fun _ _ _ h => h) (Or.inl ⟨by kernel_rfl, ?_⟩) (by assumption) ?_
        rotate_left
        · (intro w hSw; (try dsimp only at hSw); go_simp; (try with_reducible rfl))
        try simp only [Act.put, List.getElem_toArray, List.getElem_cons_succ, List.getElem_cons_zero, List.setIfInBounds_toArray, List.set_cons_zero, List.set_cons_succ]
        refine wpAnyH_done (by kernel_rfl) ?_ _
        go_wp2
        go_ret
        exact ⟨rfl, HB4.out.trans (hbD.mono HB4.out.size)⟩
      · go_simp
        refine hK.out _ _ ?_ (fun hHeld => ?_)
        · (try dsimp only); first | exact ⟨p0, p1⟩ | exact ⟨keep (show Below w4.heap.size w4 _ from (by repeat (first | exact Below.refl _ _ | exact hbD | exact hbC | exact hbB | exact hbA | refine Below.alloc ?_ (by first | (simp; done) | (have := hbA.size; simp <;> omega) | (have := hbB.size; simp <;> omega) | (have := hbC.size; simp <;> omega) | (have := hbD.size; simp <;> omega)) _ | apply Below.drew))) P0.out, keep (show Below w4.heap.size w4 _ from (by repeat (first | exact Below.refl _ _ | exact hbD | exact hbC | exact hbB | exact hbA | refine Below.alloc ?_ (by first | (simp; done) | (have := hbA.size; simp <;> omega) | (have := hbB.size; simp <;> omega) | (have := hbC.size; simp <;> omega) | (have := hbD.size; simp <;> omega)) _ | apply Below.drew))) P1.out⟩
        clear hK K
        try simp only [Act.put, List.getElem_toArray, List.getElem_cons_succ, List.getElem_cons_zero, List.setIfInBounds_toArray, List.set_cons_zero, List.set_cons_succ]
        refine wpAnyH_ready (rs := [3]) (by kernel_rfl) (by simp) ?_
        refine AllReadyH.cons (o := _) rfl (fun K hK => ?_) AllReadyH.nil
        go_simp
        refine hK.out _ _ ?_ (fun hHeld => ?_)
        · (try dsimp only); first | exact ⟨p0, p1⟩ | exact ⟨keep (show Below w4.heap.size w4 _ from (by repeat (first | exact Below.refl _ _ | exact hbD | exact hbC | exact hbB | exact hbA | refine Below.alloc ?_ (by first | (simp; done) | (have := hbA.size; simp <;> omega) | (have := hbB.size; simp <;> omega) | (have := hbC.size; simp <;> omega) | (have := hbD.size; simp <;> omega)) _ | apply Below.drew))) P0.out, keep (show Below w4.heap.size w4 _ from (by repeat (first | exact Below.refl _ _ | exact hbD | exact hbC | exact hbB | exact hbA | refine Below.alloc ?_ (by first | (simp; done) | (have := hbA.size; simp <;> omega) | (have := hbB.size; simp <;> omega) | (have := hbC.size; simp <;> omega) | (have := hbD.size; simp <;> omega)) _ | apply Below.drew))) P1.out⟩
        clear hK K
        try simp only [Act.put, List.getElem_toArray, List.getElem_cons_succ, List.getElem_cons_zero, List.setIfInBounds_toArray, List.set_cons_zero, List.set_cons_succ]
        refine wpAnyH_take (i := 5) (oi := _) (v := ?_) rfl (by kernel_rfl) (by kernel_rfl) (by kernel_rfl) (fun _ _ _ h => h) (Or.inl ⟨by kernel_rfl, ?_⟩) (by assumption) ?_
        rotate_left
        · (intro w hSw; (try dsimp only at hSw); go_simp; (try with_reducible rfl))
        try simp only [Act.put, List.getElem_toArray, List.getElem_cons_succ, List.getElem_cons_zero, List.setIfInBounds_toArray, List.set_cons_zero, List.set_cons_succ]
        refine wpAnyH_ready (rs := [6]) (by kernel_rfl) (by simp) ?_
        refine AllReadyH.cons (o := _) rfl (fun K hK => ?_) AllReadyH.nil
        go_simp
        go_at_call 24; with_reducible refine kB (iProjectOk_any _ 1 1 [1] _ 1 1 [0] _ (by repeat (first | exact ints1 (by simp) 1 _ | apply IntsAt.allocB | apply IntsAt.drewB | refine IntsAt.below ?_ hbC' | refine IntsAt.below ?_ hbB' | refine IntsAt.below ?_ hbA')) (by repeat (first | exact ints1 (by simp) 0 _ | apply IntsAt.allocB | apply IntsAt.drewB | refine IntsAt.below ?_ hbC' | refine IntsAt.below ?_ hbB' | refine IntsAt.below ?_ hbA')) (by omega) (by omega)) ?_ (fun _ h _ => absurd prj_one h.out)
        intro wB _ hbB'
        have hbB : Below w4.heap.size w4 wB := Below.trans (show Below w4.heap.size w4 _ from (by repeat (first | exact Below.refl _ _ | exact hbD | exact hbC | exact hbB | exact hbA | refine Below.alloc ?_ (by first | (simp; done) | (have := hbA.size; simp <;> omega) | (have := hbB.size; simp <;> omega) | (have := hbC.size; simp <;> omega) | (have := hbD.size; simp <;> omega)) _ | apply Below.drew))) (hbB'.mono (by first | (simp; done) | (have := hbA.size; simp <;> omega) | (have := hbB.size; simp <;> omega) | (have := hbC.size; simp <;> omega) | (have := hbD.size; simp <;> omega)))
        go_wp2_with fail
        refine hK.out _ _ ?_ (fun hHeld => ?_)
        · (try dsimp only); first | exact ⟨p0, p1⟩ | exact ⟨keep (show Below w4.heap.size w4 _ from (by repeat (first | exact Below.refl _ _ | exact hbD | exact hbC | exact hbB | exact hbA | refine Below.alloc ?_ (by first | (simp; done) | (have := hbA.size; simp <;> omega) | (have := hbB.size; simp <;> omega) | (have := hbC.size; simp <;> omega) | (have := hbD.size; simp <;> omega)) _ | apply Below.drew))) P0.out, keep (show Below w4.heap.size w4 _ from (by repeat (first | exact Below.refl _ _ | exact hbD | exact hbC | exact hbB | exact hbA | refine Below.alloc ?_ (by first | (simp; done) | (have := hbA.size; simp <;> omega) | (have := hbB.size; simp <;> omega) | (have := hbC.size; simp <;> omega) | (have := hbD.size; simp <;> omega)) _ | apply Below.drew))) P1.out⟩
        clear hK K
        try simp only [Act.put, List.getElem_toArray, List.getElem_cons_succ, List.getElem_cons_zero, List.setIfInBounds_toArray, List.set_cons_zero, List.set_cons_succ]
        refine wpAnyH_take (i := 7) (oi := _) (v := ?_) rfl (by kernel_rfl) (by kernel_rfl) (by kernel_rfl) (fun _ _ _ h => h) (Or.inl ⟨by kernel_rfl, ?_⟩) (by assumption) ?_
        rotate_left
        · (intro w hSw; (try dsimp only at hSw); go_simp; (try with_reducible rfl))
        try simp only [Act.put, List.getElem_toArray, List.getElem_cons_succ, List.getElem_cons_zero, List.setIfInBounds_toArray, List.set_cons_zero, List.set_cons_succ]
        refine wpAnyH_take (i := 8) (oi := _) (v := ?_) rfl (by kernel_rfl) (by kernel_rfl) (by kernel_rfl) (fun _ _ _ h => h) (Or.inl ⟨by kernel_rfl, ?_⟩) (by assumption) ?_
        rotate_left
        · (intro w hSw; (try dsimp only at hSw); go_simp; (try with_reducible rfl))
        try simp only [Act.put, List.getElem_toArray, List.getElem_cons_succ, List.getElem_cons_zero, List.setIfInBounds_toArray, List.set_cons_zero, List.set_cons_succ]
        refine wpAnyH_take (i := 9) (oi := _) (v := ?_) rfl (by kernel_rfl) (by kernel_rfl) (by kernel_rfl) (fun _ _ _ h => h) (Or.inl ⟨by kernel_rfl, ?_⟩) (by assumption) ?_
        rotate_left
        · (intro w hSw; (try dsimp only at hSw); go_simp; (try with_reducible rfl))
        try simp only [Act.put, List.getElem_toArray, List.getElem_cons_succ, List.getElem_cons_zero, List.setIfInBounds_toArray, List.set_cons_zero, List.set_cons_succ]
        refine wpAnyH_take (i := 10) (oi := _) (v := ?_) rfl (by kernel_rfl) (by kernel_rfl) (by kernel_rfl) (fun _ _ _ h => h) (Or.inl ⟨by kernel_rfl, ?_⟩) (by assumption) ?_
        rotate_left
        · (intro w hSw; (try dsimp only at hSw); go_simp; (try with_reducible rfl))
        try simp only [Act.put, List.getElem_toArray, List.getElem_cons_succ, List.getElem_cons_zero, List.setIfInBounds_toArray, List.set_cons_zero, List.set_cons_succ]
        refine wpAnyH_take (i := 11) (oi := _) (v := ?_) rfl (by kernel_rfl) (by kernel_rfl) (by kernel_rfl) (fun _ _ _ h => h) (Or.inl ⟨by kernel_rfl, ?_⟩) (by assumption) ?_
        rotate_left
        · (intro w hSw; (try dsimp only at hSw); go_simp; (try with_reducible rfl))
        try simp only [Act.put, List.getElem_toArray, List.getElem_cons_succ, List.getElem_cons_zero, List.setIfInBounds_toArray, List.set_cons_zero, List.set_cons_succ]
        refine wpAnyH_take (i := 12) (oi := _) (v := ?_) rfl (by kernel_rfl) (by kernel_rfl) (by kernel_rfl) (fun _ _ _ h => h) (Or.inl ⟨by kernel_rfl, ?_⟩) (by assumption) ?_
        rotate_left
        · (intro w hSw; (try dsimp only at hSw); go_simp; (try with_reducible rfl))
        try simp only [Act.put, List.getElem_toArray, List.getElem_cons_succ, List.getElem_cons_zero, List.setIfInBounds_toArray, List.set_cons_zero, List.set_cons_succ]
        refine wpAnyH_take (i := 13) (oi := _) (v := ?_) rfl (by kernel_rfl) (by kernel_rfl) (by kernel_rfl) (fun _ _ _ h => h) (Or.inl ⟨by kernel_rfl, ?_⟩) (by assumption) ?_
        rotate_left
        · (intro w hSw; (try dsimp only at hSw); go_simp; (try with_reducible rfl))
        try simp only [Act.put, List.getElem_toArray, List.getElem_cons_succ, List.getElem_cons_zero, List.setIfInBounds_toArray, List.set_cons_zero, List.set_cons_succ]
        refine wpAnyH_take (i := 14) (oi := _) (v := ?_) rfl (by kernel_rfl) (by kernel_rfl) (by kernel_rfl) (fun _ _ _ h => h) (Or.inl ⟨by kernel_rfl, ?_⟩) (by assumption) ?_
        rotate_left
        · (intro w hSw; (try dsimp only at hSw); go_simp; (try with_reducible rfl))
        try simp only [Act.put, List.getElem_toArray, List.getElem_cons_succ, List.getElem_cons_zero, List.setIfInBounds_toArray, List.set_cons_zero, List.set_cons_succ]
        refine wpAnyH_take (i := 15) (oi := _) (v := ?_) rfl (by kernel_rfl) (by kernel_rfl) (by kernel_rfl) (fun _ _ _ h => h) (Or.inl ⟨by kernel_rfl, ?_⟩) (by assumption) ?_
        rotate_left
        · (intro w hSw; (try dsimp only at hSw); go_simp; (try with_reducible rfl))
        try simp only [Act.put, List.getElem_toArray, List.getElem_cons_succ, List.getElem_cons_zero, List.setIfInBounds_toArray, List.set_cons_zero, List.set_cons_succ]
        refine wpAnyH_take (i := 16) (oi := _) (v := ?_) rfl (by kernel_rfl) (by kernel_rfl) (by kernel_rfl) (fun _ _ _ h => h) (Or.inl ⟨by kernel_rfl, ?_⟩) (by assumption) ?_
        rotate_left
        · (intro w hSw; (try dsimp only at hSw); go_simp; (try with_reducible rfl))
        try simp only [Act.put, List.getElem_toArray, List.getElem_cons_succ, List.getElem_cons_zero, List.setIfInBounds_toArray, List.set_cons_zero, List.set_cons_succ]
        refine wpAnyH_take (i := 17) (oi := _) (v := ?_) rfl (by kernel_rfl) (by kernel_rfl) (by kernel_rfl) (fun _ _ _ h => h) (Or.inl ⟨by kernel_rfl, ?_⟩) (by assumption) ?_
        rotate_left
        · (intro w hSw; (try dsimp only at hSw); go_simp; (try with_reducible rfl))
        try simp only [Act.put, List.getElem_toArray, List.getElem_cons_succ, List.getElem_cons_zero, List.setIfInBounds_toArray, List.set_cons_zero, List.set_cons_succ]
        refine wpAnyH_take (i := 18) (oi := _) (v := ?_) rfl (by kernel_rfl) (by kernel_rfl) (by kernel_rfl) (fun _ _ _ h => h) (Or.inl ⟨by kernel_rfl, ?_⟩) (by assumption) ?_
        rotate_left
        · (intro w hSw; (try dsimp only at hSw); go_simp; (try with_reducible rfl))
        try simp only [Act.put, List.getElem_toArray, List.getElem_cons_succ, List.getElem_cons_zero, List.setIfInBounds_toArray, List.set_cons_zero, List.set_cons_succ]
        refine wpAnyH_take (i := 19) (oi := _) (v := ?_) rfl (by kernel_rfl) (by kernel_rfl) (by kernel_rfl) (fun _ _ _ h => h) (Or.inl ⟨by kernel_rfl, ?_⟩) (by assumption) ?_
        rotate_left
        · (intro w hSw; (try dsimp only at hSw); go_simp; (try with_reducible rfl))
        try simp only [Act.put, List.getElem_toArray, List.getElem_cons_succ, List.getElem_cons_zero, List.setIfInBounds_toArray, List.set_cons_zero, List.set_cons_succ]
        refine wpAnyH_take (i := 20) (oi := _) (v := ?_) rfl (by kernel_rfl) (by kernel_rfl) (by kernel_rfl) (fun _ _ _ h => h) (Or.inl ⟨by kernel_rfl, ?_⟩) (by assumption) ?_
        rotate_left
        · (intro w hSw; (try dsimp only at hSw); go_simp; (try with_reducible rfl))
        try simp only [Act.put, List.getElem_toArray, List.getElem_cons_succ, List.getElem_cons_zero, List.setIfInBounds_toArray, List.set_cons_zero, List.set_cons_succ]
        refine wpAnyH_take (i := 21) (oi := _) (v := ?_) rfl (by kernel_rfl) (by kernel_rfl) (by kernel_rfl) (fun _ _ _ h => h) (Or.inl ⟨by kernel_rfl, ?_⟩) (by assumption) ?_
        rotate_left
        · (intro w hSw; (try dsimp only at hSw); go_simp; (try with_reducible rfl))
        try simp only [Act.put, List.getElem_toArray, List.getElem_cons_succ, List.getElem_cons_zero, List.setIfInBounds_toArray, List.set_cons_zero, List.set_cons_succ]
        refine wpAnyH_take (i := 22) (oi := _) (v := ?_) rfl (by kernel_rfl) (by kernel_rfl) (by kernel_rfl) (fun _ _ _ h => h) (Or.inl ⟨by kernel_rfl, ?_⟩) (by assumption) ?_
        rotate_left
        · (intro w hSw; (try dsimp only at hSw); go_simp; (try with_reducible rfl))
        try simp only [Act.put, List.getElem_toArray, List.getElem_cons_succ, List.getElem_cons_zero, List.setIfInBounds_toArray, List.set_cons_zero, List.set_cons_succ]
        refine wpAnyH_take (i := 23) (oi := _) (v := ?_) rfl (by kernel_rfl) (by kernel_rfl) (by kernel_rfl) (fun _ _ _ h => h) (Or.inl ⟨by kernel_rfl, ?_⟩) (by assumption) ?_
        rotate_left
        · (intro w hSw; (try dsimp only at hSw); go_simp; (try with_reducible rfl))
        try simp only [Act.put, List.getElem_toArray, List.getElem_cons_succ, List.getElem_cons_zero, List.setIfInBounds_toArray, List.set_cons_zero, List.set_cons_succ]
        refine wpAnyH_take (i := 24) (oi := _) (v := ?_) rfl (by kernel_rfl) (by kernel_rfl) (by kernel_rfl) (fun _ _ _ h => h) (Or.inl ⟨by kernel_rfl, ?_⟩) (by assumption) ?_
        rotate_left
        · (intro w hSw; (try dsimp only at hSw); go_simp; (try with_reducible rfl))
        try simp only [Act.put, List.getElem_toArray, List.getElem_cons_succ, List.getElem_cons_zero, List.setIfInBounds_toArray, List.set_cons_zero, List.set_cons_succ]
        refine wpAnyH_ready (rs := [25]) (by kernel_rfl) (by simp) ?_
        refine AllReadyH.cons (o := _) rfl (fun K hK => ?_) AllReadyH.nil
        go_simp
        go_at_call 24; with_reducible refine kB (iProjectOk_any A k c (xs.take k) B' k d (ys.take k) _ ((HI4.out.below (by repeat (first | exact Below.refl _ _ | exact hbD | exact hbC | exact hbB | exact hbA | refine Below.alloc ?_ (by first | (simp; done) | (have := hbA.size; simp <;> omega) | (have := hbB.size; simp <;> omega) | (have := hbC.size; simp <;> omega) | (have := hbD.size; simp <;> omega)) _ | apply Below.drew))).cut (by omega)) ((HJ4.out.below (by repeat (first | exact Below.refl _ _ | exact hbD | exact hbC | exact hbB | exact hbA | refine Below.alloc ?_ (by first | (simp; done) | (have := hbA.size; simp <;> omega) | (have := hbB.size; simp <;> omega) | (have := hbC.size; simp <;> omega) | (have := hbD.size; simp <;> omega)) _ | apply Below.drew))).cut (by omega)) (by omega) (by omega)) ?_ (fun _ h _ => absurd HTK.out h.out)
        intro wC _ hbC'
        have hbC : Below w4.heap.size w4 wC := Below.trans (show Below w4.heap.size w4 _ from (by repeat (first | exact Below.refl _ _ | exact hbD | exact hbC | exact hbB | exact hbA | refine Below.alloc ?_ (by first | (simp; done) | (have := hbA.size; simp <;> omega) | (have := hbB.size; simp <;> omega) | (have := hbC.size; simp <;> omega) | (have := hbD.size; simp <;> omega)) _ | apply Below.drew))) (hbC'.mono (by first | (simp; done) | (have := hbA.size; simp <;> omega) | (have := hbB.size; simp <;> omega) | (have := hbC.size; simp <;> omega) | (have := hbD.size; simp <;> omega)))
        go_wp2_with fail
        refine hK.out _ _ ?_ (fun hHeld => ?_)
        · (try dsimp only); first | exact ⟨p0, p1⟩ | exact ⟨keep (show Below w4.heap.size w4 _ from (by repeat (first | exact Below.refl _ _ | exact hbD | exact hbC | exact hbB | exact hbA | refine Below.alloc ?_ (by first | (simp; done) | (have := hbA.size; simp <;> omega) | (have := hbB.size; simp <;> omega) | (have := hbC.size; simp <;> omega) | (have := hbD.size; simp <;> omega)) _ | apply Below.drew))) P0.out, keep (show Below w4.heap.size w4 _ from (by repeat (first | exact Below.refl _ _ | exact hbD | exact hbC | exact hbB | exact hbA | refine Below.alloc ?_ (by first | (simp; done) | (have := hbA.size; simp <;> omega) | (have := hbB.size; simp <;> omega) | (have := hbC.size; simp <;> omega) | (have := hbD.size; simp <;> omega)) _ | apply Below.drew))) P1.out⟩
        clear hK K
        try simp only [Act.put, List.getElem_toArray, List.getElem_cons_succ, List.getElem_cons_zero, List.setIfInBounds_toArray, List.set_cons_zero, List.set_cons_succ]
        refine wpAnyH_take (i := 26) (oi := _) (v := ?_) rfl (by kernel_rfl) (by kernel_rfl) (by kernel_rfl) (fun _ _ _ h => h) (Or.inl ⟨by kernel_rfl, ?_⟩) (by assumption) ?_
        rotate_left
        · (intro w hSw; (try dsimp only at hSw); go_simp; (try with_reducible rfl))
        try simp only [Act.put, List.getElem_toArray, List.getElem_cons_succ, List.getElem_cons_zero, List.setIfInBounds_toArray, List.set_cons_zero, List.set_cons_succ]
        refine wpAnyH_take (i := 27) (oi := _) (v := ?_) rfl (by kernel_rfl) (by kernel_rfl) (by kernel_rfl) (fun _ _ _ h => h) (Or.inl ⟨by kernel_rfl, ?_⟩) (by assumption) ?_
        rotate_left
        · (intro w hSw; (try dsimp only at hSw); go_simp; (try with_reducible rfl))
        try simp only [Act.put, List.getElem_toArray, List.getElem_cons_succ, List.getElem_cons_zero, List.setIfInBounds_toArray, List.set_cons_zero, List.set_cons_succ]
        refine wpAnyH_take (i := 28) (oi := _) (v := ?_) rfl (by kernel_rfl) (by kernel_rfl) (by kernel_rfl) (fun _ _ _ h => h) (Or.inl ⟨by kernel_rfl, ?_⟩) (by assumption) ?_
        rotate_left
        · (intro w hSw; (try dsimp only at hSw); go_simp; (try with_reducible rfl))
        try simp only [Act.put, List.getElem_toArray, List.getElem_cons_succ, List.getElem_cons_zero, List.setIfInBounds_toArray, List.set_cons_zero, List.set_cons_succ]
        refine wpAnyH_ready (rs := [29]) (by kernel_rfl) (by simp) ?_
        refine AllReadyH.cons (o := _) rfl (fun K hK => ?_) AllReadyH.nil
        go_simp
        go_at_call 27; with_reducible refine kBV (alive_any _) ?_
        intro wD hbD'
        have hbD : Below w4.heap.size w4 wD := Below.trans (show Below w4.heap.size w4 _ from (by repeat (first | exact Below.refl _ _ | exact hbD | exact hbC | exact hbB | exact hbA | refine Below.alloc ?_ (by first | (simp; done) | (have := hbA.size; simp <;> omega) | (have := hbB.size; simp <;> omega) | (have := hbC.size; simp <;> omega) | (have := hbD.size; simp <;> omega)) _ | apply Below.drew))) (hbD'.mono (by first | (simp; done) | (have := hbA.size; simp <;> omega) | (have := hbB.size; simp <;> omega) | (have := hbC.size; simp <;> omega) | (have := hbD.size; simp <;> omega)))
        go_wp2_with fail
        refine hK.out _ _ ?_ (fun hHeld => ?_)
        · (try dsimp only); first | exact ⟨p0, p1⟩ | exact ⟨keep (show Below w4.heap.size w4 _ from (by repeat (first | exact Below.refl _ _ | exact hbD | exact hbC | exact hbB | exact hbA | refine Below.alloc ?_ (by first | (simp; done) | (have := hbA.size; simp <;> omega) | (have := hbB.size; simp <;> omega) | (have := hbC.size; simp <;> omega) | (have := hbD.size; simp <;> omega)) _ | apply Below.drew))) P0.out, keep (show Below w4.heap.size w4 _ from (by repeat (first | exact Below.refl _ _ | exact hbD | exact hbC | exact hbB | exact hbA | refine Below.alloc ?_ (by first | (simp; done) | (have := hbA.size; simp <;> omega) | (have := hbB.size; simp <;> omega) | (have := hbC.size; simp <;> omega) | (have := hbD.size; simp <;> omega)) _ | apply Below.drew))) P1.out⟩
        clear hK K
        try simp only [Act.put, List.getElem_toArray, List.getElem_cons_succ, List.getElem_cons_zero, List.setIfInBounds_toArray, List.set_cons_zero, List.set_cons_succ]
        refine wpAnyH_take (i := 30) (oi := _) (v := ?_) rfl (by kernel_rfl) (by kernel_rfl) (by kernel_rfl) (fun _ _ _ h => h) (Or.inl ⟨by kernel_rfl, ?_⟩) (by assumption) ?_
        rotate_left
        · (intro w hSw; (try dsimp only at hSw); go_simp; (try with_reducible rfl))
        try simp only [Act.put, List.getElem_toArray, List.getElem_cons_succ, List.getElem_cons_zero, List.setIfInBounds_toArray, List.set_cons_zero, List.set_cons_succ]
        refine wpAnyH_take (i := 31) (oi := _) (v := ?_) rfl (by kernel_rfl) (by kernel_rfl) (by kernel_rfl) (fun _ _ _ h => h) (Or.inl ⟨by kernel_rfl, ?_⟩) (by assumption) ?_
        rotate_left
        · (intro w hSw; (try dsimp only at hSw); go_simp; (try with_reducible rfl))
        try simp only [Act.put, List.getElem_toArray, List.getElem_cons_succ, List.getElem_cons_zero, List.setIfInBounds_toArray, List.set_cons_zero, List.set_cons_succ]
        refine wpAnyH_done (by kernel_rfl) ?_ _
        go_wp2
        go_ret
        exact ⟨rfl, HB4.out.trans (hbD.mono HB4.out.size)⟩

end Go.Proofs.Ytopfhlopicjemaa

