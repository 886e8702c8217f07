/- Draws of states and of points: spec.l20Point; the laws' draws. -/
import Derived.Test.YtikapnphnkoelaaW7
import Derived.Test.YtikapnphnkoelaaDC
set_option linter.unusedSimpArgs false
namespace Go.Proofs.Ytikapnphnkoelaa
open Go.RowKit
attribute [local go_sem ↓] Go.wp_at_zero Go.wp_at_succ

theorem BndsAt.mvR {w w' : World} {A : Option Addr} {n R : Nat} {xs : List Bd} {B : Int} (h : BndsAt w A n xs) (hap : ∀ a, A = some a → a.block ≠ R ∧ a.block < w.heap.size) (hm : Mv R B w w') : BndsAt w' A n xs :=
  h.keepB fun a ha => hm.1.block _ (hap a ha).2 (fun e => (hap a ha).1 (Option.some.inj e))
theorem IntsAt.mvR {w w' : World} {A : Option Addr} {n R : Nat} {xs : List Int} {B : Int} (h : IntsAt w A n xs) (hap : ∀ a, A = some a → a.block ≠ R ∧ a.block < w.heap.size) (hm : Mv R B w w') : IntsAt w' A n xs :=
  ⟨h.len, fun hn => by
    obtain ⟨b, off, e, hc⟩ := h.cells hn
    exact ⟨b, off, e, fun j hj => (cell_blk (b := b) (hm.1.block _ (hap _ e).2 (fun e' => (hap _ e).1 (Option.some.inj e'))) _).trans (hc j hj)⟩⟩

/-- What a law's draw of a plan and a state leaves. -/
def DState (w : World) (e : Ending) (w' : World) : Prop :=
  ∃ (pts : Int) (A : Option Addr) (n c : Nat) (xs : List Bd) (now : Int) (D : Option Addr) (m d : Nat) (ds : List Int), e = .returned (.tuple #[.agg #[.int .i64 pts, .slice A n c], .agg #[.int .i64 now, .slice D m d]]) ∧ (n ≤ c ∧ n ≤ 16) ∧ (m ≤ d ∧ m ≤ 8) ∧ BndsAt w' A n xs ∧ IntsAt w' D m ds ∧ Below w.heap.size w w'
theorem kDState {Pr : Program} {f : FuncId} {args : Array Value} {w : World} {K : Ending → World → Prop} (h : Calls Pr f args w (DState w))
    (h1 : ∀ pts A n c xs now D m d ds w', (n ≤ c ∧ n ≤ 16) → (m ≤ d ∧ m ≤ 8) → BndsAt w' A n xs → IntsAt w' D m ds → Below w.heap.size w w' → K (.returned (.tuple #[.agg #[.int .i64 pts, .slice A n c], .agg #[.int .i64 now, .slice D m d]])) w') : Calls Pr f args w K :=
  h.mono fun e w' ⟨pts, A, n, c, xs, now, D, m, d, ds, he, h3, h4, h5, h6, h9⟩ => by subst he; exact h1 pts A n c xs now D m d ds w' h3 h4 h5 h6 h9
/-- What a draw of a plan, a state and a point leaves. -/
def PointMade (R : Nat) (B : Int) (w : World) (e : Ending) (w' : World) : Prop :=
  ∃ (pts : Int) (A : Option Addr) (n c : Nat) (xs : List Bd) (now : Int) (D : Option Addr) (m d : Nat) (ds : List Int) (i : Int), e = .returned (.tuple #[.agg #[.int .i64 pts, .slice A n c], .agg #[.int .i64 now, .slice D m d], .int .i64 i]) ∧ (n ≤ c ∧ n ≤ 16) ∧ (m ≤ d ∧ m ≤ 8) ∧ BndsAt w' A n xs ∧ IntsAt w' D m ds ∧ (∀ a, A = some a → w.heap.size ≤ a.block ∧ a.block < w'.heap.size) ∧ (∀ a, D = some a → w.heap.size ≤ a.block ∧ a.block < w'.heap.size) ∧ Mv R (B + 300) w w'
theorem kPointMade {Pr : Program} {f : FuncId} {args : Array Value} {w : World} {K : Ending → World → Prop} {R : Nat} {B : Int} (h : Calls Pr f args w (PointMade R B w))
    (h1 : ∀ pts A n c xs now D m d ds i w', (n ≤ c ∧ n ≤ 16) → (m ≤ d ∧ m ≤ 8) → BndsAt w' A n xs → IntsAt w' D m ds → (∀ a, A = some a → w.heap.size ≤ a.block ∧ a.block < w'.heap.size) → (∀ a, D = some a → w.heap.size ≤ a.block ∧ a.block < w'.heap.size) → Mv R (B + 300) w w' → K (.returned (.tuple #[.agg #[.int .i64 pts, .slice A n c], .agg #[.int .i64 now, .slice D m d], .int .i64 i])) w') : Calls Pr f args w K :=
  h.mono fun e w' ⟨pts, A, n, c, xs, now, D, m, d, ds, i, he, h3, h4, h5, h6, h7, h8, h9⟩ => by subst he; exact h1 pts A n c xs now D m d ds i w' h3 h4 h5 h6 h7 h8 h9
theorem PointMade.drewD {R : Nat} {B : Int} {w : World} {e : Ending} {w' : World} (h : PointMade R B w e w') : PointMade R B w e w'.drew := by
  obtain ⟨pts, A, n, c, xs, now, D, m, d, ds, i, he, h3, h4, h5, h6, h7, h8, h9⟩ := h
  exact ⟨pts, A, n, c, xs, now, D, m, d, ds, i, he, h3, h4, h5.drewN 1, h6.drewN 1, h7, h8, h9.drewN 1⟩
def DPoint (w : World) (e : Ending) (w' : World) : Prop :=
  ∃ (pts : Int) (A : Option Addr) (n c : Nat) (xs : List Bd) (now : Int) (D : Option Addr) (m d : Nat) (ds : List Int) (i : Int), e = .returned (.tuple #[.agg #[.int .i64 pts, .slice A n c], .agg #[.int .i64 now, .slice D m d], .int .i64 i]) ∧ (n ≤ c ∧ n ≤ 16) ∧ (m ≤ d ∧ m ≤ 8) ∧ BndsAt w' A n xs ∧ IntsAt w' D m ds ∧ Below w.heap.size w w'
theorem kDPoint {Pr : Program} {f : FuncId} {args : Array Value} {w : World} {K : Ending → World → Prop} (h : Calls Pr f args w (DPoint w))
    (h1 : ∀ pts A n c xs now D m d ds i w', (n ≤ c ∧ n ≤ 16) → (m ≤ d ∧ m ≤ 8) → BndsAt w' A n xs → IntsAt w' D m ds → Below w.heap.size w w' → K (.returned (.tuple #[.agg #[.int .i64 pts, .slice A n c], .agg #[.int .i64 now, .slice D m d], .int .i64 i])) w') : Calls Pr f args w K :=
  h.mono fun e w' ⟨pts, A, n, c, xs, now, D, m, d, ds, i, he, h3, h4, h5, h6, h9⟩ => by subst he; exact h1 pts A n c xs now D m d ds i w' h3 h4 h5 h6 h9

set_option maxHeartbeats 1000000 in
theorem DrawStateOk_any (A : Option Addr) (n c : Nat) (w : World) (h : BytsAt w w.heap.size A n) (hn : n ≤ 9223372036854775807) (hc : n ≤ c) :
    Calls Try.prog 11 #[.slice A n c] w (DState w) := by
  have hA0 : Below w.heap.size w ((w.alloc (.cells #[.int .i64 0, .slice none 0 0] 25)).alloc (.cells #[.int .i64 0, .slice none 0 0] 28)) := ((Below.refl w.heap.size w).alloc (Nat.le_refl _) _).alloc (by simp) _
  have HQ0 := Lib.hid ((Blk.new w 25 #[.int .i64 0, .slice none 0 0]).below ((Below.refl _ _).alloc (Nat.le_refl _) (.cells #[.int .i64 0, .slice none 0 0] 28)) (Blk.new w _ _).lt)
  have HX0 := Lib.hid (show Blk ((w.alloc (.cells #[.int .i64 0, .slice none 0 0] 25)).alloc (.cells #[.int .i64 0, .slice none 0 0] 28)) (w.heap.size + 1) 28 #[.int .i64 0, .slice none 0 0] from Blk.at_new (by simp) _ _)
  have HA0 := Lib.hid hA0
  have HBY := Lib.hid ((h.keep (w' := (w.alloc (.cells #[.int .i64 0, .slice none 0 0] 25)).alloc (.cells #[.int .i64 0, .slice none 0 0] 28)) (fun b hb => hA0.block b hb)).older (R' := ((w.alloc (.cells #[.int .i64 0, .slice none 0 0] 25)).alloc (.cells #[.int .i64 0, .slice none 0 0] 28)).heap.size) hA0.size)
  clear hA0 h
  go_enter Try.func11, Try.ntmps11
  go_wp2_with (fail)
  refine kOpen (open_any A n c _ HBY.out hn hc) ?_
  intro R w1 hR hr1 hb1
  have hR2 : w.heap.size + 1 < R := by have := hR; simp at this; omega
  have HQ1 := Lib.hid (HQ0.out.below hb1 HQ0.out.lt)
  have HX1 := Lib.hid (HX0.out.below hb1 HX0.out.lt)
  have HB1 := Lib.hid (HA0.out.trans (hb1.mono HA0.out.size))
  have hRl := hr1.lt
  clear hb1 hR
  go_wp2_with (fail)
  refine kDoing (l20Doing_any R 0 2 _ hr1 (by omega) (by omega)) ?_
  intro pts A n c xs now D m d ds w2 hp hnc hmd hrow hti hA hD hm
  have HQ2 := Lib.hid (show Blk w2 w.heap.size 25 #[.int .i64 0, .slice none 0 0] from (hm.1.block _ HQ1.out.lt (fun e => by have := Option.some.inj e; omega)).trans HQ1.out)
  have HX2 := Lib.hid (show Blk w2 (w.heap.size + 1) 28 #[.int .i64 0, .slice none 0 0] from (hm.1.block _ HX1.out.lt (fun e => by have := Option.some.inj e; omega)).trans HX1.out)
  have HB := Lib.hid (hm.below_of HB1.out (by omega))
  have HRW := Lib.hid hrow
  have HTI := Lib.hid hti
  have HAA := Lib.hid hA
  have HDD := Lib.hid hD
  have q0 := (HQ2.out.cell 0).trans rfl
  have q1 := (HQ2.out.cell 1).trans rfl
  have qf0 := HQ2.out.frozen 0
  have qf1 := HQ2.out.frozen 1
  have x0 := (HX2.out.cell 0).trans rfl
  have x1 := (HX2.out.cell 1).trans rfl
  have xf0 := HX2.out.frozen 0
  have xf1 := HX2.out.frozen 1
  clear hrow hti hA hD hm
  go_wp2_with (fail)
  refine bodyPost_ret (v := .tuple #[.agg #[.int .i64 pts, .slice A n c], .agg #[.int .i64 now, .slice D m d]]) (by simp [results, Try.results11, go_sem, q0, q1, x0, x1]) rfl ⟨pts, A, n, c, xs, now, D, m, d, ds, rfl, hnc, hmd, ?_, ?_, ?_⟩
  · exact (((HRW.out.setCell (q := ⟨w.heap.size, 0, none⟩) (fun a ha => by have := (HAA.out a ha).1; simp; omega) _).setCell (q := ⟨w.heap.size, 1, none⟩) (fun a ha => by have := (HAA.out a ha).1; simp; omega) _).setCell (q := ⟨w.heap.size + 1, 0, none⟩) (fun a ha => by have := (HAA.out a ha).1; simp; omega) _).setCell (q := ⟨w.heap.size + 1, 1, none⟩) (fun a ha => by have := (HAA.out a ha).1; simp; omega) _
  · exact (((HTI.out.setCell (q := ⟨w.heap.size, 0, none⟩) (fun a ha => by have := (HDD.out a ha).1; simp; omega) _).setCell (q := ⟨w.heap.size, 1, none⟩) (fun a ha => by have := (HDD.out a ha).1; simp; omega) _).setCell (q := ⟨w.heap.size + 1, 0, none⟩) (fun a ha => by have := (HDD.out a ha).1; simp; omega) _).setCell (q := ⟨w.heap.size + 1, 1, none⟩) (fun a ha => by have := (HDD.out a ha).1; simp; omega) _
  · exact (((HB.out.setCell (by simp <;> omega) _).setCell (by simp <;> omega) _).setCell (by simp <;> omega) _).setCell (by simp <;> omega) _

set_option maxHeartbeats 1000000 in
theorem DrawDeadlineOf_any (A : Option Addr) (n c : Nat) (w : World) (h : BytsAt w w.heap.size A n) (hn : n ≤ 9223372036854775807) (hc : n ≤ c) :
    Calls Try.prog 27 #[.slice A n c] w (DState w) := by
  have hA0 : Below w.heap.size w ((w.alloc (.cells #[.int .i64 0, .slice none 0 0] 25)).alloc (.cells #[.int .i64 0, .slice none 0 0] 28)) := ((Below.refl w.heap.size w).alloc (Nat.le_refl _) _).alloc (by simp) _
  have HQ0 := Lib.hid ((Blk.new w 25 #[.int .i64 0, .slice none 0 0]).below ((Below.refl _ _).alloc (Nat.le_refl _) (.cells #[.int .i64 0, .slice none 0 0] 28)) (Blk.new w _ _).lt)
  have HX0 := Lib.hid (show Blk ((w.alloc (.cells #[.int .i64 0, .slice none 0 0] 25)).alloc (.cells #[.int .i64 0, .slice none 0 0] 28)) (w.heap.size + 1) 28 #[.int .i64 0, .slice none 0 0] from Blk.at_new (by simp) _ _)
  have HA0 := Lib.hid hA0
  have HBY := Lib.hid ((h.keep (w' := (w.alloc (.cells #[.int .i64 0, .slice none 0 0] 25)).alloc (.cells #[.int .i64 0, .slice none 0 0] 28)) (fun b hb => hA0.block b hb)).older (R' := ((w.alloc (.cells #[.int .i64 0, .slice none 0 0] 25)).alloc (.cells #[.int .i64 0, .slice none 0 0] 28)).heap.size) hA0.size)
  clear hA0 h
  go_enter Try.func27, Try.ntmps27
  go_wp2_with (fail)
  refine kOpen (open_any A n c _ HBY.out hn hc) ?_
  intro R w1 hR hr1 hb1
  have hR2 : w.heap.size + 1 < R := by have := hR; simp at this; omega
  have HQ1 := Lib.hid (HQ0.out.below hb1 HQ0.out.lt)
  have HX1 := Lib.hid (HX0.out.below hb1 HX0.out.lt)
  have HB1 := Lib.hid (HA0.out.trans (hb1.mono HA0.out.size))
  have hRl := hr1.lt
  clear hb1 hR
  go_wp2_with (fail)
  refine kDoing (l20Doing_any R 0 6 _ hr1 (by omega) (by omega)) ?_
  intro pts A n c xs now D m d ds w2 hp hnc hmd hrow hti hA hD hm
  have HQ2 := Lib.hid (show Blk w2 w.heap.size 25 #[.int .i64 0, .slice none 0 0] from (hm.1.block _ HQ1.out.lt (fun e => by have := Option.some.inj e; omega)).trans HQ1.out)
  have HX2 := Lib.hid (show Blk w2 (w.heap.size + 1) 28 #[.int .i64 0, .slice none 0 0] from (hm.1.block _ HX1.out.lt (fun e => by have := Option.some.inj e; omega)).trans HX1.out)
  have HB := Lib.hid (hm.below_of HB1.out (by omega))
  have HRW := Lib.hid hrow
  have HTI := Lib.hid hti
  have HAA := Lib.hid hA
  have HDD := Lib.hid hD
  have q0 := (HQ2.out.cell 0).trans rfl
  have q1 := (HQ2.out.cell 1).trans rfl
  have qf0 := HQ2.out.frozen 0
  have qf1 := HQ2.out.frozen 1
  have x0 := (HX2.out.cell 0).trans rfl
  have x1 := (HX2.out.cell 1).trans rfl
  have xf0 := HX2.out.frozen 0
  have xf1 := HX2.out.frozen 1
  clear hrow hti hA hD hm
  go_wp2_with (fail)
  refine bodyPost_ret (v := .tuple #[.agg #[.int .i64 pts, .slice A n c], .agg #[.int .i64 now, .slice D m d]]) (by simp [results, Try.results27, go_sem, q0, q1, x0, x1]) rfl ⟨pts, A, n, c, xs, now, D, m, d, ds, rfl, hnc, hmd, ?_, ?_, ?_⟩
  · exact (((HRW.out.setCell (q := ⟨w.heap.size, 0, none⟩) (fun a ha => by have := (HAA.out a ha).1; simp; omega) _).setCell (q := ⟨w.heap.size, 1, none⟩) (fun a ha => by have := (HAA.out a ha).1; simp; omega) _).setCell (q := ⟨w.heap.size + 1, 0, none⟩) (fun a ha => by have := (HAA.out a ha).1; simp; omega) _).setCell (q := ⟨w.heap.size + 1, 1, none⟩) (fun a ha => by have := (HAA.out a ha).1; simp; omega) _
  · exact (((HTI.out.setCell (q := ⟨w.heap.size, 0, none⟩) (fun a ha => by have := (HDD.out a ha).1; simp; omega) _).setCell (q := ⟨w.heap.size, 1, none⟩) (fun a ha => by have := (HDD.out a ha).1; simp; omega) _).setCell (q := ⟨w.heap.size + 1, 0, none⟩) (fun a ha => by have := (HDD.out a ha).1; simp; omega) _).setCell (q := ⟨w.heap.size + 1, 1, none⟩) (fun a ha => by have := (HDD.out a ha).1; simp; omega) _
  · exact (((HB.out.setCell (by simp <;> omega) _).setCell (by simp <;> omega) _).setCell (by simp <;> omega) _).setCell (by simp <;> omega) _

set_option maxHeartbeats 1000000 in
theorem DrawGoesOnOk_any (A : Option Addr) (n c : Nat) (w : World) (h : BytsAt w w.heap.size A n) (hn : n ≤ 9223372036854775807) (hc : n ≤ c) :
    Calls Try.prog 34 #[.slice A n c] w (DState w) := by
  have hA0 : Below w.heap.size w ((w.alloc (.cells #[.int .i64 0, .slice none 0 0] 25)).alloc (.cells #[.int .i64 0, .slice none 0 0] 28)) := ((Below.refl w.heap.size w).alloc (Nat.le_refl _) _).alloc (by simp) _
  have HQ0 := Lib.hid ((Blk.new w 25 #[.int .i64 0, .slice none 0 0]).below ((Below.refl _ _).alloc (Nat.le_refl _) (.cells #[.int .i64 0, .slice none 0 0] 28)) (Blk.new w _ _).lt)
  have HX0 := Lib.hid (show Blk ((w.alloc (.cells #[.int .i64 0, .slice none 0 0] 25)).alloc (.cells #[.int .i64 0, .slice none 0 0] 28)) (w.heap.size + 1) 28 #[.int .i64 0, .slice none 0 0] from Blk.at_new (by simp) _ _)
  have HA0 := Lib.hid hA0
  have HBY := Lib.hid ((h.keep (w' := (w.alloc (.cells #[.int .i64 0, .slice none 0 0] 25)).alloc (.cells #[.int .i64 0, .slice none 0 0] 28)) (fun b hb => hA0.block b hb)).older (R' := ((w.alloc (.cells #[.int .i64 0, .slice none 0 0] 25)).alloc (.cells #[.int .i64 0, .slice none 0 0] 28)).heap.size) hA0.size)
  clear hA0 h
  go_enter Try.func34, Try.ntmps34
  go_wp2_with (fail)
  refine kOpen (open_any A n c _ HBY.out hn hc) ?_
  intro R w1 hR hr1 hb1
  have hR2 : w.heap.size + 1 < R := by have := hR; simp at this; omega
  have HQ1 := Lib.hid (HQ0.out.below hb1 HQ0.out.lt)
  have HX1 := Lib.hid (HX0.out.below hb1 HX0.out.lt)
  have HB1 := Lib.hid (HA0.out.trans (hb1.mono HA0.out.size))
  have hRl := hr1.lt
  clear hb1 hR
  go_wp2_with (fail)
  refine kDoing (l20Doing_any R 0 5 _ hr1 (by omega) (by omega)) ?_
  intro pts A n c xs now D m d ds w2 hp hnc hmd hrow hti hA hD hm
  have HQ2 := Lib.hid (show Blk w2 w.heap.size 25 #[.int .i64 0, .slice none 0 0] from (hm.1.block _ HQ1.out.lt (fun e => by have := Option.some.inj e; omega)).trans HQ1.out)
  have HX2 := Lib.hid (show Blk w2 (w.heap.size + 1) 28 #[.int .i64 0, .slice none 0 0] from (hm.1.block _ HX1.out.lt (fun e => by have := Option.some.inj e; omega)).trans HX1.out)
  have HB := Lib.hid (hm.below_of HB1.out (by omega))
  have HRW := Lib.hid hrow
  have HTI := Lib.hid hti
  have HAA := Lib.hid hA
  have HDD := Lib.hid hD
  have q0 := (HQ2.out.cell 0).trans rfl
  have q1 := (HQ2.out.cell 1).trans rfl
  have qf0 := HQ2.out.frozen 0
  have qf1 := HQ2.out.frozen 1
  have x0 := (HX2.out.cell 0).trans rfl
  have x1 := (HX2.out.cell 1).trans rfl
  have xf0 := HX2.out.frozen 0
  have xf1 := HX2.out.frozen 1
  clear hrow hti hA hD hm
  go_wp2_with (fail)
  refine bodyPost_ret (v := .tuple #[.agg #[.int .i64 pts, .slice A n c], .agg #[.int .i64 now, .slice D m d]]) (by simp [results, Try.results34, go_sem, q0, q1, x0, x1]) rfl ⟨pts, A, n, c, xs, now, D, m, d, ds, rfl, hnc, hmd, ?_, ?_, ?_⟩
  · exact (((HRW.out.setCell (q := ⟨w.heap.size, 0, none⟩) (fun a ha => by have := (HAA.out a ha).1; simp; omega) _).setCell (q := ⟨w.heap.size, 1, none⟩) (fun a ha => by have := (HAA.out a ha).1; simp; omega) _).setCell (q := ⟨w.heap.size + 1, 0, none⟩) (fun a ha => by have := (HAA.out a ha).1; simp; omega) _).setCell (q := ⟨w.heap.size + 1, 1, none⟩) (fun a ha => by have := (HAA.out a ha).1; simp; omega) _
  · exact (((HTI.out.setCell (q := ⟨w.heap.size, 0, none⟩) (fun a ha => by have := (HDD.out a ha).1; simp; omega) _).setCell (q := ⟨w.heap.size, 1, none⟩) (fun a ha => by have := (HDD.out a ha).1; simp; omega) _).setCell (q := ⟨w.heap.size + 1, 0, none⟩) (fun a ha => by have := (HDD.out a ha).1; simp; omega) _).setCell (q := ⟨w.heap.size + 1, 1, none⟩) (fun a ha => by have := (HDD.out a ha).1; simp; omega) _
  · exact (((HB.out.setCell (by simp <;> omega) _).setCell (by simp <;> omega) _).setCell (by simp <;> omega) _).setCell (by simp <;> omega) _

/-- The plan and the state in their boxes, the results' boxes. -/
structure PMat (w : World) (R Q P : Nat) (pts : Int) (A : Option Addr) (n c : Nat) (xs : List Bd) (now : Int) (D : Option Addr) (m d : Nat) (ds : List Int) : Prop where
  lt : Q + 1 < P
  rq : R < Q
  pb : Blk w P 25 #[.int .i64 pts, .slice A n c]
  sb : Blk w (P + 1) 28 #[.int .i64 now, .slice D m d]
  qb : Blk w Q 25 #[.int .i64 0, .slice none 0 0]
  xb : Blk w (Q + 1) 28 #[.int .i64 0, .slice none 0 0]
  row : BndsAt w A n xs
  tim : IntsAt w D m ds
  ap : ∀ a, A = some a → Q + 1 < a.block ∧ a.block < P
  dp : ∀ a, D = some a → Q + 1 < a.block ∧ a.block < P
section
variable {w w' : World} {R Q P n c m d : Nat} {pts now B : Int} {A D : Option Addr} {xs : List Bd} {ds : List Int}
theorem PMat.mv (h : PMat w R Q P pts A n c xs now D m d ds) (hm : Mv R B w w') : PMat w' R Q P pts A n c xs now D m d ds := by
  have h1 := h.lt
  have h2 := h.rq
  have h3 := h.pb.lt
  have h4 := h.sb.lt
  have hk : ∀ b, b ≠ R → b < w.heap.size → w'.heap[b]? = w.heap[b]? := fun b hb hl => hm.1.block b hl (fun e => hb (Option.some.inj e))
  exact ⟨h1, h2, (hk P (by omega) h3).trans h.pb, (hk (P + 1) (by omega) h4).trans h.sb, (hk Q (by omega) (by omega)).trans h.qb, (hk (Q + 1) (by omega) (by omega)).trans h.xb, h.row.mvR (fun a ha => by have := h.ap a ha; exact ⟨by omega, by omega⟩) hm, h.tim.mvR (fun a ha => by have := h.dp a ha; exact ⟨by omega, by omega⟩) hm, h.ap, h.dp⟩
theorem PMat.drew (h : PMat w R Q P pts A n c xs now D m d ds) : PMat w.drew R Q P pts A n c xs now D m d ds := ⟨h.lt, h.rq, h.pb, h.sb, h.qb, h.xb, h.row.drewN 1, h.tim.drewN 1, h.ap, h.dp⟩
theorem PMat.cells (h : PMat w R Q P pts A n c xs now D m d ds) : w.cell? ⟨P, 0, none⟩ = some (.int .i64 pts) ∧ w.cell? ⟨P, 1, none⟩ = some (.slice A n c) ∧ w.cell? ⟨P + 1, 0, none⟩ = some (.int .i64 now) ∧ w.cell? ⟨P + 1, 1, none⟩ = some (.slice D m d) :=
  ⟨(h.pb.cell 0).trans rfl, (h.pb.cell 1).trans rfl, (h.sb.cell 0).trans rfl, (h.sb.cell 1).trans rfl⟩
theorem PMat.outs (h : PMat w R Q P pts A n c xs now D m d ds) : w.cell? ⟨Q, 0, none⟩ = some (.int .i64 0) ∧ w.cell? ⟨Q, 1, none⟩ = some (.slice none 0 0) ∧ w.frozen? ⟨Q, 0, none⟩ = false ∧ w.frozen? ⟨Q, 1, none⟩ = false ∧ w.cell? ⟨Q + 1, 0, none⟩ = some (.int .i64 0) ∧ w.cell? ⟨Q + 1, 1, none⟩ = some (.slice none 0 0) ∧ w.frozen? ⟨Q + 1, 0, none⟩ = false ∧ w.frozen? ⟨Q + 1, 1, none⟩ = false ∧ Q + 1 < w.heap.size :=
  ⟨(h.qb.cell 0).trans rfl, (h.qb.cell 1).trans rfl, h.qb.frozen 0, h.qb.frozen 1, (h.xb.cell 0).trans rfl, (h.xb.cell 1).trans rfl, h.xb.frozen 0, h.xb.frozen 1, h.xb.lt⟩
end
set_option maxRecDepth 100000 in
set_option maxHeartbeats 4000000 in
theorem l20Point_any (R : Nat) (B : Int) (w : World) (h : Rd w R B) (hB : B ≤ 900000000) :
    Calls Try.prog 48 #[.pointer (some ⟨R, 0, none⟩)] w (PointMade R B w) := by
  have hR := h.lt
  have HQ0 := Lib.hid (show Blk ((w.alloc (.cells #[.int .i64 0, .slice none 0 0] 25)).alloc (.cells #[.int .i64 0, .slice none 0 0] 28)) w.heap.size 25 #[.int .i64 0, .slice none 0 0] from (Blk.new w _ _).below ((Below.refl _ _).alloc (Nat.le_refl _) _) (Blk.new w _ _).lt)
  have HX0 := Lib.hid (show Blk ((w.alloc (.cells #[.int .i64 0, .slice none 0 0] 25)).alloc (.cells #[.int .i64 0, .slice none 0 0] 28)) (w.heap.size + 1) 28 #[.int .i64 0, .slice none 0 0] from Blk.at_new (by simp) _ _)
  have HM0 := Lib.hid (show Mv R B w ((w.alloc (.cells #[.int .i64 0, .slice none 0 0] 25)).alloc (.cells #[.int .i64 0, .slice none 0 0] 28)) from ⟨grown_of_below (((Below.refl _ _).alloc (Nat.le_refl _) _).alloc (by simp) _) _, (h.alloc _).alloc _⟩)
  clear h
  go_enter Try.func48, Try.ntmps48
  go_wp2_with (fail)
  refine kDoing (l20Doing_any R B 6 _ HM0.out.2 hB (by omega)) ?_
  intro pts A n c xs now D m d ds w2 hp hnc hmd hrow hti hA hD hm
  obtain ⟨Q, HQQ⟩ : ∃ q, Hid (w.heap.size = q) := ⟨_, rfl⟩
  have hRQ : R < Q := by have := HQQ.out; omega
  have hQ2 : Blk w2 Q 25 #[.int .i64 0, .slice none 0 0] := HQQ.out ▸ (hm.1.block _ HQ0.out.lt (fun e => by have := Option.some.inj e; omega)).trans HQ0.out
  have hX2 : Blk w2 (Q + 1) 28 #[.int .i64 0, .slice none 0 0] := HQQ.out ▸ (hm.1.block _ HX0.out.lt (fun e => by have := Option.some.inj e; omega)).trans HX0.out
  have hM2 := HM0.out.trans hm
  obtain ⟨w3, HW3⟩ : ∃ q, Hid ((w2.alloc (.cells #[.int .i64 pts, .slice A n c] 25)).alloc (.cells #[.int .i64 now, .slice D m d] 28) = q) := ⟨_, rfl⟩
  have hb3 : Below w2.heap.size w2 w3 := HW3.out ▸ ((Below.refl _ _).alloc (Nat.le_refl _) _).alloc (by simp) _
  have HP3 := Lib.hid (show PMat w3 R Q w2.heap.size pts A n c xs now D m d ds from ⟨hX2.lt, hRQ, HW3.out ▸ (Blk.new w2 _ _).below ((Below.refl _ _).alloc (Nat.le_refl _) _) (Blk.new w2 _ _).lt, HW3.out ▸ Blk.at_new (by simp) _ _, hQ2.below hb3 hQ2.lt, hX2.below hb3 hX2.lt, hrow.below hb3, hti.below hb3, fun a ha => by have h1 := hA a ha; have := HQQ.out; simp at h1; exact ⟨by omega, h1.2⟩, fun a ha => by have h1 := hD a ha; have := HQQ.out; simp at h1; exact ⟨by omega, h1.2⟩⟩)
  have HM3 := Lib.hid (hM2.below hb3)
  clear hrow hti hA hD hm hQ2 hX2 hM2 hb3 HQ0 HX0 HM0 hp
  go_wp2_with (fail)
  rw [HW3.out]
  rw [HQQ.out]
  obtain ⟨P, HPP⟩ : ∃ q, Hid (w2.heap.size = q) := ⟨_, rfl⟩
  rw [HPP.out] at HP3 ⊢
  have HEND := Lib.hid (show ∀ (wz : World) (i : Int), PMat wz R Q P pts A n c xs now D m d ds → Mv R (B + 300) w wz → PointMade R B w (.returned (.tuple #[.agg #[.int .i64 pts, .slice A n c], .agg #[.int .i64 now, .slice D m d], .int .i64 i])) ((((wz.setCell ⟨Q, 0, none⟩ (.int .i64 pts)).setCell ⟨Q, 1, none⟩ (.slice A n c)).setCell ⟨Q + 1, 0, none⟩ (.int .i64 now)).setCell ⟨Q + 1, 1, none⟩ (.slice D m d)) from fun wz i hp hm => by
    have hq := HQQ.out
    have hpl := hp.pb.lt
    refine ⟨pts, A, n, c, xs, now, D, m, d, ds, i, rfl, hnc, hmd, ?_, ?_, fun a ha => ?_, fun a ha => ?_, ?_⟩
    · exact (((hp.row.setCell (q := ⟨Q, 0, none⟩) (fun a ha => by have := (hp.ap a ha).1; simp; omega) _).setCell (q := ⟨Q, 1, none⟩) (fun a ha => by have := (hp.ap a ha).1; simp; omega) _).setCell (q := ⟨Q + 1, 0, none⟩) (fun a ha => by have := (hp.ap a ha).1; simp; omega) _).setCell (q := ⟨Q + 1, 1, none⟩) (fun a ha => by have := (hp.ap a ha).1; simp; omega) _
    · exact (((hp.tim.setCell (q := ⟨Q, 0, none⟩) (fun a ha => by have := (hp.dp a ha).1; simp; omega) _).setCell (q := ⟨Q, 1, none⟩) (fun a ha => by have := (hp.dp a ha).1; simp; omega) _).setCell (q := ⟨Q + 1, 0, none⟩) (fun a ha => by have := (hp.dp a ha).1; simp; omega) _).setCell (q := ⟨Q + 1, 1, none⟩) (fun a ha => by have := (hp.dp a ha).1; simp; omega) _
    · have h5 := hp.ap a ha; exact ⟨by omega, by simp [World.setCell]; omega⟩
    · have h5 := hp.dp a ha; exact ⟨by omega, by simp [World.setCell]; omega⟩
    · exact (((hm.setNew (P := Q) (by omega) hR 0 _).setNew (P := Q) (by omega) hR 1 _).setNew (P := Q + 1) (by omega) hR 0 _).setNew (P := Q + 1) (by omega) hR 1 _)
  have S3 := HP3.out.cells
  refine wp_region_held_drew (S := (fun w' => w'.cell? ⟨P, 0, none⟩ = some (.int .i64 pts) ∧ w'.cell? ⟨P, 1, none⟩ = some (.slice A n c) ∧ w'.cell? ⟨P + 1, 0, none⟩ = some (.int .i64 now) ∧ w'.cell? ⟨P + 1, 1, none⟩ = some (.slice D m d))) (by kernel_rfl) ?_ (fun hHeld => ?_)
  · exact S3
  refine wpAnyH_take (i := 0) (oi := _) (v := ?_) rfl (by kernel_rfl) (by kernel_rfl) (by kernel_rfl) (fun _ _ _ h => h) (Or.inl ⟨by kernel_rfl, ?_⟩) (by assumption) ?_
  rotate_left
  · (intro w hSw; (try dsimp only at hSw); go_simp; (try with_reducible rfl))
  try simp only [Act.put, List.getElem_toArray, List.getElem_cons_succ, List.getElem_cons_zero, List.setIfInBounds_toArray, List.set_cons_zero, List.set_cons_succ]
  refine wpAnyH_take (i := 1) (oi := _) (v := ?_) rfl (by kernel_rfl) (by kernel_rfl) (by kernel_rfl) (fun _ _ _ h => h) (Or.inl ⟨by kernel_rfl, ?_⟩) (by assumption) ?_
  rotate_left
  · (intro w hSw; (try dsimp only at hSw); go_simp; (try with_reducible rfl))
  try simp only [Act.put, List.getElem_toArray, List.getElem_cons_succ, List.getElem_cons_zero, List.setIfInBounds_toArray, List.set_cons_zero, List.set_cons_succ]
  refine wpAnyH_take (i := 2) (oi := _) (v := ?_) rfl (by kernel_rfl) (by kernel_rfl) (by kernel_rfl) (fun _ _ _ h => h) (Or.inl ⟨by kernel_rfl, ?_⟩) (by assumption) ?_
  rotate_left
  · (intro w hSw; (try dsimp only at hSw); go_simp; (try with_reducible rfl))
  try simp only [Act.put, List.getElem_toArray, List.getElem_cons_succ, List.getElem_cons_zero, List.setIfInBounds_toArray, List.set_cons_zero, List.set_cons_succ]
  refine wpAnyH_take (i := 3) (oi := _) (v := ?_) rfl (by kernel_rfl) (by kernel_rfl) (by kernel_rfl) (fun _ _ _ h => h) (Or.inl ⟨by kernel_rfl, ?_⟩) (by assumption) ?_
  rotate_left
  · (intro w hSw; (try dsimp only at hSw); go_simp; (try with_reducible rfl))
  try simp only [Act.put, List.getElem_toArray, List.getElem_cons_succ, List.getElem_cons_zero, List.setIfInBounds_toArray, List.set_cons_zero, List.set_cons_succ]
  refine wpAnyH_take (i := 4) (oi := _) (v := ?_) rfl (by kernel_rfl) (by kernel_rfl) (by kernel_rfl) (fun _ _ _ h => h) (Or.inl ⟨by kernel_rfl, ?_⟩) (by assumption) ?_
  rotate_left
  · (intro w hSw; (try dsimp only at hSw); go_simp; (try with_reducible rfl))
  try simp only [Act.put, List.getElem_toArray, List.getElem_cons_succ, List.getElem_cons_zero, List.setIfInBounds_toArray, List.set_cons_zero, List.set_cons_succ]
  refine wpAnyH_take (i := 5) (oi := _) (v := ?_) rfl (by kernel_rfl) (by kernel_rfl) (by kernel_rfl) (fun _ _ _ h => h) (Or.inl ⟨by kernel_rfl, ?_⟩) (by assumption) ?_
  rotate_left
  · (intro w hSw; (try dsimp only at hSw); go_simp; (try with_reducible rfl))
  try simp only [Act.put, List.getElem_toArray, List.getElem_cons_succ, List.getElem_cons_zero, List.setIfInBounds_toArray, List.set_cons_zero, List.set_cons_succ]
  refine wpAnyH_take (i := 7) (oi := _) (v := ?_) rfl (by kernel_rfl) (by kernel_rfl) (by kernel_rfl) (fun _ _ _ h => h) (Or.inl ⟨by kernel_rfl, ?_⟩) (by assumption) ?_
  rotate_left
  · (intro w hSw; (try dsimp only at hSw); go_simp; (try with_reducible rfl))
  try simp only [Act.put, List.getElem_toArray, List.getElem_cons_succ, List.getElem_cons_zero, List.setIfInBounds_toArray, List.set_cons_zero, List.set_cons_succ]
  refine wpAnyH_ready (rs := [6]) (by kernel_rfl) (by simp) ?_
  refine AllReadyH.cons (o := _) rfl (fun K hK => ?_) (AllReadyH.nil)
  go_simp
  go_at_call 73; with_reducible refine kPick (pick_any R _ _ _ (Mv.rdDr HM3.out) (by omega)) ?_
  intro x w4 hq1 hq2 hm4 hs4
  have HM4 := Lib.hid (Mv.trans (Mv.drewDr HM3.out) hm4)
  have HP4 := Lib.hid (PMat.mv (PMat.drew HP3.out) hm4)
  have S4 := HP4.out.cells
  clear hq1 hq2 hm4 hs4
  go_wp2_with fail
  refine hK.out _ _ ?_ (fun hHeld => ?_)
  · exact S4
  clear hK K
  try simp only [Act.put, List.getElem_toArray, List.getElem_cons_succ, List.getElem_cons_zero, List.setIfInBounds_toArray, List.set_cons_zero, List.set_cons_succ]
  refine wpAnyH_ready (rs := [8]) (by kernel_rfl) (by simp) ?_
  refine AllReadyH.cons (o := _) rfl (fun K hK => ?_) (AllReadyH.nil)
  go_simp
  go_at_call 73; with_reducible refine kPick (pick_any R _ 40 _ (Mv.rdOf HM4.out) (by omega)) ?_
  intro y w5 hq1 hq2 hm5 hs5
  have HM5 := Lib.hid (Mv.trans HM4.out hm5)
  have HP5 := Lib.hid (PMat.mv HP4.out hm5)
  have S5 := HP5.out.cells
  clear hq1 hq2 hm5 hs5
  go_wp2_with fail
  refine hK.out _ _ ?_ (fun hHeld => ?_)
  · exact S5
  clear hK K
  try simp only [Act.put, List.getElem_toArray, List.getElem_cons_succ, List.getElem_cons_zero, List.setIfInBounds_toArray, List.set_cons_zero, List.set_cons_succ]
  obtain ⟨t0, t1, s0, s1⟩ := S5
  obtain ⟨q0, q1, qf0, qf1, x0, x1, xf0, xf1, hxl⟩ := HP5.out.outs
  have hql : Q < w5.heap.size := by omega
  have hqp := HP5.out.lt
  refine wpAnyH_take (i := 9) (oi := _) (v := ?_) rfl (by kernel_rfl) (by kernel_rfl) (by kernel_rfl) (fun _ _ _ h => h) (Or.inl ⟨by kernel_rfl, ?_⟩) (by assumption) ?_
  rotate_left
  · (intro w hSw; (try dsimp only at hSw); go_simp; (try with_reducible rfl))
  try simp only [Act.put, List.getElem_toArray, List.getElem_cons_succ, List.getElem_cons_zero, List.setIfInBounds_toArray, List.set_cons_zero, List.set_cons_succ]
  refine wpAnyH_take (i := 10) (oi := _) (v := ?_) rfl (by kernel_rfl) (by kernel_rfl) (by kernel_rfl) (fun _ _ _ h => h) (Or.inl ⟨by kernel_rfl, ?_⟩) (by assumption) ?_
  rotate_left
  · (intro w hSw; (try dsimp only at hSw); go_simp; (try with_reducible rfl))
  try simp only [Act.put, List.getElem_toArray, List.getElem_cons_succ, List.getElem_cons_zero, List.setIfInBounds_toArray, List.set_cons_zero, List.set_cons_succ]
  refine wpAnyH_ready (rs := [11]) (by kernel_rfl) (by simp) ?_
  refine AllReadyH.cons (o := _) rfl (fun K hK => ?_) (AllReadyH.nil)
  go_simp
  refine hK.out _ _ ?_ (fun hHeld => ?_)
  · (refine ⟨?_, ?_, ?_, ?_⟩ <;> (try rw [drew_cell]) <;> (repeat rw [World.cell?_setCell_far _ _ _ _ (by simp <;> omega)]) <;> first | with_reducible exact t0 | with_reducible exact t1 | with_reducible exact s0 | with_reducible exact s1)
  clear hK K
  try simp only [Act.put, List.getElem_toArray, List.getElem_cons_succ, List.getElem_cons_zero, List.setIfInBounds_toArray, List.set_cons_zero, List.set_cons_succ]
  refine wpAnyH_ready (rs := [12]) (by kernel_rfl) (by simp) ?_
  refine AllReadyH.cons (o := _) rfl (fun K hK => ?_) (AllReadyH.nil)
  go_simp
  refine hK.out _ _ ?_ (fun hHeld => ?_)
  · (refine ⟨?_, ?_, ?_, ?_⟩ <;> (try rw [drew_cell]) <;> (repeat rw [World.cell?_setCell_far _ _ _ _ (by simp <;> omega)]) <;> first | with_reducible exact t0 | with_reducible exact t1 | with_reducible exact s0 | with_reducible exact s1)
  clear hK K
  try simp only [Act.put, List.getElem_toArray, List.getElem_cons_succ, List.getElem_cons_zero, List.setIfInBounds_toArray, List.set_cons_zero, List.set_cons_succ]
  refine wpAnyH_take (i := 13) (oi := _) (v := ?_) rfl (by kernel_rfl) (by kernel_rfl) (by kernel_rfl) (fun _ _ _ h => h) (Or.inl ⟨by kernel_rfl, ?_⟩) (by assumption) ?_
  rotate_left
  · (intro w hSw; (try dsimp only at hSw); go_simp; (try with_reducible rfl))
  try simp only [Act.put, List.getElem_toArray, List.getElem_cons_succ, List.getElem_cons_zero, List.setIfInBounds_toArray, List.set_cons_zero, List.set_cons_succ]
  refine wpAnyH_done (by kernel_rfl) ?_ _
  go_wp2_with (fail)
  refine bodyPost_ret (v := .tuple #[.agg #[.int .i64 pts, .slice A n c], .agg #[.int .i64 now, .slice D m d], .int .i64 _]) (by simp [results, Try.results48, go_sem, q0, q1, x0, x1, hql, hxl]; rfl) rfl ?_
  exact HEND.out w5 _ HP5.out (HM5.out.mono (by omega))

set_option maxHeartbeats 1000000 in
theorem DrawWindowOf_any (A : Option Addr) (n c : Nat) (w : World) (h : BytsAt w w.heap.size A n) (hn : n ≤ 9223372036854775807) (hc : n ≤ c) :
    Calls Try.prog 23 #[.slice A n c] w (DPoint w) := by
  have hA0 : Below w.heap.size w ((w.alloc (.cells #[.int .i64 0, .slice none 0 0] 25)).alloc (.cells #[.int .i64 0, .slice none 0 0] 28)) := ((Below.refl w.heap.size w).alloc (Nat.le_refl _) _).alloc (by simp) _
  have HQ0 := Lib.hid ((Blk.new w 25 #[.int .i64 0, .slice none 0 0]).below ((Below.refl _ _).alloc (Nat.le_refl _) (.cells #[.int .i64 0, .slice none 0 0] 28)) (Blk.new w _ _).lt)
  have HX0 := Lib.hid (show Blk ((w.alloc (.cells #[.int .i64 0, .slice none 0 0] 25)).alloc (.cells #[.int .i64 0, .slice none 0 0] 28)) (w.heap.size + 1) 28 #[.int .i64 0, .slice none 0 0] from Blk.at_new (by simp) _ _)
  have HA0 := Lib.hid hA0
  have HBY := Lib.hid ((h.keep (w' := (w.alloc (.cells #[.int .i64 0, .slice none 0 0] 25)).alloc (.cells #[.int .i64 0, .slice none 0 0] 28)) (fun b hb => hA0.block b hb)).older (R' := ((w.alloc (.cells #[.int .i64 0, .slice none 0 0] 25)).alloc (.cells #[.int .i64 0, .slice none 0 0] 28)).heap.size) hA0.size)
  clear hA0 h
  go_enter Try.func23, Try.ntmps23
  go_wp2_with (fail)
  refine kOpen (open_any A n c _ HBY.out hn hc) ?_
  intro R w1 hR hr1 hb1
  have hR2 : w.heap.size + 1 < R := by have := hR; simp at this; omega
  have HQ1 := Lib.hid (HQ0.out.below hb1 HQ0.out.lt)
  have HX1 := Lib.hid (HX0.out.below hb1 HX0.out.lt)
  have HB1 := Lib.hid (HA0.out.trans (hb1.mono HA0.out.size))
  have hRl := hr1.lt
  clear hb1 hR
  go_wp2_with (fail)
  refine kPointMade (l20Point_any R 0 _ hr1 (by omega)) ?_
  intro pts A n c xs now D m d ds i w2 hnc hmd hrow hti hA hD hm
  have HQ2 := Lib.hid (show Blk w2 w.heap.size 25 #[.int .i64 0, .slice none 0 0] from (hm.1.block _ HQ1.out.lt (fun e => by have := Option.some.inj e; omega)).trans HQ1.out)
  have HX2 := Lib.hid (show Blk w2 (w.heap.size + 1) 28 #[.int .i64 0, .slice none 0 0] from (hm.1.block _ HX1.out.lt (fun e => by have := Option.some.inj e; omega)).trans HX1.out)
  have HB := Lib.hid (hm.below_of HB1.out (by omega))
  have HRW := Lib.hid hrow
  have HTI := Lib.hid hti
  have HAA := Lib.hid hA
  have HDD := Lib.hid hD
  have q0 := (HQ2.out.cell 0).trans rfl
  have q1 := (HQ2.out.cell 1).trans rfl
  have qf0 := HQ2.out.frozen 0
  have qf1 := HQ2.out.frozen 1
  have x0 := (HX2.out.cell 0).trans rfl
  have x1 := (HX2.out.cell 1).trans rfl
  have xf0 := HX2.out.frozen 0
  have xf1 := HX2.out.frozen 1
  clear hrow hti hA hD hm
  go_wp2_with (fail)
  refine bodyPost_ret (v := .tuple #[.agg #[.int .i64 pts, .slice A n c], .agg #[.int .i64 now, .slice D m d], .int .i64 i]) (by simp [results, Try.results23, go_sem, q0, q1, x0, x1]) rfl ⟨pts, A, n, c, xs, now, D, m, d, ds, i, rfl, hnc, hmd, ?_, ?_, ?_⟩
  · exact (((HRW.out.setCell (q := ⟨w.heap.size, 0, none⟩) (fun a ha => by have := (HAA.out a ha).1; simp; omega) _).setCell (q := ⟨w.heap.size, 1, none⟩) (fun a ha => by have := (HAA.out a ha).1; simp; omega) _).setCell (q := ⟨w.heap.size + 1, 0, none⟩) (fun a ha => by have := (HAA.out a ha).1; simp; omega) _).setCell (q := ⟨w.heap.size + 1, 1, none⟩) (fun a ha => by have := (HAA.out a ha).1; simp; omega) _
  · exact (((HTI.out.setCell (q := ⟨w.heap.size, 0, none⟩) (fun a ha => by have := (HDD.out a ha).1; simp; omega) _).setCell (q := ⟨w.heap.size, 1, none⟩) (fun a ha => by have := (HDD.out a ha).1; simp; omega) _).setCell (q := ⟨w.heap.size + 1, 0, none⟩) (fun a ha => by have := (HDD.out a ha).1; simp; omega) _).setCell (q := ⟨w.heap.size + 1, 1, none⟩) (fun a ha => by have := (HDD.out a ha).1; simp; omega) _
  · exact (((HB.out.setCell (by simp <;> omega) _).setCell (by simp <;> omega) _).setCell (by simp <;> omega) _).setCell (by simp <;> omega) _

set_option maxHeartbeats 1000000 in
theorem DrawReadyOk_any (A : Option Addr) (n c : Nat) (w : World) (h : BytsAt w w.heap.size A n) (hn : n ≤ 9223372036854775807) (hc : n ≤ c) :
    Calls Try.prog 15 #[.slice A n c] w (DPoint w) := by
  have hA0 : Below w.heap.size w ((w.alloc (.cells #[.int .i64 0, .slice none 0 0] 25)).alloc (.cells #[.int .i64 0, .slice none 0 0] 28)) := ((Below.refl w.heap.size w).alloc (Nat.le_refl _) _).alloc (by simp) _
  have HQ0 := Lib.hid ((Blk.new w 25 #[.int .i64 0, .slice none 0 0]).below ((Below.refl _ _).alloc (Nat.le_refl _) (.cells #[.int .i64 0, .slice none 0 0] 28)) (Blk.new w _ _).lt)
  have HX0 := Lib.hid (show Blk ((w.alloc (.cells #[.int .i64 0, .slice none 0 0] 25)).alloc (.cells #[.int .i64 0, .slice none 0 0] 28)) (w.heap.size + 1) 28 #[.int .i64 0, .slice none 0 0] from Blk.at_new (by simp) _ _)
  have HA0 := Lib.hid hA0
  have HBY := Lib.hid ((h.keep (w' := (w.alloc (.cells #[.int .i64 0, .slice none 0 0] 25)).alloc (.cells #[.int .i64 0, .slice none 0 0] 28)) (fun b hb => hA0.block b hb)).older (R' := ((w.alloc (.cells #[.int .i64 0, .slice none 0 0] 25)).alloc (.cells #[.int .i64 0, .slice none 0 0] 28)).heap.size) hA0.size)
  clear hA0 h
  go_enter Try.func15, Try.ntmps15
  go_wp2_with (fail)
  refine kOpen (open_any A n c _ HBY.out hn hc) ?_
  intro R w1 hR hr1 hb1
  have hR2 : w.heap.size + 1 < R := by have := hR; simp at this; omega
  have HQ1 := Lib.hid (HQ0.out.below hb1 HQ0.out.lt)
  have HX1 := Lib.hid (HX0.out.below hb1 HX0.out.lt)
  have HB1 := Lib.hid (HA0.out.trans (hb1.mono HA0.out.size))
  have hRl := hr1.lt
  clear hb1 hR
  go_wp2_with (fail)
  refine kPointMade (l20Point_any R 0 _ hr1 (by omega)) ?_
  intro pts A n c xs now D m d ds i w2 hnc hmd hrow hti hA hD hm
  have HQ2 := Lib.hid (show Blk w2 w.heap.size 25 #[.int .i64 0, .slice none 0 0] from (hm.1.block _ HQ1.out.lt (fun e => by have := Option.some.inj e; omega)).trans HQ1.out)
  have HX2 := Lib.hid (show Blk w2 (w.heap.size + 1) 28 #[.int .i64 0, .slice none 0 0] from (hm.1.block _ HX1.out.lt (fun e => by have := Option.some.inj e; omega)).trans HX1.out)
  have HB := Lib.hid (hm.below_of HB1.out (by omega))
  have HRW := Lib.hid hrow
  have HTI := Lib.hid hti
  have HAA := Lib.hid hA
  have HDD := Lib.hid hD
  have q0 := (HQ2.out.cell 0).trans rfl
  have q1 := (HQ2.out.cell 1).trans rfl
  have qf0 := HQ2.out.frozen 0
  have qf1 := HQ2.out.frozen 1
  have x0 := (HX2.out.cell 0).trans rfl
  have x1 := (HX2.out.cell 1).trans rfl
  have xf0 := HX2.out.frozen 0
  have xf1 := HX2.out.frozen 1
  clear hrow hti hA hD hm
  go_wp2_with (fail)
  refine bodyPost_ret (v := .tuple #[.agg #[.int .i64 pts, .slice A n c], .agg #[.int .i64 now, .slice D m d], .int .i64 i]) (by simp [results, Try.results15, go_sem, q0, q1, x0, x1]) rfl ⟨pts, A, n, c, xs, now, D, m, d, ds, i, rfl, hnc, hmd, ?_, ?_, ?_⟩
  · exact (((HRW.out.setCell (q := ⟨w.heap.size, 0, none⟩) (fun a ha => by have := (HAA.out a ha).1; simp; omega) _).setCell (q := ⟨w.heap.size, 1, none⟩) (fun a ha => by have := (HAA.out a ha).1; simp; omega) _).setCell (q := ⟨w.heap.size + 1, 0, none⟩) (fun a ha => by have := (HAA.out a ha).1; simp; omega) _).setCell (q := ⟨w.heap.size + 1, 1, none⟩) (fun a ha => by have := (HAA.out a ha).1; simp; omega) _
  · exact (((HTI.out.setCell (q := ⟨w.heap.size, 0, none⟩) (fun a ha => by have := (HDD.out a ha).1; simp; omega) _).setCell (q := ⟨w.heap.size, 1, none⟩) (fun a ha => by have := (HDD.out a ha).1; simp; omega) _).setCell (q := ⟨w.heap.size + 1, 0, none⟩) (fun a ha => by have := (HDD.out a ha).1; simp; omega) _).setCell (q := ⟨w.heap.size + 1, 1, none⟩) (fun a ha => by have := (HDD.out a ha).1; simp; omega) _
  · exact (((HB.out.setCell (by simp <;> omega) _).setCell (by simp <;> omega) _).setCell (by simp <;> omega) _).setCell (by simp <;> omega) _

end Go.Proofs.Ytikapnphnkoelaa
