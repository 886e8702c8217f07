/- Draws of projects, begins and a time: spec.DrawBusyAt. -/
import Derived.Test.YtenhchfbmmlmmaaBG
import Derived.Deep.RegionHeldLaw
import Derived.Deep.DrawnRows
set_option linter.unusedSimpArgs false
set_option linter.unusedVariables false
namespace Go.Proofs.Ytenhchfbmmlmmaa
open Go.RowKit
attribute [local go_sem ↓] Go.wp_at_zero Go.wp_at_succ

theorem Mv.belowOf {R : Nat} {B : Int} {w0 w w1 : World} (h : Mv R B w w1) (hb : Below w0.heap.size w0 w) (hR : w0.heap.size ≤ R) : Below w0.heap.size w0 w1 :=
  ⟨h.1.os.trans hb.os, h.1.tape.trans hb.tape, h.1.output.trans hb.output, Nat.le_trans hb.size h.1.size, fun k hk => (h.1.block k (Nat.lt_of_lt_of_le hk hb.size) (fun e => by cases e; omega)).trans (hb.block k hk)⟩
def DBusy (w : World) (e : Ending) (w' : World) : Prop :=
  ∃ (A : Option Addr) (n c : Nat) (A' : Option Addr) (n' c' : Nat) (xs ys : List Int) (D : Option Addr) (m d : Nat) (bs : List Int) (t : Int), e = .returned (.tuple #[.agg #[.slice A n c, .slice A' n' c'], .slice D m d, .int .i64 t]) ∧ (n ≤ 10 ∧ n' ≤ 10 ∧ m ≤ 10) ∧ IntsAt w' A n xs ∧ IntsAt w' A' n' ys ∧ IntsAt w' D m bs ∧ (∀ k, k < m → bs.getD k 0 ≤ 120) ∧ Below w.heap.size w w'
set_option maxRecDepth 100000 in
set_option maxHeartbeats 4000000 in
theorem DrawBusyAt_any (A : Option Addr) (n c : Nat) (w : World) (h : BytsAt w w.heap.size A n) (hn : n ≤ 9223372036854775807) (hc : n ≤ c) :
    Calls Try.prog 4 #[.slice A n c] w (DBusy w) := by
  have hA0 : Below w.heap.size w (w.alloc (.cells #[.slice none 0 0, .slice none 0 0] 25)) := (Below.refl w.heap.size w).alloc (Nat.le_refl _) _
  have HQ0 := Lib.hid (Blk.new w 25 #[.slice none 0 0, .slice none 0 0])
  have HA0 := Lib.hid hA0
  have HBY := Lib.hid ((h.keep (w' := w.alloc (.cells #[.slice none 0 0, .slice none 0 0] 25)) (fun b hb => hA0.block b hb)).older (R' := (w.alloc (.cells #[.slice none 0 0, .slice none 0 0] 25)).heap.size) hA0.size)
  clear hA0 h
  go_enter Try.func4, Try.ntmps4
  go_wp2_with (fail)
  refine kOpen (open_any A n c _ HBY.out hn hc) ?_
  intro R w1 hR hr1 hb1
  have hR2 : w.heap.size < R := by have := hR; simp at this; omega
  have HQ1 := Lib.hid (HQ0.out.below hb1 HQ0.out.lt)
  have HB1 := Lib.hid (HA0.out.trans (hb1.mono HA0.out.size))
  have hRl := hr1.lt
  clear hb1 hR
  go_wp2_with (fail)
  refine (l20Begun_any R 0 _ hr1 (by omega)).mono ?_
  rintro e w2 ⟨A, n, c, A', n', c', xs, ys, h, D, m, d, bs, rfl, ⟨hn10, hn10', hm10⟩, hox, hoy, hob, hbd, hm⟩
  obtain ⟨Q, HQQ⟩ : ∃ q, Hid (w.heap.size = q) := ⟨_, rfl⟩
  obtain ⟨w3, HW3⟩ : ∃ q, Hid (w2.alloc (.cells #[.slice A n c, .slice A' n' c'] 25) = q) := ⟨_, rfl⟩
  have hb3 : Below w2.heap.size w2 w3 := HW3.out ▸ (Below.refl _ _).alloc (Nat.le_refl _) _
  have hQ2 : Blk w2 Q 25 #[.slice none 0 0, .slice none 0 0] := HQQ.out ▸ (hm.1.block _ HQ1.out.lt (fun e => by have := Option.some.inj e; omega)).trans HQ1.out
  have hw1 : Q < w1.heap.size := HQQ.out ▸ HQ1.out.lt
  have hRw : R < w1.heap.size := hRl
  have hQR : Q < R := by have := HQQ.out; omega
  have HBD := Lib.hid hbd
  have HX3 := Lib.hid (own_below hox hb3)
  have HY3 := Lib.hid (own_below hoy hb3)
  have HZ3 := Lib.hid (own_below hob hb3)
  have HQ3 := Lib.hid (hQ2.below hb3 hQ2.lt)
  have HP3 := Lib.hid (show Blk w3 w2.heap.size 25 #[.slice A n c, .slice A' n' c'] from HW3.out ▸ Blk.new _ _ _)
  have HM3 := Lib.hid (hm.below hb3)
  have hw12 : w1.heap.size ≤ w2.heap.size := hm.1.size
  clear hox hoy hob hbd hm hb3 hQ2
  go_wp2_with (fail)
  rw [HW3.out]
  rw [HQQ.out]
  obtain ⟨P, HPP⟩ : ∃ q, Hid (w2.heap.size = q) := ⟨_, rfl⟩
  rw [HPP.out] at HP3 hw12 ⊢
  have S3 : w3.cell? ⟨P, 0, none⟩ = some (.slice A n c) ∧ w3.cell? ⟨P, 1, none⟩ = some (.slice A' n' c') := ⟨(HP3.out.cell 0).trans rfl, (HP3.out.cell 1).trans rfl⟩
  refine wp_region_held_drew (S := (fun w' => w'.cell? ⟨P, 0, none⟩ = some (.slice A n c) ∧ w'.cell? ⟨P, 1, none⟩ = some (.slice A' n' c'))) (by kernel_rfl) ?_ (fun hHeld => ?_)
  · exact S3
  refine wpAnyH_take (i := 0) (oi := _) (v := ?_) rfl (by kernel_rfl) (by kernel_rfl) (by kernel_rfl) (fun _ _ _ h => h) (Or.inl ⟨by kernel_rfl, ?_⟩) (by assumption) ?_
  rotate_left
  · (intro w hSw; (try dsimp only at hSw); go_simp; (try with_reducible rfl))
  try simp only [Act.put, List.getElem_toArray, List.getElem_cons_succ, List.getElem_cons_zero, List.setIfInBounds_toArray, List.set_cons_zero, List.set_cons_succ]
  refine wpAnyH_take (i := 1) (oi := _) (v := ?_) rfl (by kernel_rfl) (by kernel_rfl) (by kernel_rfl) (fun _ _ _ h => h) (Or.inl ⟨by kernel_rfl, ?_⟩) (by assumption) ?_
  rotate_left
  · (intro w hSw; (try dsimp only at hSw); go_simp; (try with_reducible rfl))
  try simp only [Act.put, List.getElem_toArray, List.getElem_cons_succ, List.getElem_cons_zero, List.setIfInBounds_toArray, List.set_cons_zero, List.set_cons_succ]
  refine wpAnyH_take (i := 2) (oi := _) (v := ?_) rfl (by kernel_rfl) (by kernel_rfl) (by kernel_rfl) (fun _ _ _ h => h) (Or.inl ⟨by kernel_rfl, ?_⟩) (by assumption) ?_
  rotate_left
  · (intro w hSw; (try dsimp only at hSw); go_simp; (try with_reducible rfl))
  try simp only [Act.put, List.getElem_toArray, List.getElem_cons_succ, List.getElem_cons_zero, List.setIfInBounds_toArray, List.set_cons_zero, List.set_cons_succ]
  refine wpAnyH_take (i := 4) (oi := _) (v := ?_) rfl (by kernel_rfl) (by kernel_rfl) (by kernel_rfl) (fun _ _ _ h => h) (Or.inl ⟨by kernel_rfl, ?_⟩) (by assumption) ?_
  rotate_left
  · (intro w hSw; (try dsimp only at hSw); go_simp; (try with_reducible rfl))
  try simp only [Act.put, List.getElem_toArray, List.getElem_cons_succ, List.getElem_cons_zero, List.setIfInBounds_toArray, List.set_cons_zero, List.set_cons_succ]
  refine wpAnyH_ready (rs := [3]) (by kernel_rfl) (by simp) ?_
  refine AllReadyH.cons (o := _) rfl (fun K hK => ?_) (AllReadyH.nil)
  go_simp
  go_at_call 11; with_reducible refine kPick (pick_any R _ 25 _ (Mv.rdDr HM3.out) (by omega)) ?_
  intro x w4 hq1 hq2 hm4 hs4
  have HM4 := Lib.hid (Mv.trans (Mv.drewDr HM3.out) hm4)
  have HX4 := Lib.hid (own_mv (own_drewN HX3.out 1) (by omega) hm4)
  have HY4 := Lib.hid (own_mv (own_drewN HY3.out 1) (by omega) hm4)
  have HZ4 := Lib.hid (own_mv (own_drewN HZ3.out 1) (by omega) hm4)
  have HP4 := Lib.hid (show Blk w4 P 25 #[.slice A n c, .slice A' n' c'] from ((hm4.1.block (P) HP3.out.lt (fun e => by have := Option.some.inj e; omega)).trans HP3.out))
  have HQ4 := Lib.hid (show Blk w4 Q 25 #[.slice none 0 0, .slice none 0 0] from ((hm4.1.block (Q) HQ3.out.lt (fun e => by have := Option.some.inj e; omega)).trans HQ3.out))
  have S4 : w4.cell? ⟨P, 0, none⟩ = some (.slice A n c) ∧ w4.cell? ⟨P, 1, none⟩ = some (.slice A' n' c') := ⟨(HP4.out.cell 0).trans rfl, (HP4.out.cell 1).trans rfl⟩
  clear hq1 hq2 hm4 hs4
  go_wp2_with fail
  refine hK.out _ _ ?_ (fun hHeld => ?_)
  · exact S4
  clear hK K
  try simp only [Act.put, List.getElem_toArray, List.getElem_cons_succ, List.getElem_cons_zero, List.setIfInBounds_toArray, List.set_cons_zero, List.set_cons_succ]
  refine wpAnyH_ready (rs := [5]) (by kernel_rfl) (by simp) ?_
  refine AllReadyH.cons (o := _) rfl (fun K hK => ?_) (AllReadyH.nil)
  go_simp
  go_at_call 11; with_reducible refine kPick (pick_any R _ 40 _ (Mv.rdOf HM4.out) (by omega)) ?_
  intro y w5 hq1 hq2 hm5 hs5
  have HM5 := Lib.hid (Mv.trans HM4.out hm5)
  have HX5 := Lib.hid (own_mv HX4.out (by omega) hm5)
  have HY5 := Lib.hid (own_mv HY4.out (by omega) hm5)
  have HZ5 := Lib.hid (own_mv HZ4.out (by omega) hm5)
  have HP5 := Lib.hid (show Blk w5 P 25 #[.slice A n c, .slice A' n' c'] from ((hm5.1.block (P) HP4.out.lt (fun e => by have := Option.some.inj e; omega)).trans HP4.out))
  have HQ5 := Lib.hid (show Blk w5 Q 25 #[.slice none 0 0, .slice none 0 0] from ((hm5.1.block (Q) HQ4.out.lt (fun e => by have := Option.some.inj e; omega)).trans HQ4.out))
  have S5 : w5.cell? ⟨P, 0, none⟩ = some (.slice A n c) ∧ w5.cell? ⟨P, 1, none⟩ = some (.slice A' n' c') := ⟨(HP5.out.cell 0).trans rfl, (HP5.out.cell 1).trans rfl⟩
  clear hq1 hq2 hm5 hs5
  go_wp2_with fail
  refine hK.out _ _ ?_ (fun hHeld => ?_)
  · exact S5
  clear hK K
  try simp only [Act.put, List.getElem_toArray, List.getElem_cons_succ, List.getElem_cons_zero, List.setIfInBounds_toArray, List.set_cons_zero, List.set_cons_succ]
  obtain ⟨t0, t1⟩ := S5
  have q0 := (HQ5.out.cell 0).trans rfl
  have q1 := (HQ5.out.cell 1).trans rfl
  have qf0 := HQ5.out.frozen 0
  have qf1 := HQ5.out.frozen 1
  have hql := HQ5.out.lt
  refine wpAnyH_take (i := 6) (oi := _) (v := ?_) rfl (by kernel_rfl) (by kernel_rfl) (by kernel_rfl) (fun _ _ _ h => h) (Or.inl ⟨by kernel_rfl, ?_⟩) (by assumption) ?_
  rotate_left
  · (intro w hSw; (try dsimp only at hSw); go_simp; (try with_reducible rfl))
  try simp only [Act.put, List.getElem_toArray, List.getElem_cons_succ, List.getElem_cons_zero, List.setIfInBounds_toArray, List.set_cons_zero, List.set_cons_succ]
  refine wpAnyH_take (i := 7) (oi := _) (v := ?_) rfl (by kernel_rfl) (by kernel_rfl) (by kernel_rfl) (fun _ _ _ h => h) (Or.inl ⟨by kernel_rfl, ?_⟩) (by assumption) ?_
  rotate_left
  · (intro w hSw; (try dsimp only at hSw); go_simp; (try with_reducible rfl))
  try simp only [Act.put, List.getElem_toArray, List.getElem_cons_succ, List.getElem_cons_zero, List.setIfInBounds_toArray, List.set_cons_zero, List.set_cons_succ]
  refine wpAnyH_ready (rs := [8]) (by kernel_rfl) (by simp) ?_
  refine AllReadyH.cons (o := _) rfl (fun K hK => ?_) (AllReadyH.nil)
  go_simp
  refine hK.out _ _ ?_ (fun hHeld => ?_)
  · (refine ⟨?_, ?_⟩ <;> (try rw [drew_cell]) <;> (repeat rw [World.cell?_setCell_far _ _ _ _ (by simp <;> omega)]) <;> first | with_reducible exact t0 | with_reducible exact t1)
  clear hK K
  try simp only [Act.put, List.getElem_toArray, List.getElem_cons_succ, List.getElem_cons_zero, List.setIfInBounds_toArray, List.set_cons_zero, List.set_cons_succ]
  refine wpAnyH_take (i := 9) (oi := _) (v := ?_) rfl (by kernel_rfl) (by kernel_rfl) (by kernel_rfl) (fun _ _ _ h => h) (Or.inl ⟨by kernel_rfl, ?_⟩) (by assumption) ?_
  rotate_left
  · (intro w hSw; (try dsimp only at hSw); go_simp; (try with_reducible rfl))
  try simp only [Act.put, List.getElem_toArray, List.getElem_cons_succ, List.getElem_cons_zero, List.setIfInBounds_toArray, List.set_cons_zero, List.set_cons_succ]
  refine wpAnyH_take (i := 10) (oi := _) (v := ?_) rfl (by kernel_rfl) (by kernel_rfl) (by kernel_rfl) (fun _ _ _ h => h) (Or.inl ⟨by kernel_rfl, ?_⟩) (by assumption) ?_
  rotate_left
  · (intro w hSw; (try dsimp only at hSw); go_simp; (try with_reducible rfl))
  try simp only [Act.put, List.getElem_toArray, List.getElem_cons_succ, List.getElem_cons_zero, List.setIfInBounds_toArray, List.set_cons_zero, List.set_cons_succ]
  refine wpAnyH_done (by kernel_rfl) ?_ _
  go_wp2_with (fail)
  refine bodyPost_ret (v := .tuple #[.agg #[.slice A n c, .slice A' n' c'], .slice D m d, .int .i64 _]) (by simp [results, Try.results4, go_sem, q0, q1]; rfl) rfl ⟨A, n, c, A', n', c', xs, ys, D, m, d, bs, _, rfl, ⟨hn10, hn10', hm10⟩, ?_, ?_, ?_, HBD.out, ?_⟩
  · exact ownI_at (own_setOldZ (own_setOldZ HX5.out (show Q < _ by omega) 0 _) (show Q < _ by omega) 1 _)
  · exact ownI_at (own_setOldZ (own_setOldZ HY5.out (show Q < _ by omega) 0 _) (show Q < _ by omega) 1 _)
  · exact ownI_at (own_setOldZ (own_setOldZ HZ5.out (show Q < _ by omega) 0 _) (show Q < _ by omega) 1 _)
  · rw [HQQ.out]; exact (((HQQ.out ▸ Mv.belowOf HM5.out HB1.out (by omega)) : Below Q w w5).setCell (by simp) _).setCell (by simp) _

end Go.Proofs.Ytenhchfbmmlmmaa
