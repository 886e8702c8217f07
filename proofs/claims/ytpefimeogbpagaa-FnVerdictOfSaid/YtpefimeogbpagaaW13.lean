/- Draws of happenings and a time: spec.l20Later; the laws' draws. -/
import Derived.Test.YtpefimeogbpagaaW12
set_option linter.unusedSimpArgs false
set_option linter.unusedVariables false
namespace Go.Proofs.Ytpefimeogbpagaa
open Go.RowKit
theorem rdOfH {R : Nat} {B : Int} {w w1 : World} (h : Mv R B w w1) : Rd w1 R B := h.2
theorem drew_cellH (w : World) (a : Addr) : w.drew.cell? a = w.cell? a := rfl
attribute [local go_sem ↓] Go.wp_at_zero Go.wp_at_succ

theorem HapsAt.mvR {w w' : World} {A : Option Addr} {n R : Nat} {xs : List Hp} {B : Int} (h : HapsAt w A n xs) (hap : ∀ a, A = some a → a.block ≠ R ∧ a.block < w.heap.size) (hm : Mv R B w w') : HapsAt w' A n xs :=
  ⟨h.len, fun hn => by
    obtain ⟨b, off, e, hc⟩ := h.cells hn
    have hk := hm.1.block _ (hap _ e).2 (fun e' => (hap _ e).1 (Option.some.inj e'))
    exact ⟨b, off, e, fun j hj => ⟨(cell_blk (b := b) hk _).trans (hc j hj).1, (cell_blk (b := b) hk _).trans (hc j hj).2⟩⟩⟩
theorem HapsAt.setFar {w : World} {A : Option Addr} {n q : Nat} {xs : List Hp} (h : HapsAt w A n xs) (hne : ∀ a, A = some a → a.block ≠ q) (i : Nat) (v : Value) : HapsAt (w.setCell ⟨q, i, none⟩ v) A n xs :=
  ⟨h.len, fun hn => by
    obtain ⟨b, off, e, hc⟩ := h.cells hn
    have hk : (w.setCell ⟨q, i, none⟩ v).heap[b]? = w.heap[b]? := Below.heap_setCell _ _ _ _ (hne _ e)
    exact ⟨b, off, e, fun j hj => ⟨(cell_blk (b := b) hk _).trans (hc j hj).1, (cell_blk (b := b) hk _).trans (hc j hj).2⟩⟩⟩
theorem HapsAt.drew1 {w : World} {A : Option Addr} {n : Nat} {xs : List Hp} (h : HapsAt w A n xs) : HapsAt w.drew A n xs := ⟨h.len, h.cells⟩


/-- The plan in its box, happenings, the result's box. -/
structure LMat (w : World) (R Q P : Nat) (pts : Int) (A : Option Addr) (n c : Nat) (xs : List Bd) (D : Option Addr) (m : Nat) (hs : List Hp) : Prop where
  lt : Q < P
  rq : R < Q
  pb : Blk w P 25 #[.int .i64 pts, .slice A n c]
  qb : Blk w Q 25 #[.int .i64 0, .slice none 0 0]
  row : BndsAt w A n xs
  hap : HapsAt w D m hs
  ap : ∀ a, A = some a → Q < a.block ∧ a.block < P
  dp : ∀ a, D = some a → Q < a.block ∧ a.block < P
section
variable {w w' : World} {R Q P n c m : Nat} {pts B : Int} {A D : Option Addr} {xs : List Bd} {hs : List Hp}
theorem LMat.mv (h : LMat w R Q P pts A n c xs D m hs) (hm : Mv R B w w') : LMat w' R Q P pts A n c xs D m hs := by
  have h1 := h.lt
  have h2 := h.rq
  have h3 := h.pb.lt
  have hk : ∀ b, b ≠ R → b < w.heap.size → w'.heap[b]? = w.heap[b]? := fun b hb hl => hm.1.block b hl (fun e => hb (Option.some.inj e))
  exact ⟨h1, h2, (hk P (by omega) h3).trans h.pb, (hk Q (by omega) (by omega)).trans h.qb, h.row.mvR (fun a ha => by have := h.ap a ha; exact ⟨by omega, by omega⟩) hm, h.hap.mvR (fun a ha => by have := h.dp a ha; exact ⟨by omega, by omega⟩) hm, h.ap, h.dp⟩
theorem LMat.drew (h : LMat w R Q P pts A n c xs D m hs) : LMat w.drew R Q P pts A n c xs D m hs := ⟨h.lt, h.rq, h.pb, h.qb, h.row.drewN 1, h.hap.drew1, h.ap, h.dp⟩
theorem LMat.cells (h : LMat w R Q P pts A n c xs D m hs) : w.cell? ⟨P, 0, none⟩ = some (.int .i64 pts) ∧ w.cell? ⟨P, 1, none⟩ = some (.slice A n c) := ⟨(h.pb.cell 0).trans rfl, (h.pb.cell 1).trans rfl⟩
end
def LaterMade (R : Nat) (B : Int) (w : World) (e : Ending) (w' : World) : Prop :=
  ∃ (pts : Int) (A : Option Addr) (n c : Nat) (xs : List Bd) (D : Option Addr) (m d : Nat) (hs : List Hp) (now : Int), e = .returned (.tuple #[.agg #[.int .i64 pts, .slice A n c], .slice D m d, .int .i64 now]) ∧ (n ≤ c ∧ n ≤ 16) ∧ (m ≤ d ∧ m ≤ 6) ∧ BndsAt w' A n xs ∧ HapsAt w' D m hs ∧ (∀ a, A = some a → w.heap.size ≤ a.block ∧ a.block < w'.heap.size) ∧ (∀ a, D = some a → w.heap.size ≤ a.block ∧ a.block < w'.heap.size) ∧ Mv R (B + 300) w w'
theorem kLater {Pr : Program} {f : FuncId} {args : Array Value} {w : World} {K : Ending → World → Prop} {R : Nat} {B : Int} (h : Calls Pr f args w (LaterMade R B w))
    (h1 : ∀ pts A n c xs D m d hs now w', (n ≤ c ∧ n ≤ 16) → (m ≤ d ∧ m ≤ 6) → BndsAt w' A n xs → HapsAt w' D m hs → (∀ a, A = some a → w.heap.size ≤ a.block ∧ a.block < w'.heap.size) → (∀ a, D = some a → w.heap.size ≤ a.block ∧ a.block < w'.heap.size) → Mv R (B + 300) w w' → K (.returned (.tuple #[.agg #[.int .i64 pts, .slice A n c], .slice D m d, .int .i64 now])) w') : Calls Pr f args w K :=
  h.mono fun e w' ⟨pts, A, n, c, xs, D, m, d, hs, now, he, h3, h4, h5, h6, h7, h8, h9⟩ => by subst he; exact h1 pts A n c xs D m d hs now w' h3 h4 h5 h6 h7 h8 h9
set_option maxRecDepth 100000 in
set_option maxHeartbeats 4000000 in
theorem l20Later_any (R : Nat) (B : Int) (w : World) (h : Rd w R B) (hB : B ≤ 800000000) :
    Calls Try.prog 14 #[.pointer (some ⟨R, 0, none⟩)] w (LaterMade R B w) := by
  have hR := h.lt
  have HQ0 := Lib.hid (Blk.new w 25 #[.int .i64 0, .slice none 0 0])
  have HM0 := Lib.hid (show Mv R B w (w.alloc (.cells #[.int .i64 0, .slice none 0 0] 25)) from ⟨grown_of_below ((Below.refl _ _).alloc (Nat.le_refl _) _) _, h.alloc _⟩)
  clear h
  go_enter Try.func14, Try.ntmps14
  go_wp2_with (fail)
  refine kHeard (l20Heard_any R B _ HM0.out.2 (by omega)) ?_
  intro pts A n c xs D m d hs w2 hp hnc hmd hrow hti hA hD hm
  obtain ⟨Q, HQQ⟩ : ∃ q, Hid (w.heap.size = q) := ⟨_, rfl⟩
  have hRQ : R < Q := by have := HQQ.out; omega
  have hQ2 : Blk w2 Q 25 #[.int .i64 0, .slice none 0 0] := HQQ.out ▸ (hm.1.block _ HQ0.out.lt (fun e => by have := Option.some.inj e; omega)).trans HQ0.out
  have hM2 := HM0.out.trans hm
  obtain ⟨w3, HW3⟩ : ∃ q, Hid (w2.alloc (.cells #[.int .i64 pts, .slice A n c] 25) = q) := ⟨_, rfl⟩
  have hb3 : Below w2.heap.size w2 w3 := HW3.out ▸ (Below.refl _ _).alloc (Nat.le_refl _) _
  have HP3 := Lib.hid (show LMat w3 R Q w2.heap.size pts A n c xs D m hs from ⟨hQ2.lt, hRQ, HW3.out ▸ Blk.new _ _ _, hQ2.below hb3 hQ2.lt, hrow.below hb3, hti.below hb3, fun a ha => by have h1 := hA a ha; have := HQQ.out; simp at h1; exact ⟨by omega, h1.2⟩, fun a ha => by have h1 := hD a ha; have := HQQ.out; simp at h1; exact ⟨by omega, h1.2⟩⟩)
  have HM3 := Lib.hid (hM2.below hb3)
  clear hrow hti hA hD hm hQ2 hM2 hb3 HQ0 HM0 hp
  have HEND := Lib.hid (show ∀ (wz : World) (P : Nat) (now : Int), LMat wz R Q P pts A n c xs D m hs → Mv R (B + 300) w wz → LaterMade R B w (.returned (.tuple #[.agg #[.int .i64 pts, .slice A n c], .slice D m d, .int .i64 now])) ((wz.setCell ⟨Q, 0, none⟩ (.int .i64 pts)).setCell ⟨Q, 1, none⟩ (.slice A n c)) from fun wz P now hp hm => by
    have hq := HQQ.out
    have hpl := hp.pb.lt
    refine ⟨pts, A, n, c, xs, D, m, d, hs, now, rfl, hnc, hmd, ?_, ?_, fun a ha => ?_, fun a ha => ?_, ?_⟩
    · exact (hp.row.setCell (q := ⟨Q, 0, none⟩) (fun a ha => by have := (hp.ap a ha).1; simp; omega) _).setCell (q := ⟨Q, 1, none⟩) (fun a ha => by have := (hp.ap a ha).1; simp; omega) _
    · exact (hp.hap.setFar (fun a ha => by have := (hp.dp a ha).1; omega) 0 _).setFar (fun a ha => by have := (hp.dp a ha).1; omega) 1 _
    · have h5 := hp.ap a ha; exact ⟨by omega, by simp [World.setCell]; omega⟩
    · have h5 := hp.dp a ha; exact ⟨by omega, by simp [World.setCell]; omega⟩
    · exact (hm.setNew (P := Q) (by omega) hR 0 _).setNew (P := Q) (by omega) hR 1 _)
  obtain ⟨now, HNOW⟩ : ∃ q, Hid (lastT hs m = q) := ⟨_, rfl⟩
  go_upto_if 15 with fail
  rw [HW3.out]
  rw [HQQ.out]
  obtain ⟨P, HPP⟩ : ∃ q, Hid (w2.heap.size = q) := ⟨_, rfl⟩
  rw [HPP.out] at HP3 ⊢
  go_cut [7] from 16 to 22 (fun s wx => s = .int .i64 now ∧ wx = w3)
  case first =>
    by_cases hm0 : m = 0
    · subst hm0
      have hnow : now = 0 := by rw [← HNOW.out]; rfl
      subst hnow
      go_wp2_with (fail)
      go_meet
      exact ⟨rfl, rfl⟩
    · obtain ⟨k, rfl⟩ : ∃ k, m = k + 1 := ⟨m - 1, by omega⟩
      obtain ⟨b, off, rfl, hc⟩ := HP3.out.hap.cells (by omega)
      obtain ⟨-, c1⟩ := hc k (by omega)
      have HLT := Lib.hid (show (hs.getD k (0, 0)).2 = now from by rw [← HNOW.out]; unfold lastT; rw [if_neg (by omega), Nat.add_sub_cancel])
      rw [HLT.out] at c1
      have hk1 : ((k + 1 : Nat) : Int) - 1 = (k : Int) := by omega
      clear hc hm0
      go_wp2_with (fail)
      go_meet
      exact ⟨rfl, rfl⟩
  case rest =>
    obtain ⟨rfl, rfl⟩ := hcut
    have S3 := HP3.out.cells
    go_wp2_with (fail)
    refine wp_region_held_drew (S := (fun w' => w'.cell? ⟨P, 0, none⟩ = some (.int .i64 pts) ∧ w'.cell? ⟨P, 1, none⟩ = some (.slice A n c))) (by kernel_rfl) ?_ (fun hHeld => ?_)
    · exact S3
    refine wpAnyH_take (i := 0) (oi := _) (v := ?_) rfl (by kernel_rfl) (by kernel_rfl) (by kernel_rfl) (fun _ _ _ h => h) (Or.inl ⟨by kernel_rfl, ?_⟩) (by assumption) ?_
    rotate_left
    · (intro w hSw; (try dsimp only at hSw); go_simp; (try with_reducible rfl))
    try simp only [Act.put, List.getElem_toArray, List.getElem_cons_succ, List.getElem_cons_zero, List.setIfInBounds_toArray, List.set_cons_zero, List.set_cons_succ]
    refine wpAnyH_take (i := 1) (oi := _) (v := ?_) rfl (by kernel_rfl) (by kernel_rfl) (by kernel_rfl) (fun _ _ _ h => h) (Or.inl ⟨by kernel_rfl, ?_⟩) (by assumption) ?_
    rotate_left
    · (intro w hSw; (try dsimp only at hSw); go_simp; (try with_reducible rfl))
    try simp only [Act.put, List.getElem_toArray, List.getElem_cons_succ, List.getElem_cons_zero, List.setIfInBounds_toArray, List.set_cons_zero, List.set_cons_succ]
    refine wpAnyH_take (i := 2) (oi := _) (v := ?_) rfl (by kernel_rfl) (by kernel_rfl) (by kernel_rfl) (fun _ _ _ h => h) (Or.inl ⟨by kernel_rfl, ?_⟩) (by assumption) ?_
    rotate_left
    · (intro w hSw; (try dsimp only at hSw); go_simp; (try with_reducible rfl))
    try simp only [Act.put, List.getElem_toArray, List.getElem_cons_succ, List.getElem_cons_zero, List.setIfInBounds_toArray, List.set_cons_zero, List.set_cons_succ]
    refine wpAnyH_take (i := 3) (oi := _) (v := ?_) rfl (by kernel_rfl) (by kernel_rfl) (by kernel_rfl) (fun _ _ _ h => h) (Or.inl ⟨by kernel_rfl, ?_⟩) (by assumption) ?_
    rotate_left
    · (intro w hSw; (try dsimp only at hSw); go_simp; (try with_reducible rfl))
    try simp only [Act.put, List.getElem_toArray, List.getElem_cons_succ, List.getElem_cons_zero, List.setIfInBounds_toArray, List.set_cons_zero, List.set_cons_succ]
    refine wpAnyH_take (i := 5) (oi := _) (v := ?_) rfl (by kernel_rfl) (by kernel_rfl) (by kernel_rfl) (fun _ _ _ h => h) (Or.inl ⟨by kernel_rfl, ?_⟩) (by assumption) ?_
    rotate_left
    · (intro w hSw; (try dsimp only at hSw); go_simp; (try with_reducible rfl))
    try simp only [Act.put, List.getElem_toArray, List.getElem_cons_succ, List.getElem_cons_zero, List.setIfInBounds_toArray, List.set_cons_zero, List.set_cons_succ]
    refine wpAnyH_take (i := 9) (oi := _) (v := ?_) rfl (by kernel_rfl) (by kernel_rfl) (by kernel_rfl) (fun _ _ _ h => h) (Or.inl ⟨by kernel_rfl, ?_⟩) (by assumption) ?_
    rotate_left
    · (intro w hSw; (try dsimp only at hSw); go_simp; (try with_reducible rfl))
    try simp only [Act.put, List.getElem_toArray, List.getElem_cons_succ, List.getElem_cons_zero, List.setIfInBounds_toArray, List.set_cons_zero, List.set_cons_succ]
    refine wpAnyH_ready (rs := [4]) (by kernel_rfl) (by simp) ?_
    refine AllReadyH.cons (o := _) rfl (fun K hK => ?_) (AllReadyH.nil)
    go_simp
    go_at_call 32; with_reducible refine kPick (pick_any R _ 6 _ (Mv.rdDr HM3.out) (by omega)) ?_
    intro x w4 hq1 hq2 hm4 hs4
    have HM4 := Lib.hid (Mv.trans (Mv.drewDr HM3.out) hm4)
    have HP4 := Lib.hid (LMat.mv (LMat.drew HP3.out) hm4)
    have S4 := HP4.out.cells
    clear hq1 hq2 hm4 hs4
    go_wp2_with fail
    refine hK.out _ _ ?_ (fun hHeld => ?_)
    · exact S4
    clear hK K
    try simp only [Act.put, List.getElem_toArray, List.getElem_cons_succ, List.getElem_cons_zero, List.setIfInBounds_toArray, List.set_cons_zero, List.set_cons_succ]
    refine wpAnyH_ready (rs := [6]) (by kernel_rfl) (by simp) ?_
    refine AllReadyH.cons (o := _) rfl (fun K hK => ?_) (AllReadyH.nil)
    go_simp
    go_at_call 32; with_reducible refine kPick (pick_any R _ 3 _ (rdOfH HM4.out) (by omega)) ?_
    intro y w5 hq1 hq2 hm5 hs5
    have HM5 := Lib.hid (Mv.trans HM4.out hm5)
    have HP5 := Lib.hid (LMat.mv HP4.out hm5)
    have S5 := HP5.out.cells
    clear hq1 hq2 hm5 hs5
    go_wp2_with fail
    refine hK.out _ _ ?_ (fun hHeld => ?_)
    · exact S5
    clear hK K
    try simp only [Act.put, List.getElem_toArray, List.getElem_cons_succ, List.getElem_cons_zero, List.setIfInBounds_toArray, List.set_cons_zero, List.set_cons_succ]
    refine wpAnyH_take (i := 7) (oi := _) (v := ?_) rfl (by kernel_rfl) (by kernel_rfl) (by kernel_rfl) (fun _ _ _ h => h) (Or.inl ⟨by kernel_rfl, ?_⟩) (by assumption) ?_
    rotate_left
    · (intro w hSw; (try dsimp only at hSw); go_simp; (try with_reducible rfl))
    try simp only [Act.put, List.getElem_toArray, List.getElem_cons_succ, List.getElem_cons_zero, List.setIfInBounds_toArray, List.set_cons_zero, List.set_cons_succ]
    refine wpAnyH_take (i := 8) (oi := _) (v := ?_) rfl (by kernel_rfl) (by kernel_rfl) (by kernel_rfl) (fun _ _ _ h => h) (Or.inl ⟨by kernel_rfl, ?_⟩) (by assumption) ?_
    rotate_left
    · (intro w hSw; (try dsimp only at hSw); go_simp; (try with_reducible rfl))
    try simp only [Act.put, List.getElem_toArray, List.getElem_cons_succ, List.getElem_cons_zero, List.setIfInBounds_toArray, List.set_cons_zero, List.set_cons_succ]
    refine wpAnyH_ready (rs := [10]) (by kernel_rfl) (by simp) ?_
    refine AllReadyH.cons (o := _) rfl (fun K hK => ?_) (AllReadyH.nil)
    go_simp
    go_at_call 32; with_reducible refine kPick (pick_any R _ 30 _ (rdOfH HM5.out) (by omega)) ?_
    intro z w6 hq1 hq2 hm6 hs6
    have HM6 := Lib.hid (Mv.trans HM5.out hm6)
    have HP6 := Lib.hid (LMat.mv HP5.out hm6)
    have S6 := HP6.out.cells
    clear hq1 hq2 hm6 hs6
    go_wp2_with fail
    refine hK.out _ _ ?_ (fun hHeld => ?_)
    · exact S6
    clear hK K
    try simp only [Act.put, List.getElem_toArray, List.getElem_cons_succ, List.getElem_cons_zero, List.setIfInBounds_toArray, List.set_cons_zero, List.set_cons_succ]
    obtain ⟨t0, t1⟩ := S6
    have q0 := (HP6.out.qb.cell 0).trans rfl
    have q1 := (HP6.out.qb.cell 1).trans rfl
    have qf0 := HP6.out.qb.frozen 0
    have qf1 := HP6.out.qb.frozen 1
    have hql := HP6.out.qb.lt
    have hqp := HP6.out.lt
    refine wpAnyH_take (i := 11) (oi := _) (v := ?_) rfl (by kernel_rfl) (by kernel_rfl) (by kernel_rfl) (fun _ _ _ h => h) (Or.inl ⟨by kernel_rfl, ?_⟩) (by assumption) ?_
    rotate_left
    · (intro w hSw; (try dsimp only at hSw); go_simp; (try with_reducible rfl))
    try simp only [Act.put, List.getElem_toArray, List.getElem_cons_succ, List.getElem_cons_zero, List.setIfInBounds_toArray, List.set_cons_zero, List.set_cons_succ]
    refine wpAnyH_take (i := 12) (oi := _) (v := ?_) rfl (by kernel_rfl) (by kernel_rfl) (by kernel_rfl) (fun _ _ _ h => h) (Or.inl ⟨by kernel_rfl, ?_⟩) (by assumption) ?_
    rotate_left
    · (intro w hSw; (try dsimp only at hSw); go_simp; (try with_reducible rfl))
    try simp only [Act.put, List.getElem_toArray, List.getElem_cons_succ, List.getElem_cons_zero, List.setIfInBounds_toArray, List.set_cons_zero, List.set_cons_succ]
    refine wpAnyH_ready (rs := [13]) (by kernel_rfl) (by simp) ?_
    refine AllReadyH.cons (o := _) rfl (fun K hK => ?_) (AllReadyH.nil)
    go_simp
    refine hK.out _ _ ?_ (fun hHeld => ?_)
    · (refine ⟨?_, ?_⟩ <;> (try rw [drew_cellH]) <;> (repeat rw [World.cell?_setCell_far _ _ _ _ (by simp <;> omega)]) <;> first | with_reducible exact t0 | with_reducible exact t1)
    clear hK K
    try simp only [Act.put, List.getElem_toArray, List.getElem_cons_succ, List.getElem_cons_zero, List.setIfInBounds_toArray, List.set_cons_zero, List.set_cons_succ]
    refine wpAnyH_take (i := 14) (oi := _) (v := ?_) rfl (by kernel_rfl) (by kernel_rfl) (by kernel_rfl) (fun _ _ _ h => h) (Or.inl ⟨by kernel_rfl, ?_⟩) (by assumption) ?_
    rotate_left
    · (intro w hSw; (try dsimp only at hSw); go_simp; (try with_reducible rfl))
    try simp only [Act.put, List.getElem_toArray, List.getElem_cons_succ, List.getElem_cons_zero, List.setIfInBounds_toArray, List.set_cons_zero, List.set_cons_succ]
    refine wpAnyH_take (i := 15) (oi := _) (v := ?_) rfl (by kernel_rfl) (by kernel_rfl) (by kernel_rfl) (fun _ _ _ h => h) (Or.inl ⟨by kernel_rfl, ?_⟩) (by assumption) ?_
    rotate_left
    · (intro w hSw; (try dsimp only at hSw); go_simp; (try with_reducible rfl))
    try simp only [Act.put, List.getElem_toArray, List.getElem_cons_succ, List.getElem_cons_zero, List.setIfInBounds_toArray, List.set_cons_zero, List.set_cons_succ]
    refine wpAnyH_done (by kernel_rfl) ?_ _
    go_wp2_with (fail)
    refine bodyPost_ret (v := .tuple #[.agg #[.int .i64 pts, .slice A n c], .slice D m d, .int .i64 _]) (by simp [results, Try.results14, go_sem, q0, q1]; rfl) rfl ?_
    exact HEND.out w6 P _ HP6.out (HM6.out.mono (by omega))

def DLater (w : World) (e : Ending) (w' : World) : Prop :=
  ∃ (pts : Int) (A : Option Addr) (n c : Nat) (xs : List Bd) (D : Option Addr) (m d : Nat) (hs : List Hp) (now : Int), e = .returned (.tuple #[.agg #[.int .i64 pts, .slice A n c], .slice D m d, .int .i64 now]) ∧ (n ≤ c ∧ n ≤ 16) ∧ (m ≤ d ∧ m ≤ 6) ∧ BndsAt w' A n xs ∧ HapsAt w' D m hs ∧ Below w.heap.size w w'

set_option maxHeartbeats 2000000 in
theorem DrawStateAfter_any (A : Option Addr) (n c : Nat) (w : World) (h : BytsAt w w.heap.size A n) (hn : n ≤ 9223372036854775807) (hc : n ≤ c) :
    Calls Try.prog 5 #[.slice A n c] w (DLater w) := by
  have hA0 : Below w.heap.size w (w.alloc (.cells #[.int .i64 0, .slice none 0 0] 25)) := (Below.refl w.heap.size w).alloc (Nat.le_refl _) _
  have HQ0 := Lib.hid (Blk.new w 25 #[.int .i64 0, .slice none 0 0])
  have HA0 := Lib.hid hA0
  have HBY := Lib.hid ((h.keep (w' := w.alloc (.cells #[.int .i64 0, .slice none 0 0] 25)) (fun b hb => hA0.block b hb)).older (R' := (w.alloc (.cells #[.int .i64 0, .slice none 0 0] 25)).heap.size) hA0.size)
  clear hA0 h
  go_enter Try.func5, Try.ntmps5
  go_wp2_with (fail)
  refine kOpen (open_any A n c _ HBY.out hn hc) ?_
  intro R w1 hR hr1 hb1
  have hR2 : w.heap.size < R := by have := hR; simp at this; omega
  have HQ1 := Lib.hid (HQ0.out.below hb1 HQ0.out.lt)
  have HB1 := Lib.hid (HA0.out.trans (hb1.mono HA0.out.size))
  have hRl := hr1.lt
  clear hb1 hR
  go_wp2_with (fail)
  refine kLater (l20Later_any R 0 _ hr1 (by omega)) ?_
  intro pts A n c xs D m d hs now w2 hnc hmd hrow hti hA hD hm
  have HQ2 := Lib.hid (show Blk w2 w.heap.size 25 #[.int .i64 0, .slice none 0 0] from (hm.1.block _ HQ1.out.lt (fun e => by have := Option.some.inj e; omega)).trans HQ1.out)
  have HB := Lib.hid (hm.below_of HB1.out (by omega))
  have HRW := Lib.hid hrow
  have HTI := Lib.hid hti
  have HAA := Lib.hid hA
  have HDD := Lib.hid hD
  have hwl : w.heap.size < w1.heap.size := HQ1.out.lt
  have q0 := (HQ2.out.cell 0).trans rfl
  have q1 := (HQ2.out.cell 1).trans rfl
  have qf0 := HQ2.out.frozen 0
  have qf1 := HQ2.out.frozen 1
  clear hrow hti hA hD hm
  go_wp2_with (fail)
  refine bodyPost_ret (v := .tuple #[.agg #[.int .i64 pts, .slice A n c], .slice D m d, .int .i64 now]) (by simp [results, Try.results5, go_sem, q0, q1]) rfl ⟨pts, A, n, c, xs, D, m, d, hs, now, rfl, hnc, hmd, ?_, ?_, ?_⟩
  · exact (HRW.out.setCell (q := ⟨w.heap.size, 0, none⟩) (fun a ha => by have := (HAA.out a ha).1; simp; omega) _).setCell (q := ⟨w.heap.size, 1, none⟩) (fun a ha => by have := (HAA.out a ha).1; simp; omega) _
  · exact (HTI.out.setFar (fun a ha => by have := (HDD.out a ha).1; omega) 0 _).setFar (fun a ha => by have := (HDD.out a ha).1; omega) 1 _
  · exact (HB.out.setCell (by simp) _).setCell (by simp) _


set_option maxHeartbeats 2000000 in
theorem DrawVerdictOf_any (A : Option Addr) (n c : Nat) (w : World) (h : BytsAt w w.heap.size A n) (hn : n ≤ 9223372036854775807) (hc : n ≤ c) :
    Calls Try.prog 11 #[.slice A n c] w (DLater w) := by
  have hA0 : Below w.heap.size w (w.alloc (.cells #[.int .i64 0, .slice none 0 0] 25)) := (Below.refl w.heap.size w).alloc (Nat.le_refl _) _
  have HQ0 := Lib.hid (Blk.new w 25 #[.int .i64 0, .slice none 0 0])
  have HA0 := Lib.hid hA0
  have HBY := Lib.hid ((h.keep (w' := w.alloc (.cells #[.int .i64 0, .slice none 0 0] 25)) (fun b hb => hA0.block b hb)).older (R' := (w.alloc (.cells #[.int .i64 0, .slice none 0 0] 25)).heap.size) hA0.size)
  clear hA0 h
  go_enter Try.func11, Try.ntmps11
  go_wp2_with (fail)
  refine kOpen (open_any A n c _ HBY.out hn hc) ?_
  intro R w1 hR hr1 hb1
  have hR2 : w.heap.size < R := by have := hR; simp at this; omega
  have HQ1 := Lib.hid (HQ0.out.below hb1 HQ0.out.lt)
  have HB1 := Lib.hid (HA0.out.trans (hb1.mono HA0.out.size))
  have hRl := hr1.lt
  clear hb1 hR
  go_wp2_with (fail)
  refine kLater (l20Later_any R 0 _ hr1 (by omega)) ?_
  intro pts A n c xs D m d hs now w2 hnc hmd hrow hti hA hD hm
  have HQ2 := Lib.hid (show Blk w2 w.heap.size 25 #[.int .i64 0, .slice none 0 0] from (hm.1.block _ HQ1.out.lt (fun e => by have := Option.some.inj e; omega)).trans HQ1.out)
  have HB := Lib.hid (hm.below_of HB1.out (by omega))
  have HRW := Lib.hid hrow
  have HTI := Lib.hid hti
  have HAA := Lib.hid hA
  have HDD := Lib.hid hD
  have hwl : w.heap.size < w1.heap.size := HQ1.out.lt
  have q0 := (HQ2.out.cell 0).trans rfl
  have q1 := (HQ2.out.cell 1).trans rfl
  have qf0 := HQ2.out.frozen 0
  have qf1 := HQ2.out.frozen 1
  clear hrow hti hA hD hm
  go_wp2_with (fail)
  refine bodyPost_ret (v := .tuple #[.agg #[.int .i64 pts, .slice A n c], .slice D m d, .int .i64 now]) (by simp [results, Try.results11, go_sem, q0, q1]) rfl ⟨pts, A, n, c, xs, D, m, d, hs, now, rfl, hnc, hmd, ?_, ?_, ?_⟩
  · exact (HRW.out.setCell (q := ⟨w.heap.size, 0, none⟩) (fun a ha => by have := (HAA.out a ha).1; simp; omega) _).setCell (q := ⟨w.heap.size, 1, none⟩) (fun a ha => by have := (HAA.out a ha).1; simp; omega) _
  · exact (HTI.out.setFar (fun a ha => by have := (HDD.out a ha).1; omega) 0 _).setFar (fun a ha => by have := (HDD.out a ha).1; omega) 1 _
  · exact (HB.out.setCell (by simp) _).setCell (by simp) _


end Go.Proofs.Ytpefimeogbpagaa
