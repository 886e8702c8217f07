/- Draws of plans whose points are joined with the first one: spec.l20Joined. -/
import Derived.Test.YtpefimeogbpagaaW4
import Derived.Test.YtpefimeogbpagaaDRQ
import Derived.Deep.RegionHeldLaw
import Derived.Deep.DrawnRows
set_option linter.unusedSimpArgs false
namespace Go.Proofs.Ytpefimeogbpagaa
open Go.RowKit
attribute [local go_sem ↓] Go.wp_at_zero Go.wp_at_succ

/-- A plan in its box P; the result's box Q. -/
structure PS (w : World) (Q P : Nat) (pts : Int) (A : Option Addr) (n c : Nat) (xs : List Bd) : Prop where
  lt : Q < P
  blk : Blk w P 25 #[.int .i64 pts, .slice A n c]
  row : BndsAt w A n xs
  ap : ∀ a, A = some a → Q < a.block ∧ a.block ≠ P ∧ a.block < w.heap.size
  room : n ≤ c ∧ n ≤ 16
  res : Blk w Q 25 #[.int .i64 0, .slice none 0 0]
section
variable {w w' : World} {Q P R q n c n' c' : Nat} {pts pts' Bd0 : Int} {A A' : Option Addr} {xs xs' : List Bd} {row : Option Nat}
theorem PS.grown (h : PS w Q P pts A n c xs) (hg : w.grownBy w' row) (hP : row ≠ some P) (hQ : row ≠ some Q) (hA : ∀ a, A = some a → row ≠ some a.block) : PS w' Q P pts A n c xs :=
  ⟨h.lt, (hg.block P h.blk.lt (fun e => hP e.symm)).trans h.blk, h.row.keepB fun a ha => hg.block _ (h.ap a ha).2.2 (fun e => hA a ha e.symm), fun a ha => ⟨(h.ap a ha).1, (h.ap a ha).2.1, Nat.lt_of_lt_of_le (h.ap a ha).2.2 hg.size⟩, h.room, (hg.block Q h.res.lt (fun e => hQ e.symm)).trans h.res⟩
theorem PS.mv (h : PS w Q P pts A n c xs) (hR : R < Q) (hm : Mv R Bd0 w w') : PS w' Q P pts A n c xs :=
  h.grown hm.1 (fun e => by cases e; have := h.lt; omega) (fun e => by cases e; omega) (fun a ha e => by have := (h.ap a ha).1; cases e; omega)
theorem PS.below (h : PS w Q P pts A n c xs) (hb : Below w.heap.size w w') : PS w' Q P pts A n c xs :=
  h.grown (row := none) ⟨hb.os, hb.tape, hb.output, hb.size, fun k hk _ => hb.block k hk⟩ (fun e => by cases e) (fun e => by cases e) (fun a ha e => by cases e)
theorem PS.alloc (h : PS w Q P pts A n c xs) (o : Obj) : PS (w.alloc o) Q P pts A n c xs := h.below ((Below.refl _ _).alloc (Nat.le_refl _) _)
theorem PS.drew (h : PS w Q P pts A n c xs) : PS w.drew Q P pts A n c xs := ⟨h.lt, h.blk, h.row.drewN 1, h.ap, h.room, h.res⟩
theorem PS.far (h : PS w Q P pts A n c xs) (hP : q ≠ P) (hQ : q ≠ Q) (hA : ∀ a, A = some a → a.block ≠ q) (i : Nat) (v : Value) : PS (w.setCell ⟨q, i, none⟩ v) Q P pts A n c xs :=
  h.grown (row := some q) ⟨rfl, rfl, rfl, by simp [World.setCell], fun k _ hk => Below.heap_setCell _ _ _ _ (fun e => hk (by rw [e]))⟩ (fun e => hP (Option.some.inj e)) (fun e => hQ (Option.some.inj e)) (fun a ha e => hA a ha (Option.some.inj e).symm)
/-- Another plan is put into the box. -/
theorem PS.put (h : PS w Q P pts A n c xs) (hrow : BndsAt w A' n' xs') (hap : ∀ a, A' = some a → Q < a.block ∧ a.block ≠ P ∧ a.block < w.heap.size) (hroom : n' ≤ c' ∧ n' ≤ 16) (pts' : Int) : PS ((w.setCell ⟨P, 0, none⟩ (.int .i64 pts')).setCell ⟨P, 1, none⟩ (.slice A' n' c')) Q P pts' A' n' c' xs' := by
  refine ⟨h.lt, ?_, (hrow.setCell (fun a ha => (hap a ha).2.1) _).setCell (fun a ha => (hap a ha).2.1) _, fun a ha => by have := hap a ha; simpa [World.setCell] using this, hroom, (h.res.far (show Q ≠ P by have := h.lt; omega) _).far (show Q ≠ P by have := h.lt; omega) _⟩
  have := (h.blk.set_ 0 (.int .i64 pts')).set_ 1 (.slice A' n' c')
  simpa using this
theorem PS.cells (h : PS w Q P pts A n c xs) : w.cell? ⟨P, 0, none⟩ = some (.int .i64 pts) ∧ w.cell? ⟨P, 1, none⟩ = some (.slice A n c) ∧ w.frozen? ⟨P, 0, none⟩ = false ∧ w.frozen? ⟨P, 1, none⟩ = false ∧ P < w.heap.size :=
  ⟨(h.blk.cell 0).trans rfl, (h.blk.cell 1).trans rfl, h.blk.frozen 0, h.blk.frozen 1, h.blk.lt⟩
end
theorem Mv.rdDr {R : Nat} {B : Int} {w w1 : World} (h : Mv R B w w1) : Rd w1.drew R B := h.2.drewN 1
theorem Mv.drewDr {R : Nat} {B : Int} {w w1 : World} (h : Mv R B w w1) : Mv R B w w1.drew := h.drewN 1
theorem WithBound_at (p : Int) (A : Option Addr) (n c : Nat) (bs : List Bd) (x y z : Int) (w : World) (h : BndsAt w A n bs) (hn : n ≤ 1048575) :
    Calls Try.prog 55 #[.agg #[.int .i64 p, .slice A n c], .agg #[.int .i64 x, .int .i64 y, .int .i64 z]] w (WbV w p n bs (x, y, z)) := WithBound_any p A n c bs (x, y, z) w h hn
theorem Blk.mvD {w w' : World} {q R : Nat} {t : TypeId} {cs : Array Value} {Bd0 : Int} (h : Blk w q t cs) (hR : q ≠ R) (hm : Mv R Bd0 w.drew w') : Blk w' q t cs := (hm.1.block q h.lt (fun e => hR (Option.some.inj e))).trans h
/-- One way for both. -/
theorem kWbU {Pr : Program} {f : FuncId} {args : Array Value} {w : World} {K : Ending → World → Prop} {p : Int} {n : Nat} {bs : List Bd} {b : Bd} (h : Calls Pr f args w (WbV w p n bs b)) (hl : bs.length = n)
    (h1 : ∀ (p' : Int) A' n' c' (ok : Bool) w', Hid (ok = true → p' = p ∧ n' ≤ 16 ∧ ∃ xs', OwnB w' w.heap.size A' n' c' xs') → Below w.heap.size w w' → K (.returned (.tuple #[.agg #[.int .i64 p', .slice A' n' c'], .bool ok])) w') : Calls Pr f args w K :=
  kWb h (fun A c w' hp ho hb => h1 _ _ _ _ _ _ (Lib.hid fun _ => ⟨rfl, by have := hp.out.2.1; rw [List.length_append, hl] at this; exact this, _, ho⟩) hb) (fun w' _ hb => h1 _ _ _ _ _ _ (Lib.hid fun e => by cases e) hb)
theorem OwnB.apart {w : World} {base n c : Nat} {A : Option Addr} {xs : List Bd} (h : OwnB w base A n c xs) : ∀ a, A = some a → base ≤ a.block ∧ a.block < w.heap.size := fun a ha => h.lt a.block (by subst ha; rfl)
/-- What a draw of a plan leaves that is read alone from then on. -/
def PlanMade (R : Nat) (B : Int) (w : World) (e : Ending) (w' : World) : Prop :=
  ∃ (pts : Int) (A : Option Addr) (n c : Nat) (xs : List Bd), e = .returned (.agg #[.int .i64 pts, .slice A n c]) ∧ 0 ≤ pts ∧ pts ≤ 7 ∧ n ≤ c ∧ n ≤ 16 ∧ BndsAt w' A n xs ∧ (∀ a, A = some a → w.heap.size ≤ a.block ∧ a.block < w'.heap.size) ∧ Mv R (B + 100) w w'
theorem kMade {Pr : Program} {f : FuncId} {args : Array Value} {w : World} {K : Ending → World → Prop} {R : Nat} {B : Int} (h : Calls Pr f args w (PlanMade R B w))
    (h1 : ∀ pts A n c xs w', 0 ≤ pts → pts ≤ 7 → n ≤ c → n ≤ 16 → BndsAt w' A n xs → (∀ a, A = some a → w.heap.size ≤ a.block ∧ a.block < w'.heap.size) → Mv R (B + 100) w w' → K (.returned (.agg #[.int .i64 pts, .slice A n c])) w') : Calls Pr f args w K :=
  h.mono fun e w' ⟨pts, A, n, c, xs, he, h0, h7, hc, h9, ho, ha, hm⟩ => by subst he; exact h1 pts A n c xs w' h0 h7 hc h9 ho ha hm
theorem kDrawn {Pr : Program} {f : FuncId} {args : Array Value} {w : World} {K : Ending → World → Prop} {R : Nat} {B : Int} (h : Calls Pr f args w (PlanDrawn R B w))
    (h1 : ∀ pts A n c xs w', 0 ≤ pts → pts ≤ 7 → n ≤ 9 → OwnB w' w.heap.size A n c xs → Mv R (B + 80) w w' → K (.returned (.agg #[.int .i64 pts, .slice A n c])) w') : Calls Pr f args w K :=
  h.mono fun e w' ⟨pts, A, n, c, xs, he, h0, h7, h9, ho, hm⟩ => by subst he; exact h1 pts A n c xs w' h0 h7 h9 ho hm
set_option maxRecDepth 100000 in
set_option maxHeartbeats 8000000 in
theorem l20Joined_any (R : Nat) (B n : Int) (w : World) (h : Rd w R B) (hB : B ≤ 900000000) (hn : 0 ≤ n ∧ n ≤ 1000) :
    Calls Try.prog 47 #[.pointer (some ⟨R, 0, none⟩), .int .i64 n] w (PlanMade R B w) := by
  have hR := h.lt
  have HQ0 := Lib.hid (Blk.new w 25 #[.int .i64 0, .slice none 0 0])
  have HM0 := Lib.hid (show Mv R B w (w.alloc (.cells #[.int .i64 0, .slice none 0 0] 25)) from ⟨grown_of_below ((Below.refl _ _).alloc (Nat.le_refl _) _) _, h.alloc _⟩)
  clear h
  go_enter Try.func47, Try.ntmps47
  go_wp2_with (fail)
  refine kDrawn (l20Plan_any R B n _ HM0.out.2 hB hn) ?_
  intro pts A m c xs w1 hp0 hp7 hm9 hown hm1
  have HM1 := Lib.hid (HM0.out.trans hm1)
  have HQ1 := Lib.hid (show Blk w1 w.heap.size 25 #[.int .i64 0, .slice none 0 0] from (hm1.1.block _ HQ0.out.lt (fun e => by cases e; omega)).trans HQ0.out)
  have hqw := HQ1.out.lt
  obtain ⟨w2, HW2⟩ : ∃ q, Hid (w1.alloc (.cells #[.int .i64 pts, .slice A m c] 25) = q) := ⟨_, rfl⟩
  have hb2 : Below w1.heap.size w1 w2 := HW2.out ▸ (Below.refl _ _).alloc (Nat.le_refl _) _
  obtain ⟨Q, HQQ⟩ : ∃ q, Hid (w.heap.size = q) := ⟨_, rfl⟩
  have hps : PS w2 Q w1.heap.size pts A m c xs := ⟨HQQ.out ▸ hqw, HW2.out ▸ Blk.new _ _ _, (OwnB.at_ hown).below hb2, fun a ha => by
      have h1 := OwnB.apart hown a ha
      have h2 := HQQ.out
      simp at h1
      exact ⟨by omega, by omega, Nat.lt_of_lt_of_le h1.2 hb2.size⟩, ⟨OwnB.cap hown, by omega⟩, HQQ.out ▸ HQ1.out.below hb2 hqw⟩
  have HP2 := Lib.hid hps
  have HM2 := Lib.hid (HM1.out.below hb2)
  have hRQ : R < Q := by have := HQQ.out; omega
  clear hown hm1 hb2 hps hqw HQ0 HQ1 HM0
  go_wp2_with (fail)
  rw [HW2.out]
  obtain ⟨P, HPP⟩ : ∃ q, Hid (w1.heap.size = q) := ⟨_, rfl⟩
  rw [HPP.out] at HP2 ⊢
  rw [HQQ.out]
  refine kPick (pick_any R _ 3 _ HM2.out.2 (by omega)) ?_
  intro x w3 hq1 hq2 hm3 hs3
  have HM3 := Lib.hid (HM2.out.trans hm3)
  have HP3 := Lib.hid (HP2.out.mv hRQ hm3)
  clear hq1 hq2 hm3 hs3
  obtain ⟨t0, t1, f0, f1, hPl⟩ := HP3.out.cells
  have q0 := (HP3.out.res.cell 0).trans rfl
  have q1 := (HP3.out.res.cell 1).trans rfl
  have qf0 := HP3.out.res.frozen 0
  have qf1 := HP3.out.res.frozen 1
  have hQl := HP3.out.res.lt
  have HEND := Lib.hid (show ∀ (wz : World) (pts : Int) (A : Option Addr) (m c : Nat) (xs : List Bd) (Bz : Int), 0 ≤ pts → pts ≤ 7 → PS wz Q P pts A m c xs → Mv R Bz w wz → Bz ≤ B + 100 → PlanMade R B w (.returned (.agg #[.int .i64 pts, .slice A m c])) ((wz.setCell ⟨Q, 0, none⟩ (.int .i64 pts)).setCell ⟨Q, 1, none⟩ (.slice A m c)) from fun wz pts A m c xs Bz hp0 hp7 hp hm hz =>
    ⟨pts, A, m, c, xs, rfl, hp0, hp7, hp.room.1, hp.room.2, (hp.row.setCell (fun a ha => by have := (hp.ap a ha).1; simp; omega) _).setCell (fun a ha => by have := (hp.ap a ha).1; simp; omega) _, fun a ha => by have h5 := hp.ap a ha; have := HQQ.out; exact ⟨by omega, by simp [World.setCell]; exact h5.2.2⟩, ((hm.setNew (P := Q) (by have := HQQ.out; omega) hR 0 _).setNew (P := Q) (by have := HQQ.out; omega) hR 1 _).mono hz⟩)
  by_cases hx : x = 0
  · subst hx
    go_wp2_with (fail)
    refine bodyPost_ret (v := .agg #[.int .i64 pts, .slice A m c]) (by simp [results, Try.results47, go_sem, q0, q1]) rfl (HEND.out _ _ _ _ _ _ _ hp0 hp7 HP3.out HM3.out (by omega))
  have hxb : (x == 0) = false := by simpa using hx
  clear q0 q1 qf0 qf1
  go_wp2_with (fail)
  refine kB (sPlanOk_any pts A m c xs _ HP3.out.row (by omega)) ?_ ?_
  rotate_left
  · intro w4 hok hb4
    have HM4 := Lib.hid (HM3.out.below hb4)
    have HP4 := Lib.hid (HP3.out.below hb4)
    have t0 := keep hb4 t0
    have t1 := keep hb4 t1
    have q0 := (HP4.out.res.cell 0).trans rfl
    have q1 := (HP4.out.res.cell 1).trans rfl
    have qf0 := HP4.out.res.frozen 0
    have qf1 := HP4.out.res.frozen 1
    have hQl := HP4.out.res.lt
    clear hb4
    go_wp2_with (fail)
    refine bodyPost_ret (v := .agg #[.int .i64 pts, .slice A m c]) (by simp [results, Try.results47, go_sem, q0, q1]) rfl (HEND.out _ _ _ _ _ _ _ hp0 hp7 HP4.out HM4.out (by omega))
  intro w4 hok hb4
  obtain ⟨N, rfl, hN1, hN6⟩ := hok.out.nat
  have HM4 := Lib.hid (HM3.out.below hb4)
  have HP4 := Lib.hid (HP3.out.below hb4)
  clear hb4 t0 t1 f0 f1 hPl HP3 HM3 HP2 HM2 HM1 HW2 HPP hQl
  go_wp2_with (fail)
  go_loopw [6] (fun i wr => ∃ (k : Nat) (A : Option Addr) (m c : Nat) (xs : List Bd), 1 ≤ k ∧ k ≤ N ∧ i = .int .i64 k ∧ PS wr Q P N A m c xs ∧ Mv R (B + 79 + 3 * (k : Int)) w wr) (fun i _ => N - (intOf i).toNat)
  case atStart => exact ⟨1, A, m, c, xs, Nat.le_refl _, hN1, rfl, HP4.out, HM4.out.mono (by omega)⟩
  case round =>
    obtain ⟨wo, rfl⟩ : ∃ wo : World, wo = wr := ⟨_, rfl⟩
    clear HP4 HM4 hm9 hok
    obtain ⟨k, A, m, c, xs, hk1, hk, rfl, hp, hm⟩ := hrel
    have HP := Lib.hid hp
    have HM := Lib.hid hm
    obtain ⟨t0, t1, f0, f1, hPl⟩ := hp.cells
    clear hp hm
    by_cases hkN : k < N
    · have hkI : (k : Int) < (N : Int) := by omega
      go_wp2_with (fail)
      refine kPick (pick_any R _ 12 _ HM.out.2 (by omega)) ?_
      intro a w5 hq1 hq2 hm5 hs5
      obtain ⟨ha0, ha1⟩ := hq1 (by omega)
      have HM5 := Lib.hid (HM.out.trans hm5)
      have HP5 := Lib.hid (HP.out.mv hRQ hm5)
      clear hq1 hq2 hm5 hs5 t0 t1 f0 f1 hPl
      obtain ⟨t0, t1, f0, f1, hPl⟩ := HP5.out.cells
      go_wp2_with (fail)
      refine kWb (WithBound_any N A m c xs ((k : Int), 0, -a) _ HP5.out.row (by have := HP5.out.room.2; omega)) ?_ ?_
      · intro A1 c1 w6 hok hown hb6
        have hm16 : m + 1 ≤ 16 := by have := hok.out.2.1; rw [List.length_append, HP5.out.row.len] at this; exact this
        have hHP6 := HP5.out.below hb6
        have hHM6 := HM5.out.below hb6
        have hap : ∀ a, A1 = some a → w5.heap.size ≤ a.block ∧ a.block < w6.heap.size := OwnB.apart hown
        have hP6l := hHP6.blk.lt
        have hP5l := HP5.out.blk.lt
        have hPA := hHP6.put (OwnB.at_ hown) (fun a ha => by have h1 := hap a ha; have h2 := hHP6.lt; exact ⟨by omega, by omega, h1.2⟩) ⟨OwnB.cap hown, hm16⟩ (N : Int)
        have hMA := (hHM6.setNew (P := P) (by have := HP5.out.lt; have := HQQ.out; omega) hR 0 (.int .i64 (N : Int))).setNew (P := P) (by have := HP5.out.lt; have := HQQ.out; omega) hR 1 (.slice A1 (m + 1) c1)
        obtain ⟨w7, HW7⟩ : ∃ q, Hid (((w6.setCell ⟨P, 0, none⟩ (.int .i64 (N : Int))).setCell ⟨P, 1, none⟩ (.slice A1 (m + 1) c1)).alloc (.cells #[.int .i64 N, .slice A1 (m + 1) c1] 25) = q) := ⟨_, rfl⟩
        have hsz : ((w6.setCell ⟨P, 0, none⟩ (.int .i64 (N : Int))).setCell ⟨P, 1, none⟩ (.slice A1 (m + 1) c1)).heap.size = w6.heap.size := by simp [World.setCell]
        have HBN := Lib.hid (show Blk w7 w6.heap.size 25 #[.int .i64 N, .slice A1 (m + 1) c1] from HW7.out ▸ Blk.at_new hsz _ _)
        have HPN := Lib.hid (show PS w7 Q P N A1 (m + 1) c1 (xs ++ [((k : Int), 0, -a)]) from HW7.out ▸ hPA.alloc _)
        have HMN := Lib.hid (show Mv R (B + 79 + 3 * (k : Int) + 1) w w7 from HW7.out ▸ hMA.alloc _)
        have HAP := Lib.hid (show ∀ a, A1 = some a → a.block ≠ w6.heap.size from fun a ha => by have := (hap a ha).2; omega)
        obtain ⟨g0, g1, gf0, gf1, -⟩ := hHP6.cells
        have hQP := HPN.out.lt
        clear hown hb6 hap t0 t1 f0 f1 hHP6 hHM6 hPA hMA hsz
        obtain ⟨qx, HQX⟩ : ∃ q, Hid (w6.heap.size = q) := ⟨_, rfl⟩
        have hPq : P < qx := by rw [← HQX.out]; exact hP6l
        rw [HQX.out] at HBN HAP
        go_upto_region 11 with fail
        rw [HQX.out]
        rw [HW7.out]
        obtain ⟨t0, t1, f0, f1, hPl⟩ := HPN.out.cells
        go_region_held_law (fun w' => w'.cell? ⟨P, 0, none⟩ = some (.int .i64 N) ∧ w'.cell? ⟨P, 1, none⟩ = some (.slice A1 (m + 1) c1))
          (first | exact ⟨t0, t1⟩ | exact ⟨z0, z1⟩ | exact ⟨y0, y1⟩ | (refine ⟨?_, ?_⟩ <;> (repeat rw [World.cell?_setCell_far _ _ _ _ (by simp <;> omega)]) <;> first | exact y0 | exact y1))
          (first
            | (go_at_call 32; go_loud (with_reducible refine kPick (pick_any R _ 12 _ (Mv.rdDr HMN.out) (by omega)) ?_; intro a2 w8 hq1 hq2 hm8 hs8; have HM8 := Lib.hid (Mv.trans (Mv.drewDr HMN.out) hm8); have HP8 := Lib.hid (PS.mv HPN.out.drew hRQ hm8); have HB8 := Lib.hid (Blk.mvD HBN.out (by omega) hm8); obtain ⟨z0, z1, zf0, zf1, hPl8⟩ := HP8.out.cells; clear hq1 hq2 hm8 hs8))
            | (go_at_call 55; with_reducible refine kWbU (WithBound_at N A1 (m + 1) c1 (xs ++ [((k : Int), 0, -a)]) 0 (k : Int) (IntKind.i64.wrap (a + a2)) _ HP8.out.row (by have := HP8.out.room.2; omega)) HP8.out.row.len ?_; intro p9 A9 n9 c9 ok w9 hok9 hb9; have HP9 := Lib.hid (PS.below HP8.out hb9); have HM9 := Lib.hid (HM8.out.below hb9); have HB9 := Lib.hid (HB8.out.below hb9 HB8.out.lt); obtain ⟨y0, y1, yf0, yf1, hPl9⟩ := HP9.out.cells; have x0 := (HB9.out.cell 0).trans rfl; have x1 := (HB9.out.cell 1).trans rfl; have xf0 := HB9.out.frozen 0; have xf1 := HB9.out.frozen 1; have hxl := HB9.out.lt; have hwx : P < w8.heap.size ∧ qx < w8.heap.size := ⟨hPl8, HB8.out.lt⟩; clear hb9))
        have hwq : w.heap.size ≤ qx ∧ w.heap.size ≤ P := by have := HQQ.out; omega
        have HPX := Lib.hid ((HP9.out.far (q := qx) (by omega) (by omega) HAP.out 0 (.int .i64 p9)).far (q := qx) (by omega) (by omega) HAP.out 1 (.slice A9 n9 c9))
        have HMX := Lib.hid ((HM9.out.setNew hwq.1 hR 0 (.int .i64 p9)).setNew hwq.1 hR 1 (.slice A9 n9 c9))
        clear hwx
        cases ok with
        | true =>
          obtain ⟨rfl, hn9, xs9, ho9⟩ := hok9.out rfl
          have HAP9 := Lib.hid (OwnB.apart ho9)
          have hq8 : qx < w8.heap.size := HB8.out.lt
          have HRW := Lib.hid (((OwnB.at_ ho9).setCell (q := ⟨qx, 0, none⟩) (fun a ha => by have := (HAP9.out a ha).1; simp; omega) (.int .i64 (N : Int))).setCell (q := ⟨qx, 1, none⟩) (fun a ha => by have := (HAP9.out a ha).1; simp; omega) (.slice A9 n9 c9))
          have HPY := Lib.hid (HPX.out.put HRW.out (fun a ha => by have h5 := HAP9.out a ha; exact ⟨by omega, by omega, by simp [World.setCell]; exact h5.2⟩) ⟨OwnB.cap ho9, hn9⟩ (N : Int))
          have HMY := Lib.hid ((HMX.out.setNew hwq.2 hR 0 (.int .i64 (N : Int))).setNew hwq.2 hR 1 (.slice A9 n9 c9))
          clear ho9
          go_wp2_with (fail)
          go_roundw
          case rel => exact ⟨k + 1, A9, n9, c9, xs9, by omega, by omega, by go_num, HPY.out, HMY.out.mono (by push_cast; omega)⟩
          case measure => simp [intOf]; omega
        | false =>
          go_wp2_with (fail)
          go_roundw
          case rel => exact ⟨k + 1, _, _, _, _, by omega, by omega, by go_num, HPX.out, HMX.out.mono (by push_cast; omega)⟩
          case measure => simp [intOf]; omega
      · intro w6 hok hb6
        have hHP6 := HP5.out.below hb6
        have hHM6 := HM5.out.below hb6
        obtain ⟨w7, HW7⟩ : ∃ q, Hid (w6.alloc (.cells #[.int .i64 0, .slice none 0 0] 25) = q) := ⟨_, rfl⟩
        have hb7 : Below w6.heap.size w6 w7 := HW7.out ▸ (Below.refl _ _).alloc (Nat.le_refl _) _
        have hP6l := hHP6.blk.lt
        have HBN := Lib.hid (show Blk w7 w6.heap.size 25 #[.int .i64 0, .slice none 0 0] from HW7.out ▸ Blk.new _ _ _)
        have HPN := Lib.hid (hHP6.below hb7)
        have HMN := Lib.hid (hHM6.below hb7)
        have HAP := Lib.hid (show ∀ a, A = some a → a.block ≠ w6.heap.size from fun a ha => by have := (hHP6.ap a ha).2.2; omega)
        have hQP := HPN.out.lt
        clear hb6 t0 t1 f0 f1 hHP6 hHM6 hb7
        obtain ⟨qx, HQX⟩ : ∃ q, Hid (w6.heap.size = q) := ⟨_, rfl⟩
        have hPq : P < qx := by rw [← HQX.out]; exact hP6l
        rw [HQX.out] at HBN HAP
        go_upto_region 11 with fail
        rw [HQX.out]
        rw [HW7.out]
        obtain ⟨t0, t1, f0, f1, hPl⟩ := HPN.out.cells
        go_region_held_law (fun w' => w'.cell? ⟨P, 0, none⟩ = some (.int .i64 N) ∧ w'.cell? ⟨P, 1, none⟩ = some (.slice A m c))
          (first | exact ⟨t0, t1⟩ | exact ⟨z0, z1⟩ | exact ⟨y0, y1⟩ | (refine ⟨?_, ?_⟩ <;> (repeat rw [World.cell?_setCell_far _ _ _ _ (by simp <;> omega)]) <;> first | exact y0 | exact y1))
          (first
            | (go_at_call 32; go_loud (with_reducible refine kPick (pick_any R _ 12 _ (Mv.rdDr HMN.out) (by omega)) ?_; intro a2 w8 hq1 hq2 hm8 hs8; have HM8 := Lib.hid (Mv.trans (Mv.drewDr HMN.out) hm8); have HP8 := Lib.hid (PS.mv HPN.out.drew hRQ hm8); have HB8 := Lib.hid (Blk.mvD HBN.out (by omega) hm8); obtain ⟨z0, z1, zf0, zf1, hPl8⟩ := HP8.out.cells; clear hq1 hq2 hm8 hs8))
            | (go_at_call 55; with_reducible refine kWbU (WithBound_at N A m c xs 0 (k : Int) (IntKind.i64.wrap (a + a2)) _ HP8.out.row (by have := HP8.out.room.2; omega)) HP8.out.row.len ?_; intro p9 A9 n9 c9 ok w9 hok9 hb9; have HP9 := Lib.hid (PS.below HP8.out hb9); have HM9 := Lib.hid (HM8.out.below hb9); have HB9 := Lib.hid (HB8.out.below hb9 HB8.out.lt); obtain ⟨y0, y1, yf0, yf1, hPl9⟩ := HP9.out.cells; have x0 := (HB9.out.cell 0).trans rfl; have x1 := (HB9.out.cell 1).trans rfl; have xf0 := HB9.out.frozen 0; have xf1 := HB9.out.frozen 1; have hxl := HB9.out.lt; have hwx : P < w8.heap.size ∧ qx < w8.heap.size := ⟨hPl8, HB8.out.lt⟩; clear hb9))
        have hwq : w.heap.size ≤ qx ∧ w.heap.size ≤ P := by have := HQQ.out; omega
        have HPX := Lib.hid ((HP9.out.far (q := qx) (by omega) (by omega) HAP.out 0 (.int .i64 p9)).far (q := qx) (by omega) (by omega) HAP.out 1 (.slice A9 n9 c9))
        have HMX := Lib.hid ((HM9.out.setNew hwq.1 hR 0 (.int .i64 p9)).setNew hwq.1 hR 1 (.slice A9 n9 c9))
        clear hwx
        cases ok with
        | true =>
          obtain ⟨rfl, hn9, xs9, ho9⟩ := hok9.out rfl
          have HAP9 := Lib.hid (OwnB.apart ho9)
          have hq8 : qx < w8.heap.size := HB8.out.lt
          have HRW := Lib.hid (((OwnB.at_ ho9).setCell (q := ⟨qx, 0, none⟩) (fun a ha => by have := (HAP9.out a ha).1; simp; omega) (.int .i64 (N : Int))).setCell (q := ⟨qx, 1, none⟩) (fun a ha => by have := (HAP9.out a ha).1; simp; omega) (.slice A9 n9 c9))
          have HPY := Lib.hid (HPX.out.put HRW.out (fun a ha => by have h5 := HAP9.out a ha; exact ⟨by omega, by omega, by simp [World.setCell]; exact h5.2⟩) ⟨OwnB.cap ho9, hn9⟩ (N : Int))
          have HMY := Lib.hid ((HMX.out.setNew hwq.2 hR 0 (.int .i64 (N : Int))).setNew hwq.2 hR 1 (.slice A9 n9 c9))
          clear ho9
          go_wp2_with (fail)
          go_roundw
          case rel => exact ⟨k + 1, A9, n9, c9, xs9, by omega, by omega, by go_num, HPY.out, HMY.out.mono (by push_cast; omega)⟩
          case measure => simp [intOf]; omega
        | false =>
          go_wp2_with (fail)
          go_roundw
          case rel => exact ⟨k + 1, _, _, _, _, by omega, by omega, by go_num, HPX.out, HMX.out.mono (by push_cast; omega)⟩
          case measure => simp [intOf]; omega
    · obtain rfl : k = N := by omega
      have q0 := (HP.out.res.cell 0).trans rfl
      have q1 := (HP.out.res.cell 1).trans rfl
      have qf0 := HP.out.res.frozen 0
      have qf1 := HP.out.res.frozen 1
      have hQl := HP.out.res.lt
      go_wp2_with (fail)
      refine bodyPost_ret (v := .agg #[.int .i64 (k : Int), .slice A m c]) (by simp [results, Try.results47, go_sem, q0, q1]) rfl (HEND.out _ _ _ _ _ _ _ (by omega) (by omega) HP.out HM.out (by omega))

end Go.Proofs.Ytpefimeogbpagaa
