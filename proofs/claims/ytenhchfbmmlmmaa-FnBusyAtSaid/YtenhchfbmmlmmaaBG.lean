/- Draws of projects and begins: spec.BeginsBy, spec.l20Begun, spec.DrawBusyAt. -/
import Derived.Test.YtenhchfbmmlmmaaBF
import Derived.Test.YtenhchfbmmlmmaaDR4
import Derived.Test.YtenhchfbmmlmmaaDR3
import Derived.Deep.RegionHeldLaw
import Derived.Deep.CutRange
import Derived.Deep.DrawnRows
set_option linter.unusedSimpArgs false
namespace Go.Proofs.Ytenhchfbmmlmmaa
open Go.RowKit
attribute [local go_sem ↓] Go.wp_at_zero Go.wp_at_succ

/-- What BeginsBy leaves, as far as draws need it. -/
def BbV (w : World) (n : Nat) (e : Ending) (w' : World) : Prop := ∃ (A2 : Option Addr) (n2 c2 : Nat) (bs : List Int) (ok : Bool), e = .returned (.tuple #[.slice A2 n2 c2, .bool ok]) ∧ OwnZ w' w.heap.size A2 n2 c2 bs ∧ n2 ≤ 6 ∧ (∀ k, k < n2 → -1 ≤ bs.getD k 0 ∧ bs.getD k 0 ≤ 120) ∧ Below w.heap.size w w'
set_option maxHeartbeats 2000000 in
theorem BeginsBy_any (A : Option Addr) (n c : Nat) (xs : List Int) (A' : Option Addr) (n' c' : Nat) (ys : List Int) (h : Int) (D : Option Addr) (m d : Nat) (os : List Int) (w : World)
    (hx : IntsAt w A n xs) (hy : IntsAt w A' n' ys) (ho : IntsAt w D m os) (hn : n ≤ 1048576) (hn' : n' ≤ 1048576) (hm : m ≤ 1048576) :
    Calls Try.prog 20 #[.agg #[.slice A n c, .slice A' n' c'], .int .i64 h, .slice D m d] w (BbV w n) := by
  have HLX := Lib.hid hx.len
  have HLY := Lib.hid hy.len
  have HLO := Lib.hid ho.len
  have hB0 : Below w.heap.size w (w.alloc (.cells #[.slice A n c, .slice A' n' c'] 25)) := (Below.refl w.heap.size w).alloc (Nat.le_refl _) _
  have HX := Lib.hid (hx.below hB0)
  have HY := Lib.hid (hy.below hB0)
  have HO := Lib.hid (ho.below hB0)
  clear hx hy ho
  go_enter Try.func20, Try.ntmps20
  go_wp2_with (fail)
  refine kB (sProjectOk_any A n c xs A' n' c' ys _ HX.out HY.out hn hn') ?_ ?_
  rotate_left
  · intro w1 _ hb1
    have HB1 := Lib.hid (hB0.trans (hb1.mono hB0.size))
    go_wp2
    go_ret2
    exact ⟨_, _, _, [], _, rfl, own_base (own_lit w1 w1.heap.size _ 1 #[] 0 (Nat.le_refl _) (by decide) rfl) HB1.out.size, by omega, fun k hk => by omega, HB1.out.alloc HB1.out.size _⟩
  intro w1 hp hb1
  obtain ⟨hp1, hp2, hp3, hp4⟩ := hp.out
  have hn6 : n ≤ 6 := by rw [← HLX.out]; exact hp3
  obtain rfl : n' = n := by have := HLX.out; have := HLY.out; omega
  have HB1 := Lib.hid (hB0.trans (hb1.mono hB0.size))
  have HX1 := Lib.hid (HX.out.below hb1)
  have HY1 := Lib.hid (HY.out.below hb1)
  have HO1 := Lib.hid (HO.out.below hb1)
  have e0 : w1.cell? ⟨w.heap.size, 0, none⟩ = some (.slice A n' c) := keep hb1 (by simp [go_sem])
  have e1 : w1.cell? ⟨w.heap.size, 1, none⟩ = some (.slice A' n' c') := keep hb1 (by simp [go_sem])
  clear hb1 hp1 hp2 hp3 hp4
  go_wp2_with (fail)
  refine kS (l1In_any h 1 3 _) ?_ ?_
  rotate_left
  · intro _
    go_wp2
    go_ret2
    exact ⟨_, _, _, [], _, rfl, own_base (own_lit w1 w1.heap.size _ 1 #[] 0 (Nat.le_refl _) (by decide) rfl) HB1.out.size, by omega, fun k hk => by omega, HB1.out.alloc HB1.out.size _⟩
  intro hh
  go_wp2_with (fail)
  refine kQ (sOrderOk_any D m d os (n' : Int) _ HO1.out hm) ?_ ?_
  rotate_left
  · intro mm _
    have HBm := Lib.hid (below_drewN HB1.out mm)
    go_wp2
    go_ret2
    exact ⟨_, _, _, [], _, rfl, own_base (own_lit (w1.drewN mm) w1.heap.size _ 1 #[] 0 (Nat.le_refl _) (by decide) rfl) HB1.out.size, by omega, fun k hk => by omega, HBm.out.alloc HB1.out.size _⟩
  intro mm hok
  obtain rfl : m = n' := by have h1 := hok.out.2.2; have h2 := HLO.out; omega
  have HOV := Lib.hid (show ∀ k, k < m → 0 ≤ os.getD k 0 ∧ os.getD k 0 < m from fun k hk => by
    have h1 := (hok.out.1 k (by rw [HLO.out]; exact hk)).1
    rw [IntWalk.wrap64_in _ (by omega)] at h1
    exact ⟨h1.1, by have := h1.2; omega⟩)
  have hbg := l10Begins_any A m c xs A' c' ys h D d os (w1.drewN mm) (HX1.out.drewN mm) (HY1.out.drewN mm) (HO1.out.drewN mm) hn6 hp.out HOV.out hh.out
  have HBG := Lib.hid hbg
  clear hbg
  go_wp2_with (fail)
  refine HBG.out.mono ?_
  rintro e w2 ⟨g, cv, bs, rfl, hown, hbd, hb2⟩
  have HO2 := Lib.hid (own_base hown HB1.out.size)
  have HBD := Lib.hid hbd
  have HB2 := Lib.hid ((below_drewN HB1.out mm).trans (hb2.mono HB1.out.size))
  clear hown hbd hb2
  go_wp2
  go_ret2
  exact ⟨_, _, _, bs, _, rfl, HO2.out, hn6, HBD.out, HB2.out⟩

/-- The project in its box P, the result's box Q. -/
structure GS (w : World) (R Q P : Nat) (A : Option Addr) (n c : Nat) (A' : Option Addr) (n' c' : Nat) (xs ys : List Int) : Prop where
  lt : Q < P
  rq : R < Q
  pb : Blk w P 25 #[.slice A n c, .slice A' n' c']
  qb : Blk w Q 25 #[.slice none 0 0, .slice none 0 0]
  rx : OwnZ w (Q + 1) A n c xs
  ry : OwnZ w (Q + 1) A' n' c' ys
  ax : ∀ k, (Value.slice A n c).ownBlock = some k → k < P
  ay : ∀ k, (Value.slice A' n' c').ownBlock = some k → k < P
  sz : n ≤ 10 ∧ n' ≤ 10
section
variable {w w' : World} {R Q P q n c n' c' : Nat} {A A' : Option Addr} {xs ys : List Int} {B : Int} {row : Option Nat}
theorem GS.grown (h : GS w R Q P A n c A' n' c' xs ys) (hg : w.grownBy w' row) (hr : ∀ k, row = some k → k = R ∨ P < k) : GS w' R Q P A n c A' n' c' xs ys := by
  have h1 := h.lt
  have h2 := h.rq
  have hno : ∀ k, k ≤ P → Q ≤ k → row ≠ some k := fun k hk hq e => by rcases hr k e with h3 | h3 <;> omega
  exact ⟨h1, h2, (hg.block P h.pb.lt (fun e => hno P (Nat.le_refl _) (by omega) e.symm)).trans h.pb, (hg.block Q h.qb.lt (fun e => hno Q (by omega) (Nat.le_refl _) e.symm)).trans h.qb,
    own_keptZ h.rx hg (fun k hk => hno k (by have := h.ax k hk; omega) (by have := (h.rx.lt k hk).1; omega)), own_keptZ h.ry hg (fun k hk => hno k (by have := h.ay k hk; omega) (by have := (h.ry.lt k hk).1; omega)), h.ax, h.ay, h.sz⟩
theorem GS.mv (h : GS w R Q P A n c A' n' c' xs ys) (hm : Mv R B w w') : GS w' R Q P A n c A' n' c' xs ys := h.grown hm.1 (fun k hk => .inl (Option.some.inj hk).symm)
theorem GS.below (h : GS w R Q P A n c A' n' c' xs ys) (hb : Below w.heap.size w w') : GS w' R Q P A n c A' n' c' xs ys := h.grown (row := none) ⟨hb.os, hb.tape, hb.output, hb.size, fun k hk _ => hb.block k hk⟩ (fun k hk => by cases hk)
theorem GS.drew (h : GS w R Q P A n c A' n' c' xs ys) : GS w.drew R Q P A n c A' n' c' xs ys := ⟨h.lt, h.rq, h.pb, h.qb, own_drewN h.rx 1, own_drewN h.ry 1, h.ax, h.ay, h.sz⟩
theorem GS.cells (h : GS w R Q P A n c A' n' c' xs ys) : w.cell? ⟨P, 0, none⟩ = some (.slice A n c) ∧ w.cell? ⟨P, 1, none⟩ = some (.slice A' n' c') ∧ P < w.heap.size := ⟨(h.pb.cell 0).trans rfl, (h.pb.cell 1).trans rfl, h.pb.lt⟩
theorem GS.outs (h : GS w R Q P A n c A' n' c' xs ys) : w.cell? ⟨Q, 0, none⟩ = some (.slice none 0 0) ∧ w.cell? ⟨Q, 1, none⟩ = some (.slice none 0 0) ∧ w.frozen? ⟨Q, 0, none⟩ = false ∧ w.frozen? ⟨Q, 1, none⟩ = false ∧ Q < w.heap.size := ⟨(h.qb.cell 0).trans rfl, (h.qb.cell 1).trans rfl, h.qb.frozen 0, h.qb.frozen 1, h.qb.lt⟩
end
theorem Mv.rdDr {R : Nat} {B : Int} {w w1 : World} (h : Mv R B w w1) : Rd w1.drew R B := h.2.drewN 1
theorem Mv.rdOf {R : Nat} {B : Int} {w w1 : World} (h : Mv R B w w1) : Rd w1 R B := h.2
theorem Mv.drewDr {R : Nat} {B : Int} {w w1 : World} (h : Mv R B w w1) : Mv R B w w1.drew := h.drewN 1
theorem drew_cell (w : World) (a : Addr) : w.drew.cell? a = w.cell? a := rfl
/-- What a draw of a project and begins leaves. -/
def BegunMade (R : Nat) (B : Int) (w : World) (e : Ending) (w' : World) : Prop :=
  ∃ (A : Option Addr) (n c : Nat) (A' : Option Addr) (n' c' : Nat) (xs ys : List Int) (h : Int) (D : Option Addr) (m d : Nat) (bs : List Int), e = .returned (.tuple #[.agg #[.slice A n c, .slice A' n' c'], .int .i64 h, .slice D m d]) ∧ (n ≤ 10 ∧ n' ≤ 10 ∧ m ≤ 10) ∧ OwnZ w' w.heap.size A n c xs ∧ OwnZ w' w.heap.size A' n' c' ys ∧ OwnZ w' w.heap.size D m d bs ∧ (∀ k, k < m → bs.getD k 0 ≤ 120) ∧ Mv R (B + 200) w w'
set_option maxRecDepth 100000 in
set_option maxHeartbeats 8000000 in
theorem l20Begun_any (R : Nat) (B : Int) (w : World) (h : Rd w R B) (hB : B ≤ 800000000) :
    Calls Try.prog 10 #[.pointer (some ⟨R, 0, none⟩)] w (BegunMade R B w) := by
  have hR := h.lt
  have HQ0 := Lib.hid (Blk.new w 25 #[.slice none 0 0, .slice none 0 0])
  have HM0 := Lib.hid (show Mv R B w (w.alloc (.cells #[.slice none 0 0, .slice none 0 0] 25)) from ⟨grown_of_below ((Below.refl _ _).alloc (Nat.le_refl _) _) _, h.alloc _⟩)
  clear h
  go_enter Try.func10, Try.ntmps10
  go_wp2_with (fail)
  refine (l20Project_any R B 12 _ HM0.out.2 (by omega) (by omega)).mono ?_
  rintro e w1 ⟨A, n, c, A', n', c', xs, ys, rfl, ho1, ho2, hn10, hm10, hm1⟩
  obtain ⟨Q, HQQ⟩ : ∃ q, Hid (w.heap.size = q) := ⟨_, rfl⟩
  have hRQ : R < Q := by have := HQQ.out; omega
  have hQ1 : Blk w1 Q 25 #[.slice none 0 0, .slice none 0 0] := HQQ.out ▸ (hm1.1.block _ HQ0.out.lt (fun e => by have := Option.some.inj e; omega)).trans HQ0.out
  obtain ⟨w2, HW2⟩ : ∃ q, Hid (w1.alloc (.cells #[.slice A n c, .slice A' n' c'] 25) = q) := ⟨_, rfl⟩
  have hb2 : Below w1.heap.size w1 w2 := HW2.out ▸ (Below.refl _ _).alloc (Nat.le_refl _) _
  have hbase : Q + 1 ≤ (w.alloc (.cells #[.slice none 0 0, .slice none 0 0] 25)).heap.size := by have := HQQ.out; simp; omega
  have HG2 := Lib.hid (show GS w2 R Q w1.heap.size A n c A' n' c' xs ys from ⟨hQ1.lt, hRQ, HW2.out ▸ Blk.new _ _ _, hQ1.below hb2 hQ1.lt, own_base (own_below ho1 hb2) hbase, own_base (own_below ho2 hb2) hbase, fun k hk => (ho1.lt k hk).2, fun k hk => (ho2.lt k hk).2, ⟨hn10, hm10⟩⟩)
  have HM2 := Lib.hid ((HM0.out.trans hm1).below hb2)
  clear ho1 ho2 hm1 hQ1 hb2 HQ0 HM0 hbase
  have HEND := Lib.hid (show ∀ (wz : World) (P : Nat) (h : Int) (D : Option Addr) (m d : Nat) (bs : List Int) (Bz : Int), GS wz R Q P A n c A' n' c' xs ys → OwnZ wz (Q + 1) D m d bs → m ≤ 10 → (∀ k, k < m → bs.getD k 0 ≤ 120) → Mv R Bz w wz → Bz ≤ B + 200 → BegunMade R B w (.returned (.tuple #[.agg #[.slice A n c, .slice A' n' c'], .int .i64 h, .slice D m d])) ((wz.setCell ⟨Q, 0, none⟩ (.slice A n c)).setCell ⟨Q, 1, none⟩ (.slice A' n' c')) from fun wz P h D m d bs Bz hg hr hm hbd hmv hz => by
    have hq := HQQ.out
    exact ⟨A, n, c, A', n', c', xs, ys, h, D, m, d, bs, rfl, ⟨hg.sz.1, hg.sz.2, hm⟩, own_base (own_setOldZ (own_setOldZ hg.rx (by omega) 0 _) (by omega) 1 _) (by omega), own_base (own_setOldZ (own_setOldZ hg.ry (by omega) 0 _) (by omega) 1 _) (by omega), own_base (own_setOldZ (own_setOldZ hr (by omega) 0 _) (by omega) 1 _) (by omega), hbd, ((hmv.setNew (P := Q) (by omega) hR 0 _).setNew (P := Q) (by omega) hR 1 _).mono hz⟩)
  go_wp2_with (fail)
  rw [HW2.out]
  rw [HQQ.out]
  obtain ⟨P, HPP⟩ : ∃ q, Hid (w1.heap.size = q) := ⟨_, rfl⟩
  rw [HPP.out] at HG2 ⊢
  refine kPick (pick_any R _ 3 _ HM2.out.2 (by omega)) ?_
  intro x w3 hq1 hq2 hm3 hs3
  obtain ⟨hx0, hx1⟩ := hq1 (by omega)
  have HG3 := Lib.hid (HG2.out.mv hm3)
  have HM3 := Lib.hid (HM2.out.trans hm3)
  clear hq1 hq2 hm3 hs3 HG2 HM2
  go_wp2_with (fail)
  refine kPick (pick_any R _ 40 _ HM3.out.2 (by omega)) ?_
  intro y w4 hq1 hq2 hm4 hs4
  obtain ⟨hy0, hy1⟩ := hq1 (by omega)
  have HG4 := Lib.hid (HG3.out.mv hm4)
  have HM4 := Lib.hid (HM3.out.trans hm4)
  clear hq1 hq2 hm4 hs4 HG3 HM3
  go_wp2_with (fail)
  refine kPick (pick_any R _ 40 _ HM4.out.2 (by omega)) ?_
  intro z w5 hq1 hq2 hm5 hs5
  obtain ⟨hz0, hz1⟩ := hq1 (by omega)
  have HG5 := Lib.hid (HG4.out.mv hm5)
  have HM5 := Lib.hid (HM4.out.trans hm5)
  clear hq1 hq2 hm5 hs5 HG4 HM4
  obtain ⟨p0, p1, hpl⟩ := HG5.out.cells
  go_upto_region 3 with fail
  obtain ⟨h, HHH⟩ : ∃ q : Int, Hid (1 + x + y / 39 - z / 39 = q) := ⟨_, rfl⟩
  rw [HHH.out]
  go_cut [30] from 24 to 30 (fun s wx => ∃ b : Bool, s = .bool b ∧ GS wx R Q P A n c A' n' c' xs ys ∧ Mv R (B + 70) w wx)
  case first =>
    go_wp2_with (fail)
    refine kB (sProjectOk_any A n c xs A' n' c' ys _ (OwnZ.at_ HG5.out.rx) (OwnZ.at_ HG5.out.ry) (by omega) (by omega)) ?_ ?_
    · intro w6 _ hb6
      have HG6 := Lib.hid (HG5.out.below hb6)
      have HM6 := Lib.hid (HM5.out.below hb6)
      clear hb6
      go_wp2_with (fail)
      refine kPick (pick_any R _ 4 _ HM6.out.2 (by omega)) ?_
      intro u w7 hq1 hq2 hm7 hs7
      have HG7 := Lib.hid (HG6.out.mv hm7)
      have HM7 := Lib.hid (HM6.out.trans hm7)
      clear hq1 hq2 hm7 hs7
      go_wp2_with (fail)
      all_goals
        go_meet
        exact ⟨_, rfl, HG7.out, HM7.out.mono (by omega)⟩
    · intro w6 _ hb6
      have HG6 := Lib.hid (HG5.out.below hb6)
      have HM6 := Lib.hid (HM5.out.below hb6)
      clear hb6
      go_wp2_with (fail)
      go_meet
      exact ⟨_, rfl, HG6.out, HM6.out.mono (by omega)⟩
  case rest =>
    obtain ⟨b, rfl, hg6, hm6⟩ := hcut
    have HG6 := Lib.hid hg6
    have HM6 := Lib.hid hm6
    clear hg6 hm6 p0 p1 hpl HG5 HM5
    obtain ⟨p0, p1, hpl⟩ := HG6.out.cells
    cases b with
    | false =>
      go_wp2_with (fail)
      go_loopw [9, 10] (fun o i wr => ∃ (k g cv : Nat) (bs : List Int), k ≤ n ∧ i = .int .i64 k ∧ o = .slice (some ⟨g, 0, none⟩) k cv ∧ P < g ∧ OwnZ wr (Q + 1) (some ⟨g, 0, none⟩) k cv bs ∧ (∀ j, j < k → bs.getD j 0 ≤ 120) ∧ GS wr R Q P A n c A' n' c' xs ys ∧ Mv R (B + 150 + 2 * (k : Int)) w wr) (fun _ i _ => n - (intOf i).toNat)
      case atStart => exact ⟨0, wc.heap.size, 0, [], Nat.zero_le _, rfl, rfl, hpl, own_base (own_lit wc wc.heap.size _ 1 #[] 0 (Nat.le_refl _) (by decide) rfl) (by have := HG6.out.lt; omega), fun j hj => by omega, HG6.out.below ((Below.refl _ _).alloc (Nat.le_refl _) _), (HM6.out.alloc _).mono (by omega)⟩
      case round =>
        obtain ⟨wo, rfl⟩ : ∃ wo : World, wo = wr := ⟨_, rfl⟩
        clear p0 p1 hpl HG6 HM6
        obtain ⟨k, g, cv, bs, hk, rfl, rfl, hPg, hown, hbd, hg, hm⟩ := hrel
        have HG := Lib.hid hg
        have HM := Lib.hid hm
        have HO := Lib.hid hown
        have HBD := Lib.hid hbd
        obtain ⟨p0, p1, hpl⟩ := hg.cells
        have hn10 := hg.sz.1
        clear hg hm hown hbd
        by_cases hkn : k < n
        · have hkI : (k : Int) < (n : Int) := by omega
          go_wp2_with (fail)
          refine kPick (pick_any R _ 20 _ HM.out.2 (by omega)) ?_
          intro x1 wA hq1 hq2 hmA hsA
          obtain ⟨hx10, hx11⟩ := hq1 (by omega)
          have HGA := Lib.hid (HG.out.mv hmA)
          have HMA := Lib.hid (HM.out.trans hmA)
          have HOA := Lib.hid (own_mv HO.out (by have := HG.out.rq; omega) hmA)
          clear hq1 hq2 hmA hsA
          go_wp2_with (fail)
          refine kPick (pick_any R _ 30 _ HMA.out.2 (by omega)) ?_
          intro x2 wC hq1 hq2 hmC hsC
          obtain ⟨hx20, hx21⟩ := hq1 (by omega)
          have HGC := Lib.hid (HGA.out.mv hmC)
          have HMC := Lib.hid (HMA.out.trans hmC)
          have HOC := Lib.hid (own_mv HOA.out (by have := HG.out.rq; omega) hmC)
          have hQC : Q + 1 ≤ wC.heap.size := by have := HGC.out.qb.lt; omega
          have hPC : P < wC.heap.size := HGC.out.pb.lt
          clear hq1 hq2 hmC hsC
          have hval : x1 - x2 / 29 ≤ 120 := by omega
          go_wp2_with (first
            | (at_builtin; refine wpl_app rowZ rfl _ _ (by rfl) (Q + 1) _ k (vI bs) (by rfl) (HOC.out.alloc _) ⟨wC.heap.size, 0, none⟩ 1 1 (vI [x1 - x2 / 29]) (by rfl) rfl (cell_one_at (by simp) _ _) (vI_one _) (by decide) (by omega) (by simp; omega) ?_
               intro g' cap' wB hownB hgrow hat hltB
               have HGB := Lib.hid ((HGC.out.below ((Below.refl _ _).alloc (Nat.le_refl _) (.cells #[.int .i64 (x1 - x2 / 29)] 3))).grown hgrow (fun r hr => .inr (by have h5 : g = r := Option.some.inj hr; omega)))
               have HMB := Lib.hid ((HMC.out.alloc (.cells #[.int .i64 (x1 - x2 / 29)] 3)).grown hgrow (fun r hr => by have h5 : g = r := Option.some.inj hr; have := HQQ.out; have := HGC.out.lt; omega) hR)
               have HOB := Lib.hid hownB
               have hPg' : P < g' := by
                 rcases hat with e | e
                 · have h5 : g = g' := Option.some.inj e; omega
                 · simp at e; omega
               clear hownB hgrow hat hltB))
          go_roundw
          case rel =>
            refine ⟨k + 1, g', cap', bs ++ [x1 - x2 / 29], by omega, by go_num, rfl, hPg', by show World.ownsRow _ _ _ _ _ _ (vI _); rw [vI_app]; exact HOB.out, fun j hj => ?_, HGB.out, HMB.out.mono (by push_cast; omega)⟩
            have hl := OwnZ.len HO.out
            rcases Nat.lt_or_ge j k with h5 | h5
            · have h6 := HBD.out j h5
              rwa [show (bs ++ [x1 - x2 / 29]).getD j 0 = bs.getD j 0 by simp [List.getD, List.getElem?_append_left (show j < bs.length by omega)]]
            · obtain rfl : j = k := by omega
              rw [show (bs ++ [x1 - x2 / 29]).getD j 0 = x1 - x2 / 29 by simp [List.getD, List.getElem?_append_right (show bs.length ≤ j by omega), hl]]
              exact hval
          case measure => simp [intOf]; omega
        · obtain rfl : k = n := by omega
          obtain ⟨q0, q1, qf0, qf1, hql⟩ := HG.out.outs
          go_wp2_with (fail)
          refine bodyPost_ret (v := .tuple #[.agg #[.slice A k c, .slice A' n' c'], .int .i64 h, .slice (some ⟨g, 0, none⟩) k cv]) (by simp [results, Try.results10, go_sem, q0, q1]) rfl (HEND.out _ _ _ _ _ _ _ _ HG.out HO.out (by omega) HBD.out HM.out (by omega))
    | true =>
      go_wp2_with (fail)
      refine wp_region_held_drew (S := (fun w' => w'.cell? ⟨P, 0, none⟩ = some (.slice A n c) ∧ w'.cell? ⟨P, 1, none⟩ = some (.slice A' n' c'))) (by kernel_rfl) ?_ (fun hHeld => ?_)
      · exact ⟨p0, p1⟩
      refine wpAnyH_take (i := 0) (oi := _) (v := ?_) rfl (by kernel_rfl) (by kernel_rfl) (by kernel_rfl) (fun _ _ _ h => h) (Or.inl ⟨by kernel_rfl, ?_⟩) (by assumption) ?_
      rotate_left
      · (intro w hSw; (try dsimp only at hSw); go_simp; (try with_reducible rfl))
      try simp only [Act.put, List.getElem_toArray, List.getElem_cons_succ, List.getElem_cons_zero, List.setIfInBounds_toArray, List.set_cons_zero, List.set_cons_succ]
      refine wpAnyH_take (i := 1) (oi := _) (v := ?_) rfl (by kernel_rfl) (by kernel_rfl) (by kernel_rfl) (fun _ _ _ h => h) (Or.inl ⟨by kernel_rfl, ?_⟩) (by assumption) ?_
      rotate_left
      · (intro w hSw; (try dsimp only at hSw); go_simp; (try with_reducible rfl))
      try simp only [Act.put, List.getElem_toArray, List.getElem_cons_succ, List.getElem_cons_zero, List.setIfInBounds_toArray, List.set_cons_zero, List.set_cons_succ]
      refine wpAnyH_take (i := 2) (oi := _) (v := ?_) rfl (by kernel_rfl) (by kernel_rfl) (by kernel_rfl) (fun _ _ _ h => h) (Or.inl ⟨by kernel_rfl, ?_⟩) (by assumption) ?_
      rotate_left
      · (intro w hSw; (try dsimp only at hSw); go_simp; (try with_reducible rfl))
      try simp only [Act.put, List.getElem_toArray, List.getElem_cons_succ, List.getElem_cons_zero, List.setIfInBounds_toArray, List.set_cons_zero, List.set_cons_succ]
      refine wpAnyH_take (i := 3) (oi := _) (v := ?_) rfl (by kernel_rfl) (by kernel_rfl) (by kernel_rfl) (fun _ _ _ h => h) (Or.inl ⟨by kernel_rfl, ?_⟩) (by assumption) ?_
      rotate_left
      · (intro w hSw; (try dsimp only at hSw); go_simp; (try with_reducible rfl))
      try simp only [Act.put, List.getElem_toArray, List.getElem_cons_succ, List.getElem_cons_zero, List.setIfInBounds_toArray, List.set_cons_zero, List.set_cons_succ]
      refine wpAnyH_take (i := 4) (oi := _) (v := ?_) rfl (by kernel_rfl) (by kernel_rfl) (by kernel_rfl) (fun _ _ _ h => h) (Or.inl ⟨by kernel_rfl, ?_⟩) (by assumption) ?_
      rotate_left
      · (intro w hSw; (try dsimp only at hSw); go_simp; (try with_reducible rfl))
      try simp only [Act.put, List.getElem_toArray, List.getElem_cons_succ, List.getElem_cons_zero, List.setIfInBounds_toArray, List.set_cons_zero, List.set_cons_succ]
      refine wpAnyH_take (i := 5) (oi := _) (v := ?_) rfl (by kernel_rfl) (by kernel_rfl) (by kernel_rfl) (fun _ _ _ h => h) (Or.inl ⟨by kernel_rfl, ?_⟩) (by assumption) ?_
      rotate_left
      · (intro w hSw; (try dsimp only at hSw); go_simp; (try with_reducible rfl))
      try simp only [Act.put, List.getElem_toArray, List.getElem_cons_succ, List.getElem_cons_zero, List.setIfInBounds_toArray, List.set_cons_zero, List.set_cons_succ]
      refine wpAnyH_ready (rs := [6]) (by kernel_rfl) (by simp) ?_
      refine AllReadyH.cons (o := _) rfl (fun K hK => ?_) (AllReadyH.nil)
      go_simp
      go_at_call 21; with_reducible refine kMvI (shuffle_any R n _ _ (Mv.rdDr HM6.out) (by omega) (by have := HG6.out.sz.1; omega)) ?_
      intro D7 d7 os w7 hown7 hl7 hm7
      have HG7 := Lib.hid (GS.mv HG6.out.drew hm7)
      have HM7 := Lib.hid (Mv.trans (Mv.drewDr HM6.out) hm7)
      have HO7 := Lib.hid hown7
      have S7 := HG7.out.cells
      clear hown7 hl7 hm7
      go_wp2_with fail
      refine hK.out _ _ ?_ (fun hHeld => ?_)
      · exact ⟨S7.1, S7.2.1⟩
      clear hK K
      try simp only [Act.put, List.getElem_toArray, List.getElem_cons_succ, List.getElem_cons_zero, List.setIfInBounds_toArray, List.set_cons_zero, List.set_cons_succ]
      refine wpAnyH_ready (rs := [7]) (by kernel_rfl) (by simp) ?_
      refine AllReadyH.cons (o := _) rfl (fun K hK => ?_) (AllReadyH.nil)
      go_simp
      go_at_call 20; with_reducible refine Calls.mono (BeginsBy_any A n c xs A' n' c' ys h D7 n d7 os _ (OwnZ.at_ HG7.out.rx) (OwnZ.at_ HG7.out.ry) (ownI_at HO7.out) (by have := HG7.out.sz.1; omega) (by have := HG7.out.sz.2; omega) (by have := HG7.out.sz.1; omega)) ?_
      rintro e w8 ⟨D8, m8, d8, bs8, ok8, rfl, hown8, hm86, hbd8, hb8⟩
      have HG8 := Lib.hid (GS.below HG7.out hb8)
      have HM8 := Lib.hid (HM7.out.below hb8)
      have hpw : P < w7.heap.size := S7.2.2
      have hqp : Q < P := HG7.out.lt
      have HO8 := Lib.hid (show OwnZ w8 (Q + 1) D8 m8 d8 bs8 from own_base hown8 (by omega))
      have HP8 := Lib.hid (show ∀ k, (Value.slice D8 m8 d8).ownBlock = some k → P < k from fun k hk => by have := (hown8.lt k hk).1; omega)
      have HD8 := Lib.hid (show ∀ k, k < m8 → bs8.getD k 0 ≤ 120 from fun k hk => (hbd8 k hk).2)
      have S8 := HG8.out.cells
      clear hown8 hbd8 hb8 S7
      go_wp2_with fail
      refine hK.out _ _ ?_ (fun hHeld => ?_)
      · exact ⟨S8.1, S8.2.1⟩
      clear hK K
      try simp only [Act.put, List.getElem_toArray, List.getElem_cons_succ, List.getElem_cons_zero, List.setIfInBounds_toArray, List.set_cons_zero, List.set_cons_succ]
      refine wpAnyH_take (i := 8) (oi := _) (v := ?_) rfl (by kernel_rfl) (by kernel_rfl) (by kernel_rfl) (fun _ _ _ h => h) (Or.inl ⟨by kernel_rfl, ?_⟩) (by assumption) ?_
      rotate_left
      · (intro w hSw; (try dsimp only at hSw); go_simp; (try with_reducible rfl))
      try simp only [Act.put, List.getElem_toArray, List.getElem_cons_succ, List.getElem_cons_zero, List.setIfInBounds_toArray, List.set_cons_zero, List.set_cons_succ]
      refine wpAnyH_take (i := 9) (oi := _) (v := ?_) rfl (by kernel_rfl) (by kernel_rfl) (by kernel_rfl) (fun _ _ _ h => h) (Or.inl ⟨by kernel_rfl, ?_⟩) (by assumption) ?_
      rotate_left
      · (intro w hSw; (try dsimp only at hSw); go_simp; (try with_reducible rfl))
      try simp only [Act.put, List.getElem_toArray, List.getElem_cons_succ, List.getElem_cons_zero, List.setIfInBounds_toArray, List.set_cons_zero, List.set_cons_succ]
      refine wpAnyH_take (i := 10) (oi := _) (v := ?_) rfl (by kernel_rfl) (by kernel_rfl) (by kernel_rfl) (fun _ _ _ h => h) (Or.inl ⟨by kernel_rfl, ?_⟩) (by assumption) ?_
      rotate_left
      · (intro w hSw; (try dsimp only at hSw); go_simp; (try with_reducible rfl))
      try simp only [Act.put, List.getElem_toArray, List.getElem_cons_succ, List.getElem_cons_zero, List.setIfInBounds_toArray, List.set_cons_zero, List.set_cons_succ]
      refine wpAnyH_take (i := 11) (oi := _) (v := ?_) rfl (by kernel_rfl) (by kernel_rfl) (by kernel_rfl) (fun _ _ _ h => h) (Or.inl ⟨by kernel_rfl, ?_⟩) (by assumption) ?_
      rotate_left
      · (intro w hSw; (try dsimp only at hSw); go_simp; (try with_reducible rfl))
      try simp only [Act.put, List.getElem_toArray, List.getElem_cons_succ, List.getElem_cons_zero, List.setIfInBounds_toArray, List.set_cons_zero, List.set_cons_succ]
      refine wpAnyH_take (i := 12) (oi := _) (v := ?_) rfl (by kernel_rfl) (by kernel_rfl) (by kernel_rfl) (fun _ _ _ h => h) (Or.inl ⟨by kernel_rfl, ?_⟩) (by assumption) ?_
      rotate_left
      · (intro w hSw; (try dsimp only at hSw); go_simp; (try with_reducible rfl))
      try simp only [Act.put, List.getElem_toArray, List.getElem_cons_succ, List.getElem_cons_zero, List.setIfInBounds_toArray, List.set_cons_zero, List.set_cons_succ]
      refine wpAnyH_done (by kernel_rfl) ?_ _
      clear p0 p1 hpl HG6 HM6
      obtain ⟨p0, p1, hpl⟩ := S8
      cases ok8 with
      | false =>
        go_wp2_with (fail)
        go_loopw [9, 10] (fun o i wr => ∃ (k g cv : Nat) (bs : List Int), k ≤ n ∧ i = .int .i64 k ∧ o = .slice (some ⟨g, 0, none⟩) k cv ∧ P < g ∧ OwnZ wr (Q + 1) (some ⟨g, 0, none⟩) k cv bs ∧ (∀ j, j < k → bs.getD j 0 ≤ 120) ∧ GS wr R Q P A n c A' n' c' xs ys ∧ Mv R (B + 150 + 2 * (k : Int)) w wr) (fun _ i _ => n - (intOf i).toNat)
        case atStart => exact ⟨0, w8.heap.size, 0, [], Nat.zero_le _, rfl, rfl, hpl, own_base (own_lit w8 w8.heap.size _ 1 #[] 0 (Nat.le_refl _) (by decide) rfl) (by have := HG8.out.lt; omega), fun j hj => by omega, HG8.out.below ((Below.refl _ _).alloc (Nat.le_refl _) _), (HM8.out.alloc _).mono (by omega)⟩
        case round =>
          obtain ⟨wo, rfl⟩ : ∃ wo : World, wo = wr := ⟨_, rfl⟩
          clear p0 p1 hpl HG8 HM8
          obtain ⟨k, g, cv, bs, hk, rfl, rfl, hPg, hown, hbd, hg, hm⟩ := hrel
          have HG := Lib.hid hg
          have HM := Lib.hid hm
          have HO := Lib.hid hown
          have HBD := Lib.hid hbd
          obtain ⟨p0, p1, hpl⟩ := hg.cells
          have hn10 := hg.sz.1
          clear hg hm hown hbd
          by_cases hkn : k < n
          · have hkI : (k : Int) < (n : Int) := by omega
            go_wp2_with (fail)
            refine kPick (pick_any R _ 20 _ HM.out.2 (by omega)) ?_
            intro x1 wA hq1 hq2 hmA hsA
            obtain ⟨hx10, hx11⟩ := hq1 (by omega)
            have HGA := Lib.hid (HG.out.mv hmA)
            have HMA := Lib.hid (HM.out.trans hmA)
            have HOA := Lib.hid (own_mv HO.out (by have := HG.out.rq; omega) hmA)
            clear hq1 hq2 hmA hsA
            go_wp2_with (fail)
            refine kPick (pick_any R _ 30 _ HMA.out.2 (by omega)) ?_
            intro x2 wC hq1 hq2 hmC hsC
            obtain ⟨hx20, hx21⟩ := hq1 (by omega)
            have HGC := Lib.hid (HGA.out.mv hmC)
            have HMC := Lib.hid (HMA.out.trans hmC)
            have HOC := Lib.hid (own_mv HOA.out (by have := HG.out.rq; omega) hmC)
            have hQC : Q + 1 ≤ wC.heap.size := by have := HGC.out.qb.lt; omega
            have hPC : P < wC.heap.size := HGC.out.pb.lt
            clear hq1 hq2 hmC hsC
            have hval : x1 - x2 / 29 ≤ 120 := by omega
            go_wp2_with (first
              | (at_builtin; refine wpl_app rowZ rfl _ _ (by rfl) (Q + 1) _ k (vI bs) (by rfl) (HOC.out.alloc _) ⟨wC.heap.size, 0, none⟩ 1 1 (vI [x1 - x2 / 29]) (by rfl) rfl (cell_one_at (by simp) _ _) (vI_one _) (by decide) (by omega) (by simp; omega) ?_
                 intro g' cap' wB hownB hgrow hat hltB
                 have HGB := Lib.hid ((HGC.out.below ((Below.refl _ _).alloc (Nat.le_refl _) (.cells #[.int .i64 (x1 - x2 / 29)] 3))).grown hgrow (fun r hr => .inr (by have h5 : g = r := Option.some.inj hr; omega)))
                 have HMB := Lib.hid ((HMC.out.alloc (.cells #[.int .i64 (x1 - x2 / 29)] 3)).grown hgrow (fun r hr => by have h5 : g = r := Option.some.inj hr; have := HQQ.out; have := HGC.out.lt; omega) hR)
                 have HOB := Lib.hid hownB
                 have hPg' : P < g' := by
                   rcases hat with e | e
                   · have h5 : g = g' := Option.some.inj e; omega
                   · simp at e; omega
                 clear hownB hgrow hat hltB))
            go_roundw
            case rel =>
              refine ⟨k + 1, g', cap', bs ++ [x1 - x2 / 29], by omega, by go_num, rfl, hPg', by show World.ownsRow _ _ _ _ _ _ (vI _); rw [vI_app]; exact HOB.out, fun j hj => ?_, HGB.out, HMB.out.mono (by push_cast; omega)⟩
              have hl := OwnZ.len HO.out
              rcases Nat.lt_or_ge j k with h5 | h5
              · have h6 := HBD.out j h5
                rwa [show (bs ++ [x1 - x2 / 29]).getD j 0 = bs.getD j 0 by simp [List.getD, List.getElem?_append_left (show j < bs.length by omega)]]
              · obtain rfl : j = k := by omega
                rw [show (bs ++ [x1 - x2 / 29]).getD j 0 = x1 - x2 / 29 by simp [List.getD, List.getElem?_append_right (show bs.length ≤ j by omega), hl]]
                exact hval
            case measure => simp [intOf]; omega
          · obtain rfl : k = n := by omega
            obtain ⟨q0, q1, qf0, qf1, hql⟩ := HG.out.outs
            go_wp2_with (fail)
            refine bodyPost_ret (v := .tuple #[.agg #[.slice A k c, .slice A' n' c'], .int .i64 h, .slice (some ⟨g, 0, none⟩) k cv]) (by simp [results, Try.results10, go_sem, q0, q1]) rfl (HEND.out _ _ _ _ _ _ _ _ HG.out HO.out (by omega) HBD.out HM.out (by omega))
      | true =>
        by_cases hm0 : m8 = 0
        · subst hm0
          obtain ⟨q0, q1, qf0, qf1, hql⟩ := HG8.out.outs
          go_wp2_with (fail)
          refine bodyPost_ret (v := .tuple #[.agg #[.slice A n c, .slice A' n' c'], .int .i64 h, .slice D8 0 d8]) (by simp [results, Try.results10, go_sem, q0, q1]) rfl (HEND.out _ _ _ _ _ _ _ _ HG8.out HO8.out (by omega) HD8.out HM8.out (by omega))
        · have hm0I : (0 : Int) < (m8 : Int) := by omega
          go_wp2_with (fail)
          refine (odd_any R _ 4 _ HM8.out.2 (by omega) (by omega)).mono ?_
          rintro e w9 ⟨bo, rfl, hm9, hs9⟩
          have HG9 := Lib.hid (HG8.out.mv hm9)
          have HM9 := Lib.hid (HM8.out.trans hm9)
          have HO9 := Lib.hid (own_mv HO8.out (by have := HG8.out.rq; omega) hm9)
          clear hm9 hs9 p0 p1 hpl
          cases bo with
          | false =>
            obtain ⟨p0, p1, hpl⟩ := HG9.out.cells
            obtain ⟨q0, q1, qf0, qf1, hql⟩ := HG9.out.outs
            go_wp2_with (fail)
            refine bodyPost_ret (v := .tuple #[.agg #[.slice A n c, .slice A' n' c'], .int .i64 h, .slice D8 m8 d8]) (by simp [results, Try.results10, go_sem, q0, q1]) rfl (HEND.out _ _ _ _ _ _ _ _ HG9.out HO9.out (by omega) HD8.out HM9.out (by omega))
          | true =>
            obtain ⟨p0, p1, hpl⟩ := HG9.out.cells
            go_wp2_with (fail)
            refine kPick (pick_any R _ (m8 : Int) _ HM9.out.2 (by omega)) ?_
            intro a wA hq1 hq2 hmA hsA
            obtain ⟨ha0, ha1⟩ := hq1 (by omega)
            have HGA := Lib.hid (HG9.out.mv hmA)
            have HMA := Lib.hid (HM9.out.trans hmA)
            have HOA := Lib.hid (own_mv HO9.out (by have := HG8.out.rq; omega) hmA)
            clear hq1 hq2 hmA hsA
            go_wp2_with (fail)
            refine kPick (pick_any R _ 20 _ HMA.out.2 (by omega)) ?_
            intro v wB hq1 hq2 hmB hsB
            obtain ⟨hv0, hv1⟩ := hq1 (by omega)
            have HGB := Lib.hid (HGA.out.mv hmB)
            have HMB := Lib.hid (HMA.out.trans hmB)
            have HOB := Lib.hid (own_mv HOA.out (by have := HG8.out.rq; omega) hmB)
            clear hq1 hq2 hmB hsB p0 p1 hpl
            obtain ⟨a, rfl⟩ := Int.eq_ofNat_of_zero_le ha0
            have haN : a < m8 := by omega
            obtain ⟨g, rfl, hgB, hgl⟩ := own_cellsZ HOB.out (by omega)
            have hPg : P < g := HP8.out g rfl
            obtain ⟨b9, off9, e9, hd9⟩ := (OwnZ.at_ HOB.out).cells (by omega)
            cases e9
            have d9 := hd9 a haN
            rw [Nat.zero_add] at d9
            have f9 := HOB.out.frozenAt a
            have hcv := OwnZ.cap HOB.out
            obtain ⟨p0, p1, hpl⟩ := HGB.out.cells
            clear hd9
            obtain ⟨wz, HWZ⟩ : ∃ q, Hid (wB.setCell ⟨g, a, none⟩ (.int .i64 v) = q) := ⟨_, rfl⟩
            have hset : wB.grownBy (wB.setCell ⟨g, a, none⟩ (.int .i64 v)) (some g) := ⟨rfl, rfl, rfl, by simp [World.setCell], fun k _ hk => Below.heap_setCell _ _ _ _ (fun e => hk (by rw [e]))⟩
            have HGZ := Lib.hid (show GS wz R Q P A n c A' n' c' xs ys from HWZ.out ▸ HGB.out.grown hset (fun k hk => .inr (by have h5 : g = k := Option.some.inj hk; omega)))
            have HMZ := Lib.hid (show Mv R (B + 150) w wz from HWZ.out ▸ (HMB.out.setNew (P := g) (by have := HQQ.out; omega) hR a _).mono (by omega))
            have HOZ := Lib.hid (show OwnZ wz (Q + 1) (some ⟨g, 0, none⟩) m8 d8 (bs8.set a v) from HWZ.out ▸ (by
              have h1 := own_setZ HOB.out a (.int .i64 v)
              show World.ownsRow _ _ _ _ _ _ (vI _)
              rw [show vI (bs8.set a v) = (vI bs8).set a (.int .i64 v) by simp [vI, List.map_set]]
              exact h1))
            have HDZ := Lib.hid (show ∀ k, k < m8 → (bs8.set a v).getD k 0 ≤ 120 from fun k hk => by
              have hl := OwnZ.len HOB.out
              by_cases e : a = k
              · subst e; rw [show (bs8.set a v).getD a 0 = v by simp [List.getD, hl, haN]]; omega
              · rw [show (bs8.set a v).getD k 0 = bs8.getD k 0 by simp [List.getD, e]]; exact HD8.out k hk)
            clear hset
            go_upto_region 8 with fail
            rw [HWZ.out]
            clear p0 p1 hpl d9 f9
            obtain ⟨p0, p1, hpl⟩ := HGZ.out.cells
            obtain ⟨q0, q1, qf0, qf1, hql⟩ := HGZ.out.outs
            go_wp2_with (fail)
            refine bodyPost_ret (v := .tuple #[.agg #[.slice A n c, .slice A' n' c'], .int .i64 h, .slice (some ⟨g, 0, none⟩) m8 d8]) (by simp [results, Try.results10, go_sem, q0, q1]) rfl (HEND.out _ _ _ _ _ _ _ _ HGZ.out HOZ.out (by omega) HDZ.out HMZ.out (by omega))

end Go.Proofs.Ytenhchfbmmlmmaa
