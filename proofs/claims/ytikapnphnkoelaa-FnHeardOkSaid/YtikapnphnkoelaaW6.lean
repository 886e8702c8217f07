/- States by the reference: spec.StateNew, spec.DoAt. -/
import Derived.Test.YtikapnphnkoelaaRG
import Derived.Test.YtikapnphnkoelaaW3
import Derived.Test.YtikapnphnkoelaaS5
import Derived.Deep.RegionHeldLaw
import Derived.Deep.CutRange
import Derived.Deep.DrawnRows
set_option linter.unusedSimpArgs false
namespace Go.Proofs.Ytikapnphnkoelaa
open Go.RowKit
attribute [local go_sem ↓] Go.wp_at_zero Go.wp_at_succ

set_option maxRecDepth 100000 in
set_option maxHeartbeats 4000000 in
theorem sStateNew_any (p : Int) (A : Option Addr) (n c : Nat) (bs : List Bd) (w : World) (h : BndsAt w A n bs) (hn : n ≤ 1048576) :
    Calls Try.prog 72 #[.agg #[.int .i64 p, .slice A n c]] w (SnV w p bs) := by
  have hB0 : Below w.heap.size w ((w.alloc (.cells #[.int .i64 p, .slice A n c] 25)).alloc (.cells #[.int .i64 0, .slice none 0 0] 28)) := ((Below.refl w.heap.size w).alloc (Nat.le_refl _) _).alloc (by simp) _
  have HH := Lib.hid (h.below hB0)
  clear h
  go_enter Try.func72, Try.ntmps72
  go_wp2_with (fail)
  refine kB (sFitsOk_any p A n c bs _ HH.out hn) ?_ ?_
  · intro w0 hf hb1
    obtain ⟨P, rfl, hP1, hP6⟩ := hf.out.1.nat
    have HB0 := Lib.hid (show Below w.heap.size w w0 from hB0.trans (hb1.mono hB0.size))
    have e0 : w0.cell? ⟨w.heap.size, 0, none⟩ = some (.int .i64 (P : Int)) := keep hb1 (by simp [go_sem])
    have r0 : w0.cell? ⟨w.heap.size + 1, 0, none⟩ = some (.int .i64 0) := keep hb1 (by simp [go_sem])
    have r1 : w0.cell? ⟨w.heap.size + 1, 1, none⟩ = some (.slice none 0 0) := keep hb1 (by simp [go_sem])
    have q0 : w0.frozen? ⟨w.heap.size + 1, 0, none⟩ = false := ((bcell hb1).2 _ _ (by simp)).trans (by simp [go_sem])
    have q1 : w0.frozen? ⟨w.heap.size + 1, 1, none⟩ = false := ((bcell hb1).2 _ _ (by simp)).trans (by simp [go_sem])
    have hsw : w.heap.size + 1 < w0.heap.size := cell_lt r0
    have HE0 := Lib.hid e0
    have HR := Lib.hid (And.intro r0 (And.intro r1 (And.intro q0 q1)))
    clear hb1 e0 r0 r1 q0 q1
    obtain ⟨sb, HSB⟩ : ∃ q, Hid (w.heap.size = q) := ⟨_, rfl⟩
    rw [HSB.out] at HE0 HR hsw
    obtain ⟨B, HBB⟩ : ∃ q, Hid (w0.heap.size = q) := ⟨_, rfl⟩
    have hsb : sb + 1 < B := by rw [← HBB.out]; exact hsw
    have HOW := Lib.hid (own_litZ (q := B) (w := w0) HBB.out B 3 1 #[.int .i64 0] 1 (Nat.le_of_eq HBB.out.symm) (by decide) rfl)
    have HKW := Lib.hid (Blk.new (w0.alloc (.cells #[.int .i64 0] 3)) 28 #[.int .i64 0, .slice (some ⟨B, 0, none⟩) 1 1])
    have HBW := Lib.hid (show Below B w0 ((w0.alloc (.cells #[.int .i64 0] 3)).alloc (.cells #[.int .i64 0, .slice (some ⟨B, 0, none⟩) 1 1] 28)) from by
      rw [← HBB.out]; exact ((Below.refl _ _).alloc (Nat.le_refl _) _).alloc (by simp) _)
    have hz1 : (w0.alloc (.cells #[.int .i64 0] 3)).heap.size = B + 1 := by rw [World.size_alloc, HBB.out]
    rw [hz1] at HKW
    clear hz1
    go_wp2_with (fail)
    rw [HBB.out, HSB.out]
    go_loopw [5] (fun i wr => ∃ (k gb cv : Nat), 1 ≤ k ∧ k ≤ P ∧ i = .int .i64 k ∧ OwnZ wr B (some ⟨gb, 0, none⟩) k cv (0 :: List.replicate (k - 1) (-1)) ∧ gb ≠ B + 1 ∧ Blk wr (B + 1) 28 #[.int .i64 0, .slice (some ⟨gb, 0, none⟩) k cv] ∧ Below B w0 wr) (fun i _ => P - (intOf i).toNat)
    case atStart => exact ⟨1, B, 1, Nat.le_refl _, hP1, rfl, HOW.out.alloc _, by omega, HKW.out, HBW.out⟩
    case round =>
      obtain ⟨wo, rfl⟩ : ∃ wo : World, wo = wr := ⟨_, rfl⟩
      obtain ⟨k, gb, cv, hk1, hk, rfl, hown, hgq, hblk, hb⟩ := hrel
      have HO := Lib.hid hown
      have HK := Lib.hid hblk
      have HB := Lib.hid hb
      have hgl := (hown.lt gb rfl).2
      have hgB := (hown.lt gb rfl).1
      have hql : B + 1 < wo.heap.size := hblk.lt
      have e0' : wo.cell? ⟨sb, 0, none⟩ = some (.int .i64 (P : Int)) := (hb.cell (p := ⟨sb, 0, none⟩) (by simp; omega)).trans HE0.out
      have s0 : wo.cell? ⟨B + 1, 0, none⟩ = some (.int .i64 0) := (hblk.cell 0).trans rfl
      have s1 : wo.cell? ⟨B + 1, 1, none⟩ = some (.slice (some ⟨gb, 0, none⟩) k cv) := (hblk.cell 1).trans rfl
      have f1 := hblk.frozen 1
      have hbB : B ≤ wo.heap.size := by omega
      clear hown hblk hb HOW HKW HBW
      by_cases hkp : k < P
      · go_wp2_with (first
          | (at_builtin; refine wpl_app rowZ rfl _ _ (by rfl) B _ k (vI (0 :: List.replicate (k - 1) (-1))) (by rfl) (HO.out.alloc _) ⟨wo.heap.size, 0, none⟩ 1 1 (vI [-1]) (by rfl) rfl (cell_one_at (by simp) _ _) (vI_one _) (by decide) (by omega) (by simp; omega) ?_
             intro g' cap' wB hownB hgrow hat hltB
             have HKB := Lib.hid (show Blk wB (B + 1) 28 #[.int .i64 0, .slice (some ⟨gb, 0, none⟩) k cv] from (hgrow.block (B + 1) (by simp; omega) (by simp [Value.ownBlock]; omega)).trans (HK.out.below ((Below.refl _ _).alloc (Nat.le_refl _) (.cells #[.int .i64 (-1)] 3)) hql))
             have t1 : wB.cell? ⟨B + 1, 1, none⟩ = some (.slice (some ⟨gb, 0, none⟩) k cv) := (HKB.out.cell 1).trans rfl
             have f2 := HKB.out.frozen 1))
        have HOB := Lib.hid hownB
        have HAT := Lib.hid hat
        have HGR := Lib.hid hgrow
        clear hownB hat hgrow
        go_wp2
        go_roundw
        case rel =>
          have hat' : gb = g' ∨ g' = wo.heap.size + 1 := by
            rcases HAT.out with e | e
            · left; simp only [Value.ownBlock] at e; cases e; rfl
            · right; simpa using e
          refine ⟨k + 1, g', cap', by omega, by omega, by go_num, ?_, by omega, by have := HKB.out.set_ 1 (.slice (some ⟨g', 0, none⟩) (k + 1) cap'); simpa using this, ((HB.out.alloc hbB _).grown HGR.out (by simp; omega) (fun j hj => by simp only [Value.ownBlock] at hj; cases hj; exact hgB)).setCell (by simp) _⟩
          show World.ownsRow _ _ _ _ _ _ (vI _)
          rw [rep_succ k hk1, vI_appZ]
          refine own_keptZ HOB.out (row := some (B + 1)) ⟨rfl, rfl, rfl, by simp [World.setCell], fun j _ hj => Below.heap_setCell _ _ _ _ (fun e => hj (by rw [e]))⟩ (fun j hj e => ?_)
          simp only [Value.ownBlock] at hj
          cases hj
          cases e
          omega
        case measure => simp [intOf]; omega
      · obtain rfl : k = P := by omega
        obtain ⟨r0, r1, q0, q1⟩ := HR.out
        have r0' := (HB.out.cell (p := ⟨sb + 1, 0, none⟩) hsb).trans r0
        have r1' := (HB.out.cell (p := ⟨sb + 1, 1, none⟩) hsb).trans r1
        have q0' := (HB.out.frozen (p := ⟨sb + 1, 0, none⟩) hsb).trans q0
        have q1' := (HB.out.frozen (p := ⟨sb + 1, 1, none⟩) hsb).trans q1
        clear r0 r1 q0 q1
        go_wp2_with (fail)
        refine bodyPost_ret (v := .tuple #[.agg #[.int .i64 0, .slice (some ⟨gb, 0, none⟩) k cv], .bool true]) (by simp [results, Try.results72, go_sem, r0', r1']) rfl (.inl ⟨hf.out, _, _, _, rfl, ?_, ?_⟩)
        · rw [HSB.out]
          exact own_base (own_setOldZ (own_setOldZ (show OwnZ _ B _ _ _ (Ds0 k) from HO.out) hsb 0 _) hsb 1 _) (by omega)
        · rw [HSB.out]
          rw [HSB.out] at HB0
          exact ((HB0.out.trans (HB.out.mono (by omega))).setCell (by simp) _).setCell (by simp) _
  · intro w1 hf hb1
    have r0 : w1.cell? ⟨w.heap.size + 1, 0, none⟩ = some (.int .i64 0) := keep hb1 (by simp [go_sem])
    have r1 : w1.cell? ⟨w.heap.size + 1, 1, none⟩ = some (.slice none 0 0) := keep hb1 (by simp [go_sem])
    have q0 : w1.frozen? ⟨w.heap.size + 1, 0, none⟩ = false := ((bcell hb1).2 _ _ (by simp)).trans (by simp [go_sem])
    have q1 : w1.frozen? ⟨w.heap.size + 1, 1, none⟩ = false := ((bcell hb1).2 _ _ (by simp)).trans (by simp [go_sem])
    go_wp2_with (fail)
    refine bodyPost_ret (v := .tuple #[.agg #[.int .i64 0, .slice none 0 0], .bool false]) (by simp [results, Try.results72, go_sem, r0, r1]) rfl (.inr ⟨hf.out, _, _, _, rfl, OwnZ.nil _ _, ?_⟩)
    exact ((hB0.trans (hb1.mono hB0.size)).setCell (by simp) _).setCell (by simp) _

/-- A window, one way for both. -/
theorem kWinU {Pr : Program} {f : FuncId} {args : Array Value} {w : World} {K : Ending → World → Prop} {p : Int} {bs : List Bd} {now : Int} {ds : List Int} {i : Int} (h : Calls Pr f args w (WinV w p bs now ds i))
    (h1 : ∀ (lo hi : Int) (ok : Bool) w', Below w.heap.size w w' → K (.returned (.tuple #[.int .i64 lo, .int .i64 hi, .bool ok])) w') : Calls Pr f args w K :=
  kWin h (fun w' _ hb => h1 _ _ _ w' hb) (fun w' _ hb => h1 _ _ _ w' hb)
/-- What DoAt leaves, as far as draws need it. -/
def DoV (w : World) (m : Nat) (e : Ending) (w' : World) : Prop :=
  ∃ (now' : Int) (A' : Option Addr) (n' c' : Nat) (ds' : List Int) (ok : Bool), e = .returned (.tuple #[.agg #[.int .i64 now', .slice A' n' c'], .bool ok]) ∧ OwnZ w' w.heap.size A' n' c' ds' ∧ (ok = true → n' = m) ∧ Below w.heap.size w w'
theorem kDo {Pr : Program} {f : FuncId} {args : Array Value} {w : World} {K : Ending → World → Prop} {m : Nat} (h : Calls Pr f args w (DoV w m))
    (h1 : ∀ (now' : Int) A' n' c' ds' (ok : Bool) w', OwnZ w' w.heap.size A' n' c' ds' → Hid (ok = true → n' = m) → Below w.heap.size w w' → K (.returned (.tuple #[.agg #[.int .i64 now', .slice A' n' c'], .bool ok])) w') : Calls Pr f args w K :=
  h.mono fun e w' ⟨now', A', n', c', ds', ok, he, ho, hm, hb⟩ => by subst he; exact h1 now' A' n' c' ds' ok w' ho hm hb
theorem IntsAt.newsZ {w : World} {A : Option Addr} {n : Nat} {xs : List Int} (h : IntsAt w A n xs) {a : Addr} (e : A = some a) : ∀ j u, (vI xs)[j]? = some u → w.cell? (a.add j) = some u := by
  subst e
  intro j u hu
  have hl := h.len
  have hj : j < xs.length := by
    rcases Nat.lt_or_ge j xs.length with h1 | h1
    · exact h1
    · rw [vI, List.getElem?_eq_none (by simpa using h1)] at hu; cases hu
  obtain ⟨b, off, e, hc⟩ := h.cells (by omega)
  cases e
  rw [add_at, hc j (by omega)]
  simp [vI, hj] at hu
  simp [List.getD, hj, hu]

set_option maxRecDepth 100000 in
set_option maxHeartbeats 8000000 in
theorem DoAt_any (p : Int) (A : Option Addr) (n c : Nat) (bs : List Bd) (now : Int) (D : Option Addr) (m d : Nat) (ds : List Int) (i t : Int) (w : World) (h : BndsAt w A n bs) (g : IntsAt w D m ds) (hn : n ≤ 1048576) (hm : m ≤ 1048576) :
    Calls Try.prog 74 #[.agg #[.int .i64 p, .slice A n c], .agg #[.int .i64 now, .slice D m d], .int .i64 i, .int .i64 t] w (DoV w m) := by
  have HL := Lib.hid g.len
  have HNA := Lib.hid (show D = none → m = 0 from fun e => by
    rcases Nat.eq_zero_or_pos m with h0 | h0
    · exact h0
    · obtain ⟨b, off, e', _⟩ := g.cells h0; rw [e] at e'; cases e')
  have hB0 : Below w.heap.size w (((w.alloc (.cells #[.int .i64 p, .slice A n c] 25)).alloc (.cells #[.int .i64 now, .slice D m d] 28)).alloc (.cells #[.int .i64 0, .slice none 0 0] 28)) := (((Below.refl w.heap.size w).alloc (Nat.le_refl _) _).alloc (by simp) _).alloc (by simp; omega) _
  have HH := Lib.hid (h.below hB0)
  have HG := Lib.hid (g.below hB0)
  clear h g
  go_enter Try.func74, Try.ntmps74
  go_wp2_with (fail)
  refine kB (sStateOk_any p A n c bs now D m d ds _ HH.out HG.out hn) ?_ ?_
  rotate_left
  · intro w1 hf hb1
    have hrs : Blk w1 (w.heap.size + 2) 28 #[.int .i64 0, .slice none 0 0] := (Blk.at_new (q := w.heap.size + 2) (by simp) _ _).below hb1 (by simp)
    have r0 := (hrs.cell 0).trans rfl
    have r1 := (hrs.cell 1).trans rfl
    have q0 := hrs.frozen 0
    have q1 := hrs.frozen 1
    go_wp2_with (fail)
    refine bodyPost_ret (v := .tuple #[.agg #[.int .i64 0, .slice none 0 0], .bool false]) (by simp [results, Try.results74, go_sem, r0, r1]) rfl ⟨_, _, _, _, [], _, rfl, OwnZ.nil _ _, (fun e => by cases e), ?_⟩
    exact ((hB0.trans (hb1.mono hB0.size)).setCell (by simp <;> omega) _).setCell (by simp <;> omega) _
  · intro w1 hf hb1
    have HB1 := Lib.hid (hB0.trans (hb1.mono hB0.size))
    have e0 : w1.cell? ⟨w.heap.size, 0, none⟩ = some (.int .i64 p) := keep hb1 (by simp [go_sem])
    have e1 : w1.cell? ⟨w.heap.size, 1, none⟩ = some (.slice A n c) := keep hb1 (by simp [go_sem])
    have s0 : w1.cell? ⟨w.heap.size + 1, 0, none⟩ = some (.int .i64 now) := keep hb1 (by simp [go_sem])
    have s1 : w1.cell? ⟨w.heap.size + 1, 1, none⟩ = some (.slice D m d) := keep hb1 (by simp [go_sem])
    have HRS := Lib.hid (show Blk w1 (w.heap.size + 2) 28 #[.int .i64 0, .slice none 0 0] from (Blk.at_new (q := w.heap.size + 2) (by simp) _ _).below hb1 (by simp))
    have HG1 := Lib.hid (HG.out.below hb1)
    have HH1 := Lib.hid (HH.out.below hb1)
    clear hb1 hB0
    obtain ⟨sb, HSB⟩ : ∃ q, Hid (w.heap.size = q) := ⟨_, rfl⟩
    rw [HSB.out] at e0 e1 s0 s1 HRS HB1 ⊢
    go_wp2_with (fail)
    refine kWinU (sWindowOf_any p A n c bs now D m d ds i _ HH1.out HG1.out hn) ?_
    intro lo hi ok w2 hb2
    have e0 := keep hb2 e0
    have e1 := keep hb2 e1
    have s0 := keep hb2 s0
    have s1 := keep hb2 s1
    have HG2 := Lib.hid (HG1.out.below hb2)
    have HH2 := Lib.hid (HH1.out.below hb2)
    have HB2 := Lib.hid (HB1.out.trans (hb2.mono (HSB.out ▸ HB1.out.size)))
    have HR2 := Lib.hid (HRS.out.below hb2 HRS.out.lt)
    clear hb2
    go_upto_region 4 with fail
    go_cut [49] from 27 to 49 (fun s wx => ∃ b : Bool, s = .bool b ∧ Below w2.heap.size w2 wx ∧ (b = false → RdyOk p bs now ds i))
    case first =>
      go_wp2_with (fail)
      refine kB (sReadyOk_any p A n c bs now D m d ds i _ HH2.out HG2.out hn) ?_ ?_
      rotate_left
      · intro w3 hr hb3
        have HB3 := Lib.hid hb3
        clear hb3
        go_wp2_with (fail)
        go_meet
        exact ⟨_, rfl, HB3.out, fun e => by cases e⟩
      · intro w3 hr hb3
        have HB3 := Lib.hid hb3
        have e0 := keep hb3 e0
        have e1 := keep hb3 e1
        have s0 := keep hb3 s0
        have s1 := keep hb3 s1
        clear hb3
        go_wp2_with (fail)
        refine kS (l1In_any t lo hi _) ?_ ?_
        rotate_left
        · intro hin
          go_wp2_with (fail)
          go_meet
          exact ⟨_, rfl, HB3.out, fun e => by cases e⟩
        · intro hin
          go_wp2_with (fail)
          refine kBV (sDeadlineOf_any p A n c bs now D m d ds _ (HH2.out.below HB3.out) (HG2.out.below HB3.out) hn) ?_
          intro w4 hb4
          have HB4 := Lib.hid (HB3.out.trans (hb4.mono HB3.out.size))
          clear hb4
          obtain ⟨dl, HDL⟩ : ∃ q, Hid (Dl p bs now ds = q) := ⟨_, rfl⟩
          rw [HDL.out]
          go_wp2_with (fail)
          all_goals
            go_meet
            exact ⟨_, rfl, HB4.out, fun _ => hr.out⟩
    case rest =>
      obtain ⟨b, rfl, hb3, hrdy⟩ := hcut
      have HRD := Lib.hid hrdy
      have s0 := keep hb3 s0
      have s1 := keep hb3 s1
      have HG3 := Lib.hid (HG2.out.below hb3)
      have HRW := Lib.hid (HR2.out.below hb3 HR2.out.lt)
      have HB3 := Lib.hid (show Below sb w wc from HB2.out.trans (hb3.mono (by have := HB2.out.size; have := HSB.out; omega)))
      clear hb3 hrdy e0 e1
      cases b with
      | true =>
        obtain ⟨B0, HBB⟩ : ∃ q, Hid (wc.heap.size = q) := ⟨_, rfl⟩
        have R0 := Lib.hid (Reg.start (w0 := wc) HBB.out 3 1)
        have HS := Lib.hid (fun W' (hb : Below B0 wc W') => show W'.cell? ⟨sb + 1, 0, none⟩ = some (.int .i64 now) ∧ W'.cell? ⟨sb + 1, 1, none⟩ = some (.slice D m d) from ⟨keepB HBB.out hb s0, keepB HBB.out hb s1⟩)
        have HNEW := Lib.hid (fun W' (hb : Below B0 wc W') (ad : Addr) (e : D = some ad) => IntsAt.newsZ (HG3.out.below (show Below wc.heap.size wc W' from HBB.out.symm ▸ hb)) e)
        have hsB : sb + 2 < B0 := by have := HRW.out.lt; have := HBB.out; omega
        have HRS := Lib.hid (fun W' (hb : Below B0 wc W') => show Blk W' (sb + 2) 28 #[.int .i64 0, .slice none 0 0] from (hb.block (sb + 2) hsB).trans HRW.out)
        go_wp2_with (fail)
        refine wp_region_held_drew (S := (fun w' => w'.cell? ⟨sb + 1, 0, none⟩ = some (.int .i64 now) ∧ w'.cell? ⟨sb + 1, 1, none⟩ = some (.slice D m d))) (by kernel_rfl) ?_ (fun hHeld => ?_)
        · exact HS.out _ R0.out.drew.below
        refine wpAnyH_take (i := 0) (oi := _) (v := ?_) rfl (by kernel_rfl) (by kernel_rfl) (by kernel_rfl) (fun _ _ _ h => h) (Or.inl ⟨by kernel_rfl, ?_⟩) (by assumption) ?_
        rotate_left
        · (intro w hSw; (try dsimp only at hSw); go_simp; (try with_reducible rfl))
        try simp only [Act.put, List.getElem_toArray, List.getElem_cons_succ, List.getElem_cons_zero, List.setIfInBounds_toArray, List.set_cons_zero, List.set_cons_succ]
        refine wpAnyH_take (i := 1) (oi := _) (v := ?_) rfl (by kernel_rfl) (by kernel_rfl) (by kernel_rfl) (fun _ _ _ h => h) (Or.inl ⟨by kernel_rfl, ?_⟩) (by assumption) ?_
        rotate_left
        · (intro w hSw; (try dsimp only at hSw); go_simp; (try with_reducible rfl))
        try simp only [Act.put, List.getElem_toArray, List.getElem_cons_succ, List.getElem_cons_zero, List.setIfInBounds_toArray, List.set_cons_zero, List.set_cons_succ]
        refine wpAnyH_take (i := 3) (oi := _) (v := ?_) rfl (by kernel_rfl) (by kernel_rfl) (by kernel_rfl) (fun _ _ _ h => h) (Or.inl ⟨by kernel_rfl, ?_⟩) (by assumption) ?_
        rotate_left
        · (intro w hSw; (try dsimp only at hSw); go_simp; (try with_reducible rfl))
        try simp only [Act.put, List.getElem_toArray, List.getElem_cons_succ, List.getElem_cons_zero, List.setIfInBounds_toArray, List.set_cons_zero, List.set_cons_succ]
        refine wpAnyH_take (i := 4) (oi := _) (v := ?_) rfl (by kernel_rfl) (by kernel_rfl) (by kernel_rfl) (fun _ _ _ h => h) (Or.inl ⟨by kernel_rfl, ?_⟩) (by assumption) ?_
        rotate_left
        · (intro w hSw; (try dsimp only at hSw); go_simp; (try with_reducible rfl))
        try simp only [Act.put, List.getElem_toArray, List.getElem_cons_succ, List.getElem_cons_zero, List.setIfInBounds_toArray, List.set_cons_zero, List.set_cons_succ]
        refine wpAnyH_ready (rs := [2]) (by kernel_rfl) (by simp) ?_
        refine AllReadyH.cons (o := _) rfl (fun K hK => ?_) (AllReadyH.nil)
        have R1 := Lib.hid (R0.out.rowed (q := wc.heap.size) rfl)
        go_simp
        refine hK.out _ _ ?_ (fun hHeld => ?_)
        · exact HS.out _ R1.out.drew.below
        clear hK K
        try simp only [Act.put, List.getElem_toArray, List.getElem_cons_succ, List.getElem_cons_zero, List.setIfInBounds_toArray, List.set_cons_zero, List.set_cons_succ]
        refine wpAnyH_ready (rs := [5]) (by kernel_rfl) (by simp) ?_
        refine AllReadyH.cons (o := _) rfl (fun K hK => ?_) (AllReadyH.nil)
        refine step_appX rowZ (by rfl) _ _ (by rfl) B0 _ 0 [] (by rfl) (show World.ownsRow (wc.alloc (.cells #[] 3)).drew B0 3 1 (.slice (some ⟨wc.heap.size, 0, none⟩) 0 0) 0 [] from R1.out.drew.own _ rfl) D m d (vI ds) (by rfl) HNA.out (by rw [vI_len, HL.out]) (HNEW.out _ R1.out.drew.below) (vI_one _) m (Nat.zero_add _) (vI ds) (List.nil_append _) (by omega) R1.out.drew.b0 ?_
        intro A1 c1 wA hown1 hgrow1 hat1
        have R2 := Lib.hid (R1.out.drew.grown (r' := (.slice A1 m c1, m, (vI ds))) hown1 hgrow1 hat1)
        clear hown1 hgrow1 hat1
        refine hK.out _ _ ?_ (fun hHeld => ?_)
        · exact HS.out _ R2.out.below
        clear hK K
        try simp only [Act.put, List.getElem_toArray, List.getElem_cons_succ, List.getElem_cons_zero, List.setIfInBounds_toArray, List.set_cons_zero, List.set_cons_succ]
        refine wpAnyH_take (i := 6) (oi := _) (v := ?_) rfl (by kernel_rfl) (by kernel_rfl) (by kernel_rfl) (fun _ _ _ h => h) (Or.inl ⟨by kernel_rfl, ?_⟩) (by assumption) ?_
        rotate_left
        · (intro w hSw; (try dsimp only at hSw); go_simp; (try with_reducible rfl))
        try simp only [Act.put, List.getElem_toArray, List.getElem_cons_succ, List.getElem_cons_zero, List.setIfInBounds_toArray, List.set_cons_zero, List.set_cons_succ]
        refine wpAnyH_ready (rs := [7]) (by kernel_rfl) (by simp) ?_
        refine AllReadyH.cons (o := _) rfl (fun K hK => ?_) (AllReadyH.nil)
        have HOW := Lib.hid (show OwnZ wA B0 A1 m c1 ds from R2.out.own _ rfl)
        have hrs := HRS.out _ R2.out.below
        have z0 := (hrs.cell 0).trans rfl
        have z1 := (hrs.cell 1).trans rfl
        have zf0 := hrs.frozen 0
        have zf1 := hrs.frozen 1
        have hzl := hrs.lt
        have HBA := Lib.hid R2.out.below
        have hy := HS.out _ R2.out.below
        obtain ⟨y0, y1⟩ := hy
        clear hrs
        go_simp
        refine hK.out _ _ ?_ (fun hHeld => ?_)
        · (refine ⟨?_, ?_⟩ <;> (repeat rw [World.cell?_setCell_far _ _ _ _ (by simp <;> omega)]) <;> first | exact y0 | exact y1)
        clear hK K
        try simp only [Act.put, List.getElem_toArray, List.getElem_cons_succ, List.getElem_cons_zero, List.setIfInBounds_toArray, List.set_cons_zero, List.set_cons_succ]
        refine wpAnyH_take (i := 8) (oi := _) (v := ?_) rfl (by kernel_rfl) (by kernel_rfl) (by kernel_rfl) (fun _ _ _ h => h) (Or.inl ⟨by kernel_rfl, ?_⟩) (by assumption) ?_
        rotate_left
        · (intro w hSw; (try dsimp only at hSw); go_simp; (try with_reducible rfl))
        try simp only [Act.put, List.getElem_toArray, List.getElem_cons_succ, List.getElem_cons_zero, List.setIfInBounds_toArray, List.set_cons_zero, List.set_cons_succ]
        refine wpAnyH_done (by kernel_rfl) ?_ _
        go_wp2_with (fail)
        refine bodyPost_ret (v := .tuple #[.agg #[.int .i64 now, .slice A1 m c1], .bool false]) (by simp [results, Try.results74, go_sem, z0, z1]) rfl ⟨_, _, _, _, ds, _, rfl, ?_, (fun e => by cases e), ?_⟩
        · rw [HSB.out]; exact own_base (own_setOldZ (own_setOldZ HOW.out hsB 0 _) hsB 1 _) (by omega)
        · rw [HSB.out]; exact ((HB3.out.trans (HBA.out.mono (by omega))).setCell (by simp <;> omega) _).setCell (by simp <;> omega) _
      | false =>
        obtain ⟨P, j, rfl, rfl, hjP, hP6, hl⟩ := (HRD.out rfl).1.nat
        obtain rfl : m = P := by have := HL.out; omega
        obtain ⟨B0, HBB⟩ : ∃ q, Hid (wc.heap.size = q) := ⟨_, rfl⟩
        have hsB : sb + 2 < B0 := by have := HRW.out.lt; have := HBB.out; omega
        have hjI : (j : Int) < (m : Int) := by omega
        have hsl : sb + 1 < wc.heap.size := cell_lt s1
        have HNEW := Lib.hid (fun W' (hb : Below B0 wc W') (ad : Addr) (e : D = some ad) => IntsAt.newsZ (HG3.out.below (show Below wc.heap.size wc W' from HBB.out.symm ▸ hb)) e)
        have HOW := Lib.hid (own_litZ (q := wc.heap.size) (w := wc) rfl B0 3 1 #[] 0 (Nat.le_of_eq HBB.out.symm) (by decide) rfl)
        have HBA := Lib.hid (show Below B0 wc (wc.alloc (.cells #[] 3)) from HBB.out ▸ (Below.refl _ _).alloc (Nat.le_refl _) _)
        clear hl
        go_wp2_with (first
          | (at_builtin; go_loud (refine wpl_appX rowZ rfl _ _ (by rfl) B0 _ 0 [] (by rfl) HOW.out D m d (vI ds) (by rfl) HNA.out (by rw [vI_len, HL.out]) (HNEW.out _ HBA.out) (vI_one _) m (Nat.zero_add _) (vI ds) (List.nil_append _) (by omega) (Nat.le_trans (Nat.le_of_eq HBB.out.symm) (by simp)) ?_)
             intro A1 c1 wB hownB hgrow hat))
        obtain ⟨g, rfl, hgB, hgl⟩ := own_cellsZ hownB (by omega)
        obtain ⟨b', off', e', hd⟩ := (OwnZ.at_ hownB).cells (by omega)
        cases e'
        have d0 := hd j hjP
        rw [Nat.zero_add] at d0
        have g0 := hownB.frozenAt j
        have hmc1 := OwnZ.cap hownB
        have HOB := Lib.hid hownB
        have hBB := HBA.out.grown hgrow (Nat.le_trans (Nat.le_of_eq HBB.out.symm) (by simp)) (fun k hk => by have h5 : wc.heap.size = k := Option.some.inj hk; have := HBB.out; omega)
        have HBB2 := Lib.hid hBB
        have hrb : Blk wB (sb + 2) 28 #[.int .i64 0, .slice none 0 0] := (hBB.block (sb + 2) hsB).trans HRW.out
        have z0 := (hrb.cell 0).trans rfl
        have z1 := (hrb.cell 1).trans rfl
        have zf0 := hrb.frozen 0
        have zf1 := hrb.frozen 1
        have hzl := hrb.lt
        have h0j : (0 : Int) ≤ (j : Int) := by omega
        have hne1 : ¬ g = sb + 1 + 1 := by omega
        have hne2 : ¬ sb + 1 + 1 = g := by omega
        clear hd hownB hgrow hat hBB hrb s0 s1 HRD HG2 HH2
        go_wp2_with (fail)
        go_simp
        go_wp2_with (fail)
        refine bodyPost_ret (v := .tuple #[.agg #[.int .i64 t, .slice (some ⟨g, 0, none⟩) m c1], .bool true]) (by simp [results, Try.results74, go_sem, z0, z1, hzl, hne1, hne2]) rfl ⟨_, _, _, _, ds.set j t, _, rfl, ?_, (fun _ => rfl), ?_⟩
        · rw [HSB.out]
          have h1 := own_setZ HOB.out j (.int .i64 t)
          have h2 := own_setOldZ (own_setOldZ h1 (Q := sb + 1 + 1) (by omega) 0 (.int .i64 t)) (Q := sb + 1 + 1) (by omega) 1 (.slice (some ⟨g, 0, none⟩) m c1)
          refine own_base (show OwnZ _ B0 _ _ _ _ from ?_) (by omega)
          show World.ownsRow _ _ _ _ _ _ (vI _)
          rw [show vI (ds.set j t) = (vI ds).set j (.int .i64 t) by simp [vI, List.map_set]]
          exact own_below h2 ((Below.refl _ _).alloc (Nat.le_refl _) _)
        · rw [HSB.out]
          have h1 := (((HB3.out.trans (HBB2.out.mono (by omega))).setCell (p := ⟨g, j, none⟩) (by simp; omega) (.int .i64 t)).setCell (p := ⟨sb + 1 + 1, 0, none⟩) (by simp; omega) (.int .i64 t)).setCell (p := ⟨sb + 1 + 1, 1, none⟩) (by simp; omega) (.slice (some ⟨g, 0, none⟩) m c1)
          exact h1.alloc (Nat.le_trans (by omega : sb ≤ wB.heap.size) (by simp [World.setCell])) _

end Go.Proofs.Ytikapnphnkoelaa
