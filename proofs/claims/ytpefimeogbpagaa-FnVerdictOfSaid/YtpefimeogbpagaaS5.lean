/- States after happenings, by the reference: l14State, StateAfter. -/
import Derived.Test.YtpefimeogbpagaaS4
import Derived.BigRegion
namespace Go.Proofs.Ytpefimeogbpagaa
open Go.RowKit

def StA (w : World) (now : Int) (ds : List Int) (e : Ending) (w' : World) : Prop :=
  ∃ A n c, e = .returned (.agg #[.int .i64 now, .slice A n c]) ∧ OwnZ w' w.heap.size A n c ds ∧ Below w.heap.size w w'
theorem rep_succ (k : Nat) (h : 1 ≤ k) : (0 : Int) :: List.replicate (k + 1 - 1) (-1) = (0 :: List.replicate (k - 1) (-1)) ++ [-1] := by
  obtain ⟨j, rfl⟩ : ∃ j, k = j + 1 := ⟨k - 1, by omega⟩
  rw [Nat.add_sub_cancel, Nat.add_sub_cancel, List.replicate_succ', List.cons_append]
set_option maxRecDepth 100000 in
set_option maxHeartbeats 4000000 in
theorem l14State_any (P : Nat) (A : Option Addr) (n c : Nat) (D : Option Addr) (m d : Nat) (hs : List Hp) (now : Int) (w : World) (g : HapsAt w D m hs) (hP : 1 ≤ P ∧ P ≤ 6) (hm : m ≤ 1048576) (hl : HL (P : Int) hs) :
    Calls Try.prog 22 #[.agg #[.int .i64 (P : Int), .slice A n c], .slice D m d, .int .i64 now] w (StA w now (DsA P hs)) := by
  have HLN := Lib.hid g.len
  have HHL := Lib.hid hl
  have HP := Lib.hid hP
  obtain ⟨hP1, hP6⟩ := hP
  obtain ⟨w0, HW0⟩ : ∃ q, Hid ((w.alloc (.cells #[.int .i64 (P : Int), .slice A n c] 25)).alloc (.cells #[.int .i64 0, .slice none 0 0] 31) = q) := ⟨_, rfl⟩
  have hA0 : Below w.heap.size w w0 := HW0.out ▸ ((Below.refl w.heap.size w).alloc (Nat.le_refl _) _).alloc (by simp) _
  have e0 : w0.cell? ⟨w.heap.size, 0, none⟩ = some (.int .i64 (P : Int)) := HW0.out ▸ by simp [go_sem]
  have r0 : w0.cell? ⟨w.heap.size + 1, 0, none⟩ = some (.int .i64 0) := HW0.out ▸ by simp [go_sem]
  have r1 : w0.cell? ⟨w.heap.size + 1, 1, none⟩ = some (.slice none 0 0) := HW0.out ▸ by simp [go_sem]
  have q0 : w0.frozen? ⟨w.heap.size + 1, 0, none⟩ = false := HW0.out ▸ by simp [go_sem]
  have q1 : w0.frozen? ⟨w.heap.size + 1, 1, none⟩ = false := HW0.out ▸ by simp [go_sem]
  have HZ := Lib.hid (show w0.heap.size = w.heap.size + 1 + 1 from HW0.out ▸ by simp)
  have HB0 := Lib.hid hA0
  have HG0 := Lib.hid (g.below hA0)
  have HE0 := Lib.hid e0
  have HR := Lib.hid (And.intro r0 (And.intro r1 (And.intro q0 q1)))
  clear hA0 g hl e0 r0 r1 q0 q1
  go_enter Try.func22, Try.ntmps22
  go_wp2_with (fail)
  rw [HW0.out]
  obtain ⟨sb, HSB⟩ : ∃ q, Hid (w.heap.size = q) := ⟨_, rfl⟩
  rw [HSB.out] at HE0 HR HZ HB0 ⊢
  obtain ⟨B, HBB⟩ : ∃ q, Hid (sb + 1 + 1 = q) := ⟨_, rfl⟩
  have hsb : sb + 1 < B := by have := HBB.out; omega
  have HOW := Lib.hid (own_litZ (q := B) (w := w0) (HZ.out.trans HBB.out) B 3 1 #[.int .i64 0] 1 (by rw [HZ.out, HBB.out]; exact Nat.le_refl _) (by decide) rfl)
  have HKW := Lib.hid (Blk.new (w0.alloc (.cells #[.int .i64 0] 3)) 31 #[.int .i64 now, .slice (some ⟨B, 0, none⟩) 1 1])
  have HBW := Lib.hid (show Below B w0 ((w0.alloc (.cells #[.int .i64 0] 3)).alloc (.cells #[.int .i64 now, .slice (some ⟨B, 0, none⟩) 1 1] 31)) from by
    rw [← HBB.out, ← HZ.out]; exact ((Below.refl _ _).alloc (Nat.le_refl _) _).alloc (by simp) _)
  have hz1 : (w0.alloc (.cells #[.int .i64 0] 3)).heap.size = B + 1 := by rw [World.size_alloc, HZ.out, HBB.out]
  rw [hz1] at HKW
  rw [HBB.out]
  clear hz1
  go_loopw [8] (fun i wr => ∃ (k gb cv : Nat), 1 ≤ k ∧ k ≤ P ∧ i = .int .i64 k ∧ OwnZ wr B (some ⟨gb, 0, none⟩) k cv (0 :: List.replicate (k - 1) (-1)) ∧ gb ≠ B + 1 ∧ Blk wr (B + 1) 31 #[.int .i64 now, .slice (some ⟨gb, 0, none⟩) k cv] ∧ Below B w0 wr) (fun i _ => P - (intOf i).toNat)
  case atStart => exact ⟨1, B, 1, Nat.le_refl _, hP1, rfl, HOW.out.alloc _, by omega, HKW.out, HBW.out⟩
  case round =>
    obtain ⟨wo, rfl⟩ : ∃ wo : World, wo = wr := ⟨_, rfl⟩
    obtain ⟨k, gb, cv, hk1, hk, rfl, hown, hgq, hblk, hb⟩ := hrel
    have HO := Lib.hid hown
    have HK := Lib.hid hblk
    have HB := Lib.hid hb
    have hgl := (hown.lt gb rfl).2
    have hgB := (hown.lt gb rfl).1
    have hql : B + 1 < wo.heap.size := hblk.lt
    have e0' : wo.cell? ⟨sb, 0, none⟩ = some (.int .i64 (P : Int)) := (hb.cell (p := ⟨sb, 0, none⟩) (by simp; omega)).trans HE0.out
    have s0 : wo.cell? ⟨B + 1, 0, none⟩ = some (.int .i64 now) := (hblk.cell 0).trans rfl
    have s1 : wo.cell? ⟨B + 1, 1, none⟩ = some (.slice (some ⟨gb, 0, none⟩) k cv) := (hblk.cell 1).trans rfl
    have f1 := hblk.frozen 1
    have hbB : B ≤ wo.heap.size := by omega
    clear hown hblk hb HOW HKW HBW
    by_cases hkp : k < P
    · go_wp2_with (first
        | (at_builtin; refine wpl_app rowZ rfl _ _ (by rfl) B _ k (vI (0 :: List.replicate (k - 1) (-1))) (by rfl) (HO.out.alloc _) ⟨wo.heap.size, 0, none⟩ 1 1 (vI [-1]) (by rfl) rfl (cell_one_at (by simp) _ _) (vI_one _) (by decide) (by omega) (by simp; omega) ?_
           intro g' cap' wB hownB hgrow hat hltB
           have HKB := Lib.hid (show Blk wB (B + 1) 31 #[.int .i64 now, .slice (some ⟨gb, 0, none⟩) k cv] from (hgrow.block (B + 1) (by simp; omega) (by simp [Value.ownBlock]; omega)).trans (HK.out.below ((Below.refl _ _).alloc (Nat.le_refl _) (.cells #[.int .i64 (-1)] 3)) hql))
           have t1 : wB.cell? ⟨B + 1, 1, none⟩ = some (.slice (some ⟨gb, 0, none⟩) k cv) := (HKB.out.cell 1).trans rfl
           have f2 := HKB.out.frozen 1))
      have HOB := Lib.hid hownB
      have HAT := Lib.hid hat
      have HGR := Lib.hid hgrow
      clear hownB hat hgrow
      go_wp2
      go_roundw
      case rel =>
        have hat' : gb = g' ∨ g' = wo.heap.size + 1 := by
          rcases HAT.out with e | e
          · left; simp only [Value.ownBlock] at e; cases e; rfl
          · right; simpa using e
        refine ⟨k + 1, g', cap', by omega, by omega, by go_num, ?_, by omega, by have := HKB.out.set_ 1 (.slice (some ⟨g', 0, none⟩) (k + 1) cap'); simpa using this, ((HB.out.alloc hbB _).grown HGR.out (by simp; omega) (fun j hj => by simp only [Value.ownBlock] at hj; cases hj; exact hgB)).setCell (by simp) _⟩
        show World.ownsRow _ _ _ _ _ _ (vI _)
        rw [rep_succ k hk1, vI_appZ]
        refine own_keptZ HOB.out (row := some (B + 1)) ⟨rfl, rfl, rfl, by simp [World.setCell], fun j _ hj => Below.heap_setCell _ _ _ _ (fun e => hj (by rw [e]))⟩ (fun j hj e => ?_)
        simp only [Value.ownBlock] at hj
        cases hj
        cases e
        omega
      case measure => simp [intOf]; omega
    · obtain rfl : k = P := by omega
      have HO2 := Lib.hid (show OwnZ wo B (some ⟨gb, 0, none⟩) k cv (DsA k (hs.take 0)) from HO.out)
      clear HO
      go_wp2
      go_loopw [9] (fun i wr => ∃ (j : Nat), j ≤ m ∧ i = .int .i64 j ∧ OwnZ wr B (some ⟨gb, 0, none⟩) k cv (DsA k (hs.take j)) ∧ Blk wr (B + 1) 31 #[.int .i64 now, .slice (some ⟨gb, 0, none⟩) k cv] ∧ Below B w0 wr) (fun i _ => m - (intOf i).toNat)
      case atStart => exact ⟨0, Nat.zero_le _, rfl, HO2.out, HK.out, HB.out⟩
      case round =>
        obtain ⟨wp, rfl⟩ : ∃ wp : World, wp = wr := ⟨_, rfl⟩
        obtain ⟨j, hj, rfl, hown, hblk, hb⟩ := hrel
        have HO3 := Lib.hid hown
        have HK3 := Lib.hid hblk
        have HB3 := Lib.hid hb
        have t0 : wp.cell? ⟨B + 1, 0, none⟩ = some (.int .i64 now) := (hblk.cell 0).trans rfl
        have t1 : wp.cell? ⟨B + 1, 1, none⟩ = some (.slice (some ⟨gb, 0, none⟩) k cv) := (hblk.cell 1).trans rfl
        have hkc := hown.cap
        clear hblk s0 s1 e0' f1 HO2
        by_cases hjm : j < m
        · obtain ⟨b, off, rfl, hc⟩ := (HG0.out.below (show Below w0.heap.size w0 wp by rw [HZ.out, HBB.out]; exact hb)).cells (by omega)
          obtain ⟨c0, c1⟩ := hc j hjm
          have hjl : j < hs.length := by rw [HLN.out]; exact hjm
          obtain ⟨hx1, hx2⟩ := HHL.out.inP HP.out hjl
          have HT := Lib.hid (DsA_take (p := k) hjl)
          obtain ⟨t, HTT⟩ : ∃ q, Hid ((hs.getD j (0, 0)).2 = q) := ⟨_, rfl⟩
          obtain ⟨x, HX⟩ : ∃ q, Hid ((hs.getD j (0, 0)).1 = q) := ⟨_, rfl⟩
          rw [HX.out] at c0 hx1 hx2 HT
          rw [HTT.out] at c1 HT
          obtain ⟨X, rfl⟩ := Int.eq_ofNat_of_zero_le (show 0 ≤ x by omega)
          have hXN : X < k := by omega
          obtain ⟨b', off', e', hd⟩ := (OwnZ.at_ hown).cells (by omega)
          cases e'
          have d0 := hd X hXN
          rw [Nat.zero_add] at d0
          have f0 := hown.frozenAt X
          have hjI : (j : Int) < (m : Int) := by omega
          clear hd hown hb hc
          go_wp2_with (fail)
          go_region
          all_goals
            go_wp2
            go_roundw
            case rel =>
              have h1 := own_setZ HO3.out X (.int .i64 t)
              refine ⟨j + 1, by omega, by go_num, ?_, HK3.out.far (by show B + 1 ≠ gb; omega) _, below_drewN (HB3.out.setCell hgB _) 1⟩
              show World.ownsRow _ _ _ _ _ _ (vI _)
              rw [HT.out, show ((X : Int)).toNat = X from rfl, show vI ((DsA k (hs.take j)).set X t) = (vI (DsA k (hs.take j))).set X (.int .i64 t) by simp [vI, List.map_set]]
              exact own_drewN h1 1
            case measure => simp [intOf]; omega
        · obtain rfl : j = m := by omega
          obtain ⟨r0, r1, q0, q1⟩ := HR.out
          have r0' := (hb.cell (p := ⟨sb + 1, 0, none⟩) hsb).trans r0
          have r1' := (hb.cell (p := ⟨sb + 1, 1, none⟩) hsb).trans r1
          have q0' := (hb.frozen (p := ⟨sb + 1, 0, none⟩) hsb).trans q0
          have q1' := (hb.frozen (p := ⟨sb + 1, 1, none⟩) hsb).trans q1
          clear r0 r1 q0 q1 hown hb
          have HDS := Lib.hid (show hs.take j = hs from List.take_of_length_le (by rw [HLN.out]; exact Nat.le_refl _))
          go_wp2_with (fail)
          refine bodyPost_ret (v := .agg #[.int .i64 now, .slice (some ⟨gb, 0, none⟩) k cv]) (by simp [results, Try.results22, go_sem, r0', r1']) rfl ⟨_, _, _, rfl, ?_, ?_⟩
          · have h1 := HO3.out
            rw [HDS.out] at h1
            rw [HSB.out]
            exact own_base (own_setOldZ (own_setOldZ h1 hsb 0 _) hsb 1 _) (by omega)
          · rw [HSB.out]
            exact ((HB0.out.trans (HB3.out.mono (by omega))).setCell (by simp) _).setCell (by simp) _

set_option maxRecDepth 100000 in
set_option maxHeartbeats 4000000 in
theorem sStateAfter_any (p : Int) (A : Option Addr) (n c : Nat) (bs : List Bd) (D : Option Addr) (m d : Nat) (hs : List Hp) (now : Int) (w : World) (h : BndsAt w A n bs) (g : HapsAt w D m hs) (hn : n ≤ 1048576) (hm : m ≤ 1048576) :
    Calls Try.prog 7 #[.agg #[.int .i64 p, .slice A n c], .slice D m d, .int .i64 now] w (SaV w p bs hs now) := by
  have HL := Lib.hid g.len
  have hB0 : Below w.heap.size w ((w.alloc (.cells #[.int .i64 p, .slice A n c] 25)).alloc (.cells #[.int .i64 0, .slice none 0 0] 31)) := ((Below.refl w.heap.size w).alloc (Nat.le_refl _) _).alloc (by simp) _
  have HH := Lib.hid (h.below hB0)
  have HG := Lib.hid (g.below hB0)
  clear h g
  go_enter Try.func7, Try.ntmps7
  go_wp2_with (fail)
  refine kB (sHeardOk_any p A n c bs D m d hs _ HH.out HG.out hn hm) ?_ ?_
  · intro w1 hf hb1
    obtain ⟨P, rfl, hP1, hP6⟩ := hf.out.2.1.nat
    have hB1 : Below w.heap.size w w1 := hB0.trans (hb1.mono hB0.size)
    have e0 : w1.cell? ⟨w.heap.size, 0, none⟩ = some (.int .i64 (P : Int)) := keep hb1 (by simp [go_sem])
    have e1 : w1.cell? ⟨w.heap.size, 1, none⟩ = some (.slice A n c) := keep hb1 (by simp [go_sem])
    have r0 : w1.cell? ⟨w.heap.size + 1, 0, none⟩ = some (.int .i64 0) := keep hb1 (by simp [go_sem])
    have r1 : w1.cell? ⟨w.heap.size + 1, 1, none⟩ = some (.slice none 0 0) := keep hb1 (by simp [go_sem])
    have q0 : w1.frozen? ⟨w.heap.size + 1, 0, none⟩ = false := ((bcell hb1).2 _ _ (by simp)).trans (by simp [go_sem])
    have q1 : w1.frozen? ⟨w.heap.size + 1, 1, none⟩ = false := ((bcell hb1).2 _ _ (by simp)).trans (by simp [go_sem])
    have hsw : w.heap.size + 1 < w1.heap.size := cell_lt r0
    have HG1 := Lib.hid (HG.out.below hb1)
    have HB1 := Lib.hid hB1
    have HR := Lib.hid (And.intro r0 (And.intro r1 (And.intro q0 q1)))
    clear hb1 hB1
    have wayIn : SaOk (P : Int) bs hs now → True := fun _ => trivial
    clear wayIn
    have hsa : SaOk (P : Int) bs hs now ↔ InR now 0 2000 ∧ lastT hs m ≤ now := by
      unfold SaOk
      rw [HL.out]
      constructor
      · rintro ⟨-, h1, h2⟩
        refine ⟨⟨?_, h2⟩, h1⟩
        unfold lastT at h1
        split at h1
        · exact h1
        · have := (hf.out.1 (m - 1) (by rw [HL.out]; omega)).2.1.1; omega
      · rintro ⟨⟨h1, h2⟩, h3⟩
        exact ⟨hf.out, h3, h2⟩
    have HSA := Lib.hid hsa
    clear hsa
    have HGO := Lib.hid (fun (_ : SaOk (P : Int) bs hs now) => l14State_any P A n c D m d hs now w1 HG1.out ⟨hP1, hP6⟩ hm hf.out.1)
    by_cases hin : InR now 0 2000
    · have hl1 : ∀ W, Calls Try.prog 21 #[.int .i64 now, .int .i64 0, .int .i64 2000] W (Same W (.bool true)) := fun W => by rw [← B_true hin]; exact l1In_any _ _ _ _
      have HIN := Lib.hid hin
      have HL1 := Lib.hid hl1
      clear hin hl1
      by_cases hle : lastT hs m ≤ now
      · have HOK := Lib.hid (HSA.out.2 ⟨HIN.out, hle⟩)
        have HCALL := Lib.hid (HGO.out HOK.out)
        by_cases hm0 : m = 0
        · subst hm0
          clear hle
          go_wp2_with (fail)
          refine kV (HL1.out _) ?_
          go_wp2_with (fail)
          refine HCALL.out.mono ?_
          rintro e w2 ⟨A', N, c', rfl, hown, hb2⟩
          have r0' := keep hb2 r0
          have r1' := keep hb2 r1
          have q0' := (hb2.frozen (p := ⟨w.heap.size + 1, 0, none⟩) hsw).trans q0
          have q1' := (hb2.frozen (p := ⟨w.heap.size + 1, 1, none⟩) hsw).trans q1
          go_wp2_with (fail)
          refine bodyPost_ret (v := .tuple #[.agg #[.int .i64 now, .slice A' N c'], .bool true]) (by simp [results, Try.results7, go_sem, r0', r1']) rfl (.inl ⟨HOK.out, _, _, _, rfl, own_base (own_setOldZ (own_setOldZ hown hsw 0 _) hsw 1 _) HB1.out.size, ((HB1.out.trans (hb2.mono HB1.out.size)).setCell (by simp) _).setCell (by simp) _⟩)
        · obtain ⟨k, rfl⟩ : ∃ k, m = k + 1 := ⟨m - 1, by omega⟩
          obtain ⟨b, off, rfl, hc⟩ := HG1.out.cells (by omega)
          obtain ⟨-, c1⟩ := hc k (by omega)
          have HLT := Lib.hid (show lastT hs (k + 1) = (hs.getD k (0, 0)).2 by unfold lastT; rw [if_neg (by omega), Nat.add_sub_cancel])
          rw [HLT.out] at hle
          obtain ⟨t, HT⟩ : ∃ q, Hid ((hs.getD k (0, 0)).2 = q) := ⟨_, rfl⟩
          rw [HT.out] at c1 hle
          have hk1 : ((k + 1 : Nat) : Int) - 1 = (k : Int) := by omega
          have hlt : ¬ now < t := by omega
          clear hc
          go_wp2_with (fail)
          refine kV (HL1.out _) ?_
          go_wp2_with (fail)
          refine HCALL.out.mono ?_
          rintro e w2 ⟨A', N, c', rfl, hown, hb2⟩
          have r0' := keep hb2 r0
          have r1' := keep hb2 r1
          have q0' := (hb2.frozen (p := ⟨w.heap.size + 1, 0, none⟩) hsw).trans q0
          have q1' := (hb2.frozen (p := ⟨w.heap.size + 1, 1, none⟩) hsw).trans q1
          go_wp2_with (fail)
          refine bodyPost_ret (v := .tuple #[.agg #[.int .i64 now, .slice A' N c'], .bool true]) (by simp [results, Try.results7, go_sem, r0', r1']) rfl (.inl ⟨HOK.out, _, _, _, rfl, own_base (own_setOldZ (own_setOldZ hown hsw 0 _) hsw 1 _) HB1.out.size, ((HB1.out.trans (hb2.mono HB1.out.size)).setCell (by simp) _).setCell (by simp) _⟩)
      · have HNO := Lib.hid (show ¬ SaOk (P : Int) bs hs now from fun hh => hle (HSA.out.1 hh).2)
        obtain ⟨k, rfl⟩ : ∃ k, m = k + 1 := ⟨m - 1, by
          rcases Nat.eq_zero_or_pos m with h0 | h0
          · subst h0; exact absurd HIN.out.1 (by unfold lastT at hle; simpa using hle)
          · omega⟩
        obtain ⟨b, off, rfl, hc⟩ := HG1.out.cells (by omega)
        obtain ⟨-, c1⟩ := hc k (by omega)
        have HLT := Lib.hid (show lastT hs (k + 1) = (hs.getD k (0, 0)).2 by unfold lastT; rw [if_neg (by omega), Nat.add_sub_cancel])
        rw [HLT.out] at hle
        obtain ⟨t, HT⟩ : ∃ q, Hid ((hs.getD k (0, 0)).2 = q) := ⟨_, rfl⟩
        rw [HT.out] at c1 hle
        have hk1 : ((k + 1 : Nat) : Int) - 1 = (k : Int) := by omega
        have hlt : now < t := by omega
        clear hc
        go_wp2_with (fail)
        refine kV (HL1.out _) ?_
        go_wp2_with (fail)
        refine bodyPost_ret (v := .tuple #[.agg #[.int .i64 0, .slice none 0 0], .bool false]) (by simp [results, Try.results7, go_sem, r0, r1]) rfl (.inr ⟨HNO.out, _, _, _, rfl, OwnZ.nil _ _, ?_⟩)
        exact (HB1.out.setCell (by simp) _).setCell (by simp) _
    · have hl1 : ∀ W, Calls Try.prog 21 #[.int .i64 now, .int .i64 0, .int .i64 2000] W (Same W (.bool false)) := fun W => by rw [← B_false hin]; exact l1In_any _ _ _ _
      have HNO := Lib.hid (show ¬ SaOk (P : Int) bs hs now from fun hh => hin (HSA.out.1 hh).1)
      have HL1 := Lib.hid hl1
      clear hin hl1
      go_wp2_with (fail)
      refine kV (HL1.out _) ?_
      go_wp2_with (fail)
      refine bodyPost_ret (v := .tuple #[.agg #[.int .i64 0, .slice none 0 0], .bool false]) (by simp [results, Try.results7, go_sem, r0, r1]) rfl (.inr ⟨HNO.out, _, _, _, rfl, OwnZ.nil _ _, ?_⟩)
      exact (HB1.out.setCell (by simp) _).setCell (by simp) _
  · intro w1 hf hb1
    have r0 : w1.cell? ⟨w.heap.size + 1, 0, none⟩ = some (.int .i64 0) := keep hb1 (by simp [go_sem])
    have r1 : w1.cell? ⟨w.heap.size + 1, 1, none⟩ = some (.slice none 0 0) := keep hb1 (by simp [go_sem])
    have q0 : w1.frozen? ⟨w.heap.size + 1, 0, none⟩ = false := ((bcell hb1).2 _ _ (by simp)).trans (by simp [go_sem])
    have q1 : w1.frozen? ⟨w.heap.size + 1, 1, none⟩ = false := ((bcell hb1).2 _ _ (by simp)).trans (by simp [go_sem])
    go_wp2_with (fail)
    refine bodyPost_ret (v := .tuple #[.agg #[.int .i64 0, .slice none 0 0], .bool false]) (by simp [results, Try.results7, go_sem, r0, r1]) rfl (.inr ⟨fun hh => hf.out hh.1, _, _, _, rfl, OwnZ.nil _ _, ?_⟩)
    exact ((hB0.trans (hb1.mono hB0.size)).setCell (by simp) _).setCell (by simp) _

end Go.Proofs.Ytpefimeogbpagaa
