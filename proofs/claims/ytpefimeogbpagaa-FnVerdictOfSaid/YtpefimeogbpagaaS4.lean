/- States after happenings, by the program: StateAfter. -/
import Derived.Test.YtpefimeogbpagaaS3
namespace Go.Proofs.Ytpefimeogbpagaa
open Go.RowKit

set_option maxRecDepth 100000 in
set_option maxHeartbeats 4000000 in
theorem iStateAfter_any (p : Int) (A : Option Addr) (n c : Nat) (bs : List Bd) (D : Option Addr) (m d : Nat) (hs : List Hp) (now : Int) (w : World) (h : BndsAt w A n bs) (g : HapsAt w D m hs) (hn : n ≤ 1048576) (hm : m ≤ 1048576) :
    Calls Try.prog 6 #[.agg #[.int .i64 p, .slice A n c], .slice D m d, .int .i64 now] w (SaV w p bs hs now) := by
  have HL := Lib.hid g.len
  have hB0 : Below w.heap.size w ((w.alloc (.cells #[.int .i64 p, .slice A n c] 25)).alloc (.cells #[.int .i64 0, .slice none 0 0] 31)) := ((Below.refl w.heap.size w).alloc (Nat.le_refl _) _).alloc (by simp) _
  have HH := Lib.hid (h.below hB0)
  have HG := Lib.hid (g.below hB0)
  clear h g
  go_enter Try.func6, Try.ntmps6
  go_wp2_with (fail)
  refine kB (iHeardOk_any p A n c bs D m d hs _ HH.out HG.out hn hm) ?_ ?_
  · intro w1 hf hb1
    obtain ⟨P, rfl, hP1, hP6⟩ := hf.out.2.1.nat
    have hB1 : Below w.heap.size w w1 := hB0.trans (hb1.mono hB0.size)
    have e0 : w1.cell? ⟨w.heap.size, 0, none⟩ = some (.int .i64 (P : Int)) := keep hb1 (by simp [go_sem])
    have e1 : w1.cell? ⟨w.heap.size, 1, none⟩ = some (.slice A n c) := keep hb1 (by simp [go_sem])
    have r0 : w1.cell? ⟨w.heap.size + 1, 0, none⟩ = some (.int .i64 0) := keep hb1 (by simp [go_sem])
    have r1 : w1.cell? ⟨w.heap.size + 1, 1, none⟩ = some (.slice none 0 0) := keep hb1 (by simp [go_sem])
    have q0 : w1.frozen? ⟨w.heap.size + 1, 0, none⟩ = false := ((bcell hb1).2 _ _ (by simp)).trans (by simp [go_sem])
    have q1 : w1.frozen? ⟨w.heap.size + 1, 1, none⟩ = false := ((bcell hb1).2 _ _ (by simp)).trans (by simp [go_sem])
    have hsw : w.heap.size + 1 < w1.heap.size := cell_lt r0
    have HG1 := Lib.hid (HG.out.below hb1)
    have HH1 := Lib.hid (HH.out.below hb1)
    have HB1 := Lib.hid hB1
    have HR := Lib.hid (And.intro r0 (And.intro r1 (And.intro q0 q1)))
    have HLT := Lib.hid (show lastT hs m = lastT hs hs.length by rw [HL.out])
    clear hb1 hB1
    obtain ⟨l, HLL⟩ : ∃ q, Hid (lastT hs m = q) := ⟨_, rfl⟩
    go_wp2_with (fail)
    refine kV (lastTime_any D m d hs w1 HG1.out hm) ?_
    rw [HLL.out]
    go_wp2_with (fail)
    refine kS (in_any now l 2000 w1) ?_ ?_
    · intro hin
      go_wp2_with (fail)
      refine (StateNew_any (P : Int) A n c bs w1 HH1.out).mono ?_
      rintro e w2 (⟨-, A', N, c', rfl, hown, hb2⟩ | ⟨hf2, -⟩)
      rotate_left
      · exact absurd hf.out.2 hf2
      obtain rfl : N = P := by have h1 := hown.len; have h2 : (Ds0 (P : Int).toNat).length = P := Ds0_len hP1; omega
      obtain ⟨gb, rfl, hgb, hgl⟩ := own_cellsZ hown (by omega)
      have HO2 := Lib.hid (show OwnZ w2 w1.heap.size (some ⟨gb, 0, none⟩) N c' (Ds0 N) from hown)
      have HB2 := Lib.hid hb2
      clear hown hb2 e0 e1 r0 r1 q0 q1
      go_wp2
      go_loopw [33] (fun i wr => ∃ (k : Nat), k ≤ m ∧ i = .int .i64 k ∧ OwnZ wr w1.heap.size (some ⟨gb, 0, none⟩) N c' (DsA N (hs.take k)) ∧ wr.cell? ⟨w2.heap.size, 0, none⟩ = some (.int .i64 now) ∧ wr.cell? ⟨w2.heap.size, 1, none⟩ = some (.slice (some ⟨gb, 0, none⟩) N c') ∧ Below w1.heap.size w1 wr) (fun i _ => m - (intOf i).toNat)
      case atStart => exact ⟨0, Nat.zero_le _, rfl, HO2.out.alloc _, by simp [go_sem], by simp [go_sem], HB2.out.alloc HB2.out.size _⟩
      case round =>
        obtain ⟨wo, rfl⟩ : ∃ wo : World, wo = wr := ⟨_, rfl⟩
        obtain ⟨k, hk, rfl, hown, s0, s1, hb⟩ := hrel
        have HO := Lib.hid hown
        have HB := Lib.hid hb
        have hgl2 := (hown.lt gb rfl).2
        have hql := cell_lt s0
        simp only at hql
        by_cases hkm : k < m
        · obtain ⟨b, off, rfl, hc⟩ := (HG1.out.below hb).cells (by omega)
          obtain ⟨c0, c1⟩ := hc k hkm
          have hkl : k < hs.length := by rw [HL.out]; exact hkm
          obtain ⟨hx1, hx2⟩ := hf.out.1.inP ⟨hP1, hP6⟩ hkl
          have HT := Lib.hid (DsA_take (p := N) hkl)
          obtain ⟨t, HTT⟩ : ∃ q, Hid ((hs.getD k (0, 0)).2 = q) := ⟨_, rfl⟩
          obtain ⟨x, HX⟩ : ∃ q, Hid ((hs.getD k (0, 0)).1 = q) := ⟨_, rfl⟩
          rw [HX.out] at c0 hx1 hx2 HT
          rw [HTT.out] at c1 HT
          obtain ⟨X, rfl⟩ := Int.eq_ofNat_of_zero_le (show 0 ≤ x by omega)
          have hXN : X < N := by omega
          obtain ⟨b', off', e', hd⟩ := (OwnZ.at_ hown).cells (by omega)
          cases e'
          have d0 := hd X hXN
          rw [Nat.zero_add] at d0
          have f0 := hown.frozenAt X
          clear hd hown hb hc
          go_wp2
          go_roundw
          case rel =>
            have h1 := own_setZ HO.out X (.int .i64 t)
            refine ⟨k + 1, by omega, by go_num, ?_, ?_, ?_, (HB.out.setCell hgb _).alloc (by have := HB.out.size; simp [World.setCell]; omega) _⟩
            · show World.ownsRow _ _ _ _ _ _ (vI _)
              rw [HT.out, show ((X : Int)).toNat = X from rfl, show vI ((DsA N (hs.take k)).set X t) = (vI (DsA N (hs.take k))).set X (.int .i64 t) by simp [vI, List.map_set]]
              exact own_below h1 ((Below.refl _ _).alloc (Nat.le_refl _) _)
            · exact keep ((Below.refl _ _).alloc (Nat.le_refl _) _) (by rw [World.cell?_setCell_far _ _ _ _ (by simp; omega)]; exact s0)
            · exact keep ((Below.refl _ _).alloc (Nat.le_refl _) _) (by rw [World.cell?_setCell_far _ _ _ _ (by simp; omega)]; exact s1)
          case measure => simp [intOf]; omega
        · obtain rfl : k = m := by omega
          obtain ⟨r0, r1, q0, q1⟩ := HR.out
          have r0' := keep hb r0
          have r1' := keep hb r1
          have q0' := (hb.frozen (p := ⟨w.heap.size + 1, 0, none⟩) hsw).trans q0
          have q1' := (hb.frozen (p := ⟨w.heap.size + 1, 1, none⟩) hsw).trans q1
          clear r0 r1 q0 q1 hown hb
          have HDS := Lib.hid (show hs.take k = hs from List.take_of_length_le (by rw [HL.out]; exact Nat.le_refl _))
          go_wp2_with (fail)
          refine bodyPost_ret (v := .tuple #[.agg #[.int .i64 now, .slice (some ⟨gb, 0, none⟩) N c'], .bool true]) (by simp [results, Try.results6, go_sem, r0', r1']) rfl (.inl ⟨⟨hf.out, by rw [← HLT.out, HLL.out]; exact hin.out⟩, _, _, _, rfl, ?_, ?_⟩)
          · have h1 := HO.out
            rw [HDS.out] at h1
            exact own_base (own_setOldZ (own_setOldZ h1 hsw 0 _) hsw 1 _) HB1.out.size
          · exact ((HB1.out.trans (HB.out.mono HB1.out.size)).setCell (by simp) _).setCell (by simp) _
    · intro hin
      go_wp2_with (fail)
      refine bodyPost_ret (v := .tuple #[.agg #[.int .i64 0, .slice none 0 0], .bool false]) (by simp [results, Try.results6, go_sem, r0, r1]) rfl (.inr ⟨fun hh => hin.out (by have := hh.2; rwa [← HLT.out, HLL.out] at this), _, _, _, rfl, OwnZ.nil _ _, ?_⟩)
      exact (HB1.out.setCell (by simp) _).setCell (by simp) _
  · intro w1 hf hb1
    have r0 : w1.cell? ⟨w.heap.size + 1, 0, none⟩ = some (.int .i64 0) := keep hb1 (by simp [go_sem])
    have r1 : w1.cell? ⟨w.heap.size + 1, 1, none⟩ = some (.slice none 0 0) := keep hb1 (by simp [go_sem])
    have q0 : w1.frozen? ⟨w.heap.size + 1, 0, none⟩ = false := ((bcell hb1).2 _ _ (by simp)).trans (by simp [go_sem])
    have q1 : w1.frozen? ⟨w.heap.size + 1, 1, none⟩ = false := ((bcell hb1).2 _ _ (by simp)).trans (by simp [go_sem])
    go_wp2_with (fail)
    refine bodyPost_ret (v := .tuple #[.agg #[.int .i64 0, .slice none 0 0], .bool false]) (by simp [results, Try.results6, go_sem, r0, r1]) rfl (.inr ⟨fun hh => hf.out hh.1, _, _, _, rfl, OwnZ.nil _ _, ?_⟩)
    exact ((hB0.trans (hb1.mono hB0.size)).setCell (by simp) _).setCell (by simp) _

end Go.Proofs.Ytpefimeogbpagaa
