/- Draws of plans with few points: l20Few. -/
import Derived.Test.YtopfhlopicjemaaDRQ
namespace Go.Proofs.Ytopfhlopicjemaa
open Go.RowKit

theorem kPlanDrawn {Pr : Program} {f : FuncId} {args : Array Value} {w : World} {K : Ending → World → Prop} {R : Nat} {B : Int} (h : Calls Pr f args w (PlanDrawn R B w))
    (h1 : ∀ pts A n c xs w', 0 ≤ pts → pts ≤ 7 → n ≤ 9 → OwnB w' w.heap.size A n c xs → Mv R (B + 80) w w' → K (.returned (.agg #[.int .i64 pts, .slice A n c])) w') : Calls Pr f args w K :=
  h.mono fun e w' ⟨pts, A, n, c, xs, he, h0, h7, h9, ho, hm⟩ => by subst he; exact h1 pts A n c xs w' h0 h7 h9 ho hm
set_option maxRecDepth 100000 in
set_option maxHeartbeats 4000000 in
theorem l20Few_any (R : Nat) (B n : Int) (w : World) (h : Rd w R B) (hB : B ≤ 900000000) (hn : 0 ≤ n ∧ n ≤ 1000) :
    Calls Try.prog 88 #[.pointer (some ⟨R, 0, none⟩), .int .i64 n] w (PlanDrawn R (B + 1) w) := by
  have hR := h.lt
  have HQ0 := Lib.hid (Blk.new w 48 #[.int .i64 0, .slice none 0 0])
  have HM0 := Lib.hid (show Mv R B w (w.alloc (.cells #[.int .i64 0, .slice none 0 0] 48)) from ⟨grown_of_below ((Below.refl _ _).alloc (Nat.le_refl _) _) _, h.alloc _⟩)
  clear h
  go_enter Try.func88, Try.ntmps88
  go_wp2_with (fail)
  refine kPlanDrawn (l20Plan_any R B n _ HM0.out.2 hB hn) ?_
  intro pts A m c xs w1 hp0 hp7 hm9 hown hm1
  have HM1 := Lib.hid (HM0.out.trans hm1)
  have HQ1 := Lib.hid (show Blk w1 w.heap.size 48 #[.int .i64 0, .slice none 0 0] from (hm1.1.block _ HQ0.out.lt (fun e => by cases e; omega)).trans HQ0.out)
  have HO1 := Lib.hid (own_base (base' := w.heap.size) hown (by simp))
  have hlo := Lib.hid (fun k hk => (hown.lt k hk).1)
  have hqw := HQ1.out.lt
  clear hown hm1
  obtain ⟨w2, HW2⟩ : ∃ q, Hid (w1.alloc (.cells #[.int .i64 pts, .slice A m c] 48) = q) := ⟨_, rfl⟩
  have hb2 : Below w1.heap.size w1 w2 := HW2.out ▸ (Below.refl _ _).alloc (Nat.le_refl _) _
  have s0 : w2.cell? ⟨w1.heap.size, 0, none⟩ = some (.int .i64 pts) := HW2.out ▸ by simp [go_sem]
  have s1 : w2.cell? ⟨w1.heap.size, 1, none⟩ = some (.slice A m c) := HW2.out ▸ by simp [go_sem]
  have HM2 := Lib.hid (HM1.out.below hb2)
  have HQ2 := Lib.hid (HQ1.out.below hb2 hqw)
  have HO2 := Lib.hid (own_below HO1.out hb2)
  have HS2 := Lib.hid (And.intro s0 s1)
  have hmc : m ≤ c := OwnB.cap HO1.out
  clear hb2
  by_cases hp4 : 4 < pts
  · go_wp2_with (fail)
    rw [HW2.out]
    obtain ⟨qb, HQB⟩ : ∃ q, Hid (w1.heap.size = q) := ⟨_, rfl⟩
    rw [HQB.out] at s0 s1 HS2 hqw ⊢
    have hRq : qb ≠ R := by omega
    refine kPick (pick_any R _ 9 _ HM2.out.2 (by omega)) ?_
    intro x w3 hq1 hq2 hm3 hs3
    obtain ⟨hx0, hx1⟩ := hq1 (by omega)
    have HM3 := Lib.hid (HM2.out.trans hm3)
    have HQ3 := Lib.hid (show Blk w3 w.heap.size 48 #[.int .i64 0, .slice none 0 0] from (hm3.1.block _ HQ2.out.lt (fun e => by cases e; omega)).trans HQ2.out)
    have HO3 := Lib.hid (own_mv HO2.out hR hm3)
    have t0 := hm3.keepA hRq s0
    have t1 := hm3.keepA hRq s1
    clear hq1 hq2 hm3 hs3 s0 s1
    have q0 := (HQ3.out.cell 0).trans rfl
    have q1 := (HQ3.out.cell 1).trans rfl
    have qf0 := HQ3.out.frozen 0
    have qf1 := HQ3.out.frozen 1
    have hqw3 := HQ3.out.lt
    by_cases hx : 0 < x
    · have HT := Lib.hid (And.intro t0 t1)
      have HQC := Lib.hid (And.intro q0 (And.intro q1 (And.intro qf0 qf1)))
      have hw3 : w.heap.size ≤ w3.heap.size := HM3.out.1.size
      clear q0 q1 qf0 qf1
      go_wp2_with (fail)
      obtain ⟨B1, HB1⟩ : ∃ q, Hid (w3.heap.size = q) := ⟨_, rfl⟩
      rw [HB1.out]
      rw [HB1.out] at hw3 hqw3
      go_loopw [6, 7] (fun o i wr => ∃ (k N g cv : Nat) (ys : List Bd), k ≤ m ∧ N ≤ k ∧ i = .int .i64 k ∧ o = .slice (some ⟨g, 0, none⟩) N cv ∧ OwnB wr B1 (some ⟨g, 0, none⟩) N cv ys ∧ Below B1 w3 wr) (fun _ i _ => m - (intOf i).toNat)
      case atStart => exact ⟨0, 0, B1, 0, [], Nat.zero_le _, Nat.le_refl _, rfl, rfl, own_lit_atB HB1.out B1 _ 3 #[] 0 (Nat.le_of_eq HB1.out.symm) (by decide) rfl, HB1.out ▸ (Below.refl _ _).alloc (Nat.le_refl _) _⟩
      case round =>
        obtain ⟨wo, rfl⟩ : ∃ wo : World, wo = wr := ⟨_, rfl⟩
        obtain ⟨k, N, g, cv, ys, hk, hN, rfl, rfl, hown, hb⟩ := hrel
        have HO := Lib.hid hown
        have hb' : Below w3.heap.size w3 wo := HB1.out.symm ▸ hb
        have HB := Lib.hid hb'
        have t0 := keep hb' HT.out.1
        have t1 := keep hb' HT.out.2
        have hbB : B1 ≤ wo.heap.size := by have := hb'.size; have := HB1.out; omega
        clear hown hb hb'
        by_cases hkm : k < m
        · obtain ⟨b, off, rfl, hc⟩ := ((OwnB.at_ HO3.out).below HB.out).cells (by omega)
          obtain ⟨c0, c1, c2⟩ := hc k hkm
          clear hc
          obtain ⟨y, HY⟩ : ∃ q, Hid (xs.getD k (0, 0, 0) = q) := ⟨_, rfl⟩
          rw [HY.out] at c0 c1 c2
          obtain ⟨y0, y1, y2⟩ := y
          simp only at c0 c1 c2
          by_cases h0 : y0 < 4
          · by_cases h1 : y1 < 4
            · have h0' : decide (y0 < 4) = true := decide_eq_true h0
              have h1' : decide (y1 < 4) = true := decide_eq_true h1
              go_wp2_with (first
                | (at_builtin; refine wpl_app rowB rfl _ _ (by rfl) B1 _ N (v3 ys) (by rfl) (HO.out.alloc _) ⟨wo.heap.size, 0, none⟩ 1 1 (v3 [(y0, y1, y2)]) (by rfl) rfl (cell3B (by simp) _ _) (v3_one _) (by decide) (by omega) (by simp; omega) ?_
                   intro g' cap' wB hownB hgrow hat hltB))
              have HOB := Lib.hid hownB
              have HBN := Lib.hid ((HB.out.alloc HB.out.size _).grown hgrow (by have := HB.out.size; simp <;> omega) (fun k hk => by have := (HO.out.lt k hk).1; have := HB1.out; omega))
              clear hownB hgrow hat
              go_wp2
              go_roundw
              case rel => exact ⟨k + 1, N + 1, g', cap', ys ++ [(y0, y1, y2)], by omega, by omega, by go_num, rfl, by show World.ownsRow _ _ _ _ _ _ (v3 _); rw [v3_append]; exact HOB.out, HB1.out ▸ HBN.out⟩
              case measure => simp [intOf]; omega
            · have h0' : decide (y0 < 4) = true := decide_eq_true h0
              have h1' : decide (y1 < 4) = false := decide_eq_false h1
              go_wp2
              go_roundw
              case rel => exact ⟨k + 1, N, g, cv, ys, by omega, by omega, by go_num, rfl, HO.out, HB1.out ▸ HB.out⟩
              case measure => simp [intOf]; omega
          · have h0' : decide (y0 < 4) = false := decide_eq_false h0
            go_wp2
            go_roundw
            case rel => exact ⟨k + 1, N, g, cv, ys, by omega, by omega, by go_num, rfl, HO.out, HB1.out ▸ HB.out⟩
            case measure => simp [intOf]; omega
        · obtain rfl : k = m := by omega
          have hwlt : w.heap.size < w3.heap.size := by have := HB1.out; omega
          have q0 := (HB.out.cell (p := ⟨w.heap.size, 0, none⟩) hwlt).trans HQC.out.1
          have q1 := (HB.out.cell (p := ⟨w.heap.size, 1, none⟩) hwlt).trans HQC.out.2.1
          have qf0 := (HB.out.frozen (p := ⟨w.heap.size, 0, none⟩) hwlt).trans HQC.out.2.2.1
          have qf1 := (HB.out.frozen (p := ⟨w.heap.size, 1, none⟩) hwlt).trans HQC.out.2.2.2
          go_wp2_with (fail)
          refine bodyPost_ret (v := .agg #[.int .i64 4, .slice (some ⟨g, 0, none⟩) N cv]) (by simp [results, Try.results88, go_sem, q0, q1]) rfl ⟨_, _, _, _, ys, rfl, by omega, by omega, by omega, own_base (own_setOld (own_setOld HO.out (by omega) 0 _) (by omega) 1 _) (by omega), (((HM3.out.below HB.out).setNew (P := w.heap.size) (Nat.le_refl _) hR 0 _).setNew (P := w.heap.size) (Nat.le_refl _) hR 1 _).mono (by omega)⟩
    · have hxz : x = 0 := by omega
      subst hxz
      go_wp2_with (fail)
      refine bodyPost_ret (v := .agg #[.int .i64 pts, .slice A m c]) (by simp [results, Try.results88, go_sem, q0, q1]) rfl ⟨_, _, _, _, xs, rfl, by omega, by omega, by omega, ?_, ((HM3.out.setNew (P := w.heap.size) (Nat.le_refl _) hR 0 _).setNew (P := w.heap.size) (Nat.le_refl _) hR 1 _).mono (by omega)⟩
      have hset : ∀ (v : World) i u, v.ownsRow w.heap.size 95 3 (.slice A m c) m (v3 xs) → (v.setCell ⟨w.heap.size, i, none⟩ u).ownsRow w.heap.size 95 3 (.slice A m c) m (v3 xs) := fun v i u hv =>
        hv.kept (row := some w.heap.size) ⟨rfl, rfl, rfl, by simp [World.setCell], fun k _ hk => Below.heap_setCell _ _ _ _ (fun e => hk (by rw [e]))⟩ (by
          cases hb : (Value.slice A m c).ownBlock with
          | none => exact .inl rfl
          | some k => exact .inr (fun e => by have h1 := hlo.out k hb; simp at h1; have h2 := Option.some.inj e; omega))
      exact hset _ _ _ (hset _ _ _ HO3.out)
  · have q0 := (HQ2.out.cell 0).trans rfl
    have q1 := (HQ2.out.cell 1).trans rfl
    have qf0 := HQ2.out.frozen 0
    have qf1 := HQ2.out.frozen 1
    have q0' := (HQ1.out.cell 0).trans rfl
    have q1' := (HQ1.out.cell 1).trans rfl
    have qf0' := HQ1.out.frozen 0
    have qf1' := HQ1.out.frozen 1
    go_wp2_with (fail)
    refine bodyPost_ret (v := .agg #[.int .i64 pts, .slice A m c]) (by simp [results, Try.results88, go_sem, q0', q1', hqw]) rfl ⟨_, _, _, _, xs, rfl, by omega, by omega, by omega, ?_, ?_⟩
    · have hset : ∀ (v : World) i u, v.ownsRow w.heap.size 95 3 (.slice A m c) m (v3 xs) → (v.setCell ⟨w.heap.size, i, none⟩ u).ownsRow w.heap.size 95 3 (.slice A m c) m (v3 xs) := fun v i u hv =>
        hv.kept (row := some w.heap.size) ⟨rfl, rfl, rfl, by simp [World.setCell], fun k _ hk => Below.heap_setCell _ _ _ _ (fun e => hk (by rw [e]))⟩ (by
          cases hb : (Value.slice A m c).ownBlock with
          | none => exact .inl rfl
          | some k => exact .inr (fun e => by have h1 := hlo.out k hb; simp at h1; have h2 := Option.some.inj e; omega))
      exact own_below (hset _ _ _ (hset _ _ _ HO1.out)) ((Below.refl _ _).alloc (Nat.le_refl _) _)
    · exact ((((HM1.out.setNew (P := w.heap.size) (Nat.le_refl _) hR 0 _).setNew (P := w.heap.size) (Nat.le_refl _) hR 1 _).alloc _)).mono (by omega)

end Go.Proofs.Ytopfhlopicjemaa
