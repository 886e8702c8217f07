/- Whether a plan goes on, by the reference: spec.GoesOnOk. -/
import Derived.Test.YtpefimeogbpagaaS2
import Derived.Test.YtpefimeogbpagaaOA
import Derived.Deep.RegionHeldLaw
import Derived.Deep.CutRange
import Derived.Deep.DrawnRows
set_option linter.unusedSimpArgs false
set_option linter.unusedVariables false
namespace Go.Proofs.Ytpefimeogbpagaa
open Go.RowKit
attribute [local go_sem ↓] Go.wp_at_zero Go.wp_at_succ

/-- The plan under way: its block, its row. -/
structure QAt (w : World) (B0 q : Nat) (p : Int) (A : Option Addr) (n c : Nat) (xs : List Bd) : Prop where
  bq : B0 ≤ q
  blk : Blk w q 25 #[.int .i64 p, .slice A n c]
  row : OwnB w B0 A n c xs
  ne : ∀ k, (Value.slice A n c).ownBlock = some k → k ≠ q
section
variable {w w' W wB : World} {B0 q n c g cap m : Nat} {p : Int} {A : Option Addr} {xs ys : List Bd}
theorem QAt.cells (h : QAt w B0 q p A n c xs) : w.cell? ⟨q, 0, none⟩ = some (.int .i64 p) ∧ w.cell? ⟨q, 1, none⟩ = some (.slice A n c) ∧ w.frozen? ⟨q, 1, none⟩ = false ∧ q < w.heap.size :=
  ⟨(h.blk.cell 0).trans rfl, (h.blk.cell 1).trans rfl, h.blk.frozen 1, h.blk.lt⟩
/-- The row has grown, and is stored. -/
theorem QAt.app (h : QAt W B0 q p A n c xs) (hown : wB.ownsRow B0 61 3 (.slice (some ⟨g, 0, none⟩) m cap) m (v3 ys)) (hgrow : W.grownBy wB (Value.slice A n c).ownBlock) (hat : (Value.slice A n c).ownBlock = some g ∨ W.heap.size ≤ g) :
    wB.cell? ⟨q, 1, none⟩ = some (.slice A n c) ∧ wB.frozen? ⟨q, 1, none⟩ = false ∧ q < wB.heap.size ∧ QAt (wB.setCell ⟨q, 1, none⟩ (.slice (some ⟨g, 0, none⟩) m cap)) B0 q p (some ⟨g, 0, none⟩) m cap ys := by
  have hq := h.blk.lt
  have hb : Blk wB q 25 #[.int .i64 p, .slice A n c] := (hgrow.block q hq (fun e => h.ne q e.symm rfl)).trans h.blk
  have hgq : g ≠ q := by
    rcases hat with e | e
    · exact h.ne g e
    · omega
  refine ⟨(hb.cell 1).trans rfl, hb.frozen 1, hb.lt, h.bq, ?_, ?_, fun k hk => ?_⟩
  · have := hb.set_ 1 (.slice (some ⟨g, 0, none⟩) m cap)
    simpa using this
  · exact own_keptZ hown (row := some q) ⟨rfl, rfl, rfl, by simp [World.setCell], fun k _ hk => Below.heap_setCell _ _ _ _ (fun e => hk (by rw [e]))⟩ (fun k hk e => by simp only [Value.ownBlock] at hk; cases hk; cases e; exact hgq rfl)
  · simp only [Value.ownBlock] at hk; cases hk; exact hgq
theorem QAt.alloc (h : QAt w B0 q p A n c xs) (o : Obj) : QAt (w.alloc o) B0 q p A n c xs :=
  ⟨h.bq, h.blk.below ((Below.refl _ _).alloc (Nat.le_refl _) _) h.blk.lt, h.row.alloc o, h.ne⟩
/-- Made behind its row. -/
theorem QAt.late (h : OwnB w B0 A n c xs) (hb : B0 ≤ w.heap.size) (p : Int) : QAt (w.alloc (.cells #[.int .i64 p, .slice A n c] 25)) B0 w.heap.size p A n c xs :=
  ⟨hb, Blk.new _ _ _, h.alloc _, fun k hk => by have := (h.lt k hk).2; omega⟩
/-- Made ahead of its row. -/
theorem QAt.early (h : OwnB w B0 A n c xs) (hb : Blk w q 25 #[.int .i64 0, .slice none 0 0]) (hq : B0 ≤ q) (hne : ∀ k, (Value.slice A n c).ownBlock = some k → k ≠ q) (p : Int) :
    QAt ((w.setCell ⟨q, 0, none⟩ (.int .i64 p)).setCell ⟨q, 1, none⟩ (.slice A n c)) B0 q p A n c xs := by
  have hs : ∀ (v : World) i u, OwnB v B0 A n c xs → OwnB (v.setCell ⟨q, i, none⟩ u) B0 A n c xs := fun v i u hv =>
    own_keptZ hv (row := some q) ⟨rfl, rfl, rfl, by simp [World.setCell], fun k _ hk => Below.heap_setCell _ _ _ _ (fun e => hk (by rw [e]))⟩ (fun k hk e => by cases e; exact hne _ hk rfl)
  refine ⟨hq, ?_, hs _ _ _ (hs _ _ _ h), hne⟩
  have := (hb.set_ 0 (.int .i64 p)).set_ 1 (.slice A n c)
  simpa using this
end
theorem Blk.at_new {w : World} {q : Nat} (hq : w.heap.size = q) (t : TypeId) (cs : Array Value) : Blk (w.alloc (.cells cs t)) q t cs := by subst hq; exact Blk.new w t cs
theorem BndsAt.newsE {w : World} {A : Option Addr} {n : Nat} {xs : List Bd} (h : BndsAt w A n xs) {a : Addr} (e : A = some a) : ∀ j u, (v3 xs)[j]? = some u → w.cell? (a.add j) = some u := BndsAt.news (e ▸ h)

set_option maxRecDepth 100000 in
set_option maxHeartbeats 8000000 in
theorem sGoesOnOk_any (p : Int) (A : Option Addr) (n c : Nat) (bs : List Bd) (now : Int) (D : Option Addr) (m d : Nat) (ds : List Int) (w : World) (h : BndsAt w A n bs) (g : IntsAt w D m ds) (hn : n ≤ 1048576) :
    Calls Try.prog 30 #[.agg #[.int .i64 p, .slice A n c], .agg #[.int .i64 now, .slice D m d]] w (Bl w (.bool (B (Goes p bs now ds)))) := by
  have HL := Lib.hid g.len
  have HLB := Lib.hid h.len
  have HNA := Lib.hid (show A = none → n = 0 from fun e => by
    rcases Nat.eq_zero_or_pos n with h0 | h0
    · exact h0
    · obtain ⟨b, off, e', _⟩ := h.cells h0; rw [e] at e'; cases e')
  have hB0 : Below w.heap.size w ((w.alloc (.cells #[.int .i64 p, .slice A n c] 25)).alloc (.cells #[.int .i64 now, .slice D m d] 31)) := ((Below.refl w.heap.size w).alloc (Nat.le_refl _) _).alloc (by simp) _
  have HH := Lib.hid (h.below hB0)
  have HG := Lib.hid (g.below hB0)
  clear h g
  go_enter Try.func30, Try.ntmps30
  go_wp2_with (fail)
  refine kB (sStateOk_any p A n c bs now D m d ds _ HH.out HG.out hn) ?_ ?_
  · intro w1 hf hb1
    obtain ⟨P, rfl, hP1, hP6⟩ := hf.out.1.1.nat
    have hmp : m = P := by have h1 := hf.out.2.1; have h2 := HL.out; omega
    subst hmp
    have hn16 : n ≤ 16 := by have := hf.out.1.1.2.1; rw [HLB.out] at this; exact this
    obtain ⟨hn0, hn1⟩ := hf.out.2.2.1
    have hB1 : Below w.heap.size w w1 := hB0.trans (hb1.mono hB0.size)
    have e0 : w1.cell? ⟨w.heap.size, 0, none⟩ = some (.int .i64 (m : Int)) := keep hb1 (by simp [go_sem])
    have e1 : w1.cell? ⟨w.heap.size, 1, none⟩ = some (.slice A n c) := keep hb1 (by simp [go_sem])
    have s0 : w1.cell? ⟨w.heap.size + 1, 0, none⟩ = some (.int .i64 now) := keep hb1 (by simp [go_sem])
    have s1 : w1.cell? ⟨w.heap.size + 1, 1, none⟩ = some (.slice D m d) := keep hb1 (by simp [go_sem])
    have HG1 := Lib.hid (HG.out.below hb1)
    have HH1 := Lib.hid (HH.out.below hb1)
    have HB1 := Lib.hid hB1
    clear hb1 hB1
    obtain ⟨sb, HSB⟩ : ∃ q, Hid (w.heap.size = q) := ⟨_, rfl⟩
    rw [HSB.out] at e0 e1 s0 s1
    have hsw1 : sb + 1 < w1.heap.size := by have := cell_lt s0; simpa using this
    obtain ⟨B0, HBB⟩ : ∃ q, Hid (w1.heap.size = q) := ⟨_, rfl⟩
    have hBB1 : B0 ≤ w1.heap.size := Nat.le_of_eq HBB.out.symm
    have HS := Lib.hid (And.intro s0 s1)
    go_wp2_with (fail)
    rw [HSB.out]
    go_cut [5] from 12 to 18 (fun s wx => ∃ (q : Nat) (A' : Option Addr) (c' : Nat), s = .pointer (some ⟨q, 0, none⟩) ∧ QAt wx B0 q (m : Int) A' n c' bs ∧ Below B0 w1 wx)
    -- REGION 3
    case first =>
      refine wp_region_held_drew (S := (fun w' => w'.cell? ⟨sb, 0, none⟩ = some (.int .i64 (m : Int)) ∧ w'.cell? ⟨sb, 1, none⟩ = some (.slice A n c))) (by kernel_rfl) ?_ (fun hHeld => ?_)
      · exact ⟨e0, e1⟩
      refine wpAnyH_take (i := 0) (oi := _) (v := ?_) rfl (by kernel_rfl) (by kernel_rfl) (by kernel_rfl) (fun _ _ _ h => h) (Or.inl ⟨by kernel_rfl, ?_⟩) (by assumption) ?_
      rotate_left
      · (intro w hSw; (try dsimp only at hSw); go_simp; (try with_reducible rfl))
      try simp only [Act.put, List.getElem_toArray, List.getElem_cons_succ, List.getElem_cons_zero, List.setIfInBounds_toArray, List.set_cons_zero, List.set_cons_succ]
      refine wpAnyH_take (i := 1) (oi := _) (v := ?_) rfl (by kernel_rfl) (by kernel_rfl) (by kernel_rfl) (fun _ _ _ h => h) (Or.inl ⟨by kernel_rfl, ?_⟩) (by assumption) ?_
      rotate_left
      · (intro w hSw; (try dsimp only at hSw); go_simp; (try with_reducible rfl))
      try simp only [Act.put, List.getElem_toArray, List.getElem_cons_succ, List.getElem_cons_zero, List.setIfInBounds_toArray, List.set_cons_zero, List.set_cons_succ]
      refine wpAnyH_take (i := 3) (oi := _) (v := ?_) rfl (by kernel_rfl) (by kernel_rfl) (by kernel_rfl) (fun _ _ _ h => h) (Or.inl ⟨by kernel_rfl, ?_⟩) (by assumption) ?_
      rotate_left
      · (intro w hSw; (try dsimp only at hSw); go_simp; (try with_reducible rfl))
      try simp only [Act.put, List.getElem_toArray, List.getElem_cons_succ, List.getElem_cons_zero, List.setIfInBounds_toArray, List.set_cons_zero, List.set_cons_succ]
      refine wpAnyH_take (i := 4) (oi := _) (v := ?_) rfl (by kernel_rfl) (by kernel_rfl) (by kernel_rfl) (fun _ _ _ h => h) (Or.inl ⟨by kernel_rfl, ?_⟩) (by assumption) ?_
      rotate_left
      · (intro w hSw; (try dsimp only at hSw); go_simp; (try with_reducible rfl))
      try simp only [Act.put, List.getElem_toArray, List.getElem_cons_succ, List.getElem_cons_zero, List.setIfInBounds_toArray, List.set_cons_zero, List.set_cons_succ]
      refine wpAnyH_ready (rs := [2, 7]) (by kernel_rfl) (by simp) ?_
      refine AllReadyH.cons (o := _) rfl (fun K hK => ?_) (AllReadyH.cons (o := _) rfl (fun K hK => ?_) (AllReadyH.nil))
      · go_simp
        refine hK.out _ _ ?_ (fun hHeld => ?_)
        · exact ⟨keep (show Below w1.heap.size w1 (w1.alloc (.cells #[] 61)) from (Below.refl w1.heap.size w1).alloc (Nat.le_refl _) (.cells #[] 61)) e0, keep (show Below w1.heap.size w1 (w1.alloc (.cells #[] 61)) from (Below.refl w1.heap.size w1).alloc (Nat.le_refl _) (.cells #[] 61)) e1⟩
        clear hK K
        try simp only [Act.put, List.getElem_toArray, List.getElem_cons_succ, List.getElem_cons_zero, List.setIfInBounds_toArray, List.set_cons_zero, List.set_cons_succ]
        refine wpAnyH_ready (rs := [5, 7]) (by kernel_rfl) (by simp) ?_
        refine AllReadyH.cons (o := _) rfl (fun K hK => ?_) (AllReadyH.cons (o := _) rfl (fun K hK => ?_) (AllReadyH.nil))
        · have hbW : Below w1.heap.size w1 (w1.alloc (.cells #[] 61)) := (Below.refl w1.heap.size w1).alloc (Nat.le_refl _) (.cells #[] 61)
          refine step_appX rowB (by rfl) _ _ (by rfl) B0 _ 0 [] (by rfl) (show World.ownsRow (w1.alloc (.cells #[] 61)).drew B0 61 3 (.slice (some ⟨w1.heap.size, 0, none⟩) 0 0) 0 [] from own_drewN (own_litZ (w := w1) rfl B0 61 3 #[] 0 hBB1 (by decide) rfl) 1) A n c (v3 bs) (by rfl) HNA.out (by rw [v3_len, HLB.out]) (fun ad e => BndsAt.newsE (show BndsAt (w1.alloc (.cells #[] 61)).drew A n bs from ((HH1.out.below hbW).drewN 1)) e) (v3_one _) n (Nat.zero_add _) (v3 bs) (List.nil_append _) (by omega) (show B0 ≤ (w1.alloc (.cells #[] 61)).heap.size from by simp <;> omega) ?_
          intro A' c' wB hownB hgrow hat
          have hbB : Below w1.heap.size w1 wB := Below.grown (show Below w1.heap.size w1 (w1.alloc (.cells #[] 61)).drew from hbW.drew) hgrow (show w1.heap.size ≤ (w1.alloc (.cells #[] 61)).heap.size from by simp <;> omega) (fun k hk => by have h5 : w1.heap.size = k := Option.some.inj hk; omega)
          refine hK.out _ _ ?_ (fun hHeld => ?_)
          · exact ⟨keep hbB e0, keep hbB e1⟩
          clear hK K
          try simp only [Act.put, List.getElem_toArray, List.getElem_cons_succ, List.getElem_cons_zero, List.setIfInBounds_toArray, List.set_cons_zero, List.set_cons_succ]
          refine wpAnyH_take (i := 6) (oi := _) (v := ?_) rfl (by kernel_rfl) (by kernel_rfl) (by kernel_rfl) (fun _ _ _ h => h) (Or.inl ⟨by kernel_rfl, ?_⟩) (by assumption) ?_
          rotate_left
          · (intro w hSw; (try dsimp only at hSw); go_simp; (try with_reducible rfl))
          try simp only [Act.put, List.getElem_toArray, List.getElem_cons_succ, List.getElem_cons_zero, List.setIfInBounds_toArray, List.set_cons_zero, List.set_cons_succ]
          refine wpAnyH_ready (rs := [7]) (by kernel_rfl) (by simp) ?_
          refine AllReadyH.cons (o := _) rfl (fun K hK => ?_) (AllReadyH.nil)
          go_simp
          refine hK.out _ _ ?_ (fun hHeld => ?_)
          · exact ⟨keep (hbB.alloc hbB.size _) e0, keep (hbB.alloc hbB.size _) e1⟩
          clear hK K
          try simp only [Act.put, List.getElem_toArray, List.getElem_cons_succ, List.getElem_cons_zero, List.setIfInBounds_toArray, List.set_cons_zero, List.set_cons_succ]
          refine wpAnyH_ready (rs := [8]) (by kernel_rfl) (by simp) ?_
          refine AllReadyH.cons (o := _) rfl (fun K hK => ?_) (AllReadyH.nil)
          go_simp
          refine hK.out _ _ ?_ (fun hHeld => ?_)
          · exact ⟨keep (hbB.alloc hbB.size _) e0, keep (hbB.alloc hbB.size _) e1⟩
          clear hK K
          try simp only [Act.put, List.getElem_toArray, List.getElem_cons_succ, List.getElem_cons_zero, List.setIfInBounds_toArray, List.set_cons_zero, List.set_cons_succ]
          refine wpAnyH_done (by kernel_rfl) ?_ _
          go_wp2_with fail
          go_meet
          exact ⟨_, A', c', rfl, QAt.late hownB (Nat.le_trans hBB1 hbB.size) _, HBB.out ▸ hbB.alloc hbB.size _⟩
        · go_simp
          refine hK.out _ _ ?_ (fun hHeld => ?_)
          · exact ⟨keep (show Below w1.heap.size w1 ((w1.alloc (.cells #[] 61)).alloc (.cells #[.int .i64 0, .slice none 0 0] 25)) from ((Below.refl w1.heap.size w1).alloc (Nat.le_refl _) (.cells #[] 61)).alloc (by simp) (.cells #[.int .i64 0, .slice none 0 0] 25)) e0, keep (show Below w1.heap.size w1 ((w1.alloc (.cells #[] 61)).alloc (.cells #[.int .i64 0, .slice none 0 0] 25)) from ((Below.refl w1.heap.size w1).alloc (Nat.le_refl _) (.cells #[] 61)).alloc (by simp) (.cells #[.int .i64 0, .slice none 0 0] 25)) e1⟩
          clear hK K
          try simp only [Act.put, List.getElem_toArray, List.getElem_cons_succ, List.getElem_cons_zero, List.setIfInBounds_toArray, List.set_cons_zero, List.set_cons_succ]
          refine wpAnyH_ready (rs := [5]) (by kernel_rfl) (by simp) ?_
          refine AllReadyH.cons (o := _) rfl (fun K hK => ?_) (AllReadyH.nil)
          have hbW : Below w1.heap.size w1 ((w1.alloc (.cells #[] 61)).alloc (.cells #[.int .i64 0, .slice none 0 0] 25)) := ((Below.refl w1.heap.size w1).alloc (Nat.le_refl _) (.cells #[] 61)).alloc (by simp) (.cells #[.int .i64 0, .slice none 0 0] 25)
          refine step_appX rowB (by rfl) _ _ (by rfl) B0 _ 0 [] (by rfl) (show World.ownsRow ((w1.alloc (.cells #[] 61)).alloc (.cells #[.int .i64 0, .slice none 0 0] 25)).drew B0 61 3 (.slice (some ⟨w1.heap.size, 0, none⟩) 0 0) 0 [] from own_drewN (own_below (own_litZ (w := w1) rfl B0 61 3 #[] 0 hBB1 (by decide) rfl) ((Below.refl _ _).alloc (Nat.le_refl _) (.cells #[.int .i64 0, .slice none 0 0] 25))) 1) A n c (v3 bs) (by rfl) HNA.out (by rw [v3_len, HLB.out]) (fun ad e => BndsAt.newsE (show BndsAt ((w1.alloc (.cells #[] 61)).alloc (.cells #[.int .i64 0, .slice none 0 0] 25)).drew A n bs from ((HH1.out.below hbW).drewN 1)) e) (v3_one _) n (Nat.zero_add _) (v3 bs) (List.nil_append _) (by omega) (show B0 ≤ ((w1.alloc (.cells #[] 61)).alloc (.cells #[.int .i64 0, .slice none 0 0] 25)).heap.size from by simp <;> omega) ?_
          intro A' c' wB hownB hgrow hat
          have hbB : Below w1.heap.size w1 wB := Below.grown (show Below w1.heap.size w1 ((w1.alloc (.cells #[] 61)).alloc (.cells #[.int .i64 0, .slice none 0 0] 25)).drew from hbW.drew) hgrow (show w1.heap.size ≤ ((w1.alloc (.cells #[] 61)).alloc (.cells #[.int .i64 0, .slice none 0 0] 25)).heap.size from by simp <;> omega) (fun k hk => by have h5 : w1.heap.size = k := Option.some.inj hk; omega)
          have hq0 : Blk wB (w1.heap.size + 1) 25 #[.int .i64 0, .slice none 0 0] := (hgrow.block (w1.heap.size + 1) (show w1.heap.size + 1 < ((w1.alloc (.cells #[] 61)).alloc (.cells #[.int .i64 0, .slice none 0 0] 25)).heap.size from by simp <;> omega) (by intro h5; have h6 : w1.heap.size + 1 = w1.heap.size := Option.some.inj h5; omega)).trans (show Blk ((w1.alloc (.cells #[] 61)).alloc (.cells #[.int .i64 0, .slice none 0 0] 25)) (w1.heap.size + 1) _ _ from (Blk.at_new (w := w1.alloc (.cells #[] 61)) (q := w1.heap.size + 1) (by simp) 25 #[.int .i64 0, .slice none 0 0]))
          have hn0 : ∀ k, (Value.slice A' n c').ownBlock = some k → k ≠ w1.heap.size + 1 := fun k hk e => by
            rcases hat with h5 | h5
            · have h6 : k = w1.heap.size := Option.some.inj (hk.symm.trans h5); omega
            · have h6 : k = ((w1.alloc (.cells #[] 61)).alloc (.cells #[.int .i64 0, .slice none 0 0] 25)).heap.size := Option.some.inj (hk.symm.trans h5); simp at h6 <;> omega
          have t0 := (hq0.cell 0).trans rfl
          have t1 := (hq0.cell 1).trans rfl
          have u0 := hq0.frozen 0
          have u1 := hq0.frozen 1
          have hql : w1.heap.size + 1 < wB.heap.size := hq0.lt
          refine hK.out _ _ ?_ (fun hHeld => ?_)
          · exact ⟨keep hbB e0, keep hbB e1⟩
          clear hK K
          try simp only [Act.put, List.getElem_toArray, List.getElem_cons_succ, List.getElem_cons_zero, List.setIfInBounds_toArray, List.set_cons_zero, List.set_cons_succ]
          refine wpAnyH_take (i := 6) (oi := _) (v := ?_) rfl (by kernel_rfl) (by kernel_rfl) (by kernel_rfl) (fun _ _ _ h => h) (Or.inl ⟨by kernel_rfl, ?_⟩) (by assumption) ?_
          rotate_left
          · (intro w hSw; (try dsimp only at hSw); go_simp; (try with_reducible rfl))
          try simp only [Act.put, List.getElem_toArray, List.getElem_cons_succ, List.getElem_cons_zero, List.setIfInBounds_toArray, List.set_cons_zero, List.set_cons_succ]
          refine wpAnyH_ready (rs := [8]) (by kernel_rfl) (by simp) ?_
          refine AllReadyH.cons (o := _) rfl (fun K hK => ?_) (AllReadyH.nil)
          go_simp
          refine hK.out _ _ ?_ (fun hHeld => ?_)
          · (refine ⟨?_, ?_⟩ <;> (repeat rw [World.cell?_setCell_far _ _ _ _ (by simp <;> omega)]) <;> first | exact keep hbB e0 | exact keep hbB e1)
          clear hK K
          try simp only [Act.put, List.getElem_toArray, List.getElem_cons_succ, List.getElem_cons_zero, List.setIfInBounds_toArray, List.set_cons_zero, List.set_cons_succ]
          refine wpAnyH_done (by kernel_rfl) ?_ _
          go_wp2_with fail
          go_meet
          exact ⟨_, A', c', rfl, QAt.early hownB hq0 (by omega) hn0 _, HBB.out ▸ (hbB.setCell (by simp) _).setCell (by simp) _⟩
      · go_simp
        refine hK.out _ _ ?_ (fun hHeld => ?_)
        · exact ⟨keep (show Below w1.heap.size w1 (w1.alloc (.cells #[.int .i64 0, .slice none 0 0] 25)) from (Below.refl w1.heap.size w1).alloc (Nat.le_refl _) (.cells #[.int .i64 0, .slice none 0 0] 25)) e0, keep (show Below w1.heap.size w1 (w1.alloc (.cells #[.int .i64 0, .slice none 0 0] 25)) from (Below.refl w1.heap.size w1).alloc (Nat.le_refl _) (.cells #[.int .i64 0, .slice none 0 0] 25)) e1⟩
        clear hK K
        try simp only [Act.put, List.getElem_toArray, List.getElem_cons_succ, List.getElem_cons_zero, List.setIfInBounds_toArray, List.set_cons_zero, List.set_cons_succ]
        refine wpAnyH_ready (rs := [2]) (by kernel_rfl) (by simp) ?_
        refine AllReadyH.cons (o := _) rfl (fun K hK => ?_) (AllReadyH.nil)
        go_simp
        refine hK.out _ _ ?_ (fun hHeld => ?_)
        · exact ⟨keep (show Below w1.heap.size w1 ((w1.alloc (.cells #[.int .i64 0, .slice none 0 0] 25)).alloc (.cells #[] 61)) from ((Below.refl w1.heap.size w1).alloc (Nat.le_refl _) (.cells #[.int .i64 0, .slice none 0 0] 25)).alloc (by simp) (.cells #[] 61)) e0, keep (show Below w1.heap.size w1 ((w1.alloc (.cells #[.int .i64 0, .slice none 0 0] 25)).alloc (.cells #[] 61)) from ((Below.refl w1.heap.size w1).alloc (Nat.le_refl _) (.cells #[.int .i64 0, .slice none 0 0] 25)).alloc (by simp) (.cells #[] 61)) e1⟩
        clear hK K
        try simp only [Act.put, List.getElem_toArray, List.getElem_cons_succ, List.getElem_cons_zero, List.setIfInBounds_toArray, List.set_cons_zero, List.set_cons_succ]
        refine wpAnyH_ready (rs := [5]) (by kernel_rfl) (by simp) ?_
        refine AllReadyH.cons (o := _) rfl (fun K hK => ?_) (AllReadyH.nil)
        have hbW : Below w1.heap.size w1 ((w1.alloc (.cells #[.int .i64 0, .slice none 0 0] 25)).alloc (.cells #[] 61)) := ((Below.refl w1.heap.size w1).alloc (Nat.le_refl _) (.cells #[.int .i64 0, .slice none 0 0] 25)).alloc (by simp) (.cells #[] 61)
        refine step_appX rowB (by rfl) _ _ (by rfl) B0 _ 0 [] (by rfl) (show World.ownsRow ((w1.alloc (.cells #[.int .i64 0, .slice none 0 0] 25)).alloc (.cells #[] 61)).drew B0 61 3 (.slice (some ⟨w1.heap.size + 1, 0, none⟩) 0 0) 0 [] from own_drewN (own_litZ (w := w1.alloc (.cells #[.int .i64 0, .slice none 0 0] 25)) (q := w1.heap.size + 1) (by simp) B0 61 3 #[] 0 (by simp <;> omega) (by decide) rfl) 1) A n c (v3 bs) (by rfl) HNA.out (by rw [v3_len, HLB.out]) (fun ad e => BndsAt.newsE (show BndsAt ((w1.alloc (.cells #[.int .i64 0, .slice none 0 0] 25)).alloc (.cells #[] 61)).drew A n bs from ((HH1.out.below hbW).drewN 1)) e) (v3_one _) n (Nat.zero_add _) (v3 bs) (List.nil_append _) (by omega) (show B0 ≤ ((w1.alloc (.cells #[.int .i64 0, .slice none 0 0] 25)).alloc (.cells #[] 61)).heap.size from by simp <;> omega) ?_
        intro A' c' wB hownB hgrow hat
        have hbB : Below w1.heap.size w1 wB := Below.grown (show Below w1.heap.size w1 ((w1.alloc (.cells #[.int .i64 0, .slice none 0 0] 25)).alloc (.cells #[] 61)).drew from hbW.drew) hgrow (show w1.heap.size ≤ ((w1.alloc (.cells #[.int .i64 0, .slice none 0 0] 25)).alloc (.cells #[] 61)).heap.size from by simp <;> omega) (fun k hk => by have h5 : w1.heap.size + 1 = k := Option.some.inj hk; omega)
        have hq0 : Blk wB (w1.heap.size) 25 #[.int .i64 0, .slice none 0 0] := (hgrow.block (w1.heap.size) (show w1.heap.size < ((w1.alloc (.cells #[.int .i64 0, .slice none 0 0] 25)).alloc (.cells #[] 61)).heap.size from by simp <;> omega) (by intro h5; have h6 : w1.heap.size = w1.heap.size + 1 := Option.some.inj h5; omega)).trans (show Blk ((w1.alloc (.cells #[.int .i64 0, .slice none 0 0] 25)).alloc (.cells #[] 61)) (w1.heap.size) _ _ from (Blk.at_new (w := w1) (q := w1.heap.size) rfl 25 #[.int .i64 0, .slice none 0 0]).below ((Below.refl _ _).alloc (Nat.le_refl _) (.cells #[] 61)) (Blk.at_new (w := w1) (q := w1.heap.size) rfl 25 #[.int .i64 0, .slice none 0 0]).lt)
        have hn0 : ∀ k, (Value.slice A' n c').ownBlock = some k → k ≠ w1.heap.size := fun k hk e => by
          rcases hat with h5 | h5
          · have h6 : k = w1.heap.size + 1 := Option.some.inj (hk.symm.trans h5); omega
          · have h6 : k = ((w1.alloc (.cells #[.int .i64 0, .slice none 0 0] 25)).alloc (.cells #[] 61)).heap.size := Option.some.inj (hk.symm.trans h5); simp at h6 <;> omega
        have t0 := (hq0.cell 0).trans rfl
        have t1 := (hq0.cell 1).trans rfl
        have u0 := hq0.frozen 0
        have u1 := hq0.frozen 1
        have hql : w1.heap.size < wB.heap.size := hq0.lt
        refine hK.out _ _ ?_ (fun hHeld => ?_)
        · exact ⟨keep hbB e0, keep hbB e1⟩
        clear hK K
        try simp only [Act.put, List.getElem_toArray, List.getElem_cons_succ, List.getElem_cons_zero, List.setIfInBounds_toArray, List.set_cons_zero, List.set_cons_succ]
        refine wpAnyH_take (i := 6) (oi := _) (v := ?_) rfl (by kernel_rfl) (by kernel_rfl) (by kernel_rfl) (fun _ _ _ h => h) (Or.inl ⟨by kernel_rfl, ?_⟩) (by assumption) ?_
        rotate_left
        · (intro w hSw; (try dsimp only at hSw); go_simp; (try with_reducible rfl))
        try simp only [Act.put, List.getElem_toArray, List.getElem_cons_succ, List.getElem_cons_zero, List.setIfInBounds_toArray, List.set_cons_zero, List.set_cons_succ]
        refine wpAnyH_ready (rs := [8]) (by kernel_rfl) (by simp) ?_
        refine AllReadyH.cons (o := _) rfl (fun K hK => ?_) (AllReadyH.nil)
        go_simp
        refine hK.out _ _ ?_ (fun hHeld => ?_)
        · (refine ⟨?_, ?_⟩ <;> (repeat rw [World.cell?_setCell_far _ _ _ _ (by simp <;> omega)]) <;> first | exact keep hbB e0 | exact keep hbB e1)
        clear hK K
        try simp only [Act.put, List.getElem_toArray, List.getElem_cons_succ, List.getElem_cons_zero, List.setIfInBounds_toArray, List.set_cons_zero, List.set_cons_succ]
        refine wpAnyH_done (by kernel_rfl) ?_ _
        go_wp2_with fail
        go_meet
        exact ⟨_, A', c', rfl, QAt.early hownB hq0 (by omega) hn0 _, HBB.out ▸ (hbB.setCell (by simp) _).setCell (by simp) _⟩
    -- REST
    case rest =>
      obtain ⟨q, A1, c1, rfl, hq, hb⟩ := hcut
      have HQ0 := Lib.hid hq
      have HBL0 := Lib.hid hb
      clear hq hb
      go_wp2
      go_loopw [6] (fun i wr => ∃ (k N : Nat) (A' : Option Addr) (c' : Nat), k ≤ m ∧ i = .int .i64 k ∧ N ≤ n + 2 * k ∧ QAt wr B0 q (m : Int) A' N c' (bs ++ exts now ds k) ∧ Below B0 w1 wr) (fun i _ => m - (intOf i).toNat)
      case atStart => exact ⟨0, n, A1, c1, Nat.zero_le _, rfl, by omega, by show QAt _ _ _ _ _ _ _ (bs ++ []); rw [List.append_nil]; exact HQ0.out, HBL0.out⟩
      case round =>
        obtain ⟨wo, rfl⟩ : ∃ wo : World, wo = wr := ⟨_, rfl⟩
        obtain ⟨k, N, A', c', hk, rfl, hN, hq, hb⟩ := hrel
        have HQ := Lib.hid hq
        have HB := Lib.hid hb
        have hbB : B0 ≤ wo.heap.size := by have := hb.size; omega
        have hbq := hq.bq
        have s0' : wo.cell? ⟨sb + 1, 0, none⟩ = some (.int .i64 now) := (hb.cell (p := ⟨sb + 1, 0, none⟩) (show sb + 1 < B0 by have := HBB.out; omega)).trans HS.out.1
        have s1' : wo.cell? ⟨sb + 1, 1, none⟩ = some (.slice D m d) := (hb.cell (p := ⟨sb + 1, 1, none⟩) (show sb + 1 < B0 by have := HBB.out; omega)).trans HS.out.2
        obtain ⟨t0, t1, u1, hql⟩ := hq.cells
        clear hq hb e0 e1 s0 s1
        by_cases hkm : k < m
        · obtain ⟨b, off, rfl, hc⟩ := (HG1.out.below (HBB.out.symm ▸ HB.out)).cells (by omega)
          have ck := hc k hkm
          clear hc
          have hdk := hf.out.at_ (i := k) (by rw [HL.out]; exact hkm)
          have HEX := Lib.hid (show exts now ds (k + 1) = exts now ds k ++ ex1 now ds k from exts_succ _ _ _)
          have hex : ex1 now ds k = if ds.getD k 0 = -1 then [((k : Int), 0, -now)] else [(0, (k : Int), ds.getD k 0), ((k : Int), 0, -(ds.getD k 0))] := rfl
          obtain ⟨y, HY⟩ : ∃ q, Hid (ds.getD k 0 = q) := ⟨_, rfl⟩
          rw [HY.out] at ck hdk hex
          obtain ⟨hd0, hd1⟩ := hdk
          by_cases hy : y = -1
          · rw [if_pos hy] at hex
            have HXX := Lib.hid hex
            subst hy
            clear hex
            go_wp2_with (first
              | (at_builtin; refine wpl_app rowB rfl _ _ (by rfl) B0 _ N (v3 (bs ++ exts now ds k)) (by rfl) (HQ.out.row.alloc _) ⟨wo.heap.size, 0, none⟩ 1 1 (v3 [((k : Int), 0, -now)]) (by rfl) rfl (cell3B (by simp) _ _) (v3_one _) (by decide) (by omega) (by simp; omega) ?_
                 intro g' cap' wB hownB hgrow hat hltB
                 have hapq := (HQ.out.alloc (.cells #[.int .i64 (k : Int), .int .i64 0, .int .i64 (-now)] 61)).app (ys := (bs ++ exts now ds k) ++ [((k : Int), 0, -now)]) (by rw [v3_append]; exact hownB) hgrow (hat.imp id (fun e => Nat.le_of_eq e.symm))
                 have HBN := Lib.hid ((HB.out.alloc hbB (.cells #[.int .i64 (k : Int), .int .i64 0, .int .i64 (-now)] 61)).grown hgrow (by simp <;> omega) (fun k hk => (HQ.out.row.lt k hk).1))
                 obtain ⟨p1, p2, p3, p4⟩ := hapq
                 have HQN := Lib.hid p4
                 clear p4 hownB hgrow hat))
            go_roundw
            case rel =>
              refine ⟨k + 1, N + 1, some ⟨g', 0, none⟩, cap', by omega, by go_num, by omega, ?_, HBN.out.setCell hbq _⟩
              rw [HEX.out, HXX.out, ← List.append_assoc]; exact HQN.out
            case measure => simp [intOf]; omega
          · rw [if_neg hy] at hex
            have HXX := Lib.hid hex
            have hy' : (y == -1) = false := by simpa using hy
            have hy'' : (y != -1) = true := by simpa using hy
            clear hex
            go_wp2_with (first
              | (at_builtin; refine wpl_app rowB rfl _ _ (by rfl) B0 _ N (v3 (bs ++ exts now ds k)) (by rfl) (HQ.out.row.alloc _) ⟨wo.heap.size, 0, none⟩ 1 1 (v3 [(0, (k : Int), y)]) (by rfl) rfl (cell3B (by simp) _ _) (v3_one _) (by decide) (by omega) (by simp; omega) ?_
                 intro g' cap' wB hownB hgrow hat hltB
                 have hapq := (HQ.out.alloc (.cells #[.int .i64 0, .int .i64 (k : Int), .int .i64 y] 61)).app (ys := (bs ++ exts now ds k) ++ [(0, (k : Int), y)]) (by rw [v3_append]; exact hownB) hgrow (hat.imp id (fun e => Nat.le_of_eq e.symm))
                 have HBN := Lib.hid (((HB.out.alloc hbB (.cells #[.int .i64 0, .int .i64 (k : Int), .int .i64 y] 61)).grown hgrow (by simp <;> omega) (fun k hk => (HQ.out.row.lt k hk).1)).setCell (p := ⟨q, 1, none⟩) hbq (.slice (some ⟨g', 0, none⟩) (N + 1) cap'))
                 obtain ⟨p1, p2, p3, p4⟩ := hapq
                 have HQN := Lib.hid p4
                 have hs1 : wB.cell? ⟨sb + 1, 1, none⟩ = some (.slice (some ⟨b, off, none⟩) m d) := hgrow.cell (keep ((Below.refl _ _).alloc (Nat.le_refl _) _) s1') (fun e => by have := (HQ.out.row.lt (sb + 1) e.symm).1; have := HBB.out; omega)
                 clear p4 hownB hgrow hat)
              | (at_builtin; refine wpl_app rowB rfl _ _ (by rfl) B0 _ (N + 1) (v3 ((bs ++ exts now ds k) ++ [(0, (k : Int), y)])) (by rfl) (HQN.out.row.alloc _) ⟨wB.heap.size, 0, none⟩ 1 1 (v3 [((k : Int), 0, -y)]) (by rfl) rfl (cell3B (by simp [World.setCell]) _ _) (v3_one _) (by decide) (by omega) (by simp [World.setCell] <;> omega) ?_
                 intro g2 cap2 wC hownC hgrow2 hat2 hltC
                 have hapq2 := (HQN.out.alloc (.cells #[.int .i64 (k : Int), .int .i64 0, .int .i64 (-y)] 61)).app (ys := ((bs ++ exts now ds k) ++ [(0, (k : Int), y)]) ++ [((k : Int), 0, -y)]) (by rw [v3_append]; exact hownC) hgrow2 (hat2.imp id (fun e => Nat.le_of_eq e.symm))
                 have HBO := Lib.hid ((HBN.out.alloc (by have := HBN.out.size; have := HBB.out; simp [World.setCell] at *; omega) (.cells #[.int .i64 (k : Int), .int .i64 0, .int .i64 (-y)] 61)).grown hgrow2 (by have := HBN.out.size; have := HBB.out; simp [World.setCell] at *; omega) (fun k hk => (HQN.out.row.lt k hk).1))
                 obtain ⟨r1, r2, r3, r4⟩ := hapq2
                 have HQO := Lib.hid r4
                 clear r4 hownC hgrow2 hat2))
            go_roundw
            case rel =>
              refine ⟨k + 1, N + 2, some ⟨g2, 0, none⟩, cap2, by omega, by go_num, by omega, ?_, HBO.out.setCell hbq _⟩
              rw [HEX.out, HXX.out, show (bs ++ (exts now ds k ++ [(0, (k : Int), y), ((k : Int), 0, -y)])) = ((bs ++ exts now ds k) ++ [(0, (k : Int), y)]) ++ [((k : Int), 0, -y)] by simp]; exact HQO.out
            case measure => simp [intOf]; omega
        · obtain rfl : k = m := by omega
          have HDL := Lib.hid (show ds.length = k from HL.out)
          have hlo := hf.out.lo
          rw [HDL.out] at hlo
          have HLO := Lib.hid hlo
          clear hlo
          have hws : w.heap.size ≤ wo.heap.size := by have := HB1.out.size; have := HBB.out; omega
          go_wp2_with (fail)
          refine kNewT (l2Closed_any k A' N c' _ wo (OwnB.at_ HQ.out.row) hP6 (by omega) HLO.out) ?_
          intro A4 c4 w4 htab hb4
          have HB4 := Lib.hid ((HB1.out.trans (HB.out.mono (by have := HB1.out.size; have := HBB.out; omega))).trans (hb4.mono hws))
          clear hb4
          go_wp2_with (fail)
          refine kS (l2Fits_any k A4 c4 _ w4 htab (by omega)) ?_ ?_
          · intro hfi
            go_wp2
            go_ret
            exact ⟨ret_b (B_true ⟨hf.out, by rw [HDL.out]; exact hfi.out⟩).symm, HB4.out⟩
          · intro hfi
            go_wp2
            go_ret
            exact ⟨ret_b (B_false (fun hh => hfi.out (by have := hh.2; rw [HDL.out] at this; exact this))).symm, HB4.out⟩
  · intro w1 hf hb1
    go_wp2
    go_ret
    exact ⟨ret_b (B_false (fun hh => hf.out hh.1)).symm, hB0.trans (hb1.mono hB0.size)⟩

end Go.Proofs.Ytpefimeogbpagaa
