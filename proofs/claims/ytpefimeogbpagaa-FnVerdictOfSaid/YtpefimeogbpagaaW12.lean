/- Draws of plans and happenings: spec.l20Heard. -/
import Derived.Test.YtpefimeogbpagaaW8
import Derived.Test.YtpefimeogbpagaaW11
import Derived.Deep.RegionHeldLaw
import Derived.Deep.CutRange
import Derived.Deep.DrawnRows
set_option linter.unusedSimpArgs false
set_option linter.unusedVariables false
namespace Go.Proofs.Ytpefimeogbpagaa
open Go.RowKit
attribute [local go_sem ↓] Go.wp_at_zero Go.wp_at_succ

theorem rowHW : RowTy Try.prog 26 37 (.agg #[.int .i64 0, .int .i64 0]) 2 16 := ⟨Try.underlying26, by kernel_rfl, rfl, by decide, by decide⟩
theorem cell2H {w : World} {q : Nat} (hq : w.heap.size = q) (x : Hp) (t : TypeId) : ∀ j u, (v2 [x])[j]? = some u → (w.alloc (.cells #[.int .i64 x.1, .int .i64 x.2] t)).cell? ((⟨q, 0, none⟩ : Addr).add j) = some u := by
  subst hq
  intro j u hu
  rw [addr_add, Nat.zero_add, World.cell?_alloc_new]
  have e : v2 [x] = [.int .i64 x.1, .int .i64 x.2] := rfl
  rw [e] at hu
  match j with
  | 0 => simpa using hu
  | 1 => simpa using hu
  | j + 2 => simp at hu
theorem OwnH.cap {w : World} {base : Nat} {A : Option Addr} {n c : Nat} {xs : List Hp} (h : OwnH w base A n c xs) : n ≤ c := by
  obtain ⟨A', c', e, hc, hA, hcell⟩ := own_cells h
  cases e; exact hc
/-- A plan in its box P, a row of happenings; the result's box Q. -/
structure HS (w : World) (Q P : Nat) (pts : Int) (A : Option Addr) (n c : Nat) (xs : List Bd) (D : Option Addr) (m d : Nat) (hs : List Hp) : Prop where
  ps : PS w Q P pts A n c xs
  row : OwnH w (Q + 1) D m d hs
  ap : ∀ k, (Value.slice D m d).ownBlock = some k → k ≠ P ∧ ∀ a, A = some a → a.block ≠ k
section
variable {w w' W wB : World} {Q P R q n c m d m' d' g : Nat} {pts Bd0 : Int} {A D D' : Option Addr} {xs : List Bd} {hs hs' : List Hp} {row : Option Nat}
theorem HS.grown (h : HS w Q P pts A n c xs D m d hs) (hg : w.grownBy w' row) (hP : row ≠ some P) (hQ : row ≠ some Q) (hA : ∀ a, A = some a → row ≠ some a.block) (hD : ∀ k, (Value.slice D m d).ownBlock = some k → row ≠ some k) : HS w' Q P pts A n c xs D m d hs :=
  ⟨h.ps.grown hg hP hQ hA, own_keptZ h.row hg hD, h.ap⟩
theorem HS.mv (h : HS w Q P pts A n c xs D m d hs) (hR : R < Q) (hm : Mv R Bd0 w w') : HS w' Q P pts A n c xs D m d hs := by
  have h1 := h.ps.lt
  exact h.grown hm.1 (fun e => by have := Option.some.inj e; omega) (fun e => by have := Option.some.inj e; omega) (fun a ha e => by have := (h.ps.ap a ha).1; have := Option.some.inj e; omega) (fun k hk e => by have := (h.row.lt k hk).1; have := Option.some.inj e; omega)
theorem HS.below (h : HS w Q P pts A n c xs D m d hs) (hb : Below w.heap.size w w') : HS w' Q P pts A n c xs D m d hs :=
  h.grown (row := none) ⟨hb.os, hb.tape, hb.output, hb.size, fun k hk _ => hb.block k hk⟩ (fun e => by cases e) (fun e => by cases e) (fun a ha e => by cases e) (fun k hk e => by cases e)
theorem HS.drew (h : HS w Q P pts A n c xs D m d hs) : HS w.drew Q P pts A n c xs D m d hs := ⟨h.ps.drew, own_drewN h.row 1, h.ap⟩
theorem set_grownH (w : World) (q i : Nat) (v : Value) : w.grownBy (w.setCell ⟨q, i, none⟩ v) (some q) := ⟨rfl, rfl, rfl, by simp [World.setCell], fun k _ hk => Below.heap_setCell _ _ _ _ (fun e => hk (by rw [e]))⟩
/-- A block made later is written. -/
theorem HS.far (h : HS w Q P pts A n c xs D m d hs) (hP : q ≠ P) (hQ : q ≠ Q) (hA : ∀ a, A = some a → a.block ≠ q) (hD : ∀ k, (Value.slice D m d).ownBlock = some k → k ≠ q) (i : Nat) (v : Value) : HS (w.setCell ⟨q, i, none⟩ v) Q P pts A n c xs D m d hs :=
  h.grown (set_grownH w q i v) (fun e => hP (Option.some.inj e)) (fun e => hQ (Option.some.inj e)) (fun a ha e => hA a ha (Option.some.inj e).symm) (fun k hk e => hD k hk (Option.some.inj e).symm)
/-- The row has grown. -/
theorem HS.app (h : HS W Q P pts A n c xs D m d hs) (hown : OwnH wB (Q + 1) D' m' d' hs') (hgrow : W.grownBy wB (Value.slice D m d).ownBlock) (hat : (Value.slice D' m' d').ownBlock = (Value.slice D m d).ownBlock ∨ (Value.slice D' m' d').ownBlock = some W.heap.size) : HS wB Q P pts A n c xs D' m' d' hs' := by
  refine ⟨h.ps.grown hgrow (fun e => (h.ap P e).1 rfl) (fun e => by have := (h.row.lt Q e).1; omega) (fun a ha e => (h.ap _ e).2 a ha rfl), hown, fun k hk => ?_⟩
  rcases hat with e | e
  · exact h.ap k (e.symm.trans hk)
  · have h5 : W.heap.size = k := Option.some.inj (e.symm.trans hk)
    have h6 := h.ps.blk.lt
    exact ⟨by omega, fun a ha => by have := (h.ps.ap a ha).2.2; omega⟩
end
/-- What a draw of a plan and happenings leaves. -/
def HeardMade (R : Nat) (B : Int) (w : World) (e : Ending) (w' : World) : Prop :=
  ∃ (pts : Int) (A : Option Addr) (n c : Nat) (xs : List Bd) (D : Option Addr) (m d : Nat) (hs : List Hp), e = .returned (.tuple #[.agg #[.int .i64 pts, .slice A n c], .slice D m d]) ∧ (0 ≤ pts ∧ pts ≤ 7) ∧ (n ≤ c ∧ n ≤ 16) ∧ (m ≤ d ∧ m ≤ 6) ∧ BndsAt w' A n xs ∧ HapsAt w' D m hs ∧ (∀ a, A = some a → w.heap.size ≤ a.block ∧ a.block < w'.heap.size) ∧ (∀ a, D = some a → w.heap.size ≤ a.block ∧ a.block < w'.heap.size) ∧ Mv R (B + 200) w w'
theorem kHeard {Pr : Program} {f : FuncId} {args : Array Value} {w : World} {K : Ending → World → Prop} {R : Nat} {B : Int} (h : Calls Pr f args w (HeardMade R B w))
    (h1 : ∀ pts A n c xs D m d hs w', (0 ≤ pts ∧ pts ≤ 7) → (n ≤ c ∧ n ≤ 16) → (m ≤ d ∧ m ≤ 6) → BndsAt w' A n xs → HapsAt w' D m hs → (∀ a, A = some a → w.heap.size ≤ a.block ∧ a.block < w'.heap.size) → (∀ a, D = some a → w.heap.size ≤ a.block ∧ a.block < w'.heap.size) → Mv R (B + 200) w w' → K (.returned (.tuple #[.agg #[.int .i64 pts, .slice A n c], .slice D m d])) w') : Calls Pr f args w K :=
  h.mono fun e w' ⟨pts, A, n, c, xs, D, m, d, hs, he, h2, h3, h4, h5, h6, h7, h8, h9⟩ => by subst he; exact h1 pts A n c xs D m d hs w' h2 h3 h4 h5 h6 h7 h8 h9
set_option maxRecDepth 100000 in
set_option maxHeartbeats 16000000 in
theorem l20Heard_any (R : Nat) (B : Int) (w : World) (h : Rd w R B) (hB : B ≤ 800000000) :
    Calls Try.prog 31 #[.pointer (some ⟨R, 0, none⟩)] w (HeardMade R B w) := by
  have hR := h.lt
  have HQ0 := Lib.hid (Blk.new w 25 #[.int .i64 0, .slice none 0 0])
  have HM0 := Lib.hid (show Mv R B w (w.alloc (.cells #[.int .i64 0, .slice none 0 0] 25)) from ⟨grown_of_below ((Below.refl _ _).alloc (Nat.le_refl _) _) _, h.alloc _⟩)
  clear h
  go_enter Try.func31, Try.ntmps31
  go_wp2_with (fail)
  refine kMade (l20Joined_any R B 12 _ HM0.out.2 (by omega) (by omega)) ?_
  intro pts A m c xs w1 hp0 hp7 hmc hm16 hrow1 hap1 hm1
  obtain ⟨Q, HQQ⟩ : ∃ q, Hid (w.heap.size = q) := ⟨_, rfl⟩
  have hRQ : R < Q := by have := HQQ.out; omega
  have HM1 := Lib.hid (HM0.out.trans hm1)
  have hQ1 : Blk w1 Q 25 #[.int .i64 0, .slice none 0 0] := HQQ.out ▸ (hm1.1.block _ HQ0.out.lt (fun e => by have := Option.some.inj e; omega)).trans HQ0.out
  obtain ⟨w2, HW2⟩ : ∃ q, Hid (w1.alloc (.cells #[.int .i64 pts, .slice A m c] 25) = q) := ⟨_, rfl⟩
  have hb2 : Below w1.heap.size w1 w2 := HW2.out ▸ (Below.refl _ _).alloc (Nat.le_refl _) _
  have hz2 : w2.heap.size = w1.heap.size + 1 := by rw [← HW2.out, World.size_alloc]
  have hPS2 : PS w2 Q w1.heap.size pts A m c xs := ⟨hQ1.lt, HW2.out ▸ Blk.new _ _ _, hrow1.below hb2, fun a ha => by
      have h1 := hap1 a ha
      have h2 := HQQ.out
      simp at h1
      exact ⟨by omega, by omega, Nat.lt_of_lt_of_le h1.2 hb2.size⟩, ⟨hmc, hm16⟩, hQ1.below hb2 hQ1.lt⟩
  obtain ⟨w3, HW3⟩ : ∃ q, Hid (w2.alloc (.cells #[] 37) = q) := ⟨_, rfl⟩
  have hb3 : Below w2.heap.size w2 w3 := HW3.out ▸ (Below.refl _ _).alloc (Nat.le_refl _) _
  have hQl := hQ1.lt
  have HH3 := Lib.hid (show HS w3 Q w1.heap.size pts A m c xs (some ⟨w1.heap.size + 1, 0, none⟩) 0 0 [] from ⟨hPS2.below hb3, HW3.out ▸ own_litZ hz2 (Q + 1) 37 2 #[] 0 (by omega) (by decide) rfl, fun k hk => by
      have h5 : w1.heap.size + 1 = k := Option.some.inj hk
      exact ⟨by omega, fun a ha => by have := (hPS2.ap a ha).2.2; omega⟩⟩)
  have HM3 := Lib.hid ((HM1.out.below hb2).below hb3)
  clear hrow1 hap1 hm1 hb2 hb3 hPS2 hQ1 HQ0 HM0 hz2
  have HEND := Lib.hid (show ∀ (wz : World) (P : Nat) (D : Option Addr) (l d : Nat) (hs : List Hp) (Bz : Int), HS wz Q P pts A m c xs D l d hs → l ≤ 6 → Mv R Bz w wz → Bz ≤ B + 200 → HeardMade R B w (.returned (.tuple #[.agg #[.int .i64 pts, .slice A m c], .slice D l d])) ((wz.setCell ⟨Q, 0, none⟩ (.int .i64 pts)).setCell ⟨Q, 1, none⟩ (.slice A m c)) from fun wz P D l d hs Bz hh hl hm hz => by
    have hq := HQQ.out
    have hrr := own_setOldZ (own_setOldZ hh.row (show Q < Q + 1 by omega) 0 (.int .i64 pts)) (show Q < Q + 1 by omega) 1 (.slice A m c)
    refine ⟨pts, A, m, c, xs, D, l, d, hs, rfl, ⟨hp0, hp7⟩, hh.ps.room, ⟨OwnH.cap hh.row, hl⟩, ?_, OwnH.at_ hrr, fun a ha => ?_, fun a ha => ?_, ?_⟩
    · exact (hh.ps.row.setCell (q := ⟨Q, 0, none⟩) (fun a ha => by have := (hh.ps.ap a ha).1; simp; omega) _).setCell (q := ⟨Q, 1, none⟩) (fun a ha => by have := (hh.ps.ap a ha).1; simp; omega) _
    · have h5 := hh.ps.ap a ha; exact ⟨by omega, by simp [World.setCell]; exact h5.2.2⟩
    · have h5 := hh.row.lt a.block (by subst ha; rfl); exact ⟨by omega, by simp [World.setCell]; exact h5.2⟩
    · exact ((hm.setNew (P := Q) (by omega) hR 0 _).setNew (P := Q) (by omega) hR 1 _).mono hz)
  go_wp2_with (fail)
  rw [HW2.out]
  rw [HW3.out]
  rw [HQQ.out]
  obtain ⟨P, HPP⟩ : ∃ q, Hid (w1.heap.size = q) := ⟨_, rfl⟩
  rw [HPP.out] at HH3 ⊢
  refine kPick (pick_any R _ 6 _ HM3.out.2 (by omega)) ?_
  intro k0 w4 hq1 hq2 hm4 hs4
  obtain ⟨hk0, hk1⟩ := hq1 (by omega)
  have HH4 := Lib.hid (HH3.out.mv hRQ hm4)
  have HM4 := Lib.hid (HM3.out.trans hm4)
  clear hq1 hq2 hm4 hs4 HH3 HM3
  go_wp2_with (fail)
  go_loopw [5, 6] (fun o i wr => ∃ (k : Int) (D : Option Addr) (l d : Nat) (hs : List Hp), 0 ≤ k ∧ k ≤ 5 ∧ (l : Int) ≤ 5 - k ∧ i = .int .i64 k ∧ o = .slice D l d ∧ HS wr Q P pts A m c xs D l d hs ∧ Mv R (B + 131 - 5 * k) w wr) (fun _ i _ => (intOf i).toNat)
  case atStart => exact ⟨k0, _, 0, 0, [], hk0, by omega, by omega, rfl, rfl, HH4.out, HM4.out.mono (by omega)⟩
  case round =>
    obtain ⟨wo, rfl⟩ : ∃ wo : World, wo = wr := ⟨_, rfl⟩
    clear HH4 HM4
    obtain ⟨k, D, l, d, hs, hk0', hk5, hlk, rfl, rfl, hhs, hm⟩ := hrel
    have HH := Lib.hid hhs
    have HM := Lib.hid hm
    obtain ⟨t0, t1, f0, f1, hPl⟩ := hhs.ps.cells
    clear hhs hm
    by_cases hkp : 0 < k
    · go_wp2_with (fail)
      refine kNx (NextOf_any pts A m c xs D l d hs _ HH.out.ps.row (OwnH.at_ HH.out.row) (by omega) (by omega)) ?_
      intro a b ok w5 hb5
      have hh5 := HH.out.below hb5
      obtain ⟨w6, HW6⟩ : ∃ q, Hid (w5.alloc (.cells #[.int .i64 a, .int .i64 b] 37) = q) := ⟨_, rfl⟩
      have hb6 : Below w5.heap.size w5 w6 := HW6.out ▸ (Below.refl _ _).alloc (Nat.le_refl _) _
      have HH6 := Lib.hid (hh5.below hb6)
      have HM6 := Lib.hid ((HM.out.below hb5).below hb6)
      have HX6 := Lib.hid (show Blk w6 w5.heap.size 37 #[.int .i64 a, .int .i64 b] from HW6.out ▸ Blk.new _ _ _)
      have HNA := Lib.hid (show ∀ y, A = some y → y.block ≠ w5.heap.size from fun y hy => by have := (hh5.ps.ap y hy).2.2; omega)
      have HND := Lib.hid (show ∀ y, (Value.slice D l d).ownBlock = some y → y ≠ w5.heap.size from fun y hy => by have := (hh5.row.lt y hy).2; omega)
      have hP5 : P < w5.heap.size := hh5.ps.blk.lt
      have hQP := hh5.ps.lt
      clear hb5 hb6 hh5 t0 t1 f0 f1 hPl
      cases ok with
      | false =>
        obtain ⟨t0, t1, f0, f1, hPl⟩ := HH6.out.ps.cells
        go_wp2_with (fail)
        rw [HW6.out]
        refine (odd_any R _ 12 _ HM6.out.2 (by omega) (by omega)).mono ?_
        rintro e wE ⟨bo, rfl, hmE, hsE⟩
        have HHE := Lib.hid (HH6.out.mv hRQ hmE)
        have HME := Lib.hid (HM6.out.trans hmE)
        clear hmE hsE t0 t1 f0 f1 hPl
        obtain ⟨t0, t1, f0, f1, hPl⟩ := HHE.out.ps.cells
        have q0 := (HHE.out.ps.res.cell 0).trans rfl
        have q1 := (HHE.out.ps.res.cell 1).trans rfl
        have qf0 := HHE.out.ps.res.frozen 0
        have qf1 := HHE.out.ps.res.frozen 1
        have hql2 := HHE.out.ps.res.lt
        cases bo with
        | false =>
          go_wp2_with (fail)
          refine bodyPost_ret (v := .tuple #[.agg #[.int .i64 pts, .slice A m c], .slice D l d]) (by simp [results, Try.results31, go_sem, q0, q1]) rfl (HEND.out _ _ _ _ _ _ _ HHE.out (by omega) HME.out (by omega))
        | true =>
          clear t0 t1 f0 f1 hPl q0 q1 qf0 qf1 hql2
          go_wp2_with (fail)
          refine kPick (pick_any R _ 7 _ HME.out.2 (by omega)) ?_
          intro y1 wF hq1 hq2 hmF hsF
          have HHF := Lib.hid (HHE.out.mv hRQ hmF)
          have HMF := Lib.hid (HME.out.trans hmF)
          clear hq1 hq2 hmF hsF
          go_wp2_with (fail)
          refine kPick (pick_any R _ 30 _ HMF.out.2 (by omega)) ?_
          intro y2 wG hq1 hq2 hmG hsG
          obtain ⟨hy20, hy21⟩ := hq1 (by omega)
          have HHG := Lib.hid (HHF.out.mv hRQ hmG)
          have HMG := Lib.hid (HMF.out.trans hmG)
          clear hq1 hq2 hmG hsG
          go_wp2_with (fail)
          refine kPick (pick_any R _ 9 _ HMG.out.2 (by omega)) ?_
          intro y3 wH hq1 hq2 hmH hsH
          obtain ⟨hy30, hy31⟩ := hq1 (by omega)
          have HHH := Lib.hid (HHG.out.mv hRQ hmH)
          have HMH := Lib.hid (HMG.out.trans hmH)
          have hQH : Q + 1 ≤ wH.heap.size := by have := HHH.out.ps.res.lt; omega
          clear hq1 hq2 hmH hsH
          go_wp2_with (first
            | (at_builtin; refine wpl_app rowHW rfl _ _ (by rfl) (Q + 1) _ l (v2 hs) (by rfl) (HHH.out.row.alloc _) ⟨wH.heap.size, 0, none⟩ 1 1 (v2 [(y1, y2 - y3 / 8)]) (by rfl) rfl (cell2H (by simp) _ _) (v2_one _) (by decide) (by omega) (by simp; omega) ?_
               intro g' cap' wB hownB hgrow hat hltB
               have HHB := Lib.hid (HS.app (HHH.out.below ((Below.refl _ _).alloc (Nat.le_refl _) (.cells #[.int .i64 y1, .int .i64 (y2 - y3 / 8)] 37))) (D' := some ⟨g', 0, none⟩) (m' := l + 1) (d' := cap') (hs' := hs ++ [(y1, y2 - y3 / 8)]) (by show World.ownsRow _ _ _ _ _ _ (v2 _); rw [v2_append]; exact hownB) hgrow (by rcases hat with e | e; exact .inl e.symm; exact .inr (by rw [e]; rfl)))
               have HMB := Lib.hid ((HMH.out.alloc (.cells #[.int .i64 y1, .int .i64 (y2 - y3 / 8)] 37)).grown hgrow (fun r hr => by have := (HHH.out.row.lt r hr).1; have := HQQ.out; omega) hR)
               obtain ⟨t0, t1, f0, f1, hPl⟩ := HHB.out.ps.cells
               have q0 := (HHB.out.ps.res.cell 0).trans rfl
               have q1 := (HHB.out.ps.res.cell 1).trans rfl
               have qf0 := HHB.out.ps.res.frozen 0
               have qf1 := HHB.out.ps.res.frozen 1
               have hql2 := HHB.out.ps.res.lt
               clear hownB hgrow hat hltB))
          refine bodyPost_ret (v := .tuple #[.agg #[.int .i64 pts, .slice A m c], .slice (some ⟨g', 0, none⟩) (l + 1) cap']) (by simp [results, Try.results31, go_sem, q0, q1]) rfl (HEND.out _ _ _ _ _ _ _ HHB.out (by omega) HMB.out (by omega))
      | true =>
        go_wp2_with (fail)
        rw [HW6.out]
        obtain ⟨q, HQX⟩ : ∃ z, Hid (w5.heap.size = z) := ⟨_, rfl⟩
        rw [HQX.out] at HX6 HNA HND hP5 ⊢
        refine kPick (pick_any R _ 3 _ HM6.out.2 (by omega)) ?_
        intro x w7 hq1 hq2 hm7 hs7
        have HH7 := Lib.hid (HH6.out.mv hRQ hm7)
        have HM7 := Lib.hid (HM6.out.trans hm7)
        have HX7 := Lib.hid (show Blk w7 q 37 #[.int .i64 a, .int .i64 b] from (hm7.1.block q HX6.out.lt (fun e => by have := Option.some.inj e; omega)).trans HX6.out)
        clear hq1 hq2 hm7 hs7 HH6 HM6 HX6
        have hwq : w.heap.size ≤ q := by have := HQQ.out; omega
        go_upto_if 28 with fail
        go_cut [] from 14 to 46 (fun wx => ∃ b' : Int, Blk wx q 37 #[.int .i64 a, .int .i64 b'] ∧ HS wx Q P pts A m c xs D l d hs ∧ Mv R (B + 133 - 5 * k) w wx)
        case first =>
          by_cases hx : x = 0
          · subst hx
            go_wp2_with (fail)
            have z1 := (HX7.out.cell 1).trans rfl
            refine wp_region_held_drew (S := (fun _ => True)) (by kernel_rfl) ?_ (fun hHeld => ?_)
            · trivial
            refine wpAnyH_take (i := 0) (oi := _) (v := ?_) rfl (by kernel_rfl) (by kernel_rfl) (by kernel_rfl) (fun _ _ _ h => h) (Or.inl ⟨by kernel_rfl, ?_⟩) (by assumption) ?_
            rotate_left
            · (intro w hSw; (try dsimp only at hSw); go_simp; (try with_reducible rfl))
            try simp only [Act.put, List.getElem_toArray, List.getElem_cons_succ, List.getElem_cons_zero, List.setIfInBounds_toArray, List.set_cons_zero, List.set_cons_succ]
            refine wpAnyH_take (i := 2) (oi := _) (v := ?_) rfl (by kernel_rfl) (by kernel_rfl) (by kernel_rfl) (fun _ _ _ h => h) (Or.inl ⟨by kernel_rfl, ?_⟩) (by assumption) ?_
            rotate_left
            · (intro w hSw; (try dsimp only at hSw); go_simp; (try with_reducible rfl))
            try simp only [Act.put, List.getElem_toArray, List.getElem_cons_succ, List.getElem_cons_zero, List.setIfInBounds_toArray, List.set_cons_zero, List.set_cons_succ]
            refine wpAnyH_ready (rs := [1, 3]) (by kernel_rfl) (by simp) ?_
            refine AllReadyH.cons (o := _) rfl (fun K hK => ?_) (AllReadyH.cons (o := _) rfl (fun K hK => ?_) (AllReadyH.nil))
            · go_simp
              refine hK.out _ _ ?_ (fun hHeld => ?_)
              · trivial
              clear hK K
              try simp only [Act.put, List.getElem_toArray, List.getElem_cons_succ, List.getElem_cons_zero, List.setIfInBounds_toArray, List.set_cons_zero, List.set_cons_succ]
              refine wpAnyH_ready (rs := [3]) (by kernel_rfl) (by simp) ?_
              refine AllReadyH.cons (o := _) rfl (fun K hK => ?_) (AllReadyH.nil)
              go_simp
              go_at_call 32; with_reducible refine kPick (pick_any R _ 4 _ (Mv.rdDr HM7.out) (by omega)) ?_
              intro z w8 hq1 hq2 hm8 hs8
              have HH8 := Lib.hid (HS.mv HH7.out.drew hRQ hm8)
              have HM8 := Lib.hid (Mv.trans (Mv.drewDr HM7.out) hm8)
              have HX8 := Lib.hid (show Blk w8 q 37 #[.int .i64 a, .int .i64 b] from (hm8.1.block q HX7.out.lt (fun e => by have := Option.some.inj e; omega)).trans HX7.out)
              have y1 := (HX8.out.cell 1).trans rfl
              have g1 := HX8.out.frozen 1
              have hql := HX8.out.lt
              clear hq1 hq2 hm8 hs8
              go_wp2_with fail
              refine hK.out _ _ ?_ (fun hHeld => ?_)
              · trivial
              clear hK K
              try simp only [Act.put, List.getElem_toArray, List.getElem_cons_succ, List.getElem_cons_zero, List.setIfInBounds_toArray, List.set_cons_zero, List.set_cons_succ]
              refine wpAnyH_take (i := 4) (oi := _) (v := ?_) rfl (by kernel_rfl) (by kernel_rfl) (by kernel_rfl) (fun _ _ _ h => h) (Or.inl ⟨by kernel_rfl, ?_⟩) (by assumption) ?_
              rotate_left
              · (intro w hSw; (try dsimp only at hSw); go_simp; (try with_reducible rfl))
              try simp only [Act.put, List.getElem_toArray, List.getElem_cons_succ, List.getElem_cons_zero, List.setIfInBounds_toArray, List.set_cons_zero, List.set_cons_succ]
              refine wpAnyH_take (i := 5) (oi := _) (v := ?_) rfl (by kernel_rfl) (by kernel_rfl) (by kernel_rfl) (fun _ _ _ h => h) (Or.inl ⟨by kernel_rfl, ?_⟩) (by assumption) ?_
              rotate_left
              · (intro w hSw; (try dsimp only at hSw); go_simp; (try with_reducible rfl))
              try simp only [Act.put, List.getElem_toArray, List.getElem_cons_succ, List.getElem_cons_zero, List.setIfInBounds_toArray, List.set_cons_zero, List.set_cons_succ]
              refine wpAnyH_ready (rs := [6]) (by kernel_rfl) (by simp) ?_
              refine AllReadyH.cons (o := _) rfl (fun K hK => ?_) (AllReadyH.nil)
              go_simp
              refine hK.out _ _ ?_ (fun hHeld => ?_)
              · trivial
              clear hK K
              try simp only [Act.put, List.getElem_toArray, List.getElem_cons_succ, List.getElem_cons_zero, List.setIfInBounds_toArray, List.set_cons_zero, List.set_cons_succ]
              refine wpAnyH_done (by kernel_rfl) ?_ _
              go_wp2_with (fail)
              go_meet
              exact ⟨IntKind.i64.wrap (b + z), by have := HX8.out.set_ 1 (.int .i64 (IntKind.i64.wrap (b + z))); simpa using this, HH8.out.far (by omega) (by omega) HNA.out HND.out 1 _, (HM8.out.setNew (P := q) hwq hR 1 _).mono (by omega)⟩
            · go_simp
              go_at_call 32; with_reducible refine kPick (pick_any R _ 4 _ (Mv.rdDr HM7.out) (by omega)) ?_
              intro z w8 hq1 hq2 hm8 hs8
              have HH8 := Lib.hid (HS.mv HH7.out.drew hRQ hm8)
              have HM8 := Lib.hid (Mv.trans (Mv.drewDr HM7.out) hm8)
              have HX8 := Lib.hid (show Blk w8 q 37 #[.int .i64 a, .int .i64 b] from (hm8.1.block q HX7.out.lt (fun e => by have := Option.some.inj e; omega)).trans HX7.out)
              have y1 := (HX8.out.cell 1).trans rfl
              have g1 := HX8.out.frozen 1
              have hql := HX8.out.lt
              clear hq1 hq2 hm8 hs8
              go_wp2_with fail
              refine hK.out _ _ ?_ (fun hHeld => ?_)
              · trivial
              clear hK K
              try simp only [Act.put, List.getElem_toArray, List.getElem_cons_succ, List.getElem_cons_zero, List.setIfInBounds_toArray, List.set_cons_zero, List.set_cons_succ]
              refine wpAnyH_ready (rs := [1]) (by kernel_rfl) (by simp) ?_
              refine AllReadyH.cons (o := _) rfl (fun K hK => ?_) (AllReadyH.nil)
              go_simp
              refine hK.out _ _ ?_ (fun hHeld => ?_)
              · trivial
              clear hK K
              try simp only [Act.put, List.getElem_toArray, List.getElem_cons_succ, List.getElem_cons_zero, List.setIfInBounds_toArray, List.set_cons_zero, List.set_cons_succ]
              refine wpAnyH_take (i := 4) (oi := _) (v := ?_) rfl (by kernel_rfl) (by kernel_rfl) (by kernel_rfl) (fun _ _ _ h => h) (Or.inl ⟨by kernel_rfl, ?_⟩) (by assumption) ?_
              rotate_left
              · (intro w hSw; (try dsimp only at hSw); go_simp; (try with_reducible rfl))
              try simp only [Act.put, List.getElem_toArray, List.getElem_cons_succ, List.getElem_cons_zero, List.setIfInBounds_toArray, List.set_cons_zero, List.set_cons_succ]
              refine wpAnyH_take (i := 5) (oi := _) (v := ?_) rfl (by kernel_rfl) (by kernel_rfl) (by kernel_rfl) (fun _ _ _ h => h) (Or.inl ⟨by kernel_rfl, ?_⟩) (by assumption) ?_
              rotate_left
              · (intro w hSw; (try dsimp only at hSw); go_simp; (try with_reducible rfl))
              try simp only [Act.put, List.getElem_toArray, List.getElem_cons_succ, List.getElem_cons_zero, List.setIfInBounds_toArray, List.set_cons_zero, List.set_cons_succ]
              refine wpAnyH_ready (rs := [6]) (by kernel_rfl) (by simp) ?_
              refine AllReadyH.cons (o := _) rfl (fun K hK => ?_) (AllReadyH.nil)
              go_simp
              refine hK.out _ _ ?_ (fun hHeld => ?_)
              · trivial
              clear hK K
              try simp only [Act.put, List.getElem_toArray, List.getElem_cons_succ, List.getElem_cons_zero, List.setIfInBounds_toArray, List.set_cons_zero, List.set_cons_succ]
              refine wpAnyH_done (by kernel_rfl) ?_ _
              go_wp2_with (fail)
              go_meet
              exact ⟨IntKind.i64.wrap (b + z), by have := HX8.out.set_ 1 (.int .i64 (IntKind.i64.wrap (b + z))); simpa using this, HH8.out.far (by omega) (by omega) HNA.out HND.out 1 _, (HM8.out.setNew (P := q) hwq hR 1 _).mono (by omega)⟩
          · have hxb : (x == 0) = false := by simpa using hx
            go_wp2_with (fail)
            go_meet
            exact ⟨b, HX7.out, HH7.out, HM7.out.mono (by omega)⟩
        case rest =>
          obtain ⟨b', hx8, hh8, hm8⟩ := hcut
          have HX8 := Lib.hid hx8
          have HH8 := Lib.hid hh8
          have HM8 := Lib.hid hm8
          clear hx8 hh8 hm8 HX7 HH7 HM7
          go_wp2_with (fail)
          refine (odd_any R _ 14 _ HM8.out.2 (by omega) (by omega)).mono ?_
          rintro e w9 ⟨bo, rfl, hm9, hs9⟩
          have HH9 := Lib.hid (HH8.out.mv hRQ hm9)
          have HM9 := Lib.hid (HM8.out.trans hm9)
          have HX9 := Lib.hid (show Blk w9 q 37 #[.int .i64 a, .int .i64 b'] from (hm9.1.block q HX8.out.lt (fun e => by have := Option.some.inj e; omega)).trans HX8.out)
          clear hm9 hs9 HX8 HH8 HM8
          go_upto_if 36 with fail
          go_cut [] from 14 to 46 (fun wx => ∃ a' b' : Int, Blk wx q 37 #[.int .i64 a', .int .i64 b'] ∧ HS wx Q P pts A m c xs D l d hs ∧ Mv R (B + 135 - 5 * k) w wx)
          case first =>
            cases bo with
            | false =>
              go_wp2_with (fail)
              go_meet
              exact ⟨a, b', HX9.out, HH9.out, HM9.out.mono (by omega)⟩
            | true =>
              obtain ⟨t0, t1, f0, f1, hPl⟩ := HH9.out.ps.cells
              by_cases hp1 : 1 < pts
              all_goals
                go_wp2_with (fail)
                all_goals
                  refine kPick (pick_any R _ _ _ HM9.out.2 (by omega)) ?_
                  intro y wA hq1 hq2 hmA hsA
                  have HHA := Lib.hid (HH9.out.mv hRQ hmA)
                  have HMA := Lib.hid (HM9.out.trans hmA)
                  have HXA := Lib.hid (show Blk wA q 37 #[.int .i64 a, .int .i64 b'] from (hmA.1.block q HX9.out.lt (fun e => by have := Option.some.inj e; omega)).trans HX9.out)
                  have z0 := (HXA.out.cell 0).trans rfl
                  have g0 := HXA.out.frozen 0
                  have hql := HXA.out.lt
                  have HXN := Lib.hid (show Blk (wA.setCell ⟨q, 0, none⟩ (.int .i64 y)) q 37 #[.int .i64 y, .int .i64 b'] from by have := HXA.out.set_ 0 (.int .i64 y); simpa using this)
                  clear hq1 hq2 hmA hsA
                  go_wp2_with (fail)
                  go_meet
                  exact ⟨y, b', HXN.out, HHA.out.far (by omega) (by omega) HNA.out HND.out 0 _, (HMA.out.setNew (P := q) hwq hR 0 _).mono (by omega)⟩
          case rest =>
            obtain ⟨a', b'', hxA, hhA, hmA⟩ := hcut
            have HXA := Lib.hid hxA
            have HHA := Lib.hid hhA
            have HMA := Lib.hid hmA
            have z0 := (hxA.cell 0).trans rfl
            have z1 := (hxA.cell 1).trans rfl
            have hql := hxA.lt
            clear hxA hhA hmA HX9 HH9 HM9
            go_wp2_with (first
              | (at_builtin; refine wpl_app rowHW rfl _ _ (by rfl) (Q + 1) _ l (v2 hs) (by rfl) (HHA.out.row.alloc _) ⟨wc.heap.size, 0, none⟩ 1 1 (v2 [(a', b'')]) (by rfl) rfl (cell2H (by simp) _ _) (v2_one _) (by decide) (by omega) (by simp; omega) ?_
                 intro g' cap' wB hownB hgrow hat hltB
                 have HHB := Lib.hid (HS.app (HHA.out.below ((Below.refl _ _).alloc (Nat.le_refl _) (.cells #[.int .i64 a', .int .i64 b''] 37))) (D' := some ⟨g', 0, none⟩) (m' := l + 1) (d' := cap') (hs' := hs ++ [(a', b'')]) (by show World.ownsRow _ _ _ _ _ _ (v2 _); rw [v2_append]; exact hownB) hgrow (by rcases hat with e | e; exact .inl e.symm; exact .inr (by rw [e]; rfl)))
                 have HMB := Lib.hid ((HMA.out.alloc (.cells #[.int .i64 a', .int .i64 b''] 37)).grown hgrow (fun r hr => by have := (HHA.out.row.lt r hr).1; have := HQQ.out; omega) hR)
                 clear hownB hgrow hat hltB))
            go_roundw
            case rel => exact ⟨k - 1, _, l + 1, cap', _, by omega, by omega, by push_cast; omega, by go_num, rfl, HHB.out, HMB.out.mono (by omega)⟩
            case measure => simp [intOf]; omega
    · obtain rfl : k = 0 := by omega
      go_wp2_with (fail)
      refine (odd_any R _ 12 _ HM.out.2 (by omega) (by omega)).mono ?_
      rintro e wE ⟨bo, rfl, hmE, hsE⟩
      have HHE := Lib.hid (HH.out.mv hRQ hmE)
      have HME := Lib.hid (HM.out.trans hmE)
      clear hmE hsE t0 t1 f0 f1 hPl
      obtain ⟨t0, t1, f0, f1, hPl⟩ := HHE.out.ps.cells
      have q0 := (HHE.out.ps.res.cell 0).trans rfl
      have q1 := (HHE.out.ps.res.cell 1).trans rfl
      have qf0 := HHE.out.ps.res.frozen 0
      have qf1 := HHE.out.ps.res.frozen 1
      have hql2 := HHE.out.ps.res.lt
      cases bo with
      | false =>
        go_wp2_with (fail)
        refine bodyPost_ret (v := .tuple #[.agg #[.int .i64 pts, .slice A m c], .slice D l d]) (by simp [results, Try.results31, go_sem, q0, q1]) rfl (HEND.out _ _ _ _ _ _ _ HHE.out (by omega) HME.out (by omega))
      | true =>
        clear t0 t1 f0 f1 hPl q0 q1 qf0 qf1 hql2
        go_wp2_with (fail)
        refine kPick (pick_any R _ 7 _ HME.out.2 (by omega)) ?_
        intro y1 wF hq1 hq2 hmF hsF
        have HHF := Lib.hid (HHE.out.mv hRQ hmF)
        have HMF := Lib.hid (HME.out.trans hmF)
        clear hq1 hq2 hmF hsF
        go_wp2_with (fail)
        refine kPick (pick_any R _ 30 _ HMF.out.2 (by omega)) ?_
        intro y2 wG hq1 hq2 hmG hsG
        obtain ⟨hy20, hy21⟩ := hq1 (by omega)
        have HHG := Lib.hid (HHF.out.mv hRQ hmG)
        have HMG := Lib.hid (HMF.out.trans hmG)
        clear hq1 hq2 hmG hsG
        go_wp2_with (fail)
        refine kPick (pick_any R _ 9 _ HMG.out.2 (by omega)) ?_
        intro y3 wH hq1 hq2 hmH hsH
        obtain ⟨hy30, hy31⟩ := hq1 (by omega)
        have HHH := Lib.hid (HHG.out.mv hRQ hmH)
        have HMH := Lib.hid (HMG.out.trans hmH)
        have hQH : Q + 1 ≤ wH.heap.size := by have := HHH.out.ps.res.lt; omega
        clear hq1 hq2 hmH hsH
        go_wp2_with (first
          | (at_builtin; refine wpl_app rowHW rfl _ _ (by rfl) (Q + 1) _ l (v2 hs) (by rfl) (HHH.out.row.alloc _) ⟨wH.heap.size, 0, none⟩ 1 1 (v2 [(y1, y2 - y3 / 8)]) (by rfl) rfl (cell2H (by simp) _ _) (v2_one _) (by decide) (by omega) (by simp; omega) ?_
             intro g' cap' wB hownB hgrow hat hltB
             have HHB := Lib.hid (HS.app (HHH.out.below ((Below.refl _ _).alloc (Nat.le_refl _) (.cells #[.int .i64 y1, .int .i64 (y2 - y3 / 8)] 37))) (D' := some ⟨g', 0, none⟩) (m' := l + 1) (d' := cap') (hs' := hs ++ [(y1, y2 - y3 / 8)]) (by show World.ownsRow _ _ _ _ _ _ (v2 _); rw [v2_append]; exact hownB) hgrow (by rcases hat with e | e; exact .inl e.symm; exact .inr (by rw [e]; rfl)))
             have HMB := Lib.hid ((HMH.out.alloc (.cells #[.int .i64 y1, .int .i64 (y2 - y3 / 8)] 37)).grown hgrow (fun r hr => by have := (HHH.out.row.lt r hr).1; have := HQQ.out; omega) hR)
             obtain ⟨t0, t1, f0, f1, hPl⟩ := HHB.out.ps.cells
             have q0 := (HHB.out.ps.res.cell 0).trans rfl
             have q1 := (HHB.out.ps.res.cell 1).trans rfl
             have qf0 := HHB.out.ps.res.frozen 0
             have qf1 := HHB.out.ps.res.frozen 1
             have hql2 := HHB.out.ps.res.lt
             clear hownB hgrow hat hltB))
        refine bodyPost_ret (v := .tuple #[.agg #[.int .i64 pts, .slice A m c], .slice (some ⟨g', 0, none⟩) (l + 1) cap']) (by simp [results, Try.results31, go_sem, q0, q1]) rfl (HEND.out _ _ _ _ _ _ _ HHB.out (by omega) HMB.out (by omega))

end Go.Proofs.Ytpefimeogbpagaa
