/- Trees made anew: NewPt; slices.Reverse of two parts, (*part).back, impl.BackTerm. -/
import Derived.Test.YtookhelfbnhadaaMB
import Derived.Deep.RegionLaw
namespace Go.Proofs.Ytookhelfbnhadaa
open Go.RowKit

/-- A call that makes a tree of parts. -/
def NewPt (w : World) (t : Tm) (e : Ending) (w' : World) : Prop := ∃ a, e = .returned (.pointer (some a)) ∧ Pt (fun b => w.heap.size ≤ b) w' t a ∧ Below w.heap.size w w'
theorem kNewPt {Pr : Program} {f : FuncId} {args : Array Value} {w : World} {R : Ending → World → Prop} {t : Tm} (h : Calls Pr f args w (NewPt w t))
    (h1 : ∀ a w', Pt (fun b => w.heap.size ≤ b) w' t a → Below w.heap.size w w' → R (.returned (.pointer (some a))) w') : Calls Pr f args w R :=
  h.mono fun e w' ⟨a, he, hi, hb⟩ => by subst he; exact h1 a w' hi hb

/-- A node under way: its own block, its kids' row, the kids made till now. -/
structure Node (w : World) (B : Nat) (t4 tp : TypeId) (m : Mk) (A : Option Addr) (n c : Nat) (ts : List Tm) (qs : List Addr) : Prop where
  blk : Blk w B t4 #[.int .i64 m.1, .int .i64 m.2.1, .int .i64 m.2.2, .slice A n c]
  len : ts.length = n
  own : w.ownsRow (B + 1) tp 1 (.slice A n c) n (vP qs)
  kids : ∀ j, j < n → Pt (fun b => B < b ∧ some b ≠ (Value.slice A n c).ownBlock) w (ts.getD j dflt) (qs.getD j a0)
theorem Node.qlen {w : World} {B n c : Nat} {t4 tp : TypeId} {m : Mk} {A : Option Addr} {ts : List Tm} {qs : List Addr} (h : Node w B t4 tp m A n c ts qs) : qs.length = n := by
  have := h.own.1; rw [vP_len] at this; omega
theorem Node.new (w : World) (t4 tp : TypeId) (m : Mk) : Node (w.alloc (.cells #[.int .i64 m.1, .int .i64 m.2.1, .int .i64 m.2.2, .slice none 0 0] t4)) w.heap.size t4 tp m none 0 0 [] [] :=
  ⟨Blk.new _ _ _, rfl, World.ownsRow_nil _ _ _ _, fun j hj => by omega⟩
/-- A kid more: the call that makes it, the append, the store. -/
theorem Node.step {w wA W wB : World} {B n c g cap : Nat} {t4 tp : TypeId} {m : Mk} {A : Option Addr} {ts : List Tm} {qs : List Addr} {t : Tm} {a : Addr} {D : Nat → Prop} (h : Node w B t4 tp m A n c ts qs)
    (hbA : Below w.heap.size w wA) (ht : Pt D wA t a) (hD : ∀ b, D b → w.heap.size ≤ b)
    (hW : Below wA.heap.size wA W) (hown : wB.ownsRow (B + 1) tp 1 (.slice (some ⟨g, 0, none⟩) (n + 1) cap) (n + 1) (vP qs ++ vP [a])) (hgrow : W.grownBy wB (Value.slice A n c).ownBlock) (hat : (Value.slice A n c).ownBlock = some g ∨ W.heap.size ≤ g) :
    Node (wB.setCell ⟨B, 3, none⟩ (.slice (some ⟨g, 0, none⟩) (n + 1) cap)) B t4 tp m (some ⟨g, 0, none⟩) (n + 1) cap (ts ++ [t]) (qs ++ [a]) := by
  have hB := h.blk.lt
  have hsA := hbA.size
  have hsW := hW.size
  have hrow : ∀ r, (Value.slice A n c).ownBlock = some r → B + 1 ≤ r ∧ r < w.heap.size := h.own.lt
  have hgB : B < g := by
    rcases hat with h1 | h1
    · have := (hrow g h1).1; omega
    · omega
  have hbW : Below w.heap.size w W := hbA.trans (hW.mono hsA)
  have hblk : Blk wB B t4 #[.int .i64 m.1, .int .i64 m.2.1, .int .i64 m.2.2, .slice A n c] := by
    show wB.heap[B]? = _
    rw [hgrow.block B (by omega) (fun e => by have := (hrow B e.symm).1; omega), hbW.block B hB]
    exact h.blk
  have hq := h.qlen
  have hkeep : ∀ (x : Tm) (p : Addr), Pt (fun b => B < b ∧ some b ≠ (Value.slice A n c).ownBlock) W x p → Pt (fun b => B < b ∧ some b ≠ (Value.slice (some ⟨g, 0, none⟩) (n + 1) cap).ownBlock) (wB.setCell ⟨B, 3, none⟩ (.slice (some ⟨g, 0, none⟩) (n + 1) cap)) x p := by
    intro x p hp
    refine Pt.keep (fun b o v hd hv => ⟨?_, hd.1, fun e => ?_⟩) hp
    · have hlt := cell_lt hv
      have h1 : wB.cell? ⟨b, o, none⟩ = some v := hgrow.cell hv hd.2
      have := hd.1
      rw [World.cell?_setCell_other _ _ _ _ (fun e => by cases e; omega)]
      exact h1
    · have hlt := cell_lt hv
      simp only [Value.ownBlock] at e
      cases e
      rcases hat with h1 | h1
      · exact hd.2 (by rw [h1])
      · have : (g : Nat) < W.heap.size := hlt
        omega
  refine ⟨?_, by simp [h.len], ?_, fun j hj => ?_⟩
  · have := hblk.set_ 3 (.slice (some ⟨g, 0, none⟩) (n + 1) cap)
    simpa using this
  · have h1 : (wB.setCell ⟨B, 3, none⟩ (.slice (some ⟨g, 0, none⟩) (n + 1) cap)).ownsRow (B + 1) tp 1 (.slice (some ⟨g, 0, none⟩) (n + 1) cap) (n + 1) (vP qs ++ vP [a]) := by
      refine hown.kept (row := some B) ⟨rfl, rfl, rfl, by simp [World.setCell], fun k _ hk => Below.heap_setCell _ _ _ _ (fun e => hk (by rw [e]))⟩ (.inr fun e => ?_)
      simp only [Value.ownBlock] at e
      cases e
      omega
    rwa [vP_append]
  · rcases Nat.lt_or_ge j n with h1 | h1
    · have e1 : (ts ++ [t]).getD j dflt = ts.getD j dflt := by simp only [List.getD]; rw [List.getElem?_append_left (by have := h.len; omega)]
      have e2 : (qs ++ [a]).getD j a0 = qs.getD j a0 := by simp only [List.getD]; rw [List.getElem?_append_left (by omega)]
      rw [e1, e2]
      exact hkeep _ _ ((h.kids j h1).below hbW)
    · obtain rfl : j = n := by omega
      have e1 : (ts ++ [t]).getD j dflt = t := by simp only [List.getD]; rw [List.getElem?_append_right (by have := h.len; omega), h.len]; simp
      have e2 : (qs ++ [a]).getD j a0 = a := by simp only [List.getD]; rw [List.getElem?_append_right (by omega), hq]; simp
      rw [e1, e2]
      refine hkeep _ _ (Pt.keep (fun b o v hd hv => ⟨keep hW hv, ?_, fun e => ?_⟩) ht)
      · have := hD b hd; omega
      · have h2 := (hrow b e.symm).2
        have h3 := hD b hd
        omega
theorem Node.blkB {w wA W wB : World} {B n c : Nat} {t4 tp : TypeId} {m : Mk} {A : Option Addr} {ts : List Tm} {qs : List Addr} (h : Node w B t4 tp m A n c ts qs)
    (hbA : Below w.heap.size w wA) (hW : Below wA.heap.size wA W) (hgrow : W.grownBy wB (Value.slice A n c).ownBlock) : Blk wB B t4 #[.int .i64 m.1, .int .i64 m.2.1, .int .i64 m.2.2, .slice A n c] := by
  have hB := h.blk.lt
  have hsA := hbA.size
  have hsW := hW.size
  have hbW : Below w.heap.size w W := hbA.trans (hW.mono hsA)
  show wB.heap[B]? = _
  rw [hgrow.block B (by omega) (fun e => by have := (h.own.lt B e.symm).1; omega), hbW.block B hB]
  exact h.blk
theorem Node.rev {w w' : World} {B g c : Nat} {t4 tp : TypeId} {m : Mk} {ts : List Tm} {q0 q1 : Addr} (h : Node w B t4 tp m (some ⟨g, 0, none⟩) 2 c ts [q0, q1])
    (hown : w'.ownsRow (B + 1) tp 1 (.slice (some ⟨g, 0, none⟩) 2 c) 2 (vP [q1, q0])) (hg : w.grownBy w' (some g)) : Node w' B t4 tp m (some ⟨g, 0, none⟩) 2 c ts.reverse [q1, q0] := by
  have hgB : B + 1 ≤ g := (h.own.lt g rfl).1
  have hk : ∀ x p, Pt (fun b => B < b ∧ some b ≠ (Value.slice (some ⟨g, 0, none⟩) 2 c).ownBlock) w x p → Pt (fun b => B < b ∧ some b ≠ (Value.slice (some ⟨g, 0, none⟩) 2 c).ownBlock) w' x p := fun x p hp => Pt.keep (fun b o v hd hv => ⟨hg.cell hv hd.2, hd⟩) hp
  obtain ⟨t0, t1, rfl⟩ : ∃ t0 t1, ts = [t0, t1] := by
    match ts, h.len with
    | [t0, t1], _ => exact ⟨t0, t1, rfl⟩
  refine ⟨?_, rfl, hown, fun j hj => ?_⟩
  · show w'.heap[B]? = _
    rw [hg.block B h.blk.lt (fun e => by cases e; omega)]; exact h.blk
  · match j, hj with
    | 0, _ => exact hk _ _ (h.kids 1 (by decide))
    | 1, _ => exact hk _ _ (h.kids 0 (by decide))
/-- The whole node as a tree. -/
theorem Node.done {w : World} {B n c : Nat} {t4 tp : TypeId} {m : Mk} {A : Option Addr} {ts : List Tm} {qs : List Addr} (h : Node w B t4 tp m A n c ts qs) {D : Nat → Prop} (hD : ∀ b, B ≤ b → D b) (hm : MOk m) (hn : arity m = (n : Int)) : Pt D w (node m ts) ⟨B, 0, none⟩ := by
  have hq := h.qlen
  refine Pt_node (ps := qs) hm ?_ (by rw [hq, h.len]) (by rw [hn, h.len]) (fun j hj => (h.kids j (by rw [← h.len]; exact hj)).weaken fun b _ hb => hD b (by omega))
  refine ⟨B, 0, A, c, rfl, hD B (Nat.le_refl _), ?_, ?_, ?_, ?_, ?_⟩
  · rw [h.blk.cell]; rfl
  · rw [h.blk.cell]; rfl
  · rw [h.blk.cell]; rfl
  · rw [h.blk.cell, hq]; rfl
  · rw [hq]
    obtain ⟨A', c', e, _, hp, _⟩ := own_ptrs (D := D) h.own (fun g hg => hD g (by have := (h.own.lt g hg).1; omega))
    cases e
    exact hp

theorem markT_ok {t : Tm} (h : Wf t) : MOk (markT t) := by
  cases t with
  | step l hh => exact .inl (isStep_of h)
  | two k a b => exact .inr (.inl (isTwo_of h))
  | one a hh => exact .inr (.inr (isOne_of h))
theorem markT_arity {t : Tm} (h : Wf t) : arity (markT t) = ((kidsT t).length : Int) := by
  cases t with
  | step l hh => exact arity_step (isStep_of h)
  | two k a b => exact arity_two (isTwo_of h)
  | one a hh => exact arity_one (isOne_of h)
theorem Wf.kid {t : Tm} (h : Wf t) {k : Tm} (hk : k ∈ kidsT t) : Wf k := by
  cases t with
  | step l hh => simp [kidsT] at hk
  | two kk a b =>
    simp [kidsT] at hk
    rcases hk with rfl | rfl
    · exact h.2.1
    · exact h.2.2
  | one a hh =>
    simp [kidsT] at hk
    subst hk
    exact h.1
theorem backT_node (t : Tm) (h : Wf t) : backT t = node (markT t) (if (markT t).1 = 1 then ((kidsT t).map backT).reverse else (kidsT t).map backT) := by
  cases t with
  | step l hh => rfl
  | two k a b =>
    simp only [backT, markT, kidsT]
    by_cases hk : k = 1
    · subst hk; rfl
    · have e1 : (if ((k, 0, 0) : Mk).1 = 1 then (List.map backT [a, b]).reverse else List.map backT [a, b]) = List.map backT [a, b] := if_neg hk
      rw [if_neg hk]; show _ = node (k, 0, 0) (if ((k, 0, 0) : Mk).1 = 1 then (List.map backT [a, b]).reverse else List.map backT [a, b]); rw [e1]; rfl
  | one a hh => rfl

set_option maxHeartbeats 1000000 in
theorem Reverse2_any (base g c : Nat) (q0 q1 : Addr) (w : World) (h : w.ownsRow base 54 1 (.slice (some ⟨g, 0, none⟩) 2 c) 2 (vP [q0, q1])) :
    Calls Try.prog 78 #[.slice (some ⟨g, 0, none⟩) 2 c] w fun e w' => e = .returned (.tuple #[]) ∧ w'.ownsRow base 54 1 (.slice (some ⟨g, 0, none⟩) 2 c) 2 (vP [q1, q0]) ∧ w.grownBy w' (some g) := by
  have HO := Lib.hid h
  have c0 := h.cellAt 0 (by decide)
  have c1 := h.cellAt 1 (by decide)
  have f0 := h.frozenAt 0
  have f1 := h.frozenAt 1
  have e0 : (vP [q0, q1])[0]? = some (.pointer (some q0)) := rfl
  have e1 : (vP [q0, q1])[1]? = some (.pointer (some q1)) := rfl
  rw [e0] at c0
  rw [e1] at c1
  clear h e0 e1
  go_enter Try.func78, Try.ntmps78
  go_wp2
  go_loopw [2, 3] (fun i j wr => (i = .int .i64 0 ∧ j = .int .i64 1 ∧ wr = w) ∨ (i = .int .i64 1 ∧ j = .int .i64 0 ∧ wr.ownsRow base 54 1 (.slice (some ⟨g, 0, none⟩) 2 c) 2 (vP [q1, q0]) ∧ w.grownBy wr (some g))) (fun i _ _ => 1 - (intOf i).toNat)
  case atStart => exact .inl ⟨rfl, rfl, rfl⟩
  case round =>
    rcases hrel with ⟨rfl, rfl, rfl⟩ | ⟨rfl, rfl, hown, hg⟩
    · go_wp2
      go_region
      all_goals
        go_wp2
        go_roundw
        case rel =>
          refine .inr ⟨rfl, rfl, ?_, ?_⟩
          · exact own_set (own_set HO.out 0 (.pointer (some q1))) 1 (.pointer (some q0))
          · exact grown_trans (grown_trans (HO.out.stored 0 (.pointer (some q1))).2 ((own_set HO.out 0 (.pointer (some q1))).stored 1 (.pointer (some q0))).2) (grown_drew _ _ 1)
        case measure => simp [intOf]
    · have HO2 := Lib.hid hown
      have HG := Lib.hid hg
      clear hown hg
      go_wp2
      go_end0
      exact ⟨rfl, HO2.out, HG.out⟩

set_option maxRecDepth 100000 in
set_option maxHeartbeats 2000000 in
theorem back_any (t : Tm) : Wf t → ∀ (a : Addr) (w : World), Pt TT w t a → Calls Try.prog 53 #[.pointer (some a)] w (NewPt w (backT t)) := by
  induction t using kids_ind with
  | h t ih =>
  intro wf a w hp
  obtain ⟨b, off, A, c, ps, rfl, _, c0, c1, c2, c3, hps, hpl, hk⟩ := hp.open
  have HOK := Lib.hid (markT_ok wf)
  have HAR := Lib.hid (markT_arity wf)
  have HT := Lib.hid (backT_node t wf)
  have hp2 : ps.length ≤ 2 := by rw [hpl]; exact kidsT_len t
  have hbl : b < w.heap.size := cell_lt c0
  obtain ⟨m, HM⟩ : ∃ q, Hid (markT t = q) := ⟨_, rfl⟩
  rw [HM.out] at c0 c1 c2 HOK HAR HT
  obtain ⟨m0, m1, m2⟩ := m
  simp only at c0 c1 c2 HT
  have HK := Lib.hid hk
  have HPL := Lib.hid hpl
  have IH := Lib.hid (fun k (hk : k < (kidsT t).length) => ih ((kidsT t).getD k dflt) (by simp [List.getD, hk]) (wf.kid (by simp [List.getD, hk])))
  clear ih hk hpl hp
  have hB0 : Below w.heap.size w (w.alloc (.cells #[.int .i64 m0, .int .i64 m1, .int .i64 m2, .slice none 0 0] 82)) := (Below.refl w.heap.size w).alloc (Nat.le_refl _) _
  have HN := Lib.hid (Node.new w 82 54 (m0, m1, m2))
  have HB0 := Lib.hid hB0
  clear hB0
  go_enter Try.func53, Try.ntmps53
  go_wp2
  go_loopw [17] (fun i wr => ∃ (k : Nat) (Av : Option Addr) (cv : Nat) (qs : List Addr), k ≤ ps.length ∧ i = .int .i64 k ∧ Node wr w.heap.size 82 54 (m0, m1, m2) Av k cv (((kidsT t).map backT).take k) qs ∧ Below w.heap.size w wr) (fun i _ => ps.length - (intOf i).toNat)
  case atStart => exact ⟨0, none, 0, [], Nat.zero_le _, rfl, HN.out, HB0.out⟩
  case round =>
    obtain ⟨wo, rfl⟩ : ∃ wo : World, wo = wr := ⟨_, rfl⟩
    obtain ⟨k, Av, cv, qs, hk, rfl, hno, hb⟩ := hrel
    have HNO := Lib.hid hno
    have HB := Lib.hid hb
    clear hno hb
    have e3 : wo.cell? ⟨w.heap.size, 3, none⟩ = some (.slice Av k cv) := (HNO.out.blk.cell 3).trans rfl
    by_cases hlt : k < ps.length
    · have HKL := Lib.hid (show k < (kidsT t).length by rw [← HPL.out]; exact hlt)
      obtain ⟨kb, ko, rfl, _, hc⟩ := (hps.below HB.out).cells (by omega)
      have k0 := hc k hlt
      have HPK := Lib.hid ((HK.out k hlt).below HB.out)
      obtain ⟨ks, HKS⟩ : ∃ q, Hid ((kidsT t).getD k dflt = q) := ⟨_, rfl⟩
      have IHK := Lib.hid (IH.out k HKL.out)
      rw [HKS.out] at HPK IHK
      obtain ⟨pk, HPKN⟩ : ∃ q, Hid (ps.getD k a0 = q) := ⟨_, rfl⟩
      rw [HPKN.out] at k0 HPK
      have hwl : w.heap.size < wo.heap.size := HNO.out.blk.lt
      clear hc
      go_wp2_with (fail)
      go_region_law
        (first
          | (go_simp; go_at_call 53; refine kNewPt (IHK.out pk _ (HPK.out.below (by repeat (first | exact Below.refl _ _ | refine Below.alloc ?_ (by simp) _ | apply Below.drew)))) ?_; intro aN wA hpA hbA; have e3A := keep hbA e3; have hwA : w.heap.size < wA.heap.size := cell_lt e3A)
          | (refine step_app rowP (by rfl) _ _ (by rfl) (w.heap.size + 1) _ k (vP qs) (by rfl) (own_below (own_below HNO.out.own ((Below.refl wo.heap.size wo).drew.trans hbA)) (by repeat (first | exact Below.refl _ _ | refine Below.alloc ?_ (by simp) _ | apply Below.drew))) ⟨wA.heap.size, 0, none⟩ 1 1 (vP [aN]) (by rfl) rfl (cell_one_at (by simp) _ _) (vP_one _) (by decide) (by omega) (by have := hbA.size; simp at *; omega) ?_
             intro g' cap' wB hownB hgrow hat hltB
             have HBLK := Lib.hid (HNO.out.blkB ((Below.refl wo.heap.size wo).drew.trans hbA) ((Below.refl _ _).alloc (Nat.le_refl _) _) hgrow)
             have hS := And.intro (show wB.cell? ⟨w.heap.size, 3, none⟩ = some (.slice Av k cv) from (HBLK.out.cell 3).trans rfl) (HBLK.out.frozen 3)
             have eS := hS.1
             have fS := hS.2))
      all_goals
        have hbA' : Below wo.heap.size wo wA := (Below.refl wo.heap.size wo).drew.trans hbA
        have HST := Lib.hid (HNO.out.step hbA' hpA (fun b hb => hb) ((Below.refl _ _).alloc (Nat.le_refl _) _) hownB hgrow (hat.imp id (fun h => Nat.le_of_eq h.symm)))
        have HBW := Lib.hid (((((HB.out.trans (hbA'.mono HB.out.size)).alloc (Nat.le_trans HB.out.size hbA'.size) _).grown hgrow (by have := HB.out.size; have := hbA'.size; simp; omega) (fun k hk => by have := (HNO.out.own.lt k hk).1; omega)).setCell (p := ⟨w.heap.size, 3, none⟩) (Nat.le_refl _) (.slice (some ⟨g', 0, none⟩) (k + 1) cap')))
        clear hgrow hat hownB
        go_wp2
        go_roundw
        case rel =>
          refine ⟨k + 1, some ⟨g', 0, none⟩, cap', qs ++ [aN], by omega, by go_num, ?_, HBW.out⟩
          have e : ((kidsT t).map backT).take (k + 1) = ((kidsT t).map backT).take k ++ [backT ks] := by
            have h1 : k < (kidsT t).length := HKL.out
            rw [List.take_succ_eq_append_getElem (by simpa using h1)]
            have h2 := HKS.out
            simp only [List.getD, List.getElem?_eq_getElem h1, Option.getD_some] at h2
            simp [h2]
          rw [e]
          exact HST.out
        case measure => simp [intOf]; omega
    · obtain rfl : k = ps.length := by omega
      have hts : ((kidsT t).map backT).take ps.length = (kidsT t).map backT := List.take_of_length_le (by simp [HPL.out])
      have HD := Lib.hid HNO.out
      rw [hts] at HD
      replace c0 := keep HB.out c0
      replace c1 := keep HB.out c1
      replace c2 := keep HB.out c2
      clear hts hlt hk
      by_cases hm1 : m0 = 1
      · have hk2 : ps.length = 2 := by
          have h1 := HAR.out
          have h2 : isTwo (m0, m1, m2) := by
            rcases HOK.out with h | h | h
            · exact absurd h.1 (by simp [hm1])
            · exact h
            · exact absurd h.1 (by simp [hm1])
          rw [arity_two h2] at h1
          have h3 := HPL.out
          omega
        have HP := Lib.hid (show ∀ W : World, ∀ q0 q1 g, Node W w.heap.size 82 54 (m0, m1, m2) (some ⟨g, 0, none⟩) 2 cv ((kidsT t).map backT).reverse [q0, q1] → Pt (fun b => w.heap.size ≤ b) W (backT t) ⟨w.heap.size, 0, none⟩ from fun W q0 q1 g hN => by
          rw [HT.out, if_pos hm1]
          exact hN.done (fun b hb => hb) HOK.out (by rw [HAR.out, ← HPL.out, hk2]))
        obtain ⟨q0, q1, rfl⟩ : ∃ q0 q1, qs = [q0, q1] := by
          have h1 := HD.out.qlen
          rw [hk2] at h1
          match qs, h1 with
          | [q0, q1], _ => exact ⟨q0, q1, rfl⟩
        rw [hk2] at HD e3
        obtain ⟨g, rfl, hg0, hg1⟩ := own_cellsD HD.out.own (by decide)
        subst hm1
        go_wp2_with (fail)
        refine (Reverse2_any (w.heap.size + 1) g cv q0 q1 _ HD.out.own).mono ?_
        rintro e w' ⟨rfl, hown', hg'⟩
        have HN2 := Lib.hid (HD.out.rev hown' hg')
        have HB2 := Lib.hid (HB.out.grown hg' HB.out.size (fun k hk => by cases hk; omega))
        clear hown' hg'
        go_wp2
        go_ret
        exact ⟨_, rfl, HP.out _ _ _ _ HN2.out, HB2.out⟩
      · have q1 : (m0 == 1) = false := by simpa using hm1
        have HP := Lib.hid (show Pt (fun b => w.heap.size ≤ b) wo (backT t) ⟨w.heap.size, 0, none⟩ by
          rw [HT.out, if_neg hm1]
          exact HD.out.done (fun b hb => hb) HOK.out (by rw [HAR.out, HPL.out]))
        go_wp2
        go_ret
        exact ⟨_, rfl, HP.out, HB.out⟩

set_option maxHeartbeats 1000000 in
theorem iBackTerm_any (A : Option Addr) (n c : Nat) (xs : List Mk) (w : World) (h : MarksAt w A n xs) (hn : n ≤ 1048576) :
    Calls Try.prog 21 #[.slice A n c] w (NewM w (BackF xs)) := by
  by_cases hT : TOk xs
  · obtain ⟨x, hx⟩ := hT
    have HX := Lib.hid (show TIs xs x from hx)
    rw [show BackF xs = _ from onT_pos HX.out]
    have hl : (marksOf (backT x)).length ≤ 11 := by rw [backT_marks, hx.2.1]; exact hx.2.2
    clear hx
    go_enter Try.func21, Try.ntmps21
    go_wp2_with (fail)
    refine kBuild (iBuild_any A n c xs _ h hn) (fun _ hne _ => absurd ⟨x, HX.out⟩ hne.out) ?_
    intro w1 y a HY hb1 hpt
    obtain rfl : y = x := TIs.eq HY.out HX.out
    go_wp2_with (fail)
    refine kNewPt (back_any y HX.out.1 a _ hpt) ?_
    intro a2 w2 hp2 hb2
    go_wp2_with (fail)
    refine kNewM (marks_any (backT y) (by omega) a2 _ hp2.tt) ?_
    intro A' c' w3 hown hb3
    have h12 := hb1.trans (hb2.mono hb1.size)
    go_wp2
    go_ret
    exact ⟨A', c', rfl, own_base hown h12.size, h12.trans (hb3.mono h12.size)⟩
  · rw [show BackF xs = _ from onT_neg hT]
    have HT := Lib.hid hT
    clear hT
    go_enter Try.func21, Try.ntmps21
    go_wp2_with (fail)
    refine kBuild (iBuild_any A n c xs _ h hn) ?_ (fun _ x _ hne _ _ => absurd ⟨x, hne.out⟩ HT.out)
    intro w1 hp hb1
    go_wp2
    go_ret
    exact ⟨none, 0, rfl, OwnM.nil w1 _, hb1⟩

end Go.Proofs.Ytookhelfbnhadaa
