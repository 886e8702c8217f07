/- The counts of a part by the program: (*part).counts. -/
import Derived.Test.YtookhelfbnhadaaN2
import Derived.Test.YtookhelfbnhadaaMA
namespace Go.Proofs.Ytookhelfbnhadaa
open Go.RowKit Go.Maps

theorem lawI : Keyed Try.prog 3 := int_keyed Try.underlying3
theorem zeroI (w : World) : (zeroValue 3).run Try.prog w = .ok (.int .i64 0) w := by kernel_rfl
/-- A map of counts. -/
abbrev OwnC (w : World) (b n : Nat) (D : DataW Unit) : Prop := w.ownsMap Try.prog 3 (plainElem Try.prog 3) b n D
/-- What counts leaves: a map of its own. -/
def NewC (w : World) (t : Tm) (e : Ending) (w' : World) : Prop :=
  ∃ (b : Nat) (D : DataW Unit), e = .returned (.map (some b)) ∧ w.heap.size ≤ b ∧ OwnC w' b 210 D ∧ Cm D (cntT t) (19 * (stepsT t : Int)) ∧ Below w.heap.size w w'
theorem kNewC {Pr : Program} {f : FuncId} {args : Array Value} {w : World} {R : Ending → World → Prop} {t : Tm} (h : Calls Pr f args w (NewC w t))
    (h1 : ∀ b D w', w.heap.size ≤ b → OwnC w' b 210 D → Cm D (cntT t) (19 * (stepsT t : Int)) → Below w.heap.size w w' → R (.returned (.map (some b))) w') : Calls Pr f args w R :=
  h.mono fun e w' ⟨b, D, he, hb, ho, hc, hbl⟩ => by subst he; exact h1 b D w' hb ho hc hbl
theorem OwnC.fit {w : World} {b n : Nat} {D : DataW Unit} {f : Int → Nat} {N : Int} (h : OwnC w b n D) (hc : Cm D f N) (hN : N ≤ 209) : OwnC w b 210 D :=
  owns_size h ((hc.mono hN).size (M := 209) (h.canon lawI))

set_option maxRecDepth 100000 in
set_option maxHeartbeats 2000000 in
theorem counts_step (l h : Int) (wf : Wf (.step l h)) (a : Addr) (w : World) (hp : Pt TT w (.step l h) a) : Calls Try.prog 59 #[.pointer (some a)] w (NewC w (.step l h)) := by
  obtain ⟨b, off, A, c, ps, rfl, _, c0, c1, c2, c3, hps, hpl, hk⟩ := hp.open
  simp only [markT] at c0 c1 c2
  have HCS := Lib.hid (cnt_step wf)
  have hbl : b < w.heap.size := cell_lt c0
  obtain ⟨hw0, hw1, hw2⟩ := wf
  obtain ⟨L, rfl⟩ := Int.eq_ofNat_of_zero_le hw0
  obtain ⟨H, rfl⟩ := Int.eq_ofNat_of_zero_le (show 0 ≤ h by omega)
  have hmm := @run_makeMap
    Try.prog
  clear hk hps hpl hp c3
  have C0 := Lib.hid c0
  have C1 := Lib.hid c1
  have C2 := Lib.hid c2
  clear c0 c1 c2
  have c0 := C0.out
  have c1 := C1.out
  go_enter Try.func59, Try.ntmps59
  go_wp2
  go_loopw [4] (fun i wr => ∃ (k : Nat) (D : DataW Unit), i = .int .i64 k ∧ L ≤ k ∧ k ≤ H + 1 ∧ OwnC wr w.heap.size k D ∧ Cm D (fun n => if (L : Int) ≤ n ∧ n < (k : Int) then 1 else 0) 19 ∧ Below w.heap.size w wr)
    (fun i _ => H + 1 - (intOf i).toNat)
  case atStart => exact ⟨L, .map [], rfl, Nat.le_refl _, by omega, (World.ownsMap_made _ _ _ _).mono (Nat.zero_le _), (Cm.empty 19).congr fun n => by rw [if_neg (by omega)], (Below.refl _ _).alloc (Nat.le_refl _) _⟩
  case round =>
    obtain ⟨wo, rfl⟩ : ∃ wo : World, wo = wr := ⟨_, rfl⟩
    obtain ⟨k, D, rfl, hk0, hk1, hown, hcm, hb⟩ := hrel
    have c2 := keep hb C2.out
    have HB := Lib.hid hb
    have HC := Lib.hid hcm
    clear hcm hb
    by_cases hlt : k ≤ H
    · go_wp2_with (first
        | (at_mapUpdate; refine wpList_mapUpdate_own _ rfl _ _ _ 65 rfl 3 3 lawI Try.underlying65 _ w.heap.size k _ rfl hown (by unfold maxLen; omega) _ _ _ rfl rfl (keyOf_int_mk Try.underlying3 (WalkArith.wf_i64 (by omega))) _ [] (plainElem_int Try.underlying3 (WalkArith.wf_i64 (by omega))) ?_; intro w1 hown1 hgrow1)
        | go_in)
      go_roundw
      case rel =>
        refine ⟨k + 1, _, by go_num, by omega, by omega, hown1, ?_, HB.out.grown hgrow1 HB.out.size (fun j hj => by cases hj; exact Nat.le_refl _)⟩
        exact (HC.out.put (x := (k : Int)) (by omega) (by omega) 1).congr fun n => by
          by_cases e : n = (k : Int)
          · rw [if_pos e, if_pos (by omega)]
          · rw [if_neg e]
            by_cases h2 : (L : Int) ≤ n ∧ n < (k : Int)
            · rw [if_pos h2, if_pos (by omega)]
            · rw [if_neg h2, if_neg (by omega)]
      case measure => simp [intOf]; omega
    · obtain rfl : k = H + 1 := by omega
      go_wp2
      go_ret
      have hcc : Cm D (cntT (.step (L : Int) (H : Int))) (19 * ((stepsT (.step (L : Int) (H : Int)) : Nat) : Int)) := (HC.out.congr fun n => by
        rw [HCS.out]
        by_cases h2 : (L : Int) ≤ n ∧ n ≤ (H : Int)
        · rw [if_pos h2, if_pos (by omega)]
        · rw [if_neg h2, if_neg (by omega)]).mono (by simp [stepsT])
      exact ⟨_, D, rfl, Nat.le_refl _, hown.fit hcc (by simp [stepsT]), hcc, HB.out⟩

theorem OwnC.below {w w' : World} {b n : Nat} {D : DataW Unit} (h : OwnC w b n D) (hb : Below w.heap.size w w') : OwnC w' b n D :=
  h.kept (row := none) ⟨hb.os, hb.tape, hb.output, hb.size, fun k hk _ => hb.block k hk⟩ (by simp)
theorem ranges_below {w w' : World} {b r n : Nat} {D : DataW Unit} {left : Lit → Bool} {cnt : Nat} (h : w.ranges Try.prog 3 (plainElem Try.prog 3) b r n D left cnt) (hb : Below w.heap.size w w') : w'.ranges Try.prog 3 (plainElem Try.prog 3) b r n D left cnt :=
  h.kept (row := none) ⟨hb.os, hb.tape, hb.output, hb.size, fun k hk _ => hb.block k hk⟩ (by simp) (by simp)

set_option maxRecDepth 100000 in
set_option maxHeartbeats 4000000 in
theorem counts_one (t0 : Tm) (h : Int) (wf : Wf (.one t0 h)) (hl : (marksOf (.one t0 h)).length ≤ 11)
    (ih : ∀ (a : Addr) (w : World), Pt TT w t0 a → Calls Try.prog 59 #[.pointer (some a)] w (NewC w t0)) (a : Addr) (w : World) (hp : Pt TT w (.one t0 h) a) :
    Calls Try.prog 59 #[.pointer (some a)] w (NewC w (.one t0 h)) := by
  obtain ⟨b, off, A, c, ps, rfl, _, c0, c1, c2, c3, hps, hpl, hk⟩ := hp.open
  simp only [markT] at c0 c1 c2
  obtain ⟨p0, rfl⟩ : ∃ p0, ps = [p0] := by
    match ps, hpl with
    | [p0], _ => exact ⟨p0, rfl⟩
  have HP := Lib.hid (show Pt TT w t0 p0 from hk 0 (by simp))
  obtain ⟨kb, ko, rfl, _, hc⟩ := hps.cells (by simp)
  have k0 : w.cell? ⟨kb, ko, none⟩ = some (.pointer (some p0)) := hc 0 (by simp)
  have hbl : b < w.heap.size := cell_lt c0
  have hkl : kb < w.heap.size := cell_lt k0
  have HW := Lib.hid (cnt_within t0 h)
  have hs11 := stepsT_le t0
  have HN := Lib.hid (show 19 * (stepsT (.one t0 h) : Int) = 19 * (stepsT t0 : Int) from rfl)
  have hl2 : (marksOf (.one t0 h)).length = (marksOf t0).length + 1 := by simp [marksOf]
  have hmm := @run_makeMap
    Try.prog
  have C2 := Lib.hid c2
  have IH := Lib.hid ih
  clear hk hps hpl hp hc ih c1
  obtain ⟨S, HS⟩ : ∃ q, Hid (19 * (stepsT t0 : Int) = q) := ⟨_, rfl⟩
  have hS : S ≤ 209 := by rw [← HS.out]; omega
  have e1 : (w.alloc (.map #[] 0)).heap.size = w.heap.size + 1 := by simp
  clear hs11 hl2 hl
  go_enter Try.func59, Try.ntmps59
  go_wp2_with (fail)
  refine kNewC (IH.out p0 _ (HP.out.below ((Below.refl _ _).alloc (Nat.le_refl _) _))) ?_
  intro B D w1 hB hown hC hb1
  rw [HS.out] at hC
  have hout0 : OwnC w1 w.heap.size 0 (.map []) := OwnC.below (World.ownsMap_made _ _ _ _) hb1
  have hbw1 : Below w.heap.size w w1 := ((Below.refl _ _).alloc (Nat.le_refl _) _).trans (hb1.mono (by simp))
  rw [e1] at hB
  have HC := Lib.hid hC
  have HO0 := Lib.hid hout0
  have hsz1 : w.heap.size < w1.heap.size := hout0.lt
  have HW1 := Lib.hid hbw1
  clear hb1 hC hout0 hbw1 e1
  go_wp2_with (first
    | (at_range; refine wpList_range_own _ rfl _ 65 rfl 3 3 lawI Try.underlying65 _ B 210 D rfl hown ?_; intro w2 hrg2 hg2 hs2)
    | go_in)
  go_frame
  go_loopw [12] (fun _ wr => ∃ (left : Lit → Bool) (cnt : Nat) (Do : DataW Unit), wr.ranges Try.prog 3 (plainElem Try.prog 3) B w1.heap.size 210 D left cnt ∧ OwnC wr w.heap.size 210 Do ∧
      Cm Do (fun n => if n ≤ h then (if lf left n then 0 else cntT t0 n) else 0) S ∧ Below w.heap.size w wr) (fun _ wr => wr.rangeLeft B w1.heap.size)
  case atStart =>
    refine ⟨_, _, .map [], hrg2, (HO0.out.kept hg2 (by simp)).mono (by decide), (Cm.empty S).congr fun n => ?_, HW1.out.grown hg2 HW1.out.size (fun j hj => by cases hj)⟩
    by_cases hn : n ≤ h
    · rw [if_pos hn]
      cases hlf : lf (Maps.has D) n with
      | true => rfl
      | false => exact (lf_has HC.out n hlf).symm
    · rw [if_neg hn]
  case round =>
    obtain ⟨wo, rfl⟩ : ∃ wo : World, wo = wr := ⟨_, rfl⟩
    obtain ⟨left, cnt, Do, hrg, hout, hcm, hb⟩ := hrel
    have HR := Lib.hid hrg
    have HO := Lib.hid hout
    have HM := Lib.hid hcm
    have HB := Lib.hid hb
    clear hrg hout hcm hb hrg2 hg2 hs2
    go_wp2_with (first
      | (at_next; refine wpList_next_ranges_ii _ rfl _ rfl 3 3 .i64 .i64 lawI Try.underlying3 Try.underlying3 B w1.heap.size 210 _ _ _ rfl HR.out ?_ ?_)
      | go_in)
    · intro hc0 hl0
      have HL0 := Lib.hid hl0
      clear hl0
      go_wp2
      go_ret
      have hcc : Cm Do (cntT (.one t0 h)) (19 * (stepsT (.one t0 h) : Int)) := by
        rw [HN.out, HS.out]
        refine HM.out.congr fun n => ?_
        rw [HW.out]
        by_cases hn : n ≤ h
        · rw [if_pos hn, if_pos hn, show lf left n = false from HL0.out _]; rfl
        · rw [if_neg hn, if_neg hn]
      exact ⟨_, Do, rfl, Nat.le_refl _, HO.out, hcc, HB.out⟩
    · intro x c w3 cnt1 hwx hwc hlx hat hrg1 hlt hg3 hs3 hen
      have HAT := Lib.hid hat
      have hkx := HC.out.key_in (Maps.has_true_of_atKey hat)
      have HCX := Lib.hid (HC.out.at_c (hat _))
      have HLX := Lib.hid hlx
      have HG3 := Lib.hid hg3
      have HR1 := Lib.hid hrg1
      have HB3 := Lib.hid (HB.out.grown hg3 HB.out.size (fun j hj => by cases hj; exact HW1.out.size))
      have HO3 := Lib.hid (show OwnC w3 w.heap.size 210 Do from HO.out.kept hg3 (fun e => by have := HW1.out.size; injection e; omega))
      have HLT := Lib.hid hlt
      clear hat hlx hg3 hrg1 hlt
      have c2 := keep HB3.out C2.out
      by_cases hxh : x ≤ h
      · go_wp2_with (first
          | (at_mapUpdate; refine wpList_mapUpdate_own _ rfl _ _ _ 65 rfl 3 3 lawI Try.underlying65 _ w.heap.size 210 _ rfl HO3.out (by decide) _ _ _ rfl rfl (keyOf_int_mk Try.underlying3 hwx) _ [] (plainElem_int Try.underlying3 hwc) ?_; intro w4 hout4 hg4; go_frame)
          | go_in)
        go_roundw
        case rel =>
          have hcm4 : Cm (Do.put (ky x) (.lit (.int .i64 c))) (fun n => if n ≤ h then (if lf (fun z => left z && !z.sameKey (ky x)) n then 0 else cntT t0 n) else 0) S := by
            rw [HCX.out]
            refine (HM.out.put hkx.1 hkx.2 (cntT t0 x)).congr fun n => ?_
            rw [lf_strike]
            by_cases e : n = x
            · subst e; rw [if_pos rfl, if_pos hxh]; simp
            · rw [if_neg e]; simp [e]
          exact ⟨_, cnt1, _, HR1.out.kept hg4 (fun e => by injection e; omega) (fun e => by have := HW1.out.size; injection e; omega), OwnC.fit hout4 hcm4 hS, hcm4, HB3.out.grown hg4 HB3.out.size (fun j hj => by cases hj; exact Nat.le_refl _)⟩
        case measure =>
          have hrg4 := HR1.out.kept hg4 (fun e => by injection e; omega) (fun e => by have := HW1.out.size; injection e; omega)
          rw [hrg4.left_eq, HR.out.left_eq]; exact HLT.out
      · go_wp2
        go_roundw
        case rel =>
          refine ⟨_, cnt1, Do, HR1.out, HO3.out, HM.out.congr fun n => ?_, HB3.out⟩
          rw [lf_strike]
          by_cases hn : n ≤ h
          · rw [if_pos hn, if_pos hn]
            have e : n ≠ x := by omega
            simp [e]
          · rw [if_neg hn, if_neg hn]
        case measure => rw [HR1.out.left_eq, HR.out.left_eq]; exact HLT.out

set_option maxRecDepth 100000 in
set_option maxHeartbeats 4000000 in
theorem counts_both (t0 t1 : Tm) (wf : Wf (.two 2 t0 t1)) (hl : (marksOf (.two 2 t0 t1)).length ≤ 11)
    (ih0 : ∀ (a : Addr) (w : World), Pt TT w t0 a → Calls Try.prog 59 #[.pointer (some a)] w (NewC w t0))
    (ih1 : ∀ (a : Addr) (w : World), Pt TT w t1 a → Calls Try.prog 59 #[.pointer (some a)] w (NewC w t1)) (a : Addr) (w : World) (hp : Pt TT w (.two 2 t0 t1) a) :
    Calls Try.prog 59 #[.pointer (some a)] w (NewC w (.two 2 t0 t1)) := by
  obtain ⟨b, off, A, c, ps, rfl, _, c0, c1, c2, c3, hps, hpl, hk⟩ := hp.open
  simp only [markT] at c0 c1 c2
  obtain ⟨p0, p1, rfl⟩ : ∃ p0 p1, ps = [p0, p1] := by
    match ps, hpl with
    | [p0, p1], _ => exact ⟨p0, p1, rfl⟩
  have HP := Lib.hid (show Pt TT w t0 p0 from hk 0 (by simp))
  have HQ := Lib.hid (show Pt TT w t1 p1 from hk 1 (by simp))
  obtain ⟨kb, ko, rfl, _, hc⟩ := hps.cells (by simp)
  have k0 : w.cell? ⟨kb, ko, none⟩ = some (.pointer (some p0)) := hc 0 (by simp)
  have k1 : w.cell? ⟨kb, ko + 1, none⟩ = some (.pointer (some p1)) := hc 1 (by simp)
  have hbl : b < w.heap.size := cell_lt c0
  have hkl : kb < w.heap.size := cell_lt k0
  have HW := Lib.hid (cnt_both (k := 2) (by decide) t0 t1)
  have HSM := Lib.hid (cnt_small wf hl)
  have hs11 := stepsT_le t0
  have hs12 := stepsT_le t1
  have hl2 : (marksOf (.two 2 t0 t1)).length = (marksOf t0).length + (marksOf t1).length + 1 := by simp [marksOf]; omega
  have hmm := @run_makeMap
    Try.prog
  have C0 := Lib.hid c0
  have C3 := Lib.hid c3
  have K0 := Lib.hid k0
  have IH0 := Lib.hid ih0
  have IH1 := Lib.hid ih1
  clear hk hps hpl hp hc ih0 ih1 c1 c2
  obtain ⟨S, HS⟩ : ∃ q, Hid (19 * (stepsT (.two 2 t0 t1) : Int) = q) := ⟨_, rfl⟩
  have hS : S ≤ 209 := by rw [← HS.out]; simp only [stepsT]; omega
  have hS0 : 19 * (stepsT t0 : Int) ≤ S := by rw [← HS.out]; simp only [stepsT]; omega
  have hS1 : 19 * (stepsT t1 : Int) ≤ S := by rw [← HS.out]; simp only [stepsT]; omega
  have HS0 := Lib.hid hS0
  have HS1 := Lib.hid hS1
  have e1 : (w.alloc (.map #[] 0)).heap.size = w.heap.size + 1 := by simp
  clear hs11 hs12 hl2 hl hS0 hS1
  go_enter Try.func59, Try.ntmps59
  go_wp2_with (fail)
  refine kNewC (IH1.out p1 _ (HQ.out.below ((Below.refl _ _).alloc (Nat.le_refl _) _))) ?_
  intro B2 D2 w1 hB2 hown2 hC2 hb1
  have HC2 := Lib.hid (hC2.mono HS1.out)
  have HOut1 := Lib.hid (show OwnC w1 w.heap.size 0 (.map []) from OwnC.below (World.ownsMap_made _ _ _ _) hb1)
  have HW1 := Lib.hid (show Below w.heap.size w w1 from ((Below.refl _ _).alloc (Nat.le_refl _) _).trans (hb1.mono (by simp)))
  have HOwn2 := Lib.hid hown2
  rw [e1] at hB2
  clear hb1 hC2 hown2 c0 c3 k0 k1
  have c3 := keep HW1.out C3.out
  have k0 := keep HW1.out K0.out
  go_wp2_with (fail)
  refine kNewC (IH0.out p0 _ (HP.out.below HW1.out)) ?_
  intro B D w2 hB hown hC hb2
  have HC := Lib.hid (hC.mono HS0.out)
  have HOut2 := Lib.hid (OwnC.below HOut1.out hb2)
  have HOwn2' := Lib.hid (OwnC.below HOwn2.out hb2)
  have HW2 := Lib.hid (HW1.out.trans (hb2.mono HW1.out.size))
  have hBB : B2 < B := by have := HOwn2.out.lt; omega
  clear hb2 hC e1
  go_wp2_with (first
    | (at_range; refine wpList_range_own _ rfl _ 65 rfl 3 3 lawI Try.underlying65 _ B 210 D rfl hown ?_; intro w3 hrg3 hg3 hs3)
    | go_in)
  go_frame
  go_loopw [10] (fun _ wr => ∃ (left : Lit → Bool) (cnt : Nat) (Do : DataW Unit), wr.ranges Try.prog 3 (plainElem Try.prog 3) B w2.heap.size 210 D left cnt ∧ OwnC wr B2 210 D2 ∧ OwnC wr w.heap.size 210 Do ∧
      Cm Do (fun n => if lf left n then 0 else cntT t0 n * cntT t1 n) S ∧ Below w.heap.size w wr) (fun _ wr => wr.rangeLeft B w2.heap.size)
  case atStart =>
    refine ⟨_, _, .map [], hrg3, HOwn2'.out.kept hg3 (by simp), (HOut2.out.kept hg3 (by simp)).mono (by decide), (Cm.empty S).congr fun n => ?_, HW2.out.grown hg3 HW2.out.size (fun j hj => by cases hj)⟩
    cases hlf : lf (Maps.has D) n with
    | true => rfl
    | false => rw [lf_has HC.out n hlf]; simp
  case round =>
    obtain ⟨wo, rfl⟩ : ∃ wo : World, wo = wr := ⟨_, rfl⟩
    obtain ⟨left, cnt, Do, hrg, hoth, hout, hcm, hb⟩ := hrel
    have HR := Lib.hid hrg
    have HX2 := Lib.hid hoth
    have HO := Lib.hid hout
    have HM := Lib.hid hcm
    have HB := Lib.hid hb
    clear hrg hout hcm hb hrg3 hg3 hs3 hoth
    go_wp2_with (first
      | (at_next; refine wpList_next_ranges_ii _ rfl _ rfl 3 3 .i64 .i64 lawI Try.underlying3 Try.underlying3 B w2.heap.size 210 _ _ _ rfl HR.out ?_ ?_)
      | go_in)
    · intro hc0 hl0
      have HL0 := Lib.hid hl0
      clear hl0
      go_wp2
      go_ret
      have hcc : Cm Do (cntT (.two 2 t0 t1)) (19 * (stepsT (.two 2 t0 t1) : Int)) := by
        rw [HS.out]
        refine HM.out.congr fun n => ?_
        rw [HW.out, show lf left n = false from HL0.out _]; rfl
      exact ⟨_, Do, rfl, Nat.le_refl _, HO.out, hcc, HB.out⟩
    · intro x c w4 cnt1 hwx hwc hlx hat hrg1 hlt hg4 hs4 hen
      have HAT := Lib.hid hat
      have hkx := HC.out.key_in (Maps.has_true_of_atKey hat)
      have HCX := Lib.hid (HC.out.at_c (hat _))
      have hsz := HW2.out.size
      have HG4 := Lib.hid hg4
      have HR1 := Lib.hid hrg1
      have HB4 := Lib.hid (HB.out.grown hg4 HB.out.size (fun j hj => by cases hj; exact hsz))
      have HX4 := Lib.hid (show OwnC w4 B2 210 D2 from HX2.out.kept hg4 (fun e => by have := HOwn2'.out.lt; injection e; omega))
      have HO4 := Lib.hid (show OwnC w4 w.heap.size 210 Do from HO.out.kept hg4 (fun e => by have := HOut2.out.lt; injection e; omega))
      have HLT := Lib.hid hlt
      have HLX := Lib.hid hlx
      clear hat hlx hg4 hrg1 hlt
      go_wp2_with (first
        | (at_lookup; refine wpList_lookup_own_int _ rfl _ _ 65 rfl 3 3 .i64 lawI Try.underlying65 Try.underlying3 (zeroI _) B2 210 D2 rfl HX4.out _ _ rfl (keyOf_int_mk Try.underlying3 hwx) ?_
           intro d had hwd
           have HD := Lib.hid (HC2.out.at_c had)
           have hcd : 0 ≤ c * d ∧ c * d ≤ 64000000 := by
             have h1 := HSM.out x
             rw [HW.out] at h1
             rw [HCX.out, HD.out, ← Int.natCast_mul]
             omega
           obtain ⟨hcd0, hcd1⟩ := hcd)
        | (at_mapUpdate; refine wpList_mapUpdate_own _ rfl _ _ _ 65 rfl 3 3 lawI Try.underlying65 _ w.heap.size 210 _ rfl HO4.out (by decide) _ _ _ rfl rfl (keyOf_int_mk Try.underlying3 hwx) _ [] (plainElem_int Try.underlying3 (by first | exact WalkArith.wf_i64 (by omega) | exact wrap64_wf _)) ?_; intro w5 hout5 hg5; go_frame)
        | go_in)
      go_roundw
      case rel =>
        have hcm5 : Cm (Do.put (ky x) (.lit (.int .i64 (c * d)))) (fun n => if lf (fun z => left z && !z.sameKey (ky x)) n then 0 else cntT t0 n * cntT t1 n) S := by
          rw [HCX.out, HD.out, ← Int.natCast_mul]
          refine (HM.out.put hkx.1 hkx.2 (cntT t0 x * cntT t1 x)).congr fun n => ?_
          rw [lf_strike]
          by_cases e : n = x
          · subst e; rw [if_pos rfl]; simp
          · rw [if_neg e]; simp [e]
        have h0 := HOut2.out.lt
        have h2 := HOwn2'.out.lt
        exact ⟨_, cnt1, _, HR1.out.kept hg5 (fun e => by injection e; omega) (fun e => by injection e; omega), HX4.out.kept hg5 (fun e => by injection e; omega), OwnC.fit hout5 hcm5 hS, hcm5, HB4.out.grown hg5 HB4.out.size (fun j hj => by cases hj; exact Nat.le_refl _)⟩
      case measure =>
        have h0 := HOut2.out.lt
        have hrg5 := HR1.out.kept hg5 (fun e => by injection e; omega) (fun e => by injection e; omega)
        rw [hrg5.left_eq, HR.out.left_eq]; exact HLT.out


/-- What the map of a MarkThen holds while its first part's entries come. -/
def thn (t0 t1 : Tm) (left : Lit → Bool) (n : Int) : Nat := goneN (lf left) (fun i => cntT t0 i * cntT t1 (n - i)) 210
theorem thn_le {t0 t1 : Tm} (w0 : Wf t0) (h0 : stepsT t0 ≤ 11) {left : Lit → Bool} {x : Int} (hl : lf left x = true) (hx0 : 0 ≤ x) (hx1 : x ≤ 209) (n : Int) : thn t0 t1 left n + cntT t0 x * cntT t1 (n - x) ≤ cntT (.two 1 t0 t1) n := by
  have hb := lenS_bd w0
  rw [cnt_then w0 n 210 (by omega)]
  have h1 := goneN_strike (M := 210) (F := fun i => cntT t0 i * cntT t1 (n - i)) hl hx0 (by omega)
  have h2 := goneN_le (left := fun z => lf left z && !(z == x)) (F := fun i => cntT t0 i * cntT t1 (n - i)) (M := 210)
  rw [h1] at h2
  exact h2

set_option maxRecDepth 100000 in
set_option maxHeartbeats 8000000 in
theorem counts_then (t0 t1 : Tm) (wf : Wf (.two 1 t0 t1)) (hl : (marksOf (.two 1 t0 t1)).length ≤ 11)
    (ih0 : ∀ (a : Addr) (w : World), Pt TT w t0 a → Calls Try.prog 59 #[.pointer (some a)] w (NewC w t0))
    (ih1 : ∀ (a : Addr) (w : World), Pt TT w t1 a → Calls Try.prog 59 #[.pointer (some a)] w (NewC w t1)) (a : Addr) (w : World) (hp : Pt TT w (.two 1 t0 t1) a) :
    Calls Try.prog 59 #[.pointer (some a)] w (NewC w (.two 1 t0 t1)) := by
  obtain ⟨b, off, A, c, ps, rfl, _, c0, c1, c2, c3, hps, hpl, hk⟩ := hp.open
  simp only [markT] at c0 c1 c2
  obtain ⟨p0, p1, rfl⟩ : ∃ p0 p1, ps = [p0, p1] := by
    match ps, hpl with
    | [p0, p1], _ => exact ⟨p0, p1, rfl⟩
  have HP := Lib.hid (show Pt TT w t0 p0 from hk 0 (by simp))
  have HQ := Lib.hid (show Pt TT w t1 p1 from hk 1 (by simp))
  obtain ⟨kb, ko, rfl, _, hc⟩ := hps.cells (by simp)
  have k0 : w.cell? ⟨kb, ko, none⟩ = some (.pointer (some p0)) := hc 0 (by simp)
  have k1 : w.cell? ⟨kb, ko + 1, none⟩ = some (.pointer (some p1)) := hc 1 (by simp)
  have hbl : b < w.heap.size := cell_lt c0
  have hkl : kb < w.heap.size := cell_lt k0
  have HSM := Lib.hid (cnt_small wf hl)
  have hs11 := stepsT_le t0
  have hs12 := stepsT_le t1
  have hl2 : (marksOf (.two 1 t0 t1)).length = (marksOf t0).length + (marksOf t1).length + 1 := by simp [marksOf]; omega
  have HTL := Lib.hid (fun (left : Lit → Bool) (x : Int) (h1 : lf left x = true) (h2 : 0 ≤ x) (h3 : x ≤ 209) (n : Int) => thn_le (t1 := t1) wf.2.1 (by omega) h1 h2 h3 n)
  have HEN := Lib.hid (fun n : Int => cnt_then (b := t1) wf.2.1 n 210 (by have := lenS_bd wf.2.1; omega))
  have hmm := @run_makeMap
    Try.prog
  have C3 := Lib.hid c3
  have K0 := Lib.hid k0
  have K1 := Lib.hid k1
  have IH0 := Lib.hid ih0
  have IH1 := Lib.hid ih1
  clear hk hps hpl hp hc ih0 ih1 c1 c2
  obtain ⟨S0, HS0⟩ : ∃ q, Hid (19 * (stepsT t0 : Int) = q) := ⟨_, rfl⟩
  obtain ⟨S1, HS1⟩ : ∃ q, Hid (19 * (stepsT t1 : Int) = q) := ⟨_, rfl⟩
  have HN := Lib.hid (show 19 * (stepsT (.two 1 t0 t1) : Int) = S0 + S1 by rw [← HS0.out, ← HS1.out]; simp only [stepsT]; omega)
  have hS : S0 + S1 ≤ 209 := by rw [← HS0.out, ← HS1.out]; omega
  have hS0 : S0 ≤ 209 := by rw [← HS0.out]; omega
  have e1 : (w.alloc (.map #[] 0)).heap.size = w.heap.size + 1 := by simp
  clear hs11 hs12 hl2 hl
  go_enter Try.func59, Try.ntmps59
  go_wp2_with (fail)
  refine kNewC (IH0.out p0 _ (HP.out.below ((Below.refl _ _).alloc (Nat.le_refl _) _))) ?_
  intro B D w1 hB hown hC hb1
  rw [HS0.out] at hC
  have HC := Lib.hid hC
  have HOut1 := Lib.hid (show OwnC w1 w.heap.size 0 (.map []) from OwnC.below (World.ownsMap_made _ _ _ _) hb1)
  have HW1 := Lib.hid (show Below w.heap.size w w1 from ((Below.refl _ _).alloc (Nat.le_refl _) _).trans (hb1.mono (by simp)))
  rw [e1] at hB
  clear hb1 hC c0 c3 k0 k1 e1
  have hsz1 : w.heap.size < w1.heap.size := HOut1.out.lt
  go_wp2_with (first
    | (at_range; refine wpList_range_own _ rfl _ 65 rfl 3 3 lawI Try.underlying65 _ B 210 D rfl hown ?_; intro w2 hrg2 hg2 hs2)
    | go_in)
  go_frame
  go_loopw [5] (fun _ wr => ∃ (left : Lit → Bool) (cnt : Nat) (Do : DataW Unit), wr.ranges Try.prog 3 (plainElem Try.prog 3) B w1.heap.size 210 D left cnt ∧ OwnC wr w.heap.size 210 Do ∧
      Cm Do (thn t0 t1 left) (S0 + S1) ∧ Below w.heap.size w wr) (fun _ wr => wr.rangeLeft B w1.heap.size)
  case atStart =>
    refine ⟨_, _, .map [], hrg2, (HOut1.out.kept hg2 (by simp)).mono (by decide), (Cm.empty _).congr fun n => ?_, HW1.out.grown hg2 HW1.out.size (fun j hj => by cases hj)⟩
    exact (goneN_none fun i hi => by rw [lf_has HC.out i hi]; simp).symm
  case round =>
    obtain ⟨wo, rfl⟩ : ∃ wo : World, wo = wr := ⟨_, rfl⟩
    obtain ⟨left, cnt, Do, hrg, hout, hcm, hb⟩ := hrel
    have HR := Lib.hid hrg
    have HO := Lib.hid hout
    have HM := Lib.hid hcm
    have HB := Lib.hid hb
    clear hrg hout hcm hb hrg2 hg2 hs2
    go_wp2_with (first
      | (at_next; refine wpList_next_ranges_ii _ rfl _ rfl 3 3 .i64 .i64 lawI Try.underlying3 Try.underlying3 B w1.heap.size 210 _ _ _ rfl HR.out ?_ ?_)
      | go_in)
    · intro hc0 hl0
      have HL0 := Lib.hid hl0
      clear hl0
      go_wp2
      go_ret
      have hcc : Cm Do (cntT (.two 1 t0 t1)) (19 * (stepsT (.two 1 t0 t1) : Int)) := by
        rw [HN.out]
        refine HM.out.congr fun n => ?_
        rw [HEN.out, thn, goneN_all (left := lf left) (fun i => HL0.out _)]
      exact ⟨_, Do, rfl, Nat.le_refl _, HO.out, hcc, HB.out⟩
    · intro x c w3 cnt1 hwx hwc hlx hat hrg1 hlt hg3 hs3 hen
      have hkx := HC.out.key_in (Maps.has_true_of_atKey hat)
      obtain ⟨hx0, hx1⟩ := hkx
      have HCX := Lib.hid (HC.out.at_c (hat _))
      have HR1 := Lib.hid hrg1
      have HB3 := Lib.hid (HB.out.grown hg3 HB.out.size (fun j hj => by cases hj; exact HW1.out.size))
      have HO3 := Lib.hid (show OwnC w3 w.heap.size 210 Do from HO.out.kept hg3 (fun e => by injection e; omega))
      have HLT := Lib.hid hlt
      have HLX := Lib.hid (show lf left x = true from hlx)
      clear hat hlx hg3 hrg1 hlt
      have c3 := keep HB3.out C3.out
      have k1 := keep HB3.out K1.out
      obtain ⟨left1, HL1⟩ : ∃ q, Hid ((fun z : Lit => left z && !z.sameKey (.int .i64 x)) = q) := ⟨_, rfl⟩
      rw [HL1.out] at HR1
      go_wp2_with (fail)
      refine kNewC (IH1.out p1 _ (HQ.out.below HB3.out)) ?_
      intro B2 D2 w4 hB2 hown2 hC2 hb4
      rw [HS1.out] at hC2
      have HC2 := Lib.hid hC2
      have HR4 := Lib.hid (ranges_below HR1.out hb4)
      have HO4 := Lib.hid (OwnC.below HO3.out hb4)
      have HB4 := Lib.hid (HB3.out.trans (hb4.mono HB3.out.size))
      have hrB : B < w3.heap.size := HR1.out.owns.lt
      have hrr : w1.heap.size < w3.heap.size := HR1.out.lt
      have hro : w.heap.size < w3.heap.size := HO3.out.lt
      have hB2l : B2 < w4.heap.size := hown2.lt
      clear hb4 hC2 c3 k1
      go_wp2_with (first
        | (at_range; refine wpList_range_own _ rfl _ 65 rfl 3 3 lawI Try.underlying65 _ B2 210 D2 rfl hown2 ?_; intro w5 hrg5 hg5 hs5)
        | go_in)
      go_frame
      go_loopw [7] (fun _ wr => ∃ (left2 : Lit → Bool) (cnt2 : Nat) (Do2 : DataW Unit), wr.ranges Try.prog 3 (plainElem Try.prog 3) B w1.heap.size 210 D left1 cnt1 ∧ wr.ranges Try.prog 3 (plainElem Try.prog 3) B2 w4.heap.size 210 D2 left2 cnt2 ∧
          OwnC wr w.heap.size 210 Do2 ∧ Cm Do2 (fun n => thn t0 t1 left n + (if lf left2 (n - x) then 0 else cntT t0 x * cntT t1 (n - x))) (S0 + S1) ∧ Below w.heap.size w wr) (fun _ wr => wr.rangeLeft B2 w4.heap.size)
      case atStart =>
        refine ⟨_, _, Do, HR4.out.kept hg5 (by simp) (by simp), hrg5, HO4.out.kept hg5 (by simp), HM.out.congr fun n => ?_, HB4.out.grown hg5 HB4.out.size (fun j hj => by cases hj)⟩
        cases hlf : lf (Maps.has D2) (n - x) with
        | true => rfl
        | false => rw [lf_has HC2.out _ hlf]; simp
      case round =>
        obtain ⟨wi, rfl⟩ : ∃ wi : World, wi = wr := ⟨_, rfl⟩
        obtain ⟨left2, cnt2, Do2, hrgA, hrgB, hout, hcm, hb⟩ := hrel
        have HRA := Lib.hid hrgA
        have HRB := Lib.hid hrgB
        have HOI := Lib.hid hout
        have HMI := Lib.hid hcm
        have HBI := Lib.hid hb
        clear hrgA hrgB hout hcm hb hrg5 hg5 hs5
        go_wp2_with (first
          | (at_next; refine wpList_next_ranges_ii _ rfl _ rfl 3 3 .i64 .i64 lawI Try.underlying3 Try.underlying3 B2 w4.heap.size 210 _ _ _ rfl HRB.out ?_ ?_)
          | go_in)
        · intro hc0 hl0
          have HL0 := Lib.hid hl0
          clear hl0
          go_wp2
          go_roundw
          case rel =>
            refine ⟨left1, cnt1, Do2, HRA.out, HOI.out, HMI.out.congr fun n => ?_, HBI.out⟩
            rw [show lf left2 (n - x) = false from HL0.out _, ← HL1.out]
            show _ = goneN (lf _) _ _
            rw [lf_strike, goneN_strike HLX.out hx0 (by omega)]
            simp [thn]
          case measure => rw [HRA.out.left_eq, HR.out.left_eq]; exact HLT.out
        · intro y d w6 cnt3 hwy hwd hly hat2 hrg6 hlt6 hg6 hs6 hen2
          have hky := HC2.out.key_in (Maps.has_true_of_atKey hat2)
          obtain ⟨hy0, hy1⟩ := hky
          have HDY := Lib.hid (HC2.out.at_c (hat2 _))
          have HR6 := Lib.hid hrg6
          have hB4s := HB4.out.size
          have HB6 := Lib.hid (HBI.out.grown hg6 HBI.out.size (fun j hj => by cases hj; exact hB4s))
          have hro4 : w.heap.size < w4.heap.size := HO4.out.lt
          have hrB4 : B < w4.heap.size := HR4.out.owns.lt
          have hrr4 : w1.heap.size < w4.heap.size := HR4.out.lt
          have HO6 := Lib.hid (show OwnC w6 w.heap.size 210 Do2 from HOI.out.kept hg6 (fun e => by injection e; omega))
          have HA6 := Lib.hid (HRA.out.kept hg6 (fun e => by injection e; omega) (fun e => by injection e; omega))
          have HLT6 := Lib.hid hlt6
          have HLY := Lib.hid (show lf left2 y = true from hly)
          clear hat2 hly hg6 hrg6 hlt6
          have hcd : 0 ≤ c * d ∧ c * d ≤ 64000000 := by
            have h1 := HTL.out left x HLX.out hx0 (by omega) (x + y)
            rw [show x + y - x = y by omega] at h1
            have h2 := HSM.out (x + y)
            rw [HCX.out, HDY.out, ← Int.natCast_mul]
            omega
          obtain ⟨hcd0, hcd1⟩ := hcd
          go_wp2_with (first
            | (at_lookup; refine wpList_lookup_own_int _ rfl _ _ 65 rfl 3 3 .i64 lawI Try.underlying65 Try.underlying3 (zeroI _) w.heap.size 210 Do2 rfl HO6.out _ _ rfl (keyOf_int_mk Try.underlying3 (a := x + y) (WalkArith.wf_i64 (by omega))) ?_
               intro e had hwe
               have HE := Lib.hid (HMI.out.at_c had)
               have hee : 0 ≤ e ∧ e + c * d ≤ 64000000 := by
                 have h1 := HTL.out left x HLX.out hx0 (by omega) (x + y)
                 have h2 := HSM.out (x + y)
                 have h3 := HE.out
                 rw [show x + y - x = y by omega] at h1 h3
                 rw [HLY.out, if_pos rfl] at h3
                 rw [h3, HCX.out, HDY.out, ← Int.natCast_mul]
                 omega
               obtain ⟨hee0, hee1⟩ := hee)
            | (at_mapUpdate; refine wpList_mapUpdate_own _ rfl _ _ _ 65 rfl 3 3 lawI Try.underlying65 _ w.heap.size 210 _ rfl HO6.out (by decide) _ _ _ rfl rfl (keyOf_int_mk Try.underlying3 (a := x + y) (WalkArith.wf_i64 (by omega))) _ [] (plainElem_int Try.underlying3 (by first | exact WalkArith.wf_i64 (by omega) | exact wrap64_wf _)) ?_; intro w7 hout7 hg7; go_frame)
            | go_in)
          go_roundw
          case rel =>
            have hcm7 : Cm (Do2.put (ky (x + y)) (.lit (.int .i64 (e + c * d)))) (fun n => thn t0 t1 left n + (if lf (fun z => left2 z && !z.sameKey (ky y)) (n - x) then 0 else cntT t0 x * cntT t1 (n - x))) (S0 + S1) := by
              have h3 := HE.out
              rw [show x + y - x = y by omega, HLY.out, if_pos rfl, Nat.add_zero] at h3
              rw [h3, HCX.out, HDY.out, ← Int.natCast_mul, ← Int.natCast_add]
              refine (HMI.out.put (x := x + y) (by omega) (by omega) _).congr fun n => ?_
              rw [lf_strike]
              by_cases en : n = x + y
              · subst en
                rw [if_pos rfl, show x + y - x = y by omega]; simp
              · rw [if_neg en]
                have : ¬ n - x = y := by omega
                simp [this]
            exact ⟨_, cnt3, _, HA6.out.kept hg7 (fun e => by injection e; omega) (fun e => by injection e; omega), HR6.out.kept hg7 (fun e => by injection e; omega) (fun e => by injection e; omega), OwnC.fit hout7 hcm7 hS, hcm7, HB6.out.grown hg7 HB6.out.size (fun j hj => by cases hj; exact Nat.le_refl _)⟩
          case measure =>
            have hrg7 := HR6.out.kept hg7 (fun e => by injection e; omega) (fun e => by injection e; omega)
            rw [hrg7.left_eq, HRB.out.left_eq]; exact HLT6.out

theorem counts_any (t : Tm) : Wf t → (marksOf t).length ≤ 11 → ∀ (a : Addr) (w : World), Pt TT w t a → Calls Try.prog 59 #[.pointer (some a)] w (NewC w t) := by
  induction t with
  | step l h => intro wf _; exact counts_step l h wf
  | one t0 h ih =>
    intro wf hl
    exact counts_one t0 h wf hl (ih wf.1 (by simp only [marksOf, List.length_append, List.length_singleton] at hl; omega))
  | two k t0 t1 ih0 ih1 =>
    intro wf hl
    have h0 := ih0 wf.2.1 (by simp only [marksOf, List.length_append, List.length_singleton] at hl; omega)
    have h1 := ih1 wf.2.2 (by simp only [marksOf, List.length_append, List.length_singleton] at hl; omega)
    rcases wf.1 with rfl | rfl
    · exact counts_then t0 t1 wf hl h0 h1
    · exact counts_both t0 t1 wf hl h0 h1

end Go.Proofs.Ytookhelfbnhadaa
