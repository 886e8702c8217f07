/- Trees of parts by their kids; (*part).marks. -/
import Derived.Test.YtookhelfbnhadaaM9
namespace Go.Proofs.Ytookhelfbnhadaa
open Go.RowKit

def kidsT : Tm → List Tm
  | .step _ _ => []
  | .two _ a b => [a, b]
  | .one a _ => [a]
theorem kids_ind {P : Tm → Prop} (h : ∀ t, (∀ k ∈ kidsT t, P k) → P t) : ∀ t, P t := by
  intro t
  induction t with
  | step l hh => exact h _ (by simp [kidsT])
  | two k a b iha ihb => exact h _ (by simp [kidsT, iha, ihb])
  | one a hh ih => exact h _ (by simp [kidsT, ih])
theorem kidsT_len (t : Tm) : (kidsT t).length ≤ 2 := by cases t <;> simp [kidsT]
theorem marksOf_kids (t : Tm) : marksOf t = allMarks (kidsT t) ++ [markT t] := by
  cases t <;> simp [marksOf, allMarks, kidsT, markT]
theorem Pt.open {D : Nat → Prop} {w : World} {t : Tm} {a : Addr} (hp : Pt D w t a) : ∃ b off A c ps, a = ⟨b, off, none⟩ ∧ D b ∧ w.cell? ⟨b, off, none⟩ = some (.int .i64 (markT t).1) ∧ w.cell? ⟨b, off + 1, none⟩ = some (.int .i64 (markT t).2.1) ∧ w.cell? ⟨b, off + 2, none⟩ = some (.int .i64 (markT t).2.2) ∧ w.cell? ⟨b, off + 3, none⟩ = some (.slice A ps.length c) ∧ PtrsAt D w A ps.length ps ∧ ps.length = (kidsT t).length ∧ ∀ j, j < ps.length → Pt D w ((kidsT t).getD j dflt) (ps.getD j a0) := by
  cases t with
  | step l h =>
    obtain ⟨b, off, A, c, e, hd, h0, h1, h2, h3, hr⟩ := hp
    exact ⟨b, off, A, c, [], e, hd, h0, h1, h2, h3, hr, rfl, fun j hj => by simp at hj⟩
  | two k x y =>
    obtain ⟨ax, ay, ⟨b, off, A, c, e, hd, h0, h1, h2, h3, hr⟩, hx, hy⟩ := hp
    refine ⟨b, off, A, c, [ax, ay], e, hd, h0, h1, h2, h3, hr, rfl, fun j hj => ?_⟩
    match j, hj with
    | 0, _ => exact hx
    | 1, _ => exact hy
  | one x h =>
    obtain ⟨ax, ⟨b, off, A, c, e, hd, h0, h1, h2, h3, hr⟩, hx⟩ := hp
    refine ⟨b, off, A, c, [ax], e, hd, h0, h1, h2, h3, hr, rfl, fun j hj => ?_⟩
    match j, hj with
    | 0, _ => exact hx
theorem allMarks_take_succ {st : List Tm} {k : Nat} (h : k < st.length) : allMarks (st.take (k + 1)) = allMarks (st.take k) ++ marksOf (st.getD k dflt) := by
  rw [List.take_succ_eq_append_getElem h, allMarks_append, allMarks_one]
  simp [List.getD, h]
theorem allMarks_take_le (st : List Tm) (k : Nat) : (allMarks (st.take k)).length ≤ (allMarks st).length := by
  have h : allMarks st = allMarks (st.take k) ++ allMarks (st.drop k) := by rw [← allMarks_append, List.take_append_drop]
  rw [h, List.length_append]; omega

set_option maxRecDepth 100000 in
set_option maxHeartbeats 2000000 in
theorem marks_any (t : Tm) : (marksOf t).length ≤ 1000 → ∀ (a : Addr) (w : World), Pt TT w t a → Calls Try.prog 54 #[.pointer (some a)] w (NewM w (marksOf t)) := by
  induction t using kids_ind with
  | h t ih =>
  intro hl a w hp
  obtain ⟨b, off, A, c, ps, rfl, _, c0, c1, c2, c3, hps, hpl, hk⟩ := hp.open
  obtain ⟨m, HM⟩ : ∃ q, Hid (markT t = q) := ⟨_, rfl⟩
  rw [HM.out] at c0 c1 c2
  obtain ⟨m0, m1, m2⟩ := m
  simp only at c0 c1 c2
  have HK := Lib.hid hk
  have hp2 : ps.length ≤ 2 := by rw [hpl]; exact kidsT_len t
  have HPL := Lib.hid hpl
  have HT := Lib.hid (marksOf_kids t)
  have hlk : (allMarks (kidsT t)).length ≤ 999 := by rw [marksOf_kids, List.length_append, List.length_singleton] at hl; omega
  have IH := Lib.hid (fun k (hk : k < (kidsT t).length) => ih ((kidsT t).getD k dflt) (by simp [List.getD, hk]))
  clear ih hk hpl hp hl
  go_enter Try.func54, Try.ntmps54
  go_wp2
  go_loopw [3, 11] (fun o i wr => ∃ (k : Nat) (Av : Option Addr) (cv : Nat) (ys : List Mk), k ≤ ps.length ∧ i = .int .i64 k ∧ ys = allMarks ((kidsT t).take k) ∧ o = .slice Av ys.length cv ∧ OwnM wr w.heap.size Av ys.length cv ys ∧ Below w.heap.size w wr) (fun _ i _ => ps.length - (intOf i).toNat)
  case atStart => exact ⟨0, none, 0, [], Nat.zero_le _, rfl, by simp [allMarks], rfl, OwnM.nil _ _, Below.refl _ _⟩
  case round =>
    obtain ⟨wo, rfl⟩ : ∃ wo : World, wo = wr := ⟨_, rfl⟩
    obtain ⟨k, Av, cv, ys, hk, rfl, hys, rfl, hown, hb⟩ := hrel
    have HO := Lib.hid hown
    have HB := Lib.hid hb
    have HYS := Lib.hid hys
    clear hown hb hys
    by_cases hlt : k < ps.length
    · have HKL := Lib.hid (show k < (kidsT t).length by rw [← HPL.out]; exact hlt)
      obtain ⟨kb, ko, rfl, _, hc⟩ := (hps.below HB.out).cells (by omega)
      have k0 := hc k hlt
      have HPK := Lib.hid ((HK.out k hlt).below HB.out)
      have hs := Lib.hid (allMarks_take_succ HKL.out)
      have hle := allMarks_take_le (kidsT t) (k + 1)
      rw [hs.out, List.length_append] at hle
      obtain ⟨ks, HKS⟩ : ∃ q, Hid ((kidsT t).getD k dflt = q) := ⟨_, rfl⟩
      have IHK := Lib.hid (IH.out k HKL.out)
      rw [HKS.out] at HPK hs IHK hle
      obtain ⟨pk, HPKN⟩ : ∃ q, Hid (ps.getD k a0 = q) := ⟨_, rfl⟩
      rw [HPKN.out] at k0 HPK
      rw [← HYS.out] at hle
      have hpos := marks_pos ks
      clear hc
      go_wp2_with (fail)
      refine kNewM (IHK.out (by omega) pk _ HPK.out) ?_
      intro A' c' w1 hown1 hb1
      obtain ⟨ml, HML⟩ : ∃ q, Hid ((marksOf ks).length = q) := ⟨_, rfl⟩
      have HM1 := Lib.hid (OwnM.at_ hown1)
      rw [HML.out] at HM1 hpos hle ⊢
      obtain ⟨g1, o1, rfl⟩ := HM1.out.some hpos
      have HOW := Lib.hid (own_below HO.out hb1)
      have HB1 := Lib.hid (HB.out.trans (hb1.mono HB.out.size))
      clear hown1 hb1
      go_wp2_with (at_builtin; refine wpl_app rowM rfl _ _ (by rfl) w.heap.size _ ys.length (v3 ys) (by rfl) HOW.out ⟨g1, o1, none⟩ ml c' (v3 (marksOf ks)) (by rfl) (by rw [v3_len, HML.out]) HM1.out.news (v3_one _) hpos (by omega) HB1.out.size ?_; intro g' cap' wB hownB hgrow hat hltB)
      go_wp2
      go_roundw
      case rel =>
        have hl2 : (ys ++ marksOf ks).length = ys.length + ml := by rw [List.length_append, HML.out]
        refine ⟨k + 1, some ⟨g', 0, none⟩, cap', ys ++ marksOf ks, by omega, by go_num, by rw [hs.out, HYS.out], by rw [hl2], ?_, HB1.out.grown hgrow HB1.out.size (fun j hj => (HOW.out.lt j hj).1)⟩
        show World.ownsRow _ _ _ _ _ _ (v3 _)
        rw [v3_append, hl2]; exact hownB
      case measure => simp [intOf]; omega
    · obtain rfl : k = ps.length := by omega
      have hys : ys = allMarks (kidsT t) := by rw [HYS.out, List.take_of_length_le (by rw [HPL.out]; exact Nat.le_refl _)]
      have HF := Lib.hid (show marksOf t = ys ++ [(m0, m1, m2)] by rw [HT.out, hys, HM.out])
      have hle : ys.length ≤ 999 := by rw [hys]; exact hlk
      replace c0 := keep HB.out c0
      replace c1 := keep HB.out c1
      replace c2 := keep HB.out c2
      clear hys
      go_wp2_with (at_builtin; refine wpl_app rowM rfl _ _ (by rfl) w.heap.size _ ys.length (v3 ys) (by rfl) (own_below HO.out (by repeat (first | exact Below.refl _ _ | refine Below.alloc ?_ (by simp) _ | refine Below.setCell ?_ (by simp) _ | apply Below.drew))) ⟨wo.heap.size, 0, none⟩ 1 1 (v3 [(m0, m1, m2)]) (by rfl) rfl (cell3_at (by simp) _ _) (v3_one _) (by decide) (by omega) (by have := HB.out.size; simp; omega) ?_; intro g' cap' wB hownB hgrow hat hltB)
      go_wp2
      go_ret
      have hl2 : (marksOf t).length = ys.length + 1 := by rw [HF.out]; simp
      refine ⟨some ⟨g', 0, none⟩, cap', by rw [hl2]; rfl, ?_, own_app HB.out (by repeat (first | exact Below.refl _ _ | refine Below.alloc ?_ (by simp) _)) HO.out hgrow HB.out.size⟩
      show World.ownsRow _ _ _ _ _ _ (v3 _)
      rw [hl2, HF.out, v3_append]; exact hownB

end Go.Proofs.Ytookhelfbnhadaa
