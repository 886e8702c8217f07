/- The laws' helpers sameMarks, sameInts. -/
import Derived.Test.YtcmicmenkbgfmaaDoorM3
namespace Go.Proofs.YtcmicmenkbgfmaaDoor
open Go.RowKit

/-- Equal rows of marks. -/
def EqMks (xs ys : List Mk) : Prop := xs = ys
set_option maxHeartbeats 1000000 in
theorem sameMarks_any (A A' : Option Addr) (n c n' c' : Nat) (xs ys : List Mk) (w : World) (h : MarksAt w A n xs) (h' : MarksAt w A' n' ys) (hn : n ≤ 1048576) :
   Calls Tryd.prog 13 #[.slice A n c, .slice A' n' c'] w (Qt w (.bool (B (EqMks xs ys)))) := by
  by_cases hnn : n = n'
  · subst hnn
    have HL := Lib.hid h.len
    have HL' := Lib.hid h'.len
    go_enter Tryd.func13, Tryd.ntmps13
    go_wp2
    go_loopw [5] (fun i wr => ∃ k m : Nat, k ≤ n ∧ i = .int .i64 k ∧ wr = w.drewN m ∧ ∀ j, j < k → xs.getD j (0, 0, 0) = ys.getD j (0, 0, 0)) (fun i _ => n - (intOf i).toNat)
    case atStart => exact ⟨0, 0, Nat.zero_le _, rfl, rfl, fun j hj => by omega⟩
    case round =>
      obtain ⟨k, m, hk, rfl, rfl, hnf⟩ := hrel
      have HN := Lib.hid hnf
      clear hnf
      by_cases hlt : k < n
      · obtain ⟨b, off, rfl, c0, c1, c2⟩ := h.at_ hlt
        obtain ⟨b', off', rfl, d0, d1, d2⟩ := h'.at_ hlt
        obtain ⟨x, HX⟩ : ∃ q, Hid (xs.getD k (0, 0, 0) = q) := ⟨_, rfl⟩
        obtain ⟨y, HY⟩ : ∃ q, Hid (ys.getD k (0, 0, 0) = q) := ⟨_, rfl⟩
        rw [HX.out] at c0 c1 c2
        rw [HY.out] at d0 d1 d2
        obtain ⟨x0, x1, x2⟩ := x
        obtain ⟨y0, y1, y2⟩ := y
        simp only at c0 c1 c2 d0 d1 d2
        by_cases hxy : x0 = y0 ∧ x1 = y1 ∧ x2 = y2
        · obtain ⟨rfl, rfl, rfl⟩ := hxy
          go_wp2
          go_quiet (fail)
          go_wp2
          go_roundw
          case rel =>
            refine ⟨k + 1, _, by omega, by go_num, rfl, fun j hj => ?_⟩
            rcases Nat.lt_or_ge j k with h1 | h1
            · exact HN.out j h1
            · obtain rfl : j = k := by omega
              rw [HX.out, HY.out]
          case measure => simp [intOf]; omega
        · have HNE := Lib.hid (show ¬ EqMks xs ys from fun e => hxy (by
            have h1 : xs = ys := e
            have h2 := HX.out
            rw [h1, HY.out] at h2
            simp only [Prod.mk.injEq] at h2
            exact ⟨h2.1.symm, h2.2.1.symm, h2.2.2.symm⟩))
          have hq : (x0 == y0 && (x1 == y1 && x2 == y2)) = false := by
            rw [Bool.eq_false_iff]
            intro h
            simp only [Bool.and_eq_true, beq_iff_eq] at h
            exact hxy h
          by_cases q0 : x0 = y0
          · by_cases q1 : x1 = y1
            · have q2 : ¬ x2 = y2 := fun q2 => hxy ⟨q0, q1, q2⟩
              have b2 : (x2 == y2) = false := by simpa using q2
              subst q0 q1
              clear hxy hq q2
              go_wp2
              go_quiet (fail)
              go_wp2
              go_ret
              exact ⟨ret_b (B_false HNE.out).symm, _, dd _ _ _⟩
            · have b1 : (x1 == y1) = false := by simpa using q1
              subst q0
              clear hxy hq q1
              go_wp2
              go_quiet (fail)
              go_wp2
              go_ret
              exact ⟨ret_b (B_false HNE.out).symm, _, dd _ _ _⟩
          · have b0 : (x0 == y0) = false := by simpa using q0
            clear hxy hq q0
            go_wp2
            go_quiet (fail)
            go_wp2
            go_ret
            exact ⟨ret_b (B_false HNE.out).symm, _, dd _ _ _⟩
      · go_wp2
        go_ret
        refine ⟨ret_b ?_, m, rfl⟩
        rw [B_true]
        obtain rfl : k = n := by omega
        exact eqUptoMarksAt HL.out HL'.out HN.out
  · have hne : ((n : Int) != (n' : Int)) = true := by simp; omega
    have HL := Lib.hid h.len
    have HL' := Lib.hid h'.len
    go_enter Tryd.func13, Tryd.ntmps13
    go_wp2
    go_ret
    refine ⟨ret_b ?_, 0, rfl⟩
    rw [B_false]
    rintro rfl
    exact hnn (HL.out.symm.trans HL'.out)


end Go.Proofs.YtcmicmenkbgfmaaDoor
