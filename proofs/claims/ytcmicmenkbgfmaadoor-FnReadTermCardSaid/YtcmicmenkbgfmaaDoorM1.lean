/- Terms: what a mark may be, and the machine of parts; (Mark).parts and l11Ok. -/
import Derived.Test.YtcmicmenkbgfmaaDoorTMark
namespace Go.Proofs.YtcmicmenkbgfmaaDoor
open Go.RowKit

/-- A mark: kind, low, high. -/
abbrev Mk := Int × Int × Int
def isStep (m : Mk) : Prop := m.1 = 0 ∧ 0 ≤ m.2.1 ∧ m.2.1 ≤ m.2.2 ∧ 0 ≤ m.2.2 ∧ m.2.2 ≤ 19
def isTwo (m : Mk) : Prop := (m.1 = 1 ∨ m.1 = 2) ∧ m.2.1 = 0 ∧ m.2.2 = 0
def isOne (m : Mk) : Prop := m.1 = 3 ∧ m.2.1 = 0 ∧ 0 ≤ m.2.2 ∧ m.2.2 ≤ 19
instance (m : Mk) : Decidable (isStep m) := by unfold isStep; infer_instance
instance (m : Mk) : Decidable (isTwo m) := by unfold isTwo; infer_instance
instance (m : Mk) : Decidable (isOne m) := by unfold isOne; infer_instance
/-- How many parts a mark puts together, -1 for none. -/
def arity (m : Mk) : Int := if isStep m then 0 else if isTwo m then 2 else if isOne m then 1 else -1
def MOk (m : Mk) : Prop := isStep m ∨ isTwo m ∨ isOne m

theorem arity_step {m : Mk} (h : isStep m) : arity m = 0 := by rw [arity, if_pos h]
theorem not_step_of {m : Mk} (h : m.1 ≠ 0) : ¬ isStep m := fun hh => h hh.1
theorem arity_two {m : Mk} (h : isTwo m) : arity m = 2 := by
  rw [arity, if_neg (not_step_of (by rcases h.1 with h | h <;> omega)), if_pos h]
theorem arity_one {m : Mk} (h : isOne m) : arity m = 1 := by
  rw [arity, if_neg (not_step_of (by have := h.1; omega)), if_neg (fun hh => by have := h.1; rcases hh.1 with h | h <;> omega), if_pos h]
theorem arity_bad {m : Mk} (h : ¬ MOk m) : arity m = -1 := by
  rw [arity, if_neg (fun hh => h (.inl hh)), if_neg (fun hh => h (.inr (.inl hh))), if_neg (fun hh => h (.inr (.inr hh)))]
theorem arity_nonneg {m : Mk} : 0 ≤ arity m ↔ MOk m := by
  by_cases h : MOk m
  · rcases id h with h1 | h1 | h1
    · rw [arity_step h1]; simp [h]
    · rw [arity_two h1]; simp [h]
    · rw [arity_one h1]; simp [h]
  · rw [arity_bad h]; simp [h]
theorem arity_bd (m : Mk) : -1 ≤ arity m ∧ arity m ≤ 2 := by unfold arity; repeat' split <;> omega

set_option maxHeartbeats 1000000 in
theorem parts_any (x : Mk) (w : World) :
    Calls Tryd.prog 35 #[.agg #[.int .i64 x.1, .int .i64 x.2.1, .int .i64 x.2.2]] w (Bl w (.int .i64 (arity x))) := by
  obtain ⟨k, l, h⟩ := x
  have hB0 : Below w.heap.size w (w.alloc (.cells #[.int .i64 k, .int .i64 l, .int .i64 h] 54)) := (Below.refl w.heap.size w).alloc (Nat.le_refl _) _
  have hs : isStep (k, l, h) ↔ (k = 0 ∧ InR h 0 19 ∧ InR l 0 h) := by unfold isStep InR; simp only; omega
  have ht : isTwo (k, l, h) ↔ ((k = 1 ∨ k = 2) ∧ l = 0 ∧ h = 0) := by unfold isTwo; simp only
  have ho : isOne (k, l, h) ↔ (k = 3 ∧ l = 0 ∧ InR h 0 19) := by unfold isOne InR; simp only
  have hb : ¬ MOk (k, l, h) ↔ ¬ ((k = 0 ∧ InR h 0 19 ∧ InR l 0 h) ∨ ((k = 1 ∨ k = 2) ∧ l = 0 ∧ h = 0) ∨ (k = 3 ∧ l = 0 ∧ InR h 0 19)) := by unfold MOk; rw [hs, ht, ho]
  have HS := Lib.hid hs
  have HT := Lib.hid ht
  have HO := Lib.hid ho
  have HB := Lib.hid hb
  clear hs ht ho hb
  by_cases k0 : k = 0
  · subst k0
    go_enter Tryd.func35, Tryd.ntmps35
    go_wp2_with (fail)
    refine kS (in_any h 0 19 _) ?_ ?_ <;> intro hh
    · go_wp2_with (fail)
      refine kS (in_any l 0 h _) ?_ ?_ <;> intro hl
      · go_wp2
        go_ret
        exact ⟨ret_i (arity_step (HS.out.2 ⟨by trivial, hh.out, hl.out⟩)).symm, hB0⟩
      · go_wp2
        go_ret
        exact ⟨ret_i (arity_bad (HB.out.2 (by have := hl.out; intro hx; rcases hx with hx | hx | hx; exact this hx.2.2; omega; omega))).symm, hB0⟩
    · go_wp2
      go_ret
      exact ⟨ret_i (arity_bad (HB.out.2 (by have := hh.out; intro hx; rcases hx with hx | hx | hx; exact this hx.2.1; omega; omega))).symm, hB0⟩
  · have q0 : (k == 0) = false := by simpa using k0
    by_cases k12 : k = 1 ∨ k = 2
    · by_cases l0 : l = 0
      · by_cases h0 : h = 0
        · have ha := Lib.hid (arity_two (HT.out.2 ⟨k12, l0, h0⟩))
          subst l0 h0
          rcases k12 with rfl | rfl
          all_goals
            go_enter Tryd.func35, Tryd.ntmps35
            go_wp2
            go_ret
            exact ⟨ret_i ha.out.symm, hB0⟩
        · have ha := Lib.hid (arity_bad (HB.out.2 (by intro hx; rcases hx with hx | hx | hx <;> omega)))
          have q1 : (h == 0) = false := by simpa using h0
          subst l0
          rcases k12 with rfl | rfl
          all_goals
            go_enter Tryd.func35, Tryd.ntmps35
            go_wp2
            go_ret
            exact ⟨ret_i ha.out.symm, hB0⟩
      · have ha := Lib.hid (arity_bad (HB.out.2 (by intro hx; rcases hx with hx | hx | hx <;> omega)))
        have q1 : (l == 0) = false := by simpa using l0
        rcases k12 with rfl | rfl
        all_goals
          go_enter Tryd.func35, Tryd.ntmps35
          go_wp2
          go_ret
          exact ⟨ret_i ha.out.symm, hB0⟩
    · have q1 : (k == 1) = false := by simp; omega
      have q2 : (k == 2) = false := by simp; omega
      by_cases k3 : k = 3
      · subst k3
        by_cases l0 : l = 0
        · subst l0
          go_enter Tryd.func35, Tryd.ntmps35
          go_wp2_with (fail)
          refine kS (in_any h 0 19 _) ?_ ?_ <;> intro hh
          · go_wp2
            go_ret
            exact ⟨ret_i (arity_one (HO.out.2 ⟨by trivial, by trivial, hh.out⟩)).symm, hB0⟩
          · go_wp2
            go_ret
            exact ⟨ret_i (arity_bad (HB.out.2 (by have := hh.out; intro hx; rcases hx with hx | hx | hx; omega; omega; exact this hx.2.2))).symm, hB0⟩
        · have ha := Lib.hid (arity_bad (HB.out.2 (by intro hx; rcases hx with hx | hx | hx <;> omega)))
          have q3 : (l == 0) = false := by simpa using l0
          go_enter Tryd.func35, Tryd.ntmps35
          go_wp2
          go_ret
          exact ⟨ret_i ha.out.symm, hB0⟩
      · have ha := Lib.hid (arity_bad (HB.out.2 (by intro hx; rcases hx with hx | hx | hx <;> omega)))
        have q3 : (k == 3) = false := by simpa using k3
        go_enter Tryd.func35, Tryd.ntmps35
        go_wp2
        go_ret
        exact ⟨ret_i ha.out.symm, hB0⟩

set_option maxHeartbeats 1000000 in
theorem l11Ok_any (x : Mk) (w : World) :
    Calls Tryd.prog 39 #[.agg #[.int .i64 x.1, .int .i64 x.2.1, .int .i64 x.2.2]] w (Bl w (.bool (B (MOk x)))) := by
  obtain ⟨k, l, h⟩ := x
  have hB0 : Below w.heap.size w (w.alloc (.cells #[.int .i64 k, .int .i64 l, .int .i64 h] 54)) := (Below.refl w.heap.size w).alloc (Nat.le_refl _) _
  have hm : MOk (k, l, h) ↔ ((k = 0 ∧ InR l 0 h ∧ h ≤ 19) ∨ ((k = 1 ∨ k = 2) ∧ l = 0 ∧ h = 0) ∨ (k = 3 ∧ l = 0 ∧ InR h 0 19)) := by unfold MOk isStep isTwo isOne InR; simp only; omega
  have HM := Lib.hid hm
  clear hm
  by_cases k0 : k = 0
  · subst k0
    go_enter Tryd.func39, Tryd.ntmps39
    go_wp2_with (fail)
    refine kS (l1In_any l 0 h _) ?_ ?_ <;> intro hh
    · by_cases h19 : h ≤ 19
      · go_wp2
        go_ret
        refine ⟨ret_b ?_, hB0⟩
        rw [B_true (HM.out.2 (.inl ⟨by trivial, hh.out, h19⟩))]
      · go_wp2
        go_ret
        refine ⟨ret_b ?_, hB0⟩
        rw [B_false (fun hx => by rcases HM.out.1 hx with hx | hx | hx <;> omega)]; simpa using h19
    · go_wp2
      go_ret
      exact ⟨ret_b (B_false (fun hx => by rcases HM.out.1 hx with hx | hx | hx; exact hh.out hx.2.1; omega; omega)).symm, hB0⟩
  · have q0 : (k == 0) = false := by simpa using k0
    by_cases k3 : k = 3
    · subst k3
      by_cases l0 : l = 0
      · subst l0
        go_enter Tryd.func39, Tryd.ntmps39
        go_wp2_with (fail)
        refine kS (l1In_any h 0 19 _) ?_ ?_ <;> intro hh
        · go_wp2
          go_ret
          exact ⟨ret_b (B_true (HM.out.2 (.inr (.inr ⟨by trivial, by trivial, hh.out⟩)))).symm, hB0⟩
        · go_wp2
          go_ret
          exact ⟨ret_b (B_false (fun hx => by rcases HM.out.1 hx with hx | hx | hx; omega; omega; exact hh.out hx.2.2)).symm, hB0⟩
      · have q1 : (l == 0) = false := by simpa using l0
        have hb := Lib.hid (B_false (fun hx : MOk (3, l, h) => by rcases HM.out.1 hx with hx | hx | hx <;> omega))
        clear l0
        go_enter Tryd.func39, Tryd.ntmps39
        go_wp2
        go_ret
        exact ⟨ret_b hb.out.symm, hB0⟩
    · have q3 : (k == 3) = false := by simpa using k3
      by_cases k12 : k = 1 ∨ k = 2
      · by_cases l0 : l = 0
        · by_cases h0 : h = 0
          · have ha := Lib.hid (B_true (HM.out.2 (.inr (.inl ⟨k12, l0, h0⟩))))
            subst l0 h0
            rcases k12 with rfl | rfl
            all_goals
              go_enter Tryd.func39, Tryd.ntmps39
              go_wp2
              go_ret
              exact ⟨ret_b ha.out.symm, hB0⟩
          · have ha := Lib.hid (B_false (fun hx : MOk (k, l, h) => by rcases HM.out.1 hx with hx | hx | hx <;> omega))
            have q1 : (h == 0) = false := by simpa using h0
            subst l0
            rcases k12 with rfl | rfl
            all_goals
              clear h0
              go_enter Tryd.func39, Tryd.ntmps39
              go_wp2
              go_ret
              exact ⟨ret_b ha.out.symm, hB0⟩
        · have ha := Lib.hid (B_false (fun hx : MOk (k, l, h) => by rcases HM.out.1 hx with hx | hx | hx <;> omega))
          have q1 : (l == 0) = false := by simpa using l0
          rcases k12 with rfl | rfl
          all_goals
            clear l0
            go_enter Tryd.func39, Tryd.ntmps39
            go_wp2
            go_ret
            exact ⟨ret_b ha.out.symm, hB0⟩
      · have q1 : (k == 1) = false := by simp; omega
        have q2 : (k == 2) = false := by simp; omega
        have ha := Lib.hid (B_false (fun hx : MOk (k, l, h) => by rcases HM.out.1 hx with hx | hx | hx <;> omega))
        clear k12 k0 k3
        go_enter Tryd.func39, Tryd.ntmps39
        go_wp2
        go_ret
        exact ⟨ret_b ha.out.symm, hB0⟩

end Go.Proofs.YtcmicmenkbgfmaaDoor
