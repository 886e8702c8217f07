/- Terms: sizes and openings of marks; impl.TermOk, both StepsOf. -/
import Derived.Test.YtookhelfbnhadaaM4
import Derived.Lib.SmallJoins
namespace Go.Proofs.Ytookhelfbnhadaa
open Go.RowKit



theorem iTermOk_any (A : Option Addr) (n c : Nat) (xs : List Mk) (w : World) (h : MarksAt w A n xs) (hn : n ≤ 1048576) :
    Calls Try.prog 14 #[.slice A n c] w (Bl w (.bool (B (TOk xs)))) := by
  go_enter Try.func14, Try.ntmps14
  go_wp2_with (fail)
  refine kBuild (iBuild_any A n c xs _ h hn) ?_ ?_
  · intro w1 hx hb1
    go_wp2
    go_ret
    exact ⟨ret_b (B_false hx.out).symm, hb1⟩
  · intro w1 x a hx hb1 hp
    go_wp2
    go_ret
    exact ⟨ret_b (B_true ⟨x, hx.out⟩).symm, hb1⟩

/-- How many marks are steps. -/
def stepsIn (xs : List Mk) : Nat := xs.countP fun m => m.1 == 0
theorem stepsIn_take_succ {xs : List Mk} {k : Nat} (hk : k < xs.length) : stepsIn (xs.take (k + 1)) = stepsIn (xs.take k) + if (xs.getD k (0, 0, 0)).1 = 0 then 1 else 0 := by
  rw [List.take_succ_eq_append_getElem hk, stepsIn, List.countP_append]
  simp [List.getD, hk, stepsIn, List.countP_cons]
theorem stepsIn_le (xs : List Mk) : stepsIn xs ≤ xs.length := List.countP_le_length
theorem TOk.len {xs : List Mk} (h : TOk xs) : xs.length ≤ 11 := by obtain ⟨x, hx⟩ := h; exact hx.2.2
noncomputable def StepsV (xs : List Mk) : Int := @ite _ (TOk xs) (Classical.propDecidable _) (stepsIn xs : Int) (-1)
theorem stepsV_pos {xs : List Mk} (h : TOk xs) : StepsV xs = (stepsIn xs : Int) := by unfold StepsV; rw [if_pos h]
theorem stepsV_neg {xs : List Mk} (h : ¬ TOk xs) : StepsV xs = -1 := by unfold StepsV; rw [if_neg h]

set_option maxRecDepth 100000 in
set_option maxHeartbeats 1000000 in
theorem sStepsOf_any (A : Option Addr) (n c : Nat) (xs : List Mk) (w : World) (h : MarksAt w A n xs) (hn : n ≤ 1048576) :
    Calls Try.prog 19 #[.slice A n c] w (Bl w (.int .i64 (StepsV xs))) := by
  have HL := Lib.hid h.len
  go_enter Try.func19, Try.ntmps19
  go_wp2_with (fail)
  refine kB (sTermOk_any A n c xs _ h hn) ?_ ?_
  rotate_left
  · intro w1 hp hb1
    go_wp2
    go_ret
    exact ⟨ret_i (stepsV_neg hp.out).symm, hb1⟩
  · intro w1 hp hb1
    have HB1 := Lib.hid hb1
    have h11 : n ≤ 11 := by have := hp.out.len; rwa [HL.out] at this
    clear hb1
    go_wp2
    go_loopw [3, 4] (fun s i wr => ∃ k : Nat, k ≤ n ∧ i = .int .i64 k ∧ s = .int .i64 (stepsIn (xs.take k) : Int) ∧ Below w1.heap.size w1 wr) (fun _ i _ => n - (intOf i).toNat)
    case atStart => exact ⟨0, Nat.zero_le _, rfl, rfl, Below.refl _ _⟩
    case round =>
      obtain ⟨wo, rfl⟩ : ∃ wo : World, wo = wr := ⟨_, rfl⟩
      obtain ⟨k, hk, rfl, rfl, hb⟩ := hrel
      have HB := Lib.hid hb
      clear hb
      by_cases hlt : k < n
      · obtain ⟨b, off, rfl, c0, c1, c2⟩ := ((h.below HB1.out).below HB.out).at_ hlt
        have hs := Lib.hid (stepsIn_take_succ (xs := xs) (k := k) (by rw [HL.out]; exact hlt))
        have hle := stepsIn_le (xs.take k)
        rw [List.length_take] at hle
        obtain ⟨s, HS⟩ : ∃ q, Hid (stepsIn (xs.take k) = q) := ⟨_, rfl⟩
        rw [HS.out] at hle ⊢
        obtain ⟨x, HX⟩ : ∃ q, Hid (xs.getD k (0, 0, 0) = q) := ⟨_, rfl⟩
        rw [HX.out] at c0 c1 c2
        obtain ⟨x0, x1, x2⟩ := x
        simp only at c0 c1 c2
        by_cases h0 : x0 = 0
        · subst h0
          go_wp2
          go_roundw
          case rel => exact ⟨k + 1, by omega, by go_num, by rw [hs.out, HX.out, HS.out]; go_num, HB.out⟩
          case measure => simp [intOf]; omega
        · have q0 : (x0 == 0) = false := by simpa using h0
          have HN := Lib.hid h0
          clear h0
          go_wp2
          go_roundw
          case rel => exact ⟨k + 1, by omega, by go_num, by rw [hs.out, HX.out, HS.out]; simp [HN.out], HB.out⟩
          case measure => simp [intOf]; omega
      · obtain rfl : k = n := by omega
        go_wp2
        go_ret
        exact ⟨ret_i (by rw [stepsV_pos hp.out, List.take_of_length_le (by rw [HL.out]; omega)]), HB1.out.trans (HB.out.mono HB1.out.size)⟩

set_option maxRecDepth 100000 in
set_option maxHeartbeats 1000000 in
theorem iStepsOf_any (A : Option Addr) (n c : Nat) (xs : List Mk) (w : World) (h : MarksAt w A n xs) (hn : n ≤ 1048576) :
    Calls Try.prog 18 #[.slice A n c] w (Bl w (.int .i64 (StepsV xs))) := by
  have HL := Lib.hid h.len
  go_enter Try.func18, Try.ntmps18
  go_wp2_with (fail)
  refine kB (iTermOk_any A n c xs _ h hn) ?_ ?_
  rotate_left
  · intro w1 hp hb1
    go_wp2
    go_ret
    exact ⟨ret_i (stepsV_neg hp.out).symm, hb1⟩
  · intro w1 hp hb1
    have HB1 := Lib.hid hb1
    have h11 : n ≤ 11 := by have := hp.out.len; rwa [HL.out] at this
    clear hb1
    go_wp2
    go_loopw [3, 11] (fun s i wr => ∃ k : Nat, k ≤ n ∧ i = .int .i64 k ∧ s = .int .i64 (stepsIn (xs.take k) : Int) ∧ Below w1.heap.size w1 wr) (fun _ i _ => n - (intOf i).toNat)
    case atStart => exact ⟨0, Nat.zero_le _, rfl, rfl, Below.refl _ _⟩
    case round =>
      obtain ⟨wo, rfl⟩ : ∃ wo : World, wo = wr := ⟨_, rfl⟩
      obtain ⟨k, hk, rfl, rfl, hb⟩ := hrel
      have HB := Lib.hid hb
      clear hb
      by_cases hlt : k < n
      · obtain ⟨b, off, rfl, c0, c1, c2⟩ := ((h.below HB1.out).below HB.out).at_ hlt
        have hs := Lib.hid (stepsIn_take_succ (xs := xs) (k := k) (by rw [HL.out]; exact hlt))
        have hle := stepsIn_le (xs.take k)
        rw [List.length_take] at hle
        obtain ⟨s, HS⟩ : ∃ q, Hid (stepsIn (xs.take k) = q) := ⟨_, rfl⟩
        rw [HS.out] at hle ⊢
        obtain ⟨x, HX⟩ : ∃ q, Hid (xs.getD k (0, 0, 0) = q) := ⟨_, rfl⟩
        rw [HX.out] at c0 c1 c2
        obtain ⟨x0, x1, x2⟩ := x
        simp only at c0 c1 c2
        by_cases h0 : x0 = 0
        · subst h0
          go_wp2
          go_roundw
          case rel => exact ⟨k + 1, by omega, by go_num, by rw [hs.out, HX.out, HS.out]; go_num, HB.out.alloc HB.out.size _⟩
          case measure => simp [intOf]; omega
        · have q0 : (x0 == 0) = false := by simpa using h0
          have HN := Lib.hid h0
          clear h0
          go_wp2
          go_roundw
          case rel => exact ⟨k + 1, by omega, by go_num, by rw [hs.out, HX.out, HS.out]; simp [HN.out], HB.out.alloc HB.out.size _⟩
          case measure => simp [intOf]; omega
      · obtain rfl : k = n := by omega
        go_wp2
        go_ret
        exact ⟨ret_i (by rw [stepsV_pos hp.out, List.take_of_length_le (by rw [HL.out]; omega)]), HB1.out.trans (HB.out.mono HB1.out.size)⟩

end Go.Proofs.Ytookhelfbnhadaa
