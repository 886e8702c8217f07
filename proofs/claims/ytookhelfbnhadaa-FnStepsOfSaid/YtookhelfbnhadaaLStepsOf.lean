/- The walk of FnStepsOf: for every code the law returns true, and the code is left as it was. -/
import Derived.Test.YtookhelfbnhadaaDR6
import Derived.Test.YtookhelfbnhadaaAL
import Derived.Test.YtookhelfbnhadaaQ2
namespace Go.Proofs.Ytookhelfbnhadaa
open Go.RowKit

set_option maxRecDepth 100000 in
set_option maxHeartbeats 2000000 in
theorem FnStepsOf_any (A0 : Option Addr) (n0 c0 : Nat) (w : World) (F0 : n0 ≤ 9223372036854775807 ∧ n0 ≤ c0 ∧ BytsAt w w.heap.size A0 n0) :
    Calls Try.prog 4 #[.slice A0 n0 c0] w fun e w' => e = .returned (.bool true) ∧ Below w.heap.size w w' := by
  obtain ⟨hm0, hc0, h0⟩ := F0
  by_cases hn : n0 ≤ 1048576
  rotate_left
  · go_enter Try.func4, Try.ntmps4
    go_wp2
    go_ret
    exact ⟨rfl, Below.refl _ _⟩
  go_enter Try.func4, Try.ntmps4
  go_wp2_with (fail)
  refine kDrawnT (drawStepsOf_any A0 n0 c0 w h0 hm0 hc0) ?_
  intro g c xs w1 hown hl hb1
  have HM1 := Lib.hid (OwnM.at_ hown)
  have HB1 := Lib.hid hb1
  clear hown hb1
  by_cases hT : TOk xs
  · obtain ⟨x, hx⟩ := hT
    have HX := Lib.hid (show TIs xs x from hx)
    have hsv : StepsV xs = (stepsT x : Int) := by rw [stepsV_pos ⟨x, hx⟩, ← hx.2.1, stepsIn_marks hx.1]
    have hcnt := marks_count hx.1
    have hs1 := stepsT_pos x
    rw [hx.2.1] at hcnt
    clear hx
    obtain ⟨s, HS⟩ : ∃ q, Hid (stepsT x = q) := ⟨_, rfl⟩
    rw [HS.out] at hsv hcnt hs1
    obtain ⟨o, HO⟩ : ∃ q, Hid (onesIn xs = q) := ⟨_, rfl⟩
    rw [HO.out] at hcnt
    have hi1 := iStepsOf_any (some ⟨g, 0, none⟩) xs.length c xs w1 HM1.out (by omega)
    rw [hsv] at hi1
    go_wp2_with (fail)
    refine kBV hi1 ?_
    intro w2 hb2
    clear hi1
    have HB2 := Lib.hid (HB1.out.trans (hb2.mono HB1.out.size))
    have HM2 := Lib.hid (HM1.out.below hb2)
    clear hb2
    have hi2 := sStepsOf_any (some ⟨g, 0, none⟩) xs.length c xs w2 HM2.out (by omega)
    rw [hsv] at hi2
    go_wp2_with (fail)
    refine kBV hi2 ?_
    intro w3 hb3
    clear hi2 hsv
    have HB3 := Lib.hid (HB2.out.trans (hb3.mono HB2.out.size))
    have HM3 := Lib.hid (HM2.out.below hb3)
    clear hb3
    have HCNT := Lib.hid hcnt
    clear hcnt
    obtain ⟨l, HLL⟩ : ∃ q, Hid (xs.length = q) := ⟨_, rfl⟩
    rw [HLL.out] at hl HM3 HCNT ⊢
    go_wp2_with (fail)
    go_loopw [5, 6] (fun o' i wr => ∃ (k m : Nat), k ≤ l ∧ i = .int .i64 k ∧ o' = .int .i64 (onesIn (xs.take k) : Int) ∧ wr = w3.drewN m) (fun _ i _ => l - (intOf i).toNat)
    case atStart => exact ⟨0, 0, Nat.zero_le _, rfl, rfl, rfl⟩
    case round =>
      obtain ⟨k, m, hk, rfl, rfl, rfl⟩ := hrel
      have HB4 := Lib.hid (below_drewN HB3.out m)
      by_cases hlt : k < l
      · have HTK := Lib.hid (onesIn_take_succ (xs := xs) (k := k) (by rw [HLL.out]; exact hlt))
        obtain ⟨b, off, e, c0', c1, c2⟩ := (HM3.out.drewN m).at_ hlt
        cases e
        have hbnd : onesIn (xs.take k) ≤ k := Nat.le_trans (List.countP_le_length) (List.length_take_le _ _)
        obtain ⟨q, HQ⟩ : ∃ q, Hid (xs.getD k (0, 0, 0) = q) := ⟨_, rfl⟩
        rw [HQ.out] at c0' c1 c2 HTK
        obtain ⟨q0, q1, q2⟩ := q
        simp only at c0' c1 c2
        rw [Nat.zero_add] at c0' c1 c2
        obtain ⟨t, HT⟩ : ∃ t, Hid (onesIn (xs.take k) = t) := ⟨_, rfl⟩
        rw [HT.out] at hbnd HTK ⊢
        by_cases h3 : q0 = 3
        · subst h3
          go_wp2
          go_roundw
          case rel => exact ⟨k + 1, m, by omega, by go_num, by rw [HTK.out, if_pos rfl]; go_num, by trivial⟩
          case measure => simp [intOf]; omega
        · have h3b : (q0 == 3) = false := by simpa using h3
          go_wp2
          go_roundw
          case rel => exact ⟨k + 1, m, by omega, by go_num, by rw [HTK.out, if_neg h3]; go_num, by trivial⟩
          case measure => simp [intOf]; omega
      · obtain rfl : k = l := by omega
        have ht : xs.take k = xs := List.take_of_length_le (by rw [HLL.out]; exact Nat.le_refl _)
        rw [ht, HO.out]
        have hcnt := HCNT.out
        have h1 : (1 : Int) ≤ (s : Int) := by omega
        have h2 : ((s : Int) + (o : Int) + (s : Int) - 1 == (k : Int)) = true := by simp; omega
        have h3 : (s : Int) + (o : Int) + (s : Int) - 1 = (k : Int) := by omega
        go_wp2
        go_ret
        exact ⟨rfl, HB4.out⟩
  · have HT := Lib.hid hT
    have hsv : StepsV xs = -1 := stepsV_neg hT
    clear hT
    have hi1 := iStepsOf_any (some ⟨g, 0, none⟩) xs.length c xs w1 HM1.out (by omega)
    rw [hsv] at hi1
    go_wp2_with (fail)
    refine kBV hi1 ?_
    intro w2 hb2
    clear hi1
    have HB2 := Lib.hid (HB1.out.trans (hb2.mono HB1.out.size))
    have HM2 := Lib.hid (HM1.out.below hb2)
    clear hb2
    have hi2 := sStepsOf_any (some ⟨g, 0, none⟩) xs.length c xs w2 HM2.out (by omega)
    rw [hsv] at hi2
    go_wp2_with (fail)
    refine kBV hi2 ?_
    intro w3 hb3
    clear hi2 hsv
    have HB3 := Lib.hid (HB2.out.trans (hb3.mono HB2.out.size))
    have HM3 := Lib.hid (HM2.out.below hb3)
    clear hb3
    go_wp2_with (fail)
    refine kB (iTermOk_any (some ⟨g, 0, none⟩) xs.length c xs _ HM3.out (by omega)) (fun _ h _ => absurd h.out HT.out) ?_
    intro w4 _ hb4
    have HB4 := Lib.hid (HB3.out.trans (hb4.mono HB3.out.size))
    clear hb4
    go_wp2_with (fail)
    refine kBV (alive_any _) ?_
    intro w6 hb6
    go_wp2
    go_ret
    exact ⟨rfl, HB4.out.trans (hb6.mono HB4.out.size)⟩

end Go.Proofs.Ytookhelfbnhadaa
