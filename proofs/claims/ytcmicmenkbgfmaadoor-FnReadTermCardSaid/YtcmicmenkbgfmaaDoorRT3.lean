/- spec.l11Text and spec.TermText: the text of a term. -/
import Derived.Test.YtcmicmenkbgfmaaDoorRT2
set_option linter.unusedSimpArgs false
namespace Go.Proofs.YtcmicmenkbgfmaaDoor
open Go.RowKit

set_option maxRecDepth 100000 in
set_option maxHeartbeats 2000000 in
theorem l11Text_step (l h : Int) (wf : Wf (.step l h)) : TextAt (.step l h) := by
  intro A n c w hm hc hn
  obtain ⟨b, off, rfl⟩ := hm.some (by rw [← hm.len]; simp [marksOf])
  obtain ⟨-, rfl, c0, c1, c2⟩ := MarksAt.one (x := []) hm
  simp only [List.length_nil, Nat.zero_mul, Nat.add_zero, Nat.zero_add] at c0 c1 c2 hc ⊢
  obtain ⟨w1, w2, w3⟩ := wf
  have w4 := Int.le_trans w2 w3
  have w5 := Int.le_trans w1 w2
  have HL := Lib.hid (fun W : World => l1Number_any l w1 w4 W)
  have HH := Lib.hid (fun W : World => l1Number_any h w5 w3 W)
  have HLL := Lib.hid (dec_len w1 w4)
  have HLH := Lib.hid (dec_len w5 w3)
  clear hm w1 w2 w3 w4 w5
  by_cases hlh : l = h
  · subst hlh
    have HT := Lib.hid (show textT (.step l l) = dec l by simp [textT])
    rw [HT.out]
    go_enter Tryd.func26, Tryd.ntmps26
    go_wp2_with (fail)
    refine kStr (n := 2) (HL.out _) HLL.out ?_
    intro S w1 hS hz hb
    go_wp2
    go_ret
    exact ⟨_, rfl, hS.out, ((Below.refl w.heap.size w).alloc (Nat.le_refl _) _).trans (hb.mono (by simp))⟩
  · have HT := Lib.hid (show textT (.step l h) = dec l ++ 45 :: dec h by simp [textT, hlh])
    rw [HT.out]
    have hlb : (l == h) = false := by simpa using hlh
    clear hlh
    go_enter Tryd.func26, Tryd.ntmps26
    go_wp2_with (fail)
    obtain ⟨w1, HW1⟩ : ∃ q, Hid (w.alloc (.cells #[.int .i64 0, .int .i64 l, .int .i64 h] 54) = q) := ⟨_, rfl⟩
    have hA0 : Below w.heap.size w w1 := HW1.out ▸ (Below.refl _ _).alloc (Nat.le_refl _) _
    have m1 : w1.cell? ⟨w.heap.size, 1, none⟩ = some (.int .i64 l) := HW1.out ▸ by simp [go_sem]
    have m2 : w1.cell? ⟨w.heap.size, 2, none⟩ = some (.int .i64 h) := HW1.out ▸ by simp [go_sem]
    rw [HW1.out]
    obtain ⟨P, HP⟩ : ∃ q, Hid (w.heap.size = q) := ⟨_, rfl⟩
    have HB := Lib.hid hA0.drew
    rw [HP.out] at m1 m2 ⊢
    clear hA0
    go_region_held_law (fun w' => w'.cell? ⟨P, 1, none⟩ = some (.int .i64 l) ∧ w'.cell? ⟨P, 2, none⟩ = some (.int .i64 h))
      (first | exact ⟨m1, m2⟩)
      (first
        | (go_at_call 40; with_reducible refine kStr (n := 2) (HL.out _) HLL.out ?_
           intro S1 wx hS1 hz1 hb
           have HB := Lib.hid (HB.out.trans (hb.mono HB.out.size))
           have m1 := keep hb m1
           have m2 := keep hb m2
           clear hb)
        | (go_at_call 40; with_reducible refine kStr (n := 2) (HH.out _) HLH.out ?_
           intro S2 wx hS2 hz2 hb
           have HB := Lib.hid (HB.out.trans (hb.mono HB.out.size))
           have m1 := keep hb m1
           have m2 := keep hb m2
           clear hb))
    all_goals
      go_wp2
      go_ret
      exact ⟨_, rfl, by rw [cat_list, cat_list, hS1.out, hS2.out]; simp, HB.out⟩
set_option maxRecDepth 100000 in
set_option maxHeartbeats 2000000 in
theorem l11Text_one (x : Tm) (h : Int) (wf : Wf (.one x h)) (TX : TextAt x) : TextAt (.one x h) := by
  intro A n c w hm hc hn
  obtain ⟨b, off, rfl⟩ := hm.some (by rw [← hm.len]; simp [marksOf])
  obtain ⟨hx, rfl, c0, c1, c2⟩ := MarksAt.one hm
  have hq0 := marks_pos x
  have HLX := Lib.hid (brT_le (decide (bindsT x < 2)) wf.1 rfl (by omega : (marksOf x).length ≤ 11))
  have HLH := Lib.hid (dec_len wf.2.1 wf.2.2)
  have HH := Lib.hid (fun W : World => l1Number_any h wf.2.1 wf.2.2 W)
  obtain ⟨p, HP⟩ : ∃ q, Hid ((marksOf x).length = q) := ⟨_, rfl⟩
  rw [HP.out] at hx c0 c1 c2 hc hn hq0 ⊢
  have HX := Lib.hid hx
  have HTX := Lib.hid (fun (B : Option Addr) (d : Nat) (W : World) (g : MarksAt W B p (marksOf x)) (g2 : p ≤ d) => l11Held_any x wf.1 TX B p d 2 W g g2 (by omega))
  have HT := Lib.hid (show textT (.one x h) = brT (decide (bindsT x < 2)) (textT x) ++ 60 :: dec h from rfl)
  rw [HT.out]
  simp only at c0 c1 c2
  have hcp : ¬ c = p := by omega
  clear hm hx TX
  go_enter Tryd.func26, Tryd.ntmps26
  go_wp2_with (fail)
  obtain ⟨w1, HW1⟩ : ∃ q, Hid (w.alloc (.cells #[.int .i64 3, .int .i64 0, .int .i64 h] 54) = q) := ⟨_, rfl⟩
  have hA0 : Below w.heap.size w w1 := HW1.out ▸ (Below.refl _ _).alloc (Nat.le_refl _) _
  have m2 : w1.cell? ⟨w.heap.size, 2, none⟩ = some (.int .i64 h) := HW1.out ▸ by simp [go_sem]
  rw [HW1.out]
  have HB := Lib.hid hA0.drew
  obtain ⟨P, HPP⟩ : ∃ q, Hid (w.heap.size = q) := ⟨_, rfl⟩
  rw [HPP.out] at m2 ⊢
  clear hA0
  go_region_held_law (fun w' => w'.cell? ⟨P, 2, none⟩ = some (.int .i64 h))
    (first | exact m2)
    (first
      | (go_at_call 41; with_reducible refine kStr (n := 77) (HTX.out (some ⟨b, off, none⟩) c _ (HX.out.below HB.out) (by omega)) HLX.out ?_
         intro S1 wx hS1 hz1 hb
         have HB := Lib.hid (HB.out.trans (hb.mono HB.out.size))
         have m2 := keep hb m2
         clear hb)
      | (go_at_call 40; with_reducible refine kStr (n := 2) (HH.out _) HLH.out ?_
         intro S2 wx hS2 hz2 hb
         have HB := Lib.hid (HB.out.trans (hb.mono HB.out.size))
         have m2 := keep hb m2
         clear hb))
  all_goals
    go_wp2
    go_ret
    exact ⟨_, rfl, by rw [cat_list, cat_list, hS1.out, hS2.out]; simp, HB.out⟩
set_option maxRecDepth 100000 in
set_option maxHeartbeats 2000000 in
theorem l11Text_two1 (x y : Tm) (wf : Wf (.two 1 x y)) (TX : TextAt x) (TY : TextAt y) : TextAt (.two 1 x y) := by
  intro A n c w hm hc hn
  obtain ⟨b, off, rfl⟩ := hm.some (by rw [← hm.len]; exact marks_pos _)
  obtain ⟨hx, hy, rfl, c0, c1, c2⟩ := MarksAt.two hm
  have HAH := Lib.hid (show Ahead (marksOf (.two 1 x y)) (marksOf x) ((marksOf x).length + (marksOf y).length) 1 from ⟨[y], (by intro z hz; obtain rfl := List.mem_singleton.1 hz; exact wf.2.2), rfl, by rw [allMarks_one, marksOf]; exact List.take_left' (by simp)⟩)
  have hq0 := marks_pos y
  have HLX := Lib.hid (brT_le (decide (bindsT x < 0)) wf.2.1 rfl (by omega : (marksOf x).length ≤ 11))
  have HLY := Lib.hid (brT_le (decide (bindsT y < 1)) wf.2.2 rfl (by omega : (marksOf y).length ≤ 11))
  obtain ⟨p, HP⟩ : ∃ q, Hid ((marksOf x).length = q) := ⟨_, rfl⟩
  obtain ⟨q, HQ⟩ : ∃ q, Hid ((marksOf y).length = q) := ⟨_, rfl⟩
  rw [HP.out] at hx hy c0 c1 c2 hc hn HAH ⊢
  rw [HQ.out] at hy c0 c1 c2 hc hn hq0 HAH ⊢
  rw [HP.out, HQ.out] at hm
  have HM := Lib.hid hm
  have HX := Lib.hid hx
  have HY := Lib.hid hy
  have HTX := Lib.hid (fun (B : Option Addr) (d : Nat) (W : World) (g : MarksAt W B p (marksOf x)) (g2 : p ≤ d) => l11Held_any x wf.2.1 TX B p d 0 W g g2 (by omega))
  have HTY := Lib.hid (fun (B : Option Addr) (d : Nat) (W : World) (g : MarksAt W B q (marksOf y)) (g2 : q ≤ d) => l11Held_any y wf.2.2 TY B q d 1 W g g2 (by omega))
  have HT := Lib.hid (show textT (.two 1 x y) = textT x ++ 59 :: brT (decide (bindsT y < 1)) (textT y) by simp [textT])
  rw [HT.out]
  simp only at c0 c1 c2
  have hcp : ¬ c = p := by omega
  clear hm hx hy TX TY
  have hA0 : Below w.heap.size w (w.alloc (.cells #[.int .i64 1, .int .i64 0, .int .i64 0] 54)) := (Below.refl w.heap.size w).alloc (Nat.le_refl _) _
  go_enter Tryd.func26, Tryd.ntmps26
  go_wp2_with (fail)
  refine kV (l11Starts_at (some ⟨b, off, none⟩) (p + q + 1) c (p + q) _ (marksOf x) _ _ (HM.out.below hA0) (by omega) (by omega) HAH.out ?_) ?_
  · push_cast; omega
  rw [HP.out]
  go_wp2_with (fail)
  obtain ⟨w1, HW1⟩ : ∃ q, Hid (w.alloc (.cells #[.int .i64 1, .int .i64 0, .int .i64 0] 54) = q) := ⟨_, rfl⟩
  rw [HW1.out] at hA0 ⊢
  have HB := Lib.hid hA0.drew
  clear hA0
  go_region_held_law (fun _ => True)
    (first | trivial)
    (first
      | (go_at_call 41; with_reducible refine kStr (n := 77) (HTX.out (some ⟨b, off, none⟩) c _ (HX.out.below HB.out) (by omega)) HLX.out ?_
         intro S1 wx hS1 hz1 hb
         have HB := Lib.hid (HB.out.trans (hb.mono HB.out.size))
         clear hb)
      | (go_at_call 41; with_reducible refine kStr (n := 77) (HTY.out (some ⟨b, off + p * 3, none⟩) (c - p) _ (HY.out.below HB.out) (by omega)) HLY.out ?_
         intro S2 wx hS2 hz2 hb
         have HB := Lib.hid (HB.out.trans (hb.mono HB.out.size))
         clear hb))
  all_goals
    go_wp2
    go_ret
    exact ⟨_, rfl, by rw [cat_list, cat_list, hS1.out, hS2.out]; simp [brT], HB.out⟩
set_option maxRecDepth 100000 in
set_option maxHeartbeats 2000000 in
theorem l11Text_two2 (x y : Tm) (wf : Wf (.two 2 x y)) (TX : TextAt x) (TY : TextAt y) : TextAt (.two 2 x y) := by
  intro A n c w hm hc hn
  obtain ⟨b, off, rfl⟩ := hm.some (by rw [← hm.len]; exact marks_pos _)
  obtain ⟨hx, hy, rfl, c0, c1, c2⟩ := MarksAt.two hm
  have HAH := Lib.hid (show Ahead (marksOf (.two 2 x y)) (marksOf x) ((marksOf x).length + (marksOf y).length) 1 from ⟨[y], (by intro z hz; obtain rfl := List.mem_singleton.1 hz; exact wf.2.2), rfl, by rw [allMarks_one, marksOf]; exact List.take_left' (by simp)⟩)
  have hq0 := marks_pos y
  have HLX := Lib.hid (brT_le (decide (bindsT x < 1)) wf.2.1 rfl (by omega : (marksOf x).length ≤ 11))
  have HLY := Lib.hid (brT_le (decide (bindsT y < 2)) wf.2.2 rfl (by omega : (marksOf y).length ≤ 11))
  obtain ⟨p, HP⟩ : ∃ q, Hid ((marksOf x).length = q) := ⟨_, rfl⟩
  obtain ⟨q, HQ⟩ : ∃ q, Hid ((marksOf y).length = q) := ⟨_, rfl⟩
  rw [HP.out] at hx hy c0 c1 c2 hc hn HAH ⊢
  rw [HQ.out] at hy c0 c1 c2 hc hn hq0 HAH ⊢
  rw [HP.out, HQ.out] at hm
  have HM := Lib.hid hm
  have HX := Lib.hid hx
  have HY := Lib.hid hy
  have HTX := Lib.hid (fun (B : Option Addr) (d : Nat) (W : World) (g : MarksAt W B p (marksOf x)) (g2 : p ≤ d) => l11Held_any x wf.2.1 TX B p d 1 W g g2 (by omega))
  have HTY := Lib.hid (fun (B : Option Addr) (d : Nat) (W : World) (g : MarksAt W B q (marksOf y)) (g2 : q ≤ d) => l11Held_any y wf.2.2 TY B q d 2 W g g2 (by omega))
  have HT := Lib.hid (show textT (.two 2 x y) = brT (decide (bindsT x < 1)) (textT x) ++ 38 :: brT (decide (bindsT y < 2)) (textT y) by simp [textT])
  rw [HT.out]
  simp only at c0 c1 c2
  have hcp : ¬ c = p := by omega
  clear hm hx hy TX TY
  have hA0 : Below w.heap.size w (w.alloc (.cells #[.int .i64 2, .int .i64 0, .int .i64 0] 54)) := (Below.refl w.heap.size w).alloc (Nat.le_refl _) _
  go_enter Tryd.func26, Tryd.ntmps26
  go_wp2_with (fail)
  refine kV (l11Starts_at (some ⟨b, off, none⟩) (p + q + 1) c (p + q) _ (marksOf x) _ _ (HM.out.below hA0) (by omega) (by omega) HAH.out ?_) ?_
  · push_cast; omega
  rw [HP.out]
  go_wp2_with (fail)
  obtain ⟨w1, HW1⟩ : ∃ q, Hid (w.alloc (.cells #[.int .i64 2, .int .i64 0, .int .i64 0] 54) = q) := ⟨_, rfl⟩
  rw [HW1.out] at hA0 ⊢
  have HB := Lib.hid hA0.drew
  clear hA0
  go_region_held_law (fun _ => True)
    (first | trivial)
    (first
      | (go_at_call 41; with_reducible refine kStr (n := 77) (HTX.out (some ⟨b, off, none⟩) c _ (HX.out.below HB.out) (by omega)) HLX.out ?_
         intro S1 wx hS1 hz1 hb
         have HB := Lib.hid (HB.out.trans (hb.mono HB.out.size))
         clear hb)
      | (go_at_call 41; with_reducible refine kStr (n := 77) (HTY.out (some ⟨b, off + p * 3, none⟩) (c - p) _ (HY.out.below HB.out) (by omega)) HLY.out ?_
         intro S2 wx hS2 hz2 hb
         have HB := Lib.hid (HB.out.trans (hb.mono HB.out.size))
         clear hb))
  all_goals
    go_wp2
    go_ret
    exact ⟨_, rfl, by rw [cat_list, cat_list, hS1.out, hS2.out]; simp, HB.out⟩
theorem l11Text_any (t : Tm) : Wf t → TextAt t := by
  induction t with
  | step l h => exact fun wf => l11Text_step l h wf
  | one a h ih => exact fun wf => l11Text_one a h wf (ih wf.1)
  | two k a b iha ihb =>
    intro wf
    rcases wf.1 with rfl | rfl
    · exact l11Text_two1 a b wf (iha wf.2.1) (ihb wf.2.2)
    · exact l11Text_two2 a b wf (iha wf.2.1) (ihb wf.2.2)

end Go.Proofs.YtcmicmenkbgfmaaDoor
