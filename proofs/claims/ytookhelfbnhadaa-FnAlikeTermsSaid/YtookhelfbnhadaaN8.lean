/- Terms with their brackets moved to the left: both LeftTerm. -/
import Derived.Test.YtookhelfbnhadaaN7
import Derived.Test.YtookhelfbnhadaaM8
namespace Go.Proofs.Ytookhelfbnhadaa
open Go.RowKit

noncomputable def LeftF (xs : List Mk) : List Mk := onT [] (fun x => marksOf (leftT x)) xs
theorem leftF_len (xs : List Mk) : (LeftF xs).length ≤ xs.length := by
  by_cases h : TOk xs
  · obtain ⟨x, hx⟩ := h
    rw [LeftF, onT_pos hx, ← hx.2.1]; exact Nat.le_of_eq (leftT_marks x)
  · rw [LeftF, onT_neg h]; exact Nat.zero_le _

set_option maxHeartbeats 1000000 in
theorem sLeftTerm_any (A : Option Addr) (n c : Nat) (xs : List Mk) (w : World) (h : MarksAt w A n xs) (hn : n ≤ 1048576) (hc : n ≤ c) :
    Calls Try.prog 31 #[.slice A n c] w (NewM w (LeftF xs)) := by
  by_cases hT : TOk xs
  · obtain ⟨x, hx⟩ := hT
    have HX := Lib.hid (show TIs xs x from hx)
    rw [show LeftF xs = _ from onT_pos HX.out]
    clear hx
    go_enter Try.func31, Try.ntmps31
    go_wp2_with (fail)
    refine kB (sTermOk_any A n c xs _ h hn) ?_ (fun _ hne _ => absurd ⟨x, HX.out⟩ hne.out)
    intro w1 _ hb1
    go_wp2_with (fail)
    refine kNewM ((l13_any x HX.out.1).1 A n c _ (HX.out.at_ (h.below hb1)) hc (HX.out.len h)) ?_
    intro A' c' w2 hown hb2
    go_wp2
    go_ret
    exact ⟨A', c', rfl, own_base hown hb1.size, hb1.trans (hb2.mono hb1.size)⟩
  · rw [show LeftF xs = _ from onT_neg hT]
    have HT := Lib.hid hT
    clear hT
    go_enter Try.func31, Try.ntmps31
    go_wp2_with (fail)
    refine kB (sTermOk_any A n c xs _ h hn) (fun _ hne _ => absurd hne.out HT.out) ?_
    intro w1 hp hb1
    go_wp2
    go_ret
    exact ⟨some ⟨w1.heap.size, 0, none⟩, 0, rfl, OwnM.empty w1 _ hb1.size, hb1.alloc hb1.size _⟩

set_option maxHeartbeats 1000000 in
theorem iLeftTerm_any (A : Option Addr) (n c : Nat) (xs : List Mk) (w : World) (h : MarksAt w A n xs) (hn : n ≤ 1048576) :
    Calls Try.prog 30 #[.slice A n c] w (NewM w (LeftF xs)) := by
  by_cases hT : TOk xs
  · obtain ⟨x, hx⟩ := hT
    have HX := Lib.hid (show TIs xs x from hx)
    rw [show LeftF xs = _ from onT_pos HX.out]
    have hl0 : (marksOf x).length ≤ 11 := by rw [hx.2.1]; exact hx.2.2
    have hl : (marksOf (leftT x)).length ≤ 11 := Nat.le_trans (Nat.le_of_eq (leftT_marks x)) hl0
    clear hx
    go_enter Try.func30, Try.ntmps30
    go_wp2_with (fail)
    refine kBuild (iBuild_any A n c xs _ h hn) (fun _ hne _ => absurd ⟨x, HX.out⟩ hne.out) ?_
    intro w1 y a HY hb1 hpt
    obtain rfl : y = x := TIs.eq HY.out HX.out
    go_wp2_with (fail)
    refine kLeft ((left_tog y HX.out.1 (by omega) w1.heap.size).1 a _ (Nat.le_refl _) (hpt.weaken fun b hl _ => hl)) ?_
    intro a2 w2 hp2 hb2
    go_wp2_with (fail)
    refine kNewM (marks_any (leftT y) (by omega) a2 _ hp2.tt) ?_
    intro A' c' w3 hown hb3
    have h12 := hb1.trans (hb2.mono hb1.size)
    go_wp2
    go_ret
    exact ⟨A', c', rfl, own_base hown h12.size, h12.trans (hb3.mono h12.size)⟩
  · rw [show LeftF xs = _ from onT_neg hT]
    have HT := Lib.hid hT
    clear hT
    go_enter Try.func30, Try.ntmps30
    go_wp2_with (fail)
    refine kBuild (iBuild_any A n c xs _ h hn) ?_ (fun _ x _ hne _ _ => absurd ⟨x, hne.out⟩ HT.out)
    intro w1 hp hb1
    go_wp2
    go_ret
    exact ⟨none, 0, rfl, OwnM.nil w1 _, hb1⟩

end Go.Proofs.Ytookhelfbnhadaa
