/- Terms with narrowed steps: both NarrowedOf. -/
import Derived.Test.YtookhelfbnhadaaMN
import Derived.Test.YtookhelfbnhadaaN9
import Derived.Test.YtookhelfbnhadaaM8
namespace Go.Proofs.Ytookhelfbnhadaa
open Go.RowKit

def NarP (xs : List Mk) : Prop := (LenF xs).2.2 = true
noncomputable def NarF (xs : List Mk) : List Mk := onT [] (fun x => if (lenS x).2.2 = false then [] else marksOf (narS x (lenS x).1 (lenS x).2.1)) xs
theorem narF_len (xs : List Mk) : (NarF xs).length ≤ xs.length := by
  by_cases h : TOk xs
  · obtain ⟨x, hx⟩ := h
    rw [NarF, onT_pos hx]
    split
    · exact Nat.zero_le _
    · rw [narS_marks, hx.2.1]; exact Nat.le_refl _
  · rw [NarF, onT_neg h]; exact Nat.zero_le _
theorem narF_ok {xs : List Mk} {lo hi : Int} (h : LenF xs = (lo, hi, true)) : ∃ x, TIs xs x ∧ NarF xs = marksOf (narS x lo hi) ∧ (lenS x).2.2 = true ∧ (lenS x).1 = lo ∧ (lenS x).2.1 = hi ∧ 0 ≤ lo ∧ lo ≤ 209 ∧ 0 ≤ hi ∧ hi ≤ 209 := by
  by_cases hT : TOk xs
  · obtain ⟨x, hx⟩ := hT
    rw [show LenF xs = lenR x from onT_pos hx] at h
    unfold lenR at h
    split at h
    · cases h
    · rename_i hok
      have h1 := lenS_bd hx.1
      have h2 := TIs.steps hx
      have e0 : (lenS x).1 = lo := by rw [h]
      have e : (lenS x).2.1 = hi := by rw [h]
      have e2 : (lenS x).2.2 = true := by rw [h]
      refine ⟨x, hx, ?_, e2, e0, e, by omega, by omega, by omega, by omega⟩
      rw [show NarF xs = _ from onT_pos hx, if_neg hok, e0, e]
  · rw [show LenF xs = _ from onT_neg hT] at h; cases h
theorem narF_no {xs : List Mk} {lo hi : Int} (h : LenF xs = (lo, hi, false)) : NarF xs = [] := by
  by_cases hT : TOk xs
  · obtain ⟨x, hx⟩ := hT
    rw [show LenF xs = lenR x from onT_pos hx] at h
    rw [show NarF xs = _ from onT_pos hx]
    unfold lenR at h
    split at h
    · rename_i hok; rw [if_pos hok]
    · rename_i hok; rw [h] at hok; exact absurd rfl hok
  · exact onT_neg hT

set_option maxHeartbeats 1000000 in
theorem sNarrowedOf_any (A : Option Addr) (n c : Nat) (xs : List Mk) (w : World) (h : MarksAt w A n xs) (hn : n ≤ 1048576) (hc : n ≤ c) :
    Calls Try.prog 45 #[.slice A n c] w (NewMB w (NarF xs) (B (NarP xs))) := by
  have hsl := sLengthsOf_any A n c xs w h hn hc
  have HK := Lib.hid (fun lo hi => narF_ok (xs := xs) (lo := lo) (hi := hi))
  have HK0 := Lib.hid (fun lo hi => narF_no (xs := xs) (lo := lo) (hi := hi))
  have HP := Lib.hid (show NarP xs ↔ (LenF xs).2.2 = true from Iff.rfl)
  obtain ⟨L, HL⟩ : ∃ q, Hid (LenF xs = q) := ⟨_, rfl⟩
  rw [HL.out] at hsl HK HK0 HP
  obtain ⟨lo, hi, ok⟩ := L
  cases ok with
  | false =>
    rw [HK0.out lo hi rfl, B_false (fun hh => by have := HP.out.1 hh; cases this)]
    go_enter Try.func45, Try.ntmps45
    go_wp2_with (fail)
    refine kBV hsl ?_
    intro w1 hb1
    clear hsl
    simp only [lenV]
    go_wp2
    refine bodyPost_ret (v := .tuple #[.slice (some ⟨w1.heap.size, 0, none⟩) 0 0, .bool false]) (by simp [results, Try.results45, go_sem]) rfl ⟨_, _, rfl, OwnM.empty w1 _ hb1.size, hb1.alloc hb1.size _⟩
  | true =>
    obtain ⟨x, hx, hce, hok, e0, e1, hl0, hl1, hh0, hh1⟩ := HK.out lo hi rfl
    have HX := Lib.hid hx
    rw [hce, B_true (HP.out.2 rfl)]
    have hl11 := hx.len h
    have HC := Lib.hid (l13Narrow_any x hx.1)
    obtain ⟨R, HR⟩ : ∃ z, Hid (marksOf (narS x lo hi) = z) := ⟨_, rfl⟩
    rw [HR.out]
    clear hx hce hok e0 e1
    go_enter Try.func45, Try.ntmps45
    go_wp2_with (fail)
    refine kBV hsl ?_
    intro w1 hb1
    clear hsl
    simp only [lenV]
    have HB1 := Lib.hid hb1
    clear hb1
    go_wp2_with (fail)
    refine kNewM (HC.out A n c lo hi _ (HX.out.at_ (h.below HB1.out)) hc hl11 (by omega) (by omega) (by omega) (by omega)) ?_
    rw [HR.out]
    intro A' c' w2 hown hb2
    go_wp2
    refine bodyPost_ret (v := .tuple #[.slice A' R.length c', .bool true]) (by simp [results, Try.results45, go_sem]) rfl ⟨A', c', rfl, own_base hown HB1.out.size, HB1.out.trans (hb2.mono HB1.out.size)⟩

set_option maxHeartbeats 1000000 in
theorem iNarrowedOf_any (A : Option Addr) (n c : Nat) (xs : List Mk) (w : World) (h : MarksAt w A n xs) (hn : n ≤ 1048576) :
    Calls Try.prog 44 #[.slice A n c] w (NewMB w (NarF xs) (B (NarP xs))) := by
  have hsl := iLengthsOf_any A n c xs w h hn
  have HK := Lib.hid (fun lo hi => narF_ok (xs := xs) (lo := lo) (hi := hi))
  have HK0 := Lib.hid (fun lo hi => narF_no (xs := xs) (lo := lo) (hi := hi))
  have HP := Lib.hid (show NarP xs ↔ (LenF xs).2.2 = true from Iff.rfl)
  obtain ⟨L, HL⟩ : ∃ q, Hid (LenF xs = q) := ⟨_, rfl⟩
  rw [HL.out] at hsl HK HK0 HP
  obtain ⟨lo, hi, ok⟩ := L
  cases ok with
  | false =>
    rw [HK0.out lo hi rfl, B_false (fun hh => by have := HP.out.1 hh; cases this)]
    go_enter Try.func44, Try.ntmps44
    go_wp2_with (fail)
    refine kBV hsl ?_
    intro w1 hb1
    clear hsl
    simp only [lenV]
    go_wp2
    refine bodyPost_ret (v := .tuple #[.slice none 0 0, .bool false]) (by simp [results, Try.results44, go_sem]) rfl ⟨_, _, rfl, OwnM.nil w1 _, hb1⟩
  | true =>
    obtain ⟨x, hx, hce, hok, e0, e1, hl0, hl1, hh0, hh1⟩ := HK.out lo hi rfl
    have HX := Lib.hid hx
    have hml : (marksOf x).length ≤ 11 := by rw [hx.2.1]; exact hx.2.2
    have hfull := narI_full x
    rw [e0, e1] at hfull
    have hlm := narS_marks x lo hi
    rw [hce, B_true (HP.out.2 rfl), ← hfull]
    have HC := Lib.hid (narrowed_any x hx.1 hok hx.steps lo hi 1000 (by omega) (by omega) (by omega) (by omega) (by omega))
    have HMK := Lib.hid (marks_any (narI x lo hi) (by rw [hfull]; omega))
    obtain ⟨R, HR⟩ : ∃ z, Hid (narI x lo hi = z) := ⟨_, rfl⟩
    rw [HR.out] at HC HMK ⊢
    clear hx hce hok e0 e1 hfull hlm
    go_enter Try.func44, Try.ntmps44
    go_wp2_with (fail)
    refine kBV hsl ?_
    intro w1 hb1
    clear hsl
    simp only [lenV]
    have HB1 := Lib.hid hb1
    clear hb1
    go_wp2_with (fail)
    refine kBuild (iBuild_any A n c xs _ (h.below HB1.out) hn) (fun _ hne _ => absurd ⟨x, HX.out⟩ hne.out) ?_
    intro w2 y a HY hb2 hpt
    obtain rfl : y = x := TIs.eq HY.out HX.out
    have HB2 := Lib.hid (HB1.out.trans (hb2.mono HB1.out.size))
    have HPT := Lib.hid hpt
    clear hb2 hpt
    go_wp2_with (fail)
    refine kNewPt (HC.out a _ HPT.out) ?_
    intro a2 w3 hp3 hb3
    have HB3 := Lib.hid (HB2.out.trans (hb3.mono HB2.out.size))
    clear hb3
    go_wp2_with (fail)
    refine kNewM (HMK.out a2 _ hp3.tt) ?_
    intro A' c' w4 hown hb4
    go_wp2
    refine bodyPost_ret (v := .tuple #[.slice A' (marksOf R).length c', .bool true]) (by simp [results, Try.results44, go_sem]) rfl ⟨A', c', rfl, own_base hown HB3.out.size, HB3.out.trans (hb4.mono HB3.out.size)⟩

end Go.Proofs.Ytookhelfbnhadaa
