/- Both LastsFor. -/
import Derived.Test.YtookhelfbnhadaaMH
namespace Go.Proofs.Ytookhelfbnhadaa
open Go.RowKit

def ForP (xs : List Mk) (tot : Int) : Prop := (LenF xs).2.2 = true ∧ InR tot (LenF xs).1 (LenF xs).2.1
noncomputable def ForF (xs : List Mk) (tot : Int) : List Int := @ite _ (ForP xs tot) (Classical.propDecidable _) (onT [] (fun x => forT x tot) xs) []
theorem forP_tree {xs : List Mk} {tot : Int} (h : ForP xs tot) : ∃ x, TIs xs x ∧ (lenS x).2.2 = true ∧ ForF xs tot = forT x tot ∧ 0 ≤ tot ∧ tot ≤ 209 := by
  by_cases hT : TOk xs
  · obtain ⟨x, hx⟩ := hT
    have hL : LenF xs = lenR x := onT_pos hx
    have h1 := h.1
    have h2 := h.2
    rw [hL] at h1 h2
    unfold lenR at h1 h2
    by_cases hok : (lenS x).2.2 = false
    · rw [if_pos hok] at h1; cases h1
    · rw [if_neg hok] at h1 h2
      have hb := lenS_bd hx.1
      have hs := TIs.steps hx
      unfold InR at h2
      refine ⟨x, hx, h1, ?_, by omega, by omega⟩
      unfold ForF
      rw [if_pos h]
      exact onT_pos hx
  · have hL : LenF xs = (0, 0, false) := onT_neg hT
    have h1 := h.1
    rw [hL] at h1; cases h1
theorem forF_neg {xs : List Mk} {tot : Int} (h : ¬ ForP xs tot) : ForF xs tot = [] := by unfold ForF; rw [if_neg h]
theorem forF_len (xs : List Mk) (tot : Int) : (ForF xs tot).length ≤ 1048576 := by
  by_cases h : ForP xs tot
  · obtain ⟨x, hx, _, he, _⟩ := forP_tree h
    rw [he, forT_len]
    have := TIs.steps hx
    omega
  · rw [forF_neg h]; exact Nat.zero_le _

set_option maxHeartbeats 1000000 in
theorem sLastsFor_any (A : Option Addr) (n c : Nat) (xs : List Mk) (tot : Int) (w : World) (h : MarksAt w A n xs) (hn : n ≤ 1048576) (hc : n ≤ c) :
    Calls Try.prog 34 #[.slice A n c, .int .i64 tot] w (NewIB w (ForF xs tot) (B (ForP xs tot))) := by
  have HPD := Lib.hid (show ForP xs tot ↔ ((LenF xs).2.2 = true ∧ InR tot (LenF xs).1 (LenF xs).2.1) from Iff.rfl)
  obtain ⟨L, HL⟩ : ∃ q, Hid (LenF xs = q) := ⟨_, rfl⟩
  rw [HL.out] at HPD
  obtain ⟨lo, hi, ok⟩ := L
  simp only at HPD
  by_cases hp : ForP xs tot
  · obtain ⟨x, hx, _, he, ht0, ht1⟩ := forP_tree hp
    rw [he, B_true hp]
    have HX := Lib.hid hx
    obtain ⟨hok, hin⟩ := HPD.out.1 hp
    have HIN := Lib.hid hin
    subst hok
    clear hx he hp hin
    go_enter Try.func34, Try.ntmps34
    go_wp2_with (fail)
    refine kBV (sLengthsOf_any A n c xs _ h hn hc) ?_
    intro w1 hb1
    rw [HL.out]
    simp only [lenV]
    go_wp2_with (fail)
    refine kS (l1In_any tot lo hi _) ?_ (fun hne => absurd HIN.out hne.out)
    intro _
    go_wp2_with (fail)
    refine kNewI (l12For_any x HX.out.1 A n c tot 209 _ (HX.out.at_ (h.below hb1)) hc (HX.out.len h) (by omega) ht1 (by have := HX.out.len h; omega)) ?_
    intro A' c' w2 hown hb2
    go_wp2
    refine bodyPost_ret (v := .tuple #[.slice A' (forT x tot).length c', .bool true]) (by simp [results, Try.results34, go_sem]) rfl ⟨A', c', rfl, own_base hown hb1.size, hb1.trans (hb2.mono hb1.size)⟩
  · rw [forF_neg hp, B_false hp]
    have HP := Lib.hid hp
    clear hp
    cases ok with
    | false =>
      go_enter Try.func34, Try.ntmps34
      go_wp2_with (fail)
      refine kBV (sLengthsOf_any A n c xs _ h hn hc) ?_
      intro w1 hb1
      rw [HL.out]
      simp only [lenV]
      go_wp2
      refine bodyPost_ret (v := .tuple #[.slice (some ⟨w1.heap.size, 0, none⟩) 0 0, .bool false]) (by simp [results, Try.results34, go_sem]) rfl ⟨_, _, rfl, OwnI.empty w1 _ hb1.size, hb1.alloc hb1.size _⟩
    | true =>
      go_enter Try.func34, Try.ntmps34
      go_wp2_with (fail)
      refine kBV (sLengthsOf_any A n c xs _ h hn hc) ?_
      intro w1 hb1
      rw [HL.out]
      simp only [lenV]
      go_wp2_with (fail)
      refine kS (l1In_any tot lo hi _) (fun hin => absurd (HPD.out.2 ⟨trivial, hin.out⟩) HP.out) ?_
      intro _
      go_wp2
      refine bodyPost_ret (v := .tuple #[.slice (some ⟨w1.heap.size, 0, none⟩) 0 0, .bool false]) (by simp [results, Try.results34, go_sem]) rfl ⟨_, _, rfl, OwnI.empty w1 _ hb1.size, hb1.alloc hb1.size _⟩

set_option maxHeartbeats 1000000 in
theorem iLastsFor_any (A : Option Addr) (n c : Nat) (xs : List Mk) (tot : Int) (w : World) (h : MarksAt w A n xs) (hn : n ≤ 1048576) :
    Calls Try.prog 33 #[.slice A n c, .int .i64 tot] w (NewIB w (ForF xs tot) (B (ForP xs tot))) := by
  have HPD := Lib.hid (show ForP xs tot ↔ ((LenF xs).2.2 = true ∧ InR tot (LenF xs).1 (LenF xs).2.1) from Iff.rfl)
  obtain ⟨L, HL⟩ : ∃ q, Hid (LenF xs = q) := ⟨_, rfl⟩
  rw [HL.out] at HPD
  obtain ⟨lo, hi, ok⟩ := L
  simp only at HPD
  by_cases hp : ForP xs tot
  · obtain ⟨x, hx, hxok, he, ht0, ht1⟩ := forP_tree hp
    rw [he, B_true hp]
    have HX := Lib.hid hx
    have HXO := Lib.hid hxok
    obtain ⟨hok, hin⟩ := HPD.out.1 hp
    have HIN := Lib.hid hin
    subst hok
    clear hx he hp hin hxok
    go_enter Try.func33, Try.ntmps33
    go_wp2_with (fail)
    refine kBV (iLengthsOf_any A n c xs _ h hn) ?_
    intro w1 hb1
    rw [HL.out]
    simp only [lenV]
    go_wp2_with (fail)
    refine kS (in_any tot lo hi _) ?_ (fun hne => absurd HIN.out hne.out)
    intro _
    go_wp2_with (fail)
    refine kBuild (iBuild_any A n c xs _ (h.below hb1) hn) (fun _ hne _ => absurd ⟨x, HX.out⟩ hne.out) ?_
    intro w2 y a HY hb2 hpt
    obtain rfl : y = x := TIs.eq HY.out HX.out
    have h12 := hb1.trans (hb2.mono hb1.size)
    have HPT := Lib.hid hpt
    clear hpt
    go_wp2_with (fail)
    refine kNewI (lastsFor_any y HX.out.1 HXO.out (by have := HX.out.steps; omega) a tot 209 _ HPT.out (by omega) ht1 (by have := HX.out.steps; omega) (by have := HX.out.2.2; rw [← HX.out.2.1] at this; omega)) ?_
    intro A' c' w3 hown hb3
    go_wp2
    refine bodyPost_ret (v := .tuple #[.slice A' (forT y tot).length c', .bool true]) (by simp [results, Try.results33, go_sem]) rfl ⟨A', c', rfl, own_base hown h12.size, h12.trans (hb3.mono h12.size)⟩
  · rw [forF_neg hp, B_false hp]
    have HP := Lib.hid hp
    clear hp
    cases ok with
    | false =>
      go_enter Try.func33, Try.ntmps33
      go_wp2_with (fail)
      refine kBV (iLengthsOf_any A n c xs _ h hn) ?_
      intro w1 hb1
      rw [HL.out]
      simp only [lenV]
      go_wp2
      refine bodyPost_ret (v := .tuple #[.slice none 0 0, .bool false]) (by simp [results, Try.results33, go_sem]) rfl ⟨_, _, rfl, OwnI.nil w1 _, hb1⟩
    | true =>
      go_enter Try.func33, Try.ntmps33
      go_wp2_with (fail)
      refine kBV (iLengthsOf_any A n c xs _ h hn) ?_
      intro w1 hb1
      rw [HL.out]
      simp only [lenV]
      go_wp2_with (fail)
      refine kS (in_any tot lo hi _) (fun hin => absurd (HPD.out.2 ⟨trivial, hin.out⟩) HP.out) ?_
      intro _
      go_wp2
      refine bodyPost_ret (v := .tuple #[.slice none 0 0, .bool false]) (by simp [results, Try.results33, go_sem]) rfl ⟨_, _, rfl, OwnI.nil w1 _, hb1⟩

end Go.Proofs.Ytookhelfbnhadaa
