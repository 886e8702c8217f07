/- Lengths of terms: both LengthsOf, both AlikeTerms; the tree of a row of marks. -/
import Derived.Test.YtookhelfbnhadaaM7
namespace Go.Proofs.Ytookhelfbnhadaa
open Go.RowKit

theorem TIs.eq {xs : List Mk} {x y : Tm} (h : TIs xs x) (h' : TIs xs y) : x = y := by
  have h1 := runM_marks x h.1 []
  have h2 := runM_marks y h'.1 []
  simp only [List.nil_append] at h1 h2
  rw [h.2.1] at h1
  rw [h'.2.1, h1] at h2
  simpa [runM_nil] using h2
/-- What a function of trees says of a row of marks; d of a row that is no term. -/
noncomputable def onT {α : Type} (d : α) (f : Tm → α) (xs : List Mk) : α := @dite _ (TOk xs) (Classical.propDecidable _) (fun h => f h.choose) (fun _ => d)
theorem onT_pos {α : Type} {d : α} {f : Tm → α} {xs : List Mk} {x : Tm} (h : TIs xs x) : onT d f xs = f x := by
  have h1 : TOk xs := ⟨x, h⟩
  unfold onT
  rw [dif_pos h1]
  congr 1
  exact TIs.eq (show TIs xs h1.choose from h1.choose_spec) h
theorem onT_neg {α : Type} {d : α} {f : Tm → α} {xs : List Mk} (h : ¬ TOk xs) : onT d f xs = d := by unfold onT; rw [dif_neg h]

def lenR (x : Tm) : Int × Int × Bool := if (lenS x).2.2 = false then (0, 0, false) else lenS x
noncomputable def LenF (xs : List Mk) : Int × Int × Bool := onT (0, 0, false) lenR xs
theorem TIs.len {xs : List Mk} {x : Tm} (h : TIs xs x) {w : World} {A : Option Addr} {n : Nat} (hm : MarksAt w A n xs) : n ≤ 11 := by rw [← hm.len]; exact h.2.2
theorem TIs.steps {xs : List Mk} {x : Tm} (h : TIs xs x) : stepsT x ≤ 11 := by
  have h1 := stepsT_le x
  rw [h.2.1] at h1
  exact Nat.le_trans h1 h.2.2
theorem TIs.at_ {xs : List Mk} {x : Tm} (h : TIs xs x) {w : World} {A : Option Addr} {n : Nat} (hm : MarksAt w A n xs) : MarksAt w A n (marksOf x) := by rw [h.2.1]; exact hm

set_option maxRecDepth 100000 in
set_option maxHeartbeats 1000000 in
theorem sLengthsOf_any (A : Option Addr) (n c : Nat) (xs : List Mk) (w : World) (h : MarksAt w A n xs) (hn : n ≤ 1048576) (hc : n ≤ c) :
    Calls Try.prog 62 #[.slice A n c] w (Bl w (lenV (LenF xs))) := by
  by_cases hT : TOk xs
  · obtain ⟨x, hx⟩ := hT
    have HX := Lib.hid (show TIs xs x from hx)
    rw [show LenF xs = _ from onT_pos HX.out]
    clear hx
    unfold lenR
    obtain ⟨L, HLe⟩ : ∃ q, Hid (lenS x = q) := ⟨_, rfl⟩
    rw [HLe.out]
    obtain ⟨lo, hi, ok⟩ := L
    cases ok with
    | false =>
      rw [if_pos rfl]
      go_enter Try.func62, Try.ntmps62
      go_wp2_with (fail)
      refine kB (sTermOk_any A n c xs _ h hn) ?_ (fun _ hne _ => absurd ⟨x, HX.out⟩ hne.out)
      intro w1 _ hb1
      go_wp2_with (fail)
      refine kBV (l12Lengths_any x HX.out.1 A n c _ (HX.out.at_ (h.below hb1)) hc (HX.out.len h)) ?_
      intro w2 hb2
      have HB2 := Lib.hid (hb1.trans (hb2.mono hb1.size))
      clear hb2
      rw [HLe.out]
      simp only [lenV]
      go_wp2
      refine bodyPost_ret (v := lenV (0, 0, false)) (by simp [results, Try.results62, go_sem, lenV]) rfl ⟨rfl, HB2.out⟩
    | true =>
      rw [if_neg (by simp)]
      go_enter Try.func62, Try.ntmps62
      go_wp2_with (fail)
      refine kB (sTermOk_any A n c xs _ h hn) ?_ (fun _ hne _ => absurd ⟨x, HX.out⟩ hne.out)
      intro w1 _ hb1
      go_wp2_with (fail)
      refine kBV (l12Lengths_any x HX.out.1 A n c _ (HX.out.at_ (h.below hb1)) hc (HX.out.len h)) ?_
      intro w2 hb2
      have HB2 := Lib.hid (hb1.trans (hb2.mono hb1.size))
      clear hb2
      rw [HLe.out]
      simp only [lenV]
      go_wp2
      refine bodyPost_ret (v := lenV (lo, hi, true)) (by simp [results, Try.results62, go_sem, lenV]) rfl ⟨rfl, HB2.out⟩
  · rw [show LenF xs = _ from onT_neg hT]
    have HT := Lib.hid hT
    clear hT
    go_enter Try.func62, Try.ntmps62
    go_wp2_with (fail)
    refine kB (sTermOk_any A n c xs _ h hn) (fun _ hne _ => absurd hne.out HT.out) ?_
    intro w1 hp hb1
    go_wp2
    refine bodyPost_ret (v := lenV (0, 0, false)) (by simp [results, Try.results62, go_sem, lenV]) rfl ⟨rfl, hb1⟩

set_option maxRecDepth 100000 in
set_option maxHeartbeats 1000000 in
theorem iLengthsOf_any (A : Option Addr) (n c : Nat) (xs : List Mk) (w : World) (h : MarksAt w A n xs) (hn : n ≤ 1048576) :
    Calls Try.prog 35 #[.slice A n c] w (Bl w (lenV (LenF xs))) := by
  by_cases hT : TOk xs
  · obtain ⟨x, hx⟩ := hT
    have HX := Lib.hid (show TIs xs x from hx)
    rw [show LenF xs = _ from onT_pos HX.out]
    clear hx
    have heq := lenI_eq HX.out.1
    unfold lenR
    obtain ⟨L, HLe⟩ : ∃ q, Hid (lenS x = q) := ⟨_, rfl⟩
    obtain ⟨L', HLi⟩ : ∃ q, Hid (lenI x = q) := ⟨_, rfl⟩
    rw [HLe.out, HLi.out] at heq
    rw [HLe.out]
    obtain ⟨lo, hi, ok⟩ := L
    obtain ⟨lo', hi', ok'⟩ := L'
    obtain rfl : ok' = ok := heq.1
    cases ok' with
    | false =>
      rw [if_pos rfl]
      clear heq
      go_enter Try.func35, Try.ntmps35
      go_wp2_with (fail)
      refine kBuild (iBuild_any A n c xs _ h hn) (fun _ hne _ => absurd ⟨x, HX.out⟩ hne.out) ?_
      intro w1 y a HY hb1 hpt
      obtain rfl : y = x := TIs.eq HY.out HX.out
      have HPT := Lib.hid hpt
      clear hpt
      go_wp2_with (fail)
      refine kW (lengths_any y HX.out.1 (by have := HX.out.steps; omega) a _ HPT.out) ?_
      intro m2
      rw [HLi.out]
      simp only [lenV]
      go_wp2
      refine bodyPost_ret (v := lenV (0, 0, false)) (by simp [results, Try.results35, go_sem, lenV]) rfl ⟨rfl, below_drewN hb1 _⟩
    | true =>
      rw [if_neg (by simp)]
      have he := heq.2 rfl
      clear heq
      obtain ⟨rfl, rfl⟩ : lo' = lo ∧ hi' = hi := by simpa using he
      clear he
      go_enter Try.func35, Try.ntmps35
      go_wp2_with (fail)
      refine kBuild (iBuild_any A n c xs _ h hn) (fun _ hne _ => absurd ⟨x, HX.out⟩ hne.out) ?_
      intro w1 y a HY hb1 hpt
      obtain rfl : y = x := TIs.eq HY.out HX.out
      have HPT := Lib.hid hpt
      clear hpt
      go_wp2_with (fail)
      refine kW (lengths_any y HX.out.1 (by have := HX.out.steps; omega) a _ HPT.out) ?_
      intro m2
      rw [HLi.out]
      simp only [lenV]
      go_wp2
      refine bodyPost_ret (v := lenV (lo', hi', true)) (by simp [results, Try.results35, go_sem, lenV]) rfl ⟨rfl, below_drewN hb1 _⟩
  · rw [show LenF xs = _ from onT_neg hT]
    have HT := Lib.hid hT
    clear hT
    go_enter Try.func35, Try.ntmps35
    go_wp2_with (fail)
    refine kBuild (iBuild_any A n c xs _ h hn) ?_ (fun _ x _ hne _ _ => absurd ⟨x, hne.out⟩ HT.out)
    intro w1 hp hb1
    go_wp2
    refine bodyPost_ret (v := lenV (0, 0, false)) (by simp [results, Try.results35, go_sem, lenV]) rfl ⟨rfl, hb1⟩

def AlikeP (xs ys : List Mk) : Prop := TOk xs ∧ TOk ys ∧ LenF xs = LenF ys

set_option maxRecDepth 100000 in
set_option maxHeartbeats 1000000 in
theorem sAlikeTerms_any (A : Option Addr) (n c : Nat) (xs : List Mk) (A' : Option Addr) (n' c' : Nat) (ys : List Mk) (w : World) (h : MarksAt w A n xs) (h' : MarksAt w A' n' ys) (hn : n ≤ 1048576) (hn' : n' ≤ 1048576) (hc : n ≤ c) (hc' : n' ≤ c') :
    Calls Try.prog 39 #[.slice A n c, .slice A' n' c'] w (Bl w (.bool (B (AlikeP xs ys)))) := by
  go_enter Try.func39, Try.ntmps39
  go_wp2_with (fail)
  refine kB (sTermOk_any A n c xs _ h hn) ?_ ?_
  rotate_left
  · intro w1 hp hb1
    go_wp2
    go_ret
    exact ⟨ret_b (B_false (fun hh => hp.out hh.1)).symm, hb1⟩
  intro w1 hp hb1
  have HB1 := Lib.hid hb1
  clear hb1
  go_wp2_with (fail)
  refine kB (sTermOk_any A' n' c' ys _ (h'.below HB1.out) hn') ?_ ?_
  rotate_left
  · intro w2 hq hb2
    go_wp2
    go_ret
    exact ⟨ret_b (B_false (fun hh => hq.out hh.2.1)).symm, HB1.out.trans (hb2.mono HB1.out.size)⟩
  intro w2 hq hb2
  have HB2 := Lib.hid (HB1.out.trans (hb2.mono HB1.out.size))
  clear hb2
  have HA := Lib.hid (show AlikeP xs ys ↔ LenF xs = LenF ys from ⟨fun hh => hh.2.2, fun hh => ⟨hp.out, hq.out, hh⟩⟩)
  obtain ⟨L, HL⟩ : ∃ q, Hid (LenF xs = q) := ⟨_, rfl⟩
  obtain ⟨M, HM⟩ : ∃ q, Hid (LenF ys = q) := ⟨_, rfl⟩
  rw [HL.out, HM.out] at HA
  go_wp2_with (fail)
  refine kBV (sLengthsOf_any A n c xs _ (h.below HB2.out) hn hc) ?_
  intro w3 hb3
  rw [HL.out]
  have HB3 := Lib.hid (HB2.out.trans (hb3.mono HB2.out.size))
  clear hb3
  obtain ⟨a, b, one⟩ := L
  simp only [lenV]
  go_wp2_with (fail)
  refine kBV (sLengthsOf_any A' n' c' ys _ (h'.below HB3.out) hn' hc') ?_
  intro w4 hb4
  rw [HM.out]
  have HB4 := Lib.hid (HB3.out.trans (hb4.mono HB3.out.size))
  clear hb4
  obtain ⟨a', b', two⟩ := M
  simp only [lenV]
  by_cases ha : a = a'
  · subst ha
    by_cases hb : b = b'
    · subst hb
      cases one <;> cases two
      all_goals
        have HZ := Lib.hid HA.out
        clear HA
        go_wp2
        go_ret
        exact ⟨ret_b (by first | (rw [B_true (HZ.out.2 (by simp))]; done) | (rw [B_true (HZ.out.2 (by simp))]; simp; done) | (rw [B_false (fun hh => by have := HZ.out.1 hh; simp at this)]; done) | (rw [B_false (fun hh => by have := HZ.out.1 hh; simp at this)]; simp)), HB4.out⟩
    · have q : (b == b') = false := by simpa using hb
      have HN := Lib.hid (B_false (fun hh => hb (by have := HA.out.1 hh; simp at this; exact this.1)))
      clear hb
      go_wp2
      go_ret
      exact ⟨ret_b HN.out.symm, HB4.out⟩
  · have q : (a == a') = false := by simpa using ha
    have HN := Lib.hid (B_false (fun hh => ha (by have := HA.out.1 hh; simp at this; exact this.1)))
    clear ha
    go_wp2
    go_ret
    exact ⟨ret_b HN.out.symm, HB4.out⟩

set_option maxRecDepth 100000 in
set_option maxHeartbeats 1000000 in
theorem iAlikeTerms_any (A : Option Addr) (n c : Nat) (xs : List Mk) (A' : Option Addr) (n' c' : Nat) (ys : List Mk) (w : World) (h : MarksAt w A n xs) (h' : MarksAt w A' n' ys) (hn : n ≤ 1048576) (hn' : n' ≤ 1048576) :
    Calls Try.prog 38 #[.slice A n c, .slice A' n' c'] w (Bl w (.bool (B (AlikeP xs ys)))) := by
  go_enter Try.func38, Try.ntmps38
  go_wp2_with (fail)
  refine kB (iTermOk_any A n c xs _ h hn) ?_ ?_
  rotate_left
  · intro w1 hp hb1
    go_wp2
    go_ret
    exact ⟨ret_b (B_false (fun hh => hp.out hh.1)).symm, hb1⟩
  intro w1 hp hb1
  have HB1 := Lib.hid hb1
  clear hb1
  go_wp2_with (fail)
  refine kB (iTermOk_any A' n' c' ys _ (h'.below HB1.out) hn') ?_ ?_
  rotate_left
  · intro w2 hq hb2
    go_wp2
    go_ret
    exact ⟨ret_b (B_false (fun hh => hq.out hh.2.1)).symm, HB1.out.trans (hb2.mono HB1.out.size)⟩
  intro w2 hq hb2
  have HB2 := Lib.hid (HB1.out.trans (hb2.mono HB1.out.size))
  clear hb2
  have HA := Lib.hid (show AlikeP xs ys ↔ LenF xs = LenF ys from ⟨fun hh => hh.2.2, fun hh => ⟨hp.out, hq.out, hh⟩⟩)
  obtain ⟨L, HL⟩ : ∃ q, Hid (LenF xs = q) := ⟨_, rfl⟩
  obtain ⟨M, HM⟩ : ∃ q, Hid (LenF ys = q) := ⟨_, rfl⟩
  rw [HL.out, HM.out] at HA
  go_wp2_with (fail)
  refine kBV (iLengthsOf_any A n c xs _ (h.below HB2.out) hn) ?_
  intro w3 hb3
  rw [HL.out]
  have HB3 := Lib.hid (HB2.out.trans (hb3.mono HB2.out.size))
  clear hb3
  obtain ⟨a, b, one⟩ := L
  simp only [lenV]
  go_wp2_with (fail)
  refine kBV (iLengthsOf_any A' n' c' ys _ (h'.below HB3.out) hn') ?_
  intro w4 hb4
  rw [HM.out]
  have HB4 := Lib.hid (HB3.out.trans (hb4.mono HB3.out.size))
  clear hb4
  obtain ⟨a', b', two⟩ := M
  simp only [lenV]
  by_cases ha : a = a'
  · subst ha
    by_cases hb : b = b'
    · subst hb
      cases one <;> cases two
      all_goals
        have HZ := Lib.hid HA.out
        clear HA
        go_wp2
        go_ret
        exact ⟨ret_b (by first | (rw [B_true (HZ.out.2 (by simp))]; done) | (rw [B_true (HZ.out.2 (by simp))]; simp; done) | (rw [B_false (fun hh => by have := HZ.out.1 hh; simp at this)]; done) | (rw [B_false (fun hh => by have := HZ.out.1 hh; simp at this)]; simp)), HB4.out⟩
    · have q : (b == b') = false := by simpa using hb
      have HN := Lib.hid (B_false (fun hh => hb (by have := HA.out.1 hh; simp at this; exact this.1)))
      clear hb
      cases one <;> cases two
      all_goals
        go_wp2
        go_ret
        exact ⟨ret_b HN.out.symm, HB4.out⟩
  · have q : (a == a') = false := by simpa using ha
    have HN := Lib.hid (B_false (fun hh => ha (by have := HA.out.1 hh; simp at this; exact this.1)))
    clear ha
    cases one <;> cases two
    all_goals
      go_wp2
      go_ret
      exact ⟨ret_b HN.out.symm, HB4.out⟩

end Go.Proofs.Ytookhelfbnhadaa
