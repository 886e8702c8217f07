/- Plain facts of terms for the laws over draws: steps and marks, terms put together, run back, lengths for a whole length, trimmed. -/
import Derived.Test.YtookhelfbnhadaaQ1
import Derived.Test.YtookhelfbnhadaaMG
namespace Go.Proofs.Ytookhelfbnhadaa
open Go.RowKit

/-- How many marks MarkWithin. -/
def onesIn (xs : List Mk) : Nat := xs.countP fun m => m.1 == 3
theorem onesIn_append (xs ys : List Mk) : onesIn (xs ++ ys) = onesIn xs + onesIn ys := by simp [onesIn]
theorem onesIn_take_succ {xs : List Mk} {k : Nat} (hk : k < xs.length) : onesIn (xs.take (k + 1)) = onesIn (xs.take k) + if (xs.getD k (0, 0, 0)).1 = 3 then 1 else 0 := by
  rw [List.take_succ_eq_append_getElem hk, onesIn_append]
  simp [onesIn, List.getD, hk, List.countP_cons]
theorem marks_count {t : Tm} (w : Wf t) : (marksOf t).length + 1 = stepsT t + onesIn (marksOf t) + stepsT t := by
  induction t with
  | step l h => simp [marksOf, stepsT, onesIn]
  | one a h ih =>
    have := ih w.1
    rw [marksOf, onesIn_append, stepsT]
    simp [onesIn] at this ⊢
    omega
  | two k a b iha ihb =>
    have := iha w.2.1
    have := ihb w.2.2
    have hk : k ≠ 3 := by rcases w.1 with h | h <;> omega
    rw [marksOf, onesIn_append, onesIn_append, stepsT]
    simp [onesIn, hk] at *
    omega

theorem tIs_two {xs ys : List Mk} {x y : Tm} {k : Int} (hx : TIs xs x) (hy : TIs ys y) (hk : k = 1 ∨ k = 2) (hl : xs.length + ys.length ≤ 10) : TIs (xs ++ ys ++ [(k, 0, 0)]) (.two k x y) :=
  ⟨⟨hk, hx.1, hy.1⟩, by rw [marksOf, hx.2.1, hy.2.1], by simp; omega⟩
theorem tIs_one {xs : List Mk} {x : Tm} {h : Int} (hx : TIs xs x) (h0 : 0 ≤ h) (h1 : h ≤ 19) (hl : xs.length ≤ 10) : TIs (xs ++ [(3, 0, h)]) (.one x h) :=
  ⟨⟨hx.1, h0, h1⟩, by rw [marksOf, hx.2.1], by simp; omega⟩
theorem tIs_step {l h : Int} (h0 : 0 ≤ l) (h1 : l ≤ h) (h2 : h ≤ 19) : TIs [(0, l, h)] (.step l h) := ⟨⟨h0, h1, h2⟩, rfl, by simp⟩
theorem tIs_pos {xs : List Mk} {x : Tm} (h : TIs xs x) : 0 < xs.length := by rw [← h.2.1]; exact marks_pos x

theorem backT_wf {t : Tm} (w : Wf t) : Wf (backT t) := by
  induction t with
  | step l h => exact w
  | one a h ih => exact ⟨ih w.1, w.2⟩
  | two k a b iha ihb =>
    simp only [backT]
    split
    · exact ⟨w.1, ihb w.2.2, iha w.2.1⟩
    · exact ⟨w.1, iha w.2.1, ihb w.2.2⟩
theorem backT_back (t : Tm) : backT (backT t) = t := by
  induction t with
  | step l h => rfl
  | one a h ih => simp only [backT, ih]
  | two k a b iha ihb =>
    by_cases hk : k = 1
    · simp only [backT, if_pos hk, iha, ihb]
    · simp only [backT, if_neg hk, iha, ihb]
theorem backT_steps (t : Tm) : stepsT (backT t) = stepsT t := by
  induction t with
  | step l h => rfl
  | one a h ih => simp only [backT, stepsT, ih]
  | two k a b iha ihb =>
    simp only [backT]
    split <;> simp only [stepsT, iha, ihb] <;> omega
theorem backT_is {xs : List Mk} {x : Tm} (h : TIs xs x) : TIs (marksOf (backT x)) (backT x) := ⟨backT_wf h.1, rfl, by rw [backT_marks, h.2.1]; exact h.2.2⟩
theorem backT_len (t : Tm) : lenS (backT t) = lenS t := by
  induction t with
  | step l h => rfl
  | one a h ih => simp only [backT, lenS, ih]
  | two k a b iha ihb =>
    by_cases hk : k = 1
    · simp only [backT, lenS, if_pos hk, iha, ihb]
      rw [Int.add_comm (lenS b).1, Int.add_comm (lenS b).2.1, Bool.and_comm]
    · simp only [backT, lenS, if_neg hk, iha, ihb]
theorem sum_shift (xs ys : List Int) (n : Int) : (xs.map fun x => ys.count (n - x)).sum = (ys.map fun y => xs.count (n - y)).sum := by
  induction xs with
  | nil =>
    simp only [List.map_nil, List.sum_nil, List.count_nil]
    induction ys with
    | nil => rfl
    | cons y ys ih => simp only [List.map_cons, List.sum_cons, Nat.zero_add]; exact ih
  | cons x xs ih =>
    rw [List.map_cons, List.sum_cons, ih]
    have e : ∀ zs : List Int, (zs.map fun y => (x :: xs).count (n - y)).sum = (zs.map fun y => xs.count (n - y)).sum + zs.count (n - x) := by
      intro zs
      induction zs with
      | nil => rfl
      | cons z zs ihz =>
        simp only [List.map_cons, List.sum_cons] at ihz ⊢
        rw [ihz, List.count_cons, List.count_cons]
        by_cases h : x = n - z
        · rw [if_pos (by simp; omega), if_pos (by simp; omega)]; omega
        · rw [if_neg (by simp; omega), if_neg (by simp; omega)]; omega
    rw [e ys]; omega
theorem cnt_back (t : Tm) : ∀ n, cntT (backT t) n = cntT t n := by
  induction t with
  | step l h => intro n; rfl
  | one a h ih => intro n; simp only [backT]; rw [cnt_within, cnt_within, ih]
  | two k a b iha ihb =>
    intro n
    by_cases hk : k = 1
    · subst hk
      show (lensT (.two 1 (backT b) (backT a))).count n = (lensT (.two 1 a b)).count n
      simp only [lensT]
      rw [if_pos trivial, if_pos trivial, count_flatMap, count_flatMap]
      simp only [count_shift]
      rw [sum_shift (lensT (backT b))]
      have e1 : ∀ m, (lensT (backT b)).count m = (lensT b).count m := ihb
      have e2 : ∀ (f : Int → Nat), ((lensT (backT a)).map f).sum = ((lensT a).map f).sum := by
        intro f
        have hp : (lensT (backT a)).Perm (lensT a) := List.perm_iff_count.2 iha
        exact (hp.map f).sum_nat
      simp only [e1]
      exact e2 _
    · simp only [backT, if_neg hk]
      rw [cnt_both hk, cnt_both hk, iha, ihb]

/-- Such lengths last so long. -/
theorem getD_mid (pre mid post : List Int) {i : Nat} (hi : i < mid.length) : (pre ++ mid ++ post).getD (pre.length + i) 0 = mid.getD i 0 := by
  simp only [List.getD]
  rw [List.getElem?_append_left (by simp; omega), List.getElem?_append_right (by omega), Nat.add_sub_cancel_left]
theorem lastV_for {t : Tm} (w : Wf t) (hs : stepsT t ≤ 1000) : ∀ (tot : Int), (lenS t).2.2 = true → (lenS t).1 ≤ tot → tot ≤ (lenS t).2.1 → ∀ pre post, lastV t (pre ++ forT t tot ++ post) pre.length = (tot, true) := by
  induction t with
  | step l h =>
    intro tot _ h1 h2 pre post
    have e : (pre ++ [tot] ++ post).getD pre.length 0 = tot := getD_mid pre [tot] post (i := 0) (by simp)
    simp only [forT, lastV, e]
    rw [B_true ⟨h1, h2⟩]
  | one a h ih =>
    intro tot hok h1 h2 pre post
    simp only [lenS, Bool.and_eq_true, decide_eq_true_eq] at hok h1 h2
    simp only [forT, lastV, ih w.1 (by simpa [stepsT] using hs) tot hok.1 h1 (by omega) pre post]
    simp; omega
  | two k a b iha ihb =>
    intro tot hok h1 h2 pre post
    have ba := lenS_bd w.2.1
    have bb := lenS_bd w.2.2
    simp only [stepsT] at hs
    have hsa : stepsT a ≤ 1000 := by omega
    have hsb : stepsT b ≤ 1000 := by omega
    by_cases hk : k = 1
    · simp only [lenS, if_pos hk, Bool.and_eq_true] at hok h1 h2
      simp only [forT, if_pos hk, lastV]
      have la := lenS_le w.2.1 hok.1
      have lb := lenS_le w.2.2 hok.2
      generalize hf : max (lenS a).1 (tot - (lenS b).2.1) = f
      have e1 : pre ++ (forT a f ++ forT b (tot - f)) ++ post = pre ++ forT a f ++ (forT b (tot - f) ++ post) := by simp
      have e2 : pre ++ (forT a f ++ forT b (tot - f)) ++ post = (pre ++ forT a f) ++ forT b (tot - f) ++ post := by simp
      have h3 := iha w.2.1 hsa f hok.1 (by omega) (by omega) pre (forT b (tot - f) ++ post)
      have h4 := ihb w.2.2 hsb (tot - f) hok.2 (by omega) (by omega) (pre ++ forT a f) post
      rw [← e1] at h3
      rw [← e2, List.length_append, forT_len] at h4
      rw [h3, h4]
      simp only [Bool.and_self]
      have e3 : f + (tot - f) = tot := by omega
      rw [e3]
      rw [show wrap64 tot = tot from by unfold wrap64; omega]
    · simp only [lenS, if_neg hk, Bool.and_eq_true, decide_eq_true_eq] at hok h1 h2
      simp only [forT, if_neg hk, lastV]
      have e1 : pre ++ (forT a tot ++ forT b tot) ++ post = pre ++ forT a tot ++ (forT b tot ++ post) := by simp
      have e2 : pre ++ (forT a tot ++ forT b tot) ++ post = (pre ++ forT a tot) ++ forT b tot ++ post := by simp
      have h3 := iha w.2.1 hsa tot hok.1.1 (by omega) (by omega) pre (forT b tot ++ post)
      have h4 := ihb w.2.2 hsb tot hok.1.2 (by omega) (by omega) (pre ++ forT a tot) post
      rw [← e1] at h3
      rw [← e2, List.length_append, forT_len] at h4
      rw [h3, h4]
      simp

/-- Trimmed terms. -/
theorem trim_len {t : Tm} (w : Wf t) : (lenS (trimT t)).2.2 = (lenS t).2.2 ∧ ((lenS t).2.2 = true → lenS (trimT t) = lenS t) := by
  induction t with
  | step l h => exact ⟨rfl, fun _ => rfl⟩
  | one a h ih =>
    obtain ⟨e, f⟩ := ih w.1
    simp only [trimT]
    by_cases hc : (lenS (trimT a)).2.2 = true ∧ (lenS (trimT a)).2.1 ≤ h
    · rw [if_pos hc]
      have ha : (lenS a).2.2 = true := by rw [← e]; exact hc.1
      have hf := f ha
      have hl := lenS_le w.1 ha
      have h2 := hc.2
      rw [hf] at h2
      have hle : lenS (.one a h) = lenS a := by
        simp only [lenS]
        rw [show min (lenS a).2.1 h = (lenS a).2.1 by omega, ha, decide_eq_true (show (lenS a).1 ≤ h by omega)]
        simp only [Bool.and_self]
        rw [← ha]
      rw [hle, hf]
      first | exact ⟨rfl, fun _ => rfl⟩ | simp
    · rw [if_neg hc]
      cases ha : (lenS a).2.2 with
      | false =>
        have : (lenS (trimT a)).2.2 = false := by rw [e, ha]
        simp [lenS, this, ha]
      | true =>
        have hf := f ha
        simp only [lenS, hf]
        first | exact ⟨rfl, fun _ => rfl⟩ | simp
  | two k a b iha ihb =>
    obtain ⟨ea, fa⟩ := iha w.2.1
    obtain ⟨eb, fb⟩ := ihb w.2.2
    simp only [trimT]
    cases ha : (lenS a).2.2 with
    | false =>
      have : (lenS (trimT a)).2.2 = false := by rw [ea, ha]
      simp only [lenS, this, ha]
      by_cases hk : k = 1 <;> simp [hk]
    | true =>
      cases hb : (lenS b).2.2 with
      | false =>
        have : (lenS (trimT b)).2.2 = false := by rw [eb, hb]
        simp only [lenS, this, hb]
        by_cases hk : k = 1 <;> simp [hk]
      | true =>
        simp only [lenS, fa ha, fb hb]
        by_cases hk : k = 1 <;> simp [hk]
theorem trim_cnt {t : Tm} (w : Wf t) : ∀ n, cntT (trimT t) n = cntT t n := by
  induction t with
  | step l h => intro n; rfl
  | one a h ih =>
    intro n
    have wt := trimT_wf w.1
    simp only [trimT]
    by_cases hc : (lenS (trimT a)).2.2 = true ∧ (lenS (trimT a)).2.1 ≤ h
    · rw [if_pos hc, cnt_within, ih w.1]
      split
      · rfl
      · rename_i hn
        rw [← ih w.1]
        exact cnt_zero wt (fun hh => by omega)
    · rw [if_neg hc, cnt_within, cnt_within, ih w.1]
  | two k a b iha ihb =>
    intro n
    simp only [trimT]
    by_cases hk : k = 1
    · subst hk
      have wa := w.2.1
      have ba := lenS_bd (trimT_wf wa)
      have bb := lenS_bd wa
      obtain ⟨M, h1, h2⟩ : ∃ M : Nat, (lenS (trimT a)).2.1 < (M : Int) ∧ (lenS a).2.1 < (M : Int) := ⟨((lenS (trimT a)).2.1 + (lenS a).2.1 + 1).toNat, by omega, by omega⟩
      rw [cnt_then (trimT_wf wa) n M h1, cnt_then wa n M h2]
      exact sumN_congr M fun i _ => by rw [iha wa, ihb w.2.2]
    · rw [cnt_both hk, cnt_both hk, iha w.2.1, ihb w.2.2]
theorem trim_trim {t : Tm} (w : Wf t) : trimT (trimT t) = trimT t := by
  induction t with
  | step l h => rfl
  | one a h ih =>
    simp only [trimT]
    by_cases hc : (lenS (trimT a)).2.2 = true ∧ (lenS (trimT a)).2.1 ≤ h
    · rw [if_pos hc]; exact ih w.1
    · rw [if_neg hc]
      simp only [trimT, ih w.1]
      rw [if_neg hc]
  | two k a b iha ihb => simp only [trimT, iha w.2.1, ihb w.2.2]

end Go.Proofs.Ytookhelfbnhadaa
