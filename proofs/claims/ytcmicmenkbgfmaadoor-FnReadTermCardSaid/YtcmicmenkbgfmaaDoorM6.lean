/- Lengths of terms: plain facts; l11Starts, l12Lengths, (*part).lengths, both LengthsOf, both AlikeTerms. -/
import Derived.Test.YtcmicmenkbgfmaaDoorM5
namespace Go.Proofs.YtcmicmenkbgfmaaDoor
open Go.RowKit

/-- The kinds' tests. -/
def markT : Tm → Mk
  | .step l h => (0, l, h)
  | .two k _ _ => (k, 0, 0)
  | .one _ h => (3, 0, h)
theorem marks_last (t : Tm) : (marksOf t).getD ((marksOf t).length - 1) (0, 0, 0) = markT t := by
  cases t <;> simp [marksOf, markT, List.getD]

/-- How many steps. -/
def stepsT : Tm → Nat
  | .step _ _ => 1
  | .two _ a b => stepsT a + stepsT b
  | .one a _ => stepsT a
theorem stepsT_le (t : Tm) : stepsT t ≤ (marksOf t).length := by
  induction t with
  | step l h => simp [stepsT, marksOf]
  | two k a b iha ihb => simp only [stepsT, marksOf, List.length_append, List.length_singleton]; omega
  | one a h ih => simp only [stepsT, marksOf, List.length_append, List.length_singleton]; omega

/-- The reference's lengths. -/
def lenS : Tm → Int × Int × Bool
  | .step l h => (l, h, true)
  | .one a h => ((lenS a).1, min (lenS a).2.1 h, (lenS a).2.2 && decide ((lenS a).1 ≤ h))
  | .two k a b => if k = 1 then ((lenS a).1 + (lenS b).1, (lenS a).2.1 + (lenS b).2.1, (lenS a).2.2 && (lenS b).2.2)
      else (max (lenS a).1 (lenS b).1, min (lenS a).2.1 (lenS b).2.1, (lenS a).2.2 && (lenS b).2.2 && decide (max (lenS a).1 (lenS b).1 ≤ min (lenS a).2.1 (lenS b).2.1))
/-- The program's lengths. -/
def lenI : Tm → Int × Int × Bool
  | .step l h => (l, h, true)
  | .one a h => if (lenI a).2.2 = false then (0, 0, false) else ((lenI a).1, min (lenI a).2.1 h, decide ((lenI a).1 ≤ min (lenI a).2.1 h))
  | .two k a b => if (lenI a).2.2 = false then (0, 0, false) else if (lenI b).2.2 = false then (0, 0, false) else
      if k = 1 then ((lenI a).1 + (lenI b).1, (lenI a).2.1 + (lenI b).2.1, true)
      else (max (lenI a).1 (lenI b).1, min (lenI a).2.1 (lenI b).2.1, decide (max (lenI a).1 (lenI b).1 ≤ min (lenI a).2.1 (lenI b).2.1))
theorem lenS_bd {t : Tm} (w : Wf t) : 0 ≤ (lenS t).1 ∧ (lenS t).1 ≤ 19 * (stepsT t : Int) ∧ 0 ≤ (lenS t).2.1 ∧ (lenS t).2.1 ≤ 19 * (stepsT t : Int) := by
  induction t with
  | step l h => obtain ⟨h1, h2, h3⟩ := w; simp only [lenS, stepsT]; omega
  | two k a b iha ihb =>
    obtain ⟨_, wa, wb⟩ := w
    have ha := iha wa
    have hb := ihb wb
    simp only [lenS, stepsT]
    split <;> simp only <;> omega
  | one a h ih =>
    obtain ⟨wa, h0, h1⟩ := w
    have ha := ih wa
    simp only [lenS, stepsT]
    omega
theorem lenS_le {t : Tm} (w : Wf t) (h : (lenS t).2.2 = true) : (lenS t).1 ≤ (lenS t).2.1 := by
  induction t with
  | step l h => exact w.2.1
  | two k a b iha ihb =>
    obtain ⟨_, wa, wb⟩ := w
    simp only [lenS] at h ⊢
    split
    · rename_i hk
      rw [if_pos hk] at h
      simp only [Bool.and_eq_true] at h
      have := iha wa h.1
      have := ihb wb h.2
      simp only; omega
    · rename_i hk
      rw [if_neg hk] at h
      simp only [Bool.and_eq_true, decide_eq_true_eq] at h
      exact h.2
  | one a h ih =>
    obtain ⟨wa, h0, h1⟩ := w
    simp only [lenS, Bool.and_eq_true, decide_eq_true_eq] at h ⊢
    have := ih wa h.1
    omega
theorem lenI_eq {t : Tm} (w : Wf t) : (lenI t).2.2 = (lenS t).2.2 ∧ ((lenS t).2.2 = true → lenI t = lenS t) := by
  induction t with
  | step l h => exact ⟨rfl, fun _ => rfl⟩
  | two k a b iha ihb =>
    obtain ⟨_, wa, wb⟩ := w
    obtain ⟨ea, fa⟩ := iha wa
    obtain ⟨eb, fb⟩ := ihb wb
    cases ha : (lenS a).2.2 with
    | false =>
      have : (lenI a).2.2 = false := by rw [ea, ha]
      simp only [lenI, lenS, this, ha]
      by_cases hk : k = 1 <;> simp [hk]
    | true =>
      cases hb : (lenS b).2.2 with
      | false =>
        have h1 : (lenI a).2.2 = true := by rw [ea, ha]
        have h2 : (lenI b).2.2 = false := by rw [eb, hb]
        simp only [lenI, lenS, h1, h2, ha, hb]
        by_cases hk : k = 1 <;> simp [hk]
      | true =>
        have h1 := fa ha
        have h2 := fb hb
        simp only [lenI, lenS, h1, h2, ha, hb]
        by_cases hk : k = 1
        · simp [hk]
        · simp [hk]
  | one a h ih =>
    obtain ⟨wa, h0, h1⟩ := w
    obtain ⟨ea, fa⟩ := ih wa
    cases ha : (lenS a).2.2 with
    | false =>
      have : (lenI a).2.2 = false := by rw [ea, ha]
      simp only [lenI, lenS, this, ha]
      simp
    | true =>
      have h1 := fa ha
      have h2 := lenS_le wa ha
      simp only [lenI, lenS, h1, ha]
      have : decide ((lenS a).1 ≤ min (lenS a).2.1 h) = decide ((lenS a).1 ≤ h) := by
        apply decide_eq_decide.2; omega
      simp [this]

/-- A part of a row of marks. -/
theorem MarksAt.part {w : World} {b off n : Nat} {xs : List Mk} (h : MarksAt w (some ⟨b, off, none⟩) n xs) {i j : Nat} (hij : i ≤ j) (hj : j ≤ n) : MarksAt w (some ⟨b, off + i * 3, none⟩) (j - i) ((xs.drop i).take (j - i)) := by
  have hl := h.len
  refine ⟨by simp; omega, fun hn => ⟨b, off + i * 3, rfl, fun k hk => ?_⟩⟩
  obtain ⟨b', off', e, hc⟩ := h.cells (by omega)
  cases e
  obtain ⟨c0, c1, c2⟩ := hc (i + k) (by omega)
  have e : ((xs.drop i).take (j - i)).getD k (0, 0, 0) = xs.getD (i + k) (0, 0, 0) := by
    simp [List.getD, hk]
  rw [e, Nat.add_assoc off, ← Nat.add_mul]
  exact ⟨c0, c1, c2⟩
theorem MarksAt.two {w : World} {b off n : Nat} {x y : List Mk} {m : Mk} (h : MarksAt w (some ⟨b, off, none⟩) n (x ++ y ++ [m])) :
    MarksAt w (some ⟨b, off, none⟩) x.length x ∧ MarksAt w (some ⟨b, off + x.length * 3, none⟩) y.length y ∧ n = x.length + y.length + 1 ∧ w.cell? ⟨b, off + (x.length + y.length) * 3, none⟩ = some (.int .i64 m.1) ∧ w.cell? ⟨b, off + (x.length + y.length) * 3 + 1, none⟩ = some (.int .i64 m.2.1) ∧ w.cell? ⟨b, off + (x.length + y.length) * 3 + 2, none⟩ = some (.int .i64 m.2.2) := by
  have hl : n = x.length + y.length + 1 := by have := h.len; simp at this; omega
  subst hl
  have h1 := h.cut (k := x.length) (by omega)
  have h2 := h.part (i := x.length) (j := x.length + y.length) (by omega) (by omega)
  obtain ⟨b', off', e, c0, c1, c2⟩ := h.at_ (k := x.length + y.length) (by omega)
  cases e
  have e1 : (x ++ y ++ [m]).getD (x.length + y.length) (0, 0, 0) = m := by simp [List.getD]
  have e2 : (x ++ y ++ [m]).take x.length = x := by simp
  have e3 : ((x ++ y ++ [m]).drop x.length).take (x.length + y.length - x.length) = y := by simp
  rw [e1] at c0 c1 c2
  rw [e2] at h1
  rw [e3] at h2
  exact ⟨h1, by simpa using h2, rfl, by simpa using c0, by simpa using c1, by simpa using c2⟩
theorem MarksAt.one {w : World} {b off n : Nat} {x : List Mk} {m : Mk} (h : MarksAt w (some ⟨b, off, none⟩) n (x ++ [m])) :
    MarksAt w (some ⟨b, off, none⟩) x.length x ∧ n = x.length + 1 ∧ w.cell? ⟨b, off + x.length * 3, none⟩ = some (.int .i64 m.1) ∧ w.cell? ⟨b, off + x.length * 3 + 1, none⟩ = some (.int .i64 m.2.1) ∧ w.cell? ⟨b, off + x.length * 3 + 2, none⟩ = some (.int .i64 m.2.2) := by
  have hl : n = x.length + 1 := by have := h.len; simp at this; omega
  subst hl
  have h1 := h.cut (k := x.length) (by omega)
  obtain ⟨b', off', e, c0, c1, c2⟩ := h.at_ (k := x.length) (by omega)
  cases e
  have e1 : (x ++ [m]).getD x.length (0, 0, 0) = m := by simp [List.getD]
  have e2 : (x ++ [m]).take x.length = x := by simp
  rw [e1] at c0 c1 c2
  rw [e2] at h1
  exact ⟨by simpa using h1, rfl, by simpa using c0, by simpa using c1, by simpa using c2⟩
theorem MarksAt.some {w : World} {A : Option Addr} {n : Nat} {xs : List Mk} (h : MarksAt w A n xs) (hn : 0 < n) : ∃ b off, A = some ⟨b, off, none⟩ := by
  obtain ⟨b, off, e, _⟩ := h.cells hn; exact ⟨b, off, e⟩

/-- What is left of a row ahead of some parts. -/
def Ahead (xs pre : List Mk) (k : Nat) (need : Nat) : Prop := ∃ l : List Tm, (∀ x ∈ l, Wf x) ∧ l.length = need ∧ xs.take k = pre ++ allMarks l
theorem ahead_zero {xs pre : List Mk} {k : Nat} (hk : k ≤ xs.length) (h : Ahead xs pre k 0) : k = pre.length := by
  obtain ⟨l, _, hl, e⟩ := h
  obtain rfl : l = [] := List.eq_nil_of_length_eq_zero hl
  have := congrArg List.length e
  simp [allMarks] at this
  omega
theorem ahead_succ {xs pre : List Mk} {k need : Nat} (hk : k ≤ xs.length) (h : Ahead xs pre k (need + 1)) : 0 < k ∧ pre.length + need < k ∧
    (((xs.getD (k - 1) (0, 0, 0)).1 = 0 ∧ Ahead xs pre (k - 1) need) ∨ ((xs.getD (k - 1) (0, 0, 0)).1 = 3 ∧ Ahead xs pre (k - 1) (need + 1)) ∨ (((xs.getD (k - 1) (0, 0, 0)).1 = 1 ∨ (xs.getD (k - 1) (0, 0, 0)).1 = 2) ∧ Ahead xs pre (k - 1) (need + 2))) := by
  obtain ⟨l, hw, hl, e⟩ := h
  obtain ⟨l', z, rfl⟩ : ∃ l' z, l = l' ++ [z] := by
    rcases List.eq_nil_or_concat l with rfl | ⟨l', z, rfl⟩
    · simp at hl
    · exact ⟨l', z, by simp⟩
  have hl' : l'.length = need := by simpa using hl
  rw [allMarks_append, allMarks_one] at e
  have hlen := congrArg List.length e
  simp at hlen
  have hzp := marks_pos z
  have hge : need ≤ (allMarks l').length := by
    rw [← hl']
    clear e hlen hw hl hl'
    induction l' with
    | nil => simp [allMarks]
    | cons a l' ih => have := marks_pos a; simp [allMarks] at ih ⊢; omega
  have hkp : 0 < k := by omega
  have hm : xs.getD (k - 1) (0, 0, 0) = markT z := by
    have h1 : (xs.take k).getD (k - 1) (0, 0, 0) = xs.getD (k - 1) (0, 0, 0) := by
      simp only [List.getD]
      rw [List.getElem?_take_of_lt (by omega)]
    rw [← h1, e, ← marks_last z, ← List.append_assoc]
    have h2 : k - 1 = (pre ++ allMarks l').length + ((marksOf z).length - 1) := by simp; omega
    rw [h2]
    simp only [List.getD]
    rw [List.getElem?_append_right (by omega)]
    simp
  have hcut : ∀ y : List Mk, marksOf z = y ++ [markT z] → xs.take (k - 1) = pre ++ (allMarks l' ++ y) := by
    intro y hy
    have h1 : xs.take (k - 1) = (xs.take k).take (k - 1) := by rw [List.take_take]; congr 1; omega
    rw [h1, e, hy, ← List.append_assoc, ← List.append_assoc]
    have h2 : k - 1 = (pre ++ allMarks l' ++ y).length := by rw [hy] at hlen; simp at hlen ⊢; omega
    rw [h2, List.take_left', List.append_assoc]
    rfl
  refine ⟨hkp, by omega, ?_⟩
  rw [hm]
  have hz := hw z (by simp)
  have hw' : ∀ x ∈ l', Wf x := fun x hx => hw x (by simp [hx])
  cases z with
  | step lo hi => exact .inl ⟨rfl, l', hw', hl', by rw [hcut [] rfl]; simp⟩
  | one a hi =>
    refine .inr (.inl ⟨rfl, l' ++ [a], ?_, by simp [hl'], by rw [hcut (marksOf a) rfl, allMarks_append, allMarks_one]⟩)
    intro x hx
    rcases List.mem_append.1 hx with hx | hx
    · exact hw' x hx
    · obtain rfl := List.mem_singleton.1 hx; exact hz.1
  | two kk a b =>
    refine .inr (.inr ⟨hz.1, l' ++ [a, b], ?_, by simp [hl'], ?_⟩)
    · intro x hx
      rcases List.mem_append.1 hx with hx | hx
      · exact hw' x hx
      · simp at hx
        rcases hx with rfl | rfl
        · exact hz.2.1
        · exact hz.2.2
    · rw [hcut (marksOf a ++ marksOf b) rfl, allMarks_append]; simp [allMarks]
theorem ahead_le {xs pre : List Mk} {k need : Nat} (h : Ahead xs pre k need) : need ≤ k := by
  obtain ⟨l, hw, hl, e⟩ := h
  have := congrArg List.length e
  have hge : l.length ≤ (allMarks l).length := by
    clear e this hl hw
    induction l with
    | nil => simp [allMarks]
    | cons a l' ih => have := marks_pos a; simp [allMarks] at ih ⊢; omega
  simp at this
  omega

set_option maxRecDepth 100000 in
set_option maxHeartbeats 1000000 in
theorem l11Starts_any (A : Option Addr) (n c k : Nat) (xs pre : List Mk) (w : World) (h : MarksAt w A n xs) (hk : k ≤ n) (hn : n ≤ 1048576) (hp : Ahead xs pre k 1) :
    Calls Tryd.prog 42 #[.slice A n c, .int .i64 ((k : Int) - 1)] w (Same w (.int .i64 (pre.length : Int))) := by
  have HL := Lib.hid h.len
  have HP := Lib.hid hp
  clear hp
  go_enter Tryd.func42, Tryd.ntmps42
  go_wp2
  go_loopw [5, 6] (fun d i wr => ∃ (j need : Nat), j ≤ k ∧ i = .int .i64 ((j : Int) - 1) ∧ d = .int .i64 (need : Int) ∧ need ≤ j ∧ w = wr ∧ Ahead xs pre j need) (fun _ i _ => (intOf i + 1).toNat)
  case atStart => exact ⟨k, 1, Nat.le_refl _, rfl, rfl, by have := (ahead_succ (by rw [HL.out]; exact hk) HP.out).1; omega, rfl, HP.out⟩
  case round =>
    obtain ⟨j, need, hj, rfl, rfl, hnj, rfl, ha⟩ := hrel
    have HA := Lib.hid ha
    clear ha
    cases need with
    | zero =>
      have e := ahead_zero (by rw [HL.out]; omega) HA.out
      have HE := Lib.hid e
      clear e
      go_wp2
      go_ret
      exact ⟨ret_i (by rw [← HE.out]), rfl⟩
    | succ need =>
      have hs := ahead_succ (by rw [HL.out]; omega) HA.out
      obtain ⟨hj0, hjn, hs⟩ := hs
      obtain ⟨i, rfl⟩ : ∃ i, j = i + 1 := ⟨j - 1, by omega⟩
      rw [Nat.add_sub_cancel] at hs
      have hi : ((i + 1 : Nat) : Int) - 1 = (i : Int) := by omega
      rw [hi]
      have hpos : (0 : Int) < ((need + 1 : Nat) : Int) := by omega
      obtain ⟨b, off, rfl, c0, c1, c2⟩ := h.at_ (k := i) (by omega)
      obtain ⟨x, HX⟩ : ∃ q, Hid (xs.getD i (0, 0, 0) = q) := ⟨_, rfl⟩
      rw [HX.out] at c0 c1 c2 hs
      obtain ⟨x0, x1, x2⟩ := x
      simp only at c0 c1 c2 hs
      clear hnj hi
      rcases hs with ⟨rfl, ha⟩ | ⟨rfl, ha⟩ | ⟨h12, ha⟩
      · have HA2 := Lib.hid ha
        clear ha
        go_wp2
        go_roundw
        case rel => exact ⟨i, need, by omega, rfl, by go_num, ahead_le HA2.out, by trivial, HA2.out⟩
        case measure => simp [intOf] <;> omega
      · have HA2 := Lib.hid ha
        have hb2 := ahead_le ha
        clear ha
        go_wp2
        go_roundw
        case rel => exact ⟨i, need + 1, by omega, rfl, rfl, ahead_le HA2.out, by trivial, HA2.out⟩
        case measure => simp [intOf] <;> omega
      · have HA2 := Lib.hid ha
        have q0 : (x0 == 0) = false := by simp; omega
        have q3 : (x0 == 3) = false := by simp; omega
        have hb2 := ahead_le ha
        clear ha h12
        go_wp2
        go_roundw
        case rel => exact ⟨i, need + 2, by omega, rfl, by go_num, ahead_le HA2.out, by trivial, HA2.out⟩
        case measure => simp [intOf] <;> omega
theorem l11Starts_at (A : Option Addr) (n c k : Nat) (xs pre : List Mk) (e : Int) (w : World) (h : MarksAt w A n xs) (hk : k ≤ n) (hn : n ≤ 1048576) (hp : Ahead xs pre k 1) (he : e = (k : Int) - 1) :
    Calls Tryd.prog 42 #[.slice A n c, .int .i64 e] w (Same w (.int .i64 (pre.length : Int))) := by
  subst he; exact l11Starts_any A n c k xs pre w h hk hn hp

end Go.Proofs.YtcmicmenkbgfmaaDoor
