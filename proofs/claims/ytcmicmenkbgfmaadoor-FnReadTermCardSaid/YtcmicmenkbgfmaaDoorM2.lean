/- Terms as trees, their marks, and the stack machine that reads marks: plain facts, no program. -/
import Derived.Test.YtcmicmenkbgfmaaDoorM1
namespace Go.Proofs.YtcmicmenkbgfmaaDoor

inductive Tm where
  | step (l h : Int) : Tm
  | two (k : Int) (a b : Tm) : Tm
  | one (a : Tm) (h : Int) : Tm

def marksOf : Tm → List Mk
  | .step l h => [(0, l, h)]
  | .two k a b => marksOf a ++ marksOf b ++ [(k, 0, 0)]
  | .one a h => marksOf a ++ [(3, 0, h)]
def Wf : Tm → Prop
  | .step l h => 0 ≤ l ∧ l ≤ h ∧ h ≤ 19
  | .two k a b => (k = 1 ∨ k = 2) ∧ Wf a ∧ Wf b
  | .one a h => Wf a ∧ 0 ≤ h ∧ h ≤ 19
def dflt : Tm := .step 0 0

/-- What a mark makes of the parts that are there (the last one is the top). -/
def push (st : List Tm) (m : Mk) : Option (List Tm) :=
  if isStep m then some (st ++ [.step m.2.1 m.2.2])
  else if isTwo m then (if 2 ≤ st.length then some (st.take (st.length - 2) ++ [.two m.1 (st.getD (st.length - 2) dflt) (st.getD (st.length - 1) dflt)]) else none)
  else if isOne m then (if 1 ≤ st.length then some (st.take (st.length - 1) ++ [.one (st.getD (st.length - 1) dflt) m.2.2]) else none)
  else none
def runM (t : List Mk) : Option (List Tm) := t.foldl (fun o m => o.bind fun st => push st m) (some [])
theorem runM_nil : runM [] = some [] := rfl
theorem runM_snoc (t : List Mk) (m : Mk) : runM (t ++ [m]) = (runM t).bind fun st => push st m := by
  unfold runM; rw [List.foldl_append]; rfl
theorem foldl_none (t : List Mk) : t.foldl (fun o m => o.bind fun st => push st m) (none : Option (List Tm)) = none := by
  induction t with
  | nil => rfl
  | cons m t ih => exact ih
theorem runM_none {t : List Mk} (h : runM t = none) (u : List Mk) : runM (t ++ u) = none := by
  unfold runM at *; rw [List.foldl_append, h]; exact foldl_none u

theorem push_step {st : List Tm} {m : Mk} (h : isStep m) : push st m = some (st ++ [.step m.2.1 m.2.2]) := by rw [push, if_pos h]
theorem not_step_two {m : Mk} (h : isTwo m) : ¬ isStep m := not_step_of (by rcases h.1 with h | h <;> omega)
theorem not_step_one {m : Mk} (h : isOne m) : ¬ isStep m := not_step_of (by have := h.1; omega)
theorem not_two_one {m : Mk} (h : isOne m) : ¬ isTwo m := fun hh => by have := h.1; rcases hh.1 with h | h <;> omega
theorem push_two {st : List Tm} {m : Mk} (h : isTwo m) (hl : 2 ≤ st.length) : push st m = some (st.take (st.length - 2) ++ [.two m.1 (st.getD (st.length - 2) dflt) (st.getD (st.length - 1) dflt)]) := by
  rw [push, if_neg (not_step_two h), if_pos h, if_pos hl]
theorem push_two_none {st : List Tm} {m : Mk} (h : isTwo m) (hl : ¬ 2 ≤ st.length) : push st m = none := by
  rw [push, if_neg (not_step_two h), if_pos h, if_neg hl]
theorem push_one {st : List Tm} {m : Mk} (h : isOne m) (hl : 1 ≤ st.length) : push st m = some (st.take (st.length - 1) ++ [.one (st.getD (st.length - 1) dflt) m.2.2]) := by
  rw [push, if_neg (not_step_one h), if_neg (not_two_one h), if_pos h, if_pos hl]
theorem push_one_none {st : List Tm} {m : Mk} (h : isOne m) (hl : ¬ 1 ≤ st.length) : push st m = none := by
  rw [push, if_neg (not_step_one h), if_neg (not_two_one h), if_pos h, if_neg hl]
theorem push_bad {st : List Tm} {m : Mk} (h : ¬ MOk m) : push st m = none := by
  rw [push, if_neg (fun hh => h (.inl hh)), if_neg (fun hh => h (.inr (.inl hh))), if_neg (fun hh => h (.inr (.inr hh)))]

theorem isStep_of {l h : Int} (w : Wf (.step l h)) : isStep (0, l, h) := by
  obtain ⟨h1, h2, h3⟩ := w; exact ⟨rfl, h1, h2, Int.le_trans h1 h2, h3⟩
theorem isTwo_of {k : Int} {a b : Tm} (w : Wf (.two k a b)) : isTwo (k, 0, 0) := ⟨w.1, rfl, rfl⟩
theorem isOne_of {a : Tm} {h : Int} (w : Wf (.one a h)) : isOne (3, 0, h) := ⟨rfl, rfl, w.2.1, w.2.2⟩

theorem runM_marks (x : Tm) : Wf x → ∀ t, runM (t ++ marksOf x) = (runM t).map (· ++ [x]) := by
  induction x with
  | step l h =>
    intro w t
    rw [marksOf, runM_snoc]
    cases runM t with
    | none => rfl
    | some st => exact push_step (isStep_of w)
  | two k a b iha ihb =>
    intro w t
    rw [marksOf, ← List.append_assoc, runM_snoc, ← List.append_assoc, ihb w.2.2, iha w.2.1]
    cases runM t with
    | none => rfl
    | some st =>
      show push (st ++ [a] ++ [b]) (k, 0, 0) = _
      rw [push_two (isTwo_of w) (by simp)]
      simp
  | one a h ih =>
    intro w t
    rw [marksOf, ← List.append_assoc, runM_snoc, ih w.1]
    cases runM t with
    | none => rfl
    | some st =>
      show push (st ++ [a]) (3, 0, h) = _
      rw [push_one (isOne_of w) (by simp)]
      simp

def allMarks (st : List Tm) : List Mk := (st.map marksOf).flatten
theorem allMarks_append (a b : List Tm) : allMarks (a ++ b) = allMarks a ++ allMarks b := by simp [allMarks]
theorem allMarks_one (x : Tm) : allMarks [x] = marksOf x := by simp [allMarks]

theorem push_sound {st st' : List Tm} {m : Mk} (hw : ∀ x ∈ st, Wf x) (h : push st m = some st') : allMarks st' = allMarks st ++ [m] ∧ ∀ x ∈ st', Wf x := by
  by_cases h0 : isStep m
  · rw [push_step h0] at h
    obtain rfl := (Option.some.inj h).symm
    refine ⟨?_, fun x hx => ?_⟩
    · rw [allMarks_append, allMarks_one, marksOf, ← h0.1]
    · rcases List.mem_append.1 hx with hx | hx
      · exact hw x hx
      · obtain rfl := List.mem_singleton.1 hx
        exact ⟨h0.2.1, h0.2.2.1, h0.2.2.2.2⟩
  · by_cases h1 : isTwo m
    · by_cases hl : 2 ≤ st.length
      · rw [push_two h1 hl] at h
        obtain rfl := (Option.some.inj h).symm
        have e : st = st.take (st.length - 2) ++ [st.getD (st.length - 2) dflt, st.getD (st.length - 1) dflt] := by
          apply List.ext_getElem
          · simp; omega
          · intro i h3 h4
            rcases Nat.lt_or_ge i (st.length - 2) with hi | hi
            · rw [List.getElem_append_left (by simp; omega)]; simp
            · rw [List.getElem_append_right (by simp; omega)]
              rcases Nat.eq_or_lt_of_le hi with rfl | hi2
              · simp [List.getD, h3]
              · obtain rfl : i = st.length - 1 := by omega
                have : st.length - 1 - (st.length - 2) = 1 := by omega
                simp [List.getD, h3]
                simp only [this]
                simp
        have m1 : st.getD (st.length - 2) dflt ∈ st := by
          have : st.length - 2 < st.length := by omega
          simp [List.getD, this]
        have m2 : st.getD (st.length - 1) dflt ∈ st := by
          have : st.length - 1 < st.length := by omega
          simp [List.getD, this]
        refine ⟨?_, fun x hx => ?_⟩
        · conv => rhs; rw [e]
          rw [allMarks_append, allMarks_append, allMarks_one, marksOf]
          obtain ⟨k, l, h⟩ := m
          obtain ⟨_, h2, h3⟩ := h1
          simp only at h2 h3
          subst h2 h3
          simp [allMarks]
        · rcases List.mem_append.1 hx with hx | hx
          · exact hw x (List.mem_of_mem_take hx)
          · obtain rfl := List.mem_singleton.1 hx
            exact ⟨h1.1, hw _ m1, hw _ m2⟩
      · rw [push_two_none h1 hl] at h; cases h
    · by_cases h2 : isOne m
      · by_cases hl : 1 ≤ st.length
        · rw [push_one h2 hl] at h
          obtain rfl := (Option.some.inj h).symm
          have e : st = st.take (st.length - 1) ++ [st.getD (st.length - 1) dflt] := by
            apply List.ext_getElem
            · simp; omega
            · intro i h3 h4
              rcases Nat.lt_or_ge i (st.length - 1) with hi | hi
              · rw [List.getElem_append_left (by simp; omega)]; simp
              · rw [List.getElem_append_right (by simp; omega)]
                obtain rfl : i = st.length - 1 := by omega
                simp [List.getD, h3]
          have m2 : st.getD (st.length - 1) dflt ∈ st := by
            have : st.length - 1 < st.length := by omega
            simp [List.getD, this]
          refine ⟨?_, fun x hx => ?_⟩
          · conv => rhs; rw [e]
            rw [allMarks_append, allMarks_append, allMarks_one, marksOf, allMarks_one]
            obtain ⟨k, l, h⟩ := m
            obtain ⟨h3, h4, _⟩ := h2
            simp only at h3 h4
            subst h3 h4
            simp
          · rcases List.mem_append.1 hx with hx | hx
            · exact hw x (List.mem_of_mem_take hx)
            · obtain rfl := List.mem_singleton.1 hx
              exact ⟨hw _ m2, h2.2.2.1, h2.2.2.2⟩
        · rw [push_one_none h2 hl] at h; cases h
      · rw [push_bad (fun hh => by rcases hh with hh | hh | hh; exact h0 hh; exact h1 hh; exact h2 hh)] at h; cases h

theorem runM_sound (t : List Mk) : ∀ {st}, runM t = some st → allMarks st = t ∧ ∀ x ∈ st, Wf x := by
  have key : ∀ n, ∀ {st}, runM (t.take n) = some st → allMarks st = t.take n ∧ ∀ x ∈ st, Wf x := by
    intro n
    induction n with
    | zero =>
      intro st h
      rw [List.take_zero, runM_nil] at h
      obtain rfl := (Option.some.inj h).symm
      exact ⟨by simp [allMarks], fun x hx => by cases hx⟩
    | succ n ih =>
      intro st h
      rcases Nat.lt_or_ge n t.length with hn | hn
      · rw [List.take_succ_eq_append_getElem hn, runM_snoc] at h
        cases hr : runM (t.take n) with
        | none => rw [hr] at h; cases h
        | some s =>
          rw [hr] at h
          obtain ⟨h1, h2⟩ := ih hr
          have := push_sound h2 h
          rw [List.take_succ_eq_append_getElem hn, ← h1]
          exact this
      · rw [List.take_of_length_le (by omega)] at h ⊢
        rw [List.take_of_length_le hn] at ih
        exact ih h
  intro st h
  have := key t.length (st := st) (by rw [List.take_length]; exact h)
  rwa [List.take_length] at this

/-- t is a term: the marks of a tree, at most 11 of them. -/
def TOk (t : List Mk) : Prop := ∃ x, Wf x ∧ marksOf x = t ∧ t.length ≤ 11
theorem tOk_of_run {t : List Mk} {x : Tm} (h : runM t = some [x]) (hl : t.length ≤ 11) : Wf x ∧ marksOf x = t ∧ t.length ≤ 11 := by
  obtain ⟨h1, h2⟩ := runM_sound t h
  rw [allMarks_one] at h1
  exact ⟨h2 x (by simp), h1, hl⟩
theorem run_of_tOk {t : List Mk} {x : Tm} (h : Wf x ∧ marksOf x = t ∧ t.length ≤ 11) : runM t = some [x] := by
  have := runM_marks x h.1 []
  rw [List.nil_append, runM_nil, h.2.1] at this
  simpa using this
theorem marks_inj {x y : Tm} (hx : Wf x) (hy : Wf y) (h : marksOf x = marksOf y) : x = y := by
  have h1 := runM_marks x hx []
  have h2 := runM_marks y hy []
  rw [List.nil_append, runM_nil] at h1 h2
  rw [h, h2] at h1
  simpa using h1.symm
theorem marks_pos (x : Tm) : 0 < (marksOf x).length := by cases x <;> simp [marksOf] <;> omega

end Go.Proofs.YtcmicmenkbgfmaaDoor
