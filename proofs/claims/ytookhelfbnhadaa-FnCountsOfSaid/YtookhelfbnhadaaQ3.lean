/- Terms with brackets on the left: plain facts. -/
import Derived.Test.YtookhelfbnhadaaQ2
namespace Go.Proofs.Ytookhelfbnhadaa

/-- Parts put together by one mark, from the first one on. -/
def joinT (k : Int) : List Tm → Tm
  | [] => dflt
  | x :: xs => xs.foldl (fun acc y => .two k acc y) x
def lpT : Tm → Tm × (Int → List Tm)
  | .step l h => (.step l h, fun _ => [.step l h])
  | .one a h => (.one (lpT a).1 h, fun _ => [.one (lpT a).1 h])
  | .two k a b => (joinT k ((lpT a).2 k ++ (lpT b).2 k), fun k' => if k' = k then (lpT a).2 k ++ (lpT b).2 k else [joinT k ((lpT a).2 k ++ (lpT b).2 k)])
def leftT (t : Tm) : Tm := (lpT t).1
def partsT (t : Tm) (k : Int) : List Tm := (lpT t).2 k
theorem leftT_step (l h : Int) : leftT (.step l h) = .step l h := rfl
theorem leftT_one (a : Tm) (h : Int) : leftT (.one a h) = .one (leftT a) h := rfl
theorem leftT_two (k : Int) (a b : Tm) : leftT (.two k a b) = joinT k (partsT a k ++ partsT b k) := rfl
theorem partsT_step (l h k : Int) : partsT (.step l h) k = [leftT (.step l h)] := rfl
theorem partsT_one (a : Tm) (h k : Int) : partsT (.one a h) k = [leftT (.one a h)] := rfl
theorem partsT_same (k : Int) (a b : Tm) : partsT (.two k a b) k = partsT a k ++ partsT b k := if_pos rfl
theorem partsT_other {k k' : Int} (a b : Tm) (h : k' ≠ k) : partsT (.two k a b) k' = [leftT (.two k a b)] := if_neg h
theorem joinT_one (k : Int) (x : Tm) : joinT k [x] = x := rfl
theorem joinT_snoc (k : Int) (xs : List Tm) (y : Tm) (h : xs ≠ []) : joinT k (xs ++ [y]) = .two k (joinT k xs) y := by
  cases xs with
  | nil => exact absurd rfl h
  | cons x xs => simp [joinT, List.foldl_append]
/-- What holds of each part and of what they make. -/
theorem join_ind {k : Int} {P : Tm → Prop} (hP : ∀ a b, P a → P b → P (.two k a b)) : ∀ xs : List Tm, xs ≠ [] → (∀ x ∈ xs, P x) → P (joinT k xs) := by
  intro xs hne h
  cases xs with
  | nil => exact absurd rfl hne
  | cons x xs =>
    simp only [joinT]
    have h0 := h x (by simp)
    have h1 : ∀ y ∈ xs, P y := fun y hy => h y (by simp [hy])
    clear h hne
    induction xs generalizing x with
    | nil => exact h0
    | cons y ys ih => exact ih (.two k x y) (hP _ _ h0 (h1 y (by simp))) (fun z hz => h1 z (by simp [hz]))
theorem parts_ne (t : Tm) (k : Int) : partsT t k ≠ [] := by
  induction t generalizing k with
  | step l h => simp [partsT_step]
  | one a h _ => simp [partsT_one]
  | two k' a b iha ihb =>
    by_cases e : k = k'
    · subst e
      rw [partsT_same]
      have := iha k
      simp [this]
    · rw [partsT_other a b e]; simp
theorem parts_app_ne (a b : Tm) (k : Int) : partsT a k ++ partsT b k ≠ [] := fun h => parts_ne a k (List.append_eq_nil_iff.1 h).1
theorem left_wf_parts {t : Tm} (w : Wf t) : Wf (leftT t) ∧ ∀ k, ∀ p ∈ partsT t k, Wf p := by
  induction t with
  | step l h => exact ⟨w, fun k p hp => by rw [partsT_step] at hp; obtain rfl := List.mem_singleton.1 hp; exact w⟩
  | one a h ih =>
    have h1 : Wf (leftT (.one a h)) := ⟨(ih w.1).1, w.2⟩
    exact ⟨h1, fun k p hp => by rw [partsT_one] at hp; obtain rfl := List.mem_singleton.1 hp; exact h1⟩
  | two k a b iha ihb =>
    have h1 : ∀ p ∈ partsT a k ++ partsT b k, Wf p := fun p hp => by
      rcases List.mem_append.1 hp with hp | hp
      · exact (iha w.2.1).2 k p hp
      · exact (ihb w.2.2).2 k p hp
    have h2 : Wf (leftT (.two k a b)) := join_ind (fun a b ha hb => ⟨w.1, ha, hb⟩) _ (parts_app_ne a b k) h1
    refine ⟨h2, fun k' p hp => ?_⟩
    by_cases e : k' = k
    · subst e; rw [partsT_same] at hp; exact h1 p hp
    · rw [partsT_other a b e] at hp; obtain rfl := List.mem_singleton.1 hp; exact h2
theorem leftT_wf {t : Tm} (w : Wf t) : Wf (leftT t) := (left_wf_parts w).1
/-- How many marks. -/
def sumM (ps : List Tm) : Nat := (ps.map fun p => (marksOf p).length + 1).sum
theorem sumM_append (ps qs : List Tm) : sumM (ps ++ qs) = sumM ps + sumM qs := by simp [sumM]
theorem join_marks (k : Int) : ∀ xs : List Tm, xs ≠ [] → (marksOf (joinT k xs)).length + 1 = sumM xs := by
  intro xs hne
  cases xs with
  | nil => exact absurd rfl hne
  | cons x xs =>
    simp only [joinT]
    clear hne
    induction xs generalizing x with
    | nil => simp [sumM]
    | cons y ys ih =>
      simp only [List.foldl_cons]
      rw [ih (.two k x y)]
      simp [sumM, marksOf]; omega
theorem left_marks_parts (t : Tm) : (marksOf (leftT t)).length = (marksOf t).length ∧ ∀ k, sumM (partsT t k) = (marksOf t).length + 1 := by
  induction t with
  | step l h => exact ⟨rfl, fun k => rfl⟩
  | one a h ih =>
    have h1 : (marksOf (leftT (.one a h))).length = (marksOf (.one a h)).length := by
      rw [leftT_one]; simp only [marksOf, List.length_append, List.length_singleton, ih.1]
    exact ⟨h1, fun k => by rw [partsT_one]; simp [sumM, h1]⟩
  | two k a b iha ihb =>
    have h0 : sumM (partsT a k ++ partsT b k) = (marksOf (.two k a b)).length + 1 := by
      rw [sumM_append, iha.2, ihb.2]; simp [marksOf]; omega
    have h1 : (marksOf (leftT (.two k a b))).length = (marksOf (.two k a b)).length := by
      have := join_marks k (partsT a k ++ partsT b k) (parts_app_ne a b k)
      rw [leftT_two]; omega
    refine ⟨h1, fun k' => ?_⟩
    by_cases e : k' = k
    · subst e; rw [partsT_same]; exact h0
    · rw [partsT_other a b e]; simp [sumM, h1]
theorem leftT_marks (t : Tm) : (marksOf (leftT t)).length = (marksOf t).length := (left_marks_parts t).1
/-- The steps' marks. -/
def stepsOnly (xs : List Mk) : List Mk := xs.filter fun m => m.1 == 0
theorem stepsOnly_append (xs ys : List Mk) : stepsOnly (xs ++ ys) = stepsOnly xs ++ stepsOnly ys := by simp [stepsOnly]
theorem join_steps {k : Int} (hk : k = 1 ∨ k = 2) : ∀ xs : List Tm, xs ≠ [] → stepsOnly (marksOf (joinT k xs)) = (xs.map fun x => stepsOnly (marksOf x)).flatten := by
  intro xs hne
  cases xs with
  | nil => exact absurd rfl hne
  | cons x xs =>
    simp only [joinT]
    clear hne
    have key : ∀ a b : Tm, stepsOnly (marksOf (.two k a b)) = stepsOnly (marksOf a) ++ stepsOnly (marksOf b) := by
      intro a b
      have h0 : k ≠ 0 := by omega
      rw [marksOf, stepsOnly_append, stepsOnly_append]
      simp [stepsOnly, h0]
    induction xs generalizing x with
    | nil => simp
    | cons y ys ih =>
      simp only [List.foldl_cons]
      rw [ih (.two k x y)]
      simp [key]
theorem left_steps_parts {t : Tm} (w : Wf t) : stepsOnly (marksOf (leftT t)) = stepsOnly (marksOf t) ∧ ∀ k, ((partsT t k).map fun x => stepsOnly (marksOf x)).flatten = stepsOnly (marksOf t) := by
  induction t with
  | step l h => exact ⟨rfl, fun k => by simp [partsT_step, leftT_step]⟩
  | one a h ih =>
    have h1 : stepsOnly (marksOf (leftT (.one a h))) = stepsOnly (marksOf (.one a h)) := by
      rw [leftT_one, marksOf, marksOf, stepsOnly_append, stepsOnly_append, (ih w.1).1]
    exact ⟨h1, fun k => by rw [partsT_one]; simp [h1]⟩
  | two k a b iha ihb =>
    have h0 : ((partsT a k ++ partsT b k).map fun x => stepsOnly (marksOf x)).flatten = stepsOnly (marksOf (.two k a b)) := by
      have hk : k ≠ 0 := by rcases w.1 with h | h <;> omega
      rw [List.map_append, List.flatten_append, (iha w.2.1).2, (ihb w.2.2).2, marksOf, stepsOnly_append, stepsOnly_append]
      simp [stepsOnly, hk]
    have h1 : stepsOnly (marksOf (leftT (.two k a b))) = stepsOnly (marksOf (.two k a b)) := by
      rw [leftT_two, join_steps w.1 _ (parts_app_ne a b k), h0]
    refine ⟨h1, fun k' => ?_⟩
    by_cases e : k' = k
    · subst e; rw [partsT_same]; exact h0
    · rw [partsT_other a b e]; simp [h1]
theorem leftT_steps {t : Tm} (w : Wf t) : stepsOnly (marksOf (leftT t)) = stepsOnly (marksOf t) := (left_steps_parts w).1

/-- A part that stays, with another mark last. -/
def Stays (k : Int) (p : Tm) : Prop := leftT p = p ∧ (markT p).1 ≠ k
theorem parts_stays {k : Int} {p : Tm} (h : Stays k p) (hk : k = 1 ∨ k = 2) : partsT p k = [p] := by
  obtain ⟨h1, h2⟩ := h
  cases p with
  | step l h => rfl
  | one a h => rw [partsT_one, h1]
  | two k' a b => rw [partsT_other (k := k') a b (fun e => h2 e.symm), h1]
theorem parts_join {k : Int} (hk : k = 1 ∨ k = 2) : ∀ xs : List Tm, xs ≠ [] → (∀ x ∈ xs, Stays k x) → partsT (joinT k xs) k = xs := by
  intro xs hne h
  cases xs with
  | nil => exact absurd rfl hne
  | cons x xs =>
    have key : ∀ (ys pre : List Tm) (acc : Tm), partsT acc k = pre → (∀ y ∈ ys, Stays k y) → partsT (ys.foldl (fun acc y => .two k acc y) acc) k = pre ++ ys := by
      intro ys
      induction ys with
      | nil => intro pre acc h1 _; simp [h1]
      | cons y ys ih =>
        intro pre acc h1 h2
        rw [List.foldl_cons, ih (pre ++ [y]) (.two k acc y) (by rw [partsT_same, h1, parts_stays (h2 y (by simp)) hk]) (fun z hz => h2 z (by simp [hz]))]
        simp
    have := key xs [x] x (parts_stays (h x (by simp)) hk) (fun y hy => h y (by simp [hy]))
    exact this
theorem join_kind (k : Int) (x y : Tm) (xs : List Tm) : ∃ a b, joinT k (x :: y :: xs) = .two k a b := by
  simp only [joinT, List.foldl_cons]
  induction xs generalizing x y with
  | nil => exact ⟨x, y, rfl⟩
  | cons z zs ih => simp only [List.foldl_cons]; exact ih (.two k x y) z
theorem left_join {k : Int} (hk : k = 1 ∨ k = 2) (x y : Tm) (xs : List Tm) (h : ∀ z ∈ x :: y :: xs, Stays k z) : leftT (joinT k (x :: y :: xs)) = joinT k (x :: y :: xs) := by
  have h1 := parts_join hk (x :: y :: xs) (by simp) h
  obtain ⟨a, b, e⟩ := join_kind k x y xs
  rw [e] at h1 ⊢
  rw [leftT_two, ← partsT_same, h1, ← e]
theorem left_left_parts {t : Tm} (w : Wf t) : (leftT (leftT t) = leftT t ∧ (markT (leftT t)).1 = (markT t).1) ∧ ∀ k, k = 1 ∨ k = 2 → ∀ p ∈ partsT t k, Stays k p := by
  induction t with
  | step l h =>
    refine ⟨⟨rfl, rfl⟩, fun k hk p hp => ?_⟩
    rw [partsT_step] at hp
    obtain rfl := List.mem_singleton.1 hp
    exact ⟨rfl, by show (0 : Int) ≠ k; omega⟩
  | one a h ih =>
    have h1 : leftT (leftT (.one a h)) = leftT (.one a h) := by rw [leftT_one, leftT_one, (ih w.1).1.1]
    refine ⟨⟨h1, rfl⟩, fun k hk p hp => ?_⟩
    rw [partsT_one] at hp
    obtain rfl := List.mem_singleton.1 hp
    exact ⟨h1, by show (3 : Int) ≠ k; omega⟩
  | two k a b iha ihb =>
    have h0 : ∀ p ∈ partsT a k ++ partsT b k, Stays k p := fun p hp => by
      rcases List.mem_append.1 hp with hp | hp
      · exact (iha w.2.1).2 k w.1 p hp
      · exact (ihb w.2.2).2 k w.1 p hp
    obtain ⟨x, y, xs, e⟩ : ∃ x y xs, partsT a k ++ partsT b k = x :: y :: xs := by
      cases ha : partsT a k with
      | nil => exact absurd ha (parts_ne a k)
      | cons x xs =>
        cases xs with
        | cons y ys => exact ⟨x, y, _, rfl⟩
        | nil =>
          cases hb : partsT b k with
          | nil => exact absurd hb (parts_ne b k)
          | cons y ys => exact ⟨x, y, ys, rfl⟩
    have h1 : leftT (leftT (.two k a b)) = leftT (.two k a b) := by
      rw [leftT_two, e]
      rw [e] at h0
      exact left_join w.1 x y xs h0
    have h2 : (markT (leftT (.two k a b))).1 = k := by
      rw [leftT_two, e]
      obtain ⟨a', b', e'⟩ := join_kind k x y xs
      rw [e']; rfl
    refine ⟨⟨h1, h2⟩, fun k' hk' p hp => ?_⟩
    by_cases e' : k' = k
    · subst e'; rw [partsT_same] at hp; exact h0 p hp
    · rw [partsT_other a b e'] at hp
      obtain rfl := List.mem_singleton.1 hp
      exact ⟨h1, by rw [h2]; exact fun h => e' h.symm⟩
theorem left_left {t : Tm} (w : Wf t) : leftT (leftT t) = leftT t := (left_left_parts w).1.1

/-- Counts. -/
theorem cnt_then_sum (a b : Tm) (n : Int) : cntT (.two 1 a b) n = ((lensT a).map fun x => cntT b (n - x)).sum := by
  show ((lensT a).flatMap fun x => (lensT b).map fun y => x + y).count n = _
  rw [count_flatMap]
  simp only [count_shift]
  rfl
theorem cnt_congr {k : Int} {a a' b b' : Tm} (ha : ∀ n, cntT a n = cntT a' n) (hb : ∀ n, cntT b n = cntT b' n) (n : Int) : cntT (.two k a b) n = cntT (.two k a' b') n := by
  by_cases hk : k = 1
  · subst hk
    rw [cnt_then_sum, cnt_then_sum]
    simp only [hb]
    have hp : (lensT a).Perm (lensT a') := List.perm_iff_count.2 ha
    exact (hp.map _).sum_nat
  · rw [cnt_both hk, cnt_both hk, ha, hb]
theorem cnt_assoc (k : Int) (a b c : Tm) (n : Int) : cntT (.two k (.two k a b) c) n = cntT (.two k a (.two k b c)) n := by
  by_cases hk : k = 1
  · subst hk
    have e : lensT (.two 1 (.two 1 a b) c) = lensT (.two 1 a (.two 1 b c)) := by
      simp only [lensT, if_true]
      rw [List.flatMap_assoc]
      congr 1
      funext x
      rw [List.flatMap_map, List.map_flatMap]
      congr 1
      funext y
      rw [List.map_map]
      congr 1
      funext z
      simp only [Function.comp]
      omega
    unfold cntT
    rw [e]
  · rw [cnt_both hk, cnt_both hk, cnt_both hk, cnt_both hk, Nat.mul_assoc]
theorem cnt_join (k : Int) (ps : List Tm) (hp : ps ≠ []) : ∀ qs : List Tm, qs ≠ [] → ∀ n, cntT (joinT k (ps ++ qs)) n = cntT (.two k (joinT k ps) (joinT k qs)) n := by
  intro qs
  have key : ∀ (m : Nat) (qs : List Tm), qs.length = m + 1 → ∀ n, cntT (joinT k (ps ++ qs)) n = cntT (.two k (joinT k ps) (joinT k qs)) n := by
    intro m
    induction m with
    | zero =>
      intro qs hq n
      match qs, hq with
      | [q], _ => rw [joinT_snoc k ps q hp, joinT_one]
    | succ m ih =>
      intro qs hq n
      obtain ⟨qs', q, rfl⟩ : ∃ qs' q, qs = qs' ++ [q] := by
        rcases List.eq_nil_or_concat qs with rfl | ⟨l, z, rfl⟩
        · simp at hq
        · exact ⟨l, z, by simp⟩
      have hq' : qs'.length = m + 1 := by simpa using hq
      have hne : qs' ≠ [] := fun e => by rw [e] at hq'; simp at hq'
      rw [← List.append_assoc, joinT_snoc k (ps ++ qs') q (by simp [hp]), joinT_snoc k qs' q hne, cnt_congr (ih qs' hq') (fun _ => rfl), cnt_assoc]
  intro hq n
  cases qs with
  | nil => exact absurd rfl hq
  | cons q qs => exact key qs.length (q :: qs) rfl n
theorem left_cnt_parts (t : Tm) : (∀ n, cntT (leftT t) n = cntT t n) ∧ ∀ k n, cntT (joinT k (partsT t k)) n = cntT t n := by
  induction t with
  | step l h => exact ⟨fun n => rfl, fun k n => rfl⟩
  | one a h ih =>
    have h1 : ∀ n, cntT (leftT (.one a h)) n = cntT (.one a h) n := fun n => by rw [leftT_one, cnt_within, cnt_within, ih.1]
    exact ⟨h1, fun k n => by rw [partsT_one, joinT_one]; exact h1 n⟩
  | two k a b iha ihb =>
    have h1 : ∀ n, cntT (leftT (.two k a b)) n = cntT (.two k a b) n := fun n => by
      rw [leftT_two, cnt_join k _ (parts_ne a k) _ (parts_ne b k)]
      exact cnt_congr (iha.2 k) (ihb.2 k) n
    refine ⟨h1, fun k' n => ?_⟩
    by_cases e : k' = k
    · subst e; rw [partsT_same, ← leftT_two]; exact h1 n
    · rw [partsT_other a b e, joinT_one]; exact h1 n
theorem left_cnt (t : Tm) (n : Int) : cntT (leftT t) n = cntT t n := (left_cnt_parts t).1 n

/-- Terms with the same counts have the same lengths. -/
theorem len_of_cnt {a b : Tm} (wa : Wf a) (wb : Wf b) (h : ∀ n, cntT a n = cntT b n) : lenR a = lenR b := by
  have key : ∀ n, ((lenS a).2.2 = true ∧ (lenS a).1 ≤ n ∧ n ≤ (lenS a).2.1) ↔ ((lenS b).2.2 = true ∧ (lenS b).1 ≤ n ∧ n ≤ (lenS b).2.1) := fun n => by
    rw [← cnt_pos wa, ← cnt_pos wb, h]
  unfold lenR
  cases ha : (lenS a).2.2 with
  | false =>
    cases hb : (lenS b).2.2 with
    | false => rfl
    | true =>
      have := (key (lenS b).1).2 ⟨hb, Int.le_refl _, lenS_le wb hb⟩
      rw [ha] at this; cases this.1
  | true =>
    have la := lenS_le wa ha
    have h1 := (key (lenS a).1).1 ⟨ha, Int.le_refl _, la⟩
    have h2 := (key (lenS a).2.1).1 ⟨ha, la, Int.le_refl _⟩
    have hb := h1.1
    have lb := lenS_le wb hb
    have h3 := (key (lenS b).1).2 ⟨hb, Int.le_refl _, lb⟩
    have h4 := (key (lenS b).2.1).2 ⟨hb, lb, Int.le_refl _⟩
    rw [if_neg (by simp), if_neg (by rw [hb]; simp)]
    refine Prod.ext ?_ (Prod.ext ?_ ?_)
    · omega
    · omega
    · rw [ha, hb]
/-- The counts of a term from 0 on. -/
def cntsT (x : Tm) : List Int := if (lenS x).2.2 = false then [] else (List.range ((lenS x).2.1 + 1).toNat).map fun n : Nat => (cntT x (n : Int) : Int)
theorem cntsT_congr {a b : Tm} (wa : Wf a) (wb : Wf b) (h : ∀ n, cntT a n = cntT b n) : cntsT a = cntsT b := by
  have hl := len_of_cnt wa wb h
  unfold lenR at hl
  unfold cntsT
  cases ha : (lenS a).2.2 with
  | false =>
    cases hb : (lenS b).2.2 with
    | false => rfl
    | true => rw [ha, hb] at hl; simp at hl; rw [← hl] at hb; simp at hb
  | true =>
    cases hb : (lenS b).2.2 with
    | false => rw [ha, hb] at hl; simp at hl; rw [hl] at ha; simp at ha
    | true =>
      rw [ha, hb] at hl
      simp at hl
      rw [if_neg (by simp), if_neg (by simp), hl]
      simp only [h]

end Go.Proofs.Ytookhelfbnhadaa
