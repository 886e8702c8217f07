/- Ways counted one by one: plain facts for FnCountsOf. -/
import Derived.Test.YtookhelfbnhadaaN5
import Derived.Test.YtookhelfbnhadaaME
namespace Go.Proofs.Ytookhelfbnhadaa
open Go.RowKit

/-- 1 if the term lasts j so. -/
def hit1 (p : Int × Bool) (j : Nat) : Nat := if p.2 = true ∧ p.1 = (j : Int) then 1 else 0
/-- A term of one step. -/
theorem one_step {t : Tm} (w : Wf t) (h : stepsT t = 1) (xs : List Int) (f : Nat) : (lastV t xs f).1 = xs.getD f 0 ∧ cntT t (xs.getD f 0) = if (lastV t xs f).2 = true then 1 else 0 := by
  induction t with
  | step l hh =>
    refine ⟨rfl, ?_⟩
    have e : (lastV (.step l hh) xs f).2 = B (InR (xs.getD f 0) l hh) := rfl
    rw [cnt_step w, e]
    by_cases hv : l ≤ xs.getD f 0 ∧ xs.getD f 0 ≤ hh
    · rw [if_pos hv, if_pos (B_true (show InR _ _ _ from hv))]
    · rw [if_neg hv, if_neg (by rw [B_false (show ¬ InR _ _ _ from hv)]; simp)]
  | one a hh ih =>
    obtain ⟨h1, h2⟩ := ih w.1 h
    refine ⟨h1, ?_⟩
    rw [cnt_within, h2]
    simp only [lastV, h1]
    by_cases hv : xs.getD f 0 ≤ hh
    · rw [if_pos hv, decide_eq_true hv, Bool.and_true]
    · rw [if_neg hv, decide_eq_false hv, Bool.and_false]; simp
  | two k a b =>
    simp only [stepsT] at h
    have := stepsT_pos a
    have := stepsT_pos b
    omega
theorem cnt_one {t : Tm} (w : Wf t) (h : stepsT t = 1) (j : Nat) : sumN (fun a => hit1 (lastV t [(a : Int)] 0) j) 20 = cntT t (j : Int) := by
  have e : ∀ a : Nat, hit1 (lastV t [(a : Int)] 0) j = if a = j then cntT t (j : Int) else 0 := by
    intro a
    obtain ⟨h1, h2⟩ := one_step w h [(a : Int)] 0
    have e0 : ([(a : Int)] : List Int).getD 0 0 = (a : Int) := rfl
    rw [e0] at h1 h2
    unfold hit1
    rw [h1]
    by_cases ha : a = j
    · subst ha
      rw [if_pos rfl, h2]
      by_cases hok : (lastV t [(a : Int)] 0).2 = true
      · rw [if_pos ⟨hok, rfl⟩, if_pos hok]
      · rw [if_neg (fun hh => hok hh.1), if_neg hok]
    · rw [if_neg ha, if_neg (fun hh => ha (by have := hh.2; omega))]
  simp only [e]
  by_cases hj : j < 20
  · rw [sumN_one hj (fun i _ hne => if_neg hne), if_pos rfl]
  · rw [sumN_zero 20 (fun i hi => if_neg (by omega))]
    have hb := lenS_bd w
    exact (cnt_out w (by omega)).symm
theorem cnt_two {t : Tm} (w : Wf t) (h : stepsT t = 2) (j : Nat) : sumN (fun a => sumN (fun b => hit1 (lastV t [(a : Int), (b : Int)] 0) j) 20) 20 = cntT t (j : Int) := by
  induction t with
  | step l hh => simp [stepsT] at h
  | one a hh ih =>
    rw [cnt_within, ← ih w.1 h]
    by_cases hj : (j : Int) ≤ hh
    · rw [if_pos hj]
      refine sumN_congr 20 fun a' _ => sumN_congr 20 fun b' _ => ?_
      unfold hit1
      simp only [lastV, Bool.and_eq_true, decide_eq_true_eq]
      by_cases hq : (lastV a [(a' : Int), (b' : Int)] 0).2 = true ∧ (lastV a [(a' : Int), (b' : Int)] 0).1 = (j : Int)
      · rw [if_pos hq, if_pos ⟨⟨hq.1, by omega⟩, hq.2⟩]
      · rw [if_neg hq, if_neg (fun hh => hq ⟨hh.1.1, hh.2⟩)]
    · rw [if_neg hj]
      refine sumN_zero 20 fun a' _ => sumN_zero 20 fun b' _ => ?_
      unfold hit1
      simp only [lastV, Bool.and_eq_true, decide_eq_true_eq]
      exact if_neg (fun hq => hj (by have := hq.1.2; have := hq.2; omega))
  | two k x y =>
    simp only [stepsT] at h
    have px := stepsT_pos x
    have py := stepsT_pos y
    have hx : stepsT x = 1 := by omega
    have hy : stepsT y = 1 := by omega
    have ex : ∀ a b : Nat, (lastV x [(a : Int), (b : Int)] 0).1 = (a : Int) ∧ cntT x (a : Int) = if (lastV x [(a : Int), (b : Int)] 0).2 = true then 1 else 0 := fun a b => one_step w.2.1 hx [(a : Int), (b : Int)] 0
    have ey : ∀ a b : Nat, (lastV y [(a : Int), (b : Int)] (0 + stepsT x)).1 = (b : Int) ∧ cntT y (b : Int) = if (lastV y [(a : Int), (b : Int)] (0 + stepsT x)).2 = true then 1 else 0 := fun a b => by
      rw [hx]; exact one_step w.2.2 hy [(a : Int), (b : Int)] 1
    have bx := lenS_bd w.2.1
    have by' := lenS_bd w.2.2
    by_cases hk : k = 1
    · subst hk
      rw [cnt_then w.2.1 (j : Int) 20 (by omega)]
      refine sumN_congr 20 fun a ha => ?_
      have e : ∀ b : Nat, b < 20 → hit1 (lastV (.two 1 x y) [(a : Int), (b : Int)] 0) j = if (a : Int) + (b : Int) = (j : Int) then cntT x (a : Int) * cntT y (b : Int) else 0 := by
        intro b hb
        obtain ⟨x1, x2⟩ := ex a b
        obtain ⟨y1, y2⟩ := ey a b
        unfold hit1
        simp only [lastV, if_true]
        rw [x1, y1, x2, y2]
        have hwr : wrap64 ((a : Int) + (b : Int)) = (a : Int) + (b : Int) := by unfold wrap64; omega
        rw [hwr]
        by_cases hj : (a : Int) + (b : Int) = (j : Int)
        · rw [if_pos hj]
          cases (lastV x [(a : Int), (b : Int)] 0).2 <;> cases (lastV y [(a : Int), (b : Int)] (0 + stepsT x)).2 <;> simp [hj]
        · rw [if_neg hj, if_neg (fun hh => hj hh.2)]
      rw [sumN_congr 20 e]
      by_cases hr : a ≤ j ∧ j - a < 20
      · rw [sumN_one (k := j - a) hr.2 (fun i hi hne => if_neg (by omega)), if_pos (by omega), show ((j - a : Nat) : Int) = (j : Int) - (a : Int) by omega]
      · rw [sumN_zero 20 (fun i hi => if_neg (by omega)), cnt_out w.2.2 (n := (j : Int) - (a : Int)) (by omega), Nat.mul_zero]
    · rw [cnt_both hk]
      have e : ∀ a b : Nat, hit1 (lastV (.two k x y) [(a : Int), (b : Int)] 0) j = if a = j ∧ b = j then cntT x (j : Int) * cntT y (j : Int) else 0 := by
        intro a b
        obtain ⟨x1, x2⟩ := ex a b
        obtain ⟨y1, y2⟩ := ey a b
        unfold hit1
        simp only [lastV, if_neg hk]
        rw [x1, y1]
        by_cases hj : a = j ∧ b = j
        · obtain ⟨rfl, rfl⟩ := hj
          have hbb : b = b ∧ b = b := ⟨rfl, rfl⟩
          rw [if_pos hbb, x2, y2]
          cases (lastV x [(b : Int), (b : Int)] 0).2 <;> cases (lastV y [(b : Int), (b : Int)] (0 + stepsT x)).2 <;> simp
        · rw [if_neg hj]
          refine if_neg (fun hh => hj ?_)
          simp only [Bool.and_eq_true, decide_eq_true_eq] at hh
          have h1 := hh.1.2
          have h2 := hh.2
          omega
      simp only [e]
      by_cases hj : j < 20
      · rw [sumN_one (k := j) hj (fun i _ hne => sumN_zero 20 fun b _ => if_neg (fun hh => hne hh.1)), sumN_one (k := j) hj (fun i _ hne => if_neg (fun hh => hne hh.2)), if_pos ⟨rfl, rfl⟩]
      · rw [sumN_zero 20 (fun a ha => sumN_zero 20 fun b _ => if_neg (fun hh => by omega)), cnt_out w.2.1 (n := (j : Int)) (by omega), Nat.zero_mul]

/-- The row of the law's count, behind a rounds and b of the next one. -/
def mnP (F : Nat → Nat → Int × Bool) (W a b j : Nat) : Nat := sumN (fun a' => sumN (fun b' => hit1 (F a' b') j) W) a + sumN (fun b' => hit1 (F a b') j) b
def mnL (F : Nat → Nat → Int × Bool) (W a b N : Nat) : List Int := (List.range N).map fun j : Nat => (mnP F W a b j : Int)
theorem mnL_len (F : Nat → Nat → Int × Bool) (W a b N : Nat) : (mnL F W a b N).length = N := by simp [mnL]
theorem mnL_get (F : Nat → Nat → Int × Bool) (W a b : Nat) {N j : Nat} (h : j < N) : (mnL F W a b N).getD j 0 = (mnP F W a b j : Int) := by simp [mnL, List.getD, h]
theorem mnL_zero (F : Nat → Nat → Int × Bool) (W N : Nat) : mnL F W 0 0 N = List.replicate N 0 := by
  unfold mnL
  apply List.ext_getElem?
  intro n
  by_cases hn : n < N
  · simp [hn, mnP, sumN]
  · rw [List.getElem?_eq_none (by simp; omega), List.getElem?_eq_none (by simp; omega)]
theorem mnL_row (F : Nat → Nat → Int × Bool) (W a N : Nat) : mnL F W a W N = mnL F W (a + 1) 0 N := by
  unfold mnL
  refine List.map_congr_left fun j _ => ?_
  unfold mnP
  rw [sumN, sumN]; simp
theorem mnL_hit (F : Nat → Nat → Int × Bool) (W a b N m : Nat) (h : F a b = ((m : Int), true)) : mnL F W a (b + 1) N = (mnL F W a b N).set m ((mnP F W a b m : Int) + 1) := by
  apply List.ext_getElem?
  intro j
  by_cases hj : j < N
  · rw [List.getElem?_set]
    simp only [mnL, List.getElem?_map, List.length_map, List.length_range, List.getElem?_range hj, Option.map_some]
    unfold mnP
    rw [sumN, h]
    by_cases e : m = j
    · subst e
      rw [if_pos rfl, if_pos hj, hit1, if_pos ⟨rfl, rfl⟩]; push_cast; rw [Int.add_assoc]
    · rw [if_neg e, hit1, if_neg (fun hh => e (by have := hh.2; simp only at this; omega))]; simp
  · rw [List.getElem?_eq_none (by rw [mnL_len]; omega), List.getElem?_eq_none (by rw [List.length_set, mnL_len]; omega)]
theorem mnL_miss (F : Nat → Nat → Int × Bool) (W a b N : Nat) (h : ¬ ((F a b).2 = true ∧ 0 ≤ (F a b).1 ∧ (F a b).1 < (N : Int))) : mnL F W a (b + 1) N = mnL F W a b N := by
  unfold mnL
  refine List.map_congr_left fun j hj => ?_
  have hj := List.mem_range.1 hj
  unfold mnP
  rw [sumN, hit1, if_neg (fun hh => h ⟨hh.1, by have := hh.2; omega, by have := hh.2; omega⟩), Nat.add_zero]
theorem mnP_le (F : Nat → Nat → Int × Bool) (W a b j : Nat) (ha : a < 20) (hb : b ≤ W) : mnP F W a b j ≤ sumN (fun a' => sumN (fun b' => hit1 (F a' b') j) W) 20 := by
  have h1 := sumN_le (f := fun a' => sumN (fun b' => hit1 (F a' b') j) W) (show a + 1 ≤ 20 by omega)
  have h2 := sumN_le (f := fun b' => hit1 (F a b') j) hb
  unfold mnP
  generalize sumN (fun a' => sumN (fun b' => hit1 (F a' b') j) W) 20 = T at h1 ⊢
  simp only [sumN] at h1
  omega
theorem mnP_hit (F : Nat → Nat → Int × Bool) (W a b m : Nat) (h : F a b = ((m : Int), true)) : mnP F W a (b + 1) m = mnP F W a b m + 1 := by
  unfold mnP
  have e : sumN (fun b' => hit1 (F a b') m) (b + 1) = sumN (fun b' => hit1 (F a b') m) b + hit1 (F a b) m := rfl
  rw [e, h, hit1, if_pos ⟨rfl, rfl⟩]; omega
/-- The lengths that the law gives. -/
noncomputable def lawF (xs : List Mk) (S : Nat) (a b : Nat) : Int × Bool := LastF xs (([(a : Int), (b : Int)] : List Int).take S)
theorem lawF_hit {xs : List Mk} {x : Tm} (hx : TIs xs x) {S : Nat} (hS : S = stepsT x) (h2 : S ≤ 2) (a b j : Nat) : hit1 (lawF xs S a b) j = hit1 (lastV x (([(a : Int), (b : Int)] : List Int).take S) 0) j := by
  have hp := stepsT_pos x
  have hl : (([(a : Int), (b : Int)] : List Int).take S).length = stepsT x := by rw [List.length_take]; simp; omega
  unfold lawF
  rw [show LastF xs _ = lastR _ x from onT_pos hx]
  unfold lastR
  by_cases hok : (lastV x (([(a : Int), (b : Int)] : List Int).take S) 0).2 = true
  · rw [if_pos ⟨hl, hok⟩]; unfold hit1; simp only [hok]
  · rw [if_neg (fun hh => hok hh.2)]
    unfold hit1
    rw [if_neg (fun hh => absurd hh.1 (by simp)), if_neg (fun hh => hok hh.1)]
theorem law_count {xs : List Mk} {x : Tm} (hx : TIs xs x) {S W : Nat} (hS : S = stepsT x) (h2 : S ≤ 2) (hW : W = if S = 2 then 20 else 1) (j : Nat) : sumN (fun a => sumN (fun b => hit1 (lawF xs S a b) j) W) 20 = cntT x (j : Int) := by
  have hp := stepsT_pos x
  simp only [lawF_hit hx hS h2]
  by_cases h : S = 2
  · subst h
    rw [if_pos rfl] at hW
    subst hW
    exact cnt_two hx.1 hS.symm j
  · obtain rfl : S = 1 := by omega
    rw [if_neg (by decide)] at hW
    subst hW
    rw [← cnt_one hx.1 hS.symm j]
    exact sumN_congr 20 fun a _ => by rw [sumN, sumN]; simp
theorem mnL_end {xs : List Mk} {x : Tm} (hx : TIs xs x) {S W : Nat} (hS : S = stepsT x) (h2 : S ≤ 2) (hW : W = if S = 2 then 20 else 1) {N : Nat} {C : List Int} (hl : C.length = N) (hC : ∀ j, j < N → C.getD j 0 = (cntT x (j : Int) : Int)) : mnL (lawF xs S) W 20 0 N = C := by
  refine eq_of_upto (mnL_len ..) hl fun j hj => ?_
  rw [mnL_get _ _ _ _ hj, hC j hj, ← law_count hx hS h2 hW j]
  unfold mnP
  rw [sumN, Nat.add_zero]

end Go.Proofs.Ytookhelfbnhadaa
