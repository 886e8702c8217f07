/- Ways parted by what a step is given: plain facts for FnGivenTerm. -/
import Derived.Test.YtookhelfbnhadaaN5
import Derived.Test.YtookhelfbnhadaaQ4
namespace Go.Proofs.Ytookhelfbnhadaa
open Go.RowKit

/-- How often a term lasts j if its step s is given i (0 where it may not). -/
def gf (x : Tm) (s : Nat) (i j : Nat) : Nat := if (stepAt x s).1 ≤ (i : Int) ∧ (i : Int) ≤ (stepAt x s).2 then cntT (givT x s (i : Int)) (j : Int) else 0
def gvP (x : Tm) (s n k j : Nat) : Nat := sumN (fun i => gf x s i j) n + if j < k then gf x s n j else 0
theorem gvP_step (x : Tm) (s n k j : Nat) : gvP x s n (k + 1) j = if j = k then gvP x s n k j + gf x s n k else gvP x s n k j := by
  unfold gvP
  by_cases h : j = k
  · subst h; rw [if_pos rfl, if_pos (by omega), if_neg (by omega), Nat.add_zero]
  · rw [if_neg h]
    by_cases h2 : j < k
    · rw [if_pos h2, if_pos (by omega)]
    · rw [if_neg h2, if_neg (by omega)]
theorem gvP_le {x : Tm} (w : Wf x) {s : Nat} (hs : s < stepsT x) {n : Nat} (hn : n < 20) (k j : Nat) : gvP x s n k j ≤ cntT x (j : Int) := by
  have h1 := giv_sum w s (j : Int) hs
  have h2 := sumN_le (f := fun i => gf x s i j) (show n + 1 ≤ 20 by omega)
  have e : sumN (fun i => gf x s i j) 20 = cntT x (j : Int) := h1
  rw [e] at h2
  simp only [sumN] at h2
  unfold gvP
  split <;> omega
/-- .. as a row. -/
def gvL (x : Tm) (s n k N : Nat) : List Int := (List.range N).map fun j : Nat => (gvP x s n k j : Int)
theorem gvL_len (x : Tm) (s n k N : Nat) : (gvL x s n k N).length = N := by simp [gvL]
theorem gvL_get (x : Tm) (s n k : Nat) {N j : Nat} (h : j < N) : (gvL x s n k N).getD j 0 = (gvP x s n k j : Int) := by simp [gvL, List.getD, h]
theorem gvL_zero (x : Tm) (s N : Nat) : gvL x s 0 0 N = List.replicate N 0 := by
  unfold gvL
  apply List.ext_getElem?
  intro n
  by_cases hn : n < N
  · simp [hn, gvP, sumN]
  · rw [List.getElem?_eq_none (by simp; omega), List.getElem?_eq_none (by simp; omega)]
theorem gvL_step (x : Tm) (s n k N : Nat) : gvL x s n (k + 1) N = (gvL x s n k N).set k ((gvP x s n k k : Int) + (gf x s n k : Int)) := by
  apply List.ext_getElem?
  intro j
  by_cases hj : j < N
  · rw [List.getElem?_set]
    simp only [gvL, List.getElem?_map, List.length_map, List.length_range, List.getElem?_range hj, Option.map_some]
    rw [gvP_step]
    by_cases h : k = j
    · subst h; rw [if_pos rfl, if_pos hj, if_pos rfl]; first | done | (push_cast; rfl)
    · rw [if_neg h, if_neg (by omega)]
  · rw [List.getElem?_eq_none (by rw [gvL_len]; omega), List.getElem?_eq_none (by rw [List.length_set, gvL_len]; omega)]
theorem gvL_row (x : Tm) (s n k N : Nat) (h : ∀ j, k ≤ j → j < N → gf x s n j = 0) : gvL x s n k N = gvL x s (n + 1) 0 N := by
  unfold gvL
  refine List.map_congr_left fun j hj => ?_
  have hj := List.mem_range.1 hj
  unfold gvP
  rw [if_neg (Nat.not_lt_zero j), sumN]
  by_cases hk : j < k
  · rw [if_pos hk]; omega
  · rw [if_neg hk, h j (by omega) hj]
theorem gvL_end {x : Tm} (w : Wf x) {s : Nat} (hs : s < stepsT x) {N : Nat} {C : List Int} (hl : C.length = N) (hC : ∀ j, j < N → C.getD j 0 = (cntT x (j : Int) : Int)) : gvL x s 20 0 N = C := by
  refine eq_of_upto (gvL_len ..) hl fun j hj => ?_
  rw [gvL_get x s 20 0 hj, hC j hj]
  have h1 := giv_sum w s (j : Int) hs
  have e : sumN (fun i => gf x s i j) 20 = cntT x (j : Int) := h1
  unfold gvP
  rw [if_neg (Nat.not_lt_zero j), e, Nat.add_zero]

/-- The counts of a term, at each place. -/
theorem cntsT_get (x : Tm) (j : Nat) (hj : j < (cntsT x).length) : (cntsT x).getD j 0 = (cntT x (j : Int) : Int) := by
  unfold cntsT at hj ⊢
  split at hj
  · simp at hj
  · rename_i h
    rw [if_neg h]
    simp at hj
    simp [List.getD, show j < ((lenS x).2.1 + 1).toNat by omega]
theorem cntsT_out {x : Tm} (w : Wf x) (j : Nat) (hj : (cntsT x).length ≤ j) : cntT x (j : Int) = 0 := by
  unfold cntsT at hj
  split at hj
  · rename_i h
    exact cnt_zero w (fun hh => by rw [h] at hh; exact absurd hh.1 (by simp))
  · rename_i h
    simp at hj
    exact cnt_out w (by omega)
/-- What the rounds of the law's loop meet. -/
theorem given_round {xs : List Mk} {x : Tm} (hx : TIs xs x) {s : Nat} (hs : s < stepsT x) (n : Nat) :
    (B (GivP xs (s : Int) (n : Int)) = true → TOk (GivF xs (s : Int) (n : Int))) ∧ (GivF xs (s : Int) (n : Int)).length ≤ 11 ∧
    (∀ j, j < (CntF (GivF xs (s : Int) (n : Int))).length → (CntF (GivF xs (s : Int) (n : Int))).getD j 0 = (gf x s n j : Int)) ∧ (∀ j, (CntF (GivF xs (s : Int) (n : Int))).length ≤ j → gf x s n j = 0) ∧
    (CntF (GivF xs (s : Int) (n : Int))).length ≤ (CntF xs).length ∧ (B (GivP xs (s : Int) (n : Int)) = false → CntF (GivF xs (s : Int) (n : Int)) = []) := by
  have hm := hx.2.1
  have hiff : GivP xs (s : Int) (n : Int) ↔ ((stepAt x s).1 ≤ (n : Int) ∧ (n : Int) ≤ (stepAt x s).2) := by
    have h1 := anyG_iff hx.1 (s : Int) (n : Int)
    rw [hm] at h1
    have e : ((s : Int)).toNat = s := by omega
    rw [e] at h1
    constructor
    · intro h; have := h1.1 h.2; exact ⟨this.2.2.1, this.2.2.2⟩
    · intro h; exact ⟨⟨x, hx⟩, h1.2 ⟨by omega, by omega, h.1, h.2⟩⟩
  have hbd := stepAt_bd hx.1 s
  by_cases hp : GivP xs (s : Int) (n : Int)
  · have hq := hiff.1 hp
    have e1 : GivF xs (s : Int) (n : Int) = marksOf (givT x s (n : Int)) := by
      unfold GivF
      rw [if_pos hp, outG_gm]
      have := gm_marks hx.1 s (n : Int) hs hq.1 hq.2
      rw [hm] at this; exact this
    have hw : Wf (givT x s (n : Int)) := givT_wf hx.1 s _ (by omega) (by omega)
    have hlen : (marksOf (givT x s (n : Int))).length = xs.length := by
      have := gm_marks hx.1 s (n : Int) hs hq.1 hq.2
      rw [← this, hm, ← outG_gm]; simp [outG]
    have ht : TIs (GivF xs (s : Int) (n : Int)) (givT x s (n : Int)) := ⟨hw, e1.symm, by rw [e1, hlen]; exact hx.2.2⟩
    have ec : CntF (GivF xs (s : Int) (n : Int)) = cntsT (givT x s (n : Int)) := onT_pos ht
    have ex : CntF xs = cntsT x := onT_pos hx
    have eg : ∀ j, gf x s n j = cntT (givT x s (n : Int)) (j : Int) := fun j => by unfold gf; rw [if_pos hq]
    refine ⟨fun _ => ⟨_, ht⟩, ht.2.2, ?_, ?_, ?_, ?_⟩
    · intro j hj; rw [ec] at hj ⊢; rw [eg]; exact cntsT_get _ j hj
    · intro j hj; rw [ec] at hj; rw [eg]; exact cntsT_out hw j hj
    · rw [ec, ex]
      cases hok : (lenS (givT x s (n : Int))).2.2 with
      | false => unfold cntsT; rw [if_pos hok]; exact Nat.zero_le _
      | true =>
        have h2 := giv_in hx.1 s (n : Int) hq.1 hq.2 hok
        have h3 := lenS_bd hw
        unfold cntsT
        rw [if_neg (by rw [hok]; simp), if_neg (by rw [h2.1]; simp)]
        simp; omega
    · intro h; exact absurd hp (not_of_B h)
  · have e1 : GivF xs (s : Int) (n : Int) = [] := by unfold GivF; rw [if_neg hp]
    have e2 : CntF [] = [] := onT_neg (fun ⟨y, hy⟩ => by have := tIs_pos hy; simp at this)
    have eg : ∀ j, gf x s n j = 0 := fun j => by unfold gf; rw [if_neg (fun h => hp (hiff.2 h))]
    rw [e1, e2]
    exact ⟨fun h => absurd (of_B h) hp, Nat.zero_le _, fun j hj => by simp at hj, fun j _ => eg j, Nat.zero_le _, fun _ => rfl⟩

end Go.Proofs.Ytookhelfbnhadaa
