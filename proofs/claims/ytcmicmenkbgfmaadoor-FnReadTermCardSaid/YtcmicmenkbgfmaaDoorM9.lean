/- A step of a term given: plain facts; both GivenTerm. -/
import Derived.Test.YtcmicmenkbgfmaaDoorM8
import Derived.Test.YtcmicmenkbgfmaaDoorO2
namespace Go.Proofs.YtcmicmenkbgfmaaDoor
open Go.RowKit

/-- Mark j is the step that is asked for, and may last so. -/
def hitG (xs : List Mk) (s l : Int) (j : Nat) : Prop := (xs.getD j (0, 0, 0)).1 = 0 ∧ (stepsIn (xs.take j) : Int) = s ∧ InR l (xs.getD j (0, 0, 0)).2.1 (xs.getD j (0, 0, 0)).2.2
theorem hitG_iff (xs : List Mk) (s l : Int) (j : Nat) : hitG xs s l j ↔ ((xs.getD j (0, 0, 0)).1 = 0 ∧ (stepsIn (xs.take j) : Int) = s ∧ InR l (xs.getD j (0, 0, 0)).2.1 (xs.getD j (0, 0, 0)).2.2) := Iff.rfl
noncomputable def chgG (xs : List Mk) (s l : Int) (j : Nat) : Mk := @ite _ (hitG xs s l j) (Classical.propDecidable _) (0, l, l) (xs.getD j (0, 0, 0))
noncomputable def outG (xs : List Mk) (s l : Int) (k : Nat) : List Mk := (List.range k).map (chgG xs s l)
def anyG (xs : List Mk) (s l : Int) (k : Nat) : Prop := ∃ j, j < k ∧ hitG xs s l j
theorem outG_len (xs : List Mk) (s l : Int) (k : Nat) : (outG xs s l k).length = k := by simp [outG]
theorem outG_succ (xs : List Mk) (s l : Int) (k : Nat) : outG xs s l (k + 1) = outG xs s l k ++ [chgG xs s l k] := by simp [outG, List.range_succ]
theorem chgG_hit {xs : List Mk} {s l : Int} {j : Nat} (h : hitG xs s l j) : chgG xs s l j = (0, l, l) := by unfold chgG; rw [if_pos h]
theorem chgG_not {xs : List Mk} {s l : Int} {j : Nat} (h : ¬ hitG xs s l j) : chgG xs s l j = xs.getD j (0, 0, 0) := by unfold chgG; rw [if_neg h]
theorem anyG_zero (xs : List Mk) (s l : Int) : ¬ anyG xs s l 0 := by rintro ⟨j, hj, _⟩; omega
theorem anyG_hit {xs : List Mk} {s l : Int} {k : Nat} (h : hitG xs s l k) : anyG xs s l (k + 1) := ⟨k, by omega, h⟩
theorem anyG_not {xs : List Mk} {s l : Int} {k : Nat} (h : ¬ hitG xs s l k) : anyG xs s l (k + 1) ↔ anyG xs s l k := by
  constructor
  · rintro ⟨j, hj, hh⟩
    rcases Nat.lt_or_ge j k with h1 | h1
    · exact ⟨j, h1, hh⟩
    · obtain rfl : j = k := by omega
      exact absurd hh h
  · rintro ⟨j, hj, hh⟩; exact ⟨j, by omega, hh⟩
theorem stepsIn_mono (xs : List Mk) {i j : Nat} (h : i ≤ j) : stepsIn (xs.take i) ≤ stepsIn (xs.take j) := by
  have e : xs.take i = (xs.take j).take i := by rw [List.take_take]; congr 1; omega
  rw [e]
  exact (List.take_sublist i (xs.take j)).countP_le
theorem step_lt {xs : List Mk} {i j : Nat} (h : i < j) (hi : i < xs.length) (h0 : (xs.getD i (0, 0, 0)).1 = 0) : stepsIn (xs.take i) < stepsIn (xs.take j) := by
  have h1 := stepsIn_take_succ hi
  rw [if_pos h0] at h1
  have h2 := stepsIn_mono xs (i := i + 1) (j := j) (by omega)
  omega
/-- All marks as they were but one. -/
theorem outG_set {xs : List Mk} {s l : Int} {k : Nat} (hk : k < xs.length) (h : hitG xs s l k) : outG xs s l xs.length = xs.set k (0, l, l) := by
  apply List.ext_getElem (by simp [outG])
  intro i h1 h2
  have hi : i < xs.length := by simpa [outG] using h1
  have e1 : (outG xs s l xs.length)[i] = chgG xs s l i := by simp [outG]
  rw [e1, List.getElem_set]
  by_cases hik : k = i
  · subst hik; rw [if_pos rfl, chgG_hit h]
  · rw [if_neg hik, chgG_not]
    · simp [List.getD, hi]
    · rintro ⟨h0, h3, _⟩
      obtain ⟨g0, g3, _⟩ := h
      rcases Nat.lt_or_ge i k with h4 | h4
      · have := step_lt h4 hi h0; omega
      · have := step_lt (show k < i by omega) hk g0; omega
/-- No further mark can be hit behind a step of that number. -/
theorem noG {xs : List Mk} {s l : Int} {k : Nat} (hk : k < xs.length) (h0 : (xs.getD k (0, 0, 0)).1 = 0) (hs : (stepsIn (xs.take k) : Int) = s) (hn : ¬ hitG xs s l k) (n : Nat) (_ : n ≤ xs.length) : ¬ anyG xs s l n := by
  rintro ⟨j, hj, hh⟩
  obtain ⟨g0, g3, _⟩ := id hh
  rcases Nat.lt_trichotomy j k with h4 | h4 | h4
  · have := step_lt h4 (by omega) g0; omega
  · subst h4; exact hn hh
  · have := step_lt h4 hk h0; omega

noncomputable def GivP (xs : List Mk) (s l : Int) : Prop := TOk xs ∧ anyG xs s l xs.length
noncomputable def GivF (xs : List Mk) (s l : Int) : List Mk := @ite _ (GivP xs s l) (Classical.propDecidable _) (outG xs s l xs.length) []
theorem givF_pos {xs : List Mk} {s l : Int} (h : GivP xs s l) : GivF xs s l = outG xs s l xs.length := by unfold GivF; rw [if_pos h]
theorem givF_neg {xs : List Mk} {s l : Int} (h : ¬ GivP xs s l) : GivF xs s l = [] := by unfold GivF; rw [if_neg h]

theorem givF_len (xs : List Mk) (s l : Int) : (GivF xs s l).length ≤ xs.length := by
  by_cases h : GivP xs s l
  · rw [givF_pos h, outG_len]; exact Nat.le_refl _
  · rw [givF_neg h]; exact Nat.zero_le _

/-- A block of three cells just laid. -/
theorem cell3_at {w : World} {q : Nat} (hq : w.heap.size = q) (x : Mk) (t : TypeId) : ∀ j u, (v3 [x])[j]? = some u → (w.alloc (.cells #[.int .i64 x.1, .int .i64 x.2.1, .int .i64 x.2.2] t)).cell? ((⟨q, 0, none⟩ : Addr).add j) = some u := by
  subst hq
  intro j u hu
  rw [addr_add, Nat.zero_add, World.cell?_alloc_new]
  have e : v3 [x] = [.int .i64 x.1, .int .i64 x.2.1, .int .i64 x.2.2] := rfl
  rw [e] at hu
  match j with
  | 0 => simpa using hu
  | 1 => simpa using hu
  | 2 => simpa using hu
  | j + 3 => simp at hu
theorem MarksAt.news {w : World} {a : Addr} {n : Nat} {xs : List Mk} (h : MarksAt w (Option.some a) n xs) : ∀ j u, (v3 xs)[j]? = Option.some u → w.cell? (a.add j) = Option.some u := by
  intro j u hu
  have hl := h.len
  have hj : j < xs.length * 3 := by
    rcases Nat.lt_or_ge j (xs.length * 3) with h1 | h1
    · exact h1
    · rw [List.getElem?_eq_none (by rw [v3_len]; exact h1)] at hu; cases hu
  obtain ⟨b, off, e, hc⟩ := h.cells (by omega)
  cases e
  exact v3_of (fun j hj => hc j (by omega)) j u hu
theorem own_set3 {w : World} {base g n cap k : Nat} {xs : List Mk} (h : OwnM w base (some ⟨g, 0, none⟩) n cap xs) (hk : k < n) (y : Mk) :
    OwnM (((w.setCell ⟨g, k * 3, none⟩ (.int .i64 y.1)).setCell ⟨g, k * 3 + 1, none⟩ (.int .i64 y.2.1)).setCell ⟨g, k * 3 + 2, none⟩ (.int .i64 y.2.2)) base (some ⟨g, 0, none⟩) n cap (xs.set k y) := by
  have hl := h.len
  have hkx : k < xs.length := by omega
  have h1 := own_set (own_set (own_set h (k * 3) (.int .i64 y.1)) (k * 3 + 1) (.int .i64 y.2.1)) (k * 3 + 2) (.int .i64 y.2.2)
  have h2 := set3 (xs.drop (k + 1)) (xs.take k) xs[k] y
  rw [← List.drop_eq_getElem_cons hkx, List.take_append_drop, show (xs.take k).length = k by simp; omega] at h2
  rw [h2] at h1
  rwa [List.set_eq_take_append_cons_drop, if_pos hkx]
theorem OwnM.nil (w : World) (base : Nat) : OwnM w base none 0 0 [] := World.ownsRow_nil _ _ _ _
theorem OwnM.empty (w : World) (base : Nat) (hb : base ≤ w.heap.size) : OwnM (w.alloc (.cells #[] 54)) base (some ⟨w.heap.size, 0, none⟩) 0 0 [] := own_lit w base _ 3 #[] 0 hb (by decide) rfl

theorem own_app {w wo W wB : World} {B0 : Nat} {e : TypeId} {size : Nat} {v : Value} {n : Nat} {xs : List Value} (hb : Below B0 w wo) (hW : Below wo.heap.size wo W) (hown : wo.ownsRow B0 e size v n xs) (hgrow : W.grownBy wB v.ownBlock) (hB : B0 ≤ wo.heap.size) : Below B0 w wB :=
  (hb.trans (hW.mono hB)).grown hgrow (Nat.le_trans hB hW.size) (fun k hk => (hown.lt k hk).1)



end Go.Proofs.YtcmicmenkbgfmaaDoor
