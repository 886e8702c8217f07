/- Texts of terms, as bytes; what a reader of terms may do, and that it reads a term's text as that term: plain facts, no program. -/
import Derived.Test.YtcmicmenkbgfmaaDoorM4
namespace Go.Proofs.YtcmicmenkbgfmaaDoor

/-- A number below 20 in decimal. -/
def dec (n : Int) : List UInt8 := if n < 10 then [UInt8.ofNat (48 + n.toNat)] else [UInt8.ofNat (48 + n.toNat / 10), UInt8.ofNat (48 + n.toNat % 10)]
/-- How much the last mark of a part binds. -/
def bindsT : Tm → Nat
  | .step _ _ => 2
  | .one _ _ => 2
  | .two k _ _ => if k = 1 then 0 else 1
def brT (c : Bool) (s : List UInt8) : List UInt8 := if c then 40 :: (s ++ [41]) else s
/-- The text of a part. -/
def textT : Tm → List UInt8
  | .step l h => if l = h then dec l else dec l ++ 45 :: dec h
  | .one a h => brT (decide (bindsT a < 2)) (textT a) ++ 60 :: dec h
  | .two k a b => if k = 1 then textT a ++ 59 :: brT (decide (bindsT b < 1)) (textT b) else brT (decide (bindsT a < 1)) (textT a) ++ 38 :: brT (decide (bindsT b < 2)) (textT b)

def isDig (c : UInt8) : Prop := 48 ≤ c.toNat ∧ c.toNat ≤ 57
instance (c : UInt8) : Decidable (isDig c) := inferInstanceAs (Decidable (_ ∧ _))
def NoDig (r : List UInt8) : Prop := ∀ c, r.head? = some c → ¬ isDig c
def No0 (r : List UInt8) : Prop := NoDig r ∧ r.head? ≠ some 45
def No1 (r : List UInt8) : Prop := No0 r ∧ r.head? ≠ some 60
def No2 (r : List UInt8) : Prop := No1 r ∧ r.head? ≠ some 38
def No3 (r : List UInt8) : Prop := No2 r ∧ r.head? ≠ some 59

theorem dec_cases {n : Int} (h0 : 0 ≤ n) (h1 : n ≤ 19) : ∃ k : Nat, k < 20 ∧ n = (k : Int) := ⟨n.toNat, by omega, by omega⟩
theorem dec_facts : ∀ k : Nat, k < 20 → (dec (k : Int)).length ≤ 2 ∧ 1 ≤ (dec (k : Int)).length ∧ (∀ c ∈ dec (k : Int), isDig c) := by decide
theorem dec_ne {n : Int} (h0 : 0 ≤ n) (h1 : n ≤ 19) : ∃ c l, dec n = c :: l ∧ isDig c := by
  obtain ⟨k, hk, rfl⟩ := dec_cases h0 h1
  obtain ⟨_, h2, h3⟩ := dec_facts k hk
  cases h : dec (k : Int) with
  | nil => rw [h] at h2; simp at h2
  | cons c l => exact ⟨c, l, rfl, h3 c (by rw [h]; simp)⟩
theorem dec_len {n : Int} (h0 : 0 ≤ n) (h1 : n ≤ 19) : (dec n).length ≤ 2 := by
  obtain ⟨k, hk, rfl⟩ := dec_cases h0 h1
  exact (dec_facts k hk).1
theorem brT_len (c : Bool) (s : List UInt8) : (brT c s).length ≤ s.length + 2 := by unfold brT; split <;> simp
theorem textT_len {t : Tm} (w : Wf t) : (textT t).length + 2 ≤ 7 * (marksOf t).length := by
  induction t with
  | step l h =>
    obtain ⟨h1, h2, h3⟩ := w
    have e1 := dec_len h1 (Int.le_trans h2 h3)
    have e2 := dec_len (Int.le_trans h1 h2) h3
    simp only [textT, marksOf]
    split <;> simp <;> omega
  | two k a b iha ihb =>
    have h1 := iha w.2.1
    have h2 := ihb w.2.2
    have e1 := brT_len (decide (bindsT a < 1)) (textT a)
    have e2 := brT_len (decide (bindsT b < 1)) (textT b)
    have e3 := brT_len (decide (bindsT b < 2)) (textT b)
    simp only [textT, marksOf]
    split <;> simp only [List.length_append, List.length_cons, List.length_nil] <;> omega
  | one a h ih =>
    have h1 := ih w.1
    have e1 := brT_len (decide (bindsT a < 2)) (textT a)
    have e2 := dec_len w.2.1 w.2.2
    simp only [textT, marksOf]
    simp; omega
theorem brT_ne {c : Bool} {s : List UInt8} (h : s ≠ []) : brT c s ≠ [] := by unfold brT; split <;> simp [h]
theorem textT_ne {t : Tm} (w : Wf t) : textT t ≠ [] := by
  cases t with
  | step l h =>
    obtain ⟨h1, h2, h3⟩ := w
    obtain ⟨c, q, e, _⟩ := dec_ne h1 (Int.le_trans h2 h3)
    simp only [textT, e]
    split <;> simp
  | two k a b => simp only [textT]; split <;> simp
  | one a h => simp [textT]

inductive Lv where
  | thens : Lv
  | boths : Lv
  | within : Lv
  | tT : Lv
  | tB : Lv
  | tW : Lv

/-- A number is read: what it must be where a number below 20 stands. -/
def Num (l : List UInt8) (n : Int) (g : Bool) (l1 : List UInt8) : Prop :=
  ∀ k r, 0 ≤ k → k ≤ 19 → l = dec k ++ r → NoDig r → n = k ∧ g = true ∧ l1 = r
def Hi (l1 : List UInt8) (lo hi : Int) (g2 : Bool) (l2 : List UInt8) : Prop :=
  (∀ r, l1 = 45 :: r → Num r hi g2 l2) ∧ (l1.head? ≠ some 45 → hi = lo ∧ g2 = true ∧ l2 = l1)
def Close (l1 : List UInt8) (f1 : Bool) (l2 : List UInt8) (f2 : Bool) : Prop := ∀ r, l1 = 41 :: r → l2 = r ∧ f2 = f1

/-- What a reader does: level, marks so far, bytes that are left, whether all is fine; marks, bytes and whether all is fine behind it. Where it is not fine nothing is said. -/
inductive RI : Lv → List Mk → List UInt8 → Bool → List Mk → List UInt8 → Bool → Prop where
  | fail (K : Lv) (a : List Mk) (l : List UInt8) (xs : List Mk) (l' : List UInt8) : RI K a l false xs l' false
  | nil (a : List Mk) (f : Bool) (xs : List Mk) (l' : List UInt8) : RI .within a [] f xs l' false
  | thens {l : List UInt8} {f : Bool} {a : List Mk} {l1 : List UInt8} {f1 : Bool} {xs : List Mk} {l2 : List UInt8} {f2 : Bool} : RI .boths [] l f a l1 f1 → RI .tT a l1 f1 xs l2 f2 → RI .thens [] l f xs l2 f2
  | boths {l : List UInt8} {f : Bool} {a : List Mk} {l1 : List UInt8} {f1 : Bool} {xs : List Mk} {l2 : List UInt8} {f2 : Bool} : RI .within [] l f a l1 f1 → RI .tB a l1 f1 xs l2 f2 → RI .boths [] l f xs l2 f2
  | brack {l : List UInt8} {f : Bool} {a : List Mk} {l1 : List UInt8} {f1 : Bool} {l2 : List UInt8} {f2 : Bool} {xs : List Mk} {l3 : List UInt8} {f3 : Bool} : RI .thens [] l f a l1 f1 → Close l1 f1 l2 f2 → RI .tW a l2 f2 xs l3 f3 → RI .within [] (40 :: l) f xs l3 f3
  | step {l : List UInt8} {f : Bool} {lo : Int} {g : Bool} {l1 : List UInt8} {hi : Int} {g2 : Bool} {l2 : List UInt8} {xs : List Mk} {l3 : List UInt8} {f3 : Bool} : l.head? ≠ some 40 → Num l lo g l1 → (g = true → Hi l1 lo hi g2 l2) → RI .tW [(0, lo, hi)] l2 (f && g && g2) xs l3 f3 → RI .within [] l f xs l3 f3
  | tTstop {a : List Mk} {l : List UInt8} {f : Bool} : l.head? ≠ some 59 → RI .tT a l f a l f
  | tTmore {a : List Mk} {l : List UInt8} {f : Bool} {ys : List Mk} {l1 : List UInt8} {f1 : Bool} {xs : List Mk} {l2 : List UInt8} {f2 : Bool} : RI .boths [] l f ys l1 f1 → RI .tT (a ++ ys ++ [(1, 0, 0)]) l1 f1 xs l2 f2 → RI .tT a (59 :: l) f xs l2 f2
  | tBstop {a : List Mk} {l : List UInt8} {f : Bool} : l.head? ≠ some 38 → RI .tB a l f a l f
  | tBmore {a : List Mk} {l : List UInt8} {f : Bool} {ys : List Mk} {l1 : List UInt8} {f1 : Bool} {xs : List Mk} {l2 : List UInt8} {f2 : Bool} : RI .within [] l f ys l1 f1 → RI .tB (a ++ ys ++ [(2, 0, 0)]) l1 f1 xs l2 f2 → RI .tB a (38 :: l) f xs l2 f2
  | tWstop {a : List Mk} {l : List UInt8} {f : Bool} : l.head? ≠ some 60 → RI .tW a l f a l f
  | tWmore {a : List Mk} {l : List UInt8} {f : Bool} {h : Int} {g : Bool} {l1 : List UInt8} {xs : List Mk} {l2 : List UInt8} {f2 : Bool} : Num l h g l1 → RI .tW (a ++ [(3, 0, h)]) l1 (f && g) xs l2 f2 → RI .tW a (60 :: l) f xs l2 f2

section
variable {a : List Mk} {L : List UInt8} {f : Bool} {xs : List Mk} {l' : List UInt8} {f' : Bool}
theorem RI.invT (h : RI .thens a L f xs l' f') : f = false ∨ ∃ a1 l1 f1, RI .boths [] L f a1 l1 f1 ∧ RI .tT a1 l1 f1 xs l' f' := by
  cases h with
  | fail => exact .inl rfl
  | thens h1 h2 => exact .inr ⟨_, _, _, h1, h2⟩
theorem RI.invB (h : RI .boths a L f xs l' f') : f = false ∨ ∃ a1 l1 f1, RI .within [] L f a1 l1 f1 ∧ RI .tB a1 l1 f1 xs l' f' := by
  cases h with
  | fail => exact .inl rfl
  | boths h1 h2 => exact .inr ⟨_, _, _, h1, h2⟩
theorem RI.invW (h : RI .within a L f xs l' f') : f = false ∨ L = [] ∨ (∃ l a1 l1 f1 l2 f2, L = 40 :: l ∧ RI .thens [] l f a1 l1 f1 ∧ Close l1 f1 l2 f2 ∧ RI .tW a1 l2 f2 xs l' f') ∨
    (L.head? ≠ some 40 ∧ ∃ lo g l1 hi g2 l2, Num L lo g l1 ∧ (g = true → Hi l1 lo hi g2 l2) ∧ RI .tW [(0, lo, hi)] l2 (f && g && g2) xs l' f') := by
  cases h with
  | fail => exact .inl rfl
  | nil => exact .inr (.inl rfl)
  | brack h1 h2 h3 => exact .inr (.inr (.inl ⟨_, _, _, _, _, _, rfl, h1, h2, h3⟩))
  | step h1 h2 h3 h4 => exact .inr (.inr (.inr ⟨h1, _, _, _, _, _, _, h2, h3, h4⟩))
theorem RI.invTT (h : RI .tT a L f xs l' f') : f = false ∨ (L.head? ≠ some 59 ∧ xs = a ∧ l' = L ∧ f' = f) ∨ ∃ l ys l1 f1, L = 59 :: l ∧ RI .boths [] l f ys l1 f1 ∧ RI .tT (a ++ ys ++ [(1, 0, 0)]) l1 f1 xs l' f' := by
  cases h with
  | fail => exact .inl rfl
  | tTstop h => exact .inr (.inl ⟨h, rfl, rfl, rfl⟩)
  | tTmore h1 h2 => exact .inr (.inr ⟨_, _, _, _, rfl, h1, h2⟩)
theorem RI.invTB (h : RI .tB a L f xs l' f') : f = false ∨ (L.head? ≠ some 38 ∧ xs = a ∧ l' = L ∧ f' = f) ∨ ∃ l ys l1 f1, L = 38 :: l ∧ RI .within [] l f ys l1 f1 ∧ RI .tB (a ++ ys ++ [(2, 0, 0)]) l1 f1 xs l' f' := by
  cases h with
  | fail => exact .inl rfl
  | tBstop h => exact .inr (.inl ⟨h, rfl, rfl, rfl⟩)
  | tBmore h1 h2 => exact .inr (.inr ⟨_, _, _, _, rfl, h1, h2⟩)
theorem RI.invTW (h : RI .tW a L f xs l' f') : f = false ∨ (L.head? ≠ some 60 ∧ xs = a ∧ l' = L ∧ f' = f) ∨ ∃ l q g l1, L = 60 :: l ∧ Num l q g l1 ∧ RI .tW (a ++ [(3, 0, q)]) l1 (f && g) xs l' f' := by
  cases h with
  | fail => exact .inl rfl
  | tWstop h => exact .inr (.inl ⟨h, rfl, rfl, rfl⟩)
  | tWmore h1 h2 => exact .inr (.inr ⟨_, _, _, _, rfl, h1, h2⟩)
theorem RI.stopT (h : RI .tT a L true xs l' f') (hn : L.head? ≠ some 59) : xs = a ∧ l' = L ∧ f' = true := by
  rcases h.invTT with h1 | ⟨_, h1⟩ | ⟨l, _, _, _, rfl, _⟩
  · cases h1
  · exact h1
  · exact absurd rfl hn
theorem RI.stopB (h : RI .tB a L true xs l' f') (hn : L.head? ≠ some 38) : xs = a ∧ l' = L ∧ f' = true := by
  rcases h.invTB with h1 | ⟨_, h1⟩ | ⟨l, _, _, _, rfl, _⟩
  · cases h1
  · exact h1
  · exact absurd rfl hn
theorem RI.stopW (h : RI .tW a L true xs l' f') (hn : L.head? ≠ some 60) : xs = a ∧ l' = L ∧ f' = true := by
  rcases h.invTW with h1 | ⟨_, h1⟩ | ⟨l, _, _, _, rfl, _⟩
  · cases h1
  · exact h1
  · exact absurd rfl hn
end

def RdW (t : Tm) (s : List UInt8) : Prop := ∀ r xs l' f', No0 r → RI .within [] (s ++ r) true xs l' f' → RI .tW (marksOf t) r true xs l' f'
def RdB (t : Tm) (s : List UInt8) : Prop := ∀ r xs l' f', No1 r → RI .boths [] (s ++ r) true xs l' f' → RI .tB (marksOf t) r true xs l' f'
def RdT (t : Tm) (s : List UInt8) : Prop := ∀ r xs l' f', No2 r → RI .thens [] (s ++ r) true xs l' f' → RI .tT (marksOf t) r true xs l' f'

theorem RdW.b {t : Tm} {s : List UInt8} (h : RdW t s) : RdB t s := fun r xs l' f' hr h1 => by
  rcases h1.invB with h2 | ⟨a1, l1, f1, h2, h3⟩
  · cases h2
  · obtain ⟨rfl, rfl, rfl⟩ := (h r _ _ _ hr.1 h2).stopW hr.2
    exact h3
theorem RdB.t {t : Tm} {s : List UInt8} (h : RdB t s) : RdT t s := fun r xs l' f' hr h1 => by
  rcases h1.invT with h2 | ⟨a1, l1, f1, h2, h3⟩
  · cases h2
  · obtain ⟨rfl, rfl, rfl⟩ := (h r _ _ _ hr.1 h2).stopB hr.2
    exact h3
theorem no41 (r : List UInt8) : No2 (41 :: r) := ⟨⟨⟨fun c h => by cases h; decide, by simp⟩, by simp⟩, by simp⟩
theorem RdT.br {t : Tm} {s : List UInt8} (h : RdT t s) : RdW t (40 :: (s ++ [41])) := fun r xs l' f' hr h1 => by
  rcases h1.invW with h2 | h2 | ⟨l, a1, l1, f1, l2, f2, e, h2, h3, h4⟩ | ⟨h2, _⟩
  · cases h2
  · cases h2
  · obtain rfl : s ++ 41 :: r = l := by simpa using e
    obtain ⟨rfl, rfl, rfl⟩ := (h (41 :: r) _ _ _ (no41 r) h2).stopT (by simp)
    obtain ⟨rfl, rfl⟩ := h3 r rfl
    exact h4
  · exact absurd rfl h2
theorem RdW.brc {t : Tm} {s : List UInt8} {c : Bool} (h : RdT t s) (hn : c = false → RdW t s) : RdW t (brT c s) := by
  cases c with
  | false => exact hn rfl
  | true => exact h.br
theorem noDig_of {c : UInt8} (r : List UInt8) (h : ¬ isDig c) : NoDig (c :: r) := fun d e => by cases e; exact h

theorem RdW_step {l h : Int} (w : Wf (.step l h)) : RdW (.step l h) (textT (.step l h)) := fun r xs l' f' hr h1 => by
  obtain ⟨w1, w2, w3⟩ := w
  have w4 := Int.le_trans w2 w3
  have w5 := Int.le_trans w1 w2
  obtain ⟨c, q, e, hc⟩ := dec_ne w1 w4
  have hne : (textT (.step l h) ++ r).head? = some c := by simp only [textT, e]; split <;> simp
  rcases h1.invW with h2 | h2 | ⟨k, _, _, _, _, _, e2, _⟩ | ⟨_, lo, g, l1, hi, g2, l2, h2, h3, h4⟩
  · cases h2
  · rw [h2] at hne; cases hne
  · rw [e2] at hne
    simp only [List.head?_cons, Option.some.injEq] at hne
    subst hne
    exact absurd hc (by decide)
  · simp only [textT] at h2
    by_cases hlh : l = h
    · subst hlh
      rw [if_pos rfl] at h2
      obtain ⟨rfl, rfl, rfl⟩ := h2 l r w1 w4 rfl hr.1
      obtain ⟨rfl, rfl, rfl⟩ := (h3 rfl).2 hr.2
      exact h4
    · rw [if_neg hlh] at h2
      obtain ⟨rfl, rfl, rfl⟩ := h2 l (45 :: dec h ++ r) w1 w4 (by simp) (noDig_of _ (by decide))
      obtain ⟨rfl, rfl, rfl⟩ := (h3 rfl).1 _ rfl h r w5 w3 rfl hr.1
      exact h4
theorem RdW_one {a : Tm} {h : Int} {s : List UInt8} (w : 0 ≤ h ∧ h ≤ 19) (ha : RdW a s) : RdW (.one a h) (s ++ 60 :: dec h) := fun r xs l' f' hr h1 => by
  rw [List.append_assoc] at h1
  have h2 := ha (60 :: dec h ++ r) xs l' f' ⟨noDig_of _ (by decide), by simp⟩ h1
  rcases h2.invTW with h3 | ⟨h3, _⟩ | ⟨l, q, g, l1, e, h3, h4⟩
  · cases h3
  · exact absurd rfl h3
  · obtain rfl : dec h ++ r = l := by simpa using e
    obtain ⟨rfl, rfl, rfl⟩ := h3 h r w.1 w.2 rfl hr.1
    exact h4
theorem RdB_two {a b : Tm} {s s' : List UInt8} (ha : RdB a s) (hb : RdW b s') : RdB (.two 2 a b) (s ++ 38 :: s') := fun r xs l' f' hr h1 => by
  rw [List.append_assoc] at h1
  have h2 := ha (38 :: s' ++ r) xs l' f' ⟨⟨noDig_of _ (by decide), by simp⟩, by simp⟩ h1
  rcases h2.invTB with h3 | ⟨h3, _⟩ | ⟨l, ys, l1, f1, e, h3, h4⟩
  · cases h3
  · exact absurd rfl h3
  · obtain rfl : s' ++ r = l := by simpa using e
    obtain ⟨rfl, rfl, rfl⟩ := (hb r _ _ _ hr.1 h3).stopW hr.2
    exact h4
theorem RdT_two {a b : Tm} {s s' : List UInt8} (ha : RdT a s) (hb : RdB b s') : RdT (.two 1 a b) (s ++ 59 :: s') := fun r xs l' f' hr h1 => by
  rw [List.append_assoc] at h1
  have h2 := ha (59 :: s' ++ r) xs l' f' ⟨⟨⟨noDig_of _ (by decide), by simp⟩, by simp⟩, by simp⟩ h1
  rcases h2.invTT with h3 | ⟨h3, _⟩ | ⟨l, ys, l1, f1, e, h3, h4⟩
  · cases h3
  · exact absurd rfl h3
  · obtain rfl : s' ++ r = l := by simpa using e
    obtain ⟨rfl, rfl, rfl⟩ := (hb r _ _ _ hr.1 h3).stopB hr.2
    exact h4

theorem Rd_text {t : Tm} (w : Wf t) : RdT t (textT t) ∧ (1 ≤ bindsT t → RdB t (textT t)) ∧ (2 ≤ bindsT t → RdW t (textT t)) := by
  induction t with
  | step l h => exact ⟨(RdW_step w).b.t, fun _ => (RdW_step w).b, fun _ => RdW_step w⟩
  | one a h ih =>
    have hi := ih w.1
    have h1 : RdW (.one a h) (textT (.one a h)) := RdW_one w.2 (RdW.brc hi.1 fun hc => hi.2.2 (by simpa using hc))
    exact ⟨h1.b.t, fun _ => h1.b, fun _ => h1⟩
  | two k a b iha ihb =>
    have ha := iha w.2.1
    have hb := ihb w.2.2
    rcases w.1 with rfl | rfl
    · refine ⟨?_, fun h => absurd h (by simp [bindsT]), fun h => absurd h (by simp [bindsT])⟩
      have h2 : RdB b (brT (decide (bindsT b < 1)) (textT b)) := by
        by_cases hc : bindsT b < 1
        · rw [decide_eq_true hc]; exact hb.1.br.b
        · rw [decide_eq_false hc]; exact hb.2.1 (by omega)
      have := RdT_two ha.1 h2
      simpa [textT] using this
    · have h1 : RdB a (brT (decide (bindsT a < 1)) (textT a)) := by
        by_cases hc : bindsT a < 1
        · rw [decide_eq_true hc]; exact ha.1.br.b
        · rw [decide_eq_false hc]; exact ha.2.1 (by omega)
      have h2 : RdB (.two 2 a b) (textT (.two 2 a b)) := by
        have := RdB_two h1 (RdW.brc (c := decide (bindsT b < 2)) hb.1 fun hc => hb.2.2 (by simpa using hc))
        simpa [textT] using this
      exact ⟨h2.t, fun _ => h2, fun h => absurd h (by simp [bindsT])⟩
theorem RI_whole {t : Tm} (w : Wf t) {xs : List Mk} {l' : List UInt8} {f' : Bool} (h : RI .thens [] (textT t) true xs l' f') : xs = marksOf t ∧ l' = [] ∧ f' = true := by
  have h1 : RI .thens [] (textT t ++ []) true xs l' f' := by simpa using h
  exact ((Rd_text w).1 [] xs l' f' ⟨⟨⟨fun c h => (by cases h), by simp⟩, by simp⟩, by simp⟩ h1).stopT (by simp)

/-- s is the text of the term xs. -/
def RdOk (s : List UInt8) (xs : List Mk) : Prop := ∃ t, TIs xs t ∧ textT t = s
theorem RdOk.len {s : List UInt8} {xs : List Mk} (h : RdOk s xs) : s.length ≤ 75 ∧ s ≠ [] := by
  obtain ⟨t, ⟨w, e, hl⟩, rfl⟩ := h
  have := textT_len w
  rw [e] at this
  exact ⟨by omega, textT_ne w⟩
/-- What is read of a text. -/
def ReadP (s : List UInt8) (xs : List Mk) (b : Bool) : Prop := (b = true ∧ RdOk s xs ∧ ∀ ys, RdOk s ys → ys = xs) ∨ (b = false ∧ xs = [] ∧ ∀ ys, ¬ RdOk s ys)
theorem ReadP.one {s : List UInt8} {xs ys : List Mk} {b c : Bool} (h : ReadP s xs b) (h' : ReadP s ys c) : xs = ys ∧ b = c := by
  rcases h with ⟨rfl, h1, h2⟩ | ⟨rfl, rfl, h1⟩
  · rcases h' with ⟨rfl, h3, h4⟩ | ⟨rfl, rfl, h3⟩
    · exact ⟨h4 _ h1, rfl⟩
    · exact absurd h1 (h3 _)
  · rcases h' with ⟨rfl, h3, h4⟩ | ⟨rfl, rfl, h3⟩
    · exact absurd h3 (h1 _)
    · exact ⟨rfl, rfl⟩
noncomputable def readV (s : List UInt8) : List Mk × Bool := @dite _ (∃ p : List Mk × Bool, ReadP s p.1 p.2) (Classical.propDecidable _) (fun h => Classical.choose h) (fun _ => ([], false))
theorem readV_eq {s : List UInt8} {xs : List Mk} {b : Bool} (h : ReadP s xs b) : (readV s).1 = xs ∧ (readV s).2 = b := by
  have h0 : ∃ p : List Mk × Bool, ReadP s p.1 p.2 := ⟨(xs, b), h⟩
  unfold readV
  rw [dif_pos h0]
  exact (Classical.choose_spec h0).one h
theorem readP_of {s : List UInt8} {xs : List Mk} {l' : List UInt8} {f' : Bool} (h : RI .thens [] s true xs l' f') : (∀ ys, RdOk s ys → ys = xs ∧ l' = [] ∧ f' = true) := fun ys ⟨t, ⟨w, e, _⟩, hs⟩ => by
  subst hs
  obtain ⟨rfl, h2, h3⟩ := RI_whole w h
  exact ⟨e.symm, h2, h3⟩

end Go.Proofs.YtcmicmenkbgfmaaDoor
