/- The sum over time of the tasks under way is the sum of the lengths (plain). -/
import Derived.Test.YtenhchfbmmlmmaaA7
namespace Go.Proofs.Ytenhchfbmmlmmaa

def sumT (f : Nat → Int) : Nat → Int
  | 0 => 0
  | T + 1 => sumT f T + f T
theorem sumT_add (f g : Nat → Int) (T : Nat) : sumT (fun t => f t + g t) T = sumT f T + sumT g T := by
  induction T with
  | zero => rfl
  | succ T ih => simp only [sumT]; rw [ih]; omega
theorem sumT_zero (T : Nat) : sumT (fun _ => 0) T = 0 := by
  induction T with
  | zero => rfl
  | succ T ih => simp only [sumT]; rw [ih]; rfl
theorem sumT_span (b x : Int) (hb : 0 ≤ b) (hx : 0 ≤ x) (T : Nat) : sumT (fun t => if b ≤ (t : Int) ∧ (t : Int) < b + x then 1 else 0) T = if (T : Int) ≤ b then 0 else if (T : Int) ≤ b + x then (T : Int) - b else x := by
  induction T with
  | zero => simp only [sumT]; split <;> (try split) <;> omega
  | succ T ih =>
    simp only [sumT]
    rw [ih]
    repeat' split
    all_goals omega
def sumL (xs : List Int) : Nat → Int
  | 0 => 0
  | k + 1 => sumL xs k + xs.getD k 0
/-- Each task is under way as many times as it lasts. -/
theorem sumT_busy (xs bs : List Int) (T : Nat) : ∀ K : Nat, (∀ k, k < K → 0 ≤ bs.getD k 0 ∧ 0 ≤ xs.getD k 0 ∧ bs.getD k 0 + xs.getD k 0 ≤ (T : Int)) → sumT (fun t => busyN xs bs (t : Int) K) T = sumL xs K := by
  intro K
  induction K with
  | zero => intro _; exact sumT_zero T
  | succ K ih =>
    intro h
    have h1 := ih (fun k hk => h k (by omega))
    obtain ⟨h2, h3, h4⟩ := h K (by omega)
    have h5 := sumT_span (bs.getD K 0) (xs.getD K 0) h2 h3 T
    have h6 : sumT (fun t => busyN xs bs (t : Int) (K + 1)) T = sumT (fun t => busyN xs bs (t : Int) K) T + sumT (fun t => if bs.getD K 0 ≤ (t : Int) ∧ (t : Int) < bs.getD K 0 + xs.getD K 0 then 1 else 0) T := by
      rw [← sumT_add]
      congr 1
    rw [h6, h1, h5]
    simp only [sumL]
    split <;> (try split) <;> omega
theorem endN_le (xs bs : List Int) : ∀ K k : Nat, k < K → bs.getD k 0 + xs.getD k 0 ≤ endN xs bs K := by
  intro K
  induction K with
  | zero => intro k hk; omega
  | succ K ih =>
    intro k hk
    simp only [endN]
    rcases Nat.lt_or_ge k K with h | h
    · have := ih k h; omega
    · obtain rfl : k = K := by omega
      omega
theorem endN_nonneg (xs bs : List Int) (K : Nat) : 0 ≤ endN xs bs K := by
  induction K with
  | zero => exact Int.le_refl 0
  | succ K ih => simp only [endN]; omega
/-- None is under way at the end. -/
theorem busy_end (xs bs : List Int) (E : Int) : ∀ K : Nat, (∀ k, k < K → bs.getD k 0 + xs.getD k 0 ≤ E) → busyN xs bs E K = 0 := by
  intro K
  induction K with
  | zero => intro _; rfl
  | succ K ih =>
    intro h
    have h1 := h K (by omega)
    simp only [busyN]
    rw [ih (fun k hk => h k (by omega)), if_neg (fun hd => by have := hd.2; omega)]
    rfl

end Go.Proofs.Ytenhchfbmmlmmaa
