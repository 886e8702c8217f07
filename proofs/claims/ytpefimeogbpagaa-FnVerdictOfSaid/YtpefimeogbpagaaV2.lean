/- The fewest happenings with which a plan is broken: broken, both FirstBad functions. -/
import Derived.Test.YtpefimeogbpagaaV1
set_option linter.unusedSimpArgs false
set_option linter.unusedVariables false
namespace Go.Proofs.Ytpefimeogbpagaa
open Go.RowKit

/-- Broken with the first k happenings, at the time of the last one. -/
def Brk (p : Int) (bs : List Bd) (hs : List Hp) (k : Nat) : Prop := Vd p bs (hs.take k) (lastT hs k) = 2
theorem lastT_take {hs : List Hp} {k : Nat} (_hk : k ≤ hs.length) : lastT (hs.take k) k = lastT hs k := by
  unfold lastT
  split
  · rfl
  · have : k - 1 < k := by omega
    simp [List.getD, this]
/-- What FirstBad answers. -/
noncomputable def Fb (p : Int) (bs : List Bd) (hs : List Hp) : Int := if B (HrdOk p bs hs) = true then (match (List.range (hs.length + 1)).find? (fun k => B (Brk p bs hs k)) with | some k => (k : Int) | none => -1) else -1
theorem Fb_no {p : Int} {bs : List Bd} {hs : List Hp} (h : ¬ HrdOk p bs hs) : Fb p bs hs = -1 := by unfold Fb; rw [B_false h]; rfl
theorem find_range {P : Nat → Bool} : ∀ (n : Nat), (∀ k, k < n → P k = false) → (List.range n).find? P = none := fun n h => List.find?_eq_none.2 fun k hk => by rw [h k (List.mem_range.1 hk)]; simp
theorem Fb_hit {p : Int} {bs : List Bd} {hs : List Hp} {k : Nat} (h : HrdOk p bs hs) (hk : k ≤ hs.length) (hlo : ∀ j, j < k → ¬ Brk p bs hs j) (hb : Brk p bs hs k) : Fb p bs hs = k := by
  unfold Fb
  rw [B_true h]
  have e : List.range (hs.length + 1) = List.range k ++ (k :: (List.range (hs.length - k)).map (· + (k + 1))) := by
    have h1 : hs.length + 1 = k + (1 + (hs.length - k)) := by omega
    rw [h1, List.range_add]
    congr 1
    rw [Nat.add_comm 1, List.range_succ_eq_map, List.map_cons, List.map_map]
    congr 1
    apply List.map_congr_left
    intro a _
    simp; omega
  rw [e, List.find?_append, find_range k (fun j hj => B_false (hlo j hj))]
  simp [List.find?_cons, B_true hb]
theorem Fb_none {p : Int} {bs : List Bd} {hs : List Hp} (h : HrdOk p bs hs) (hlo : ∀ j, j < hs.length + 1 → ¬ Brk p bs hs j) : Fb p bs hs = -1 := by
  unfold Fb
  rw [B_true h, find_range _ (fun j hj => B_false (hlo j hj))]
  rfl




end Go.Proofs.Ytpefimeogbpagaa
