/- Small shared words: truth values of propositions, integers in a range, rows of integers in memory, and the first contracts (in, l1In, Index, Contains, len-wise equality and copies of integer rows). -/
import Derived.Test.YtcmicmenkbgfmaaDoorRows
import Derived.WalkKit
import Derived.WalkSpells
import Derived.WalkLawsBesides
import Derived.Deep.QuietTactic
import Derived.BigQuiet
import Derived.Lib.Hide
import Derived.ProofKit
namespace Go.Proofs.YtcmicmenkbgfmaaDoor
open Go.RowKit

/-- The truth value of a proposition. -/
noncomputable def B (p : Prop) : Bool := @decide p (Classical.propDecidable p)
theorem B_true {p : Prop} (h : p) : B p = true := by simp [B, h]
theorem B_false {p : Prop} (h : ¬ p) : B p = false := by simp [B, h]
theorem of_B {p : Prop} (h : B p = true) : p := by simpa [B] using h
theorem not_of_B {p : Prop} (h : B p = false) : ¬ p := by simpa [B] using h
theorem B_congr {p q : Prop} (h : p ↔ q) : B p = B q := by unfold B; by_cases hp : p <;> simp [hp, h.1, ← h]

/-- What a call that only reads leaves: the value, and some draws. -/
def Qt (w : World) (v : Value) (e : Ending) (w' : World) : Prop := e = .returned v ∧ ∃ m, w' = w.drewN m

/-- What a call that only computes leaves. -/
def Same (w : World) (v : Value) (e : Ending) (w' : World) : Prop := e = .returned v ∧ w = w'

section
variable {Pr : Program} {f : FuncId} {args : Array Value} {w : World} {R : Ending → World → Prop}
/-- A truth value taken at its call, both ways. -/
theorem kS {p : Prop} (h : Calls Pr f args w (Same w (.bool (B p)))) (h1 : Hid p → R (.returned (.bool true)) w) (h0 : Hid (¬ p) → R (.returned (.bool false)) w) : Calls Pr f args w R :=
  h.mono fun e w' ⟨he, hw⟩ => by
    subst he; subst hw
    by_cases hp : p
    · rw [B_true hp]; exact h1 hp
    · rw [B_false hp]; exact h0 hp
theorem kQ {p : Prop} (h : Calls Pr f args w (Qt w (.bool (B p)))) (h1 : ∀ m, Hid p → R (.returned (.bool true)) (w.drewN m)) (h0 : ∀ m, Hid (¬ p) → R (.returned (.bool false)) (w.drewN m)) : Calls Pr f args w R :=
  h.mono fun e w' ⟨he, m, hw⟩ => by
    subst he; subst hw
    by_cases hp : p
    · rw [B_true hp]; exact h1 m hp
    · rw [B_false hp]; exact h0 m hp
theorem kV {v : Value} (h : Calls Pr f args w (Same w v)) (h1 : R (.returned v) w) : Calls Pr f args w R :=
  h.mono fun e w' ⟨he, hw⟩ => by subst he; subst hw; exact h1
theorem kW {v : Value} (h : Calls Pr f args w (Qt w v)) (h1 : ∀ m, R (.returned v) (w.drewN m)) : Calls Pr f args w R :=
  h.mono fun e w' ⟨he, m, hw⟩ => by subst he; subst hw; exact h1 m
theorem Qt.of_same {v : Value} (h : Calls Pr f args w (Same w v)) : Calls Pr f args w (Qt w v) :=
  h.mono fun _ _ ⟨he, hw⟩ => ⟨he, 0, hw.symm⟩
end

theorem ret_b {a b : Bool} (h : a = b) : Ending.returned (.bool a) = Ending.returned (.bool b) := by rw [h]
theorem ret_i {k : IntKind} {a b : Int} (h : a = b) : Ending.returned (.int k a) = Ending.returned (.int k b) := by rw [h]

theorem dd (w : World) (a b : Nat) : (w.drewN a).drewN b = w.drewN (a + b) := World.drewN_drewN ..

/-- n is in lo..hi. -/
def InR (n lo hi : Int) : Prop := lo ≤ n ∧ n ≤ hi

theorem in_any (n lo hi : Int) (w : World) : Calls Tryd.prog 34 #[.int .i64 n, .int .i64 lo, .int .i64 hi] w (Same w (.bool (B (InR n lo hi)))) := by
  by_cases h1 : lo ≤ n
  · by_cases h2 : n ≤ hi
    · go_enter Tryd.func34, Tryd.ntmps34
      go_wp2
      go_ret
      exact ⟨ret_b (by rw [B_true (by unfold InR; omega)]), rfl⟩
    · go_enter Tryd.func34, Tryd.ntmps34
      go_wp2
      go_ret
      exact ⟨ret_b (by rw [B_false (by unfold InR; omega)]), rfl⟩
  · go_enter Tryd.func34, Tryd.ntmps34
    go_wp2
    go_ret
    exact ⟨ret_b (by rw [B_false (by unfold InR; omega)]), rfl⟩

theorem l1In_any (n lo hi : Int) (w : World) : Calls Tryd.prog 51 #[.int .i64 n, .int .i64 lo, .int .i64 hi] w (Same w (.bool (B (InR n lo hi)))) := by
  by_cases h1 : lo ≤ n
  · by_cases h2 : n ≤ hi
    · go_enter Tryd.func51, Tryd.ntmps51
      go_wp2
      go_ret
      exact ⟨ret_b (by rw [B_true (by unfold InR; omega)]), rfl⟩
    · go_enter Tryd.func51, Tryd.ntmps51
      go_wp2
      go_ret
      exact ⟨ret_b (by rw [B_false (by unfold InR; omega)]), rfl⟩
  · go_enter Tryd.func51, Tryd.ntmps51
    go_wp2
    go_ret
    exact ⟨ret_b (by rw [B_false (by unfold InR; omega)]), rfl⟩


/-- A row of integer cells: nothing is said of a row of no cell. -/
structure IntsAt (w : World) (A : Option Addr) (n : Nat) (xs : List Int) : Prop where
  len : xs.length = n
  cells : 0 < n → ∃ b off, A = some ⟨b, off, none⟩ ∧ ∀ j, j < n → w.cell? ⟨b, off + j, none⟩ = some (.int .i64 (xs.getD j 0))

theorem cell_lt {w : World} {a : Addr} {v : Value} (h : w.cell? a = some v) : a.block < w.heap.size := by
  unfold World.cell? at h
  rcases Nat.lt_or_ge a.block w.heap.size with hl | hl
  · exact hl
  · rw [Array.getElem?_eq_none hl] at h; cases h

theorem IntsAt.keep {w w' : World} {A : Option Addr} {n : Nat} {xs : List Int} (h : IntsAt w A n xs) (hk : ∀ p v, w.cell? p = some v → w'.cell? p = some v) : IntsAt w' A n xs :=
  ⟨h.len, fun hn => by obtain ⟨b, off, e, hc⟩ := h.cells hn; exact ⟨b, off, e, fun j hj => hk _ _ (hc j hj)⟩⟩
theorem IntsAt.below {w w' : World} {A : Option Addr} {n : Nat} {xs : List Int} (h : IntsAt w A n xs) (hb : Below w.heap.size w w') : IntsAt w' A n xs :=
  h.keep fun p v hv => by rw [hb.cell (cell_lt hv)]; exact hv
theorem IntsAt.drewN {w : World} {A : Option Addr} {n : Nat} {xs : List Int} (h : IntsAt w A n xs) (m : Nat) : IntsAt (w.drewN m) A n xs := ⟨h.len, h.cells⟩
theorem IntsAt.setCell {w : World} {A : Option Addr} {n : Nat} {xs : List Int} (h : IntsAt w A n xs) {q : Addr} (hne : ∀ a, A = some a → a.block ≠ q.block) (v : Value) : IntsAt (w.setCell q v) A n xs :=
  ⟨h.len, fun hn => by
    obtain ⟨b, off, e, hc⟩ := h.cells hn
    exact ⟨b, off, e, fun j hj => by rw [World.cell?_setCell_other _ _ _ _ (fun e' => hne _ e (by rw [e']))]; exact hc j hj⟩⟩
theorem IntsAt.cut {w : World} {A : Option Addr} {n : Nat} {xs : List Int} (h : IntsAt w A n xs) {k : Nat} (hk : k ≤ n) : IntsAt w A k (xs.take k) :=
  ⟨by rw [List.length_take, h.len]; omega, fun hn => by
    obtain ⟨b, off, e, hc⟩ := h.cells (by omega)
    refine ⟨b, off, e, fun j hj => ?_⟩
    rw [hc j (by omega)]
    simp [List.getD, hj]⟩

/-- Where xs has v first, -1 if nowhere. -/
def idxOf (xs : List Int) (v : Int) : Int := match xs.findIdx? (fun x => v == x) with | some i => (i : Int) | none => -1

theorem idx_hit (xs : List Int) (v : Int) (k : Nat) (hk : k < xs.length) (hn : (xs.take k).findIdx? (fun x => v == x) = none) (hv : (v == xs[k]?.getD 0) = true) : idxOf xs v = k := by
  unfold idxOf
  have : xs.findIdx? (fun x => v == x) = some k := by
    rw [List.findIdx?_eq_some_iff_getElem]
    refine ⟨hk, by simpa [List.getElem?_eq_getElem hk] using hv, fun j hj => ?_⟩
    rw [List.findIdx?_eq_none_iff] at hn
    have := hn (xs[j]'(by omega)) (by rw [List.mem_take_iff_getElem]; exact ⟨j, by omega, rfl⟩)
    simpa using this
  rw [this]

theorem idx_step (xs : List Int) (v : Int) (k : Nat) (hk : k < xs.length) (hn : (xs.take k).findIdx? (fun x => v == x) = none) (hv : (v == xs[k]?.getD 0) = false) : (xs.take (k + 1)).findIdx? (fun x => v == x) = none := by
  rw [List.take_succ_eq_append_getElem hk, List.findIdx?_append, hn]
  simpa [List.getElem?_eq_getElem hk] using hv

theorem idx_nonneg (xs : List Int) (v : Int) : 0 ≤ idxOf xs v ↔ v ∈ xs := by
  unfold idxOf
  cases h : xs.findIdx? (fun x => v == x) with
  | none =>
    rw [List.findIdx?_eq_none_iff] at h
    simp only [Int.reduceNeg, Int.reduceLE, false_iff]
    intro hm; have := h v hm; simp at this
  | some i =>
    rw [List.findIdx?_eq_some_iff_getElem] at h
    obtain ⟨hi, hv, _⟩ := h
    simp only [Int.natCast_nonneg, true_iff]
    have : v = xs[i] := by simpa using hv
    rw [this]; exact List.getElem_mem _

theorem Index_any (A : Option Addr) (n c : Nat) (xs : List Int) (v : Int) (w : World) (h : IntsAt w A n xs) (hn : n ≤ 4611686018427387904) :
   Calls Tryd.prog 57 #[.slice A n c, .int .i64 v] w (Same w (.int .i64 (idxOf xs v))) := by
  have hl := h.len
  go_enter Tryd.func57, Tryd.ntmps57
  have HL := Lib.hid hl
  clear hl
  go_wp2
  go_loop [8] (fun i => ∃ k : Nat, k ≤ n ∧ i = .int .i64 k ∧ (xs.take k).findIdx? (fun x => v == x) = none) (fun i => n - (intOf i).toNat)
  case atStart => exact ⟨0, Nat.zero_le _, rfl, by simp⟩
  case round =>
    obtain ⟨k, hk, rfl, hnf⟩ := hrel
    have HN := Lib.hid hnf
    clear hnf
    by_cases hlt : k < n
    · obtain ⟨b, off, rfl, hc⟩ := h.cells (by omega)
      have hcell := hc k hlt
      clear hc
      go_wp2
      · have hv : (v == xs[k]?.getD 0) = true := by assumption
        go_ret
        exact ⟨ret_i (idx_hit xs v k (by rw [HL.out]; exact hlt) HN.out hv).symm, rfl⟩
      · have hv : (v == xs[k]?.getD 0) = false := by assumption
        go_round
        case rel => exact ⟨k + 1, by omega, by go_num, idx_step xs v k (by rw [HL.out]; exact hlt) HN.out hv⟩
        case measure => simp [intOf]; omega
    · go_wp2
      go_ret
      refine ⟨ret_i ?_, rfl⟩
      have he : xs.take k = xs := List.take_of_length_le (by rw [HL.out]; omega)
      have := HN.out
      rw [he] at this
      unfold idxOf
      rw [this]

def Has (xs : List Int) (v : Int) : Prop := v ∈ xs
theorem Contains_any (A : Option Addr) (n c : Nat) (xs : List Int) (v : Int) (w : World) (h : IntsAt w A n xs) (hn : n ≤ 4611686018427387904) :
   Calls Tryd.prog 49 #[.slice A n c, .int .i64 v] w (Same w (.bool (B (Has xs v)))) := by
  go_enter Tryd.func49, Tryd.ntmps49
  go_wp2_with (go_at_call 57; refine kV (Index_any A n c xs v w h hn) ?_)
  go_ret
  refine ⟨ret_b ?_, rfl⟩
  by_cases hv : v ∈ xs
  · rw [B_true (show Has xs v from hv)]; simpa using (idx_nonneg xs v).2 hv
  · rw [B_false (show ¬ Has xs v from hv)]; simp; have := mt (idx_nonneg xs v).1 hv; omega

/-- Equal rows. -/
def EqInts (xs ys : List Int) : Prop := xs = ys

theorem eq_of_upto {xs ys : List Int} {k : Nat} (h1 : xs.length = k) (h2 : ys.length = k) (h : ∀ j, j < k → xs.getD j 0 = ys.getD j 0) : xs = ys := by
  apply List.ext_getElem (by omega)
  intro i h3 h4
  have := h i (by omega)
  simpa [List.getD, h3, h4] using this


/-- A call that makes: nothing that was there has changed. -/
def NewInts (w : World) (n : Nat) (xs : List Int) (e : Ending) (w' : World) : Prop :=
  ∃ A c, e = .returned (.slice A n c) ∧ n ≤ c ∧ IntsAt w' A n xs ∧ Below w.heap.size w w' ∧ ∀ a, A = some a → w.heap.size ≤ a.block

section
open Go.ChangeShapes Go.WideShapes Go.ChangeAt
/-- A slice of ints that came in, as a row. -/
theorem intsAt_of_open {H : Type} {enc : TypeId × Value → H} {Pr : Program} {w : World} {base : Nat} {spare : Nat → Bool} {held : Bool} {t e : TypeId} {A : Option Addr} {n c : Nat} {d : DataW H} {p : List MemPlace}
    (ht : Pr.underlying t = some (.slice e)) (he : Pr.underlying e = some (.int .i64)) (hC : Pr.cellsOf e = 1) (h : DataW.Trod enc Pr w base spare held t (.slice A n c) d p) : ∃ zs, n ≤ 9223372036854775807 ∧ IntsAt w A n zs := by
  obtain ⟨fuel, hf⟩ := h
  rcases open_ints ht he hC hf with ⟨hcs, _⟩ | ⟨x, l, c, zs, hcs, _, hl, hm, hz, _, hcell, hwz⟩
  · simp [Value.cells] at hcs
    obtain ⟨rfl, rfl, rfl⟩ := hcs
    exact ⟨[], by omega, rfl, fun h => by omega⟩
  · simp [Value.cells] at hcs
    obtain ⟨rfl, rfl, rfl⟩ := hcs
    have hz' : n ≤ zs.length := by
      have : zs.length = if spare x.block then c else n := by simpa using hz
      split at this <;> omega
    refine ⟨zs.take n, by unfold maxLen at hm; omega, by rw [List.length_take]; omega, fun hn => ?_⟩
    obtain ⟨b, off, spot⟩ := x
    have hc := hcell 0 (by omega)
    have hspot : spot = none := by simpa [Addr.add] using World.cell?_spot hc
    subst hspot
    refine ⟨b, off, rfl, fun j hj => ?_⟩
    have := hcell j (by omega)
    rw [show zs.getD j 0 = (zs.take n).getD j 0 by simp [List.getD, hj]] at this
    by_cases hj0 : j = 0
    · subst hj0; simpa [Addr.add] using this
    · simpa [Addr.add, hj0] using this
end

theorem kNew {Pr : Program} {f : FuncId} {args : Array Value} {w : World} {R : Ending → World → Prop} {n : Nat} {xs : List Int} (h : Calls Pr f args w (NewInts w n xs))
    (h1 : ∀ A c w', n ≤ c → IntsAt w' A n xs → Below w.heap.size w w' → (∀ a, A = some a → w.heap.size ≤ a.block) → R (.returned (.slice A n c)) w') : Calls Pr f args w R :=
  h.mono fun e w' ⟨A, c, he, hc, hi, hb, hf⟩ => by subst he; exact h1 A c w' hc hi hb hf

end Go.Proofs.YtcmicmenkbgfmaaDoor
