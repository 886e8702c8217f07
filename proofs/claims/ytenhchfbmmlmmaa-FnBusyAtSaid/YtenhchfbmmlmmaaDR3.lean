/- Codes that come in; plain facts on orders (backwards, none missing, two fixed ones); hasInt. -/
import Derived.Test.YtenhchfbmmlmmaaDR2
import Derived.OpenShut
import Derived.Lib.SmallJoins
import Derived.ProofKit
namespace Go.Proofs.Ytenhchfbmmlmmaa
open Go.RowKit

section
open Go.ChangeShapes Go.WideShapes Go.ChangeAt
theorem bounds_u8 {n : Int} (h : (Lit.int .u8 n).wf = true) : 0 ≤ n ∧ n ≤ 255 := by
  simp [Lit.wf, IntKind.min, IntKind.max, IntKind.signed, IntKind.bits] at h
  omega
/-- A slice of bytes that came in. -/
theorem byts_of_open {H : Type} {enc : TypeId × Value → H} {Pr : Program} {w : World} {base : Nat} {spare : Nat → Bool} {held : Bool} {t e : TypeId} {A : Option Addr} {n c : Nat} {d : DataW H} {p : List MemPlace}
    (ht : Pr.underlying t = some (.slice e)) (he : Pr.underlying e = some (.int .u8)) (hC : Pr.cellsOf e = 1) (h : DataW.Trod enc Pr w base spare held t (.slice A n c) d p) : n ≤ 9223372036854775807 ∧ n ≤ c ∧ BytsAt w w.heap.size A n := by
  obtain ⟨fuel, hf⟩ := h
  rcases open_ints ht he hC hf with ⟨hcs, _⟩ | ⟨x, l, c, zs, hcs, _, hl, hm, hz, _, hcell, hwz⟩
  · simp [Value.cells] at hcs
    obtain ⟨rfl, rfl, rfl⟩ := hcs
    exact ⟨by omega, Nat.le_refl _, ⟨fun h => by omega⟩⟩
  · simp [Value.cells] at hcs
    obtain ⟨rfl, rfl, rfl⟩ := hcs
    have hz' : n ≤ zs.length := by
      have : zs.length = if spare x.block then c else n := by simpa using hz
      split at this <;> omega
    refine ⟨by unfold maxLen at hm; omega, hl, ⟨fun hn => ?_⟩⟩
    obtain ⟨b, off, spot⟩ := x
    have hc := hcell 0 (by omega)
    have hspot : spot = none := by simpa [Addr.add] using World.cell?_spot hc
    subst hspot
    refine ⟨b, off, rfl, cell_lt (by simpa [Addr.add] using hc), fun j hj => ?_⟩
    have h1 := hcell j (by omega)
    have h2 := bounds_u8 (hwz (zs.getD j 0) (by
      have hjl : j < zs.length := by omega
      simp [List.getD, hjl]))
    refine ⟨zs.getD j 0, h2.1, h2.2, ?_⟩
    by_cases hj0 : j = 0
    · subst hj0; simpa [Addr.add] using h1
    · simpa [Addr.add, hj0] using h1
end
section
open Go.ChangeShapes Go.WideShapes Go.ChangeAt Go.Joins
set_option maxRecDepth 100000 in
theorem open_code {H : Type} {enc : TypeId × Value → H} {w : World} {base b0 : Nat} {spare : Nat → Bool} {held : Bool} {r : Go.Reach} {v : Value} {d : DataW H} {p : List MemPlace}
    (hv : Value.okWide Try.prog w r b0 22 v) (h : DataW.Trod enc Try.prog w base spare held 22 v d p) :
    ∃ A n c, v = .slice A n c ∧ (n ≤ 9223372036854775807 ∧ n ≤ c ∧ BytsAt w w.heap.size A n) := by
  obtain ⟨A, n, c, rfl⟩ := okWide_slice Try.underlying22 hv
  exact ⟨A, n, c, rfl, byts_of_open Try.underlying22 Try.underlying5 (by kernel_rfl) h⟩
end

theorem getD_eq {xs : List Int} {i : Nat} (h : i < xs.length) : xs.getD i 0 = xs[i] := by simp [List.getD, h]
theorem ordUp_iff (xs : List Int) (q : Int) : OrdUp xs q xs.length ↔ (∀ x ∈ xs, InR x 0 q) ∧ xs.Nodup := by
  constructor
  · intro h
    refine ⟨fun x hx => ?_, ?_⟩
    · obtain ⟨i, hi, rfl⟩ := List.mem_iff_getElem.1 hx
      have := (h i hi).1
      rwa [getD_eq hi] at this
    · rw [List.Nodup, List.pairwise_iff_getElem]
      intro i j hi hj hij
      have := (h j hj).2 i hij
      rwa [getD_eq hi, getD_eq hj] at this
  · rintro ⟨h1, h2⟩ i hi
    refine ⟨by rw [getD_eq hi]; exact h1 _ (List.getElem_mem _), fun j hj => ?_⟩
    rw [List.Nodup, List.pairwise_iff_getElem] at h2
    rw [getD_eq hi, getD_eq (by omega)]
    exact h2 j i (by omega) hi hj
theorem ordOk_iff (xs : List Int) (m : Int) : OrdOk xs m ↔ ((∀ x ∈ xs, InR x 0 (wrap64 (m - 1))) ∧ xs.Nodup) ∧ InR m 0 6 ∧ (xs.length : Int) = m := by
  unfold OrdOk; rw [ordUp_iff]
theorem ordOk_rev (xs : List Int) (m : Int) : OrdOk xs.reverse m ↔ OrdOk xs m := by
  rw [ordOk_iff, ordOk_iff]
  have h : xs.reverse.Nodup ↔ xs.Nodup := by
    unfold List.Nodup; rw [List.pairwise_reverse]
    constructor <;> exact fun h => h.imp Ne.symm
  rw [h]; simp
theorem ordOk_nil : OrdOk [] 0 := ⟨fun i hi => absurd hi (Nat.not_lt_zero _), ⟨by decide, by decide⟩, rfl⟩
theorem ordOk_00 : ¬ OrdOk [0, 0] 2 := by
  intro h
  have := (h.1 1 (by decide)).2 0 (by decide)
  exact this rfl
theorem length_le_of_sub {α : Type} [DecidableEq α] : ∀ (xs ys : List α), xs.Nodup → (∀ x ∈ xs, x ∈ ys) → xs.length ≤ ys.length := by
  intro xs
  induction xs with
  | nil => intro ys _ _; exact Nat.zero_le _
  | cons x xs ih =>
    intro ys hn hs
    have hx : x ∈ ys := hs x (by simp)
    have hn' := List.nodup_cons.1 hn
    have := ih (ys.erase x) hn'.2 (fun y hy => by
      rw [List.mem_erase_of_ne (by intro e; subst e; exact hn'.1 hy)]
      exact hs y (by simp [hy]))
    rw [List.length_erase_of_mem hx] at this
    have := List.length_pos_of_mem hx
    simp
    omega
theorem ordOk_has {xs : List Int} {m k : Int} (h : OrdOk xs m) (h0 : 0 ≤ k) (h1 : k < m) : k ∈ xs := by
  rw [ordOk_iff] at h
  obtain ⟨⟨ha, hn⟩, ⟨hm0, hm1⟩, hl⟩ := h
  have hw : wrap64 (m - 1) = m - 1 := by unfold wrap64; omega
  rw [hw] at ha
  by_cases hk : k ∈ xs
  · exact hk
  · exfalso
    have := length_le_of_sub (k :: xs) ((List.range m.toNat).map Int.ofNat) (List.nodup_cons.2 ⟨hk, hn⟩) (fun x hx => by
      have hxr : 0 ≤ x ∧ x < m := by
        rcases List.mem_cons.1 hx with rfl | hx
        · exact ⟨h0, h1⟩
        · have := ha x hx; unfold InR at this; omega
      rw [List.mem_map]
      exact ⟨x.toNat, by rw [List.mem_range]; omega, by simp; omega⟩)
    simp at this
    omega


end Go.Proofs.Ytenhchfbmmlmmaa
