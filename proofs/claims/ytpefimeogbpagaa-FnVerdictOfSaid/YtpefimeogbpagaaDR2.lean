/- Draws of orders: l20Shuffle, DrawOrderOk; hasInt. -/
import Derived.Test.YtpefimeogbpagaaDR1
namespace Go.Proofs.Ytpefimeogbpagaa
open Go.RowKit

theorem rowI : RowTy Try.prog 29 3 (.int .i64 0) 1 8 := ⟨Try.underlying29, by kernel_rfl, rfl, by decide, by decide⟩

/-- A call that moves the reader and makes a row of n ints. -/
def MvI (R : Nat) (B : Int) (n : Nat) (w : World) (e : Ending) (w' : World) : Prop :=
  ∃ (A : Option Addr) (c : Nat) (xs : List Int), e = .returned (.slice A n c) ∧ w'.ownsRow w.heap.size 3 1 (.slice A n c) n (vI xs) ∧ xs.length = n ∧ Mv R B w w'
theorem kMvI {Pr : Program} {f : FuncId} {args : Array Value} {w : World} {K : Ending → World → Prop} {R n : Nat} {B : Int} (h : Calls Pr f args w (MvI R B n w))
    (h1 : ∀ A c xs w', w'.ownsRow w.heap.size 3 1 (.slice A n c) n (vI xs) → xs.length = n → Mv R B w w' → K (.returned (.slice A n c)) w') : Calls Pr f args w K :=
  h.mono fun e w' ⟨A, c, xs, he, ho, hl, hm⟩ => by subst he; exact h1 A c xs w' ho hl hm

theorem vI_app (xs ys : List Int) : vI (xs ++ ys) = vI xs ++ vI ys := by simp [vI]
theorem ownI_at {w : World} {base : Nat} {A : Option Addr} {n c : Nat} {xs : List Int} (h : w.ownsRow base 3 1 (.slice A n c) n (vI xs)) : IntsAt w A n xs := by
  obtain ⟨A', c', e, _, hi, _⟩ := own_ints h
  cases e; exact hi
theorem ownI_take {w : World} {base : Nat} {A : Option Addr} {n c k : Nat} {xs : List Int} (h : w.ownsRow base 3 1 (.slice A n c) n (vI xs)) (hk : k ≤ n) : IntsAt w A k (xs.take k) := (ownI_at h).cut hk
theorem IntsAt.part {w : World} {g n k : Nat} {xs : List Int} {c : Nat} (h : IntsAt w (some ⟨g, 0, none⟩) n xs) (hk : k ≤ n) (hc : n ≤ c) : IntsAt w (if c = k then some ⟨g, 0, none⟩ else some ⟨g, k, none⟩) (n - k) (xs.drop k) := by
  have hl := h.len
  refine ⟨by simp [hl], fun hn => ?_⟩
  rw [if_neg (by omega)]
  obtain ⟨b, off, e, hcell⟩ := h.cells (by omega)
  cases e
  refine ⟨g, k, rfl, fun j hj => ?_⟩
  have := hcell (k + j) (by omega)
  rw [Nat.zero_add] at this
  rw [this]
  simp [List.getD]
theorem IntsAt.newsO {w : World} {A : Option Addr} {a : Addr} {n : Nat} {xs : List Int} (h : IntsAt w A n xs) (ha : A = some a) : ∀ j u, (vI xs)[j]? = some u → w.cell? (a.add j) = some u := by
  intro j u hu
  have hl := h.len
  have hj : j < xs.length := by
    rcases Nat.lt_or_ge j xs.length with h1 | h1
    · exact h1
    · rw [vI, List.getElem?_eq_none (by simpa using h1)] at hu; cases hu
  obtain ⟨b, off, e, _⟩ := h.cells (by omega)
  rw [e] at ha
  cases ha
  subst e
  exact h.news j u hu

/-- An older row stands while a newer one grows. -/
theorem own_kept {w w' : World} {base : Nat} {e : TypeId} {size : Nat} {v : Value} {n : Nat} {xs : List Value} {row : Option Nat} {N : Nat} (h : w.ownsRow base e size v n xs) (hN : ∀ k, v.ownBlock = some k → k < N) (hg : w.grownBy w' row) (hr : ∀ g, row = some g → N ≤ g) : w'.ownsRow base e size v n xs := by
  refine h.kept hg ?_
  cases hv : v.ownBlock with
  | none => exact .inl rfl
  | some k =>
    refine .inr fun e => ?_
    have h1 := hN k hv
    have h2 := hr k e.symm
    omega

theorem own_cellsD {w : World} {base : Nat} {e : TypeId} {size : Nat} {A : Option Addr} {n c : Nat} {xs : List Value} (h : w.ownsRow base e size (.slice A n c) n xs) (hn : 0 < n) : ∃ g, A = some ⟨g, 0, none⟩ ∧ base ≤ g ∧ g < w.heap.size := by
  obtain ⟨g, cap, e, h1, h2⟩ := h.form hn
  cases e
  exact ⟨g, rfl, h1, h2⟩



end Go.Proofs.Ytpefimeogbpagaa
