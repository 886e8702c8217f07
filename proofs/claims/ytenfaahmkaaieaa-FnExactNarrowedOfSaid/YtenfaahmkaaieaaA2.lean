/- Copies of integer rows (laws.toIntS), and the two OrderOk functions. -/
import Derived.Test.YtenfaahmkaaieaaA1
import Derived.Deep.OwnRows
namespace Go.Proofs.Ytenfaahmkaaieaa
open Go.RowKit

theorem int_info : (Try.prog.info? 3).map (fun i => (i.zero, i.size, i.bytes)) = some (some (.int .i64 0), 1, 8) := by kernel_rfl

theorem drewN_self (w : World) : ∃ m, w = w.drewN m := ⟨0, rfl⟩

theorem toIntS_any (A : Option Addr) (n c : Nat) (xs : List Int) (w : World) (h : IntsAt w A n xs) (hn : n ≤ 1048576) :
    Calls Try.prog 35 #[.slice A n c] w (NewInts w n xs) := by
  have HL := Lib.hid h.len
  have hmk : ∀ W : World, (Instr.makeSlice 38 (.int .i64 (n : Int)) (.int .i64 (n : Int))).run Try.prog W = .ok (.slice (some ⟨W.heap.size, 0, none⟩) n n) (W.alloc (.cells (madeCells #[.int .i64 0] n) 3)) :=
    fun W => run_make_row' _ _ _ 8 Try.underlying38 int_info rfl _ _ n (by omega) (by omega) W
  go_enter Try.func35, Try.ntmps35
  go_wp2
  go_loopw [4] (fun i wr => ∃ (k : Nat) (arr : Array Value), k ≤ n ∧ i = .int .i64 k ∧ wr = w.alloc (.cells arr 3) ∧ arr.size = n ∧ ∀ j, j < k → arr[j]? = some (.int .i64 (xs.getD j 0))) (fun i _ => n - (intOf i).toNat)
  case atStart => exact ⟨0, _, Nat.zero_le _, rfl, rfl, size_madeCells _ _, fun j hj => by omega⟩
  case round =>
    obtain ⟨k, arr, hk, rfl, rfl, hs, harr⟩ := hrel
    have HA := Lib.hid harr
    have HS := Lib.hid hs
    clear harr
    by_cases hlt : k < n
    · obtain ⟨b, off, rfl, hc⟩ := h.cells (by omega)
      have hcell := hc k hlt
      have hbl : b < w.heap.size := cell_lt hcell
      have hold : ∃ v, arr[k]? = some v := ⟨_, Array.getElem?_eq_getElem (by omega)⟩
      obtain ⟨vold, hvold⟩ := hold
      clear hc hs
      go_wp2
      go_roundw
      case rel =>
        refine ⟨k + 1, _, by omega, by go_num, rfl, by simp [HS.out], fun j hj => ?_⟩
        rcases Nat.lt_or_ge j k with h1 | h1
        · rw [Array.getElem?_setIfInBounds_ne (by omega)]; exact HA.out j h1
        · obtain rfl : j = k := by omega
          simp [HS.out, hlt, List.getD]
      case measure => simp [intOf]; omega
    · go_wp2
      go_ret
      obtain rfl : k = n := by omega
      refine ⟨some ⟨w.heap.size, 0, none⟩, k, rfl, Nat.le_refl _, ⟨HL.out, fun _ => ⟨w.heap.size, 0, rfl, fun j hj => ?_⟩⟩, (Below.refl _ _).alloc (Nat.le_refl _) _, ?_⟩
      · have := HA.out j hj
        rw [show (w.alloc (.cells arr 3)).cell? ⟨w.heap.size, 0 + j, none⟩ = arr[0 + j]? from World.cell?_alloc_new .., Nat.zero_add]
        exact this
      · rintro a ⟨rfl⟩; exact Nat.le_refl _

/-- The order's property: each number in 0..many-1 (as the machine computes that), none twice, as many as many, many in 0..6. -/
def OrdUp (xs : List Int) (q : Int) (k : Nat) : Prop := ∀ i, i < k → InR (xs.getD i 0) 0 q ∧ ∀ j, j < i → xs.getD j 0 ≠ xs.getD i 0
def OrdOk (xs : List Int) (many : Int) : Prop := OrdUp xs (wrap64 (many - 1)) xs.length ∧ InR many 0 6 ∧ (xs.length : Int) = many



end Go.Proofs.Ytenfaahmkaaieaa
