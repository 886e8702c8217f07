/- Copies of integer rows (laws.toIntS), and the two OrderOk functions. -/
import Derived.Test.YtopfhlopicjemaaA1
import Derived.Deep.OwnRows
namespace Go.Proofs.Ytopfhlopicjemaa
open Go.RowKit

theorem int_info : (Try.prog.info? 3).map (fun i => (i.zero, i.size, i.bytes)) = some (some (.int .i64 0), 1, 8) := by kernel_rfl

theorem drewN_self (w : World) : ∃ m, w = w.drewN m := ⟨0, rfl⟩

theorem toIntS_any (A : Option Addr) (n c : Nat) (xs : List Int) (w : World) (h : IntsAt w A n xs) (hn : n ≤ 1048576) :
    Calls Try.prog 16 #[.slice A n c] w (NewInts w n xs) := by
  have HL := Lib.hid h.len
  have hmk : ∀ W : World, (Instr.makeSlice 22 (.int .i64 (n : Int)) (.int .i64 (n : Int))).run Try.prog W = .ok (.slice (some ⟨W.heap.size, 0, none⟩) n n) (W.alloc (.cells (madeCells #[.int .i64 0] n) 3)) :=
    fun W => run_make_row' _ _ _ 8 Try.underlying22 int_info rfl _ _ n (by omega) (by omega) W
  go_enter Try.func16, Try.ntmps16
  go_wp2
  go_loopw [4] (fun i wr => ∃ (k : Nat) (arr : Array Value), k ≤ n ∧ i = .int .i64 k ∧ wr = w.alloc (.cells arr 3) ∧ arr.size = n ∧ ∀ j, j < k → arr[j]? = some (.int .i64 (xs.getD j 0))) (fun i _ => n - (intOf i).toNat)
  case atStart => exact ⟨0, _, Nat.zero_le _, rfl, rfl, size_madeCells _ _, fun j hj => by omega⟩
  case round =>
    obtain ⟨k, arr, hk, rfl, rfl, hs, harr⟩ := hrel
    have HA := Lib.hid harr
    have HS := Lib.hid hs
    clear harr
    by_cases hlt : k < n
    · obtain ⟨b, off, rfl, hc⟩ := h.cells (by omega)
      have hcell := hc k hlt
      have hbl : b < w.heap.size := cell_lt hcell
      have hold : ∃ v, arr[k]? = some v := ⟨_, Array.getElem?_eq_getElem (by omega)⟩
      obtain ⟨vold, hvold⟩ := hold
      clear hc hs
      go_wp2
      go_roundw
      case rel =>
        refine ⟨k + 1, _, by omega, by go_num, rfl, by simp [HS.out], fun j hj => ?_⟩
        rcases Nat.lt_or_ge j k with h1 | h1
        · rw [Array.getElem?_setIfInBounds_ne (by omega)]; exact HA.out j h1
        · obtain rfl : j = k := by omega
          simp [HS.out, hlt, List.getD]
      case measure => simp [intOf]; omega
    · go_wp2
      go_ret
      obtain rfl : k = n := by omega
      refine ⟨some ⟨w.heap.size, 0, none⟩, k, rfl, Nat.le_refl _, ⟨HL.out, fun _ => ⟨w.heap.size, 0, rfl, fun j hj => ?_⟩⟩, (Below.refl _ _).alloc (Nat.le_refl _) _, ?_⟩
      · have := HA.out j hj
        rw [show (w.alloc (.cells arr 3)).cell? ⟨w.heap.size, 0 + j, none⟩ = arr[0 + j]? from World.cell?_alloc_new .., Nat.zero_add]
        exact this
      · rintro a ⟨rfl⟩; exact Nat.le_refl _

/-- The order's property: each number in 0..many-1 (as the machine computes that), none twice, as many as many, many in 0..6. -/
def OrdUp (xs : List Int) (q : Int) (k : Nat) : Prop := ∀ i, i < k → InR (xs.getD i 0) 0 q ∧ ∀ j, j < i → xs.getD j 0 ≠ xs.getD i 0
def OrdOk (xs : List Int) (many : Int) : Prop := OrdUp xs (wrap64 (many - 1)) xs.length ∧ InR many 0 6 ∧ (xs.length : Int) = many

theorem sOrderOk_any (A : Option Addr) (n c : Nat) (xs : List Int) (many : Int) (w : World) (h : IntsAt w A n xs) (hn : n ≤ 1048576) :
    Calls Try.prog 15 #[.slice A n c, .int .i64 many] w (Qt w (.bool (B (OrdOk xs many)))) := by
  have HL := Lib.hid h.len
  go_enter Try.func15, Try.ntmps15
  go_wp2
  go_loopw [5, 6] (fun i _ wr => ∃ k m : Nat, k ≤ n ∧ i = .int .i64 k ∧ wr = w.drewN m ∧ OrdUp xs (wrap64 (many - 1)) k) (fun i _ _ => n - (intOf i).toNat)
  case atStart => exact ⟨0, 0, Nat.zero_le _, rfl, rfl, fun j hj => by omega⟩
  case round =>
    obtain ⟨k, m, hk, rfl, rfl, hup⟩ := hrel
    have HU := Lib.hid hup
    clear hup
    by_cases hlt : k < n
    · obtain ⟨b, off, rfl, hc⟩ := h.cells (by omega)
      have hcell := hc k hlt
      have HC := Lib.hid hc
      clear hc
      go_wp2_with (go_at_call 47; refine kS (l1In_any _ _ _ _) ?_ ?_ <;> intro HQ)
      rotate_left
      · go_ret
        refine ⟨ret_b ?_, m, rfl⟩
        rw [B_false]
        rintro ⟨hall, -, -⟩
        have := (hall k (by rw [HL.out]; exact hlt)).1
        exact HQ.out (by simpa [List.getD] using this)
      · skip
        go_loopw [6] (fun i wr => ∃ j m : Nat, j ≤ k ∧ i = .int .i64 j ∧ wr = w.drewN m ∧ ∀ i, i < j → xs.getD i 0 ≠ xs.getD k 0) (fun i _ => k - (intOf i).toNat)
        case atStart => exact ⟨0, m, Nat.zero_le _, rfl, rfl, fun j hj => by omega⟩
        case round =>
          obtain ⟨j, m1, hj, rfl, rfl, hne⟩ := hrel
          have HE := Lib.hid hne
          clear hne
          by_cases hjk : j < k
          · have hcj := HC.out j (by omega)
            go_wp2
            go_quiet (fail)
            go_wp2
            · have hv : (xs[j]?.getD 0 == xs[k]?.getD 0) = true := by assumption
              go_ret
              refine ⟨ret_b ?_, _, dd _ _ _⟩
              rw [B_false]
              rintro ⟨hall, -, -⟩
              have := (hall k (by rw [HL.out]; exact hlt)).2 j hjk
              simp [List.getD] at this hv
              exact this hv
            · have hv : (xs[j]?.getD 0 == xs[k]?.getD 0) = false := by assumption
              go_roundw
              case rel =>
                refine ⟨j + 1, _, by omega, by go_num, rfl, fun i hi => ?_⟩
                rcases Nat.lt_or_ge i j with h1 | h1
                · exact HE.out i h1
                · obtain rfl : i = j := by omega
                  simpa [List.getD] using hv
              case measure => simp [intOf]; omega
          · go_wp2
            go_roundw
            case rel =>
              refine ⟨k + 1, m1, by omega, by go_num, rfl, fun i hi => ?_⟩
              rcases Nat.lt_or_ge i k with h1 | h1
              · exact HU.out i h1
              · obtain rfl : i = k := by omega
                obtain rfl : j = i := by omega
                exact ⟨by have := HQ.out; simpa [List.getD] using this, HE.out⟩
            case measure => simp [intOf]; omega
    · go_wp2_with (go_at_call 47; refine kS (l1In_any _ _ _ _) ?_ ?_ <;> intro HQ)
      · go_ret
        refine ⟨ret_b ?_, m, rfl⟩
        obtain rfl : k = n := by omega
        by_cases hm : (xs.length : Int) = many
        · rw [B_true ⟨by rw [HL.out]; exact HU.out, HQ.out, hm⟩]; rw [HL.out] at hm; simpa using hm
        · rw [B_false (fun hh => hm hh.2.2)]; rw [HL.out] at hm; simpa using hm
      · go_ret
        refine ⟨ret_b ?_, m, rfl⟩
        rw [B_false (fun hh => HQ.out hh.2.1)]

theorem iOrderOk_any (A : Option Addr) (n c : Nat) (xs : List Int) (many : Int) (w : World) (h : IntsAt w A n xs) (hn : n ≤ 1048576) (hnc : n ≤ c) :
    Calls Try.prog 17 #[.slice A n c, .int .i64 many] w (Qt w (.bool (B (OrdOk xs many)))) := by
  have HL := Lib.hid h.len
  go_enter Try.func17, Try.ntmps17
  go_wp2
  go_loopw [9] (fun i wr => ∃ k : Nat, k ≤ n ∧ i = .int .i64 k ∧ wr = w ∧ OrdUp xs (wrap64 (many - 1)) k) (fun i _ => n - (intOf i).toNat)
  case atStart => exact ⟨0, Nat.zero_le _, rfl, rfl, fun j hj => by omega⟩
  case round =>
    obtain ⟨k, hk, rfl, rfl, hup⟩ := hrel
    have HU := Lib.hid hup
    clear hup
    by_cases hlt : k < n
    · have hcut := h.cut (k := k) (by omega)
      obtain ⟨b, off, rfl, hc⟩ := h.cells (by omega)
      have hcell := hc k hlt
      have HC := Lib.hid hc
      clear hc
      have HH := Lib.hid hcut
      clear hcut
      go_wp2_with (first | (go_at_call 48; refine kS (in_any _ _ _ _) ?_ ?_ <;> intro HQ) | (go_at_call 49; refine kS (Contains_any _ _ _ (xs.take k) _ _ HH.out (by omega)) ?_ ?_ <;> intro HP))
      · go_ret
        refine ⟨ret_b ?_, 0, rfl⟩
        rw [B_false]
        rintro ⟨hall, -, -⟩
        have h2 := (hall k (by rw [HL.out]; exact hlt)).2
        have h3 : xs[k]?.getD 0 ∈ xs.take k := HP.out
        obtain ⟨j, hj, he⟩ := List.mem_iff_getElem.1 h3
        rw [List.length_take] at hj
        refine h2 j (by omega) ?_
        rw [List.getElem_take] at he
        have hjl : j < xs.length := by omega
        simp [List.getD, hjl, he]
      · go_roundw
        case rel =>
          refine ⟨k + 1, by omega, by go_num, trivial, fun i hi => ?_⟩
          rcases Nat.lt_or_ge i k with h1 | h1
          · exact HU.out i h1
          · obtain rfl : i = k := by omega
            refine ⟨by have := HQ.out; simpa [List.getD] using this, fun j hj he => ?_⟩
            have h3 : ¬ xs[i]?.getD 0 ∈ xs.take i := HP.out
            refine h3 ?_
            have hjl : j < xs.length := by rw [HL.out]; omega
            rw [show xs[i]?.getD 0 = xs[j] by simpa [List.getD, hjl] using he.symm]
            exact List.mem_take_iff_getElem.2 ⟨j, by omega, rfl⟩
        case measure => simp [intOf]; omega
      · go_ret
        refine ⟨ret_b ?_, 0, rfl⟩
        rw [B_false]
        rintro ⟨hall, -, -⟩
        have := (hall k (by rw [HL.out]; exact hlt)).1
        exact HQ.out (by simpa [List.getD] using this)
    · go_wp2_with (go_at_call 48; refine kS (in_any _ _ _ _) ?_ ?_ <;> intro HQ)
      · go_ret
        refine ⟨ret_b ?_, 0, rfl⟩
        obtain rfl : k = n := by omega
        by_cases hm : (xs.length : Int) = many
        · rw [B_true ⟨by rw [HL.out]; exact HU.out, HQ.out, hm⟩]; rw [HL.out] at hm; simpa using hm
        · rw [B_false (fun hh => hm hh.2.2)]; rw [HL.out] at hm; simpa using hm
      · go_ret
        refine ⟨ret_b ?_, 0, rfl⟩
        rw [B_false (fun hh => HQ.out hh.2.1)]

end Go.Proofs.Ytopfhlopicjemaa
