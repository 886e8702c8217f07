/- The two ProjectOk functions. -/
import Derived.Test.YtenhchfbmmlmmaaB1
namespace Go.Proofs.Ytenhchfbmmlmmaa
open Go.RowKit

theorem min20 (k : Nat) : (if (20 : Int) < (k : Int) then (20 : Int) else (k : Int)).toNat = min k 20 := by split <;> omega
theorem pow_bd (k : Nat) (h : k ≤ 20) : 1 ≤ (2 : Int) ^ k ∧ (2 : Int) ^ k ≤ 1048576 := by
  have h1 : 2 ^ k ≤ 2 ^ 20 := Nat.pow_le_pow_right (by omega) h
  have h2 : 0 < 2 ^ k := Nat.pow_pos (by omega)
  have h3 : ((2 ^ k : Nat) : Int) = (2 : Int) ^ k := by simp
  omega
theorem pow_in (k : Nat) (h : k ≤ 20) : wrap64 ((2 : Int) ^ k) = (2 : Int) ^ k := by have := pow_bd k h; exact IntWalk.wrap64_in _ (by omega)
theorem pow1_in (k : Nat) (h : k ≤ 20) : wrap64 ((2 : Int) ^ k - 1) = (2 : Int) ^ k - 1 := by have := pow_bd k h; exact IntWalk.wrap64_in _ (by omega)

def PrjUp (ys : List Int) (k : Nat) : Prop := ∀ i, i < k → InR (ys.getD i 0) 0 (2 ^ (min i 20) - 1)
/-- A project: at most 6 tasks, as many sets, each task lasting 1..20, each set of tasks of lesser places. -/
def PrjOk (xs ys : List Int) : Prop := AllIn xs 1 20 ∧ PrjUp ys ys.length ∧ xs.length ≤ 6 ∧ ys.length = xs.length

theorem sProjectOk_any (A : Option Addr) (n c : Nat) (xs : List Int) (A' : Option Addr) (n' c' : Nat) (ys : List Int) (w : World) (h : IntsAt w A n xs) (h' : IntsAt w A' n' ys) (hn : n ≤ 1048576) (hn' : n' ≤ 1048576) :
    Calls Try.prog 15 #[.agg #[.slice A n c, .slice A' n' c']] w (Bl w (.bool (B (PrjOk xs ys)))) := by
  have HL := Lib.hid h.len
  have HL' := Lib.hid h'.len
  go_enter Try.func15, Try.ntmps15
  go_wp2
  go_loopw [3] (fun i wr => ∃ k : Nat, k ≤ n ∧ i = .int .i64 k ∧ wr = w.alloc (.cells #[.slice A n c, .slice A' n' c'] 25) ∧ ∀ j, j < k → InR (xs.getD j 0) 1 20) (fun i _ => n - (intOf i).toNat)
  case atStart => exact ⟨0, Nat.zero_le _, rfl, rfl, fun j hj => by omega⟩
  case round =>
    obtain ⟨k, hk, rfl, rfl, hnf⟩ := hrel
    have HN := Lib.hid hnf
    clear hnf
    by_cases hlt : k < n
    · obtain ⟨b, off, rfl, hc⟩ := h.cells (by omega)
      have hcell := hc k hlt
      have hbl : b < w.heap.size := cell_lt hcell
      clear hc
      go_wp2_with (go_at_call 16; refine kS (l1In_any _ _ _ _) ?_ ?_ <;> intro HQ)
      · go_roundw
        case rel =>
          refine ⟨k + 1, by omega, by go_num, trivial, fun j hj => ?_⟩
          rcases Nat.lt_or_ge j k with h1 | h1
          · exact HN.out j h1
          · obtain rfl : j = k := by omega
            simpa [List.getD] using HQ.out
        case measure => simp [intOf]; omega
      · go_ret
        refine ⟨ret_b ?_, (Below.refl _ _).alloc (Nat.le_refl _) _⟩
        rw [B_false]
        rintro ⟨hall, -⟩
        refine HQ.out (hall _ ?_)
        have : k < xs.length := by rw [HL.out]; exact hlt
        simp [this]
    · go_wp2
      go_loopw [4] (fun i wr => ∃ k m : Nat, k ≤ n' ∧ i = .int .i64 k ∧ wr = (w.alloc (.cells #[.slice A n c, .slice A' n' c'] 25)).drewN m ∧ PrjUp ys k) (fun i _ => n' - (intOf i).toNat)
      case atStart => exact ⟨0, 0, Nat.zero_le _, rfl, rfl, fun j hj => by omega⟩
      case round =>
        obtain ⟨k', m, hk', rfl, rfl, hup⟩ := hrel
        have HU := Lib.hid hup
        clear hup
        by_cases hlt' : k' < n'
        · obtain ⟨b, off, rfl, hc⟩ := h'.cells (by omega)
          have hcell := hc k' hlt'
          have hbl : b < w.heap.size := cell_lt hcell
          clear hc
          have hmin := min20 k'
          have hp1 := pow_in (min k' 20) (by omega)
          have hp2 := pow1_in (min k' 20) (by omega)
          go_wp2
          go_quiet ((go_at_call 16; exact qS' (l1In_any _ _ _ _)))
          go_wp2
          · have hv : (!B (InR (ys[k']?.getD 0) 0 (2 ^ (min k' 20) - 1))) = true := by assumption
            have hq : ¬ InR (ys[k']?.getD 0) 0 (2 ^ (min k' 20) - 1) := not_of_B (by simpa using hv)
            go_ret
            refine ⟨ret_b ?_, below_drewN ((Below.refl _ _).alloc (Nat.le_refl _) _) _⟩
            rw [B_false]
            rintro ⟨-, hall, -⟩
            exact hq (by simpa [List.getD] using hall k' (by rw [HL'.out]; exact hlt'))
          · have hv : (!B (InR (ys[k']?.getD 0) 0 (2 ^ (min k' 20) - 1))) = true := by assumption
            have hq : ¬ InR (ys[k']?.getD 0) 0 (2 ^ (min k' 20) - 1) := not_of_B (by simpa using hv)
            go_ret
            refine ⟨ret_b ?_, below_drewN ((Below.refl _ _).alloc (Nat.le_refl _) _) _⟩
            rw [B_false]
            rintro ⟨-, hall, -⟩
            exact hq (by simpa [List.getD] using hall k' (by rw [HL'.out]; exact hlt'))
          · have hv : (!B (InR (ys[k']?.getD 0) 0 (2 ^ (min k' 20) - 1))) = false := by assumption
            have hq : InR (ys[k']?.getD 0) 0 (2 ^ (min k' 20) - 1) := of_B (by simpa using hv)
            go_roundw
            case rel =>
              refine ⟨k' + 1, _, by omega, by go_num, rfl, fun j hj => ?_⟩
              rcases Nat.lt_or_ge j k' with h1 | h1
              · exact HU.out j h1
              · obtain rfl : j = k' := by omega
                simpa [List.getD] using hq
            case measure => simp [intOf]; omega
        · go_wp2
          · have h6 : (n : Int) ≤ 6 := by assumption
            go_ret
            refine ⟨ret_b ?_, below_drewN ((Below.refl _ _).alloc (Nat.le_refl _) _) _⟩
            obtain rfl : k = n := by omega
            obtain rfl : k' = n' := by omega
            have hA : AllIn xs 1 20 := fun x hx => by
              obtain ⟨j, hj, rfl⟩ := List.mem_iff_getElem.1 hx
              have := HN.out j (by rw [← HL.out]; exact hj)
              simpa [List.getD, hj] using this
            by_cases he : ys.length = xs.length
            · rw [B_true ⟨hA, by rw [HL'.out]; exact HU.out, by rw [HL.out]; omega, he⟩]; rw [HL.out, HL'.out] at he; simp [he]
            · rw [B_false (fun hh => he hh.2.2.2)]; rw [HL.out, HL'.out] at he; simp; omega
          · have h6 : 6 < (n : Int) := by assumption
            go_ret
            refine ⟨ret_b ?_, below_drewN ((Below.refl _ _).alloc (Nat.le_refl _) _) _⟩
            rw [B_false (fun hh => by have := hh.2.2.1; rw [HL.out] at this; omega)]

theorem prj_up {xs ys : List Int} (h : xs.length ≤ 6) (he : ys.length = xs.length) : PrjUp ys ys.length ↔ ∀ i, i < ys.length → InR (ys.getD i 0) 0 (2 ^ i - 1) := by
  constructor
  · intro hh i hi
    have := hh i hi
    rwa [Nat.min_eq_left (by omega)] at this
  · intro hh i hi
    have := hh i hi
    rwa [Nat.min_eq_left (by omega)]

theorem iProjectOk_any (A : Option Addr) (n c : Nat) (xs : List Int) (A' : Option Addr) (n' c' : Nat) (ys : List Int) (w : World) (h : IntsAt w A n xs) (h' : IntsAt w A' n' ys) (hn : n ≤ 1048576) (hn' : n' ≤ 1048576) :
    Calls Try.prog 23 #[.agg #[.slice A n c, .slice A' n' c']] w (Bl w (.bool (B (PrjOk xs ys)))) := by
  have HL := Lib.hid h.len
  have HL' := Lib.hid h'.len
  by_cases h6 : n ≤ 6
  · by_cases he : n' = n
    · subst he
      have hI := h.below ((Below.refl w.heap.size w).alloc (Nat.le_refl _) (.cells #[.slice A n' c, .slice A' n' c'] 25))
      have hI' := h'.below ((Below.refl w.heap.size w).alloc (Nat.le_refl _) (.cells #[.slice A n' c, .slice A' n' c'] 25))
      go_enter Try.func23, Try.ntmps23
      go_wp2_with (fail)
      refine kB (allIn_any A n' c xs 1 20 _ hI hn) ?_ ?_
      · intro w2 HA hb2
        have hc1 : w2.cell? ⟨w.heap.size, 1, none⟩ = some (.slice A' n' c') := keep hb2 (by simp [go_sem])
        have hI2 := hI'.below hb2
        have HB := Lib.hid hb2
        clear hI hI' hb2
        go_wp2
        go_loop [27] (fun i => ∃ k : Nat, k ≤ n' ∧ i = .int .i64 k ∧ ∀ j, j < k → InR (ys.getD j 0) 0 (2 ^ j - 1)) (fun i => n' - (intOf i).toNat)
        case atStart => exact ⟨0, Nat.zero_le _, rfl, fun j hj => by omega⟩
        case round =>
          obtain ⟨k, hk, rfl, hnf⟩ := hrel
          have HN := Lib.hid hnf
          clear hnf
          by_cases hlt : k < n'
          · obtain ⟨b, off, rfl, hc⟩ := hI2.cells (by omega)
            have hcell := hc k hlt
            clear hc
            have hp1 := pow_in k (by omega)
            have hp2 := pow1_in k (by omega)
            have hp3 : min k 64 = k := by omega
            go_wp2_with (go_at_call 25; refine kS (in_any _ _ _ _) ?_ ?_ <;> intro HQ)
            · go_round
              case rel =>
                refine ⟨k + 1, by omega, by go_num, fun j hj => ?_⟩
                rcases Nat.lt_or_ge j k with h1 | h1
                · exact HN.out j h1
                · obtain rfl : j = k := by omega
                  simpa [List.getD] using HQ.out
              case measure => simp [intOf]; omega
            · go_ret
              refine ⟨ret_b ?_, ((Below.refl _ _).alloc (Nat.le_refl _) _).trans (HB.out.mono (by simp))⟩
              rw [B_false]
              rintro hh
              have := (prj_up (by rw [HL.out]; omega) (by rw [HL.out, HL'.out])).1 hh.2.1 k (by rw [HL'.out]; exact hlt)
              exact HQ.out (by simpa [List.getD] using this)
          · go_wp2
            go_ret
            refine ⟨ret_b ?_, ((Below.refl _ _).alloc (Nat.le_refl _) _).trans (HB.out.mono (by simp))⟩
            obtain rfl : k = n' := by omega
            rw [B_true]
            exact ⟨HA.out, (prj_up (by rw [HL.out]; omega) (by rw [HL.out, HL'.out])).2 (by rw [HL'.out]; exact HN.out), by rw [HL.out]; omega, by rw [HL.out, HL'.out]⟩
      · intro w2 HA hb2
        go_wp2
        go_ret
        refine ⟨ret_b ?_, ((Below.refl _ _).alloc (Nat.le_refl _) _).trans (hb2.mono (by simp))⟩
        rw [B_false (fun hh => HA.out hh.1)]
    · have hne : ((n' : Int) != (n : Int)) = true := by simp; omega
      go_enter Try.func23, Try.ntmps23
      go_wp2
      go_ret
      refine ⟨ret_b ?_, (Below.refl _ _).alloc (Nat.le_refl _) _⟩
      rw [B_false (fun hh => he (by rw [← HL.out, ← HL'.out]; exact hh.2.2.2))]
  · go_enter Try.func23, Try.ntmps23
    go_wp2
    go_ret
    refine ⟨ret_b ?_, (Below.refl _ _).alloc (Nat.le_refl _) _⟩
    rw [B_false (fun hh => by have := hh.2.2.1; rw [HL.out] at this; omega)]

end Go.Proofs.Ytenhchfbmmlmmaa
