/- Copies of integer rows (laws.toIntS), and the two OrderOk functions. -/
import Derived.Test.YtenhchfbmmlmmaaA1
import Derived.Deep.OwnRows
namespace Go.Proofs.Ytenhchfbmmlmmaa
open Go.RowKit

theorem int_info : (Try.prog.info? 3).map (fun i => (i.zero, i.size, i.bytes)) = some (some (.int .i64 0), 1, 8) := by kernel_rfl

theorem drewN_self (w : World) : ∃ m, w = w.drewN m := ⟨0, rfl⟩


/-- The order's property: each number in 0..many-1 (as the machine computes that), none twice, as many as many, many in 0..6. -/
def OrdUp (xs : List Int) (q : Int) (k : Nat) : Prop := ∀ i, i < k → InR (xs.getD i 0) 0 q ∧ ∀ j, j < i → xs.getD j 0 ≠ xs.getD i 0
def OrdOk (xs : List Int) (many : Int) : Prop := OrdUp xs (wrap64 (many - 1)) xs.length ∧ InR many 0 6 ∧ (xs.length : Int) = many

theorem sOrderOk_any (A : Option Addr) (n c : Nat) (xs : List Int) (many : Int) (w : World) (h : IntsAt w A n xs) (hn : n ≤ 1048576) :
    Calls Try.prog 29 #[.slice A n c, .int .i64 many] w (Qt w (.bool (B (OrdOk xs many)))) := by
  have HL := Lib.hid h.len
  go_enter Try.func29, Try.ntmps29
  go_wp2
  go_loopw [5, 6] (fun i _ wr => ∃ k m : Nat, k ≤ n ∧ i = .int .i64 k ∧ wr = w.drewN m ∧ OrdUp xs (wrap64 (many - 1)) k) (fun i _ _ => n - (intOf i).toNat)
  case atStart => exact ⟨0, 0, Nat.zero_le _, rfl, rfl, fun j hj => by omega⟩
  case round =>
    obtain ⟨k, m, hk, rfl, rfl, hup⟩ := hrel
    have HU := Lib.hid hup
    clear hup
    by_cases hlt : k < n
    · obtain ⟨b, off, rfl, hc⟩ := h.cells (by omega)
      have hcell := hc k hlt
      have HC := Lib.hid hc
      clear hc
      go_wp2_with (go_at_call 16; refine kS (l1In_any _ _ _ _) ?_ ?_ <;> intro HQ)
      rotate_left
      · go_ret
        refine ⟨ret_b ?_, m, rfl⟩
        rw [B_false]
        rintro ⟨hall, -, -⟩
        have := (hall k (by rw [HL.out]; exact hlt)).1
        exact HQ.out (by simpa [List.getD] using this)
      · skip
        go_loopw [6] (fun i wr => ∃ j m : Nat, j ≤ k ∧ i = .int .i64 j ∧ wr = w.drewN m ∧ ∀ i, i < j → xs.getD i 0 ≠ xs.getD k 0) (fun i _ => k - (intOf i).toNat)
        case atStart => exact ⟨0, m, Nat.zero_le _, rfl, rfl, fun j hj => by omega⟩
        case round =>
          obtain ⟨j, m1, hj, rfl, rfl, hne⟩ := hrel
          have HE := Lib.hid hne
          clear hne
          by_cases hjk : j < k
          · have hcj := HC.out j (by omega)
            go_wp2
            go_quiet (fail)
            go_wp2
            · have hv : (xs[j]?.getD 0 == xs[k]?.getD 0) = true := by assumption
              go_ret
              refine ⟨ret_b ?_, _, dd _ _ _⟩
              rw [B_false]
              rintro ⟨hall, -, -⟩
              have := (hall k (by rw [HL.out]; exact hlt)).2 j hjk
              simp [List.getD] at this hv
              exact this hv
            · have hv : (xs[j]?.getD 0 == xs[k]?.getD 0) = false := by assumption
              go_roundw
              case rel =>
                refine ⟨j + 1, _, by omega, by go_num, rfl, fun i hi => ?_⟩
                rcases Nat.lt_or_ge i j with h1 | h1
                · exact HE.out i h1
                · obtain rfl : i = j := by omega
                  simpa [List.getD] using hv
              case measure => simp [intOf]; omega
          · go_wp2
            go_roundw
            case rel =>
              refine ⟨k + 1, m1, by omega, by go_num, rfl, fun i hi => ?_⟩
              rcases Nat.lt_or_ge i k with h1 | h1
              · exact HU.out i h1
              · obtain rfl : i = k := by omega
                obtain rfl : j = i := by omega
                exact ⟨by have := HQ.out; simpa [List.getD] using this, HE.out⟩
            case measure => simp [intOf]; omega
    · go_wp2_with (go_at_call 16; refine kS (l1In_any _ _ _ _) ?_ ?_ <;> intro HQ)
      · go_ret
        refine ⟨ret_b ?_, m, rfl⟩
        obtain rfl : k = n := by omega
        by_cases hm : (xs.length : Int) = many
        · rw [B_true ⟨by rw [HL.out]; exact HU.out, HQ.out, hm⟩]; rw [HL.out] at hm; simpa using hm
        · rw [B_false (fun hh => hm hh.2.2)]; rw [HL.out] at hm; simpa using hm
      · go_ret
        refine ⟨ret_b ?_, m, rfl⟩
        rw [B_false (fun hh => HQ.out hh.2.1)]


end Go.Proofs.Ytenhchfbmmlmmaa
