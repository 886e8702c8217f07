/- The reference's BusyAt and EndOf; the program's end and EndOf. -/
import Derived.Test.YtenhchfbmmlmmaaA6
namespace Go.Proofs.Ytenhchfbmmlmmaa
open Go.RowKit

theorem sBusyAt_any (A : Option Addr) (n c : Nat) (xs : List Int) (A' : Option Addr) (n' c' : Nat) (ys : List Int) (D : Option Addr) (m d : Nat) (bs : List Int) (t : Int) (w : World)
    (h : IntsAt w A n xs) (h' : IntsAt w A' n' ys) (g : IntsAt w D m bs) (hn : n ≤ 1048576) (hn' : n' ≤ 1048576) (hm : m ≤ 1048576) :
    Calls Try.prog 6 #[.agg #[.slice A n c, .slice A' n' c'], .slice D m d, .int .i64 t] w (Bl w (.int .i64 (busyR xs ys bs t))) := by
  have HL := Lib.hid h.len
  have HG := Lib.hid g.len
  have hB0 : Below w.heap.size w (w.alloc (.cells #[.slice A n c, .slice A' n' c'] 25)) := (Below.refl w.heap.size w).alloc (Nat.le_refl _) _
  go_enter Try.func6, Try.ntmps6
  go_wp2_with (fail)
  refine kBV (sProjectOk_any A n c xs A' n' c' ys _ (h.below hB0) (h'.below hB0) hn hn') ?_
  intro w1 hb1
  have hB1 : Below w.heap.size w w1 := hB0.trans (hb1.mono hB0.size)
  have e0 : w1.cell? ⟨w.heap.size, 0, none⟩ = some (.slice A n c) := keep hb1 (by simp [go_sem])
  have e1 : w1.cell? ⟨w.heap.size, 1, none⟩ = some (.slice A' n' c') := keep hb1 (by simp [go_sem])
  by_cases hp : PrjOk xs ys
  · rw [B_true hp]
    have HP := Lib.hid hp
    clear hp
    by_cases hq : m = n
    · subst hq
      have hn6 : m ≤ 6 := by have := HP.out.2.2.1; rw [HL.out] at this; exact this
      go_wp2_with (fail)
      refine kS (l1In_any t 0 2000 w1) ?_ ?_
      · intro hc
        obtain ⟨ht0, ht1⟩ := hc.out
        have h1 := h.below hB1
        have g1 := g.below hB1
        have HB1 := Lib.hid hB1
        clear hb1 hB1 hB0 h g h'
        go_wp2
        go_loopw [7, 8] (fun r i wr => ∃ k z : Nat, k ≤ m ∧ i = .int .i64 k ∧ r = .int .i64 (busyN xs bs t k) ∧ wr = w1.drewN z ∧ ∀ j, j < k → InR (bs.getD j 0) 0 2000) (fun _ i _ => m - (intOf i).toNat)
        case atStart => exact ⟨0, 0, Nat.zero_le _, rfl, rfl, rfl, fun j hj => by omega⟩
        case round =>
          obtain ⟨k, z, hk, rfl, rfl, rfl, hal⟩ := hrel
          have HA := Lib.hid hal
          clear hal
          have hbd := busyN_bd xs bs t k
          obtain ⟨bn, HN⟩ : ∃ q, Hid (busyN xs bs t k = q) := ⟨_, rfl⟩
          rw [HN.out] at hbd ⊢
          obtain ⟨hbd0, hbd1⟩ := hbd
          by_cases hlt : k < m
          · obtain ⟨b, off, rfl, hc⟩ := h1.cells (by omega)
            obtain ⟨b', off', rfl, hc'⟩ := g1.cells (by omega)
            have hcx := hc k hlt
            have hcb := hc' k hlt
            obtain ⟨hx0, hx1⟩ := allIn_at HP.out.1 (k := k) (by rw [HL.out]; exact hlt)
            obtain ⟨xk, HXk⟩ : ∃ q, Hid (xs.getD k 0 = q) := ⟨_, rfl⟩
            obtain ⟨bk, HBk⟩ : ∃ q, Hid (bs.getD k 0 = q) := ⟨_, rfl⟩
            rw [HXk.out] at hcx hx0 hx1
            rw [HBk.out] at hcb
            clear hc hc'
            go_wp2_with (fail)
            refine kS (l1In_any bk 0 2000 _) ?_ ?_
            · intro hin
              obtain ⟨hb0, hb1⟩ := hin.out
              have hal' : ∀ j, j < k + 1 → InR (bs.getD j 0) 0 2000 := fun j hj => by
                rcases Nat.lt_or_ge j k with h1 | h1
                · exact HA.out j h1
                · obtain rfl : j = k := by omega
                  rw [HBk.out]; exact hin.out
              have HA' := Lib.hid hal'
              clear hal'
              by_cases h1 : bk ≤ t
              · by_cases h2 : t < bk + xk
                · go_wp2
                  go_quiet (fail)
                  go_wp2
                  go_roundw
                  case rel => exact ⟨k + 1, _, by omega, by go_num, by rw [busyN_hit (by rw [HXk.out, HBk.out]; exact ⟨h1, h2⟩), HN.out], rfl, HA'.out⟩
                  case measure => simp [intOf]; omega
                · go_wp2
                  go_quiet (fail)
                  go_wp2
                  go_roundw
                  case rel => exact ⟨k + 1, _, by omega, by go_num, by rw [busyN_miss (by rw [HXk.out, HBk.out]; omega), HN.out], rfl, HA'.out⟩
                  case measure => simp [intOf]; omega
              · have hd : decide (bk ≤ t) = false := by simpa using h1
                go_wp2
                go_quiet (fail)
                go_wp2
                go_roundw
                case rel => exact ⟨k + 1, _, by omega, by go_num, by rw [busyN_miss (by rw [HXk.out, HBk.out]; omega), HN.out], rfl, HA'.out⟩
                case measure => simp [intOf]; omega
            · intro hin
              go_wp2
              go_ret
              refine ⟨ret_i ?_, below_drewN HB1.out _⟩
              rw [busyR, B_false (fun hh => hin.out (by rw [← HBk.out]; exact allIn_at hh.1.2.2 (by rw [HG.out]; exact hlt)))]; rfl
          · go_wp2
            go_ret
            refine ⟨ret_i ?_, below_drewN HB1.out _⟩
            obtain rfl : k = m := by omega
            have hall : AllIn bs 0 2000 := fun x hx => by
              obtain ⟨j, hj, rfl⟩ := List.mem_iff_getElem.1 hx
              have := HA.out j (by rw [← HG.out]; exact hj)
              simpa [List.getD, hj] using this
            rw [busyR, B_true ⟨⟨HP.out, by rw [HG.out, HL.out], hall⟩, hc.out⟩, HG.out, ← HN.out]; rfl
      · intro hc
        go_wp2
        go_ret
        refine ⟨ret_i ?_, hB1⟩
        rw [busyR, B_false (fun hh => hc.out hh.2)]; rfl
    · have hne : ((m : Int) != (n : Int)) = true := by simp; omega
      go_wp2
      go_ret
      refine ⟨ret_i ?_, hB1⟩
      rw [busyR, B_false (fun hh => hq (by rw [← HG.out, ← HL.out]; exact hh.1.2.1))]; rfl
  · rw [B_false hp]
    have HP := Lib.hid hp
    clear hp
    go_wp2
    go_ret
    refine ⟨ret_i ?_, hB1⟩
    rw [busyR, B_false (fun hh => HP.out hh.1.1)]; rfl

def endN (xs bs : List Int) : Nat → Int
  | 0 => 0
  | k + 1 => max (endN xs bs k) (bs.getD k 0 + xs.getD k 0)
noncomputable def endR (xs ys bs : List Int) : Int := if B (Fit xs ys bs) then endN xs bs bs.length else -1
theorem ite_max (a b : Int) : (if b < a then a else b) = max a b := by rw [Int.max_def]; split <;> split <;> omega

theorem end_any (A : Option Addr) (n c : Nat) (xs : List Int) (A' : Option Addr) (n' c' : Nat) (D : Option Addr) (d : Nat) (bs : List Int) (w : World)
    (h : IntsAt w A n xs) (g : IntsAt w D n bs) (hn : n ≤ 6) (hx : AllIn xs 1 20) (hb : AllIn bs 0 2000) :
    Calls Try.prog 18 #[.agg #[.slice A n c, .slice A' n' c'], .slice D n d] w (Bl w (.int .i64 (endN xs bs n))) := by
  have HL := Lib.hid h.len
  have HG := Lib.hid g.len
  have HX := Lib.hid hx
  have HB := Lib.hid hb
  clear hx hb
  have hB0 : Below w.heap.size w (w.alloc (.cells #[.slice A n c, .slice A' n' c'] 25)) := (Below.refl w.heap.size w).alloc (Nat.le_refl _) _
  go_enter Try.func18, Try.ntmps18
  go_wp2
  go_loop [5, 10] (fun r i => ∃ k : Nat, k ≤ n ∧ i = .int .i64 k ∧ r = .int .i64 (endN xs bs k)) (fun _ i => n - (intOf i).toNat)
  case atStart => exact ⟨0, Nat.zero_le _, rfl, rfl⟩
  case round =>
    obtain ⟨k, hk, rfl, rfl⟩ := hrel
    have hlast : endN xs bs (k + 1) = max (endN xs bs k) (bs.getD k 0 + xs.getD k 0) := rfl
    obtain ⟨bn, HN⟩ : ∃ q, Hid (endN xs bs k = q) := ⟨_, rfl⟩
    rw [HN.out] at hlast ⊢
    by_cases hlt : k < n
    · obtain ⟨b, off, rfl, hc⟩ := h.cells (by omega)
      obtain ⟨b', off', rfl, hc'⟩ := g.cells (by omega)
      have hcx := hc k hlt
      have hcb := hc' k hlt
      have hl1 : b < w.heap.size := cell_lt hcx
      have hl2 : b' < w.heap.size := cell_lt hcb
      obtain ⟨hx0, hx1⟩ := allIn_at HX.out (k := k) (by rw [HL.out]; exact hlt)
      obtain ⟨hb0, hb1⟩ := allIn_at HB.out (k := k) (by rw [HG.out]; exact hlt)
      obtain ⟨xk, HXk⟩ : ∃ q, Hid (xs.getD k 0 = q) := ⟨_, rfl⟩
      obtain ⟨bk, HBk⟩ : ∃ q, Hid (bs.getD k 0 = q) := ⟨_, rfl⟩
      rw [HXk.out] at hcx hx0 hx1 hlast
      rw [HBk.out] at hcb hb0 hb1 hlast
      have HLA := Lib.hid hlast
      clear hc hc' hlast
      by_cases hmx : bn < bk + xk
      · go_wp2
        go_round
        case rel => exact ⟨k + 1, by omega, by go_num, by rw [HLA.out, Int.max_eq_right (by omega)]⟩
        case measure => simp [intOf]; omega
      · go_wp2
        go_round
        case rel => exact ⟨k + 1, by omega, by go_num, by rw [HLA.out, Int.max_eq_left (by omega)]⟩
        case measure => simp [intOf]; omega
    · clear hlast
      go_wp2
      go_ret
      obtain rfl : k = n := by omega
      exact ⟨ret_i HN.out.symm, hB0⟩

theorem iEndOf_any (A : Option Addr) (n c : Nat) (xs : List Int) (A' : Option Addr) (n' c' : Nat) (ys : List Int) (D : Option Addr) (m d : Nat) (bs : List Int) (w : World)
    (h : IntsAt w A n xs) (h' : IntsAt w A' n' ys) (g : IntsAt w D m bs) (hn : n ≤ 1048576) (hn' : n' ≤ 1048576) (hm : m ≤ 1048576) :
    Calls Try.prog 8 #[.agg #[.slice A n c, .slice A' n' c'], .slice D m d] w (Bl w (.int .i64 (endR xs ys bs))) := by
  have HL := Lib.hid h.len
  have HG := Lib.hid g.len
  have hB0 : Below w.heap.size w (w.alloc (.cells #[.slice A n c, .slice A' n' c'] 25)) := (Below.refl w.heap.size w).alloc (Nat.le_refl _) _
  go_enter Try.func8, Try.ntmps8
  go_wp2_with (fail)
  refine kB (beginsFit_any A n c xs A' n' c' ys D m d bs _ (h.below hB0) (h'.below hB0) (g.below hB0) hn hn' hm) ?_ ?_
  · intro w1 hp hb1
    have hB1 : Below w.heap.size w w1 := hB0.trans (hb1.mono hB0.size)
    have e0 : w1.cell? ⟨w.heap.size, 0, none⟩ = some (.slice A n c) := keep hb1 (by simp [go_sem])
    have e1 : w1.cell? ⟨w.heap.size, 1, none⟩ = some (.slice A' n' c') := keep hb1 (by simp [go_sem])
    go_wp2_with (fail)
    obtain rfl : m = n := by rw [← HG.out, ← HL.out]; exact hp.out.2.1
    refine kBV (end_any A m c xs A' n' c' D d bs w1 (h.below hB1) (g.below hB1) (by have := hp.out.1.2.2.1; rw [HL.out] at this; exact this) hp.out.1.1 hp.out.2.2) ?_
    intro w2 hb2
    go_wp2
    go_ret
    refine ⟨ret_i ?_, hB1.trans (hb2.mono hB1.size)⟩
    rw [endR, B_true hp.out, HG.out]; rfl
  · intro w1 hp hb1
    go_wp2
    go_ret
    refine ⟨ret_i ?_, hB0.trans (hb1.mono hB0.size)⟩
    rw [endR, B_false hp.out]; rfl


end Go.Proofs.Ytenhchfbmmlmmaa
