/- The walk of spec.TermOk: a term by the reference is the marks of a tree. -/
import Derived.Test.YtcmicmenkbgfmaaDoorM2
namespace Go.Proofs.YtcmicmenkbgfmaaDoor
open Go.RowKit

theorem MarksAt.at_ {w : World} {A : Option Addr} {n : Nat} {xs : List Mk} (h : MarksAt w A n xs) {k : Nat} (hk : k < n) : ∃ b off, A = some ⟨b, off, none⟩ ∧ w.cell? ⟨b, off + k * 3, none⟩ = some (.int .i64 (xs.getD k (0, 0, 0)).1) ∧ w.cell? ⟨b, off + k * 3 + 1, none⟩ = some (.int .i64 (xs.getD k (0, 0, 0)).2.1) ∧ w.cell? ⟨b, off + k * 3 + 2, none⟩ = some (.int .i64 (xs.getD k (0, 0, 0)).2.2) := by
  obtain ⟨b, off, e, hc⟩ := h.cells (by omega)
  exact ⟨b, off, e, hc k hk⟩
theorem runM_take_succ {t : List Mk} {k : Nat} (hk : k < t.length) : runM (t.take (k + 1)) = (runM (t.take k)).bind fun st => push st (t.getD k (0, 0, 0)) := by
  rw [List.take_succ_eq_append_getElem hk, runM_snoc]
  simp [List.getD, hk]
theorem not_tOk_of_none {t : List Mk} {k : Nat} (h : runM (t.take k) = none) : ¬ TOk t := fun ⟨x, hx⟩ => by
  have h1 := run_of_tOk hx
  have h2 := runM_none h (t.drop k)
  rw [List.take_append_drop, h1] at h2
  cases h2
theorem push_len_step {st : List Tm} {m : Mk} (h : isStep m) : ∃ st', push st m = some st' ∧ st'.length = st.length + 1 := ⟨_, push_step h, by simp⟩
theorem push_len_two {st : List Tm} {m : Mk} (h : isTwo m) (hl : 2 ≤ st.length) : ∃ st', push st m = some st' ∧ st'.length + 1 = st.length := ⟨_, push_two h hl, by simp; omega⟩
theorem push_len_one {st : List Tm} {m : Mk} (h : isOne m) (hl : 1 ≤ st.length) : ∃ st', push st m = some st' ∧ st'.length = st.length := ⟨_, push_one h hl, by simp; omega⟩

set_option maxRecDepth 100000 in
set_option maxHeartbeats 1000000 in
theorem sTermOk_any (A : Option Addr) (n c : Nat) (xs : List Mk) (w : World) (h : MarksAt w A n xs) (hn : n ≤ 1048576) :
    Calls Tryd.prog 25 #[.slice A n c] w (Bl w (.bool (B (TOk xs)))) := by
  have HL := Lib.hid h.len
  go_enter Tryd.func25, Tryd.ntmps25
  go_wp2
  go_loopw [3, 4] (fun p i wr => ∃ (k : Nat) (st : List Tm), k ≤ n ∧ i = .int .i64 k ∧ p = .int .i64 (st.length : Int) ∧ st.length ≤ k ∧ Below w.heap.size w wr ∧ runM (xs.take k) = some st) (fun _ i _ => n - (intOf i).toNat)
  case atStart => exact ⟨0, [], Nat.zero_le _, rfl, rfl, by simp, Below.refl _ _, rfl⟩
  case round =>
    obtain ⟨wo, rfl⟩ : ∃ wo : World, wo = wr := ⟨_, rfl⟩
    obtain ⟨k, st, hk, rfl, rfl, hst, hb, hr⟩ := hrel
    have HR := Lib.hid hr
    have HB := Lib.hid hb
    have HST := Lib.hid hst
    clear hr hb
    by_cases hlt : k < n
    · obtain ⟨b, off, rfl, c0, c1, c2⟩ := (h.below HB.out).at_ hlt
      have hs := Lib.hid (runM_take_succ (t := xs) (k := k) (by rw [HL.out]; exact hlt))
      obtain ⟨x, HX⟩ : ∃ q, Hid (xs.getD k (0, 0, 0) = q) := ⟨_, rfl⟩
      rw [HX.out] at c0 c1 c2
      obtain ⟨x0, x1, x2⟩ := x
      simp only at c0 c1 c2
      go_wp2_with (fail)
      refine kB (l11Ok_any (x0, x1, x2) _) ?_ ?_
      · intro w1 hp hb1
        replace c0 := keep hb1 c0
        replace c1 := keep hb1 c1
        replace c2 := keep hb1 c2
        have HB1 := Lib.hid (HB.out.trans (hb1.mono HB.out.size))
        clear hb1
        by_cases k0 : x0 = 0
        · have hst0 := Lib.hid (show isStep (x0, x1, x2) by
            rcases hp.out with h1 | h1 | h1
            · exact h1
            · exact absurd k0 (by rcases h1.1 with h1 | h1 <;> simp at h1 <;> omega)
            · exact absurd k0 (by have := h1.1; simp at this; omega))
          subst k0
          go_wp2
          go_roundw
          case rel =>
            obtain ⟨st', hp', hl'⟩ := push_len_step (st := st) hst0.out
            refine ⟨k + 1, st', by omega, by go_num, by rw [hl']; go_num, by omega, HB1.out, ?_⟩
            rw [hs.out, HR.out, HX.out]; exact hp'
          case measure => simp [intOf]; omega
        · have q0 : (x0 == 0) = false := by simpa using k0
          by_cases k3 : x0 = 3
          · have ho := Lib.hid (show isOne (x0, x1, x2) by
              rcases hp.out with h1 | h1 | h1
              · exact absurd h1.1 k0
              · exact absurd k3 (by rcases h1.1 with h1 | h1 <;> simp at h1 <;> omega)
              · exact h1)
            subst k3
            clear k0 q0
            by_cases hl : 1 ≤ st.length
            · go_wp2
              go_roundw
              case rel =>
                obtain ⟨st', hp', hl'⟩ := push_len_one (st := st) ho.out hl
                refine ⟨k + 1, st', by omega, by go_num, by rw [hl'], by omega, HB1.out, ?_⟩
                rw [hs.out, HR.out, HX.out]; exact hp'
              case measure => simp [intOf]; omega
            · go_wp2
              go_ret
              refine ⟨ret_b (B_false (not_tOk_of_none (k := k + 1) ?_)).symm, HB1.out⟩
              rw [hs.out, HR.out, HX.out]; exact push_one_none ho.out hl
          · have q3 : (x0 == 3) = false := by simpa using k3
            have ht := Lib.hid (show isTwo (x0, x1, x2) by
              rcases hp.out with h1 | h1 | h1
              · exact absurd h1.1 k0
              · exact h1
              · exact absurd h1.1 k3)
            clear k0 k3
            by_cases hl : 2 ≤ st.length
            · go_wp2
              go_roundw
              case rel =>
                obtain ⟨st', hp', hl'⟩ := push_len_two (st := st) ht.out hl
                refine ⟨k + 1, st', by omega, by go_num, ?_, by omega, HB1.out, ?_⟩
                · rw [← hl']; go_num
                · rw [hs.out, HR.out, HX.out]; exact hp'
              case measure => simp [intOf]; omega
            · go_wp2
              go_ret
              refine ⟨ret_b (B_false (not_tOk_of_none (k := k + 1) ?_)).symm, HB1.out⟩
              rw [hs.out, HR.out, HX.out]; exact push_two_none ht.out hl
      · intro w1 hp hb1
        go_wp2
        go_ret
        refine ⟨ret_b (B_false (not_tOk_of_none (k := k + 1) ?_)).symm, HB.out.trans (hb1.mono HB.out.size)⟩
        rw [hs.out, HR.out, HX.out]; exact push_bad hp.out
    · obtain rfl : k = n := by omega
      have hr2 : runM xs = some st := by have := HR.out; rwa [List.take_of_length_le (by rw [HL.out]; omega)] at this
      have HR2 := Lib.hid hr2
      clear hr2
      by_cases h1 : st.length = 1
      · by_cases h11 : k ≤ 11
        · have hx : TOk xs := by
            obtain ⟨x, rfl⟩ := List.length_eq_one_iff.1 h1
            exact ⟨x, tOk_of_run HR2.out (by rw [HL.out]; exact h11)⟩
          have HX := Lib.hid hx
          clear hx
          go_wp2
          go_ret
          exact ⟨ret_b (by rw [B_true HX.out]; simp; omega), HB.out⟩
        · have hx : ¬ TOk xs := fun ⟨x, hx⟩ => h11 (by rw [← HL.out]; exact hx.2.2)
          have HX := Lib.hid hx
          clear hx
          go_wp2
          go_ret
          exact ⟨ret_b (by rw [B_false HX.out]; simp; omega), HB.out⟩
      · have hx : ¬ TOk xs := fun ⟨x, hx⟩ => h1 (by have := run_of_tOk hx; rw [HR2.out] at this; obtain rfl := Option.some.inj this; rfl)
        have HX := Lib.hid hx
        have q1 : ((st.length : Int) == 1) = false := by simp; omega
        clear hx
        go_wp2
        go_ret
        exact ⟨ret_b (B_false HX.out).symm, HB.out⟩

end Go.Proofs.YtcmicmenkbgfmaaDoor
