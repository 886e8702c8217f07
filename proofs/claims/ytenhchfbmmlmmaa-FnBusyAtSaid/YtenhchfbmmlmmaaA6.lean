/- Busy times and ends: impl.busy, BusyAt, EndOf and the reference's. -/
import Derived.Test.YtenhchfbmmlmmaaA5
namespace Go.Proofs.Ytenhchfbmmlmmaa
open Go.RowKit

/-- Task i is being done at t. -/
def Doing (xs bs : List Int) (t : Int) (i : Nat) : Prop := bs.getD i 0 ≤ t ∧ t < bs.getD i 0 + xs.getD i 0
instance (xs bs : List Int) (t : Int) (i : Nat) : Decidable (Doing xs bs t i) := by unfold Doing; infer_instance
def busyN (xs bs : List Int) (t : Int) : Nat → Int
  | 0 => 0
  | k + 1 => busyN xs bs t k + if Doing xs bs t k then 1 else 0
theorem busyN_bd (xs bs : List Int) (t : Int) (k : Nat) : 0 ≤ busyN xs bs t k ∧ busyN xs bs t k ≤ k := by
  induction k with
  | zero => simp [busyN]
  | succ k ih => simp only [busyN]; split <;> omega
theorem busyN_hit {xs bs : List Int} {t : Int} {k : Nat} (h : bs.getD k 0 ≤ t ∧ t < bs.getD k 0 + xs.getD k 0) : busyN xs bs t (k + 1) = busyN xs bs t k + 1 := by
  simp only [busyN]; rw [if_pos (show Doing xs bs t k from h)]
theorem busyN_miss {xs bs : List Int} {t : Int} {k : Nat} (h : ¬ (bs.getD k 0 ≤ t ∧ t < bs.getD k 0 + xs.getD k 0)) : busyN xs bs t (k + 1) = busyN xs bs t k := by
  simp only [busyN]; rw [if_neg (show ¬ Doing xs bs t k from h)]; omega

def Fit (xs ys bs : List Int) : Prop := PrjOk xs ys ∧ bs.length = xs.length ∧ AllIn bs 0 2000
noncomputable def busyR (xs ys bs : List Int) (t : Int) : Int := if B (Fit xs ys bs ∧ InR t 0 2000) then busyN xs bs t bs.length else -1

theorem busy_any (A : Option Addr) (n c : Nat) (xs : List Int) (A' : Option Addr) (n' c' : Nat) (D : Option Addr) (d : Nat) (bs : List Int) (t : Int) (w : World)
    (h : IntsAt w A n xs) (g : IntsAt w D n bs) (hn : n ≤ 6) (hx : AllIn xs 1 20) (hb : AllIn bs 0 2000) (ht : 0 ≤ t ∧ t ≤ 2000) :
    Calls Try.prog 14 #[.agg #[.slice A n c, .slice A' n' c'], .slice D n d, .int .i64 t] w (Bl w (.int .i64 (busyN xs bs t n))) := by
  have HL := Lib.hid h.len
  have HG := Lib.hid g.len
  have HX := Lib.hid hx
  have HB := Lib.hid hb
  clear hx hb
  obtain ⟨ht0, ht1⟩ := ht
  have hB0 : Below w.heap.size w (w.alloc (.cells #[.slice A n c, .slice A' n' c'] 25)) := (Below.refl w.heap.size w).alloc (Nat.le_refl _) _
  go_enter Try.func14, Try.ntmps14
  go_wp2
  go_loop [7, 12] (fun r i => ∃ k : Nat, k ≤ n ∧ i = .int .i64 k ∧ r = .int .i64 (busyN xs bs t k)) (fun _ i => n - (intOf i).toNat)
  case atStart => exact ⟨0, Nat.zero_le _, rfl, rfl⟩
  case round =>
    obtain ⟨k, hk, rfl, rfl⟩ := hrel
    have hbd := busyN_bd xs bs t k
    obtain ⟨bn, HN⟩ : ∃ q, Hid (busyN xs bs t k = q) := ⟨_, rfl⟩
    rw [HN.out] at hbd ⊢
    obtain ⟨hbd0, hbd1⟩ := hbd
    by_cases hlt : k < n
    · obtain ⟨b, off, rfl, hc⟩ := h.cells (by omega)
      obtain ⟨b', off', rfl, hc'⟩ := g.cells (by omega)
      have hcx := hc k hlt
      have hcb := hc' k hlt
      have hl1 : b < w.heap.size := cell_lt hcx
      have hl2 : b' < w.heap.size := cell_lt hcb
      obtain ⟨hx0, hx1⟩ := allIn_at HX.out (k := k) (by rw [HL.out]; exact hlt)
      obtain ⟨hb0, hb1⟩ := allIn_at HB.out (k := k) (by rw [HG.out]; exact hlt)
      obtain ⟨xk, HXk⟩ : ∃ q, Hid (xs.getD k 0 = q) := ⟨_, rfl⟩
      obtain ⟨bk, HBk⟩ : ∃ q, Hid (bs.getD k 0 = q) := ⟨_, rfl⟩
      rw [HXk.out] at hcx hx0 hx1
      rw [HBk.out] at hcb hb0 hb1
      have hne : (bk != -1) = true := by simp; omega
      clear hc hc'
      by_cases h1 : bk ≤ t
      · by_cases h2 : t < bk + xk
        · go_wp2
          go_round
          case rel => exact ⟨k + 1, by omega, by go_num, by rw [busyN_hit (by rw [HXk.out, HBk.out]; exact ⟨h1, h2⟩), HN.out]⟩
          case measure => simp [intOf]; omega
        · go_wp2
          go_round
          case rel => exact ⟨k + 1, by omega, by go_num, by rw [busyN_miss (by rw [HXk.out, HBk.out]; omega), HN.out]⟩
          case measure => simp [intOf]; omega
      · go_wp2
        go_round
        case rel => exact ⟨k + 1, by omega, by go_num, by rw [busyN_miss (by rw [HXk.out, HBk.out]; omega), HN.out]⟩
        case measure => simp [intOf]; omega
    · go_wp2
      go_ret
      obtain rfl : k = n := by omega
      exact ⟨ret_i HN.out.symm, hB0⟩

theorem beginsFit_any (A : Option Addr) (n c : Nat) (xs : List Int) (A' : Option Addr) (n' c' : Nat) (ys : List Int) (D : Option Addr) (m d : Nat) (bs : List Int) (w : World)
    (h : IntsAt w A n xs) (h' : IntsAt w A' n' ys) (g : IntsAt w D m bs) (hn : n ≤ 1048576) (hn' : n' ≤ 1048576) (hm : m ≤ 1048576) :
    Calls Try.prog 12 #[.agg #[.slice A n c, .slice A' n' c'], .slice D m d] w (Bl w (.bool (B (Fit xs ys bs)))) := by
  have HL := Lib.hid h.len
  have HG := Lib.hid g.len
  have hB0 : Below w.heap.size w (w.alloc (.cells #[.slice A n c, .slice A' n' c'] 25)) := (Below.refl w.heap.size w).alloc (Nat.le_refl _) _
  go_enter Try.func12, Try.ntmps12
  go_wp2_with (fail)
  refine kB (iProjectOk_any A n c xs A' n' c' ys _ (h.below hB0) (h'.below hB0) hn hn') ?_ ?_
  · intro w1 hp hb1
    have hB1 : Below w.heap.size w w1 := hB0.trans (hb1.mono hB0.size)
    have e0 : w1.cell? ⟨w.heap.size, 0, none⟩ = some (.slice A n c) := keep hb1 (by simp [go_sem])
    by_cases hq : m = n
    · subst hq
      go_wp2_with (fail)
      refine kB (allIn_any D m d bs 0 2000 w1 (g.below hB1) hm) ?_ ?_
      · intro w2 ha hb2
        go_wp2
        go_ret
        exact ⟨ret_b (B_true ⟨hp.out, by rw [HG.out, HL.out], ha.out⟩).symm, hB1.trans (hb2.mono hB1.size)⟩
      · intro w2 ha hb2
        go_wp2
        go_ret
        exact ⟨ret_b (B_false (fun hh => ha.out hh.2.2)).symm, hB1.trans (hb2.mono hB1.size)⟩
    · have hne : ((m : Int) == (n : Int)) = false := by simp; omega
      go_wp2
      go_ret
      exact ⟨ret_b (B_false (fun hh => hq (by rw [← HG.out, ← HL.out]; exact hh.2.1))).symm, hB1⟩
  · intro w1 hp hb1
    go_wp2
    go_ret
    exact ⟨ret_b (B_false (fun hh => hp.out hh.1)).symm, hB0.trans (hb1.mono hB0.size)⟩

theorem isClock_any (t : Int) (w : World) : Calls Try.prog 13 #[.int .i64 t] w (Same w (.bool (B (InR t 0 2000)))) := by
  go_enter Try.func13, Try.ntmps13
  go_wp2_with (go_at_call 25; refine kV (in_any _ _ _ _) ?_)
  go_ret
  exact ⟨rfl, rfl⟩

theorem iBusyAt_any (A : Option Addr) (n c : Nat) (xs : List Int) (A' : Option Addr) (n' c' : Nat) (ys : List Int) (D : Option Addr) (m d : Nat) (bs : List Int) (t : Int) (w : World)
    (h : IntsAt w A n xs) (h' : IntsAt w A' n' ys) (g : IntsAt w D m bs) (hn : n ≤ 1048576) (hn' : n' ≤ 1048576) (hm : m ≤ 1048576) :
    Calls Try.prog 5 #[.agg #[.slice A n c, .slice A' n' c'], .slice D m d, .int .i64 t] w (Bl w (.int .i64 (busyR xs ys bs t))) := by
  have HL := Lib.hid h.len
  have HG := Lib.hid g.len
  have hB0 : Below w.heap.size w (w.alloc (.cells #[.slice A n c, .slice A' n' c'] 25)) := (Below.refl w.heap.size w).alloc (Nat.le_refl _) _
  go_enter Try.func5, Try.ntmps5
  go_wp2_with (fail)
  refine kB (beginsFit_any A n c xs A' n' c' ys D m d bs _ (h.below hB0) (h'.below hB0) (g.below hB0) hn hn' hm) ?_ ?_
  · intro w1 hp hb1
    have hB1 : Below w.heap.size w w1 := hB0.trans (hb1.mono hB0.size)
    have e0 : w1.cell? ⟨w.heap.size, 0, none⟩ = some (.slice A n c) := keep hb1 (by simp [go_sem])
    have e1 : w1.cell? ⟨w.heap.size, 1, none⟩ = some (.slice A' n' c') := keep hb1 (by simp [go_sem])
    go_wp2_with (fail)
    refine kS (isClock_any t w1) ?_ ?_
    · intro hc
      go_wp2_with (fail)
      obtain rfl : m = n := by rw [← HG.out, ← HL.out]; exact hp.out.2.1
      refine kBV (busy_any A m c xs A' n' c' D d bs t w1 (h.below hB1) (g.below hB1) (by have := hp.out.1.2.2.1; rw [HL.out] at this; exact this) hp.out.1.1 hp.out.2.2 hc.out) ?_
      intro w2 hb2
      go_wp2
      go_ret
      refine ⟨ret_i ?_, hB1.trans (hb2.mono hB1.size)⟩
      rw [busyR, B_true ⟨hp.out, hc.out⟩, HG.out]; rfl
    · intro hc
      go_wp2
      go_ret
      refine ⟨ret_i ?_, hB1⟩
      rw [busyR, B_false (fun hh => hc.out hh.2)]; rfl
  · intro w1 hp hb1
    go_wp2
    go_ret
    refine ⟨ret_i ?_, hB0.trans (hb1.mono hB0.size)⟩
    rw [busyR, B_false (fun hh => hp.out hh.1)]; rfl

end Go.Proofs.Ytenhchfbmmlmmaa
