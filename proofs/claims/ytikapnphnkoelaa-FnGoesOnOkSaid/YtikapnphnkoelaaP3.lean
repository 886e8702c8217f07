/- Times for plans: keptBy; both TimesOk, KeepsOk functions. -/
import Derived.Test.YtikapnphnkoelaaP2
namespace Go.Proofs.Ytikapnphnkoelaa
open Go.RowKit

theorem hasPt_iff {p q : Int} (h : InR p 1 6) : HasPt p q ↔ 0 ≤ q ∧ q < p := by
  obtain ⟨h1, h2⟩ := h
  unfold HasPt InR
  rw [IntWalk.wrap64_in _ (by omega)]
  omega

def Kpt (ts : List Int) (b : Bd) : Prop := ts.getD b.2.1.toNat 0 - ts.getD b.1.toNat 0 ≤ b.2.2
def TmOk (p : Int) (bs : List Bd) (ts : List Int) : Prop := PlOk p bs ∧ (ts.length : Int) = p ∧ AllIn ts (-2000) 2000
def KpOk (p : Int) (bs : List Bd) (ts : List Int) : Prop := TmOk p bs ts ∧ ∀ b ∈ bs, Kpt ts b

theorem keptBy_any (x : Bd) (D : Option Addr) (k d : Nat) (ts : List Int) (w : World) (g : IntsAt w D k ts) (hi : 0 ≤ x.1 ∧ x.1 < k) (hj : 0 ≤ x.2.1 ∧ x.2.1 < k) (ht : AllIn ts (-2000) 2000) :
    Calls Try.prog 70 #[.agg #[.int .i64 x.1, .int .i64 x.2.1, .int .i64 x.2.2], .slice D k d] w (Bl w (.bool (B (Kpt ts x)))) := by
  obtain ⟨x0, x1, x2⟩ := x
  obtain ⟨i, rfl⟩ := Int.eq_ofNat_of_zero_le hi.1
  obtain ⟨j, rfl⟩ := Int.eq_ofNat_of_zero_le hj.1
  have hik : i < k := by have := hi.2; simp at this; omega
  have hjk : j < k := by have := hj.2; simp at this; omega
  obtain ⟨b, off, rfl, hc⟩ := g.cells (by omega)
  have ci := hc i hik
  have cj := hc j hjk
  have hbl : b < w.heap.size := cell_lt ci
  obtain ⟨hti0, hti1⟩ := allIn_at ht (k := i) (by rw [g.len]; exact hik)
  obtain ⟨htj0, htj1⟩ := allIn_at ht (k := j) (by rw [g.len]; exact hjk)
  obtain ⟨ti, HTI⟩ : ∃ q, Hid (ts.getD i 0 = q) := ⟨_, rfl⟩
  obtain ⟨tj, HTJ⟩ : ∃ q, Hid (ts.getD j 0 = q) := ⟨_, rfl⟩
  rw [HTI.out] at ci hti0 hti1
  rw [HTJ.out] at cj htj0 htj1
  have hB0 : Below w.heap.size w (w.alloc (.cells #[.int .i64 i, .int .i64 j, .int .i64 x2] 77)) := (Below.refl w.heap.size w).alloc (Nat.le_refl _) _
  have hik' : (i : Int) < (k : Int) := by omega
  have hjk' : (j : Int) < (k : Int) := by omega
  have hw : IntKind.i64.wrap (tj - ti) = tj - ti := IntWalk.i64_in _ (by omega)
  clear hi hj hc
  go_enter Try.func70, Try.ntmps70
  go_wp2
  go_quiet (fail)
  go_wp2
  go_ret
  refine ⟨ret_b ?_, below_drewN hB0 _⟩
  have hk : Kpt ts ((i : Int), (j : Int), x2) ↔ tj - ti ≤ x2 := by unfold Kpt; simp only [Int.toNat_natCast]; rw [HTI.out, HTJ.out]
  by_cases h : tj - ti ≤ x2
  · rw [B_true (hk.2 h)]; simpa using h
  · rw [B_false (fun hh => h (hk.1 hh))]; simpa using h

theorem iTimesOk_any (p : Int) (A : Option Addr) (n c : Nat) (bs : List Bd) (D : Option Addr) (k d : Nat) (ts : List Int) (w : World) (h : BndsAt w A n bs) (g : IntsAt w D k ts) (_hn : n ≤ 1048576) (hk : k ≤ 1048576) :
    Calls Try.prog 67 #[.agg #[.int .i64 p, .slice A n c], .slice D k d] w (Bl w (.bool (B (TmOk p bs ts)))) := by
  have HG := Lib.hid g.len
  have hB0 : Below w.heap.size w (w.alloc (.cells #[.int .i64 p, .slice A n c] 25)) := (Below.refl w.heap.size w).alloc (Nat.le_refl _) _
  go_enter Try.func67, Try.ntmps67
  go_wp2_with (fail)
  refine kB (iPlanOk_any p A n c bs _ (h.below hB0)) ?_ ?_
  · intro w1 hp hb1
    have hB1 : Below w.heap.size w w1 := hB0.trans (hb1.mono hB0.size)
    have e0 : w1.cell? ⟨w.heap.size, 0, none⟩ = some (.int .i64 p) := keep hb1 (by simp [go_sem])
    by_cases hq : (k : Int) = p
    · have hqq : ((k : Int) == p) = true := by simpa using hq
      have HQ := Lib.hid hq
      clear hq
      go_wp2_with (fail)
      refine kB (allIn_any D k d ts (-2000) 2000 w1 (g.below hB1) hk) ?_ ?_
      · intro w2 ha hb2
        go_wp2
        go_ret
        exact ⟨ret_b (B_true ⟨hp.out, by rw [HG.out]; exact HQ.out, ha.out⟩).symm, hB1.trans (hb2.mono hB1.size)⟩
      · intro w2 ha hb2
        go_wp2
        go_ret
        exact ⟨ret_b (B_false (fun hh => ha.out hh.2.2)).symm, hB1.trans (hb2.mono hB1.size)⟩
    · have hqq : ((k : Int) == p) = false := by simpa using hq
      have HQ := Lib.hid hq
      clear hq
      go_wp2
      go_ret
      exact ⟨ret_b (B_false (fun hh => HQ.out (by rw [← HG.out]; exact hh.2.1))).symm, hB1⟩
  · intro w1 hp hb1
    go_wp2
    go_ret
    exact ⟨ret_b (B_false (fun hh => hp.out hh.1)).symm, hB0.trans (hb1.mono hB0.size)⟩


theorem bd_pts {p : Int} {bs : List Bd} {ts : List Int} (h : TmOk p bs ts) {x : Bd} (hx : BdOk p x) : (0 ≤ x.1 ∧ x.1 < ts.length) ∧ (0 ≤ x.2.1 ∧ x.2.1 < ts.length) := by
  have h1 := (hasPt_iff h.1.1).1 hx.1
  have h2 := (hasPt_iff h.1.1).1 hx.2.1
  have := h.2.1
  omega

theorem KeepsOk1_any (x : Bd) (D : Option Addr) (k d : Nat) (ts : List Int) (q : Nat) (w : World) (h0 : w.cell? ⟨q, 0, none⟩ = some (.slice D k d)) (g : IntsAt w D k ts) (hi : 0 ≤ x.1 ∧ x.1 < k) (hj : 0 ≤ x.2.1 ∧ x.2.1 < k) (ht : AllIn ts (-2000) 2000) :
    Calls Try.prog 69 #[.agg #[.int .i64 x.1, .int .i64 x.2.1, .int .i64 x.2.2], .pointer (some ⟨q, 0, none⟩)] w (Bl w (.bool (B (¬ Kpt ts x)))) := by
  have hq : q < w.heap.size := cell_lt h0
  have hB0 : Below w.heap.size w (w.alloc (.cells #[.int .i64 x.1, .int .i64 x.2.1, .int .i64 x.2.2] 77)) := (Below.refl w.heap.size w).alloc (Nat.le_refl _) _
  go_enter Try.func69, Try.ntmps69
  go_wp2_with (fail)
  refine kB (keptBy_any x D k d ts _ (g.below hB0) hi hj ht) ?_ ?_
  · intro w1 hp hb1
    go_wp2
    go_ret
    exact ⟨ret_b (B_false (fun hh => hh hp.out)).symm, hB0.trans (hb1.mono hB0.size)⟩
  · intro w1 hp hb1
    go_wp2
    go_ret
    exact ⟨ret_b (B_true hp.out).symm, hB0.trans (hb1.mono hB0.size)⟩

theorem iKeepsOk_any (p : Int) (A : Option Addr) (n c : Nat) (bs : List Bd) (D : Option Addr) (k d : Nat) (ts : List Int) (w : World) (h : BndsAt w A n bs) (g : IntsAt w D k ts) (hn : n ≤ 1048576) (hk : k ≤ 1048576) :
    Calls Try.prog 37 #[.agg #[.int .i64 p, .slice A n c], .slice D k d] w (Bl w (.bool (B (KpOk p bs ts)))) := by
  have HG := Lib.hid g.len
  have hB0 : Below w.heap.size w ((w.alloc (.cells #[.int .i64 p, .slice A n c] 25)).alloc (.cells #[.slice D k d] 26)) := ((Below.refl w.heap.size w).alloc (Nat.le_refl _) _).alloc (by simp) _
  go_enter Try.func37, Try.ntmps37
  go_wp2_with (fail)
  refine kB (iTimesOk_any p A n c bs D k d ts _ (h.below hB0) (g.below hB0) hn hk) ?_ ?_
  · intro w1 hp hb1
    have hB1 : Below w.heap.size w w1 := hB0.trans (hb1.mono hB0.size)
    have e1 : w1.cell? ⟨w.heap.size, 1, none⟩ = some (.slice A n c) := keep hb1 (by simp [go_sem])
    have e2 : w1.cell? ⟨w.heap.size + 1, 0, none⟩ = some (.slice D k d) := keep hb1 (by simp [go_sem])
    have hpt := fun (x : Bd) (hx : x ∈ bs) => bd_pts hp.out (hp.out.1.2.2 x hx)
    rw [HG.out] at hpt
    have HPT := Lib.hid hpt
    clear hpt
    go_wp2_with (fail)
    refine kB (ContainsFuncBnd_any (fun x => ¬ Kpt ts x) _ _ A n c bs _ (h.below hB1) hn (enters Try.func69 (by kernel_rfl) (by kernel_rfl)) (Lib.hid fun W x hx hW => KeepsOk1_any x D k d ts _ W (keep hW e2) ((g.below hB1).below hW) (HPT.out x hx).1 (HPT.out x hx).2 hp.out.2.2)) ?_ ?_
    · intro w2 hq hb2
      go_wp2
      go_ret
      refine ⟨ret_b (B_false (fun hh => ?_)).symm, hB1.trans (hb2.mono hB1.size)⟩
      obtain ⟨x, hx, hn⟩ := hq.out
      exact hn (hh.2 x hx)
    · intro w2 hq hb2
      go_wp2
      go_ret
      refine ⟨ret_b (B_true ⟨hp.out, fun x hx => ?_⟩).symm, hB1.trans (hb2.mono hB1.size)⟩
      by_cases hr : Kpt ts x
      · exact hr
      · exact absurd ⟨x, hx, hr⟩ hq.out
  · intro w1 hp hb1
    go_wp2
    go_ret
    exact ⟨ret_b (B_false (fun hh => hp.out hh.1)).symm, hB0.trans (hb1.mono hB0.size)⟩



end Go.Proofs.Ytikapnphnkoelaa
