/- Times for plans: keptBy; both TimesOk, KeepsOk functions. -/
import Derived.Test.YtopfhlopicjemaaP2
namespace Go.Proofs.Ytopfhlopicjemaa
open Go.RowKit

theorem hasPt_iff {p q : Int} (h : InR p 1 6) : HasPt p q ↔ 0 ≤ q ∧ q < p := by
  obtain ⟨h1, h2⟩ := h
  unfold HasPt InR
  rw [IntWalk.wrap64_in _ (by omega)]
  omega

def Kpt (ts : List Int) (b : Bd) : Prop := ts.getD b.2.1.toNat 0 - ts.getD b.1.toNat 0 ≤ b.2.2
def TmOk (p : Int) (bs : List Bd) (ts : List Int) : Prop := PlOk p bs ∧ (ts.length : Int) = p ∧ AllIn ts (-2000) 2000
def KpOk (p : Int) (bs : List Bd) (ts : List Int) : Prop := TmOk p bs ts ∧ ∀ b ∈ bs, Kpt ts b

theorem keptBy_any (x : Bd) (D : Option Addr) (k d : Nat) (ts : List Int) (w : World) (g : IntsAt w D k ts) (hi : 0 ≤ x.1 ∧ x.1 < k) (hj : 0 ≤ x.2.1 ∧ x.2.1 < k) (ht : AllIn ts (-2000) 2000) :
    Calls Try.prog 81 #[.agg #[.int .i64 x.1, .int .i64 x.2.1, .int .i64 x.2.2], .slice D k d] w (Bl w (.bool (B (Kpt ts x)))) := by
  obtain ⟨x0, x1, x2⟩ := x
  obtain ⟨i, rfl⟩ := Int.eq_ofNat_of_zero_le hi.1
  obtain ⟨j, rfl⟩ := Int.eq_ofNat_of_zero_le hj.1
  have hik : i < k := by have := hi.2; simp at this; omega
  have hjk : j < k := by have := hj.2; simp at this; omega
  obtain ⟨b, off, rfl, hc⟩ := g.cells (by omega)
  have ci := hc i hik
  have cj := hc j hjk
  have hbl : b < w.heap.size := cell_lt ci
  obtain ⟨hti0, hti1⟩ := allIn_at ht (k := i) (by rw [g.len]; exact hik)
  obtain ⟨htj0, htj1⟩ := allIn_at ht (k := j) (by rw [g.len]; exact hjk)
  obtain ⟨ti, HTI⟩ : ∃ q, Hid (ts.getD i 0 = q) := ⟨_, rfl⟩
  obtain ⟨tj, HTJ⟩ : ∃ q, Hid (ts.getD j 0 = q) := ⟨_, rfl⟩
  rw [HTI.out] at ci hti0 hti1
  rw [HTJ.out] at cj htj0 htj1
  have hB0 : Below w.heap.size w (w.alloc (.cells #[.int .i64 i, .int .i64 j, .int .i64 x2] 95)) := (Below.refl w.heap.size w).alloc (Nat.le_refl _) _
  have hik' : (i : Int) < (k : Int) := by omega
  have hjk' : (j : Int) < (k : Int) := by omega
  have hw : IntKind.i64.wrap (tj - ti) = tj - ti := IntWalk.i64_in _ (by omega)
  clear hi hj hc
  go_enter Try.func81, Try.ntmps81
  go_wp2
  go_quiet (fail)
  go_wp2
  go_ret
  refine ⟨ret_b ?_, below_drewN hB0 _⟩
  have hk : Kpt ts ((i : Int), (j : Int), x2) ↔ tj - ti ≤ x2 := by unfold Kpt; simp only [Int.toNat_natCast]; rw [HTI.out, HTJ.out]
  by_cases h : tj - ti ≤ x2
  · rw [B_true (hk.2 h)]; simpa using h
  · rw [B_false (fun hh => h (hk.1 hh))]; simpa using h

theorem iTimesOk_any (p : Int) (A : Option Addr) (n c : Nat) (bs : List Bd) (D : Option Addr) (k d : Nat) (ts : List Int) (w : World) (h : BndsAt w A n bs) (g : IntsAt w D k ts) (_hn : n ≤ 1048576) (hk : k ≤ 1048576) :
    Calls Try.prog 98 #[.agg #[.int .i64 p, .slice A n c], .slice D k d] w (Bl w (.bool (B (TmOk p bs ts)))) := by
  have HG := Lib.hid g.len
  have hB0 : Below w.heap.size w (w.alloc (.cells #[.int .i64 p, .slice A n c] 48)) := (Below.refl w.heap.size w).alloc (Nat.le_refl _) _
  go_enter Try.func98, Try.ntmps98
  go_wp2_with (fail)
  refine kB (iPlanOk_any p A n c bs _ (h.below hB0)) ?_ ?_
  · intro w1 hp hb1
    have hB1 : Below w.heap.size w w1 := hB0.trans (hb1.mono hB0.size)
    have e0 : w1.cell? ⟨w.heap.size, 0, none⟩ = some (.int .i64 p) := keep hb1 (by simp [go_sem])
    by_cases hq : (k : Int) = p
    · have hqq : ((k : Int) == p) = true := by simpa using hq
      have HQ := Lib.hid hq
      clear hq
      go_wp2_with (fail)
      refine kB (allIn_any D k d ts (-2000) 2000 w1 (g.below hB1) hk) ?_ ?_
      · intro w2 ha hb2
        go_wp2
        go_ret
        exact ⟨ret_b (B_true ⟨hp.out, by rw [HG.out]; exact HQ.out, ha.out⟩).symm, hB1.trans (hb2.mono hB1.size)⟩
      · intro w2 ha hb2
        go_wp2
        go_ret
        exact ⟨ret_b (B_false (fun hh => ha.out hh.2.2)).symm, hB1.trans (hb2.mono hB1.size)⟩
    · have hqq : ((k : Int) == p) = false := by simpa using hq
      have HQ := Lib.hid hq
      clear hq
      go_wp2
      go_ret
      exact ⟨ret_b (B_false (fun hh => HQ.out (by rw [← HG.out]; exact hh.2.1))).symm, hB1⟩
  · intro w1 hp hb1
    go_wp2
    go_ret
    exact ⟨ret_b (B_false (fun hh => hp.out hh.1)).symm, hB0.trans (hb1.mono hB0.size)⟩

theorem sTimesOk_any (p : Int) (A : Option Addr) (n c : Nat) (bs : List Bd) (D : Option Addr) (k d : Nat) (ts : List Int) (w : World) (h : BndsAt w A n bs) (g : IntsAt w D k ts) (hn : n ≤ 1048576) (hk : k ≤ 1048576) :
    Calls Try.prog 96 #[.agg #[.int .i64 p, .slice A n c], .slice D k d] w (Bl w (.bool (B (TmOk p bs ts)))) := by
  have HG := Lib.hid g.len
  have hB0 : Below w.heap.size w (w.alloc (.cells #[.int .i64 p, .slice A n c] 48)) := (Below.refl w.heap.size w).alloc (Nat.le_refl _) _
  have g1 := g.below hB0
  have h1 := h.below hB0
  have HB0 := Lib.hid hB0
  clear hB0 g h
  go_enter Try.func96, Try.ntmps96
  go_wp2
  go_loop [5] (fun i => ∃ j : Nat, j ≤ k ∧ i = .int .i64 j ∧ ∀ q, q < j → InR (ts.getD q 0) (-2000) 2000) (fun i => k - (intOf i).toNat)
  case atStart => exact ⟨0, Nat.zero_le _, rfl, fun j hj => by omega⟩
  case round =>
    obtain ⟨j, hj, rfl, hal⟩ := hrel
    have HA := Lib.hid hal
    clear hal
    by_cases hlt : j < k
    · obtain ⟨b, off, rfl, hc⟩ := g1.cells (by omega)
      have c0 := hc j hlt
      clear hc
      obtain ⟨tj, HTJ⟩ : ∃ q, Hid (ts.getD j 0 = q) := ⟨_, rfl⟩
      rw [HTJ.out] at c0
      go_wp2_with (fail)
      refine kS (l1In_any tj (-2000) 2000 _) ?_ ?_ <;> intro hin
      · go_wp2
        go_round
        case rel =>
          refine ⟨j + 1, by omega, by go_num, fun q hq => ?_⟩
          rcases Nat.lt_or_ge q j with h1 | h1
          · exact HA.out q h1
          · obtain rfl : q = j := by omega
            rw [HTJ.out]; exact hin.out
        case measure => simp [intOf]; omega
      · go_wp2
        go_ret
        exact ⟨ret_b (B_false (fun hh => hin.out (by rw [← HTJ.out]; exact allIn_at hh.2.2 (by rw [HG.out]; exact hlt)))).symm, HB0.out⟩
    · obtain rfl : j = k := by omega
      have hall : AllIn ts (-2000) 2000 := fun x hx => by
        obtain ⟨q, hq, rfl⟩ := List.mem_iff_getElem.1 hx
        have := HA.out q (by rw [← HG.out]; exact hq)
        simpa [List.getD, hq] using this
      have HALL := Lib.hid hall
      clear hall
      go_wp2_with (fail)
      refine kB (sPlanOk_any p A n c bs _ h1 hn) ?_ ?_
      · intro w1 hp hb1
        have e0 : w1.cell? ⟨w.heap.size, 0, none⟩ = some (.int .i64 p) := keep hb1 (by simp [go_sem])
        by_cases hq : (j : Int) = p
        · have hqq : ((j : Int) == p) = true := by simpa using hq
          have HQ := Lib.hid hq
          clear hq
          go_wp2
          go_ret
          exact ⟨ret_b (B_true ⟨hp.out, by rw [HG.out]; exact HQ.out, HALL.out⟩).symm, HB0.out.trans (hb1.mono HB0.out.size)⟩
        · have hqq : ((j : Int) == p) = false := by simpa using hq
          have HQ := Lib.hid hq
          clear hq
          go_wp2
          go_ret
          exact ⟨ret_b (B_false (fun hh => HQ.out (by rw [← HG.out]; exact hh.2.1))).symm, HB0.out.trans (hb1.mono HB0.out.size)⟩
      · intro w1 hp hb1
        go_wp2
        go_ret
        exact ⟨ret_b (B_false (fun hh => hp.out hh.1)).symm, HB0.out.trans (hb1.mono HB0.out.size)⟩

theorem bd_pts {p : Int} {bs : List Bd} {ts : List Int} (h : TmOk p bs ts) {x : Bd} (hx : BdOk p x) : (0 ≤ x.1 ∧ x.1 < ts.length) ∧ (0 ≤ x.2.1 ∧ x.2.1 < ts.length) := by
  have h1 := (hasPt_iff h.1.1).1 hx.1
  have h2 := (hasPt_iff h.1.1).1 hx.2.1
  have := h.2.1
  omega

theorem KeepsOk1_any (x : Bd) (D : Option Addr) (k d : Nat) (ts : List Int) (q : Nat) (w : World) (h0 : w.cell? ⟨q, 0, none⟩ = some (.slice D k d)) (g : IntsAt w D k ts) (hi : 0 ≤ x.1 ∧ x.1 < k) (hj : 0 ≤ x.2.1 ∧ x.2.1 < k) (ht : AllIn ts (-2000) 2000) :
    Calls Try.prog 99 #[.agg #[.int .i64 x.1, .int .i64 x.2.1, .int .i64 x.2.2], .pointer (some ⟨q, 0, none⟩)] w (Bl w (.bool (B (¬ Kpt ts x)))) := by
  have hq : q < w.heap.size := cell_lt h0
  have hB0 : Below w.heap.size w (w.alloc (.cells #[.int .i64 x.1, .int .i64 x.2.1, .int .i64 x.2.2] 95)) := (Below.refl w.heap.size w).alloc (Nat.le_refl _) _
  go_enter Try.func99, Try.ntmps99
  go_wp2_with (fail)
  refine kB (keptBy_any x D k d ts _ (g.below hB0) hi hj ht) ?_ ?_
  · intro w1 hp hb1
    go_wp2
    go_ret
    exact ⟨ret_b (B_false (fun hh => hh hp.out)).symm, hB0.trans (hb1.mono hB0.size)⟩
  · intro w1 hp hb1
    go_wp2
    go_ret
    exact ⟨ret_b (B_true hp.out).symm, hB0.trans (hb1.mono hB0.size)⟩

theorem iKeepsOk_any (p : Int) (A : Option Addr) (n c : Nat) (bs : List Bd) (D : Option Addr) (k d : Nat) (ts : List Int) (w : World) (h : BndsAt w A n bs) (g : IntsAt w D k ts) (hn : n ≤ 1048576) (hk : k ≤ 1048576) :
    Calls Try.prog 79 #[.agg #[.int .i64 p, .slice A n c], .slice D k d] w (Bl w (.bool (B (KpOk p bs ts)))) := by
  have HG := Lib.hid g.len
  have hB0 : Below w.heap.size w ((w.alloc (.cells #[.int .i64 p, .slice A n c] 48)).alloc (.cells #[.slice D k d] 22)) := ((Below.refl w.heap.size w).alloc (Nat.le_refl _) _).alloc (by simp) _
  go_enter Try.func79, Try.ntmps79
  go_wp2_with (fail)
  refine kB (iTimesOk_any p A n c bs D k d ts _ (h.below hB0) (g.below hB0) hn hk) ?_ ?_
  · intro w1 hp hb1
    have hB1 : Below w.heap.size w w1 := hB0.trans (hb1.mono hB0.size)
    have e1 : w1.cell? ⟨w.heap.size, 1, none⟩ = some (.slice A n c) := keep hb1 (by simp [go_sem])
    have e2 : w1.cell? ⟨w.heap.size + 1, 0, none⟩ = some (.slice D k d) := keep hb1 (by simp [go_sem])
    have hpt := fun (x : Bd) (hx : x ∈ bs) => bd_pts hp.out (hp.out.1.2.2 x hx)
    rw [HG.out] at hpt
    have HPT := Lib.hid hpt
    clear hpt
    go_wp2_with (fail)
    refine kB (ContainsFuncBnd_any (fun x => ¬ Kpt ts x) _ _ A n c bs _ (h.below hB1) hn (enters Try.func99 (by kernel_rfl) (by kernel_rfl)) (Lib.hid fun W x hx hW => KeepsOk1_any x D k d ts _ W (keep hW e2) ((g.below hB1).below hW) (HPT.out x hx).1 (HPT.out x hx).2 hp.out.2.2)) ?_ ?_
    · intro w2 hq hb2
      go_wp2
      go_ret
      refine ⟨ret_b (B_false (fun hh => ?_)).symm, hB1.trans (hb2.mono hB1.size)⟩
      obtain ⟨x, hx, hn⟩ := hq.out
      exact hn (hh.2 x hx)
    · intro w2 hq hb2
      go_wp2
      go_ret
      refine ⟨ret_b (B_true ⟨hp.out, fun x hx => ?_⟩).symm, hB1.trans (hb2.mono hB1.size)⟩
      by_cases hr : Kpt ts x
      · exact hr
      · exact absurd ⟨x, hx, hr⟩ hq.out
  · intro w1 hp hb1
    go_wp2
    go_ret
    exact ⟨ret_b (B_false (fun hh => hp.out hh.1)).symm, hB0.trans (hb1.mono hB0.size)⟩

theorem l1Keeps_any (p : Int) (A : Option Addr) (n c : Nat) (bs : List Bd) (D : Option Addr) (k d : Nat) (ts : List Int) (w : World) (h : BndsAt w A n bs) (g : IntsAt w D k ts) (hn : n ≤ 1048576) (ht : TmOk p bs ts) :
    Calls Try.prog 97 #[.agg #[.int .i64 p, .slice A n c], .slice D k d] w (Bl w (.bool (B (∀ b ∈ bs, Kpt ts b)))) := by
  have HL := Lib.hid h.len
  have HG := Lib.hid g.len
  have HT := Lib.hid ht
  clear ht
  have hB0 : Below w.heap.size w (w.alloc (.cells #[.int .i64 p, .slice A n c] 48)) := (Below.refl w.heap.size w).alloc (Nat.le_refl _) _
  have HB0 := Lib.hid hB0
  clear hB0
  go_enter Try.func97, Try.ntmps97
  go_wp2
  go_loopw [5] (fun i wr => ∃ j z : Nat, j ≤ n ∧ i = .int .i64 j ∧ wr = (w.alloc (.cells #[.int .i64 p, .slice A n c] 48)).drewN z ∧ ∀ q, q < j → Kpt ts (bs.getD q (0, 0, 0))) (fun i _ => n - (intOf i).toNat)
  case atStart => exact ⟨0, 0, Nat.zero_le _, rfl, rfl, fun j hj => by omega⟩
  case round =>
    obtain ⟨j, z, hj, rfl, rfl, hal⟩ := hrel
    have HA := Lib.hid hal
    clear hal
    by_cases hlt : j < n
    · obtain ⟨b, off, rfl, hc⟩ := h.cells (by omega)
      obtain ⟨c0, c1, c2⟩ := hc j hlt
      have hbl : b < w.heap.size := cell_lt c0
      clear hc
      have hmem : bs.getD j (0, 0, 0) ∈ bs := by
        have : j < bs.length := by rw [HL.out]; exact hlt
        simp [List.getD, this]
      obtain ⟨hi, hjx⟩ := bd_pts HT.out (HT.out.1.2.2 _ hmem)
      obtain ⟨x, HX⟩ : ∃ q, Hid (bs.getD j (0, 0, 0) = q) := ⟨_, rfl⟩
      rw [HX.out] at c0 c1 c2 hi hjx hmem
      obtain ⟨x0, x1, x2⟩ := x
      obtain ⟨i, rfl⟩ := Int.eq_ofNat_of_zero_le hi.1
      obtain ⟨l, rfl⟩ := Int.eq_ofNat_of_zero_le hjx.1
      have hik : i < k := by have := hi.2; rw [HG.out] at this; simp at this; omega
      have hlk : l < k := by have := hjx.2; rw [HG.out] at this; simp at this; omega
      clear hi hjx
      obtain ⟨b', off', rfl, hc'⟩ := g.cells (by omega)
      have ci := hc' i hik
      have cl := hc' l hlk
      have hbl' : b' < w.heap.size := cell_lt ci
      clear hc'
      obtain ⟨hti0, hti1⟩ := allIn_at HT.out.2.2 (k := i) (by rw [HG.out]; exact hik)
      obtain ⟨htl0, htl1⟩ := allIn_at HT.out.2.2 (k := l) (by rw [HG.out]; exact hlk)
      have hkp : Kpt ts (bs.getD j (0, 0, 0)) ↔ ts.getD l 0 - ts.getD i 0 ≤ x2 := by rw [HX.out]; unfold Kpt; simp only [Int.toNat_natCast]
      obtain ⟨ti, HTI⟩ : ∃ q, Hid (ts.getD i 0 = q) := ⟨_, rfl⟩
      obtain ⟨tl, HTL⟩ : ∃ q, Hid (ts.getD l 0 = q) := ⟨_, rfl⟩
      rw [HTI.out] at ci hti0 hti1 hkp
      rw [HTL.out] at cl htl0 htl1 hkp
      have HKP := Lib.hid hkp
      have HM := Lib.hid hmem
      clear hkp hmem
      have hik' : (i : Int) < (k : Int) := by omega
      have hlk' : (l : Int) < (k : Int) := by omega
      have hw : IntKind.i64.wrap (tl - ti) = tl - ti := IntWalk.i64_in _ (by omega)
      by_cases hgt : x2 < tl - ti
      · go_wp2
        go_quiet (fail)
        go_wp2
        go_ret
        exact ⟨ret_b (B_false (fun hh => by have := HKP.out.1 (by rw [HX.out]; exact hh _ HM.out); omega)).symm, below_drewN (below_drewN HB0.out _) _⟩
      · go_wp2
        go_quiet (fail)
        go_wp2
        go_roundw
        case rel =>
          refine ⟨j + 1, _, by omega, by go_num, rfl, fun q hq => ?_⟩
          rcases Nat.lt_or_ge q j with h1 | h1
          · exact HA.out q h1
          · obtain rfl : q = j := by omega
            exact HKP.out.2 (by omega)
        case measure => simp [intOf]; omega
    · go_wp2
      go_ret
      obtain rfl : j = n := by omega
      refine ⟨ret_b (B_true (fun x hx => ?_)).symm, below_drewN HB0.out _⟩
      obtain ⟨q, hq, rfl⟩ := List.mem_iff_getElem.1 hx
      have := HA.out q (by rw [← HL.out]; exact hq)
      simpa [List.getD, hq] using this

theorem sKeepsOk_any (p : Int) (A : Option Addr) (n c : Nat) (bs : List Bd) (D : Option Addr) (k d : Nat) (ts : List Int) (w : World) (h : BndsAt w A n bs) (g : IntsAt w D k ts) (hn : n ≤ 1048576) (hk : k ≤ 1048576) :
    Calls Try.prog 78 #[.agg #[.int .i64 p, .slice A n c], .slice D k d] w (Bl w (.bool (B (KpOk p bs ts)))) := by
  have hB0 : Below w.heap.size w (w.alloc (.cells #[.int .i64 p, .slice A n c] 48)) := (Below.refl w.heap.size w).alloc (Nat.le_refl _) _
  go_enter Try.func78, Try.ntmps78
  go_wp2_with (fail)
  refine kB (sTimesOk_any p A n c bs D k d ts _ (h.below hB0) (g.below hB0) hn hk) ?_ ?_
  · intro w1 hp hb1
    have hB1 : Below w.heap.size w w1 := hB0.trans (hb1.mono hB0.size)
    have e0 : w1.cell? ⟨w.heap.size, 0, none⟩ = some (.int .i64 p) := keep hb1 (by simp [go_sem])
    have e1 : w1.cell? ⟨w.heap.size, 1, none⟩ = some (.slice A n c) := keep hb1 (by simp [go_sem])
    go_wp2_with (fail)
    refine kB (l1Keeps_any p A n c bs D k d ts w1 (h.below hB1) (g.below hB1) hn hp.out) ?_ ?_
    · intro w2 hq hb2
      go_wp2
      go_ret
      exact ⟨ret_b (B_true ⟨hp.out, hq.out⟩).symm, hB1.trans (hb2.mono hB1.size)⟩
    · intro w2 hq hb2
      go_wp2
      go_ret
      exact ⟨ret_b (B_false (fun hh => hq.out hh.2)).symm, hB1.trans (hb2.mono hB1.size)⟩
  · intro w1 hp hb1
    go_wp2
    go_ret
    exact ⟨ret_b (B_false (fun hh => hp.out hh.1)).symm, hB0.trans (hb1.mono hB0.size)⟩

end Go.Proofs.Ytopfhlopicjemaa
