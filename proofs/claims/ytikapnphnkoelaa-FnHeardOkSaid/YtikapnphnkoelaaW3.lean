/- Windows, ready points, deadlines: impl's window, ready, WindowOf, ReadyOk, DeadlineOf; spec's WindowOf, ReadyOk. -/
import Derived.Test.YtikapnphnkoelaaW1
namespace Go.Proofs.Ytikapnphnkoelaa
open Go.RowKit

set_option maxRecDepth 100000 in
set_option maxHeartbeats 4000000 in
theorem iWindow_any (P j : Nat) (A : Option Addr) (c : Nat) (T : Tab) (now : Int) (D : Option Addr) (d : Nat) (ds : List Int) (w : World) (h : TabAt w A P T) (g : IntsAt w D P ds) (hj : j < P) (hP : P ≤ 6)
    (hT : ∀ x y, -6400 ≤ T x y ∧ T x y ≤ 100000) (hd : ∀ i, i < P → -1 ≤ ds.getD i 0 ∧ ds.getD i 0 ≤ 2000) :
    Calls Try.prog 56 #[.agg #[.int .i64 now, .slice D P d], .slice A P c, .int .i64 (j : Int)] w (Bl w (.tuple #[.int .i64 (loW T now ds j P), .int .i64 (hiW T ds j P)])) := by
  obtain ⟨w0, HW0⟩ : ∃ q, Hid (w.alloc (.cells #[.int .i64 now, .slice D P d] 28) = q) := ⟨_, rfl⟩
  have hA0 : Below w.heap.size w w0 := HW0.out ▸ (Below.refl w.heap.size w).alloc (Nat.le_refl _) _
  have s0 : w0.cell? ⟨w.heap.size, 0, none⟩ = some (.int .i64 now) := HW0.out ▸ by simp [go_sem]
  have s1 : w0.cell? ⟨w.heap.size, 1, none⟩ = some (.slice D P d) := HW0.out ▸ by simp [go_sem]
  have HB0 := Lib.hid hA0
  have HTB := Lib.hid (h.below hA0)
  have HG := Lib.hid (g.below hA0)
  have HT := Lib.hid hT
  have HD := Lib.hid hd
  clear hA0 h g hT hd
  go_enter Try.func56, Try.ntmps56
  go_wp2_with (fail)
  rw [HW0.out]
  obtain ⟨sb, HSB⟩ : ∃ q, Hid (w.heap.size = q) := ⟨_, rfl⟩
  rw [HSB.out] at s0 s1 HB0 ⊢
  go_loopw [8, 9, 17] (fun l h i wr => ∃ (k m : Nat), k ≤ P ∧ i = .int .i64 k ∧ l = .int .i64 (loW T now ds j k) ∧ h = .int .i64 (hiW T ds j k) ∧ wr = w0.drewN m) (fun _ _ i _ => P - (intOf i).toNat)
  case atStart => exact ⟨0, 0, Nat.zero_le _, rfl, rfl, rfl, rfl⟩
  case round =>
    obtain ⟨k, m, hk, rfl, rfl, rfl, rfl⟩ := hrel
    by_cases hkP : k < P
    · obtain ⟨tb, toff, rfl, htc⟩ := HTB.out.cells (by omega)
      obtain ⟨r1, o1, q1, h1, hr1⟩ := htc j hj
      obtain ⟨r2, o2, q2, h2, hr2⟩ := htc k hkP
      have d1 := hr1 k hkP
      have d2 := hr2 j hj
      obtain ⟨b, off, rfl, hc⟩ := HG.out.cells (by omega)
      have c0 := hc k hkP
      clear htc hr1 hr2 hc
      obtain ⟨bd0, bd1⟩ := HD.out k hkP
      obtain ⟨bx0, bx1⟩ := HT.out j k
      obtain ⟨by0, by1⟩ := HT.out k j
      have hlo : loW T now ds j (k + 1) = if ds.getD k 0 = -1 then loW T now ds j k else if T j k < 100000 then max (loW T now ds j k) (ds.getD k 0 - T j k) else loW T now ds j k := rfl
      have hhi : hiW T ds j (k + 1) = if ds.getD k 0 = -1 then hiW T ds j k else if T k j < 100000 then min (hiW T ds j k) (ds.getD k 0 + T k j) else hiW T ds j k := rfl
      obtain ⟨z, HZ⟩ : ∃ q, Hid (ds.getD k 0 = q) := ⟨_, rfl⟩
      obtain ⟨x, HX⟩ : ∃ q, Hid (T j k = q) := ⟨_, rfl⟩
      obtain ⟨y, HY⟩ : ∃ q, Hid (T k j = q) := ⟨_, rfl⟩
      obtain ⟨l, HLO⟩ : ∃ q, Hid (loW T now ds j k = q) := ⟨_, rfl⟩
      obtain ⟨u, HHI⟩ : ∃ q, Hid (hiW T ds j k = q) := ⟨_, rfl⟩
      rw [HZ.out] at c0 bd0 bd1 hlo hhi
      rw [HX.out] at d1 bx0 bx1 hlo
      rw [HY.out] at d2 by0 by1 hhi
      rw [HLO.out] at hlo ⊢
      rw [HHI.out] at hhi ⊢
      have hjI : (j : Int) < (P : Int) := by omega
      have hkI : (k : Int) < (P : Int) := by omega
      by_cases hz : z = -1
      · rw [if_pos hz] at hlo hhi
        have HL1 := Lib.hid hlo
        have HH1 := Lib.hid hhi
        clear hlo hhi
        subst hz
        go_wp2
        go_roundw
        case rel => exact ⟨k + 1, _, by omega, by go_num, by rw [HL1.out], by rw [HH1.out], by first | rfl | trivial⟩
        case measure => simp [intOf]; omega
      · rw [if_neg hz] at hlo hhi
        have hz' : (z == -1) = false := by simpa using hz
        by_cases hx : x = 100000
        all_goals
          by_cases hy : y = 100000
          all_goals
            first
              | rw [if_neg (show ¬ x < 100000 by omega)] at hlo; have hxb : (x != 100000) = false := by simpa using hx
              | rw [if_pos (show x < 100000 by omega)] at hlo; have hxb : (x != 100000) = true := by simpa using hx
            first
              | rw [if_neg (show ¬ y < 100000 by omega)] at hhi; have hyb : (y != 100000) = false := by simpa using hy
              | rw [if_pos (show y < 100000 by omega)] at hhi; have hyb : (y != 100000) = true := by simpa using hy
            have HL1 := Lib.hid hlo
            have HH1 := Lib.hid hhi
            clear hlo hhi hx hy
            go_wp2
            try (go_region; go_wp2)
            try (go_region; go_wp2)
            go_roundw
            case rel => exact ⟨k + 1, _, by omega, by go_num, by rw [HL1.out], by rw [HH1.out], by first | rfl | exact dd _ _ _ | trivial⟩
            case measure => simp [intOf]; omega
    · obtain rfl : k = P := by omega
      go_wp2
      go_ret2
      exact ⟨rfl, by rw [HSB.out]; exact below_drewN HB0.out m⟩

/-- A point of a state that is not done. -/
def WinOk (p : Int) (bs : List Bd) (now : Int) (ds : List Int) (i : Int) : Prop := StOk p bs now ds ∧ OpenAt ds i
/-- What WindowOf leaves. -/
def WinV (w : World) (p : Int) (bs : List Bd) (now : Int) (ds : List Int) (i : Int) (e : Ending) (w' : World) : Prop :=
  Below w.heap.size w w' ∧ ((WinOk p bs now ds i ∧ e = .returned (.tuple #[.int .i64 (loW (cl (T0 bs) p.toNat) now ds i.toNat p.toNat), .int .i64 (hiW (cl (T0 bs) p.toNat) ds i.toNat p.toNat), .bool true])) ∨ (¬ WinOk p bs now ds i ∧ e = .returned (.tuple #[.int .i64 0, .int .i64 0, .bool false])))
theorem kWin {Pr : Program} {f : FuncId} {args : Array Value} {w : World} {K : Ending → World → Prop} {p : Int} {bs : List Bd} {now : Int} {ds : List Int} {i : Int} (h : Calls Pr f args w (WinV w p bs now ds i))
    (h1 : ∀ w', Hid (WinOk p bs now ds i) → Below w.heap.size w w' → K (.returned (.tuple #[.int .i64 (loW (cl (T0 bs) p.toNat) now ds i.toNat p.toNat), .int .i64 (hiW (cl (T0 bs) p.toNat) ds i.toNat p.toNat), .bool true])) w')
    (h0 : ∀ w', Hid (¬ WinOk p bs now ds i) → Below w.heap.size w w' → K (.returned (.tuple #[.int .i64 0, .int .i64 0, .bool false])) w') : Calls Pr f args w K :=
  h.mono fun e w' ⟨hb, h⟩ => by
    rcases h with ⟨hf, he⟩ | ⟨hf, he⟩
    · subst he; exact h1 w' hf hb
    · subst he; exact h0 w' hf hb
theorem WinOk.nat {p : Int} {bs : List Bd} {now : Int} {ds : List Int} {i : Int} (h : WinOk p bs now ds i) : ∃ P j : Nat, p = (P : Int) ∧ i = (j : Int) ∧ j < P ∧ P ≤ 6 ∧ ds.length = P := by
  obtain ⟨P, rfl, h1, h6⟩ := h.1.1.1.nat
  have h2 := h.1.2.1
  exact ⟨P, i.toNat, rfl, by have := h.2.1.1; omega, by have := h.2.1.1; have := h.2.1.2; omega, h6, by omega⟩
theorem StOk.bds {P : Nat} {bs : List Bd} {now : Int} {ds : List Int} (h : StOk (P : Int) bs now ds) : (∀ x y, -6400 ≤ cl (T0 bs) P x y ∧ cl (T0 bs) P x y ≤ 100000) ∧ (∀ i, i < P → -1 ≤ ds.getD i 0 ∧ ds.getD i 0 ≤ 2000) :=
  ⟨fun x y => ⟨h.1.cl.2.2.1 x y, cl_hi (T0_hi bs) P x y⟩, fun i hi => h.at_ (by have := h.2.1; omega)⟩

set_option maxRecDepth 100000 in
set_option maxHeartbeats 2000000 in
theorem iWindowOf_any (p : Int) (A : Option Addr) (n c : Nat) (bs : List Bd) (now : Int) (D : Option Addr) (m d : Nat) (ds : List Int) (i : Int) (w : World) (h : BndsAt w A n bs) (g : IntsAt w D m ds) (hm : m ≤ 1048576) :
    Calls Try.prog 24 #[.agg #[.int .i64 p, .slice A n c], .agg #[.int .i64 now, .slice D m d], .int .i64 i] w (WinV w p bs now ds i) := by
  have HL := Lib.hid g.len
  have hB0 : Below w.heap.size w ((w.alloc (.cells #[.int .i64 p, .slice A n c] 25)).alloc (.cells #[.int .i64 now, .slice D m d] 28)) := ((Below.refl w.heap.size w).alloc (Nat.le_refl _) _).alloc (by simp) _
  have HH := Lib.hid (h.below hB0)
  have HG := Lib.hid (g.below hB0)
  clear h g
  go_enter Try.func24, Try.ntmps24
  go_wp2_with (fail)
  refine kB (iStateOk_any p A n c bs now D m d ds _ HH.out HG.out) ?_ ?_
  · intro w1 hf hb1
    have hB1 : Below w.heap.size w w1 := hB0.trans (hb1.mono hB0.size)
    have e0 : w1.cell? ⟨w.heap.size, 0, none⟩ = some (.int .i64 p) := keep hb1 (by simp [go_sem])
    have e1 : w1.cell? ⟨w.heap.size, 1, none⟩ = some (.slice A n c) := keep hb1 (by simp [go_sem])
    have s0 : w1.cell? ⟨w.heap.size + 1, 0, none⟩ = some (.int .i64 now) := keep hb1 (by simp [go_sem])
    have s1 : w1.cell? ⟨w.heap.size + 1, 1, none⟩ = some (.slice D m d) := keep hb1 (by simp [go_sem])
    have HG1 := Lib.hid (HG.out.below hb1)
    have HH1 := Lib.hid (HH.out.below hb1)
    have HB1 := Lib.hid hB1
    clear hb1 hB1
    go_wp2_with (fail)
    refine kB (open_at_any now D m d ds i _ HG1.out hm) ?_ ?_
    · intro w2 ho hb2
      have HWN := Lib.hid (show WinOk p bs now ds i from ⟨hf.out, ho.out⟩)
      obtain ⟨P, j, rfl, rfl, hjP, hP6, hl⟩ := HWN.out.nat
      obtain rfl : m = P := by have := HL.out; omega
      have e0 := keep hb2 e0
      have e1 := keep hb2 e1
      have s0 := keep hb2 s0
      have s1 := keep hb2 s1
      have HG2 := Lib.hid (HG1.out.below hb2)
      have HH2 := Lib.hid (HH1.out.below hb2)
      have HB2 := Lib.hid (HB1.out.trans (hb2.mono HB1.out.size))
      clear hb2 hl
      go_wp2_with (fail)
      refine kClosedP (closed_any (m : Int) A n c bs _ HH2.out) ?_ ?_
      · intro A2 c2 w3 hfp htab hb3
        have s0 := keep hb3 s0
        have s1 := keep hb3 s1
        have HG3 := Lib.hid (HG2.out.below hb3)
        have HB3 := Lib.hid (HB2.out.trans (hb3.mono HB2.out.size))
        have HT3 := Lib.hid (show TabAt w3 A2 m (cl (T0 bs) m) from htab)
        clear hb3 htab e0 e1
        go_wp2_with (fail)
        refine kBV (iWindow_any m j A2 c2 (cl (T0 bs) m) now D d ds _ HT3.out HG3.out hjP hP6 hf.out.bds.1 hf.out.bds.2) ?_
        intro w4 hb4
        go_wp2
        go_ret3
        exact ⟨HB3.out.trans (hb4.mono HB3.out.size), .inl ⟨HWN.out, rfl⟩⟩
      · intro w3 hfp hb3
        exact absurd hf.out.1 hfp.out
    · intro w2 ho hb2
      go_wp2
      go_ret3
      exact ⟨HB1.out.trans (hb2.mono HB1.out.size), .inr ⟨fun hh => ho.out hh.2, rfl⟩⟩
  · intro w1 hf hb1
    go_wp2
    go_ret3
    exact ⟨hB0.trans (hb1.mono hB0.size), .inr ⟨fun hh => hf.out hh.1, rfl⟩⟩

set_option maxRecDepth 100000 in
set_option maxHeartbeats 2000000 in
theorem sWindowOf_any (p : Int) (A : Option Addr) (n c : Nat) (bs : List Bd) (now : Int) (D : Option Addr) (m d : Nat) (ds : List Int) (i : Int) (w : World) (h : BndsAt w A n bs) (g : IntsAt w D m ds) (hn : n ≤ 1048576) :
    Calls Try.prog 25 #[.agg #[.int .i64 p, .slice A n c], .agg #[.int .i64 now, .slice D m d], .int .i64 i] w (WinV w p bs now ds i) := by
  have HL := Lib.hid g.len
  have hB0 : Below w.heap.size w ((w.alloc (.cells #[.int .i64 p, .slice A n c] 25)).alloc (.cells #[.int .i64 now, .slice D m d] 28)) := ((Below.refl w.heap.size w).alloc (Nat.le_refl _) _).alloc (by simp) _
  have HH := Lib.hid (h.below hB0)
  have HG := Lib.hid (g.below hB0)
  clear h g
  go_enter Try.func25, Try.ntmps25
  go_wp2_with (fail)
  refine kB (sStateOk_any p A n c bs now D m d ds _ HH.out HG.out hn) ?_ ?_
  · intro w1 hf hb1
    obtain ⟨P, rfl, hP1, hP6⟩ := hf.out.1.1.nat
    have hmp : m = P := by have h1 := hf.out.2.1; have h2 := HL.out; omega
    subst hmp
    have hB1 : Below w.heap.size w w1 := hB0.trans (hb1.mono hB0.size)
    have e0 : w1.cell? ⟨w.heap.size, 0, none⟩ = some (.int .i64 (m : Int)) := keep hb1 (by simp [go_sem])
    have e1 : w1.cell? ⟨w.heap.size, 1, none⟩ = some (.slice A n c) := keep hb1 (by simp [go_sem])
    have s0 : w1.cell? ⟨w.heap.size + 1, 0, none⟩ = some (.int .i64 now) := keep hb1 (by simp [go_sem])
    have s1 : w1.cell? ⟨w.heap.size + 1, 1, none⟩ = some (.slice D m d) := keep hb1 (by simp [go_sem])
    have HG1 := Lib.hid (HG.out.below hb1)
    have HH1 := Lib.hid (HH.out.below hb1)
    have HB1 := Lib.hid hB1
    clear hb1 hB1
    by_cases hin : InR i 0 ((m : Int) - 1)
    · have hl1 : ∀ W, Calls Try.prog 46 #[.int .i64 i, .int .i64 0, .int .i64 ((m : Int) - 1)] W (Same W (.bool true)) := fun W => by rw [← B_true hin]; exact l1In_any _ _ _ _
      have HIN := Lib.hid hl1
      obtain ⟨hi0, hi1⟩ := hin
      obtain ⟨j, rfl⟩ := Int.eq_ofNat_of_zero_le hi0
      have hjm : j < m := by omega
      have hjI : (j : Int) < (m : Int) := by omega
      obtain ⟨b, off, rfl, hc⟩ := HG1.out.cells (by omega)
      have c0 := hc j hjm
      have HWI := Lib.hid (show WinOk (m : Int) bs now ds (j : Int) ↔ ds.getD j 0 = -1 from ⟨fun hh => hh.2.2, fun hh => ⟨hf.out, ⟨by omega, by rw [HL.out]; omega⟩, hh⟩⟩)
      obtain ⟨x, HX⟩ : ∃ q, Hid (ds.getD j 0 = q) := ⟨_, rfl⟩
      rw [HX.out] at c0 HWI
      clear hc hl1
      by_cases hx : x = -1
      · have HWN := Lib.hid (HWI.out.2 hx)
        subst hx
        go_wp2_with (first | (refine kV (HIN.out _) ?_))
        go_region_held3 (fun w' => w'.cell? ⟨w.heap.size, 0, none⟩ = some (.int .i64 (m : Int)) ∧ w'.cell? ⟨w.heap.size, 1, none⟩ = some (.slice A n c) ∧ w'.cell? ⟨w.heap.size + 1, 0, none⟩ = some (.int .i64 now) ∧ w'.cell? ⟨w.heap.size + 1, 1, none⟩ = some (.slice (some ⟨b, off, none⟩) m d))
          (first | exact ⟨e0, e1, s0, s1⟩ | exact ⟨keep hb2 e0, keep hb2 e1, keep hb2 s0, keep hb2 s1⟩ | exact ⟨keep hb4 (keep hb2 e0), keep hb4 (keep hb2 e1), keep hb4 (keep hb2 s0), keep hb4 (keep hb2 s1)⟩)
          (first
            | (go_at_call 52; refine kNewT (l2Closed_any m A n c bs _ (HH1.out.drewN 1) hP6 hn hf.out.1.1.lo) ?_; intro A2 c2 w2 htab hb2)
            | (go_at_call 57; refine kBV (l6Window_any m j A2 c2 (cl (T0 bs) m) now _ d ds _ htab ((HG1.out.drewN 1).below hb2) hjm hP6 hf.out.bds.1 hf.out.bds.2) ?_; intro w4 hb4))
        have HB2 := Lib.hid (show Below w.heap.size w w2 from HB1.out.trans (show Below w.heap.size w1 w2 from ((Below.refl w1.heap.size w1).drew.trans hb2).mono HB1.out.size))
        go_wp2
        go_ret3
        exact ⟨HB2.out.trans (hb4.mono HB2.out.size), .inl ⟨HWN.out, rfl⟩⟩
      · have HNO := Lib.hid (show ¬ WinOk (m : Int) bs now ds (j : Int) from fun hh => hx (HWI.out.1 hh))
        have hx' : (x != -1) = true := by simpa using hx
        go_wp2_with (first | (refine kV (HIN.out _) ?_))
        go_ret3
        exact ⟨HB1.out, .inr ⟨HNO.out, rfl⟩⟩
    · have hl1 : ∀ W, Calls Try.prog 46 #[.int .i64 i, .int .i64 0, .int .i64 ((m : Int) - 1)] W (Same W (.bool false)) := fun W => by rw [← B_false hin]; exact l1In_any _ _ _ _
      have HIN := Lib.hid hl1
      have HNO := Lib.hid (show ¬ WinOk (m : Int) bs now ds i from fun hh => hin ⟨hh.2.1.1, by have h1 := hh.2.1.2; have h2 := HL.out; omega⟩)
      clear hin hl1
      go_wp2_with (first | (refine kV (HIN.out _) ?_))
      go_ret3
      exact ⟨HB1.out, .inr ⟨HNO.out, rfl⟩⟩
  · intro w1 hf hb1
    go_wp2
    go_ret3
    exact ⟨hB0.trans (hb1.mono hB0.size), .inr ⟨fun hh => hf.out hh.1, rfl⟩⟩

/-- A point that is ready. -/
def RdyOk (p : Int) (bs : List Bd) (now : Int) (ds : List Int) (i : Int) : Prop := WinOk p bs now ds i ∧ ∀ k, k < p.toNat → ds.getD k 0 = -1 → 0 ≤ cl (T0 bs) p.toNat i.toNat k

set_option maxRecDepth 100000 in
set_option maxHeartbeats 2000000 in
theorem sReadyOk_any (p : Int) (A : Option Addr) (n c : Nat) (bs : List Bd) (now : Int) (D : Option Addr) (m d : Nat) (ds : List Int) (i : Int) (w : World) (h : BndsAt w A n bs) (g : IntsAt w D m ds) (hn : n ≤ 1048576) :
    Calls Try.prog 17 #[.agg #[.int .i64 p, .slice A n c], .agg #[.int .i64 now, .slice D m d], .int .i64 i] w (Bl w (.bool (B (RdyOk p bs now ds i)))) := by
  have HL := Lib.hid g.len
  have hB0 : Below w.heap.size w ((w.alloc (.cells #[.int .i64 p, .slice A n c] 25)).alloc (.cells #[.int .i64 now, .slice D m d] 28)) := ((Below.refl w.heap.size w).alloc (Nat.le_refl _) _).alloc (by simp) _
  have HH := Lib.hid (h.below hB0)
  have HG := Lib.hid (g.below hB0)
  clear h g
  go_enter Try.func17, Try.ntmps17
  go_wp2_with (fail)
  refine kWin (sWindowOf_any p A n c bs now D m d ds i _ HH.out HG.out hn) ?_ ?_
  · intro w1 hf hb1
    obtain ⟨P, j, rfl, rfl, hjP, hP6, hl⟩ := hf.out.nat
    obtain rfl : m = P := by have := HL.out; omega
    have hB1 : Below w.heap.size w w1 := hB0.trans (hb1.mono hB0.size)
    have e0 : w1.cell? ⟨w.heap.size, 0, none⟩ = some (.int .i64 (m : Int)) := keep hb1 (by simp [go_sem])
    have e1 : w1.cell? ⟨w.heap.size, 1, none⟩ = some (.slice A n c) := keep hb1 (by simp [go_sem])
    have s0 : w1.cell? ⟨w.heap.size + 1, 0, none⟩ = some (.int .i64 now) := keep hb1 (by simp [go_sem])
    have s1 : w1.cell? ⟨w.heap.size + 1, 1, none⟩ = some (.slice D m d) := keep hb1 (by simp [go_sem])
    have HG1 := Lib.hid (HG.out.below hb1)
    have HH1 := Lib.hid (HH.out.below hb1)
    have HB1 := Lib.hid hB1
    clear hb1 hB1 hl
    go_wp2_with (fail)
    refine kNewT (l2Closed_any m A n c bs _ HH1.out hP6 hn hf.out.1.1.1.lo) ?_
    intro A2 c2 w2 htab hb2
    have s1' := keep hb2 s1
    have HT2 := Lib.hid htab
    have HG2 := Lib.hid (HG1.out.below hb2)
    have HB2 := Lib.hid (HB1.out.trans (hb2.mono HB1.out.size))
    clear htab hb2 e0 e1 s0 s1
    have hjI : (j : Int) < (m : Int) := by omega
    have HR := Lib.hid (show RdyOk (m : Int) bs now ds (j : Int) ↔ ∀ k, k < m → ds.getD k 0 = -1 → 0 ≤ cl (T0 bs) m j k from ⟨fun hh => hh.2, fun hh => ⟨hf.out, hh⟩⟩)
    obtain ⟨T, HTT⟩ : ∃ q, Hid (cl (T0 bs) m = q) := ⟨_, rfl⟩
    rw [HTT.out] at HT2 HR
    go_wp2
    go_loopw [11] (fun i wr => ∃ (k mm : Nat), k ≤ m ∧ i = .int .i64 k ∧ wr = w2.drewN mm ∧ ∀ x, x < k → ds.getD x 0 = -1 → 0 ≤ T j x) (fun i _ => m - (intOf i).toNat)
    case atStart => exact ⟨0, 0, Nat.zero_le _, rfl, rfl, fun x hx => by omega⟩
    case round =>
      obtain ⟨k, mm, hk, rfl, rfl, hu⟩ := hrel
      have HU := Lib.hid hu
      clear hu
      by_cases hkm : k < m
      · obtain ⟨tb, toff, rfl, htc⟩ := HT2.out.cells (by omega)
        obtain ⟨r1, o1, q1, h1, hr1⟩ := htc j hjP
        have d1 := hr1 k hkm
        obtain ⟨b, off, rfl, hc⟩ := HG2.out.cells (by omega)
        have c0 := hc k hkm
        clear htc hr1 hc
        have hkI : (k : Int) < (m : Int) := by omega
        have HN := Lib.hid (fun (h1 : ds.getD k 0 = -1 → 0 ≤ T j k) (x : Nat) (hx : x < k + 1) (hd : ds.getD x 0 = -1) => show 0 ≤ T j x from by
          rcases Nat.lt_or_ge x k with h5 | h5
          · exact HU.out x h5 hd
          · obtain rfl : x = k := by omega
            exact h1 hd)
        have HNO := Lib.hid (fun (h1 : ds.getD k 0 = -1) (h2 : T j k < 0) (hh : RdyOk (m : Int) bs now ds (j : Int)) => show False from by have := HR.out.1 hh k hkm h1; omega)
        obtain ⟨z, HZ⟩ : ∃ q, Hid (ds.getD k 0 = q) := ⟨_, rfl⟩
        obtain ⟨x, HX⟩ : ∃ q, Hid (T j k = q) := ⟨_, rfl⟩
        rw [HZ.out] at c0 HN HNO
        rw [HX.out] at d1 HN HNO
        by_cases hz : z = -1
        · by_cases hx : x < 0
          · have HF := Lib.hid (HNO.out hz hx)
            subst hz
            go_wp2
            try (go_region; go_wp2)
            go_ret
            exact ⟨ret_b (B_false HF.out).symm, by first | exact below_drewN HB2.out _ | exact below_drewN (below_drewN HB2.out _) _⟩
          · have HF := Lib.hid (HN.out (fun _ => by omega))
            subst hz
            go_wp2
            try (go_region; go_wp2)
            go_roundw
            case rel => exact ⟨k + 1, _, by omega, by go_num, by first | rfl | exact dd _ _ _ | trivial, HF.out⟩
            case measure => simp [intOf]; omega
        · have HF := Lib.hid (HN.out (fun e => absurd e hz))
          have hz' : (z == -1) = false := by simpa using hz
          go_wp2
          try (go_region; go_wp2)
          go_roundw
          case rel => exact ⟨k + 1, _, by omega, by go_num, by first | rfl | exact dd _ _ _ | trivial, HF.out⟩
          case measure => simp [intOf]; omega
      · obtain rfl : k = m := by omega
        go_wp2
        go_ret
        exact ⟨ret_b (B_true (HR.out.2 HU.out)).symm, below_drewN HB2.out _⟩
  · intro w1 hf hb1
    go_wp2
    go_ret
    exact ⟨ret_b (B_false (fun hh => hf.out hh.1)).symm, hB0.trans (hb1.mono hB0.size)⟩

set_option maxRecDepth 100000 in
set_option maxHeartbeats 2000000 in
theorem iReady_any (P j : Nat) (A : Option Addr) (c : Nat) (T : Tab) (now : Int) (D : Option Addr) (d : Nat) (ds : List Int) (w : World) (h : TabAt w A P T) (g : IntsAt w D P ds) (hj : j < P) (hP : P ≤ 6) :
    Calls Try.prog 51 #[.agg #[.int .i64 now, .slice D P d], .slice A P c, .int .i64 (j : Int)] w (Bl w (.bool (B (∀ k, k < P → ds.getD k 0 = -1 → 0 ≤ T j k)))) := by
  have HL := Lib.hid g.len
  obtain ⟨w0, HW0⟩ : ∃ q, Hid (w.alloc (.cells #[.int .i64 now, .slice D P d] 28) = q) := ⟨_, rfl⟩
  have hA0 : Below w.heap.size w w0 := HW0.out ▸ (Below.refl w.heap.size w).alloc (Nat.le_refl _) _
  have s0 : w0.cell? ⟨w.heap.size, 0, none⟩ = some (.int .i64 now) := HW0.out ▸ by simp [go_sem]
  have s1 : w0.cell? ⟨w.heap.size, 1, none⟩ = some (.slice D P d) := HW0.out ▸ by simp [go_sem]
  have HB0 := Lib.hid hA0
  have HTB := Lib.hid (h.below hA0)
  have HG := Lib.hid (g.below hA0)
  have HS := Lib.hid (And.intro s0 s1)
  clear hA0 h g
  go_enter Try.func51, Try.ntmps51
  go_wp2_with (fail)
  rw [HW0.out]
  go_loopw [11] (fun i wr => ∃ (k : Nat), k ≤ P ∧ i = .int .i64 k ∧ Below w0.heap.size w0 wr ∧ ∀ x, x < k → ds.getD x 0 = -1 → 0 ≤ T j x) (fun i _ => P - (intOf i).toNat)
  case atStart => exact ⟨0, Nat.zero_le _, rfl, Below.refl _ _, fun x hx => by omega⟩
  case round =>
    obtain ⟨wo, rfl⟩ : ∃ wo : World, wo = wr := ⟨_, rfl⟩
    obtain ⟨k, hk, rfl, hb, hu⟩ := hrel
    have HU := Lib.hid hu
    have HB := Lib.hid hb
    have s0 := keep hb HS.out.1
    have s1 := keep hb HS.out.2
    clear hu hb
    by_cases hkP : k < P
    · have hN : (ds.getD k 0 = -1 → 0 ≤ T j k) → ∀ x, x < k + 1 → ds.getD x 0 = -1 → 0 ≤ T j x := fun h1 x hx hd => by
        rcases Nat.lt_or_ge x k with h5 | h5
        · exact HU.out x h5 hd
        · obtain rfl : x = k := by omega
          exact h1 hd
      have HN := Lib.hid hN
      have hO : OpenAt ds (k : Int) ↔ ds.getD k 0 = -1 := ⟨fun hh => hh.2, fun hh => ⟨⟨by omega, by rw [HL.out]; omega⟩, hh⟩⟩
      have HO := Lib.hid hO
      clear hN hO
      have hkI : (k : Int) < (P : Int) := by omega
      have hjI : (j : Int) < (P : Int) := by omega
      go_wp2_with (fail)
      refine kB (open_at_any now D P d ds (k : Int) _ (HG.out.below HB.out) (by omega)) ?_ ?_
      · intro w1 ho hb1
        have HB1 := Lib.hid (HB.out.trans (hb1.mono HB.out.size))
        obtain ⟨tb, toff, rfl, htc⟩ := (HTB.out.below HB1.out).cells (by omega)
        obtain ⟨r1, o1, q1, h1, hr1⟩ := htc j hj
        have d1 := hr1 k hkP
        have HT := Lib.hid (show ∀ hneg : T j k < 0, ¬ ∀ k, k < P → ds.getD k 0 = -1 → 0 ≤ T j k from fun hneg hh => by have := hh k hkP (HO.out.1 ho.out); omega)
        have HN1 := Lib.hid (fun h => HN.out (fun _ => h))
        clear htc hr1 hb1
        obtain ⟨x, HX⟩ : ∃ q, Hid (T j k = q) := ⟨_, rfl⟩
        rw [HX.out] at d1 HT HN1
        by_cases hx : x < 0
        · have HF := Lib.hid (HT.out hx)
          go_wp2
          go_ret
          exact ⟨ret_b (B_false HF.out).symm, HB0.out.trans (HB1.out.mono HB0.out.size)⟩
        · have HF := Lib.hid (HN1.out (by omega))
          go_wp2
          go_roundw
          case rel => exact ⟨k + 1, by omega, by go_num, HB1.out, HF.out⟩
          case measure => simp [intOf]; omega
      · intro w1 ho hb1
        have HB1 := Lib.hid (HB.out.trans (hb1.mono HB.out.size))
        have HF := Lib.hid (HN.out (fun e => absurd (HO.out.2 e) ho.out))
        clear hb1
        go_wp2
        go_roundw
        case rel => exact ⟨k + 1, by omega, by go_num, HB1.out, HF.out⟩
        case measure => simp [intOf]; omega
    · obtain rfl : k = P := by omega
      go_wp2
      go_ret
      exact ⟨ret_b (B_true HU.out).symm, HB0.out.trans (HB.out.mono HB0.out.size)⟩

set_option maxRecDepth 100000 in
set_option maxHeartbeats 2000000 in
theorem iReadyOk_any (p : Int) (A : Option Addr) (n c : Nat) (bs : List Bd) (now : Int) (D : Option Addr) (m d : Nat) (ds : List Int) (i : Int) (w : World) (h : BndsAt w A n bs) (g : IntsAt w D m ds) (hm : m ≤ 1048576) :
    Calls Try.prog 16 #[.agg #[.int .i64 p, .slice A n c], .agg #[.int .i64 now, .slice D m d], .int .i64 i] w (Bl w (.bool (B (RdyOk p bs now ds i)))) := by
  have HL := Lib.hid g.len
  have hB0 : Below w.heap.size w ((w.alloc (.cells #[.int .i64 p, .slice A n c] 25)).alloc (.cells #[.int .i64 now, .slice D m d] 28)) := ((Below.refl w.heap.size w).alloc (Nat.le_refl _) _).alloc (by simp) _
  have HH := Lib.hid (h.below hB0)
  have HG := Lib.hid (g.below hB0)
  clear h g
  go_enter Try.func16, Try.ntmps16
  go_wp2_with (fail)
  refine kB (iStateOk_any p A n c bs now D m d ds _ HH.out HG.out) ?_ ?_
  · intro w1 hf hb1
    have hB1 : Below w.heap.size w w1 := hB0.trans (hb1.mono hB0.size)
    have e0 : w1.cell? ⟨w.heap.size, 0, none⟩ = some (.int .i64 p) := keep hb1 (by simp [go_sem])
    have e1 : w1.cell? ⟨w.heap.size, 1, none⟩ = some (.slice A n c) := keep hb1 (by simp [go_sem])
    have s0 : w1.cell? ⟨w.heap.size + 1, 0, none⟩ = some (.int .i64 now) := keep hb1 (by simp [go_sem])
    have s1 : w1.cell? ⟨w.heap.size + 1, 1, none⟩ = some (.slice D m d) := keep hb1 (by simp [go_sem])
    have HG1 := Lib.hid (HG.out.below hb1)
    have HH1 := Lib.hid (HH.out.below hb1)
    have HB1 := Lib.hid hB1
    clear hb1 hB1
    go_wp2_with (fail)
    refine kB (open_at_any now D m d ds i _ HG1.out hm) ?_ ?_
    · intro w2 ho hb2
      have HWN := Lib.hid (show WinOk p bs now ds i from ⟨hf.out, ho.out⟩)
      obtain ⟨P, j, rfl, rfl, hjP, hP6, hl⟩ := HWN.out.nat
      obtain rfl : m = P := by have := HL.out; omega
      have e0 := keep hb2 e0
      have e1 := keep hb2 e1
      have s0 := keep hb2 s0
      have s1 := keep hb2 s1
      have HG2 := Lib.hid (HG1.out.below hb2)
      have HH2 := Lib.hid (HH1.out.below hb2)
      have HB2 := Lib.hid (HB1.out.trans (hb2.mono HB1.out.size))
      clear hb2 hl
      go_wp2_with (fail)
      refine kClosedP (closed_any (m : Int) A n c bs _ HH2.out) ?_ ?_
      · intro A2 c2 w3 hfp htab hb3
        have s0 := keep hb3 s0
        have s1 := keep hb3 s1
        have HG3 := Lib.hid (HG2.out.below hb3)
        have HB3 := Lib.hid (HB2.out.trans (hb3.mono HB2.out.size))
        have HT3 := Lib.hid (show TabAt w3 A2 m (cl (T0 bs) m) from htab)
        clear hb3 htab e0 e1
        go_wp2_with (fail)
        refine kBV (iReady_any m j A2 c2 (cl (T0 bs) m) now D d ds _ HT3.out HG3.out hjP hP6) ?_
        intro w4 hb4
        go_wp2
        go_ret
        exact ⟨ret_b (B_congr ⟨fun hh => ⟨HWN.out, hh⟩, fun hh => hh.2⟩), HB3.out.trans (hb4.mono HB3.out.size)⟩
      · intro w3 hfp hb3
        exact absurd hf.out.1 hfp.out
    · intro w2 ho hb2
      go_wp2
      go_ret
      exact ⟨ret_b (B_false (fun hh => ho.out hh.1.2)).symm, HB1.out.trans (hb2.mono HB1.out.size)⟩
  · intro w1 hf hb1
    go_wp2
    go_ret
    exact ⟨ret_b (B_false (fun hh => hf.out hh.1.1)).symm, hB0.trans (hb1.mono hB0.size)⟩

set_option maxRecDepth 100000 in
set_option maxHeartbeats 2000000 in
theorem iDeadlineOf_any (p : Int) (A : Option Addr) (n c : Nat) (bs : List Bd) (now : Int) (D : Option Addr) (m d : Nat) (ds : List Int) (w : World) (h : BndsAt w A n bs) (g : IntsAt w D m ds) :
    Calls Try.prog 28 #[.agg #[.int .i64 p, .slice A n c], .agg #[.int .i64 now, .slice D m d]] w (Bl w (.int .i64 (Dl p bs now ds))) := by
  have HL := Lib.hid g.len
  have hB0 : Below w.heap.size w ((w.alloc (.cells #[.int .i64 p, .slice A n c] 25)).alloc (.cells #[.int .i64 now, .slice D m d] 28)) := ((Below.refl w.heap.size w).alloc (Nat.le_refl _) _).alloc (by simp) _
  have HH := Lib.hid (h.below hB0)
  have HG := Lib.hid (g.below hB0)
  clear h g
  go_enter Try.func28, Try.ntmps28
  go_wp2_with (fail)
  refine kB (iStateOk_any p A n c bs now D m d ds _ HH.out HG.out) ?_ ?_
  · intro w1 hf hb1
    obtain ⟨P, rfl, hP1, hP6⟩ := hf.out.1.1.nat
    have hmp : m = P := by have h1 := hf.out.2.1; have h2 := HL.out; omega
    subst hmp
    have hB1 : Below w.heap.size w w1 := hB0.trans (hb1.mono hB0.size)
    have e0 : w1.cell? ⟨w.heap.size, 0, none⟩ = some (.int .i64 (m : Int)) := keep hb1 (by simp [go_sem])
    have e1 : w1.cell? ⟨w.heap.size, 1, none⟩ = some (.slice A n c) := keep hb1 (by simp [go_sem])
    have s0 : w1.cell? ⟨w.heap.size + 1, 0, none⟩ = some (.int .i64 now) := keep hb1 (by simp [go_sem])
    have s1 : w1.cell? ⟨w.heap.size + 1, 1, none⟩ = some (.slice D m d) := keep hb1 (by simp [go_sem])
    have HG1 := Lib.hid (HG.out.below hb1)
    have HH1 := Lib.hid (HH.out.below hb1)
    have HB1 := Lib.hid hB1
    clear hb1 hB1
    go_wp2_with (fail)
    refine kClosedP (closed_any (m : Int) A n c bs _ HH1.out) ?_ ?_
    · intro A2 c2 w2 hfp htab hb2
      have HS := Lib.hid (And.intro (keep hb2 s0) (keep hb2 s1))
      have HT2 := Lib.hid (show TabAt w2 A2 m (cl (T0 bs) m) from htab)
      have HG2 := Lib.hid (HG1.out.below hb2)
      have HB2 := Lib.hid (HB1.out.trans (hb2.mono HB1.out.size))
      clear htab hb2 e0 e1 s0 s1
      have HTB := Lib.hid (hf.out.bds.1)
      have HDB := Lib.hid (hf.out.bds.2)
      have HDL := Lib.hid (show Dl (m : Int) bs now ds = dlW (cl (T0 bs) m) ds m m by unfold Dl; rw [B_true hf.out]; rfl)
      obtain ⟨T, HTT⟩ : ∃ q, Hid (cl (T0 bs) m = q) := ⟨_, rfl⟩
      rw [HTT.out] at HT2 HTB
      have s1 := HS.out.2
      go_wp2
      go_loopw [7, 23] (fun v i wr => ∃ (k : Nat), k ≤ m ∧ i = .int .i64 k ∧ v = .int .i64 (dlW T ds m k) ∧ Below w2.heap.size w2 wr) (fun _ i _ => m - (intOf i).toNat)
      case atStart => exact ⟨0, Nat.zero_le _, rfl, rfl, Below.refl _ _⟩
      case round =>
        obtain ⟨wo, rfl⟩ : ∃ wo : World, wo = wr := ⟨_, rfl⟩
        obtain ⟨k, hk, rfl, rfl, hb⟩ := hrel
        have HB := Lib.hid hb
        have s0' := keep hb HS.out.1
        have s1' := keep hb HS.out.2
        clear hb s1
        by_cases hkm : k < m
        · have hdl : dlW T ds m (k + 1) = if ds.getD k 0 = -1 then min (dlW T ds m k) (hiW T ds k m) else dlW T ds m k := rfl
          have HO := Lib.hid (show OpenAt ds (k : Int) ↔ ds.getD k 0 = -1 from ⟨fun hh => hh.2, fun hh => ⟨⟨by omega, by rw [HL.out]; omega⟩, hh⟩⟩)
          have HDE := Lib.hid hdl
          clear hdl
          have hkI : (k : Int) < (m : Int) := by omega
          obtain ⟨v, HV⟩ : ∃ q, Hid (dlW T ds m k = q) := ⟨_, rfl⟩
          rw [HV.out]
          go_wp2_with (fail)
          refine kB (open_at_any now D m d ds (k : Int) _ (HG2.out.below HB.out) (by omega)) ?_ ?_
          · intro w3 ho hb3
            have HB3 := Lib.hid (HB.out.trans (hb3.mono HB.out.size))
            have t0 := keep hb3 s0'
            have t1 := keep hb3 s1'
            clear hb3
            go_wp2_with (fail)
            refine kBV (iWindow_any m k A2 c2 T now D d ds _ (HT2.out.below HB3.out) (HG2.out.below HB3.out) hkm hP6 HTB.out HDB.out) ?_
            intro w4 hb4
            have HB4 := Lib.hid (HB3.out.trans (hb4.mono HB3.out.size))
            clear hb4
            go_wp2
            go_roundw
            case rel => exact ⟨k + 1, by omega, by go_num, by rw [HDE.out, if_pos (HO.out.1 ho.out), HV.out], HB4.out⟩
            case measure => simp [intOf]; omega
          · intro w3 ho hb3
            have HB3 := Lib.hid (HB.out.trans (hb3.mono HB.out.size))
            clear hb3
            go_wp2
            go_roundw
            case rel => exact ⟨k + 1, by omega, by go_num, by rw [HDE.out, if_neg (fun e => ho.out (HO.out.2 e)), HV.out], HB3.out⟩
            case measure => simp [intOf]; omega
        · obtain rfl : k = m := by omega
          go_wp2
          go_ret
          exact ⟨ret_i (by rw [HDL.out, HTT.out]), HB2.out.trans (HB.out.mono HB2.out.size)⟩
    · intro w2 hfp hb2
      exact absurd hf.out.1 hfp.out
  · intro w1 hf hb1
    go_wp2
    go_ret
    exact ⟨ret_i (by unfold Dl; rw [B_false hf.out]; rfl), hB0.trans (hb1.mono hB0.size)⟩

/-- What follows of two points. -/
def MoOk (p : Int) (bs : List Bd) (a b : Int) : Prop := FitsP p bs ∧ HasPt p a ∧ HasPt p b ∧ cl (T0 bs) p.toNat a.toNat b.toNat ≠ 100000
def MoV (w : World) (p : Int) (bs : List Bd) (a b : Int) (e : Ending) (w' : World) : Prop :=
  Below w.heap.size w w' ∧ ((MoOk p bs a b ∧ e = .returned (.tuple #[.int .i64 (cl (T0 bs) p.toNat a.toNat b.toNat), .bool true])) ∨ (¬ MoOk p bs a b ∧ e = .returned (.tuple #[.int .i64 0, .bool false])))
theorem kMost {Pr : Program} {f : FuncId} {args : Array Value} {w : World} {K : Ending → World → Prop} {p : Int} {bs : List Bd} {a b : Int} (h : Calls Pr f args w (MoV w p bs a b))
    (h1 : ∀ w', Hid (MoOk p bs a b) → Below w.heap.size w w' → K (.returned (.tuple #[.int .i64 (cl (T0 bs) p.toNat a.toNat b.toNat), .bool true])) w')
    (h0 : ∀ w', Hid (¬ MoOk p bs a b) → Below w.heap.size w w' → K (.returned (.tuple #[.int .i64 0, .bool false])) w') : Calls Pr f args w K :=
  h.mono fun e w' ⟨hb, h⟩ => by
    rcases h with ⟨hf, he⟩ | ⟨hf, he⟩
    · subst he; exact h1 w' hf hb
    · subst he; exact h0 w' hf hb
set_option maxRecDepth 100000 in
set_option maxHeartbeats 2000000 in
theorem iMostOf_any (p : Int) (A : Option Addr) (n c : Nat) (bs : List Bd) (a b : Int) (w : World) (h : BndsAt w A n bs) :
    Calls Try.prog 18 #[.agg #[.int .i64 p, .slice A n c], .int .i64 a, .int .i64 b] w (MoV w p bs a b) := by
  have hB0 : Below w.heap.size w (w.alloc (.cells #[.int .i64 p, .slice A n c] 25)) := (Below.refl w.heap.size w).alloc (Nat.le_refl _) _
  have HH := Lib.hid (h.below hB0)
  clear h
  go_enter Try.func18, Try.ntmps18
  go_wp2_with (fail)
  refine kClosedP (closed_any p A n c bs _ HH.out) ?_ ?_
  · intro A2 c2 w1 hfp htab hb1
    have e0 : w1.cell? ⟨w.heap.size, 0, none⟩ = some (.int .i64 p) := keep hb1 (by simp [go_sem])
    have e1 : w1.cell? ⟨w.heap.size, 1, none⟩ = some (.slice A n c) := keep hb1 (by simp [go_sem])
    have HB1 := Lib.hid (hB0.trans (hb1.mono hB0.size))
    have HT1 := Lib.hid htab
    clear htab hb1
    go_wp2_with (fail)
    refine kB (has_any p _ a _) ?_ ?_
    · intro w2 ha hb2
      have e0 := keep hb2 e0
      have e1 := keep hb2 e1
      have HB2 := Lib.hid (HB1.out.trans (hb2.mono HB1.out.size))
      have HT2 := Lib.hid (HT1.out.below hb2)
      clear hb2
      go_wp2_with (fail)
      refine kB (has_any p _ b _) ?_ ?_
      · intro w3 hb hb3
        have HB3 := Lib.hid (HB2.out.trans (hb3.mono HB2.out.size))
        have HT3 := Lib.hid (HT2.out.below hb3)
        clear hb3
        obtain ⟨P, rfl, hP1, hP6⟩ := hfp.out.1.nat
        obtain ⟨ha0, ha1⟩ := (hasPtI hfp.out.1.1).1 ha.out
        obtain ⟨hb0, hb1⟩ := (hasPtI hfp.out.1.1).1 hb.out
        obtain ⟨a, rfl⟩ := Int.eq_ofNat_of_zero_le ha0
        obtain ⟨b, rfl⟩ := Int.eq_ofNat_of_zero_le hb0
        obtain ⟨tb, toff, rfl, htc⟩ := HT3.out.cells (show 0 < P by omega)
        obtain ⟨r1, o1, q1, h1, hr1⟩ := htc a (show a < P by omega)
        have d1 := hr1 b (show b < P by omega)
        clear htc hr1
        have HMO := Lib.hid (show MoOk (P : Int) bs (a : Int) (b : Int) ↔ cl (T0 bs) P a b ≠ 100000 from ⟨fun hh => hh.2.2.2, fun hh => ⟨hfp.out, ha.out, hb.out, hh⟩⟩)
        have HRS := Lib.hid (show cl (T0 bs) (P : Int).toNat (a : Int).toNat (b : Int).toNat = cl (T0 bs) P a b from rfl)
        have d1' : w3.cell? ⟨r1, o1 + b, none⟩ = some (.int .i64 (cl (T0 bs) P a b)) := d1
        clear d1
        obtain ⟨x, HX⟩ : ∃ q, Hid (cl (T0 bs) P a b = q) := ⟨_, rfl⟩
        rw [HX.out] at d1' HMO HRS
        by_cases hx : x = 100000
        · have hxb : (x == 100000) = true := by simpa using hx
          have HNO := Lib.hid (show ¬ MoOk (P : Int) bs (a : Int) (b : Int) from fun hh => HMO.out.1 hh hx)
          clear hx
          go_wp2
          go_ret2
          exact ⟨HB3.out, .inr ⟨HNO.out, rfl⟩⟩
        · have hxb : (x == 100000) = false := by simpa using hx
          have HYE := Lib.hid (HMO.out.2 hx)
          clear hx
          go_wp2
          try (go_region; go_wp2)
          go_ret2
          exact ⟨by first | exact HB3.out | exact below_drewN HB3.out _, .inl ⟨HYE.out, HRS.out ▸ rfl⟩⟩
      · intro w3 hb hb3
        go_wp2
        go_ret2
        exact ⟨HB2.out.trans (hb3.mono HB2.out.size), .inr ⟨fun hh => hb.out hh.2.2.1, rfl⟩⟩
    · intro w2 ha hb2
      go_wp2
      go_ret2
      exact ⟨HB1.out.trans (hb2.mono HB1.out.size), .inr ⟨fun hh => ha.out hh.2.1, rfl⟩⟩
  · intro w1 hfp hb1
    go_wp2
    go_ret2
    exact ⟨hB0.trans (hb1.mono hB0.size), .inr ⟨fun hh => hfp.out hh.1, rfl⟩⟩

end Go.Proofs.Ytikapnphnkoelaa
