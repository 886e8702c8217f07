/- Windows, ready points, deadlines: impl's window, ready, WindowOf, ReadyOk, DeadlineOf; spec's WindowOf, ReadyOk. -/
import Derived.Test.YtpefimeogbpagaaW1
namespace Go.Proofs.Ytpefimeogbpagaa
open Go.RowKit


/-- A point of a state that is not done. -/
def WinOk (p : Int) (bs : List Bd) (now : Int) (ds : List Int) (i : Int) : Prop := StOk p bs now ds ∧ OpenAt ds i
/-- What WindowOf leaves. -/
def WinV (w : World) (p : Int) (bs : List Bd) (now : Int) (ds : List Int) (i : Int) (e : Ending) (w' : World) : Prop :=
  Below w.heap.size w w' ∧ ((WinOk p bs now ds i ∧ e = .returned (.tuple #[.int .i64 (loW (cl (T0 bs) p.toNat) now ds i.toNat p.toNat), .int .i64 (hiW (cl (T0 bs) p.toNat) ds i.toNat p.toNat), .bool true])) ∨ (¬ WinOk p bs now ds i ∧ e = .returned (.tuple #[.int .i64 0, .int .i64 0, .bool false])))
theorem kWin {Pr : Program} {f : FuncId} {args : Array Value} {w : World} {K : Ending → World → Prop} {p : Int} {bs : List Bd} {now : Int} {ds : List Int} {i : Int} (h : Calls Pr f args w (WinV w p bs now ds i))
    (h1 : ∀ w', Hid (WinOk p bs now ds i) → Below w.heap.size w w' → K (.returned (.tuple #[.int .i64 (loW (cl (T0 bs) p.toNat) now ds i.toNat p.toNat), .int .i64 (hiW (cl (T0 bs) p.toNat) ds i.toNat p.toNat), .bool true])) w')
    (h0 : ∀ w', Hid (¬ WinOk p bs now ds i) → Below w.heap.size w w' → K (.returned (.tuple #[.int .i64 0, .int .i64 0, .bool false])) w') : Calls Pr f args w K :=
  h.mono fun e w' ⟨hb, h⟩ => by
    rcases h with ⟨hf, he⟩ | ⟨hf, he⟩
    · subst he; exact h1 w' hf hb
    · subst he; exact h0 w' hf hb
theorem WinOk.nat {p : Int} {bs : List Bd} {now : Int} {ds : List Int} {i : Int} (h : WinOk p bs now ds i) : ∃ P j : Nat, p = (P : Int) ∧ i = (j : Int) ∧ j < P ∧ P ≤ 6 ∧ ds.length = P := by
  obtain ⟨P, rfl, h1, h6⟩ := h.1.1.1.nat
  have h2 := h.1.2.1
  exact ⟨P, i.toNat, rfl, by have := h.2.1.1; omega, by have := h.2.1.1; have := h.2.1.2; omega, h6, by omega⟩
theorem StOk.bds {P : Nat} {bs : List Bd} {now : Int} {ds : List Int} (h : StOk (P : Int) bs now ds) : (∀ x y, -6400 ≤ cl (T0 bs) P x y ∧ cl (T0 bs) P x y ≤ 100000) ∧ (∀ i, i < P → -1 ≤ ds.getD i 0 ∧ ds.getD i 0 ≤ 2000) :=
  ⟨fun x y => ⟨h.1.cl.2.2.1 x y, cl_hi (T0_hi bs) P x y⟩, fun i hi => h.at_ (by have := h.2.1; omega)⟩


set_option maxRecDepth 100000 in
set_option maxHeartbeats 2000000 in
theorem sWindowOf_any (p : Int) (A : Option Addr) (n c : Nat) (bs : List Bd) (now : Int) (D : Option Addr) (m d : Nat) (ds : List Int) (i : Int) (w : World) (h : BndsAt w A n bs) (g : IntsAt w D m ds) (hn : n ≤ 1048576) :
    Calls Try.prog 56 #[.agg #[.int .i64 p, .slice A n c], .agg #[.int .i64 now, .slice D m d], .int .i64 i] w (WinV w p bs now ds i) := by
  have HL := Lib.hid g.len
  have hB0 : Below w.heap.size w ((w.alloc (.cells #[.int .i64 p, .slice A n c] 25)).alloc (.cells #[.int .i64 now, .slice D m d] 31)) := ((Below.refl w.heap.size w).alloc (Nat.le_refl _) _).alloc (by simp) _
  have HH := Lib.hid (h.below hB0)
  have HG := Lib.hid (g.below hB0)
  clear h g
  go_enter Try.func56, Try.ntmps56
  go_wp2_with (fail)
  refine kB (sStateOk_any p A n c bs now D m d ds _ HH.out HG.out hn) ?_ ?_
  · intro w1 hf hb1
    obtain ⟨P, rfl, hP1, hP6⟩ := hf.out.1.1.nat
    have hmp : m = P := by have h1 := hf.out.2.1; have h2 := HL.out; omega
    subst hmp
    have hB1 : Below w.heap.size w w1 := hB0.trans (hb1.mono hB0.size)
    have e0 : w1.cell? ⟨w.heap.size, 0, none⟩ = some (.int .i64 (m : Int)) := keep hb1 (by simp [go_sem])
    have e1 : w1.cell? ⟨w.heap.size, 1, none⟩ = some (.slice A n c) := keep hb1 (by simp [go_sem])
    have s0 : w1.cell? ⟨w.heap.size + 1, 0, none⟩ = some (.int .i64 now) := keep hb1 (by simp [go_sem])
    have s1 : w1.cell? ⟨w.heap.size + 1, 1, none⟩ = some (.slice D m d) := keep hb1 (by simp [go_sem])
    have HG1 := Lib.hid (HG.out.below hb1)
    have HH1 := Lib.hid (HH.out.below hb1)
    have HB1 := Lib.hid hB1
    clear hb1 hB1
    by_cases hin : InR i 0 ((m : Int) - 1)
    · have hl1 : ∀ W, Calls Try.prog 21 #[.int .i64 i, .int .i64 0, .int .i64 ((m : Int) - 1)] W (Same W (.bool true)) := fun W => by rw [← B_true hin]; exact l1In_any _ _ _ _
      have HIN := Lib.hid hl1
      obtain ⟨hi0, hi1⟩ := hin
      obtain ⟨j, rfl⟩ := Int.eq_ofNat_of_zero_le hi0
      have hjm : j < m := by omega
      have hjI : (j : Int) < (m : Int) := by omega
      obtain ⟨b, off, rfl, hc⟩ := HG1.out.cells (by omega)
      have c0 := hc j hjm
      have HWI := Lib.hid (show WinOk (m : Int) bs now ds (j : Int) ↔ ds.getD j 0 = -1 from ⟨fun hh => hh.2.2, fun hh => ⟨hf.out, ⟨by omega, by rw [HL.out]; omega⟩, hh⟩⟩)
      obtain ⟨x, HX⟩ : ∃ q, Hid (ds.getD j 0 = q) := ⟨_, rfl⟩
      rw [HX.out] at c0 HWI
      clear hc hl1
      by_cases hx : x = -1
      · have HWN := Lib.hid (HWI.out.2 hx)
        subst hx
        go_wp2_with (first | (refine kV (HIN.out _) ?_))
        go_region_held3 (fun w' => w'.cell? ⟨w.heap.size, 0, none⟩ = some (.int .i64 (m : Int)) ∧ w'.cell? ⟨w.heap.size, 1, none⟩ = some (.slice A n c) ∧ w'.cell? ⟨w.heap.size + 1, 0, none⟩ = some (.int .i64 now) ∧ w'.cell? ⟨w.heap.size + 1, 1, none⟩ = some (.slice (some ⟨b, off, none⟩) m d))
          (first | exact ⟨e0, e1, s0, s1⟩ | exact ⟨keep hb2 e0, keep hb2 e1, keep hb2 s0, keep hb2 s1⟩ | exact ⟨keep hb4 (keep hb2 e0), keep hb4 (keep hb2 e1), keep hb4 (keep hb2 s0), keep hb4 (keep hb2 s1)⟩)
          (first
            | (go_at_call 46; refine kNewT (l2Closed_any m A n c bs _ (HH1.out.drewN 1) hP6 hn hf.out.1.1.lo) ?_; intro A2 c2 w2 htab hb2)
            | (go_at_call 58; refine kBV (l6Window_any m j A2 c2 (cl (T0 bs) m) now _ d ds _ htab ((HG1.out.drewN 1).below hb2) hjm hP6 hf.out.bds.1 hf.out.bds.2) ?_; intro w4 hb4))
        have HB2 := Lib.hid (show Below w.heap.size w w2 from HB1.out.trans (show Below w.heap.size w1 w2 from ((Below.refl w1.heap.size w1).drew.trans hb2).mono HB1.out.size))
        go_wp2
        go_ret3
        exact ⟨HB2.out.trans (hb4.mono HB2.out.size), .inl ⟨HWN.out, rfl⟩⟩
      · have HNO := Lib.hid (show ¬ WinOk (m : Int) bs now ds (j : Int) from fun hh => hx (HWI.out.1 hh))
        have hx' : (x != -1) = true := by simpa using hx
        go_wp2_with (first | (refine kV (HIN.out _) ?_))
        go_ret3
        exact ⟨HB1.out, .inr ⟨HNO.out, rfl⟩⟩
    · have hl1 : ∀ W, Calls Try.prog 21 #[.int .i64 i, .int .i64 0, .int .i64 ((m : Int) - 1)] W (Same W (.bool false)) := fun W => by rw [← B_false hin]; exact l1In_any _ _ _ _
      have HIN := Lib.hid hl1
      have HNO := Lib.hid (show ¬ WinOk (m : Int) bs now ds i from fun hh => hin ⟨hh.2.1.1, by have h1 := hh.2.1.2; have h2 := HL.out; omega⟩)
      clear hin hl1
      go_wp2_with (first | (refine kV (HIN.out _) ?_))
      go_ret3
      exact ⟨HB1.out, .inr ⟨HNO.out, rfl⟩⟩
  · intro w1 hf hb1
    go_wp2
    go_ret3
    exact ⟨hB0.trans (hb1.mono hB0.size), .inr ⟨fun hh => hf.out hh.1, rfl⟩⟩

/-- A point that is ready. -/
def RdyOk (p : Int) (bs : List Bd) (now : Int) (ds : List Int) (i : Int) : Prop := WinOk p bs now ds i ∧ ∀ k, k < p.toNat → ds.getD k 0 = -1 → 0 ≤ cl (T0 bs) p.toNat i.toNat k

set_option maxRecDepth 100000 in
set_option maxHeartbeats 2000000 in
theorem sReadyOk_any (p : Int) (A : Option Addr) (n c : Nat) (bs : List Bd) (now : Int) (D : Option Addr) (m d : Nat) (ds : List Int) (i : Int) (w : World) (h : BndsAt w A n bs) (g : IntsAt w D m ds) (hn : n ≤ 1048576) :
    Calls Try.prog 57 #[.agg #[.int .i64 p, .slice A n c], .agg #[.int .i64 now, .slice D m d], .int .i64 i] w (Bl w (.bool (B (RdyOk p bs now ds i)))) := by
  have HL := Lib.hid g.len
  have hB0 : Below w.heap.size w ((w.alloc (.cells #[.int .i64 p, .slice A n c] 25)).alloc (.cells #[.int .i64 now, .slice D m d] 31)) := ((Below.refl w.heap.size w).alloc (Nat.le_refl _) _).alloc (by simp) _
  have HH := Lib.hid (h.below hB0)
  have HG := Lib.hid (g.below hB0)
  clear h g
  go_enter Try.func57, Try.ntmps57
  go_wp2_with (fail)
  refine kWin (sWindowOf_any p A n c bs now D m d ds i _ HH.out HG.out hn) ?_ ?_
  · intro w1 hf hb1
    obtain ⟨P, j, rfl, rfl, hjP, hP6, hl⟩ := hf.out.nat
    obtain rfl : m = P := by have := HL.out; omega
    have hB1 : Below w.heap.size w w1 := hB0.trans (hb1.mono hB0.size)
    have e0 : w1.cell? ⟨w.heap.size, 0, none⟩ = some (.int .i64 (m : Int)) := keep hb1 (by simp [go_sem])
    have e1 : w1.cell? ⟨w.heap.size, 1, none⟩ = some (.slice A n c) := keep hb1 (by simp [go_sem])
    have s0 : w1.cell? ⟨w.heap.size + 1, 0, none⟩ = some (.int .i64 now) := keep hb1 (by simp [go_sem])
    have s1 : w1.cell? ⟨w.heap.size + 1, 1, none⟩ = some (.slice D m d) := keep hb1 (by simp [go_sem])
    have HG1 := Lib.hid (HG.out.below hb1)
    have HH1 := Lib.hid (HH.out.below hb1)
    have HB1 := Lib.hid hB1
    clear hb1 hB1 hl
    go_wp2_with (fail)
    refine kNewT (l2Closed_any m A n c bs _ HH1.out hP6 hn hf.out.1.1.1.lo) ?_
    intro A2 c2 w2 htab hb2
    have s1' := keep hb2 s1
    have HT2 := Lib.hid htab
    have HG2 := Lib.hid (HG1.out.below hb2)
    have HB2 := Lib.hid (HB1.out.trans (hb2.mono HB1.out.size))
    clear htab hb2 e0 e1 s0 s1
    have hjI : (j : Int) < (m : Int) := by omega
    have HR := Lib.hid (show RdyOk (m : Int) bs now ds (j : Int) ↔ ∀ k, k < m → ds.getD k 0 = -1 → 0 ≤ cl (T0 bs) m j k from ⟨fun hh => hh.2, fun hh => ⟨hf.out, hh⟩⟩)
    obtain ⟨T, HTT⟩ : ∃ q, Hid (cl (T0 bs) m = q) := ⟨_, rfl⟩
    rw [HTT.out] at HT2 HR
    go_wp2
    go_loopw [11] (fun i wr => ∃ (k mm : Nat), k ≤ m ∧ i = .int .i64 k ∧ wr = w2.drewN mm ∧ ∀ x, x < k → ds.getD x 0 = -1 → 0 ≤ T j x) (fun i _ => m - (intOf i).toNat)
    case atStart => exact ⟨0, 0, Nat.zero_le _, rfl, rfl, fun x hx => by omega⟩
    case round =>
      obtain ⟨k, mm, hk, rfl, rfl, hu⟩ := hrel
      have HU := Lib.hid hu
      clear hu
      by_cases hkm : k < m
      · obtain ⟨tb, toff, rfl, htc⟩ := HT2.out.cells (by omega)
        obtain ⟨r1, o1, q1, h1, hr1⟩ := htc j hjP
        have d1 := hr1 k hkm
        obtain ⟨b, off, rfl, hc⟩ := HG2.out.cells (by omega)
        have c0 := hc k hkm
        clear htc hr1 hc
        have hkI : (k : Int) < (m : Int) := by omega
        have HN := Lib.hid (fun (h1 : ds.getD k 0 = -1 → 0 ≤ T j k) (x : Nat) (hx : x < k + 1) (hd : ds.getD x 0 = -1) => show 0 ≤ T j x from by
          rcases Nat.lt_or_ge x k with h5 | h5
          · exact HU.out x h5 hd
          · obtain rfl : x = k := by omega
            exact h1 hd)
        have HNO := Lib.hid (fun (h1 : ds.getD k 0 = -1) (h2 : T j k < 0) (hh : RdyOk (m : Int) bs now ds (j : Int)) => show False from by have := HR.out.1 hh k hkm h1; omega)
        obtain ⟨z, HZ⟩ : ∃ q, Hid (ds.getD k 0 = q) := ⟨_, rfl⟩
        obtain ⟨x, HX⟩ : ∃ q, Hid (T j k = q) := ⟨_, rfl⟩
        rw [HZ.out] at c0 HN HNO
        rw [HX.out] at d1 HN HNO
        by_cases hz : z = -1
        · by_cases hx : x < 0
          · have HF := Lib.hid (HNO.out hz hx)
            subst hz
            go_wp2
            try (go_region; go_wp2)
            go_ret
            exact ⟨ret_b (B_false HF.out).symm, by first | exact below_drewN HB2.out _ | exact below_drewN (below_drewN HB2.out _) _⟩
          · have HF := Lib.hid (HN.out (fun _ => by omega))
            subst hz
            go_wp2
            try (go_region; go_wp2)
            go_roundw
            case rel => exact ⟨k + 1, _, by omega, by go_num, by first | rfl | exact dd _ _ _ | trivial, HF.out⟩
            case measure => simp [intOf]; omega
        · have HF := Lib.hid (HN.out (fun e => absurd e hz))
          have hz' : (z == -1) = false := by simpa using hz
          go_wp2
          try (go_region; go_wp2)
          go_roundw
          case rel => exact ⟨k + 1, _, by omega, by go_num, by first | rfl | exact dd _ _ _ | trivial, HF.out⟩
          case measure => simp [intOf]; omega
      · obtain rfl : k = m := by omega
        go_wp2
        go_ret
        exact ⟨ret_b (B_true (HR.out.2 HU.out)).symm, below_drewN HB2.out _⟩
  · intro w1 hf hb1
    go_wp2
    go_ret
    exact ⟨ret_b (B_false (fun hh => hf.out hh.1)).symm, hB0.trans (hb1.mono hB0.size)⟩





end Go.Proofs.Ytpefimeogbpagaa
