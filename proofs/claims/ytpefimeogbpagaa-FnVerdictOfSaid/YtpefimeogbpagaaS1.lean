/- States of a plan: both StateOk functions. -/
import Derived.Test.YtpefimeogbpagaaT5
import Derived.BigQuiet
namespace Go.Proofs.Ytpefimeogbpagaa
open Go.RowKit

def StOk (p : Int) (bs : List Bd) (now : Int) (ds : List Int) : Prop := FitsP p bs ∧ (ds.length : Int) = p ∧ InR now 0 2000 ∧ ds.getD 0 0 = 0 ∧ AllIn ds (-1) now
theorem StOk.pos {p : Int} {bs : List Bd} (h : FitsP p bs) : 1 ≤ p ∧ p ≤ 6 := h.1.1

theorem isClock_any (t : Int) (w : World) : Calls Try.prog 26 #[.int .i64 t] w (Same w (.bool (B (InR t 0 2000)))) := by
  go_enter Try.func26, Try.ntmps26
  go_wp2_with (fail)
  refine kS (in_any t 0 2000 _) ?_ ?_ <;> intro h
  · go_wp2
    go_ret
    exact ⟨ret_b (B_true h.out).symm, rfl⟩
  · go_wp2
    go_ret
    exact ⟨ret_b (B_false h.out).symm, rfl⟩

set_option maxHeartbeats 2000000 in
theorem iStateOk_any (p : Int) (A : Option Addr) (n c : Nat) (bs : List Bd) (now : Int) (D : Option Addr) (m d : Nat) (ds : List Int) (w : World) (h : BndsAt w A n bs) (g : IntsAt w D m ds) :
    Calls Try.prog 10 #[.agg #[.int .i64 p, .slice A n c], .agg #[.int .i64 now, .slice D m d]] w (Bl w (.bool (B (StOk p bs now ds)))) := by
  have HL := Lib.hid g.len
  have hB0 : Below w.heap.size w ((w.alloc (.cells #[.int .i64 p, .slice A n c] 25)).alloc (.cells #[.int .i64 now, .slice D m d] 31)) := ((Below.refl w.heap.size w).alloc (Nat.le_refl _) _).alloc (by simp) _
  have HH := Lib.hid (h.below hB0)
  have HG := Lib.hid (g.below hB0)
  clear h g
  go_enter Try.func10, Try.ntmps10
  go_wp2_with (fail)
  refine kB (iFitsOk_any p A n c bs _ HH.out) ?_ ?_
  · intro w1 hf hb1
    obtain ⟨hp1, hp6⟩ := StOk.pos hf.out
    have hB1 : Below w.heap.size w w1 := hB0.trans (hb1.mono hB0.size)
    have e0 : w1.cell? ⟨w.heap.size, 0, none⟩ = some (.int .i64 p) := keep hb1 (by simp [go_sem])
    have s0 : w1.cell? ⟨w.heap.size + 1, 0, none⟩ = some (.int .i64 now) := keep hb1 (by simp [go_sem])
    have s1 : w1.cell? ⟨w.heap.size + 1, 1, none⟩ = some (.slice D m d) := keep hb1 (by simp [go_sem])
    have HG1 := Lib.hid (HG.out.below hb1)
    have HB1 := Lib.hid hB1
    clear hb1 hB1
    by_cases hm : (m : Int) = p
    · subst hm
      obtain ⟨b, off, rfl, hc⟩ := HG1.out.cells (by omega)
      have c0 := hc 0 (by omega)
      rw [Nat.add_zero] at c0
      clear hc
      obtain ⟨z, HZ⟩ : ∃ q, Hid (ds.getD 0 0 = q) := ⟨_, rfl⟩
      rw [HZ.out] at c0
      go_wp2_with (fail)
      refine kS (isClock_any now _) ?_ ?_
      · intro hin
        by_cases hz : z = 0
        · have HE := Lib.hid hz
          subst hz
          go_wp2_with (fail)
          refine kB (allIn_any (some ⟨b, off, none⟩) m d ds (-1) now _ HG1.out (by omega)) ?_ ?_
          · intro w2 ha hb2
            go_wp2
            go_ret
            exact ⟨ret_b (B_true ⟨hf.out, by rw [HL.out], hin.out, by rw [HZ.out], ha.out⟩).symm, HB1.out.trans (hb2.mono HB1.out.size)⟩
          · intro w2 ha hb2
            go_wp2
            go_ret
            exact ⟨ret_b (B_false (fun hh => ha.out hh.2.2.2.2)).symm, HB1.out.trans (hb2.mono HB1.out.size)⟩
        · go_wp2
          go_ret
          exact ⟨ret_b (B_false (fun hh => hz (by rw [← HZ.out]; exact hh.2.2.2.1))).symm, HB1.out⟩
      · intro hin
        go_wp2
        go_ret
        exact ⟨ret_b (B_false (fun hh => hin.out hh.2.2.1)).symm, HB1.out⟩
    · have hm' : ((m : Int) != p) = true := by simpa using hm
      go_wp2
      go_ret
      exact ⟨ret_b (B_false (fun hh => hm (by rw [← hh.2.1, HL.out]))).symm, HB1.out⟩
  · intro w1 hf hb1
    go_wp2
    go_ret
    exact ⟨ret_b (B_false (fun hh => hf.out hh.1)).symm, hB0.trans (hb1.mono hB0.size)⟩

set_option maxRecDepth 100000 in
set_option maxHeartbeats 2000000 in
theorem sStateOk_any (p : Int) (A : Option Addr) (n c : Nat) (bs : List Bd) (now : Int) (D : Option Addr) (m d : Nat) (ds : List Int) (w : World) (h : BndsAt w A n bs) (g : IntsAt w D m ds) (hn : n ≤ 1048576) :
    Calls Try.prog 44 #[.agg #[.int .i64 p, .slice A n c], .agg #[.int .i64 now, .slice D m d]] w (Bl w (.bool (B (StOk p bs now ds)))) := by
  have HL := Lib.hid g.len
  have hB0 : Below w.heap.size w ((w.alloc (.cells #[.int .i64 p, .slice A n c] 25)).alloc (.cells #[.int .i64 now, .slice D m d] 31)) := ((Below.refl w.heap.size w).alloc (Nat.le_refl _) _).alloc (by simp) _
  have HH := Lib.hid (h.below hB0)
  have HG := Lib.hid (g.below hB0)
  clear h g
  go_enter Try.func44, Try.ntmps44
  go_wp2_with (fail)
  refine kB (sFitsOk_any p A n c bs _ HH.out hn) ?_ ?_
  · intro w1 hf hb1
    obtain ⟨hp1, hp6⟩ := StOk.pos hf.out
    have hB1 : Below w.heap.size w w1 := hB0.trans (hb1.mono hB0.size)
    have e0 : w1.cell? ⟨w.heap.size, 0, none⟩ = some (.int .i64 p) := keep hb1 (by simp [go_sem])
    have s0 : w1.cell? ⟨w.heap.size + 1, 0, none⟩ = some (.int .i64 now) := keep hb1 (by simp [go_sem])
    have s1 : w1.cell? ⟨w.heap.size + 1, 1, none⟩ = some (.slice D m d) := keep hb1 (by simp [go_sem])
    have HG1 := Lib.hid (HG.out.below hb1)
    have HB1 := Lib.hid hB1
    clear hb1 hB1
    by_cases hm : (m : Int) = p
    · subst hm
      obtain ⟨b, off, rfl, hc⟩ := HG1.out.cells (by omega)
      have c0 := hc 0 (by omega)
      rw [Nat.add_zero] at c0
      have HC := Lib.hid hc
      clear hc
      obtain ⟨z, HZ⟩ : ∃ q, Hid (ds.getD 0 0 = q) := ⟨_, rfl⟩
      rw [HZ.out] at c0
      go_wp2_with (fail)
      refine kS (l1In_any now 0 2000 _) ?_ ?_
      · intro hin
        by_cases hz : z = 0
        · have HE := Lib.hid hz
          subst hz
          go_wp2
          go_loopw [5] (fun i wr => ∃ (k mm : Nat), k ≤ m ∧ i = .int .i64 k ∧ wr = w1.drewN mm ∧ ∀ j, j < k → InR (ds.getD j 0) (-1) now) (fun i _ => m - (intOf i).toNat)
          case atStart => exact ⟨0, 0, Nat.zero_le _, rfl, rfl, fun j hj => by omega⟩
          case round =>
            obtain ⟨k, mm, hk, rfl, rfl, hu⟩ := hrel
            have HU := Lib.hid hu
            clear hu
            by_cases hkm : k < m
            · have ck := HC.out k hkm
              obtain ⟨y, HY⟩ : ∃ q, Hid (ds.getD k 0 = q) := ⟨_, rfl⟩
              rw [HY.out] at ck
              by_cases h1 : InR y (-1) now
              · have hl1 : ∀ W, Calls Try.prog 21 #[.int .i64 y, .int .i64 (-1), .int .i64 now] W (Same W (.bool true)) := fun W => by rw [← B_true h1]; exact l1In_any _ _ _ _
                have HL1 := Lib.hid hl1
                have HI1 := Lib.hid h1
                clear hl1 h1
                go_wp2
                go_quiet ((go_at_call 21; first | exact qS (HL1.out _) | exact qS' (HL1.out _)))
                go_wp2
                go_roundw
                case rel =>
                  refine ⟨k + 1, _, by omega, by go_num, (by first | rfl | exact dd _ _ _), fun j hj => ?_⟩
                  rcases Nat.lt_or_ge j k with h5 | h5
                  · exact HU.out j h5
                  · obtain rfl : j = k := by omega
                    rw [HY.out]; exact HI1.out
                case measure => simp [intOf]; omega
              · have hl1 : ∀ W, Calls Try.prog 21 #[.int .i64 y, .int .i64 (-1), .int .i64 now] W (Same W (.bool false)) := fun W => by rw [← B_false h1]; exact l1In_any _ _ _ _
                have HL1 := Lib.hid hl1
                have HI1 := Lib.hid h1
                clear hl1 h1
                go_wp2
                go_quiet ((go_at_call 21; first | exact qS (HL1.out _) | exact qS' (HL1.out _)))
                go_wp2
                go_ret
                refine ⟨ret_b (B_false (fun hh => HI1.out ?_)).symm, below_drewN (below_drewN HB1.out _) _⟩
                have hkl : k < ds.length := by rw [HL.out]; exact hkm
                have := hh.2.2.2.2 (ds[k]) (List.getElem_mem _)
                rw [← HY.out]
                simpa [List.getD, hkl] using this
            · obtain rfl : k = m := by omega
              go_wp2
              go_ret
              refine ⟨ret_b (B_true ⟨hf.out, by rw [HL.out], hin.out, by rw [HZ.out], fun x hx => ?_⟩).symm, below_drewN HB1.out _⟩
              obtain ⟨j, hj, rfl⟩ := List.mem_iff_getElem.1 hx
              have := HU.out j (by rw [← HL.out]; exact hj)
              simpa [List.getD, hj] using this
        · go_wp2
          go_ret
          exact ⟨ret_b (B_false (fun hh => hz (by rw [← HZ.out]; exact hh.2.2.2.1))).symm, HB1.out⟩
      · intro hin
        go_wp2
        go_ret
        exact ⟨ret_b (B_false (fun hh => hin.out hh.2.2.1)).symm, HB1.out⟩
    · have hm' : ((m : Int) != p) = true := by simpa using hm
      go_wp2
      go_ret
      exact ⟨ret_b (B_false (fun hh => hm (by rw [← hh.2.1, HL.out]))).symm, HB1.out⟩
  · intro w1 hf hb1
    go_wp2
    go_ret
    exact ⟨ret_b (B_false (fun hh => hf.out hh.1)).symm, hB0.trans (hb1.mono hB0.size)⟩

end Go.Proofs.Ytpefimeogbpagaa
