/- Happenings: what a row of them must be; the reference's HeardOk. -/
import Derived.Test.YtpefimeogbpagaaT5
import Derived.Test.YtpefimeogbpagaaTHappening
import Derived.BigQuiet
namespace Go.Proofs.Ytpefimeogbpagaa
open Go.RowKit

abbrev Hp := Int × Int
/-- The happening at place k goes on from those ahead. -/
def H1 (p : Int) (hs : List Hp) (k : Nat) : Prop :=
  InR (hs.getD k (0, 0)).1 1 (wrap64 (p - 1)) ∧ InR (hs.getD k (0, 0)).2 0 2000 ∧ (0 < k → (hs.getD (k - 1) (0, 0)).2 ≤ (hs.getD k (0, 0)).2) ∧ ∀ j, j < k → (hs.getD j (0, 0)).1 ≠ (hs.getD k (0, 0)).1
def HL (p : Int) (hs : List Hp) : Prop := ∀ k, k < hs.length → H1 p hs k
def HrdOk (p : Int) (bs : List Bd) (hs : List Hp) : Prop := HL p hs ∧ FitsP p bs

set_option maxRecDepth 100000 in
set_option maxHeartbeats 4000000 in
theorem sHeardOk_any (p : Int) (A : Option Addr) (n c : Nat) (bs : List Bd) (D : Option Addr) (m d : Nat) (hs : List Hp) (w : World) (h : BndsAt w A n bs) (g : HapsAt w D m hs) (hn : n ≤ 1048576) (hm : m ≤ 1048576) :
    Calls Try.prog 20 #[.agg #[.int .i64 p, .slice A n c], .slice D m d] w (Bl w (.bool (B (HrdOk p bs hs)))) := by
  have HL := Lib.hid g.len
  obtain ⟨w0, HW0⟩ : ∃ q, Hid (w.alloc (.cells #[.int .i64 p, .slice A n c] 25) = q) := ⟨_, rfl⟩
  have hA0 : Below w.heap.size w w0 := HW0.out ▸ (Below.refl w.heap.size w).alloc (Nat.le_refl _) _
  have s0 : w0.cell? ⟨w.heap.size, 0, none⟩ = some (.int .i64 p) := HW0.out ▸ by simp [go_sem]
  have s1 : w0.cell? ⟨w.heap.size, 1, none⟩ = some (.slice A n c) := HW0.out ▸ by simp [go_sem]
  have HB0 := Lib.hid hA0
  have HH0 := Lib.hid (h.below hA0)
  have HG0 := Lib.hid (g.below hA0)
  clear hA0 h g
  go_enter Try.func20, Try.ntmps20
  go_wp2_with (fail)
  rw [HW0.out]
  obtain ⟨sb, HSB⟩ : ∃ q, Hid (w.heap.size = q) := ⟨_, rfl⟩
  rw [HSB.out] at s0 s1 HB0 ⊢
  go_loopw [5] (fun i wr => ∃ (k mm : Nat), k ≤ m ∧ i = .int .i64 k ∧ wr = w0.drewN mm ∧ ∀ j, j < k → H1 p hs j) (fun i _ => m - (intOf i).toNat)
  case atStart => exact ⟨0, 0, Nat.zero_le _, rfl, rfl, fun j hj => by omega⟩
  case round =>
    obtain ⟨k, mm, hk, rfl, rfl, hu⟩ := hrel
    have HU := Lib.hid hu
    clear hu
    by_cases hkm : k < m
    · obtain ⟨b, off, rfl, hc⟩ := HG0.out.cells (by omega)
      obtain ⟨c0, c1⟩ := hc k hkm
      have hcj := fun j (hj : j < m) => (hc j hj).1
      have hcp : 0 < k → w0.cell? ⟨b, off + (k - 1) * 2 + 1, none⟩ = some (.int .i64 (hs.getD (k - 1) (0, 0)).2) := fun h0 => (hc (k - 1) (by omega)).2
      have HCJ := Lib.hid hcj
      clear hc hcj
      have HH1 := Lib.hid (show H1 p hs k ↔ InR (hs.getD k (0, 0)).1 1 (wrap64 (p - 1)) ∧ InR (hs.getD k (0, 0)).2 0 2000 ∧ (0 < k → (hs.getD (k - 1) (0, 0)).2 ≤ (hs.getD k (0, 0)).2) ∧ ∀ j, j < k → (hs.getD j (0, 0)).1 ≠ (hs.getD k (0, 0)).1 from Iff.rfl)
      have HNO := Lib.hid (show ¬ H1 p hs k → ¬ HrdOk p bs hs from fun hx hh => hx (hh.1 k (by rw [HL.out]; exact hkm)))
      obtain ⟨x, HX⟩ : ∃ q, Hid ((hs.getD k (0, 0)).1 = q) := ⟨_, rfl⟩
      obtain ⟨t, HT⟩ : ∃ q, Hid ((hs.getD k (0, 0)).2 = q) := ⟨_, rfl⟩
      rw [HX.out] at c0 HH1
      rw [HT.out] at c1 HH1
      by_cases h1 : InR x 1 (wrap64 (p - 1))
      · have hl1 : ∀ W, Calls Try.prog 21 #[.int .i64 x, .int .i64 1, .int .i64 (wrap64 (p - 1))] W (Same W (.bool true)) := fun W => by rw [← B_true h1]; exact l1In_any _ _ _ _
        have HL1 := Lib.hid hl1
        have HI1 := Lib.hid h1
        clear hl1 h1
        by_cases h2 : InR t 0 2000
        · have hl2 : ∀ W, Calls Try.prog 21 #[.int .i64 t, .int .i64 0, .int .i64 2000] W (Same W (.bool true)) := fun W => by rw [← B_true h2]; exact l1In_any _ _ _ _
          have HL2 := Lib.hid hl2
          have HI2 := Lib.hid h2
          clear hl2 h2
          have inner : ∀ (wq : World) (m2 : Nat), wq = w0.drewN m2 → True := fun _ _ _ => trivial
          clear inner
          by_cases h0 : 0 < k
          · have hcp' := hcp h0
            have h0' : (0 : Int) < (k : Int) := by omega
            have hk1 : ((k : Int) - 1) = ((k - 1 : Nat) : Int) := by omega
            obtain ⟨k1, HK1⟩ : ∃ q, Hid (k - 1 = q) := ⟨_, rfl⟩
            rw [HK1.out] at hcp' hk1
            have hk1m : k1 < m := by have := HK1.out; omega
            have hk1I : (k1 : Int) < (m : Int) := by omega
            obtain ⟨t', HT'⟩ : ∃ q, Hid ((hs.getD k1 (0, 0)).2 = q) := ⟨_, rfl⟩
            rw [HT'.out] at hcp'
            rw [HK1.out, HT'.out] at HH1
            clear hcp
            by_cases h3 : t < t'
            · go_wp2
              go_quiet ((go_at_call 21; first | (with_reducible exact qS' (HL2.out _)) | (with_reducible exact qS' (HL1.out _)) | (with_reducible exact qS (HL2.out _)) | (with_reducible exact qS (HL1.out _)) | exact qS' (HL1.out _)))
              go_wp2
              go_ret
              exact ⟨ret_b (B_false (HNO.out (fun hh => by have := (HH1.out.1 hh).2.2.1 h0; omega))).symm, by rw [HSB.out]; first | exact below_drewN HB0.out _ | exact below_drewN (below_drewN HB0.out _) _⟩
            · go_wp2
              go_quiet ((go_at_call 21; first | (with_reducible exact qS' (HL2.out _)) | (with_reducible exact qS' (HL1.out _)) | (with_reducible exact qS (HL2.out _)) | (with_reducible exact qS (HL1.out _)) | exact qS' (HL1.out _)))
              go_wp2
              go_loopw [6] (fun i wr => ∃ (j mj : Nat), j ≤ k ∧ i = .int .i64 j ∧ wr = w0.drewN mj ∧ ∀ l, l < j → (hs.getD l (0, 0)).1 ≠ x) (fun i _ => k - (intOf i).toNat)
              case atStart => exact ⟨0, _, Nat.zero_le _, rfl, (by first | rfl | exact dd _ _ _), fun l hl => by omega⟩
              case round =>
                obtain ⟨j, mj, hj, rfl, rfl, hne⟩ := hrel
                have HNE := Lib.hid hne
                clear hne
                by_cases hjk : j < k
                · have cj := HCJ.out j (by omega)
                  obtain ⟨y, HY⟩ : ∃ q, Hid ((hs.getD j (0, 0)).1 = q) := ⟨_, rfl⟩
                  rw [HY.out] at cj
                  have hjm : (j : Int) < (m : Int) := by omega
                  by_cases hxy : y = x
                  · have hxy' : (y == x) = true := by simpa using hxy
                    have HE := Lib.hid hxy
                    clear hxy
                    go_wp2
                    go_quiet (fail)
                    go_wp2
                    go_ret
                    exact ⟨ret_b (B_false (HNO.out (fun hh => (HH1.out.1 hh).2.2.2 j hjk (by rw [HY.out]; exact HE.out)))).symm, by rw [HSB.out]; exact below_drewN (below_drewN HB0.out _) _⟩
                  · have hxy' : (y == x) = false := by simpa using hxy
                    go_wp2
                    go_quiet (fail)
                    go_wp2
                    go_roundw
                    case rel =>
                      refine ⟨j + 1, _, by omega, by go_num, (by first | rfl | exact dd _ _ _), fun l hl => ?_⟩
                      rcases Nat.lt_or_ge l j with h5 | h5
                      · exact HNE.out l h5
                      · obtain rfl : l = j := by omega
                        rw [HY.out]; exact hxy
                    case measure => simp [intOf]; omega
                · obtain rfl : j = k := by omega
                  go_wp2
                  go_roundw
                  case rel =>
                    refine ⟨j + 1, _, by omega, by go_num, rfl, fun l hl => ?_⟩
                    rcases Nat.lt_or_ge l j with h5 | h5
                    · exact HU.out l h5
                    · obtain rfl : l = j := by omega
                      exact HH1.out.2 ⟨HI1.out, HI2.out, fun _ => by omega, HNE.out⟩
                  case measure => simp [intOf]; omega
          · have h0' : ¬ (0 : Int) < (k : Int) := by omega
            clear hcp
            go_wp2
            go_quiet ((go_at_call 21; first | (with_reducible exact qS' (HL2.out _)) | (with_reducible exact qS' (HL1.out _)) | (with_reducible exact qS (HL2.out _)) | (with_reducible exact qS (HL1.out _)) | exact qS' (HL1.out _)))
            go_wp2
            go_loopw [6] (fun i wr => ∃ (mj : Nat), i = .int .i64 0 ∧ wr = w0.drewN mj) (fun i _ => 0)
            case atStart => exact ⟨_, rfl, (by first | rfl | exact dd _ _ _)⟩
            case round =>
              obtain ⟨mj, rfl, rfl⟩ := hrel
              go_wp2
              go_roundw
              case rel =>
                refine ⟨k + 1, _, by omega, by go_num, rfl, fun l hl => ?_⟩
                obtain rfl : l = k := by omega
                exact HH1.out.2 ⟨HI1.out, HI2.out, fun h => absurd h h0, fun j hj => by omega⟩
              case measure => simp [intOf]; omega
        · have hl2 : ∀ W, Calls Try.prog 21 #[.int .i64 t, .int .i64 0, .int .i64 2000] W (Same W (.bool false)) := fun W => by rw [← B_false h2]; exact l1In_any _ _ _ _
          have HL2 := Lib.hid hl2
          have HI2 := Lib.hid h2
          clear hl2 h2 hcp
          go_wp2
          go_quiet ((go_at_call 21; first | (with_reducible exact qS' (HL2.out _)) | (with_reducible exact qS' (HL1.out _)) | (with_reducible exact qS (HL2.out _)) | (with_reducible exact qS (HL1.out _)) | exact qS' (HL1.out _)))
          go_wp2
          go_ret
          exact ⟨ret_b (B_false (HNO.out (fun hh => HI2.out (HH1.out.1 hh).2.1))).symm, by rw [HSB.out]; first | exact below_drewN HB0.out _ | exact below_drewN (below_drewN HB0.out _) _⟩
      · have hl1 : ∀ W, Calls Try.prog 21 #[.int .i64 x, .int .i64 1, .int .i64 (wrap64 (p - 1))] W (Same W (.bool false)) := fun W => by rw [← B_false h1]; exact l1In_any _ _ _ _
        have HL1 := Lib.hid hl1
        have HI1 := Lib.hid h1
        clear hl1 h1 hcp
        go_wp2
        go_quiet ((go_at_call 21; first | (with_reducible exact qS' (HL1.out _)) | (with_reducible exact qS (HL1.out _)) | exact qS' (HL1.out _)))
        go_wp2
        go_ret
        exact ⟨ret_b (B_false (HNO.out (fun hh => HI1.out (HH1.out.1 hh).1))).symm, by rw [HSB.out]; first | exact below_drewN HB0.out _ | exact below_drewN (below_drewN HB0.out _) _⟩
    · obtain rfl : k = m := by omega
      go_wp2_with (fail)
      refine kB (sFitsOk_any p A n c bs _ (HH0.out.drewN mm) hn) ?_ ?_
      · intro w2 hf hb2
        go_wp2
        go_ret
        exact ⟨ret_b (B_true ⟨fun j hj => HU.out j (by rw [← HL.out]; exact hj), hf.out⟩).symm, by rw [HSB.out]; exact (below_drewN HB0.out mm).trans (hb2.mono (by have := HB0.out.size; have := HSB.out; show sb ≤ w0.heap.size; omega))⟩
      · intro w2 hf hb2
        go_wp2
        go_ret
        exact ⟨ret_b (B_false (fun hh => hf.out hh.2)).symm, by rw [HSB.out]; exact (below_drewN HB0.out mm).trans (hb2.mono (by have := HB0.out.size; have := HSB.out; show sb ≤ w0.heap.size; omega))⟩

end Go.Proofs.Ytpefimeogbpagaa
