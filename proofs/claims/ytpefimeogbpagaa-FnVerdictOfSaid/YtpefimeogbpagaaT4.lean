/- The closed table by the program, in place: (impl.table).close. -/
import Derived.Test.YtpefimeogbpagaaT3
namespace Go.Proofs.Ytpefimeogbpagaa
open Go.RowKit

/-- What close leaves. -/
def Closed (w : World) (base o p : Nat) (f : Nat → Nat) (T : Tab) (e : Ending) (w' : World) : Prop :=
  e = .returned (.bool (B (Nonneg p (clIn p T p)))) ∧ TabP w' base o p p f (clIn p T p) ∧ Below base w w'
theorem Nonneg.not_of {p i : Nat} {T : Tab} (hi : i < p) (h : T i i < 0) : ¬ Nonneg p T := fun hh => by have := hh i hi; omega
theorem upd_self (T : Tab) (i j : Nat) : upd T i j (T i j) = T := by
  funext x y
  unfold upd
  split
  · rename_i h; rw [h.1, h.2]
  · rfl
theorem cellIn_far {k i j : Nat} {C : Tab} (h : C i k = 100000 ∨ C k j = 100000) : cellIn k i j C = C := by
  unfold cellIn St
  rw [if_neg (by omega), upd_self]
theorem cellIn_near {k i j : Nat} {C : Tab} (h1 : C i k < 100000) (h2 : C k j < 100000) : cellIn k i j C = upd C i j (min (C i j) (C i k + C k j)) := by
  unfold cellIn St
  rw [if_pos ⟨h1, h2⟩]
theorem clIn_lo4 {p : Nat} {T : Tab} (hT : Lo 4000 T) {k : Nat} (hk : k < 6) (i j : Nat) : Lo 186624000 (rowIn k i (matIn p k (clIn p T k) i) j) := fun x y => by
  have h1 := clIn_lo (p := p) (by omega) hT k
  have h2 := matIn_lo (k := k) (p := p) (Int.mul_nonneg (Int.pow_nonneg (by omega)) (by omega)) h1 i j x y
  have h3 : (6 : Int) ^ k ≤ 7776 := by
    have : k = 0 ∨ k = 1 ∨ k = 2 ∨ k = 3 ∨ k = 4 ∨ k = 5 := by omega
    rcases this with rfl | rfl | rfl | rfl | rfl | rfl <;> simp
  omega
theorem clIn_hi {p : Nat} {T : Tab} (hT : Hi T) (k i j : Nat) : Hi (rowIn k i (matIn p k (clIn p T k) i) j) := ((rowIn_le k i _ j).trans ((matIn_le p k _ i).trans (clIn_le p T k))).hi hT

set_option maxRecDepth 100000 in
set_option maxHeartbeats 4000000 in
theorem close_any (base o p : Nat) (f : Nat → Nat) (T : Tab) (w : World) (h : TabP w base o p p f T) (hp : p ≤ 6) (hhi : Hi T) (hlo : Lo 4000 T) :
    Calls Try.prog 43 #[.slice (some ⟨o, 0, none⟩) p p] w (Closed w base o p f T) := by
  have HT := Lib.hid h
  have HHI := Lib.hid hhi
  have HLO := Lib.hid hlo
  clear h hhi hlo
  go_enter Try.func43, Try.ntmps43
  go_wp2
  go_loopw [9] (fun i wr => ∃ (k : Nat), k ≤ p ∧ i = .int .i64 k ∧ TabP wr base o p p f (clIn p T k) ∧ Below base w wr) (fun i _ => p - (intOf i).toNat)
  case atStart => exact ⟨0, Nat.zero_le _, rfl, HT.out, Below.refl _ _⟩
  case round =>
    obtain ⟨wo, rfl⟩ : ∃ wo : World, wo = wr := ⟨_, rfl⟩
    obtain ⟨k, hk, rfl, htab, hbl⟩ := hrel
    have HT1 := Lib.hid htab
    have HB1 := Lib.hid hbl
    clear htab hbl HT
    by_cases hkp : k < p
    · go_wp2
      go_loopw [14] (fun i wr => ∃ (i' : Nat), i' ≤ p ∧ i = .int .i64 i' ∧ TabP wr base o p p f (matIn p k (clIn p T k) i') ∧ Below base w wr) (fun i _ => p - (intOf i).toNat)
      case atStart => exact ⟨0, Nat.zero_le _, rfl, HT1.out, HB1.out⟩
      case round =>
        obtain ⟨wp, rfl⟩ : ∃ wp : World, wp = wr := ⟨_, rfl⟩
        obtain ⟨i, hi, rfl, htab, hbl⟩ := hrel
        have HT2 := Lib.hid htab
        have HB2 := Lib.hid hbl
        clear htab hbl HT1 HB1
        by_cases hip : i < p
        · go_wp2
          go_loopw [19] (fun i' wr => ∃ (j : Nat), j ≤ p ∧ i' = .int .i64 j ∧ TabP wr base o p p f (rowIn k i (matIn p k (clIn p T k) i) j) ∧ Below base w wr) (fun i _ => p - (intOf i).toNat)
          case atStart => exact ⟨0, Nat.zero_le _, rfl, HT2.out, HB2.out⟩
          case round =>
            obtain ⟨wq, rfl⟩ : ∃ wq : World, wq = wr := ⟨_, rfl⟩
            obtain ⟨j, hj, rfl, htab, hbl⟩ := hrel
            have HT3 := Lib.hid htab
            have HB3 := Lib.hid hbl
            clear htab hbl HT2 HB2
            by_cases hjp : j < p
            · have hk6 : k < 6 := by omega
              have bx := clIn_lo4 (p := p) HLO.out hk6 i j
              have by_ := clIn_hi (p := p) HHI.out k i j
              have hrow : rowIn k i (matIn p k (clIn p T k) i) (j + 1) = cellIn k i j (rowIn k i (matIn p k (clIn p T k) i) j) := rfl
              obtain ⟨C, HC⟩ : ∃ C, Hid (rowIn k i (matIn p k (clIn p T k) i) j = C) := ⟨_, rfl⟩
              rw [HC.out] at HT3 bx by_ hrow
              have HRW := Lib.hid hrow
              have b1 := bx i k
              have b2 := by_ i k
              have b3 := bx k j
              have b4 := by_ k j
              have b5 := bx i j
              have b6 := by_ i j
              clear bx by_ hrow
              have d0 := HT3.out.hd i hip
              have d1 := HT3.out.hd k hkp
              obtain ⟨c0, g0⟩ := HT3.out.cs i k hip hkp
              obtain ⟨c1, g1⟩ := HT3.out.cs k j hkp hjp
              obtain ⟨c2, g2⟩ := HT3.out.cs i j hip hjp
              have hol := HT3.out.ol
              have hfl := (HT3.out.rb i hip).2
              have HFO := Lib.hid (show base ≤ f i by have := (HT3.out.rb i hip).1; have := HT3.out.bo; omega)
              have HFAR := Lib.hid (fun h => cellIn_far (k := k) (i := i) (j := j) (C := C) h)
              have HNEAR := Lib.hid (fun h1 h2 => cellIn_near (k := k) (i := i) (j := j) (C := C) h1 h2)
              have HTS := Lib.hid (HT3.out.set hip hjp (min (C i j) (C i k + C k j)))
              obtain ⟨x, HX⟩ : ∃ q, Hid (C i k = q) := ⟨_, rfl⟩
              obtain ⟨y, HY⟩ : ∃ q, Hid (C k j = q) := ⟨_, rfl⟩
              obtain ⟨z, HZ⟩ : ∃ q, Hid (C i j = q) := ⟨_, rfl⟩
              rw [HX.out] at b1 b2 c0 HFAR HNEAR HTS
              rw [HY.out] at b3 b4 c1 HFAR HNEAR HTS
              rw [HZ.out] at b5 b6 c2 HNEAR HTS
              by_cases hx : x = 100000
              · have HEQ := Lib.hid (HFAR.out (.inl hx))
                subst hx
                go_wp2
                go_roundw
                case rel => exact ⟨j + 1, by omega, by go_num, by rw [HRW.out, HEQ.out]; exact HT3.out, HB3.out⟩
                case measure => simp [intOf]; omega
              · by_cases hy : y = 100000
                · have HEQ := Lib.hid (HFAR.out (.inr hy))
                  subst hy
                  go_wp2
                  go_roundw
                  case rel => exact ⟨j + 1, by omega, by go_num, by rw [HRW.out, HEQ.out]; exact HT3.out, HB3.out⟩
                  case measure => simp [intOf]; omega
                · have HEQ := Lib.hid (HNEAR.out (by omega) (by omega))
                  have hx' : (x != 100000) = true := by simpa using hx
                  have hy' : (y != 100000) = true := by simpa using hy
                  go_wp2
                  go_region
                  all_goals
                    go_wp2
                    go_roundw
                    case rel => exact ⟨j + 1, by omega, by go_num, by rw [HRW.out, HEQ.out]; exact HTS.out.drewN 1, below_drewN (HB3.out.setCell HFO.out _) 1⟩
                    case measure => simp [intOf]; omega
            · obtain rfl : j = p := by omega
              go_wp2
              go_roundw
              case rel => exact ⟨i + 1, by omega, by go_num, HT3.out, HB3.out⟩
              case measure => simp [intOf]; omega
        · obtain rfl : i = p := by omega
          go_wp2
          go_roundw
          case rel => exact ⟨k + 1, by omega, by go_num, HT2.out, HB2.out⟩
          case measure => simp [intOf]; omega
    · obtain rfl : k = p := by omega
      obtain ⟨D, HD⟩ : ∃ D, Hid (clIn k T k = D) := ⟨_, rfl⟩
      rw [HD.out] at HT1
      go_wp2
      go_loopw [74] (fun i wr => ∃ (i' : Nat), i' ≤ k ∧ i = .int .i64 i' ∧ wr = wo ∧ ∀ m, m < i' → 0 ≤ D m m) (fun i _ => k - (intOf i).toNat)
      case atStart => exact ⟨0, Nat.zero_le _, rfl, rfl, fun m hm => by omega⟩
      case round =>
        obtain ⟨i, hi, rfl, rfl, hall⟩ := hrel
        have HA := Lib.hid hall
        clear hall
        by_cases hip : i < k
        · have d0 := HT1.out.hd i hip
          obtain ⟨c0, g0⟩ := HT1.out.cs i i hip hip
          obtain ⟨x, HX⟩ : ∃ q, Hid (D i i = q) := ⟨_, rfl⟩
          rw [HX.out] at c0
          by_cases hx : x < 0
          · go_wp2
            go_ret
            exact ⟨ret_b (B_false (Nonneg.not_of hip (by rw [HD.out, HX.out]; exact hx))).symm, by rw [HD.out]; exact HT1.out, HB1.out⟩
          · go_wp2
            go_roundw
            case rel =>
              refine ⟨i + 1, by omega, by go_num, by first | rfl | trivial, fun m hm => ?_⟩
              rcases Nat.lt_or_ge m i with h1 | h1
              · exact HA.out m h1
              · obtain rfl : m = i := by omega
                rw [HX.out]; omega
            case measure => simp [intOf]; omega
        · obtain rfl : i = k := by omega
          go_wp2
          go_ret
          exact ⟨ret_b (B_true (fun m hm => by rw [HD.out]; exact HA.out m hm)).symm, by rw [HD.out]; exact HT1.out, HB1.out⟩

end Go.Proofs.Ytpefimeogbpagaa
