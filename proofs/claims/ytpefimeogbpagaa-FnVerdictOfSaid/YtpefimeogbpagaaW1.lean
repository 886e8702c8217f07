/- Windows and deadlines by the reference; WaitUntil of both. -/
import Derived.Test.YtpefimeogbpagaaT9
import Derived.Test.YtpefimeogbpagaaV2
import Derived.Lib.MinMax
namespace Go.Proofs.Ytpefimeogbpagaa
open Go.RowKit

theorem lastT_succ (hs : List Hp) (k : Nat) : lastT hs (k + 1) = (hs.getD k (0, 0)).2 := by unfold lastT; rw [if_neg (by omega), Nat.add_sub_cancel]
theorem lastT_mono {p : Int} {hs : List Hp} (hl : HL p hs) {k : Nat} (hk : k < hs.length) : lastT hs k ≤ lastT hs (k + 1) := by
  rw [lastT_succ]
  have h := hl k hk
  unfold lastT
  split
  · exact h.2.1.1
  · exact h.2.2.1 (by omega)
theorem lastT_bd {p : Int} {hs : List Hp} (hl : HL p hs) {k : Nat} (hk : k ≤ hs.length) : 0 ≤ lastT hs k ∧ lastT hs k ≤ 2000 := by
  unfold lastT
  split
  · omega
  · have := (hl (k - 1) (by omega)).2.1; exact this
theorem DsA_zero {P : Nat} {hs : List Hp} (hl : HL (P : Int) hs) (hP : 1 ≤ P ∧ P ≤ 6) : ∀ k, k ≤ hs.length → (DsA P (hs.take k)).getD 0 0 = 0
  | 0, _ => rfl
  | k + 1, hk => by
    have hx := hl.inP hP (k := k) (by omega)
    rw [DsA_take (by omega), getD_set (by rw [DsA_len hP.1]; omega), if_neg (by omega)]
    exact DsA_zero hl hP k (by omega)
theorem DsA_in {P : Nat} {hs : List Hp} (hl : HL (P : Int) hs) (hP : 1 ≤ P ∧ P ≤ 6) : ∀ k, k ≤ hs.length → ∀ j, j < P → -1 ≤ (DsA P (hs.take k)).getD j 0 ∧ (DsA P (hs.take k)).getD j 0 ≤ lastT hs k
  | 0, _, j, hj => by
    have h0 : lastT hs 0 = 0 := rfl
    rw [h0]
    rcases Nat.eq_zero_or_pos j with rfl | hj0
    · show (-1 : Int) ≤ 0 ∧ (0 : Int) ≤ 0
      omega
    · rw [DsA_none hl hP 0 (Nat.zero_le _) j hj0 hj (fun i hi => by omega)]
      decide
  | k + 1, hk, j, hj => by
    have hx := hl.inP hP (k := k) (by omega)
    have ih := DsA_in hl hP k (by omega) j hj
    have hm := lastT_mono hl (k := k) (by omega)
    have ht := (hl k (by omega)).2.1
    rw [DsA_take (by omega), getD_set (by rw [DsA_len hP.1]; omega)]
    rw [lastT_succ] at hm ⊢
    unfold InR at ht
    split <;> omega
/-- The state after happenings is one. -/
theorem DsA_st {P : Nat} {bs : List Bd} {hs : List Hp} {now : Int} (h : HrdOk (P : Int) bs hs) (hn : InR now (lastT hs hs.length) 2000) : StOk (P : Int) bs now (DsA P hs) := by
  have hP := StOk.pos h.2
  have hP' : 1 ≤ P ∧ P ≤ 6 := by omega
  have hz := DsA_zero h.1 hP' hs.length (Nat.le_refl _)
  have hin := DsA_in h.1 hP' hs.length (Nat.le_refl _)
  have hb := lastT_bd h.1 (Nat.le_refl hs.length)
  rw [List.take_length] at hz hin
  obtain ⟨hn0, hn1⟩ := hn
  refine ⟨h.2, by rw [DsA_len hP'.1], ⟨by omega, hn1⟩, hz, fun x hx => ?_⟩
  obtain ⟨j, hj, rfl⟩ := List.mem_iff_getElem.1 hx
  have hjP : j < P := by rw [DsA_len hP'.1] at hj; exact hj
  have := hin j hjP
  rw [show (DsA P hs)[j] = (DsA P hs).getD j 0 by simp [List.getD, hj]]
  unfold InR
  omega

set_option maxRecDepth 100000 in
set_option maxHeartbeats 4000000 in
theorem l6Window_any (P j : Nat) (A : Option Addr) (c : Nat) (T : Tab) (now : Int) (D : Option Addr) (d : Nat) (ds : List Int) (w : World) (h : TabAt w A P T) (g : IntsAt w D P ds) (hj : j < P) (hP : P ≤ 6)
    (hT : ∀ x y, -6400 ≤ T x y ∧ T x y ≤ 100000) (hd : ∀ i, i < P → -1 ≤ ds.getD i 0 ∧ ds.getD i 0 ≤ 2000) :
    Calls Try.prog 58 #[.slice A P c, .agg #[.int .i64 now, .slice D P d], .int .i64 (j : Int)] w (Bl w (.tuple #[.int .i64 (loW T now ds j P), .int .i64 (hiW T ds j P)])) := by
  obtain ⟨w0, HW0⟩ : ∃ q, Hid (w.alloc (.cells #[.int .i64 now, .slice D P d] 31) = q) := ⟨_, rfl⟩
  have hA0 : Below w.heap.size w w0 := HW0.out ▸ (Below.refl w.heap.size w).alloc (Nat.le_refl _) _
  have s0 : w0.cell? ⟨w.heap.size, 0, none⟩ = some (.int .i64 now) := HW0.out ▸ by simp [go_sem]
  have s1 : w0.cell? ⟨w.heap.size, 1, none⟩ = some (.slice D P d) := HW0.out ▸ by simp [go_sem]
  have HB0 := Lib.hid hA0
  have HTB := Lib.hid (h.below hA0)
  have HG := Lib.hid (g.below hA0)
  have HT := Lib.hid hT
  have HD := Lib.hid hd
  clear hA0 h g hT hd
  go_enter Try.func58, Try.ntmps58
  go_wp2_with (fail)
  rw [HW0.out]
  obtain ⟨sb, HSB⟩ : ∃ q, Hid (w.heap.size = q) := ⟨_, rfl⟩
  rw [HSB.out] at s0 s1 HB0 ⊢
  go_loopw [8, 9, 10] (fun l h i wr => ∃ (k m : Nat), k ≤ P ∧ i = .int .i64 k ∧ l = .int .i64 (loW T now ds j k) ∧ h = .int .i64 (hiW T ds j k) ∧ wr = w0.drewN m) (fun _ _ i _ => P - (intOf i).toNat)
  case atStart => exact ⟨0, 0, Nat.zero_le _, rfl, rfl, rfl, rfl⟩
  case round =>
    obtain ⟨k, m, hk, rfl, rfl, rfl, rfl⟩ := hrel
    by_cases hkP : k < P
    · obtain ⟨tb, toff, rfl, htc⟩ := HTB.out.cells (by omega)
      obtain ⟨r1, o1, q1, h1, hr1⟩ := htc j hj
      obtain ⟨r2, o2, q2, h2, hr2⟩ := htc k hkP
      have d1 := hr1 k hkP
      have d2 := hr2 j hj
      obtain ⟨b, off, rfl, hc⟩ := HG.out.cells (by omega)
      have c0 := hc k hkP
      clear htc hr1 hr2 hc
      obtain ⟨bd0, bd1⟩ := HD.out k hkP
      obtain ⟨bx0, bx1⟩ := HT.out j k
      obtain ⟨by0, by1⟩ := HT.out k j
      have hlo : loW T now ds j (k + 1) = if ds.getD k 0 = -1 then loW T now ds j k else if T j k < 100000 then max (loW T now ds j k) (ds.getD k 0 - T j k) else loW T now ds j k := rfl
      have hhi : hiW T ds j (k + 1) = if ds.getD k 0 = -1 then hiW T ds j k else if T k j < 100000 then min (hiW T ds j k) (ds.getD k 0 + T k j) else hiW T ds j k := rfl
      obtain ⟨z, HZ⟩ : ∃ q, Hid (ds.getD k 0 = q) := ⟨_, rfl⟩
      obtain ⟨x, HX⟩ : ∃ q, Hid (T j k = q) := ⟨_, rfl⟩
      obtain ⟨y, HY⟩ : ∃ q, Hid (T k j = q) := ⟨_, rfl⟩
      obtain ⟨l, HLO⟩ : ∃ q, Hid (loW T now ds j k = q) := ⟨_, rfl⟩
      obtain ⟨u, HHI⟩ : ∃ q, Hid (hiW T ds j k = q) := ⟨_, rfl⟩
      rw [HZ.out] at c0 bd0 bd1 hlo hhi
      rw [HX.out] at d1 bx0 bx1 hlo
      rw [HY.out] at d2 by0 by1 hhi
      rw [HLO.out] at hlo ⊢
      rw [HHI.out] at hhi ⊢
      have hjI : (j : Int) < (P : Int) := by omega
      have hkI : (k : Int) < (P : Int) := by omega
      by_cases hz : z = -1
      · rw [if_pos hz] at hlo hhi
        have HL1 := Lib.hid hlo
        have HH1 := Lib.hid hhi
        clear hlo hhi
        subst hz
        go_wp2
        go_roundw
        case rel => exact ⟨k + 1, _, by omega, by go_num, by rw [HL1.out], by rw [HH1.out], by first | rfl | trivial⟩
        case measure => simp [intOf]; omega
      · rw [if_neg hz] at hlo hhi
        have hz' : (z == -1) = false := by simpa using hz
        by_cases hx : x < 100000
        all_goals
          by_cases hy : y < 100000
          all_goals
            first
              | rw [if_pos hx] at hlo
              | rw [if_neg hx] at hlo
            first
              | rw [if_pos hy] at hhi
              | rw [if_neg hy] at hhi
            have HL1 := Lib.hid hlo
            have HH1 := Lib.hid hhi
            clear hlo hhi
            go_wp2
            try (go_region; go_wp2)
            try (go_region; go_wp2)
            go_roundw
            case rel => exact ⟨k + 1, _, by omega, by go_num, by rw [HL1.out], by rw [HH1.out], by first | rfl | exact dd _ _ _ | trivial⟩
            case measure => simp [intOf]; omega
    · obtain rfl : k = P := by omega
      go_wp2
      go_ret2
      exact ⟨rfl, by rw [HSB.out]; exact below_drewN HB0.out m⟩


end Go.Proofs.Ytpefimeogbpagaa
