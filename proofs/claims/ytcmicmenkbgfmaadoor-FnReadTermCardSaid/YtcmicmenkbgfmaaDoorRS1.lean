/- spec.l1Digits over digits; spec.l11Number. -/
import Derived.Test.YtcmicmenkbgfmaaDoorRU1
import Derived.Test.YtcmicmenkbgfmaaDoorA1
set_option linter.unusedSimpArgs false
namespace Go.Proofs.YtcmicmenkbgfmaaDoor
open Go.RowKit

/-- The number that digits spell. -/
def valD (l : List UInt8) : Int := l.foldl (fun a c => 10 * a + ((c.toNat : Int) - 48)) 0
theorem valD_snoc (l : List UInt8) (c : UInt8) : valD (l ++ [c]) = 10 * valD l + ((c.toNat : Int) - 48) := by unfold valD; rw [List.foldl_append]; rfl
theorem valD_dec : ∀ q : Nat, q < 20 → valD (dec (q : Int)) = (q : Int) := by decide
theorem dec_zero : ∀ q : Nat, q < 20 → (dec (q : Int)).head? = some 48 → (dec (q : Int)).length = 1 := by decide
theorem take_bt {s : ByteArray} {j : Nat} (h : j < s.size) : s.data.toList.take (j + 1) = s.data.toList.take j ++ [btA s j] := by
  have hl : j < s.data.toList.length := by rw [sz_list]; exact h
  rw [List.take_succ_eq_append_getElem hl]
  unfold btA
  rw [List.getD, List.getElem?_eq_getElem hl, Option.getD_some]
theorem valD_take {s : ByteArray} {j : Nat} (h : j < s.size) : valD (s.data.toList.take (j + 1)) = 10 * valD (s.data.toList.take j) + (((btA s j).toNat : Int) - 48) := by rw [take_bt h, valD_snoc]
theorem valD_bd {s : ByteArray} (hd : ∀ k, k < s.size → isDig (btA s k)) : ∀ j, j ≤ s.size → 0 ≤ valD (s.data.toList.take j) ∧ valD (s.data.toList.take j) < (10 ^ j : Nat)
  | 0, _ => ⟨Int.le_refl _, by simp [valD]⟩
  | j + 1, h => by
    obtain ⟨h1, h2⟩ := valD_bd hd j (by omega)
    have h3 := (isDig_iff _).1 (hd j (by omega))
    rw [valD_take (by omega), Nat.pow_succ]
    omega
theorem valD_lt {s : ByteArray} (hd : ∀ k, k < s.size → isDig (btA s k)) (h6 : s.size ≤ 6) (j : Nat) (hj : j ≤ s.size) : 0 ≤ valD (s.data.toList.take j) ∧ valD (s.data.toList.take j) ≤ 1000000 := by
  obtain ⟨h1, h2⟩ := valD_bd hd j hj
  have h3 : 10 ^ j ≤ 10 ^ 6 := Nat.pow_le_pow_right (by decide) (by omega)
  have h4 : (10 ^ 6 : Nat) = 1000000 := by decide
  omega

/-- What l1Digits gives. -/
def DgV (s : ByteArray) (w : World) (e : Ending) (w' : World) : Prop := ∃ (n : Int) (ok : Bool), e = .returned (.tuple #[.int .i64 n, .bool ok]) ∧ ((∀ q : Nat, q < 20 → s.data.toList = dec (q : Int) → n = q ∧ ok = true) ∧ (ok = true → 0 < s.size)) ∧ w = w'
theorem kDg {Pr : Program} {fn : FuncId} {args : Array Value} {w : World} {Q : Ending → World → Prop} {s : ByteArray} (h : Calls Pr fn args w (DgV s w))
    (h1 : ∀ (n : Int) (ok : Bool), Hid ((∀ q : Nat, q < 20 → s.data.toList = dec (q : Int) → n = q ∧ ok = true) ∧ (ok = true → 0 < s.size)) → Q (.returned (.tuple #[.int .i64 n, .bool ok])) w) : Calls Pr fn args w Q :=
  h.mono fun e w' ⟨n, ok, he, h2, hw⟩ => by subst he; subst hw; exact h1 n ok (Lib.hid h2)

set_option maxRecDepth 100000 in
set_option maxHeartbeats 4000000 in
theorem l1Digits_any (s : ByteArray) (w : World) (hs : s.size ≤ 120) (hd : ∀ k, k < s.size → isDig (btA s k)) : Calls Tryd.prog 66 #[.string s] w (DgV s w) := by
  have HIN := Lib.hid (fun W : World => l1In_any (s.size : Int) 1 6 W)
  by_cases h0 : s.size = 0
  · obtain rfl : s = ⟨#[]⟩ := ByteArray.ext (Array.toList_inj.1 (List.eq_nil_of_length_eq_zero (by rw [sz_list]; exact h0)))
    have HNO := Lib.hid (show ∀ q : Nat, q < 20 → (ByteArray.mk #[]).data.toList ≠ dec (q : Int) from fun q hq e => by
      have h2 := (dec_facts q hq).2.1
      rw [← e] at h2
      exact absurd h2 (by decide))
    rw [B_false (show ¬ InR (((ByteArray.mk #[]).size : Nat) : Int) 1 6 from fun h => by have := h.1; rw [h0] at this; omega)] at HIN
    clear hd hs h0
    go_enter Tryd.func66, Tryd.ntmps66
    go_wp2_with (fail)
    refine kV (HIN.out _) ?_
    go_wp2
    refine bodyPost_ret (v := .tuple #[.int .i64 0, .bool false]) (by simp [results, Tryd.results66, go_sem]) rfl ⟨0, false, rfl, ⟨fun q hq e => absurd e (HNO.out q hq), fun e => by cases e⟩, rfl⟩
  have HD := Lib.hid hd
  have hp : 0 < s.size := by omega
  have hidx0 : ∀ W : World, (Instr.index 9 (.string s) (.int .i64 0)).run Tryd.prog W = .ok (.int .u8 ((btA s 0).toNat : Int)) W := fun W => by
    have h2 := run_at (Pr := Tryd.prog) 9 s 0 hp Tryd.underlying9 W
    exact h2
  have HD0 := Lib.hid ((isDig_iff _).1 (hd 0 hp))
  have HH0 := Lib.hid (show s.data.toList.head? = some (btA s 0) by have h2 := head_bt hp; rwa [List.drop_zero] at h2)
  have HU := Lib.hid (u8_eq (a := btA s 0) (b := 48))
  obtain ⟨b0, HB0⟩ : ∃ x, Hid (((btA s 0).toNat : Int) = x) := ⟨_, rfl⟩
  rw [HB0.out] at HD0 hidx0 HU
  obtain ⟨hb0, hb1⟩ := HD0.out
  have q45 : (b0 == 45) = false := by simp; omega
  clear hd h0
  by_cases h6 : s.size ≤ 6
  rotate_left
  · have HNO := Lib.hid (show ∀ q : Nat, q < 20 → s.data.toList ≠ dec (q : Int) from fun q hq e => by
      have h2 := (dec_facts q hq).1
      rw [← e, sz_list] at h2
      omega)
    rw [B_false (show ¬ InR (s.size : Int) 1 6 from fun h => by have := h.2; omega)] at HIN
    have hI : (1 : Int) < (s.size : Int) := by omega
    go_enter Tryd.func66, Tryd.ntmps66
    go_wp2_with (fail)
    refine kV (HIN.out _) ?_
    go_wp2
    refine bodyPost_ret (v := .tuple #[.int .i64 0, .bool false]) (by simp [results, Tryd.results66, go_sem]) rfl ⟨0, false, rfl, ⟨fun q hq e => absurd e (HNO.out q hq), fun e => by cases e⟩, rfl⟩
  have HBD := Lib.hid (valD_lt HD.out h6)
  rw [B_true (show InR (s.size : Int) 1 6 from ⟨by omega, by omega⟩)] at HIN
  by_cases h1 : s.size = 1
  · have hI : ¬ (1 : Int) < (s.size : Int) := by omega
    have hId : decide ((1 : Int) < (s.size : Int)) = false := by simpa using hI
    have hId2 : decide (1 < s.size) = false := by simp; omega
    clear h1
    by_cases hz : b0 = 48
    · have qz : (b0 == 48) = true := by simpa using hz
      clear hz
      go_enter Tryd.func66, Tryd.ntmps66
      go_wp2_with (fail)
      refine kV (HIN.out _) ?_
      go_wp2_with (fail)
      go_loopw [5, 6] (fun v k wr => ∃ (j : Nat) (z : Int), j ≤ s.size ∧ k = .int .i64 (j : Int) ∧ v = .int .i64 z ∧ z = valD (s.data.toList.take j) ∧ w = wr) (fun _ k _ => s.size - (intOf k).toNat)
      case atStart => exact ⟨0, 0, Nat.zero_le _, rfl, rfl, rfl, rfl⟩
      case round =>
        obtain ⟨j, z, hj, rfl, rfl, hz, rfl⟩ := hrel
        have HZ := Lib.hid hz
        have hzb := HBD.out j hj
        rw [← hz] at hzb
        obtain ⟨hz0, hz1⟩ := hzb
        clear hz
        by_cases hlt : j < s.size
        · have hidx := run_at (Pr := Tryd.prog) 9 s j hlt Tryd.underlying9
          have HDJ := Lib.hid ((isDig_iff _).1 (HD.out j hlt))
          have HTS := Lib.hid (valD_take hlt)
          have hjI : (j : Int) < (s.size : Int) := by omega
          obtain ⟨b, HB⟩ : ∃ x, Hid (((btA s j).toNat : Int) = x) := ⟨_, rfl⟩
          rw [HB.out] at HDJ hidx HTS
          obtain ⟨hb0, hb1⟩ := HDJ.out
          go_wp2
          go_roundw
          case rel => exact ⟨j + 1, 10 * z + (b - 48), by omega, by go_num, by go_num, by rw [HTS.out, HZ.out], by trivial⟩
          case measure => simp [intOf]; omega
        · obtain rfl : j = s.size := by omega
          have HE := Lib.hid (show z = valD s.data.toList by rw [HZ.out, List.take_of_length_le (by rw [sz_list]; exact Nat.le_refl _)])
          go_wp2
          refine bodyPost_ret (v := .tuple #[.int .i64 z, .bool true]) (by simp [results, Tryd.results66, go_sem]) rfl ⟨z, true, rfl, ⟨fun q hq e => ⟨by rw [HE.out, e]; exact valD_dec q hq, rfl⟩, fun _ => hp⟩, rfl⟩
    · have qz : (b0 == 48) = false := by simpa using hz
      clear hz
      go_enter Tryd.func66, Tryd.ntmps66
      go_wp2_with (fail)
      refine kV (HIN.out _) ?_
      go_wp2_with (fail)
      go_loopw [5, 6] (fun v k wr => ∃ (j : Nat) (z : Int), j ≤ s.size ∧ k = .int .i64 (j : Int) ∧ v = .int .i64 z ∧ z = valD (s.data.toList.take j) ∧ w = wr) (fun _ k _ => s.size - (intOf k).toNat)
      case atStart => exact ⟨0, 0, Nat.zero_le _, rfl, rfl, rfl, rfl⟩
      case round =>
        obtain ⟨j, z, hj, rfl, rfl, hz, rfl⟩ := hrel
        have HZ := Lib.hid hz
        have hzb := HBD.out j hj
        rw [← hz] at hzb
        obtain ⟨hz0, hz1⟩ := hzb
        clear hz
        by_cases hlt : j < s.size
        · have hidx := run_at (Pr := Tryd.prog) 9 s j hlt Tryd.underlying9
          have HDJ := Lib.hid ((isDig_iff _).1 (HD.out j hlt))
          have HTS := Lib.hid (valD_take hlt)
          have hjI : (j : Int) < (s.size : Int) := by omega
          obtain ⟨b, HB⟩ : ∃ x, Hid (((btA s j).toNat : Int) = x) := ⟨_, rfl⟩
          rw [HB.out] at HDJ hidx HTS
          obtain ⟨hb0, hb1⟩ := HDJ.out
          go_wp2
          go_roundw
          case rel => exact ⟨j + 1, 10 * z + (b - 48), by omega, by go_num, by go_num, by rw [HTS.out, HZ.out], by trivial⟩
          case measure => simp [intOf]; omega
        · obtain rfl : j = s.size := by omega
          have HE := Lib.hid (show z = valD s.data.toList by rw [HZ.out, List.take_of_length_le (by rw [sz_list]; exact Nat.le_refl _)])
          go_wp2
          refine bodyPost_ret (v := .tuple #[.int .i64 z, .bool true]) (by simp [results, Tryd.results66, go_sem]) rfl ⟨z, true, rfl, ⟨fun q hq e => ⟨by rw [HE.out, e]; exact valD_dec q hq, rfl⟩, fun _ => hp⟩, rfl⟩
  · have hI : (1 : Int) < (s.size : Int) := by omega
    have hI2 : 1 < s.size := by omega
    clear h1
    by_cases hz : b0 = 48
    · have HNO := Lib.hid (show ∀ q : Nat, q < 20 → s.data.toList ≠ dec (q : Int) from fun q hq e => by
        have h2 := dec_zero q hq (by rw [← e, HH0.out, HU.out.1 hz])
        rw [← e, sz_list] at h2
        omega)
      have qz : (b0 == 48) = true := by simpa using hz
      clear hz
      go_enter Tryd.func66, Tryd.ntmps66
      go_wp2_with (fail)
      refine kV (HIN.out _) ?_
      go_wp2
      refine bodyPost_ret (v := .tuple #[.int .i64 0, .bool false]) (by simp [results, Tryd.results66, go_sem]) rfl ⟨0, false, rfl, ⟨fun q hq e => absurd e (HNO.out q hq), fun e => by cases e⟩, rfl⟩
    · have qz : (b0 == 48) = false := by simpa using hz
      clear hz
      go_enter Tryd.func66, Tryd.ntmps66
      go_wp2_with (fail)
      refine kV (HIN.out _) ?_
      go_wp2_with (fail)
      go_loopw [5, 6] (fun v k wr => ∃ (j : Nat) (z : Int), j ≤ s.size ∧ k = .int .i64 (j : Int) ∧ v = .int .i64 z ∧ z = valD (s.data.toList.take j) ∧ w = wr) (fun _ k _ => s.size - (intOf k).toNat)
      case atStart => exact ⟨0, 0, Nat.zero_le _, rfl, rfl, rfl, rfl⟩
      case round =>
        obtain ⟨j, z, hj, rfl, rfl, hz, rfl⟩ := hrel
        have HZ := Lib.hid hz
        have hzb := HBD.out j hj
        rw [← hz] at hzb
        obtain ⟨hz0, hz1⟩ := hzb
        clear hz
        by_cases hlt : j < s.size
        · have hidx := run_at (Pr := Tryd.prog) 9 s j hlt Tryd.underlying9
          have HDJ := Lib.hid ((isDig_iff _).1 (HD.out j hlt))
          have HTS := Lib.hid (valD_take hlt)
          have hjI : (j : Int) < (s.size : Int) := by omega
          obtain ⟨b, HB⟩ : ∃ x, Hid (((btA s j).toNat : Int) = x) := ⟨_, rfl⟩
          rw [HB.out] at HDJ hidx HTS
          obtain ⟨hb0, hb1⟩ := HDJ.out
          go_wp2
          go_roundw
          case rel => exact ⟨j + 1, 10 * z + (b - 48), by omega, by go_num, by go_num, by rw [HTS.out, HZ.out], by trivial⟩
          case measure => simp [intOf]; omega
        · obtain rfl : j = s.size := by omega
          have HE := Lib.hid (show z = valD s.data.toList by rw [HZ.out, List.take_of_length_le (by rw [sz_list]; exact Nat.le_refl _)])
          go_wp2
          refine bodyPost_ret (v := .tuple #[.int .i64 z, .bool true]) (by simp [results, Tryd.results66, go_sem]) rfl ⟨z, true, rfl, ⟨fun q hq e => ⟨by rw [HE.out, e]; exact valD_dec q hq, rfl⟩, fun _ => hp⟩, rfl⟩

end Go.Proofs.YtcmicmenkbgfmaaDoor
