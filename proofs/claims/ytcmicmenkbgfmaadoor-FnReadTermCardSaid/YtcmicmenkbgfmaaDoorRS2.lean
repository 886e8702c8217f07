/- spec.l11Number. -/
import Derived.Test.YtcmicmenkbgfmaaDoorRS1
import Derived.Test.YtcmicmenkbgfmaaDoorRU2
set_option linter.unusedSimpArgs false
namespace Go.Proofs.YtcmicmenkbgfmaaDoor
open Go.RowKit

theorem ext_bt {s : ByteArray} {i j k : Nat} (hj : j ≤ s.size) (hk : k < j - i) : btA (s.extract i j) k = btA s (i + k) := by
  unfold btA
  rw [ext_list, List.getD, List.getD, List.getElem?_take_of_lt hk, List.getElem?_drop]
theorem ext_size {s : ByteArray} {i j : Nat} (hj : j ≤ s.size) : (s.extract i j).size = j - i := by
  rw [← sz_list, ext_list, List.length_take, List.length_drop, sz_list]; omega

/-- What l11Number gives: a number and where it ends, or nothing. -/
def NsV (s : ByteArray) (i : Nat) (w : World) (e : Ending) (w' : World) : Prop :=
  (∃ (n : Int) (j : Nat), e = .returned (.tuple #[.int .i64 n, .int .i64 (j : Int)]) ∧ (i < j ∧ j ≤ s.size) ∧ Num (s.data.toList.drop i) n true (s.data.toList.drop j) ∧ w = w') ∨
  (∃ (n : Int) (j : Nat), e = .returned (.tuple #[.int .i64 n, .int .i64 (-1)]) ∧ (i ≤ j ∧ j ≤ s.size) ∧ Num (s.data.toList.drop i) n false (s.data.toList.drop j) ∧ w = w')
theorem kNs {Pr : Program} {fn : FuncId} {args : Array Value} {w : World} {Q : Ending → World → Prop} {s : ByteArray} {i : Nat} (h : Calls Pr fn args w (NsV s i w))
    (h1 : ∀ (n : Int) (j : Nat), i < j → j ≤ s.size → Hid (Num (s.data.toList.drop i) n true (s.data.toList.drop j)) → Q (.returned (.tuple #[.int .i64 n, .int .i64 (j : Int)])) w)
    (h0 : ∀ (n : Int) (j : Nat), i ≤ j → j ≤ s.size → Hid (Num (s.data.toList.drop i) n false (s.data.toList.drop j)) → Q (.returned (.tuple #[.int .i64 n, .int .i64 (-1)])) w) : Calls Pr fn args w Q :=
  h.mono fun e w' hv => by
    rcases hv with ⟨n, j, he, h2, h3, hw⟩ | ⟨n, j, he, h2, h3, hw⟩
    · subst he; subst hw; exact h1 n j h2.1 h2.2 (Lib.hid h3)
    · subst he; subst hw; exact h0 n j h2.1 h2.2 (Lib.hid h3)

set_option maxRecDepth 100000 in
set_option maxHeartbeats 4000000 in
theorem l11Number_any (s : ByteArray) (i0 : Nat) (w : World) (hs : s.size ≤ 120) (hi0 : i0 ≤ s.size) : Calls Tryd.prog 60 #[.string s, .int .i64 (i0 : Int)] w (NsV s i0 w) := by
  go_enter Tryd.func60, Tryd.ntmps60
  go_wp2_with (fail)
  go_loopw [6] (fun v wr => ∃ j : Nat, v = .int .i64 (j : Int) ∧ Digs s i0 j ∧ w = wr) (fun v _ => s.size - (intOf v).toNat)
  case atStart => exact ⟨i0, rfl, Digs.start hi0, rfl⟩
  case round =>
    obtain ⟨j, rfl, hdg, rfl⟩ := hrel
    have HDG := Lib.hid hdg
    have hj0 := hdg.1
    have hj1 := hdg.2.1
    clear hdg
    obtain ⟨X, HX⟩ : ∃ q, Hid (s.extract i0 j = q) := ⟨_, rfl⟩
    have hjI0 : (i0 : Int) ≤ (j : Int) := by omega
    have hjI1 : (j : Int) ≤ (s.size : Int) := by omega
    have hiI0 : (0 : Int) ≤ (i0 : Int) := by omega
    have hsl : ∀ W : World, (Instr.slice 9 (.string s) (some (.int .i64 (i0 : Int))) (some (.int .i64 (j : Int))) none).run Tryd.prog W = .ok (.string X) W := fun W => by
      have h2 := run_slice_string (P := Tryd.prog) W 9 s .i64 .i64 (i0 : Int) (j : Int) Tryd.underlying9 hiI0 hjI0 hjI1
      rw [Int.toNat_natCast, Int.toNat_natCast, HX.out] at h2
      exact h2
    have HXL := Lib.hid (show X.data.toList = (s.data.toList.drop i0).take (j - i0) by rw [← HX.out]; exact ext_list s i0 j)
    have HXS := Lib.hid (show X.size ≤ 120 by rw [← HX.out, ext_size hj1]; omega)
    have HXD := Lib.hid (show ∀ k, k < X.size → isDig (btA X k) from fun k hk => by
      rw [← HX.out, ext_size hj1] at hk
      rw [← HX.out, ext_bt hj1 hk]
      exact HDG.out.2.2 _ (by omega) (by omega))
    clear hjI0 hjI1 hiI0
    by_cases hlt : j < s.size
    · have hidx := run_at (Pr := Tryd.prog) 9 s j hlt Tryd.underlying9
      have HDI := Lib.hid (isDig_iff (btA s j))
      have hjI : (j : Int) < (s.size : Int) := by omega
      obtain ⟨b, HB⟩ : ∃ x, Hid (((btA s j).toNat : Int) = x) := ⟨_, rfl⟩
      rw [HB.out] at HDI hidx
      by_cases hb0 : 48 ≤ b
      · by_cases hb1 : b ≤ 57
        · have HDN := Lib.hid (HDG.out.next hlt (HDI.out.2 ⟨hb0, hb1⟩))
          go_wp2
          go_roundw
          case rel => exact ⟨j + 1, by go_num, HDN.out, by trivial⟩
          case measure => simp [intOf]; omega
        · have HNO := Lib.hid (show ¬ j < s.size ∨ ¬ isDig (btA s j) from .inr (fun h => hb1 (HDI.out.1 h).2))
          go_wp2_with (fail)
          refine kDg (l1Digits_any X _ HXS.out HXD.out) ?_
          intro n ok hok
          have HNM := Lib.hid (num_of (n := n) (g := ok) HDG.out HNO.out (fun q hq e => hok.out.1 q hq (by rw [HXL.out]; exact e)))
          clear hsl
          cases ok with
          | true =>
            have HLT := Lib.hid (show i0 < j by have h2 := hok.out.2 rfl; rw [← HX.out, ext_size hj1] at h2; omega)
            go_wp2
            refine bodyPost_ret (v := .tuple #[.int .i64 n, .int .i64 (j : Int)]) (by simp [results, Tryd.results60, go_sem]) rfl (.inl ⟨n, j, rfl, ⟨HLT.out, hj1⟩, HNM.out, rfl⟩)
          | false =>
            go_wp2
            refine bodyPost_ret (v := .tuple #[.int .i64 0, .int .i64 (-1)]) (by simp [results, Tryd.results60, go_sem]) rfl (.inr ⟨0, j, rfl, ⟨hj0, hj1⟩, fun k r k0 k1 e hr => absurd (HNM.out k r k0 k1 e hr).2.1 (by decide), rfl⟩)
      · have HNO := Lib.hid (show ¬ j < s.size ∨ ¬ isDig (btA s j) from .inr (fun h => hb0 (HDI.out.1 h).1))
        go_wp2_with (fail)
        refine kDg (l1Digits_any X _ HXS.out HXD.out) ?_
        intro n ok hok
        have HNM := Lib.hid (num_of (n := n) (g := ok) HDG.out HNO.out (fun q hq e => hok.out.1 q hq (by rw [HXL.out]; exact e)))
        clear hsl
        cases ok with
        | true =>
          have HLT := Lib.hid (show i0 < j by have h2 := hok.out.2 rfl; rw [← HX.out, ext_size hj1] at h2; omega)
          go_wp2
          refine bodyPost_ret (v := .tuple #[.int .i64 n, .int .i64 (j : Int)]) (by simp [results, Tryd.results60, go_sem]) rfl (.inl ⟨n, j, rfl, ⟨HLT.out, hj1⟩, HNM.out, rfl⟩)
        | false =>
          go_wp2
          refine bodyPost_ret (v := .tuple #[.int .i64 0, .int .i64 (-1)]) (by simp [results, Tryd.results60, go_sem]) rfl (.inr ⟨0, j, rfl, ⟨hj0, hj1⟩, fun k r k0 k1 e hr => absurd (HNM.out k r k0 k1 e hr).2.1 (by decide), rfl⟩)
    · have HNO := Lib.hid (show ¬ j < s.size ∨ ¬ isDig (btA s j) from .inl hlt)
      go_wp2_with (fail)
      refine kDg (l1Digits_any X _ HXS.out HXD.out) ?_
      intro n ok hok
      have HNM := Lib.hid (num_of (n := n) (g := ok) HDG.out HNO.out (fun q hq e => hok.out.1 q hq (by rw [HXL.out]; exact e)))
      clear hsl
      cases ok with
      | true =>
        have HLT := Lib.hid (show i0 < j by have h2 := hok.out.2 rfl; rw [← HX.out, ext_size hj1] at h2; omega)
        go_wp2
        refine bodyPost_ret (v := .tuple #[.int .i64 n, .int .i64 (j : Int)]) (by simp [results, Tryd.results60, go_sem]) rfl (.inl ⟨n, j, rfl, ⟨HLT.out, hj1⟩, HNM.out, rfl⟩)
      | false =>
        go_wp2
        refine bodyPost_ret (v := .tuple #[.int .i64 0, .int .i64 (-1)]) (by simp [results, Tryd.results60, go_sem]) rfl (.inr ⟨0, j, rfl, ⟨hj0, hj1⟩, fun k r k0 k1 e hr => absurd (HNM.out k r k0 k1 e hr).2.1 (by decide), rfl⟩)

end Go.Proofs.YtcmicmenkbgfmaaDoor
