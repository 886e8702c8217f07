/- The walk of FnOrderOk: for every code the law returns true, and the code is left as it was. -/
import Derived.Test.YtopfhlopicjemaaDR3
namespace Go.Proofs.Ytopfhlopicjemaa
open Go.RowKit

theorem rev_drop_succ {xs : List Int} {j : Nat} (h : j < xs.length) : (xs.drop j).reverse = (xs.drop (j + 1)).reverse ++ [xs.getD j 0] := by
  rw [List.drop_eq_getElem_cons h, List.reverse_cons, getD_eq h]

theorem ints00 {w : World} {q : Nat} (hq : w.heap.size = q) (t : TypeId) : IntsAt (w.alloc (.cells #[.int .i64 0, .int .i64 0] t)) (some ⟨q, 0, none⟩) 2 [0, 0] := by
  subst hq
  exact ⟨rfl, fun _ => ⟨w.heap.size, 0, rfl, fun j hj => by
    rw [World.cell?_alloc_new, Nat.zero_add]
    match j, hj with
    | 0, _ => rfl
    | 1, _ => rfl⟩⟩

set_option maxRecDepth 100000 in
set_option maxHeartbeats 2000000 in
theorem FnOrderOk_any (A0 : Option Addr) (n0 c0 : Nat) (w : World) (F0 : n0 ≤ 9223372036854775807 ∧ n0 ≤ c0 ∧ BytsAt w w.heap.size A0 n0) :
    Calls Try.prog 4 #[.slice A0 n0 c0] w fun e w' => e = .returned (.bool true) ∧ Below w.heap.size w w' := by
  obtain ⟨hm0, hc0, h0⟩ := F0
  by_cases hn : n0 ≤ 1048576
  rotate_left
  · go_enter Try.func4, Try.ntmps4
    go_wp2
    go_ret
    exact ⟨rfl, Below.refl _ _⟩
  go_enter Try.func4, Try.ntmps4
  go_wp2_with (fail)
  refine kDrawnO (drawOrderOk_any A0 n0 c0 w h0 hm0 hc0) ?_
  intro A n c xs m w1 hi hnc hn6 hm0' hm7 hb1
  have HL := Lib.hid hi.len
  have HI := Lib.hid hi
  have HB1 := Lib.hid hb1
  have HREV := Lib.hid (B_congr (ordOk_rev xs m))
  have HHAS := Lib.hid (fun h k => ordOk_has (xs := xs) (m := m) (k := k) h)
  have HT := Lib.hid (show B (OrdOk xs m) = true → OrdOk xs m from of_B)
  obtain ⟨ok, HOK⟩ : ∃ q, Hid (B (OrdOk xs m) = q) := ⟨_, rfl⟩
  rw [HOK.out] at HREV HT
  clear hi hb1
  have hc1 := iOrderOk_any A n c xs m w1 HI.out (by omega) hnc
  rw [HOK.out] at hc1
  go_wp2_with (fail)
  refine kW hc1 ?_
  intro m1
  clear hc1
  have hc2 := sOrderOk_any A n c xs m (w1.drewN m1) (HI.out.drewN m1) (by omega)
  rw [HOK.out] at hc2
  go_wp2_with (fail)
  refine kW hc2 ?_
  intro m2
  clear hc2
  rw [dd]
  have HI2 := Lib.hid (HI.out.drewN (m1 + m2))
  have HB2 := Lib.hid (below_drewN HB1.out (m1 + m2))
  obtain ⟨w2, HW2⟩ : ∃ q, Hid (w1.drewN (m1 + m2) = q) := ⟨_, rfl⟩
  rw [HW2.out] at HI2 HB2 ⊢
  go_wp2
  go_loopw [6, 7] (fun o i wr => ∃ (j g cv : Nat), j ≤ n ∧ i = .int .i64 ((j : Int) - 1) ∧ o = .slice (some ⟨g, 0, none⟩) (n - j) cv ∧ wr.ownsRow w2.heap.size 3 1 (.slice (some ⟨g, 0, none⟩) (n - j) cv) (n - j) (vI (xs.drop j).reverse) ∧ Below w2.heap.size w2 wr) (fun _ i _ => (intOf i + 1).toNat)
  case atStart =>
    refine ⟨n, w2.heap.size, 0, Nat.le_refl _, rfl, by rw [Nat.sub_self], ?_, (Below.refl _ _).alloc (Nat.le_refl _) _⟩
    rw [Nat.sub_self, List.drop_eq_nil_of_le (by rw [HL.out]; exact Nat.le_refl _)]
    exact own_lit w2 w2.heap.size _ 1 #[] 0 (Nat.le_refl _) (by decide) rfl
  case round =>
    obtain ⟨wo, rfl⟩ : ∃ wo : World, wo = wr := ⟨_, rfl⟩
    obtain ⟨j, g, cv, hj, rfl, rfl, hown, hb⟩ := hrel
    have HO := Lib.hid hown
    have HB := Lib.hid hb
    clear hown hb
    cases j with
    | succ i =>
      have hi : ((i + 1 : Nat) : Int) - 1 = (i : Int) := by omega
      rw [hi]
      have hix : i < xs.length := by rw [HL.out]; omega
      have HRD := Lib.hid (rev_drop_succ hix)
      obtain ⟨b, off, rfl, hc⟩ := (HI2.out.below HB.out).cells (by omega)
      have d0 := hc i (by omega)
      obtain ⟨x, HX⟩ : ∃ q, Hid (xs.getD i 0 = q) := ⟨_, rfl⟩
      rw [HX.out] at d0 HRD
      have hd : n - i = n - (i + 1) + 1 := by omega
      have HD := Lib.hid hd
      obtain ⟨l, HLL⟩ : ∃ q, Hid (n - (i + 1) = q) := ⟨_, rfl⟩
      rw [HLL.out] at HO HD ⊢
      have hll : l ≤ 6 := by rw [← HLL.out]; omega
      clear hc hi hd
      go_wp2_with (at_builtin; refine wpl_app rowI rfl _ _ (by rfl) w2.heap.size _ l (vI (xs.drop (i + 1)).reverse) (by rfl) (HO.out.alloc _) ⟨wo.heap.size, 0, none⟩ 1 1 (vI [x]) (by rfl) rfl (cell_one_at (by simp) _ _) (vI_one _) (by decide) (by omega) (by have := HB.out.size; simp; omega) ?_; intro g3 cap3 w3 hown3 hgrow3 _ _)
      go_wp2
      go_roundw
      case rel =>
        refine ⟨i, g3, cap3, by omega, rfl, by rw [HD.out], ?_, (HB.out.alloc HB.out.size _).grown hgrow3 (by have := HB.out.size; simp; omega) (fun k hk => (HO.out.lt k hk).1)⟩
        rw [HD.out, HRD.out, vI_app]; exact hown3
      case measure => simp [intOf] <;> omega
    | zero =>
      have hi : ((0 : Nat) : Int) - 1 = -1 := rfl
      rw [hi]
      rw [Nat.sub_zero, List.drop_zero] at HO
      rw [Nat.sub_zero]
      have HCV := Lib.hid (show n ≤ cv by obtain ⟨_, _, e, hcv, _⟩ := own_cells HO.out; cases e; exact hcv)
      have HIB := Lib.hid (ownI_at HO.out)
      have HIO := Lib.hid (HI2.out.below HB.out)
      have HBE := Lib.hid (HB2.out.trans (HB.out.mono HB2.out.size))
      clear hi
      go_wp2
      go_loopw [8] (fun i wr => ∃ (k m3 : Nat), i = .int .i64 k ∧ (k : Int) ≤ 7 ∧ wr = wo.drewN m3) (fun i _ => (m - intOf i).toNat)
      case atStart => exact ⟨0, 0, rfl, by omega, rfl⟩
      case round =>
        obtain ⟨k, m3, rfl, hk7, rfl⟩ := hrel
        by_cases hkm : (k : Int) < m
        · cases ok with
          | true =>
            go_wp2_with (fail)
            refine kQ (hasInt_any A n c xs (k : Int) _ (HIO.out.drewN m3) (by omega)) ?_ (fun _ h => absurd (HHAS.out (HT.out trivial) _ (by omega) hkm) h.out)
            intro m4 _
            go_wp2
            go_roundw
            case rel => exact ⟨k + 1, m3 + m4, by go_num, by omega, rfl⟩
            case measure => simp [intOf]; omega
          | false =>
            have hcf := iOrderOk_any (some ⟨g, 0, none⟩) n cv xs.reverse m _ (HIB.out.drewN m3) (by omega) HCV.out
            rw [HREV.out] at hcf
            go_wp2_with (fail)
            refine kW hcf ?_
            intro m4
            clear hcf
            rw [dd]
            go_wp2_with (fail)
            refine kQ (iOrderOk_any _ 0 0 [] 0 _ ⟨rfl, fun h => absurd h (Nat.lt_irrefl 0)⟩ (by omega) (by omega)) ?_ (fun _ h => absurd ordOk_nil h.out)
            intro m5 _
            go_wp2_with (fail)
            refine kQ (iOrderOk_any _ 2 2 [0, 0] 2 _ (ints00 (by simp) _) (by omega) (by omega)) (fun _ h => absurd h.out ordOk_00) ?_
            intro m6 _
            go_wp2
            go_ret
            exact ⟨rfl, by repeat (first | exact HBE.out | refine below_drewN ?_ _ | refine Below.alloc ?_ (by have := HBE.out.size; simp; omega) _)⟩
        · cases ok
          all_goals
            have hcf := iOrderOk_any (some ⟨g, 0, none⟩) n cv xs.reverse m _ (HIB.out.drewN m3) (by omega) HCV.out
            rw [HREV.out] at hcf
            go_wp2_with (fail)
            refine kW hcf ?_
            intro m4
            clear hcf
            rw [dd]
            go_wp2_with (fail)
            refine kQ (iOrderOk_any _ 0 0 [] 0 _ ⟨rfl, fun h => absurd h (Nat.lt_irrefl 0)⟩ (by omega) (by omega)) ?_ (fun _ h => absurd ordOk_nil h.out)
            intro m5 _
            go_wp2_with (fail)
            refine kQ (iOrderOk_any _ 2 2 [0, 0] 2 _ (ints00 (by simp) _) (by omega) (by omega)) (fun _ h => absurd h.out ordOk_00) ?_
            intro m6 _
            go_wp2
            go_ret
            exact ⟨rfl, by repeat (first | exact HBE.out | refine below_drewN ?_ _ | refine Below.alloc ?_ (by have := HBE.out.size; simp; omega) _)⟩

end Go.Proofs.Ytopfhlopicjemaa
