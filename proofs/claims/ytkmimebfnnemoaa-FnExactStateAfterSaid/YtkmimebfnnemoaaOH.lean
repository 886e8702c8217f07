/- Rows of happenings of one's own: copies, marks. -/
import Derived.Test.YtkmimebfnnemoaaTHappening
import Derived.Test.YtkmimebfnnemoaaOZ
namespace Go.Proofs.Ytkmimebfnnemoaa
open Go.RowKit

/-- Elements of two integer cells, flat. -/
def v2 (xs : List (Int × Int)) : List Value := xs.flatMap fun x => [.int .i64 x.1, .int .i64 x.2]
theorem v2_nil : v2 [] = [] := rfl
theorem v2_cons (x : Int × Int) (xs : List (Int × Int)) : v2 (x :: xs) = .int .i64 x.1 :: .int .i64 x.2 :: v2 xs := rfl
theorem v2_append (xs ys : List (Int × Int)) : v2 (xs ++ ys) = v2 xs ++ v2 ys := by simp [v2]
theorem v2_len (xs : List (Int × Int)) : (v2 xs).length = xs.length * 2 := by
  induction xs with
  | nil => rfl
  | cons x xs ih => rw [v2_cons]; simp [ih]; omega
theorem v2_one (xs : List (Int × Int)) : ∀ u ∈ v2 xs, u.oneCell' = true := by
  intro u hu
  obtain ⟨x, _, hx⟩ := List.mem_flatMap.1 hu
  simp at hx
  rcases hx with rfl | rfl <;> rfl
theorem v2_get (xs : List (Int × Int)) : ∀ j, j < xs.length → (v2 xs)[j * 2]? = some (.int .i64 (xs.getD j (0, 0)).1) ∧ (v2 xs)[j * 2 + 1]? = some (.int .i64 (xs.getD j (0, 0)).2) := by
  induction xs with
  | nil => intro j hj; simp at hj
  | cons x xs ih =>
    intro j hj
    cases j with
    | zero => simp [v2_cons]
    | succ j =>
      have := ih j (by simpa using hj)
      rw [v2_cons, show (j + 1) * 2 = j * 2 + 2 by omega]
      simpa [List.getD] using this
abbrev OwnH (w : World) (base : Nat) (A : Option Addr) (n c : Nat) (xs : List (Int × Int)) : Prop := w.ownsRow base 53 2 (.slice A n c) n (v2 xs)
theorem OwnH.len {w : World} {base : Nat} {A : Option Addr} {n c : Nat} {xs : List (Int × Int)} (h : OwnH w base A n c xs) : xs.length = n := by
  have := h.1; rw [v2_len] at this; omega
theorem OwnH.at_ {w : World} {base : Nat} {A : Option Addr} {n c : Nat} {xs : List (Int × Int)} (h : OwnH w base A n c xs) : HapsAt w A n xs := by
  have hl := h.len
  obtain ⟨A', c', e, hc, hA, hcell⟩ := own_cells h
  cases e
  refine ⟨hl, fun hn => ?_⟩
  obtain ⟨g, rfl, _, _, hg⟩ := hcell hn
  refine ⟨g, 0, rfl, fun j hj => ?_⟩
  obtain ⟨g0, g1⟩ := v2_get xs j (by omega)
  rw [Nat.zero_add]
  exact ⟨hg _ _ g0, hg _ _ g1⟩
/-- A call that makes such a row. -/
def NewOwnH (w : World) (n : Nat) (xs : List (Int × Int)) (e : Ending) (w' : World) : Prop :=
  ∃ A c, e = .returned (.slice A n c) ∧ OwnH w' w.heap.size A n c xs ∧ Below w.heap.size w w'
theorem kNewOwnH {Pr : Program} {f : FuncId} {args : Array Value} {w : World} {R : Ending → World → Prop} {n : Nat} {xs : List (Int × Int)} (h : Calls Pr f args w (NewOwnH w n xs))
    (h1 : ∀ A c w', OwnH w' w.heap.size A n c xs → Below w.heap.size w w' → R (.returned (.slice A n c)) w') : Calls Pr f args w R :=
  h.mono fun e w' ⟨A, c, he, hi, hb⟩ => by subst he; exact h1 A c w' hi hb
theorem toHappeningS_own (A : Option Addr) (n c : Nat) (xs : List (Int × Int)) (w : World) (h : HapsAt w A n xs) (hn : n ≤ 1048576) :
    Calls Try.prog 12 #[.slice A n c] w (NewOwnH w n xs) := by
  have HL := Lib.hid h.len
  have hmk := makeRows (P := Try.prog) 33 53 _ 2 16 Try.underlying33 infoHappening n (by omega) (by omega)
  obtain ⟨arr0, hs0, hmk⟩ := hmk
  have HS0 := Lib.hid hs0
  clear hs0
  go_enter Try.func12, Try.ntmps12
  go_wp2
  go_loopw [4] (fun i wr => ∃ (k : Nat) (arr : Array Value), k ≤ n ∧ i = .int .i64 k ∧ Blk wr w.heap.size 53 arr ∧ arr.size = n * 2 ∧ Below w.heap.size w wr ∧ arr.toList.take (k * 2) = v2 (xs.take k)) (fun i _ => n - (intOf i).toNat)
  case atStart => exact ⟨0, arr0, Nat.zero_le _, rfl, Blk.new _ _ _, HS0.out, (Below.refl _ _).alloc (Nat.le_refl _) _, by simp [v2]⟩
  case round =>
    obtain ⟨k, arr, hk, rfl, hblk, hs, hb, harr⟩ := hrel
    have HA := Lib.hid harr
    have HS := Lib.hid hs
    have HK := Lib.hid hblk
    have HB := Lib.hid hb
    clear harr hs hblk hb hmk
    by_cases hlt : k < n
    · obtain ⟨b, off, rfl, hc⟩ := (h.below HB.out).cells (by omega)
      obtain ⟨c0, c1⟩ := hc k hlt
      clear hc
      obtain ⟨x, HX⟩ : ∃ q, Hid (xs.getD k (0, 0) = q) := ⟨_, rfl⟩
      rw [HX.out] at c0 c1
      go_wp2_with (fail)
      refine kBV (toHappening_any x _) ?_
      intro w2 hb2
      have HK2 := Lib.hid (HK.out.below hb2 HK.out.lt)
      have d0 := HK2.out.cell_at (i := k * 2) (by rw [HS.out]; omega)
      obtain ⟨v0, d0⟩ := d0
      have f0 := HK2.out.frozen (k * 2)
      have d1 := HK2.out.cell_at (i := k * 2 + 1) (by rw [HS.out]; omega)
      obtain ⟨v1, d1⟩ := d1
      have f1 := HK2.out.frozen (k * 2 + 1)
      have HB2 := Lib.hid (HB.out.trans (hb2.mono HB.out.size))
      clear hb2
      go_wp2
      go_roundw
      case rel =>
        refine ⟨k + 1, _, by omega, by go_num, ((HK2.out).set_ _ _).set_ _ _, by simp [HS.out], ((HB2.out).setCell (Nat.le_refl _) _).setCell (Nat.le_refl _) _, ?_⟩
        have hkx : k < xs.length := by rw [HL.out]; exact hlt
        have hsz : arr.size = n * 2 := HS.out
        rw [List.take_succ_eq_append_getElem hkx, v2_append, ← HA.out]
        have hx : xs[k] = x := by have := HX.out; simpa [List.getD, hkx] using this
        rw [hx]
        apply List.ext_getElem?
        intro j
        rcases Nat.lt_or_ge j (k * 2) with h1 | h1
        · rw [List.getElem?_append_left (by simp; omega), List.getElem?_take_of_lt (by omega), List.getElem?_take_of_lt h1]
          simp only [Array.toList_setIfInBounds]
          rw [List.getElem?_set_ne (by omega), List.getElem?_set_ne (by omega)]
        · rw [List.getElem?_append_right (by simp; omega)]
          have e1 : (List.take (k * 2) arr.toList).length = k * 2 := by simp; omega
          rw [e1]
          obtain ⟨r, rfl⟩ : ∃ r, j = k * 2 + r := ⟨j - k * 2, by omega⟩
          rw [Nat.add_sub_cancel_left]
          have e2 : v2 [x] = [.int .i64 x.1, .int .i64 x.2] := rfl
          rw [e2]
          rcases Nat.lt_or_ge r 2 with h3 | h3
          · rw [List.getElem?_take_of_lt (by omega)]
            simp only [Array.toList_setIfInBounds]
            match r, h3 with
            | 0, _ =>
              show ((arr.toList.set (k * 2) _).set _ _)[k * 2]? = _
              rw [List.getElem?_set_ne (by omega)]
              rw [List.getElem?_set_self (by simp; omega)]; rfl
            | 1, _ =>
              rw [List.getElem?_set_self (by simp; omega)]; rfl
          · rw [List.getElem?_eq_none (by simp; omega), List.getElem?_eq_none (by simp; omega)]
      case measure => simp [intOf]; omega
    · go_wp2
      go_ret
      obtain rfl : k = n := by omega
      have hl := HL.out
      refine ⟨some ⟨w.heap.size, 0, none⟩, k, rfl, ⟨by rw [v2_len, hl], .inr ⟨w.heap.size, k, arr, rfl, Nat.le_refl _, HK.out, Nat.le_refl _, by unfold maxLen; omega, HS.out, ?_⟩⟩, HB.out⟩
      have := HA.out
      rw [this, ← hl, List.take_length]


set_option maxHeartbeats 1000000 in
theorem markHappeningS_any (base : Nat) (A : Option Addr) (n c : Nat) (xs : List (Int × Int)) (k0 : Int) (w : World) (h : OwnH w base A n c xs) (hn : n ≤ 1048576) (hk0 : 1 ≤ k0 ∧ k0 ≤ 100000000) :
    Calls Try.prog 20 #[.slice A n c, .int .i64 k0] w fun e w' => e = .returned (.int .i64 (k0 + 2 * (n : Int))) ∧ w.grownBy w' (Value.ownBlock (.slice A n c)) := by
  obtain ⟨hk00, hk01⟩ := hk0
  go_enter Try.func20, Try.ntmps20
  go_wp2
  go_loopw [1, 5] (fun s i wr => ∃ (k : Nat) (vs : List Value), k ≤ n ∧ i = .int .i64 k ∧ s = .int .i64 (k0 + 2 * (k : Int)) ∧ wr.ownsRow base 53 2 (.slice A n c) n vs ∧ w.grownBy wr (Value.ownBlock (.slice A n c))) (fun _ i _ => n - (intOf i).toNat)
  case atStart => exact ⟨0, _, Nat.zero_le _, rfl, by simp, h, grown_rfZ _ _⟩
  case round =>
    obtain ⟨wo, rfl⟩ : ∃ wo : World, wo = wr := ⟨_, rfl⟩
    obtain ⟨k, vs, hk, rfl, rfl, hown, hg⟩ := hrel
    have HO := Lib.hid hown
    have HG := Lib.hid hg
    by_cases hlt : k < n
    · obtain ⟨g, rfl, hbg, hgl⟩ := own_cellsZ hown (by omega)
      have hvl := hown.1
      obtain ⟨A', c', e, _, _, hcell⟩ := own_cells hown
      cases e
      obtain ⟨g', e, -, -, hcj⟩ := hcell (by omega)
      cases e
      obtain ⟨z0, hz0⟩ : ∃ z, vs[k * 2]? = some z := ⟨_, List.getElem?_eq_getElem (by omega)⟩
      obtain ⟨z1, hz1⟩ : ∃ z, vs[k * 2 + 1]? = some z := ⟨_, List.getElem?_eq_getElem (by omega)⟩
      have d0 := hcj (k * 2) _ hz0
      have d1 := hcj (k * 2 + 1) _ hz1
      have f0 := hown.frozenAt (k * 2)
      have f1 := hown.frozenAt (k * 2 + 1)
      clear hown hg hcell hcj hvl hz0 hz1
      go_wp2
      go_roundw
      case rel =>
        have h1 := own_setZ (own_setZ HO.out (k * 2) (.int .i64 (k0 + 2 * (k : Int)))) (k * 2 + 1) (.int .i64 (k0 + 2 * (k : Int) + 1))
        have g1 := (HO.out.stored (k * 2) (.int .i64 (k0 + 2 * (k : Int)))).2
        have g2 := ((own_setZ HO.out (k * 2) (.int .i64 (k0 + 2 * (k : Int)))).stored (k * 2 + 1) (.int .i64 (k0 + 2 * (k : Int) + 1))).2
        exact ⟨k + 1, _, by omega, by go_num, by go_num, h1, grown_trZ (grown_trZ HG.out g1) g2⟩
      case measure => simp [intOf]; omega
    · obtain rfl : k = n := by omega
      go_wp2
      go_ret
      exact ⟨rfl, HG.out⟩

end Go.Proofs.Ytkmimebfnnemoaa
