/- Rows of marks and of ints that a call has made itself: contracts with such a result; copies (toMarkS) as such rows; writing into and reading what was written (mark.., held..). -/
import Derived.Test.YtcmicmenkbgfmaaDoorM3
import Derived.Test.YtcmicmenkbgfmaaDoorO1
namespace Go.Proofs.YtcmicmenkbgfmaaDoor
open Go.RowKit

theorem rowM : RowTy Tryd.prog 23 54 (.agg #[.int .i64 0, .int .i64 0, .int .i64 0]) 3 24 := ⟨Tryd.underlying23, infoMark, rfl, by decide, by decide⟩

/-- A row of marks of one's own. -/
abbrev OwnM (w : World) (base : Nat) (A : Option Addr) (n c : Nat) (xs : List Mk) : Prop := w.ownsRow base 54 3 (.slice A n c) n (v3 xs)
theorem v3_inj {xs ys : List Mk} (h : v3 xs = v3 ys) : xs = ys := by
  induction xs generalizing ys with
  | nil => cases ys with
    | nil => rfl
    | cons y ys => rw [v3_cons, v3_nil] at h; cases h
  | cons x xs ih => cases ys with
    | nil => rw [v3_cons, v3_nil] at h; cases h
    | cons y ys =>
      rw [v3_cons, v3_cons] at h
      obtain ⟨x0, x1, x2⟩ := x
      obtain ⟨y0, y1, y2⟩ := y
      simp at h
      obtain ⟨rfl, rfl, rfl, h⟩ := h
      rw [ih h]
theorem OwnM.len {w : World} {base : Nat} {A : Option Addr} {n c : Nat} {xs : List Mk} (h : OwnM w base A n c xs) : xs.length = n := by
  have := h.1; rw [v3_len] at this; omega
theorem OwnM.at_ {w : World} {base : Nat} {A : Option Addr} {n c : Nat} {xs : List Mk} (h : OwnM w base A n c xs) : MarksAt w A n xs := by
  have hl := h.len
  obtain ⟨A', c', e, hc, hA, hcell⟩ := own_cells h
  cases e
  refine ⟨hl, fun hn => ?_⟩
  obtain ⟨g, rfl, _, _, hg⟩ := hcell hn
  refine ⟨g, 0, rfl, fun j hj => ?_⟩
  obtain ⟨g0, g1, g2⟩ := v3_get xs j (by omega)
  rw [Nat.zero_add]
  exact ⟨hg _ _ g0, hg _ _ g1, hg _ _ g2⟩
theorem OwnM.cap {w : World} {base : Nat} {A : Option Addr} {n c : Nat} {xs : List Mk} (h : OwnM w base A n c xs) : n ≤ c := by
  obtain ⟨A', c', e, hc, hA, hcell⟩ := own_cells h
  cases e; exact hc
/-- A call that makes a row of marks of its own. -/
def NewM (w : World) (xs : List Mk) (e : Ending) (w' : World) : Prop :=
  ∃ A c, e = .returned (.slice A xs.length c) ∧ OwnM w' w.heap.size A xs.length c xs ∧ Below w.heap.size w w'
theorem kNewM {Pr : Program} {f : FuncId} {args : Array Value} {w : World} {R : Ending → World → Prop} {xs : List Mk} (h : Calls Pr f args w (NewM w xs))
    (h1 : ∀ A c w', OwnM w' w.heap.size A xs.length c xs → Below w.heap.size w w' → R (.returned (.slice A xs.length c)) w') : Calls Pr f args w R :=
  h.mono fun e w' ⟨A, c, he, hi, hb⟩ => by subst he; exact h1 A c w' hi hb
/-- .. and tells whether it could. -/
def NewMB (w : World) (xs : List Mk) (b : Bool) (e : Ending) (w' : World) : Prop :=
  ∃ A c, e = .returned (.tuple #[.slice A xs.length c, .bool b]) ∧ OwnM w' w.heap.size A xs.length c xs ∧ Below w.heap.size w w'
theorem kNewMB {Pr : Program} {f : FuncId} {args : Array Value} {w : World} {R : Ending → World → Prop} {xs : List Mk} {b : Bool} (h : Calls Pr f args w (NewMB w xs b))
    (h1 : ∀ A c w', OwnM w' w.heap.size A xs.length c xs → Below w.heap.size w w' → R (.returned (.tuple #[.slice A xs.length c, .bool b])) w') : Calls Pr f args w R :=
  h.mono fun e w' ⟨A, c, he, hi, hb⟩ => by subst he; exact h1 A c w' hi hb

theorem toMarkS_own (A : Option Addr) (n c : Nat) (xs : List Mk) (w : World) (h : MarksAt w A n xs) (hn : n ≤ 1048576) :
    Calls Tryd.prog 20 #[.slice A n c] w (NewM w xs) := by
  have HL := Lib.hid h.len
  have hmk := makeRows (P := Tryd.prog) 23 54 _ 3 24 Tryd.underlying23 infoMark n (by omega) (by omega)
  obtain ⟨arr0, hs0, hmk⟩ := hmk
  have HS0 := Lib.hid hs0
  clear hs0
  go_enter Tryd.func20, Tryd.ntmps20
  go_wp2
  go_loopw [4] (fun i wr => ∃ (k : Nat) (arr : Array Value), k ≤ n ∧ i = .int .i64 k ∧ Blk wr w.heap.size 54 arr ∧ arr.size = n * 3 ∧ Below w.heap.size w wr ∧ arr.toList.take (k * 3) = v3 (xs.take k)) (fun i _ => n - (intOf i).toNat)
  case atStart => exact ⟨0, arr0, Nat.zero_le _, rfl, Blk.new _ _ _, HS0.out, (Below.refl _ _).alloc (Nat.le_refl _) _, by simp [v3]⟩
  case round =>
    obtain ⟨k, arr, hk, rfl, hblk, hs, hb, harr⟩ := hrel
    have HA := Lib.hid harr
    have HS := Lib.hid hs
    have HK := Lib.hid hblk
    have HB := Lib.hid hb
    clear harr hs hblk hb hmk
    by_cases hlt : k < n
    · obtain ⟨b, off, rfl, hc⟩ := (h.below HB.out).cells (by omega)
      obtain ⟨c0, c1, c2⟩ := hc k hlt
      clear hc
      obtain ⟨x, HX⟩ : ∃ q, Hid (xs.getD k (0, 0, 0) = q) := ⟨_, rfl⟩
      rw [HX.out] at c0 c1 c2
      go_wp2_with (fail)
      refine kBV (toMark_any x _) ?_
      intro w2 hb2
      have HK2 := Lib.hid (HK.out.below hb2 HK.out.lt)
      have d0 := HK2.out.cell_at (i := k * 3) (by rw [HS.out]; omega)
      obtain ⟨v0, d0⟩ := d0
      have f0 := HK2.out.frozen (k * 3)
      have d1 := HK2.out.cell_at (i := k * 3 + 1) (by rw [HS.out]; omega)
      obtain ⟨v1, d1⟩ := d1
      have f1 := HK2.out.frozen (k * 3 + 1)
      have d2 := HK2.out.cell_at (i := k * 3 + 2) (by rw [HS.out]; omega)
      obtain ⟨v2, d2⟩ := d2
      have f2 := HK2.out.frozen (k * 3 + 2)
      have HB2 := Lib.hid (HB.out.trans (hb2.mono HB.out.size))
      clear hb2
      go_wp2
      go_roundw
      case rel =>
        refine ⟨k + 1, _, by omega, by go_num, (((HK2.out).set_ _ _).set_ _ _).set_ _ _, by simp [HS.out], (((HB2.out).setCell (Nat.le_refl _) _).setCell (Nat.le_refl _) _).setCell (Nat.le_refl _) _, ?_⟩
        have hkx : k < xs.length := by rw [HL.out]; exact hlt
        have hsz : arr.size = n * 3 := HS.out
        rw [List.take_succ_eq_append_getElem hkx, v3_append, ← HA.out]
        have hx : xs[k] = x := by have := HX.out; simpa [List.getD, hkx] using this
        rw [hx]
        apply List.ext_getElem?
        intro j
        rcases Nat.lt_or_ge j (k * 3) with h1 | h1
        · rw [List.getElem?_append_left (by simp; omega), List.getElem?_take_of_lt (by omega), List.getElem?_take_of_lt h1]
          simp only [Array.toList_setIfInBounds]
          rw [List.getElem?_set_ne (by omega), List.getElem?_set_ne (by omega), List.getElem?_set_ne (by omega)]
        · rw [List.getElem?_append_right (by simp; omega)]
          have e1 : (List.take (k * 3) arr.toList).length = k * 3 := by simp; omega
          rw [e1]
          obtain ⟨r, rfl⟩ : ∃ r, j = k * 3 + r := ⟨j - k * 3, by omega⟩
          rw [Nat.add_sub_cancel_left]
          have e2 : v3 [x] = [.int .i64 x.1, .int .i64 x.2.1, .int .i64 x.2.2] := rfl
          rw [e2]
          rcases Nat.lt_or_ge r 3 with h3 | h3
          · rw [List.getElem?_take_of_lt (by omega)]
            simp only [Array.toList_setIfInBounds]
            match r, h3 with
            | 0, _ =>
              show (((arr.toList.set (k * 3) _).set _ _).set _ _)[k * 3]? = _
              rw [List.getElem?_set_ne (by omega), List.getElem?_set_ne (by omega)]
              rw [List.getElem?_set_self (by simp; omega)]; rfl
            | 1, _ =>
              rw [List.getElem?_set_ne (by omega)]
              rw [List.getElem?_set_self (by simp; omega)]; rfl
            | 2, _ => rw [List.getElem?_set_self (by simp; omega)]; rfl
          · rw [List.getElem?_eq_none (by simp; omega), List.getElem?_eq_none (by simp; omega)]
      case measure => simp [intOf]; omega
    · go_wp2
      go_ret
      obtain rfl : k = n := by omega
      have hl := HL.out
      refine ⟨some ⟨w.heap.size, 0, none⟩, k, by rw [hl]; rfl, ⟨v3_len xs, .inr ⟨w.heap.size, k, arr, by rw [hl], Nat.le_refl _, HK.out, by omega, by unfold maxLen; omega, HS.out, ?_⟩⟩, HB.out⟩
      have := HA.out
      rw [hl, this, ← hl, List.take_length]

theorem own_grown {w w' : World} {base : Nat} {e : TypeId} {size : Nat} {v : Value} {n : Nat} {xs : List Value} {row : Option Nat} (h : w.ownsRow base e size v n xs) (hg : w.grownBy w' row) (hne : ∀ g, row = some g → g < base) : w'.ownsRow base e size v n xs := by
  refine h.kept hg ?_
  cases hv : v.ownBlock with
  | none => exact .inl rfl
  | some k =>
    refine .inr fun e => ?_
    have h1 := h.lt k hv
    have h2 := hne k e.symm
    omega
theorem own_grown' {w w' : World} {base base' : Nat} {e : TypeId} {size : Nat} {v : Value} {n : Nat} {xs : List Value} {row : Option Nat} (h : w.ownsRow base e size v n xs) (hb : ∀ k, v.ownBlock = some k → k < base') (hg : w.grownBy w' row) (hne : ∀ g, row = some g → base' ≤ g) : w'.ownsRow base e size v n xs := by
  refine h.kept hg ?_
  cases hv : v.ownBlock with
  | none => exact .inl rfl
  | some k =>
    refine .inr fun e => ?_
    have h1 := hb k hv
    have h2 := hne k e.symm
    omega
theorem grown_trans {a b c : World} {row : Option Nat} (h : a.grownBy b row) (k : b.grownBy c row) : a.grownBy c row :=
  ⟨k.os.trans h.os, k.tape.trans h.tape, k.output.trans h.output, Nat.le_trans h.size k.size, fun i hi hn => (k.block i (Nat.lt_of_lt_of_le hi h.size) hn).trans (h.block i hi hn)⟩
theorem grown_refl (w : World) (row : Option Nat) : w.grownBy w row := ⟨rfl, rfl, rfl, Nat.le_refl _, fun _ _ _ => rfl⟩
theorem grown_drew (w : World) (row : Option Nat) (m : Nat) : w.grownBy (w.drewN m) row := ⟨rfl, rfl, rfl, Nat.le_refl _, fun _ _ _ => rfl⟩

/-- The numbers that a marking writes. -/
def seq3 (k : Int) (n : Nat) : List Mk := (List.range n).map fun j : Nat => (k + 3 * (j : Int), k + 3 * (j : Int) + 1, k + 3 * (j : Int) + 2)
theorem seq3_len (k : Int) (n : Nat) : (seq3 k n).length = n := by simp [seq3]
theorem seq3_get (k : Int) {n j : Nat} (h : j < n) : (seq3 k n).getD j (0, 0, 0) = (k + 3 * (j : Int), k + 3 * (j : Int) + 1, k + 3 * (j : Int) + 2) := by simp [seq3, List.getD, h]
theorem seq3_succ (k : Int) (n : Nat) : seq3 k (n + 1) = seq3 k n ++ [(k + 3 * (n : Int), k + 3 * (n : Int) + 1, k + 3 * (n : Int) + 2)] := by simp [seq3, List.range_succ]
def seq1 (k : Int) (n : Nat) : List Int := (List.range n).map fun j : Nat => k + (j : Int)
theorem seq1_len (k : Int) (n : Nat) : (seq1 k n).length = n := by simp [seq1]
theorem seq1_get (k : Int) {n j : Nat} (h : j < n) : (seq1 k n).getD j 0 = k + (j : Int) := by simp [seq1, List.getD, h]
theorem seq1_succ (k : Int) (n : Nat) : seq1 k (n + 1) = seq1 k n ++ [k + (n : Int)] := by simp [seq1, List.range_succ]

theorem own_cellsD {w : World} {base : Nat} {e : TypeId} {size : Nat} {A : Option Addr} {n c : Nat} {xs : List Value} (h : w.ownsRow base e size (.slice A n c) n xs) (hn : 0 < n) : ∃ g, A = some ⟨g, 0, none⟩ ∧ base ≤ g ∧ g < w.heap.size := by
  obtain ⟨g, cap, e, h1, h2⟩ := h.form hn
  cases e
  exact ⟨g, rfl, h1, h2⟩
theorem own_set {w : World} {base : Nat} {e : TypeId} {size g n cap : Nat} {xs : List Value} (h : w.ownsRow base e size (.slice (some ⟨g, 0, none⟩) n cap) n xs) (j : Nat) (u : Value) :
    (w.setCell ⟨g, j, none⟩ u).ownsRow base e size (.slice (some ⟨g, 0, none⟩) n cap) n (xs.set j u) := (h.stored j u).1

theorem set3 (ys : List Mk) (pre : List Mk) (y x : Mk) : (((v3 (pre ++ y :: ys)).set (pre.length * 3) (.int .i64 x.1)).set (pre.length * 3 + 1) (.int .i64 x.2.1)).set (pre.length * 3 + 2) (.int .i64 x.2.2) = v3 (pre ++ x :: ys) := by
  rw [v3_append, v3_append, v3_cons, v3_cons]
  have h := v3_len pre
  rw [List.set_append_right _ _ (by omega), List.set_append_right _ _ (by omega), List.set_append_right _ _ (by omega)]
  rw [h, Nat.sub_self, Nat.add_sub_cancel_left, Nat.add_sub_cancel_left]
  rfl

set_option maxHeartbeats 1000000 in
theorem markMarkS_any (base : Nat) (A : Option Addr) (n c : Nat) (xs : List Mk) (w : World) (h : OwnM w base A n c xs) (hn : n ≤ 1048576) :
    Calls Tryd.prog 16 #[.slice A n c, .int .i64 1] w fun e w' => e = .returned (.int .i64 (1 + 3 * (n : Int))) ∧ OwnM w' base A n c (seq3 1 n) ∧ w.grownBy w' (Value.ownBlock (.slice A n c)) := by
  have HL := Lib.hid h.len
  go_enter Tryd.func16, Tryd.ntmps16
  go_wp2
  go_loopw [1, 5] (fun s i wr => ∃ k : Nat, k ≤ n ∧ i = .int .i64 k ∧ s = .int .i64 (1 + 3 * (k : Int)) ∧ OwnM wr base A n c (seq3 1 k ++ xs.drop k) ∧ w.grownBy wr (Value.ownBlock (.slice A n c))) (fun _ i _ => n - (intOf i).toNat)
  case atStart => exact ⟨0, Nat.zero_le _, rfl, rfl, by simpa [seq3] using h, grown_refl _ _⟩
  case round =>
    obtain ⟨wo, rfl⟩ : ∃ wo : World, wo = wr := ⟨_, rfl⟩
    obtain ⟨k, hk, rfl, rfl, hown, hg⟩ := hrel
    have HO := Lib.hid hown
    have HG := Lib.hid hg
    clear hown hg
    by_cases hlt : k < n
    · obtain ⟨g, rfl, hbg, hgl⟩ := own_cellsD HO.out (by omega)
      have hm := HO.out.at_.at_ hlt
      obtain ⟨b', off', e', d0, d1, d2⟩ := hm
      cases e'
      rw [Nat.zero_add] at d0 d1 d2
      have f0 := HO.out.frozenAt (k * 3)
      have f1 := HO.out.frozenAt (k * 3 + 1)
      have f2 := HO.out.frozenAt (k * 3 + 2)
      go_wp2
      go_roundw
      case rel =>
        refine ⟨k + 1, by omega, by go_num, by go_num, ?_, ?_⟩
        · have hkx : k < xs.length := by rw [HL.out]; exact hlt
          have h1 := own_set (own_set (own_set HO.out (k * 3) (.int .i64 (1 + 3 * (k : Int)))) (k * 3 + 1) (.int .i64 (1 + 3 * (k : Int) + 1))) (k * 3 + 2) (.int .i64 (1 + 3 * (k : Int) + 1 + 1))
          have h2 := set3 (xs.drop (k + 1)) (seq3 1 k) xs[k] (1 + 3 * (k : Int), 1 + 3 * (k : Int) + 1, 1 + 3 * (k : Int) + 1 + 1)
          rw [seq3_len, ← List.drop_eq_getElem_cons hkx] at h2
          rw [h2] at h1
          rw [seq3_succ, List.append_assoc]
          have e3 : (1 : Int) + 3 * (k : Int) + 1 + 1 = 1 + 3 * (k : Int) + 2 := by omega
          rw [e3] at h1
          simpa [e3] using h1
        · have g1 := (HO.out.stored (k * 3) (.int .i64 (1 + 3 * (k : Int)))).2
          have g2 := ((own_set HO.out (k * 3) (.int .i64 (1 + 3 * (k : Int)))).stored (k * 3 + 1) (.int .i64 (1 + 3 * (k : Int) + 1))).2
          have g3 := ((own_set (own_set HO.out (k * 3) (.int .i64 (1 + 3 * (k : Int)))) (k * 3 + 1) (.int .i64 (1 + 3 * (k : Int) + 1))).stored (k * 3 + 2) (.int .i64 (1 + 3 * (k : Int) + 1 + 1))).2
          exact grown_trans (grown_trans (grown_trans HG.out g1) g2) g3
      case measure => simp [intOf]; omega
    · obtain rfl : k = n := by omega
      go_wp2
      go_ret
      refine ⟨rfl, ?_, HG.out⟩
      have := HO.out
      rwa [List.drop_eq_nil_of_le (by rw [HL.out]; exact Nat.le_refl _), List.append_nil] at this

theorem kMark {Pr : Program} {f : FuncId} {args : Array Value} {w : World} {R : Ending → World → Prop} {base : Nat} {A : Option Addr} {n c : Nat} {e : TypeId} {size : Nat} {xs : List Value} {v : Int} {row : Option Nat}
    (h : Calls Pr f args w fun en w' => en = .returned (.int .i64 v) ∧ w'.ownsRow base e size (.slice A n c) n xs ∧ w.grownBy w' row)
    (h1 : ∀ w', w'.ownsRow base e size (.slice A n c) n xs → w.grownBy w' row → R (.returned (.int .i64 v)) w') : Calls Pr f args w R :=
  h.mono fun e w' ⟨he, ho, hg⟩ => by subst he; exact h1 w' ho hg

set_option maxHeartbeats 1000000 in
theorem heldMarkS_any (A : Option Addr) (n c : Nat) (w : World) (h : MarksAt w A n (seq3 1 n)) (hn : n ≤ 1048576) :
    Calls Tryd.prog 17 #[.slice A n c, .int .i64 1] w (Qt w (.int .i64 (1 + 3 * (n : Int)))) := by
  go_enter Tryd.func17, Tryd.ntmps17
  go_wp2
  go_loopw [1, 5] (fun s i wr => ∃ k m : Nat, k ≤ n ∧ i = .int .i64 k ∧ s = .int .i64 (1 + 3 * (k : Int)) ∧ wr = w.drewN m) (fun _ i _ => n - (intOf i).toNat)
  case atStart => exact ⟨0, 0, Nat.zero_le _, rfl, rfl, rfl⟩
  case round =>
    obtain ⟨k, m, hk, rfl, rfl, rfl⟩ := hrel
    by_cases hlt : k < n
    · obtain ⟨b, off, rfl, c0, c1, c2⟩ := h.at_ hlt
      rw [seq3_get 1 hlt] at c0 c1 c2
      simp only at c0 c1 c2
      go_wp2
      go_roundw
      case rel => exact ⟨k + 1, m, by omega, by go_num, by go_num, by trivial⟩
      case measure => simp [intOf]; omega
    · obtain rfl : k = n := by omega
      go_wp2
      go_ret
      exact ⟨rfl, m, rfl⟩

end Go.Proofs.YtcmicmenkbgfmaaDoor
