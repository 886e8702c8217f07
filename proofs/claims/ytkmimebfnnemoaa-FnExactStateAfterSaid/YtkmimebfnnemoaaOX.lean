/- Rows of bounds of one's own: copies, marks; plans. -/
import Derived.Test.YtkmimebfnnemoaaOB
import Derived.Test.YtkmimebfnnemoaaOZ
import Derived.Test.YtkmimebfnnemoaaP2
namespace Go.Proofs.Ytkmimebfnnemoaa
open Go.RowKit

def seqBound (k : Int) (n : Nat) : List Bd := (List.range n).map fun j : Nat => (k + 3 * (j : Int), k + 3 * (j : Int) + 1, k + 3 * (j : Int) + 2)
theorem seqBound_len (k : Int) (n : Nat) : (seqBound k n).length = n := by simp [seqBound]
theorem seqBound_get (k : Int) {n j : Nat} (h : j < n) : (seqBound k n).getD j (0, 0, 0) = (k + 3 * (j : Int), k + 3 * (j : Int) + 1, k + 3 * (j : Int) + 2) := by simp [seqBound, List.getD, h]
theorem seqBound_succ (k : Int) (n : Nat) : seqBound k (n + 1) = seqBound k n ++ [(k + 3 * (n : Int), k + 3 * (n : Int) + 1, k + 3 * (n : Int) + 2)] := by simp [seqBound, List.range_succ]
theorem setBound (ys : List Bd) (pre : List Bd) (y x : Bd) : (((v3 (pre ++ y :: ys)).set (pre.length * 3) (.int .i64 x.1)).set (pre.length * 3 + 1) (.int .i64 x.2.1)).set (pre.length * 3 + 2) (.int .i64 x.2.2) = v3 (pre ++ x :: ys) := by
  rw [v3_append, v3_append, v3_cons, v3_cons]
  have h := v3_len pre
  rw [List.set_append_right _ _ (by omega), List.set_append_right _ _ (by omega), List.set_append_right _ _ (by omega)]
  rw [h, Nat.sub_self, Nat.add_sub_cancel_left, Nat.add_sub_cancel_left]
  rfl

/-- A call that makes such a row. -/
def NewOwnB (w : World) (n : Nat) (xs : List Bd) (e : Ending) (w' : World) : Prop :=
  ∃ A c, e = .returned (.slice A n c) ∧ OwnB w' w.heap.size A n c xs ∧ Below w.heap.size w w'
theorem kNewOwnB {Pr : Program} {f : FuncId} {args : Array Value} {w : World} {R : Ending → World → Prop} {n : Nat} {xs : List Bd} (h : Calls Pr f args w (NewOwnB w n xs))
    (h1 : ∀ A c w', OwnB w' w.heap.size A n c xs → Below w.heap.size w w' → R (.returned (.slice A n c)) w') : Calls Pr f args w R :=
  h.mono fun e w' ⟨A, c, he, hi, hb⟩ => by subst he; exact h1 A c w' hi hb
theorem toBoundS_own (A : Option Addr) (n c : Nat) (xs : List Bd) (w : World) (h : BndsAt w A n xs) (hn : n ≤ 1048576) :
    Calls Try.prog 32 #[.slice A n c] w (NewOwnB w n xs) := by
  have HL := Lib.hid h.len
  have hmk := makeRows (P := Try.prog) 29 74 _ 3 24 Try.underlying29 infoBound n (by omega) (by omega)
  obtain ⟨arr0, hs0, hmk⟩ := hmk
  have HS0 := Lib.hid hs0
  clear hs0
  go_enter Try.func32, Try.ntmps32
  go_wp2
  go_loopw [4] (fun i wr => ∃ (k : Nat) (arr : Array Value), k ≤ n ∧ i = .int .i64 k ∧ Blk wr w.heap.size 74 arr ∧ arr.size = n * 3 ∧ Below w.heap.size w wr ∧ arr.toList.take (k * 3) = v3 (xs.take k)) (fun i _ => n - (intOf i).toNat)
  case atStart => exact ⟨0, arr0, Nat.zero_le _, rfl, Blk.new _ _ _, HS0.out, (Below.refl _ _).alloc (Nat.le_refl _) _, by simp [v3]⟩
  case round =>
    obtain ⟨k, arr, hk, rfl, hblk, hs, hb, harr⟩ := hrel
    have HA := Lib.hid harr
    have HS := Lib.hid hs
    have HK := Lib.hid hblk
    have HB := Lib.hid hb
    clear harr hs hblk hb hmk
    by_cases hlt : k < n
    · obtain ⟨b, off, rfl, hc⟩ := (h.below HB.out).cells (by omega)
      obtain ⟨c0, c1, c2⟩ := hc k hlt
      clear hc
      obtain ⟨x, HX⟩ : ∃ q, Hid (xs.getD k (0, 0, 0) = q) := ⟨_, rfl⟩
      rw [HX.out] at c0 c1 c2
      go_wp2_with (fail)
      refine kBV (toBound_any x _) ?_
      intro w2 hb2
      have HK2 := Lib.hid (HK.out.below hb2 HK.out.lt)
      have d0 := HK2.out.cell_at (i := k * 3) (by rw [HS.out]; omega)
      obtain ⟨v0, d0⟩ := d0
      have f0 := HK2.out.frozen (k * 3)
      have d1 := HK2.out.cell_at (i := k * 3 + 1) (by rw [HS.out]; omega)
      obtain ⟨v1, d1⟩ := d1
      have f1 := HK2.out.frozen (k * 3 + 1)
      have d2 := HK2.out.cell_at (i := k * 3 + 2) (by rw [HS.out]; omega)
      obtain ⟨v2, d2⟩ := d2
      have f2 := HK2.out.frozen (k * 3 + 2)
      have HB2 := Lib.hid (HB.out.trans (hb2.mono HB.out.size))
      clear hb2
      go_wp2
      go_roundw
      case rel =>
        refine ⟨k + 1, _, by omega, by go_num, (((HK2.out).set_ _ _).set_ _ _).set_ _ _, by simp [HS.out], (((HB2.out).setCell (Nat.le_refl _) _).setCell (Nat.le_refl _) _).setCell (Nat.le_refl _) _, ?_⟩
        have hkx : k < xs.length := by rw [HL.out]; exact hlt
        have hsz : arr.size = n * 3 := HS.out
        rw [List.take_succ_eq_append_getElem hkx, v3_append, ← HA.out]
        have hx : xs[k] = x := by have := HX.out; simpa [List.getD, hkx] using this
        rw [hx]
        apply List.ext_getElem?
        intro j
        rcases Nat.lt_or_ge j (k * 3) with h1 | h1
        · rw [List.getElem?_append_left (by simp; omega), List.getElem?_take_of_lt (by omega), List.getElem?_take_of_lt h1]
          simp only [Array.toList_setIfInBounds]
          rw [List.getElem?_set_ne (by omega), List.getElem?_set_ne (by omega), List.getElem?_set_ne (by omega)]
        · rw [List.getElem?_append_right (by simp; omega)]
          have e1 : (List.take (k * 3) arr.toList).length = k * 3 := by simp; omega
          rw [e1]
          obtain ⟨r, rfl⟩ : ∃ r, j = k * 3 + r := ⟨j - k * 3, by omega⟩
          rw [Nat.add_sub_cancel_left]
          have e2 : v3 [x] = [.int .i64 x.1, .int .i64 x.2.1, .int .i64 x.2.2] := rfl
          rw [e2]
          rcases Nat.lt_or_ge r 3 with h3 | h3
          · rw [List.getElem?_take_of_lt (by omega)]
            simp only [Array.toList_setIfInBounds]
            match r, h3 with
            | 0, _ =>
              show (((arr.toList.set (k * 3) _).set _ _).set _ _)[k * 3]? = _
              rw [List.getElem?_set_ne (by omega), List.getElem?_set_ne (by omega)]
              rw [List.getElem?_set_self (by simp; omega)]; rfl
            | 1, _ =>
              rw [List.getElem?_set_ne (by omega)]
              rw [List.getElem?_set_self (by simp; omega)]; rfl
            | 2, _ => rw [List.getElem?_set_self (by simp; omega)]; rfl
          · rw [List.getElem?_eq_none (by simp; omega), List.getElem?_eq_none (by simp; omega)]
      case measure => simp [intOf]; omega
    · go_wp2
      go_ret
      obtain rfl : k = n := by omega
      have hl := HL.out
      refine ⟨some ⟨w.heap.size, 0, none⟩, k, rfl, ⟨by rw [v3_len, hl], .inr ⟨w.heap.size, k, arr, rfl, Nat.le_refl _, HK.out, Nat.le_refl _, by unfold maxLen; omega, HS.out, ?_⟩⟩, HB.out⟩
      have := HA.out
      rw [this, ← hl, List.take_length]

set_option maxHeartbeats 1000000 in
theorem markBoundS_any (base : Nat) (A : Option Addr) (n c : Nat) (xs : List Bd) (k0 : Int) (w : World) (h : OwnB w base A n c xs) (hn : n ≤ 1048576) (hk0 : 1 ≤ k0 ∧ k0 ≤ 100000000) :
    Calls Try.prog 43 #[.slice A n c, .int .i64 k0] w fun e w' => e = .returned (.int .i64 (k0 + 3 * (n : Int))) ∧ OwnB w' base A n c (seqBound k0 n) ∧ w.grownBy w' (Value.ownBlock (.slice A n c)) := by
  have HL := Lib.hid h.len
  obtain ⟨hk00, hk01⟩ := hk0
  go_enter Try.func43, Try.ntmps43
  go_wp2
  go_loopw [1, 5] (fun s i wr => ∃ k : Nat, k ≤ n ∧ i = .int .i64 k ∧ s = .int .i64 (k0 + 3 * (k : Int)) ∧ OwnB wr base A n c (seqBound k0 k ++ xs.drop k) ∧ w.grownBy wr (Value.ownBlock (.slice A n c))) (fun _ i _ => n - (intOf i).toNat)
  case atStart => exact ⟨0, Nat.zero_le _, rfl, by simp, by simpa [seqBound] using h, grown_rfZ _ _⟩
  case round =>
    obtain ⟨wo, rfl⟩ : ∃ wo : World, wo = wr := ⟨_, rfl⟩
    obtain ⟨k, hk, rfl, rfl, hown, hg⟩ := hrel
    have HO := Lib.hid hown
    have HG := Lib.hid hg
    clear hown hg
    by_cases hlt : k < n
    · obtain ⟨g, rfl, hbg, hgl⟩ := own_cellsZ HO.out (by omega)
      obtain ⟨b', off', e', hd⟩ := HO.out.at_.cells (by omega)
      cases e'
      obtain ⟨d0, d1, d2⟩ := hd k hlt
      clear hd
      rw [Nat.zero_add] at d0 d1 d2
      have f0 := HO.out.frozenAt (k * 3)
      have f1 := HO.out.frozenAt (k * 3 + 1)
      have f2 := HO.out.frozenAt (k * 3 + 2)
      go_wp2
      go_roundw
      case rel =>
        refine ⟨k + 1, by omega, by go_num, by go_num, ?_, ?_⟩
        · have hkx : k < xs.length := by rw [HL.out]; exact hlt
          have h1 := own_setZ (own_setZ (own_setZ HO.out (k * 3) (.int .i64 (k0 + 3 * (k : Int)))) (k * 3 + 1) (.int .i64 (k0 + 3 * (k : Int) + 1))) (k * 3 + 2) (.int .i64 (k0 + 3 * (k : Int) + 1 + 1))
          have h2 := setBound (xs.drop (k + 1)) (seqBound k0 k) xs[k] (k0 + 3 * (k : Int), k0 + 3 * (k : Int) + 1, k0 + 3 * (k : Int) + 1 + 1)
          rw [seqBound_len, ← List.drop_eq_getElem_cons hkx] at h2
          rw [h2] at h1
          rw [seqBound_succ, List.append_assoc]
          have e3 : k0 + 3 * (k : Int) + 1 + 1 = k0 + 3 * (k : Int) + 2 := by omega
          rw [e3] at h1
          simpa [e3] using h1
        · have g1 := (HO.out.stored (k * 3) (.int .i64 (k0 + 3 * (k : Int)))).2
          have g2 := ((own_setZ HO.out (k * 3) (.int .i64 (k0 + 3 * (k : Int)))).stored (k * 3 + 1) (.int .i64 (k0 + 3 * (k : Int) + 1))).2
          have g3 := ((own_setZ (own_setZ HO.out (k * 3) (.int .i64 (k0 + 3 * (k : Int)))) (k * 3 + 1) (.int .i64 (k0 + 3 * (k : Int) + 1))).stored (k * 3 + 2) (.int .i64 (k0 + 3 * (k : Int) + 1 + 1))).2
          exact grown_trZ (grown_trZ (grown_trZ HG.out g1) g2) g3
      case measure => simp [intOf]; omega
    · obtain rfl : k = n := by omega
      go_wp2
      go_ret
      refine ⟨rfl, ?_, HG.out⟩
      have := HO.out
      rwa [List.drop_eq_nil_of_le (by rw [HL.out]; exact Nat.le_refl _), List.append_nil] at this

theorem kMarkBound {Pr : Program} {f : FuncId} {args : Array Value} {w : World} {R : Ending → World → Prop} {base : Nat} {A : Option Addr} {n c : Nat} {e : TypeId} {size : Nat} {xs : List Value} {v : Int} {row : Option Nat}
    (h : Calls Pr f args w fun en w' => en = .returned (.int .i64 v) ∧ w'.ownsRow base e size (.slice A n c) n xs ∧ w.grownBy w' row)
    (h1 : ∀ w', w'.ownsRow base e size (.slice A n c) n xs → w.grownBy w' row → R (.returned (.int .i64 v)) w') : Calls Pr f args w R :=
  h.mono fun e w' ⟨he, ho, hg⟩ => by subst he; exact h1 w' ho hg


def NewPlanO (w : World) (p : Int) (n : Nat) (bs : List Bd) (e : Ending) (w' : World) : Prop :=
  ∃ A c, e = .returned (.agg #[.int .i64 p, .slice A n c]) ∧ OwnB w' w.heap.size A n c bs ∧ Below w.heap.size w w'
theorem kPlanO {Pr : Program} {f : FuncId} {args : Array Value} {w : World} {R : Ending → World → Prop} {p : Int} {n : Nat} {bs : List Bd} (h : Calls Pr f args w (NewPlanO w p n bs))
    (h1 : ∀ A c w', OwnB w' w.heap.size A n c bs → Below w.heap.size w w' → R (.returned (.agg #[.int .i64 p, .slice A n c])) w') : Calls Pr f args w R :=
  h.mono fun e w' ⟨A, c, he, hi, hb⟩ => by subst he; exact h1 A c w' hi hb
theorem toPlan_own (p : Int) (A : Option Addr) (n c : Nat) (bs : List Bd) (w : World) (h : BndsAt w A n bs) (hn : n ≤ 1048576) :
    Calls Try.prog 11 #[.agg #[.int .i64 p, .slice A n c]] w (NewPlanO w p n bs) := by
  have hB0 : Below w.heap.size w (((w.alloc (.cells #[.int .i64 p, .slice A n c] 24)).alloc (.cells #[.int .i64 0, .slice none 0 0] 31)).alloc (.cells #[.int .i64 p, .slice none 0 0] 31)) :=
    (((Below.refl w.heap.size w).alloc (Nat.le_refl _) _).alloc (by simp) _).alloc (by simp; omega) _
  have hI := h.below hB0
  go_enter Try.func11, Try.ntmps11
  go_wp2_with (fail)
  refine kNewOwnB (toBoundS_own A n c bs _ hI hn) ?_
  intro A1 c1 w1 hI1 hb1
  have e1 : w1.cell? ⟨w.heap.size + 1 + 1, 0, none⟩ = some (.int .i64 p) := keep hb1 (by simp [go_sem])
  have e2 : w1.cell? ⟨w.heap.size + 1 + 1, 1, none⟩ = some (.slice none 0 0) := keep hb1 (by simp [go_sem])
  have e3 : w1.cell? ⟨w.heap.size + 1, 0, none⟩ = some (.int .i64 0) := keep hb1 (by simp [go_sem])
  have e4 : w1.cell? ⟨w.heap.size + 1, 1, none⟩ = some (.slice none 0 0) := keep hb1 (by simp [go_sem])
  have f2 : w1.frozen? ⟨w.heap.size + 1 + 1, 1, none⟩ = false := ((bcell hb1).2 _ _ (by simp)).trans (by simp [go_sem])
  have f3 : w1.frozen? ⟨w.heap.size + 1, 0, none⟩ = false := ((bcell hb1).2 _ _ (by simp)).trans (by simp [go_sem])
  have f4 : w1.frozen? ⟨w.heap.size + 1, 1, none⟩ = false := ((bcell hb1).2 _ _ (by simp)).trans (by simp [go_sem])
  have hz1 : w.heap.size + 2 < w1.heap.size := by have := hb1.size; simp at this; omega
  have hB1 : Below w.heap.size w w1 := hB0.trans (hb1.mono (by simp; omega))
  have hbase : ∀ (q : Nat) (v : World), v.ownsRow q 74 3 (.slice A1 n c1) n (v3 bs) → w.heap.size ≤ q → v.ownsRow w.heap.size 74 3 (.slice A1 n c1) n (v3 bs) := fun q v hv hq => own_base hv hq
  go_wp2_with (fail)
  refine bodyPost_ret (v := .agg #[.int .i64 p, .slice A1 n c1]) (by simp [results, Try.results11, go_sem, e3, e4]) rfl ⟨A1, c1, rfl, ?_, ?_⟩
  · exact hbase _ _ (own_setOldZ (own_setOldZ (own_setOldZ hI1 (by simp) _ _) (by simp) _ _) (by simp) _ _) (by first | omega | (simp <;> omega))
  · exact ((hB1.setCell (by simp; omega) _).setCell (by simp) _).setCell (by simp) _

theorem markPlan_any (p : Int) (base : Nat) (A : Option Addr) (n c : Nat) (xs : List Bd) (w : World) (h : OwnB w base A n c xs) (hn : n ≤ 1048576) :
    Calls Try.prog 19 #[.agg #[.int .i64 p, .slice A n c], .int .i64 1] w fun e w' => e = .returned (.int .i64 (1 + 3 * (n : Int))) ∧ w.grownBy w' (Value.ownBlock (.slice A n c)) := by
  go_enter Try.func19, Try.ntmps19
  go_wp2_with (fail)
  refine (markBoundS_any base A n c xs 1 _ (h.alloc _) hn (by omega)).mono ?_
  rintro e w' ⟨rfl, -, hg⟩
  go_wp2
  go_ret
  exact ⟨rfl, grown_trZ (World.grownBy_alloc _ _ _) hg⟩

end Go.Proofs.Ytkmimebfnnemoaa
