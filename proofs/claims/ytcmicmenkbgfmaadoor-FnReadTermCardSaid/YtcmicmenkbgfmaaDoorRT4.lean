/- The text of a tree of parts: strconv.Itoa, (*part).wrapped, (*part).text; both TermText. -/
import Derived.Test.YtcmicmenkbgfmaaDoorRT3
import Derived.Test.YtcmicmenkbgfmaaDoorMA
import Derived.Test.YtcmicmenkbgfmaaDoorSH
set_option linter.unusedSimpArgs false
namespace Go.Proofs.YtcmicmenkbgfmaaDoor
open Go.RowKit

theorem kVr {Pr : Program} {f : FuncId} {args : Array Value} {w : World} {R : Ending → World → Prop} {v : Value} (h : Calls Pr f args w fun e w' => e = .returned v ∧ w' = w) (h1 : R (.returned v) w) : Calls Pr f args w R :=
  h.mono fun e w' ⟨he, hw⟩ => by subst he; subst hw; exact h1
theorem dec_digits {k : Nat} (hk : k < 20) : dec (k : Int) = Lib.decDigits k := by
  by_cases h : k < 10
  · rw [Lib.decDigits_one h]; unfold dec; rw [if_pos (by omega)]; simp
  · rw [Lib.decDigits_two h (by omega)]; unfold dec; rw [if_neg (by omega)]; simp
theorem itoa_any (n : Int) (h0 : 0 ≤ n) (h1 : n ≤ 19) (w : World) : Calls Tryd.prog 38 #[.int .i64 n] w (Str w (dec n)) := by
  obtain ⟨k, hk, rfl⟩ := dec_cases h0 h1
  refine (Tryd.strconv_Itoa_small k (by omega) w).mono ?_
  rintro e w' ⟨rfl, rfl⟩
  exact ⟨_, rfl, by rw [dec_digits hk], Below.refl _ _⟩

theorem kind_binds (t : Tm) (wf : Wf t) : (([1] : List Int).take 1).contains (markT t).1 = decide (bindsT t < 1) ∧ (([1, 2] : List Int).take 2).contains (markT t).1 = decide (bindsT t < 2) := by
  cases t with
  | step l h => exact ⟨rfl, rfl⟩
  | one a h => exact ⟨rfl, rfl⟩
  | two k a b => rcases wf.1 with rfl | rfl <;> exact ⟨rfl, rfl⟩
def TextI (t : Tm) : Prop := ∀ (a : Addr) (w : World), Pt TT w t a → Calls Tryd.prog 24 #[.pointer (some a)] w (Str w (textT t))
theorem wrapped_any (t : Tm) (m : Nat) (hm : m = 1 ∨ m = 2) (wf : Wf t) (hT : TextI t) (hn : (textT t).length ≤ 75) (a : Addr) (b : Nat) (w : World) (hp : Pt TT w t a) (k1 : w.cell? ⟨b, 0, none⟩ = some (.int .i64 1)) (k2 : m = 2 → w.cell? ⟨b, 1, none⟩ = some (.int .i64 2)) :
    Calls Tryd.prog 37 #[.pointer (some a), .slice (some ⟨b, 0, none⟩) m m] w (Str w (brT (decide (bindsT t < m)) (textT t))) := by
  have HP := Lib.hid hp
  obtain ⟨pb, off, A, c, ps, rfl, _, c0, -⟩ := hp.open
  have HCN := Lib.hid (show Calls Tryd.prog 49 #[.slice (some ⟨b, 0, none⟩) m m, .int .i64 (markT t).1] w (fun e w' => e = .returned (.bool (decide (bindsT t < m))) ∧ w' = w) from by
    rcases hm with rfl | rfl
    · rw [← (kind_binds t wf).1]
      exact Tryd.slices_Contains_int b 0 1 1 [1] _ w (by decide) (by decide) (fun j hj => by obtain rfl : j = 0 := by simpa using hj
                                                                                             exact k1)
    · rw [← (kind_binds t wf).2]
      exact Tryd.slices_Contains_int b 0 2 2 [1, 2] _ w (by decide) (by decide) (fun j hj => by
        have hj2 : j < 2 := hj
        rcases Nat.lt_or_ge j 1 with h | h
        · obtain rfl : j = 0 := by omega
          exact k1
        · obtain rfl : j = 1 := by omega
          exact k2 rfl))
  obtain ⟨kd, HKD⟩ : ∃ q, Hid ((markT t).1 = q) := ⟨_, rfl⟩
  rw [HKD.out] at c0 HCN
  clear k1 k2 hm
  by_cases hq : bindsT t < m
  · rw [decide_eq_true hq] at HCN ⊢
    clear hq
    go_enter Tryd.func37, Tryd.ntmps37
    go_wp2_with (fail)
    refine kVr HCN.out ?_
    go_wp2_with (fail)
    refine kStr (n := 75) (hT _ _ HP.out) hn ?_
    intro S w1 hS hz hb
    go_wp2
    go_ret
    exact ⟨_, rfl, by rw [cat_list, cat_list, hS.out]; simp [brT], hb⟩
  · rw [decide_eq_false hq] at HCN ⊢
    clear hq
    go_enter Tryd.func37, Tryd.ntmps37
    go_wp2_with (fail)
    refine kVr HCN.out ?_
    go_wp2_with (fail)
    refine kStr (n := 75) (hT _ _ HP.out) hn ?_
    intro S w1 hS hz hb
    go_wp2
    go_ret
    exact ⟨_, rfl, by rw [hS.out]; rfl, hb⟩

/-- On from a base, over what the walk itself has made since. -/
theorem on1 {w w1 w2 : World} (h : Below w.heap.size w w1) (o : Obj) (hb : Below (w1.alloc o).heap.size (w1.alloc o) w2) : Below w.heap.size w w2 := (h.alloc h.size _).trans (hb.mono (h.alloc h.size _).size)
theorem on2 {w w1 w2 : World} (h : Below w.heap.size w w1) (o o' : Obj) (hb : Below ((w1.alloc o).alloc o').heap.size ((w1.alloc o).alloc o') w2) : Below w.heap.size w w2 := on1 (h.alloc h.size o) o' hb
theorem on0 {w w1 w2 : World} (h : Below w.heap.size w w1) (hb : Below w1.heap.size w1 w2) : Below w.heap.size w w2 := h.trans (hb.mono h.size)
theorem a1 {w w1 : World} (h : Below w.heap.size w w1) (o : Obj) : Below w.heap.size w (w1.alloc o) := h.alloc h.size o
theorem a2 {w w1 : World} (h : Below w.heap.size w w1) (o o' : Obj) : Below w.heap.size w ((w1.alloc o).alloc o') := a1 (a1 h o) o'

set_option maxRecDepth 100000 in
set_option maxHeartbeats 2000000 in
theorem text_step (l h : Int) (wf : Wf (.step l h)) : TextI (.step l h) := by
  intro a w hp
  obtain ⟨b, off, A, c, rfl, c0, c1, c2, c3⟩ := hp.openStep
  obtain ⟨w1, w2, w3⟩ := wf
  have w4 := Int.le_trans w2 w3
  have w5 := Int.le_trans w1 w2
  have HL := Lib.hid (fun W : World => itoa_any l w1 w4 W)
  have HH := Lib.hid (fun W : World => itoa_any h w5 w3 W)
  have HLL := Lib.hid (dec_len w1 w4)
  have HLH := Lib.hid (dec_len w5 w3)
  clear hp w1 w2 w3 w4 w5
  by_cases hlh : h = l
  · subst hlh
    have HT := Lib.hid (show textT (.step h h) = dec h by simp [textT])
    rw [HT.out]
    go_enter Tryd.func24, Tryd.ntmps24
    go_wp2_with (fail)
    refine kStr (n := 2) (HL.out _) HLL.out ?_
    intro S w1 hS hz hb
    have d1 := keep hb c1
    have d2 := keep hb c2
    go_wp2
    go_region
    all_goals
      go_wp2
      go_ret
      exact ⟨_, rfl, hS.out, by first | exact hb | exact hb.drew⟩
  · have HT := Lib.hid (show textT (.step l h) = dec l ++ 45 :: dec h by simp [textT, Ne.symm hlh])
    rw [HT.out]
    have hlb : (h == l) = false := by simpa using hlh
    clear hlh
    go_enter Tryd.func24, Tryd.ntmps24
    go_wp2_with (fail)
    refine kStr (n := 2) (HL.out _) HLL.out ?_
    intro S w1 hS hz hb
    have d1 := keep hb c1
    have d2 := keep hb c2
    go_wp2_with (fail)
    go_region
    all_goals
      go_wp2_with (fail)
      refine kStr (n := 2) (HH.out _) HLH.out ?_
      intro S2 w2 hS2 hz2 hb2
      go_wp2
      go_ret
      exact ⟨_, rfl, by rw [cat_list, cat_list, hS.out, hS2.out]; simp, by first | exact on0 hb hb2 | exact on0 hb.drew hb2⟩

end Go.Proofs.YtcmicmenkbgfmaaDoor
