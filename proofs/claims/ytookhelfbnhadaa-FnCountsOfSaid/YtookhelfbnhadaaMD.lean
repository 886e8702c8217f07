/- How long a term lasts: plain facts; l12Last, (*part).last, both LastOf. -/
import Derived.Test.YtookhelfbnhadaaM8
namespace Go.Proofs.Ytookhelfbnhadaa
open Go.RowKit

/-- How long a part lasts by the lengths from f on, whether that may be. -/
noncomputable def lastV : Tm → List Int → Nat → Int × Bool
  | .step l h, xs, f => (xs.getD f 0, B (InR (xs.getD f 0) l h))
  | .one a h, xs, f => ((lastV a xs f).1, (lastV a xs f).2 && decide ((lastV a xs f).1 ≤ h))
  | .two k a b, xs, f => if k = 1 then (wrap64 ((lastV a xs f).1 + (lastV b xs (f + stepsT a)).1), (lastV a xs f).2 && (lastV b xs (f + stepsT a)).2)
      else ((lastV a xs f).1, (lastV a xs f).2 && (lastV b xs (f + stepsT a)).2 && decide ((lastV a xs f).1 = (lastV b xs (f + stepsT a)).1))
theorem lastV_drop (t : Tm) : ∀ (xs : List Int) (g f : Nat), lastV t (xs.drop g) f = lastV t xs (g + f) := by
  induction t with
  | step l h => intro xs g f; simp [lastV, List.getD]
  | one a h ih => intro xs g f; simp only [lastV, ih]
  | two k a b iha ihb => intro xs g f; simp only [lastV, iha, ihb, Nat.add_assoc]
theorem stepsIn_append (xs ys : List Mk) : stepsIn (xs ++ ys) = stepsIn xs + stepsIn ys := by simp [stepsIn]
theorem stepsIn_marks {t : Tm} (w : Wf t) : stepsIn (marksOf t) = stepsT t := by
  induction t with
  | step l h => simp [marksOf, stepsT, stepsIn]
  | one a h ih => rw [marksOf, stepsIn_append, ih w.1]; simp [stepsT, stepsIn]
  | two k a b iha ihb =>
    rw [marksOf, stepsIn_append, stepsIn_append, iha w.2.1, ihb w.2.2]
    have : k ≠ 0 := by rcases w.1 with h | h <;> omega
    simp [stepsT, stepsIn, this]
theorem stepsT_pos (t : Tm) : 0 < stepsT t := by
  induction t with
  | step l h => simp [stepsT]
  | one a h ih => exact ih
  | two k a b iha ihb => simp only [stepsT]; omega
def last3 (x : Int × Bool) (n : Nat) : Value := .tuple #[.int .i64 x.1, .bool x.2, .int .i64 (n : Int)]
theorem IntsAt.get {w : World} {A : Option Addr} {n : Nat} {xs : List Int} (h : IntsAt w A n xs) {k : Nat} (hk : k < n) : ∃ b off, A = some ⟨b, off, none⟩ ∧ w.cell? ⟨b, off + k, none⟩ = some (.int .i64 (xs.getD k 0)) := by
  obtain ⟨b, off, e, hc⟩ := h.cells (by omega)
  exact ⟨b, off, e, hc k hk⟩


/-- What last leaves: how long, the lengths behind, whether. -/
def Lasted (x : Int × Bool) (n : Nat) (ys : List Int) (w : World) (e : Ending) (w' : World) : Prop :=
  ∃ (A : Option Addr) (c m : Nat), e = .returned (.tuple #[.int .i64 x.1, .slice A n c, .bool x.2]) ∧ w' = w.drewN m ∧ n ≤ c ∧ IntsAt w A n ys
theorem kLasted {Pr : Program} {f : FuncId} {args : Array Value} {w : World} {K : Ending → World → Prop} {x : Int × Bool} {n : Nat} {ys : List Int} (h : Calls Pr f args w (Lasted x n ys w))
    (h1 : ∀ A c m, n ≤ c → IntsAt w A n ys → K (.returned (.tuple #[.int .i64 x.1, .slice A n c, .bool x.2])) (w.drewN m)) : Calls Pr f args w K :=
  h.mono fun e w' ⟨A, c, m, he, hw, hc, hi⟩ => by subst he; subst hw; exact h1 A c m hc hi
theorem IntsAt.tail {w : World} {b off n c : Nat} {ys : List Int} (h : IntsAt w (some ⟨b, off, none⟩) n ys) (hn : 1 ≤ n) (hc : n ≤ c) : IntsAt w (if c = 1 then some ⟨b, off, none⟩ else some ⟨b, off + 1, none⟩) (n - 1) (ys.drop 1) := by
  have hl := h.len
  refine ⟨by simp [hl], fun hp => ?_⟩
  rw [if_neg (by omega)]
  obtain ⟨b', off', e, hcell⟩ := h.cells (by omega)
  cases e
  refine ⟨b, off + 1, rfl, fun j hj => ?_⟩
  have := hcell (1 + j) (by omega)
  rw [Nat.add_assoc, this]
  simp [List.getD, Nat.add_comm]

set_option maxRecDepth 100000 in
set_option maxHeartbeats 2000000 in
theorem last_any (t : Tm) : Wf t → ∀ (a : Addr) (A' : Option Addr) (n' c' : Nat) (ys : List Int) (w : World), Pt TT w t a → IntsAt w A' n' ys → stepsT t ≤ n' → n' ≤ c' → n' ≤ 1048576 →
    Calls Try.prog 66 #[.pointer (some a), .slice A' n' c'] w (Lasted (lastV t ys 0) (n' - stepsT t) (ys.drop (stepsT t)) w) := by
  induction t with
  | step l h =>
    intro wf a A' n' c' ys w hp hi hs hc hn'
    obtain ⟨b, off, A, c, rfl, c0, c1, c2, c3⟩ := hp.openStep
    simp only [stepsT, lastV] at hs ⊢
    obtain ⟨b', off', rfl, d0⟩ := hi.get (k := 0) (by omega)
    have htl := hi.tail hs hc
    obtain ⟨Ad, hif⟩ : ∃ Ad, (if c' = 1 then some (⟨b', off', none⟩ : Addr) else some ⟨b', off' + 1, none⟩) = Ad := ⟨_, rfl⟩
    rw [hif] at htl
    have HTL := Lib.hid htl
    clear htl
    obtain ⟨zs, HZ⟩ : ∃ q, Hid (ys.drop 1 = q) := ⟨_, rfl⟩
    rw [HZ.out] at HTL ⊢
    rw [Nat.add_zero] at d0
    obtain ⟨x, HX⟩ : ∃ q, Hid (ys.getD 0 0 = q) := ⟨_, rfl⟩
    rw [HX.out] at d0 ⊢
    clear hp hi
    have hfi : (0 : Int) < (n' : Int) := by omega
    have hfj : (1 : Int) ≤ (n' : Int) := by omega
    go_enter Try.func66, Try.ntmps66
    go_wp2_with (fail)
    go_quiet ((go_at_call 57; exact qS (in_any _ _ _ _)))
    go_wp2
    refine bodyPost_ret (v := .tuple #[.int .i64 x, .slice Ad (n' - 1) (c' - 1), .bool (B (InR x l h))]) (by simp [results, Try.results66, go_sem]) rfl ⟨Ad, _, _, rfl, rfl, by omega, HTL.out⟩
  | one x h ih =>
    intro wf a A' n' c' ys w hp hi hs hc hn'
    obtain ⟨b, off, kb, ko, c, ax, rfl, c0, c1, c2, c3, k0, hx⟩ := hp.openOne
    simp only [stepsT, lastV] at hs ⊢
    have IH := Lib.hid (ih wf.1 ax A' n' c' ys)
    have HX := Lib.hid hx
    obtain ⟨V, HV⟩ : ∃ q, Hid (lastV x ys 0 = q) := ⟨_, rfl⟩
    rw [HV.out] at IH ⊢
    obtain ⟨n, ok⟩ := V
    obtain ⟨l, HLL⟩ : ∃ q, Hid (n' - stepsT x = q) := ⟨_, rfl⟩
    obtain ⟨zs, HZ⟩ : ∃ q, Hid (ys.drop (stepsT x) = q) := ⟨_, rfl⟩
    rw [HLL.out, HZ.out] at IH ⊢
    clear ih hp hx
    cases ok
    all_goals
      go_enter Try.func66, Try.ntmps66
      go_wp2_with (fail)
      refine kLasted (IH.out _ HX.out hi hs hc hn') ?_
      intro A2 c2' m hc2 hi2
      go_wp2
      go_quiet (fail)
      go_wp2
      refine bodyPost_ret (v := .tuple #[.int .i64 n, .slice A2 l c2', .bool _]) (by simp [results, Try.results66, go_sem]) rfl ⟨A2, c2', _, rfl, dd _ _ _, hc2, hi2⟩
  | two k x y ihx ihy =>
    intro wf a A' n' c' ys w hp hi hs hc hn'
    obtain ⟨b, off, kb, ko, c, ax, ay, rfl, c0, c1, c2, c3, k0, k1, hx, hy⟩ := hp.openTwo
    simp only [stepsT, lastV, Nat.zero_add] at hs ⊢
    have IHX := Lib.hid (ihx wf.2.1 ax A' n' c' ys)
    have IHY := Lib.hid (fun A n c => ihy wf.2.2 ay A n c (ys.drop (stepsT x)))
    have hd := lastV_drop y ys (stepsT x) 0
    rw [Nat.add_zero] at hd
    rw [hd] at IHY
    have HX := Lib.hid hx
    have HY := Lib.hid hy
    obtain ⟨V, HVx⟩ : ∃ q, Hid (lastV x ys 0 = q) := ⟨_, rfl⟩
    rw [HVx.out] at IHX ⊢
    obtain ⟨a1, one⟩ := V
    obtain ⟨V, HVy⟩ : ∃ q, Hid (lastV y ys (stepsT x) = q) := ⟨_, rfl⟩
    rw [HVy.out] at IHY ⊢
    obtain ⟨a2, two⟩ := V
    rw [← List.drop_drop]
    obtain ⟨s1, HS1⟩ : ∃ q, Hid (stepsT x = q) := ⟨_, rfl⟩
    obtain ⟨s2, HS2⟩ : ∃ q, Hid (stepsT y = q) := ⟨_, rfl⟩
    rw [HS1.out] at IHX IHY hs ⊢
    rw [HS2.out] at IHY hs ⊢
    have HNN := Lib.hid (show n' - s1 - s2 = n' - (s1 + s2) by omega)
    rw [← HNN.out]
    obtain ⟨l1, HL1⟩ : ∃ q, Hid (n' - s1 = q) := ⟨_, rfl⟩
    have hl1 : s2 ≤ l1 ∧ l1 ≤ 1048576 := by rw [← HL1.out]; omega
    obtain ⟨hl1, hl1'⟩ := hl1
    rw [HL1.out] at IHX ⊢
    obtain ⟨l2, HL2⟩ : ∃ q, Hid (l1 - s2 = q) := ⟨_, rfl⟩
    have IHY2 := Lib.hid (fun A c w => IHY.out A l1 c w)
    rw [HL2.out] at IHY2 ⊢
    clear ihx ihy hp hx hy hd IHY HNN
    have c1' := c1
    rcases wf.1 with rfl | rfl
    · rw [if_pos rfl]
      cases one <;> cases two
      all_goals
        go_enter Try.func66, Try.ntmps66
        go_wp2_with (fail)
        refine kLasted (IHX.out _ HX.out hi (by omega) hc hn') ?_
        intro A2 c2' m hc2 hi2
        go_wp2_with (fail)
        refine kLasted (IHY2.out A2 c2' _ (HY.out.drewN m) (hi2.drewN m) hl1 hc2 hl1') ?_
        intro A3 c3' m3 hc3 hi3
        rw [dd]
        go_wp2
        refine bodyPost_ret (v := .tuple #[.int .i64 (wrap64 (a1 + a2)), .slice A3 l2 c3', .bool _]) (by simp [results, Try.results66, go_sem]) rfl ⟨A3, c3', _, rfl, rfl, hc3, ⟨hi3.len, hi3.cells⟩⟩
    · rw [if_neg (by decide)]
      by_cases hab : a1 = a2
      · have HD := Lib.hid (show decide (a1 = a2) = true by simpa using hab)
        rw [HD.out]
        subst hab
        cases one <;> cases two
        all_goals
          go_enter Try.func66, Try.ntmps66
          go_wp2_with (fail)
          refine kLasted (IHX.out _ HX.out hi (by omega) hc hn') ?_
          intro A2 c2' m hc2 hi2
          go_wp2_with (fail)
          refine kLasted (IHY2.out A2 c2' _ (HY.out.drewN m) (hi2.drewN m) hl1 hc2 hl1') ?_
          intro A3 c3' m3 hc3 hi3
          rw [dd]
          go_wp2
          refine bodyPost_ret (v := .tuple #[.int .i64 a1, .slice A3 l2 c3', .bool _]) (by simp [results, Try.results66, go_sem]) rfl ⟨A3, c3', _, rfl, rfl, hc3, ⟨hi3.len, hi3.cells⟩⟩
      · have q0 : (a1 == a2) = false := by simpa using hab
        have HD := Lib.hid (show decide (a1 = a2) = false by simpa using hab)
        rw [HD.out]
        clear hab
        cases one <;> cases two
        all_goals
          go_enter Try.func66, Try.ntmps66
          go_wp2_with (fail)
          refine kLasted (IHX.out _ HX.out hi (by omega) hc hn') ?_
          intro A2 c2' m hc2 hi2
          go_wp2_with (fail)
          refine kLasted (IHY2.out A2 c2' _ (HY.out.drewN m) (hi2.drewN m) hl1 hc2 hl1') ?_
          intro A3 c3' m3 hc3 hi3
          rw [dd]
          go_wp2
          refine bodyPost_ret (v := .tuple #[.int .i64 a1, .slice A3 l2 c3', .bool _]) (by simp [results, Try.results66, go_sem]) rfl ⟨A3, c3', _, rfl, rfl, hc3, ⟨hi3.len, hi3.cells⟩⟩

end Go.Proofs.Ytookhelfbnhadaa
