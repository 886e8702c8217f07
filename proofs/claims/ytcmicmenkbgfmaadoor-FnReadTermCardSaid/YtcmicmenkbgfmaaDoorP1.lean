/- Plans: rows of bounds in memory; slices.ContainsFunc over bounds with any closure; boundOk; both PlanOk functions. -/
import Derived.Test.YtcmicmenkbgfmaaDoorTBound
namespace Go.Proofs.YtcmicmenkbgfmaaDoor
open Go.RowKit

/-- A bound: from, to, most. -/
abbrev Bd := Int × Int × Int

theorem IndexFuncBnd_any (P : Bd → Prop) (kf : FuncId) (caps : Array Value) (A : Option Addr) (n c : Nat) (bs : List Bd) (w : World) (h : BndsAt w A n bs) (hn : n ≤ 1048576)
    (hcall : ∀ (ar : Array Value) (W : World), (callFunc kf ar).run Tryd.prog W = .ok (.enter kf ar) W)
    (hf : Hid (∀ (W : World) (x : Bd), x ∈ bs → Below w.heap.size w W → Calls Tryd.prog kf (#[.agg #[.int .i64 x.1, .int .i64 x.2.1, .int .i64 x.2.2]] ++ caps) W (Bl W (.bool (B (P x)))))) :
    Calls Tryd.prog 53 #[.slice A n c, .func (.func kf) #[] caps] w (IdxSome w (∃ x ∈ bs, P x)) := by
  have HL := Lib.hid h.len
  go_enter Tryd.func53, Tryd.ntmps53
  go_wp2
  go_loopw [8] (fun i wr => ∃ k : Nat, k ≤ n ∧ i = .int .i64 k ∧ Below w.heap.size w wr ∧ ∀ j, j < k → ¬ P (bs.getD j (0, 0, 0))) (fun i _ => n - (intOf i).toNat)
  case atStart => exact ⟨0, Nat.zero_le _, rfl, Below.refl _ _, fun j hj => by omega⟩
  case round =>
    obtain ⟨k, hk, rfl, hb, hnf⟩ := hrel
    have HN := Lib.hid hnf
    have HB := Lib.hid hb
    clear hnf hb
    by_cases hlt : k < n
    · obtain ⟨b, off, rfl, hc⟩ := (h.below HB.out).cells (by omega)
      obtain ⟨hc0, hc1, hc2⟩ := hc k hlt
      clear hc
      obtain ⟨x, HX⟩ : ∃ q, Hid (bs.getD k (0, 0, 0) = q) := ⟨_, rfl⟩
      rw [HX.out] at hc0 hc1 hc2
      have HM : Hid (x ∈ bs) := Lib.hid (by
        have : k < bs.length := by rw [HL.out]; exact hlt
        rw [← HX.out]
        simp [List.getD, this])
      go_wp2_with (fail)
      refine kB (hf.out _ x HM.out HB.out) ?_ ?_
      · intro w2 hp hb2
        go_wp2
        go_ret
        exact ⟨_, rfl, ⟨fun _ => ⟨x, HM.out, hp.out⟩, fun _ => by omega⟩, HB.out.trans (hb2.mono HB.out.size)⟩
      · intro w2 hp hb2
        go_wp2
        go_roundw
        case rel =>
          refine ⟨k + 1, by omega, by go_num, HB.out.trans (hb2.mono HB.out.size), fun j hj => ?_⟩
          rcases Nat.lt_or_ge j k with h1 | h1
          · exact HN.out j h1
          · obtain rfl : j = k := by omega
            rw [HX.out]; exact hp.out
        case measure => simp [intOf]; omega
    · go_wp2
      go_ret
      obtain rfl : k = n := by omega
      refine ⟨_, rfl, ⟨fun h => by omega, ?_⟩, HB.out⟩
      rintro ⟨x, hx, hp⟩
      obtain ⟨j, hj, rfl⟩ := List.mem_iff_getElem.1 hx
      refine absurd hp ?_
      have := HN.out j (by rw [← HL.out]; exact hj)
      simpa [List.getD, hj] using this

theorem ContainsFuncBnd_any (P : Bd → Prop) (kf : FuncId) (caps : Array Value) (A : Option Addr) (n c : Nat) (bs : List Bd) (w : World) (h : BndsAt w A n bs) (hn : n ≤ 1048576)
    (hcall : ∀ (ar : Array Value) (W : World), (callFunc kf ar).run Tryd.prog W = .ok (.enter kf ar) W)
    (hf : Hid (∀ (W : World) (x : Bd), x ∈ bs → Below w.heap.size w W → Calls Tryd.prog kf (#[.agg #[.int .i64 x.1, .int .i64 x.2.1, .int .i64 x.2.2]] ++ caps) W (Bl W (.bool (B (P x)))))) :
    Calls Tryd.prog 43 #[.slice A n c, .func (.func kf) #[] caps] w (Bl w (.bool (B (∃ x ∈ bs, P x)))) := by
  go_enter Tryd.func43, Tryd.ntmps43
  go_wp2_with (fail)
  refine (IndexFuncBnd_any P kf caps A n c bs w h hn hcall hf).mono ?_
  rintro e w' ⟨i, rfl, hi, hb⟩
  have HI := Lib.hid hi
  clear hi
  go_wp2
  go_ret
  refine ⟨ret_b ?_, hb⟩
  by_cases hp : 0 ≤ i
  · rw [B_true (HI.out.1 hp)]; simpa using hp
  · rw [B_false (fun h => hp (HI.out.2 h))]; simpa using hp

/-- A point of a plan of p points (p - 1 as the machine has it). -/
def HasPt (p q : Int) : Prop := InR q 0 (wrap64 (p - 1))
def BdOk (p : Int) (b : Bd) : Prop := HasPt p b.1 ∧ HasPt p b.2.1 ∧ InR b.2.2 (-99) 99
def PlOk (p : Int) (bs : List Bd) : Prop := InR p 1 6 ∧ bs.length ≤ 16 ∧ ∀ b ∈ bs, BdOk p b

theorem has_any (p : Int) (v : Value) (q : Int) (w : World) :
    Calls Tryd.prog 54 #[.agg #[.int .i64 p, v], .int .i64 q] w (Bl w (.bool (B (HasPt p q)))) := by
  go_enter Tryd.func54, Tryd.ntmps54
  go_wp2_with (go_at_call 34; refine kV (in_any _ _ _ _) ?_)
  go_ret
  exact ⟨rfl, (Below.refl _ _).alloc (Nat.le_refl _) _⟩

theorem boundOk_any (p : Int) (A : Option Addr) (n c : Nat) (x : Bd) (w : World) :
    Calls Tryd.prog 45 #[.agg #[.int .i64 p, .slice A n c], .agg #[.int .i64 x.1, .int .i64 x.2.1, .int .i64 x.2.2]] w (Bl w (.bool (B (BdOk p x)))) := by
  obtain ⟨x0, x1, x2⟩ := x
  have hB0 : Below w.heap.size w ((w.alloc (.cells #[.int .i64 p, .slice A n c] 48)).alloc (.cells #[.int .i64 x0, .int .i64 x1, .int .i64 x2] 78)) := ((Below.refl w.heap.size w).alloc (Nat.le_refl _) _).alloc (by simp) _
  go_enter Tryd.func45, Tryd.ntmps45
  go_wp2_with (fail)
  refine kB (has_any p _ x0 _) ?_ ?_
  · intro w1 hp hb1
    have hB1 : Below w.heap.size w w1 := hB0.trans (hb1.mono hB0.size)
    have e0 : w1.cell? ⟨w.heap.size, 0, none⟩ = some (.int .i64 p) := keep hb1 (by simp [go_sem])
    have e1 : w1.cell? ⟨w.heap.size, 1, none⟩ = some (.slice A n c) := keep hb1 (by simp [go_sem])
    have e2 : w1.cell? ⟨w.heap.size + 1, 1, none⟩ = some (.int .i64 x1) := keep hb1 (by simp [go_sem])
    have e3 : w1.cell? ⟨w.heap.size + 1, 2, none⟩ = some (.int .i64 x2) := keep hb1 (by simp [go_sem])
    go_wp2_with (fail)
    refine kB (has_any p _ x1 _) ?_ ?_
    · intro w2 hq hb2
      have hB2 : Below w.heap.size w w2 := hB1.trans (hb2.mono hB1.size)
      have e3' : w2.cell? ⟨w.heap.size + 1, 2, none⟩ = some (.int .i64 x2) := keep hb2 e3
      clear e0 e1 e2 e3
      go_wp2_with (fail)
      refine kS (in_any x2 (-99) 99 w2) ?_ ?_ <;> intro hr
      · go_wp2
        go_ret
        exact ⟨ret_b (B_true ⟨hp.out, hq.out, hr.out⟩).symm, hB2⟩
      · go_wp2
        go_ret
        exact ⟨ret_b (B_false (fun hh => hr.out hh.2.2)).symm, hB2⟩
    · intro w2 hq hb2
      go_wp2
      go_ret
      exact ⟨ret_b (B_false (fun hh => hq.out hh.2.1)).symm, hB1.trans (hb2.mono hB1.size)⟩
  · intro w1 hp hb1
    go_wp2
    go_ret
    exact ⟨ret_b (B_false (fun hh => hp.out hh.1)).symm, hB0.trans (hb1.mono hB0.size)⟩

theorem PlanOk1_any (p : Int) (A : Option Addr) (n c : Nat) (x : Bd) (g : Nat) (w : World) (h0 : w.cell? ⟨g, 0, none⟩ = some (.int .i64 p)) (h1 : w.cell? ⟨g, 1, none⟩ = some (.slice A n c)) :
    Calls Tryd.prog 44 #[.agg #[.int .i64 x.1, .int .i64 x.2.1, .int .i64 x.2.2], .pointer (some ⟨g, 0, none⟩)] w (Bl w (.bool (B (¬ BdOk p x)))) := by
  have hg : g < w.heap.size := cell_lt h0
  have hB0 : Below w.heap.size w (w.alloc (.cells #[.int .i64 x.1, .int .i64 x.2.1, .int .i64 x.2.2] 78)) := (Below.refl w.heap.size w).alloc (Nat.le_refl _) _
  go_enter Tryd.func44, Tryd.ntmps44
  go_wp2_with (fail)
  refine kB (boundOk_any p A n c x _) ?_ ?_
  · intro w1 hp hb1
    go_wp2
    go_ret
    exact ⟨ret_b (B_false (fun hh => hh hp.out)).symm, hB0.trans (hb1.mono hB0.size)⟩
  · intro w1 hp hb1
    go_wp2
    go_ret
    exact ⟨ret_b (B_true hp.out).symm, hB0.trans (hb1.mono hB0.size)⟩

theorem iPlanOk_any (p : Int) (A : Option Addr) (n c : Nat) (bs : List Bd) (w : World) (h : BndsAt w A n bs) :
    Calls Tryd.prog 27 #[.agg #[.int .i64 p, .slice A n c]] w (Bl w (.bool (B (PlOk p bs)))) := by
  have HL := Lib.hid h.len
  have hB0 : Below w.heap.size w (w.alloc (.cells #[.int .i64 p, .slice A n c] 48)) := (Below.refl w.heap.size w).alloc (Nat.le_refl _) _
  by_cases h16 : n ≤ 16
  · go_enter Tryd.func27, Tryd.ntmps27
    go_wp2_with (fail)
    refine kS (in_any p 1 6 _) ?_ ?_ <;> intro hp
    · go_wp2_with (fail)
      refine kB (ContainsFuncBnd_any (fun x => ¬ BdOk p x) _ _ A n c bs _ (h.below hB0) (by omega) (enters Tryd.func44 (by kernel_rfl) (by kernel_rfl)) (Lib.hid fun W x _ hW => PlanOk1_any p A n c x _ W (keep hW (by simp [go_sem])) (keep hW (by simp [go_sem])))) ?_ ?_
      · intro w1 hq hb1
        go_wp2
        go_ret
        refine ⟨ret_b (B_false (fun hh => ?_)).symm, hB0.trans (hb1.mono hB0.size)⟩
        obtain ⟨x, hx, hn⟩ := hq.out
        exact hn (hh.2.2 x hx)
      · intro w1 hq hb1
        go_wp2
        go_ret
        refine ⟨ret_b (B_true ⟨hp.out, by rw [HL.out]; exact h16, fun x hx => ?_⟩).symm, hB0.trans (hb1.mono hB0.size)⟩
        by_cases hr : BdOk p x
        · exact hr
        · exact absurd ⟨x, hx, hr⟩ hq.out
    · go_wp2
      go_ret
      exact ⟨ret_b (B_false (fun hh => hp.out hh.1)).symm, hB0⟩
  · go_enter Tryd.func27, Tryd.ntmps27
    go_wp2_with (fail)
    refine kS (in_any p 1 6 _) ?_ ?_ <;> intro hp
    all_goals
      go_wp2
      go_ret
      exact ⟨ret_b (B_false (fun hh => h16 (by rw [← HL.out]; exact hh.2.1))).symm, hB0⟩


end Go.Proofs.YtcmicmenkbgfmaaDoor
