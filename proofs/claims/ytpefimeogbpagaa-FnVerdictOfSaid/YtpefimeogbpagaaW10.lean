/- Windows of a plan that goes on; a point that is ready; hasInt. -/
import Derived.Test.YtpefimeogbpagaaW9
import Derived.Test.YtpefimeogbpagaaP3
set_option linter.unusedSimpArgs false
namespace Go.Proofs.Ytpefimeogbpagaa
open Go.RowKit

theorem openAt_iff {P j : Nat} {ds : List Int} (hl : ds.length = P) (hj : j < P) : OpenAt ds (j : Int) ↔ ds.getD j 0 = -1 := ⟨fun h => h.2, fun h => ⟨⟨by omega, by omega⟩, h⟩⟩
theorem lo_hi {P j : Nat} {bs : List Bd} {now : Int} {ds : List Int} (h : Goes (P : Int) bs now ds) (hj : j < P) (hd : ds.getD j 0 = -1) : loW (cl (T0 bs) P) now ds j P ≤ hiW (cl (T0 bs) P) ds j P := by
  obtain ⟨t, ht⟩ := goal_of h
  have hst := h.1
  have hl := hst.2.1
  have h1 := goal_lo ht ((ht.2 j hj).1 hd)
  have hlo := hst.bds
  have h2 : loW (cl (T0 bs) P) now ds j P ≤ 100000 := loW_le (by have := hst.2.2.1.2; omega) fun k hk _ _ => by
    have := (hlo.2 k hk).2
    have := (hlo.1 j k).1
    omega
  refine hiW_ge h2 fun k hk hdk hC => ?_
  have h3 := cl_keeps ht.1 P k j hC
  have h4 := (ht.2 k hk).2 hdk
  omega
theorem least_open {P : Nat} {ds : List Int} (t : Nat → Int) (h : ∃ j, j < P ∧ ds.getD j 0 = -1) : ∃ j, j < P ∧ ds.getD j 0 = -1 ∧ ∀ k, k < P → ds.getD k 0 = -1 → t j ≤ t k := by
  obtain ⟨j0, h0, h1⟩ := h
  obtain ⟨m, hm⟩ := minP_of (P := fun k => ds.getD k 0 = -1) (f := t) h0 h1
  obtain ⟨⟨j, hj, hd, rfl⟩, hall⟩ := minP_some hm
  exact ⟨j, hj, hd, hall⟩
theorem rdy_of {P j : Nat} {bs : List Bd} {now : Int} {ds : List Int} {t : Nat → Int} (hs : StOk (P : Int) bs now ds) (ht : Keeps bs t) (hj : j < P) (hd : ds.getD j 0 = -1) (hmin : ∀ k, k < P → ds.getD k 0 = -1 → t j ≤ t k) : RdyOk (P : Int) bs now ds (j : Int) := by
  have hl := hs.2.1
  refine ⟨⟨hs, (openAt_iff (by omega) hj).2 hd⟩, fun k hk hdk => ?_⟩
  show 0 ≤ cl (T0 bs) P j k
  have hkP : k < P := hk
  rcases Int.lt_or_le (cl (T0 bs) P j k) 100000 with h1 | h1
  · have h2 := cl_keeps ht P j k h1
    have h3 := hmin k hkP hdk
    omega
  · omega
theorem ready_some {P : Nat} {bs : List Bd} {now : Int} {ds : List Int} (hs : StOk (P : Int) bs now ds) (h : ∃ j, j < P ∧ ds.getD j 0 = -1) : ∃ j, j < P ∧ RdyOk (P : Int) bs now ds (j : Int) := by
  obtain ⟨hc, hsm, hlo, hpts, hP6, hP1⟩ := hs.1.cl
  have ht := sol_keeps (s := fun _ => 0) hc hpts (hsm.mono (by omega)) (fun b hb => by have := (hs.1.1.2.2 b hb).2.2.2; omega)
  obtain ⟨j, hj, hd, hmin⟩ := least_open (sol P (cl (T0 bs) P) (fun _ => 0)) h
  exact ⟨j, hj, rdy_of hs ht hj hd hmin⟩
theorem may_some {P : Nat} {bs : List Bd} {now : Int} {ds : List Int} (h : Goes (P : Int) bs now ds) (ho : ∃ j, j < P ∧ ds.getD j 0 = -1) : ∃ j, j < P ∧ RdyOk (P : Int) bs now ds (j : Int) ∧ loW (cl (T0 bs) P) now ds j P ≤ hiW (cl (T0 bs) P) ds j P ∧ loW (cl (T0 bs) P) now ds j P ≤ dlW (cl (T0 bs) P) ds P P := by
  obtain ⟨t, ht⟩ := goal_of h
  obtain ⟨j, hj, hd, hmin⟩ := least_open t ho
  have hst := h.1
  have hb := hst.bds
  have h1 := goal_lo ht ((ht.2 j hj).1 hd)
  have h2 : loW (cl (T0 bs) P) now ds j P ≤ 100000 := loW_le (by have := hst.2.2.1.2; omega) fun k hk _ _ => by
    have := (hb.2 k hk).2
    have := (hb.1 j k).1
    omega
  refine ⟨j, hj, rdy_of hst ht.1 hj hd hmin, lo_hi h hj hd, dlW_ge h2 fun i hi hdi => hiW_ge h2 fun k hk hdk hC => ?_⟩
  have h3 := cl_keeps ht.1 P k i hC
  have h4 := (ht.2 k hk).2 hdk
  have h5 := hmin i hi hdi
  omega
/-- With all done it goes on exactly if the times keep the plan. -/
theorem goes_done {P : Nat} {bs : List Bd} {now : Int} {ds : List Int} (hs : StOk (P : Int) bs now ds) (h : ¬ (-1 : Int) ∈ ds) : Goes (P : Int) bs now ds ↔ KpOk (P : Int) bs ds := by
  have hl := hs.2.1
  have hno : ∀ i, i < P → ds.getD i 0 ≠ -1 := fun i hi e => h (by
    have hil : i < ds.length := by omega
    rw [← e]
    simp [List.getD, hil])
  have hpts := hs.1.cl.2.2.2.1
  constructor
  · intro hg
    obtain ⟨t, ht⟩ := goal_of hg
    refine ⟨⟨hs.1.1, hl, fun x hx => ?_⟩, fun b hb => ?_⟩
    · have h1 := hs.2.2.2.2 x hx
      have h2 := hs.2.2.1
      exact ⟨by have := h1.1; omega, by have := h1.2; have := h2.2; omega⟩
    · obtain ⟨⟨hx0, hx1⟩, hy0, hy1⟩ := hpts b hb
      have h1 := ht.1 b hb
      have h2 := (ht.2 b.2.1.toNat (by omega)).2 (hno _ (by omega))
      have h3 := (ht.2 b.1.toNat (by omega)).2 (hno _ (by omega))
      unfold Kpt
      omega
  · intro hk
    exact goes_of hs (t := fun i => ds.getD i 0) ⟨fun b hb => hk.2 b hb, fun i hi => ⟨fun e => absurd e (hno i hi), fun _ => rfl⟩⟩
theorem open_of_mem {P : Nat} {ds : List Int} (hl : ds.length = P) (h : (-1 : Int) ∈ ds) : ∃ j, j < P ∧ ds.getD j 0 = -1 := by
  obtain ⟨j, hj, e⟩ := List.mem_iff_getElem.1 h
  exact ⟨j, by omega, by simp [List.getD, hj, e]⟩


end Go.Proofs.Ytpefimeogbpagaa
