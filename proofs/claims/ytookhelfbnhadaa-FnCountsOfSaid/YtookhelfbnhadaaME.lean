/- How long a term lasts: both LastOf. -/
import Derived.Test.YtookhelfbnhadaaMD
namespace Go.Proofs.Ytookhelfbnhadaa
open Go.RowKit

noncomputable def lastR (ys : List Int) (x : Tm) : Int × Bool := @ite _ (ys.length = stepsT x ∧ (lastV x ys 0).2 = true) (Classical.propDecidable _) ((lastV x ys 0).1, true) (-1, false)
noncomputable def LastF (xs : List Mk) (ys : List Int) : Int × Bool := onT (-1, false) (lastR ys) xs
def lastW (x : Int × Bool) : Value := .tuple #[.int .i64 x.1, .bool x.2]
theorem steps_of {xs : List Mk} {x : Tm} (h : TIs xs x) : StepsV xs = (stepsT x : Int) := by
  rw [stepsV_pos ⟨x, h⟩, ← h.2.1, stepsIn_marks h.1]


set_option maxRecDepth 100000 in
set_option maxHeartbeats 1000000 in
theorem iLastOf_any (A : Option Addr) (n c : Nat) (xs : List Mk) (A' : Option Addr) (n' c' : Nat) (ys : List Int) (w : World) (h : MarksAt w A n xs) (h' : IntsAt w A' n' ys) (hn : n ≤ 1048576) (hn' : n' ≤ 1048576) (_ : n ≤ c) (hc' : n' ≤ c') :
    Calls Try.prog 36 #[.slice A n c, .slice A' n' c'] w (Bl w (lastW (LastF xs ys))) := by
  by_cases hT : TOk xs
  · obtain ⟨x, hx⟩ := hT
    have HX := Lib.hid (show TIs xs x from hx)
    rw [show LastF xs ys = _ from onT_pos HX.out]
    have HST := Lib.hid (steps_of hx)
    clear hx
    unfold lastR
    have HL := Lib.hid h'.len
    have HLA := Lib.hid (last_any x HX.out.1)
    obtain ⟨s, HS⟩ : ∃ q, Hid (stepsT x = q) := ⟨_, rfl⟩
    obtain ⟨V, HV⟩ : ∃ q, Hid (lastV x ys 0 = q) := ⟨_, rfl⟩
    obtain ⟨v, ok⟩ := V
    rw [HV.out, HL.out, HS.out]
    rw [HS.out] at HST HLA
    by_cases hs : n' = s
    · subst hs
      cases ok with
      | true =>
        rw [if_pos ⟨rfl, rfl⟩]
        go_enter Try.func36, Try.ntmps36
        go_wp2_with (fail)
        refine kBuild (iBuild_any A n c xs _ h hn) (fun _ hne _ => absurd ⟨x, HX.out⟩ hne.out) ?_
        intro w1 y a HY hb1 hpt
        obtain rfl : y = x := TIs.eq HY.out HX.out
        have HPT := Lib.hid hpt
        clear hpt
        go_wp2_with (fail)
        refine kBV (iStepsOf_any A n c xs _ (h.below hb1) hn) ?_
        intro w2 hb2
        rw [HST.out]
        have HP2 := Lib.hid (HPT.out.below hb2)
        have HB2 := Lib.hid (hb1.trans (hb2.mono hb1.size))
        clear hb1 hb2
        go_wp2_with (fail)
        refine kLasted (HLA.out a A' n' c' ys _ HP2.out (h'.below HB2.out) (Nat.le_refl _) hc' hn') ?_
        intro A2 c2 m _ _
        rw [HV.out]
        simp only
        go_wp2
        refine bodyPost_ret (v := lastW (v, true)) (by simp [results, Try.results36, go_sem, lastW]) rfl ⟨rfl, below_drewN HB2.out _⟩
      | false =>
        rw [if_neg (by simp)]
        go_enter Try.func36, Try.ntmps36
        go_wp2_with (fail)
        refine kBuild (iBuild_any A n c xs _ h hn) (fun _ hne _ => absurd ⟨x, HX.out⟩ hne.out) ?_
        intro w1 y a HY hb1 hpt
        obtain rfl : y = x := TIs.eq HY.out HX.out
        have HPT := Lib.hid hpt
        clear hpt
        go_wp2_with (fail)
        refine kBV (iStepsOf_any A n c xs _ (h.below hb1) hn) ?_
        intro w2 hb2
        rw [HST.out]
        have HP2 := Lib.hid (HPT.out.below hb2)
        have HB2 := Lib.hid (hb1.trans (hb2.mono hb1.size))
        clear hb1 hb2
        go_wp2_with (fail)
        refine kLasted (HLA.out a A' n' c' ys _ HP2.out (h'.below HB2.out) (Nat.le_refl _) hc' hn') ?_
        intro A2 c2 m _ _
        rw [HV.out]
        simp only
        go_wp2
        refine bodyPost_ret (v := lastW (-1, false)) (by simp [results, Try.results36, go_sem, lastW]) rfl ⟨rfl, below_drewN HB2.out _⟩
    · rw [if_neg (by simp [hs])]
      have q0 : ((n' : Int) != (s : Int)) = true := by simp; omega
      go_enter Try.func36, Try.ntmps36
      go_wp2_with (fail)
      refine kBuild (iBuild_any A n c xs _ h hn) (fun _ hne _ => absurd ⟨x, HX.out⟩ hne.out) ?_
      intro w1 y a HY hb1 hpt
      go_wp2_with (fail)
      refine kBV (iStepsOf_any A n c xs _ (h.below hb1) hn) ?_
      intro w2 hb2
      rw [HST.out]
      have HB2 := Lib.hid (hb1.trans (hb2.mono hb1.size))
      clear hb1 hb2
      go_wp2
      refine bodyPost_ret (v := lastW (-1, false)) (by simp [results, Try.results36, go_sem, lastW]) rfl ⟨rfl, HB2.out⟩
  · rw [show LastF xs ys = _ from onT_neg hT]
    have HT := Lib.hid hT
    clear hT
    go_enter Try.func36, Try.ntmps36
    go_wp2_with (fail)
    refine kBuild (iBuild_any A n c xs _ h hn) ?_ (fun _ x _ hne _ _ => absurd ⟨x, hne.out⟩ HT.out)
    intro w1 hp hb1
    go_wp2
    refine bodyPost_ret (v := lastW (-1, false)) (by simp [results, Try.results36, go_sem, lastW]) rfl ⟨rfl, hb1⟩

end Go.Proofs.Ytookhelfbnhadaa
