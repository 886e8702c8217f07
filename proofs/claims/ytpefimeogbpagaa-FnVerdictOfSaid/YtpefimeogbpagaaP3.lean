/- Times for plans: keptBy; both TimesOk, KeepsOk functions. -/
import Derived.Test.YtpefimeogbpagaaP2
namespace Go.Proofs.Ytpefimeogbpagaa
open Go.RowKit

theorem hasPt_iff {p q : Int} (h : InR p 1 6) : HasPt p q ↔ 0 ≤ q ∧ q < p := by
  obtain ⟨h1, h2⟩ := h
  unfold HasPt InR
  rw [IntWalk.wrap64_in _ (by omega)]
  omega

def Kpt (ts : List Int) (b : Bd) : Prop := ts.getD b.2.1.toNat 0 - ts.getD b.1.toNat 0 ≤ b.2.2
def TmOk (p : Int) (bs : List Bd) (ts : List Int) : Prop := PlOk p bs ∧ (ts.length : Int) = p ∧ AllIn ts (-2000) 2000
def KpOk (p : Int) (bs : List Bd) (ts : List Int) : Prop := TmOk p bs ts ∧ ∀ b ∈ bs, Kpt ts b




theorem bd_pts {p : Int} {bs : List Bd} {ts : List Int} (h : TmOk p bs ts) {x : Bd} (hx : BdOk p x) : (0 ≤ x.1 ∧ x.1 < ts.length) ∧ (0 ≤ x.2.1 ∧ x.2.1 < ts.length) := by
  have h1 := (hasPt_iff h.1.1).1 hx.1
  have h2 := (hasPt_iff h.1.1).1 hx.2.1
  have := h.2.1
  omega




end Go.Proofs.Ytpefimeogbpagaa
