/- Arguments opened: plans by value, rows of happenings; their sizes. -/
import Derived.Test.YtkmimebfnnemoaaTHappening
import Derived.Test.YtkmimebfnnemoaaP2
import Derived.Lib.SmallJoins
namespace Go.Proofs.Ytkmimebfnnemoaa
open Go.RowKit

theorem szHappeningS_ok (A : Option Addr) (n c : Nat) (left : Int) (w : World) (hn : n ≤ 9223372036854775807) (hl : 0 ≤ left ∧ left ≤ 1048576) :
    Calls Try.prog 9 #[.slice A n c, .int .i64 left] w (SzOk w (n ≤ 1048576)) :=
  (szHappeningS_any A n c left w hn hl).mono fun e w' ⟨he, hw⟩ => by
    subst he; subst hw
    exact ⟨_, rfl, fun h => by have := (szI_le h).1; omega, (szI_bd hl).1, (szI_bd hl).2, Below.refl _ _⟩

section
open Go.ChangeShapes Go.WideShapes Go.ChangeAt Go.Joins Go.Deep
set_option maxRecDepth 100000 in
theorem open_haps {H : Type} {enc : TypeId × Value → H} {w : World} {base b0 : Nat} {spare : Nat → Bool} {held : Bool} {r : Reach} {v : Value} {d : DataW H} {p : List MemPlace}
    (hv : Value.okWide Try.prog w r b0 25 v) (h : DataW.Trod enc Try.prog w base spare held 25 v d p) :
    ∃ A n c xs, v = .slice A n c ∧ (n ≤ 9223372036854775807 ∧ HapsAt w A n xs) := by
  obtain ⟨A, n, c, rfl⟩ := okWide_slice Try.underlying25 hv
  obtain ⟨fuel, hf⟩ := h
  obtain ⟨A', n', c', xs, e, hn, hx⟩ := openHappeningS (v := .slice A n c) (by simpa [Value.cells] using hf)
  cases e
  exact ⟨A, n, c, xs, rfl, hn, hx⟩
set_option maxRecDepth 100000 in
theorem plan_of_trod {H : Type} {enc : TypeId × Value → H} {w : World} {base : Nat} {spare : Nat → Bool} {held : Bool} {fuel : Nat} {v0 v1 : Value} {x : DataW H × List MemPlace}
    (hf : DataW.trod enc Try.prog w base spare held fuel 24 [v0, v1] = some x) : ∃ p A n c bs, v0 = .int .i64 p ∧ v1 = .slice A n c ∧ n ≤ 9223372036854775807 ∧ BndsAt w A n bs := by
  obtain ⟨y0, y1, m, hx, hl, h0, h1⟩ := trod_struct2 Try.underlying24 hf
  have h0' : DataW.trod enc Try.prog w base spare held m 3 [v0] = some y0 := h0
  have h1' : DataW.trod enc Try.prog w base spare held m 22 [v1] = some y1 := h1
  obtain ⟨p, e0, -, -⟩ := DataW.trod_int Try.underlying3 h0'
  obtain rfl : v0 = .int .i64 p := by simpa using e0
  obtain ⟨A, n, c, bs, rfl, hn, hb⟩ := openBoundS h1'
  exact ⟨p, A, n, c, bs, rfl, rfl, hn, hb⟩

set_option maxRecDepth 100000 in
theorem open_plan {H : Type} {enc : TypeId × Value → H} {w : World} {base b0 : Nat} {spare : Nat → Bool} {held : Bool} {r : Reach} {v : Value} {d : DataW H} {p : List MemPlace}
    (hv : Value.okWide Try.prog w r b0 24 v) (h : DataW.Trod enc Try.prog w base spare held 24 v d p) :
    ∃ q A n c bs, v = .agg #[.int .i64 q, .slice A n c] ∧ (n ≤ 9223372036854775807 ∧ BndsAt w A n bs) := by
  obtain ⟨cs, rfl, hsz⟩ := okWide_struct Try.underlying24 hv
  obtain ⟨c0, c1, rfl⟩ := array2 (hsz.trans (by kernel_rfl))
  obtain ⟨fuel, hf⟩ := h
  obtain ⟨q, A, n, c, bs, rfl, rfl, hn, hb⟩ := plan_of_trod (by simpa [Value.cells] using hf)
  exact ⟨q, A, n, c, bs, rfl, hn, hb⟩

end
end Go.Proofs.Ytkmimebfnnemoaa
