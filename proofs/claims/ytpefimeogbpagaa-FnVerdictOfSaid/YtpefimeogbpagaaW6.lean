/- States by the reference: spec.StateNew, spec.DoAt. -/
import Derived.Test.YtpefimeogbpagaaRG
import Derived.Test.YtpefimeogbpagaaW3
import Derived.Test.YtpefimeogbpagaaS5
import Derived.Deep.RegionHeldLaw
import Derived.Deep.CutRange
import Derived.Deep.DrawnRows
set_option linter.unusedSimpArgs false
namespace Go.Proofs.Ytpefimeogbpagaa
open Go.RowKit
attribute [local go_sem ↓] Go.wp_at_zero Go.wp_at_succ


/-- A window, one way for both. -/
theorem kWinU {Pr : Program} {f : FuncId} {args : Array Value} {w : World} {K : Ending → World → Prop} {p : Int} {bs : List Bd} {now : Int} {ds : List Int} {i : Int} (h : Calls Pr f args w (WinV w p bs now ds i))
    (h1 : ∀ (lo hi : Int) (ok : Bool) w', Below w.heap.size w w' → K (.returned (.tuple #[.int .i64 lo, .int .i64 hi, .bool ok])) w') : Calls Pr f args w K :=
  kWin h (fun w' _ hb => h1 _ _ _ w' hb) (fun w' _ hb => h1 _ _ _ w' hb)
/-- What DoAt leaves, as far as draws need it. -/
def DoV (w : World) (m : Nat) (e : Ending) (w' : World) : Prop :=
  ∃ (now' : Int) (A' : Option Addr) (n' c' : Nat) (ds' : List Int) (ok : Bool), e = .returned (.tuple #[.agg #[.int .i64 now', .slice A' n' c'], .bool ok]) ∧ OwnZ w' w.heap.size A' n' c' ds' ∧ (ok = true → n' = m) ∧ Below w.heap.size w w'
theorem kDo {Pr : Program} {f : FuncId} {args : Array Value} {w : World} {K : Ending → World → Prop} {m : Nat} (h : Calls Pr f args w (DoV w m))
    (h1 : ∀ (now' : Int) A' n' c' ds' (ok : Bool) w', OwnZ w' w.heap.size A' n' c' ds' → Hid (ok = true → n' = m) → Below w.heap.size w w' → K (.returned (.tuple #[.agg #[.int .i64 now', .slice A' n' c'], .bool ok])) w') : Calls Pr f args w K :=
  h.mono fun e w' ⟨now', A', n', c', ds', ok, he, ho, hm, hb⟩ => by subst he; exact h1 now' A' n' c' ds' ok w' ho hm hb
theorem IntsAt.newsZ {w : World} {A : Option Addr} {n : Nat} {xs : List Int} (h : IntsAt w A n xs) {a : Addr} (e : A = some a) : ∀ j u, (vI xs)[j]? = some u → w.cell? (a.add j) = some u := by
  subst e
  intro j u hu
  have hl := h.len
  have hj : j < xs.length := by
    rcases Nat.lt_or_ge j xs.length with h1 | h1
    · exact h1
    · rw [vI, List.getElem?_eq_none (by simpa using h1)] at hu; cases hu
  obtain ⟨b, off, e, hc⟩ := h.cells (by omega)
  cases e
  rw [add_at, hc j (by omega)]
  simp [vI, hj] at hu
  simp [List.getD, hj, hu]


end Go.Proofs.Ytpefimeogbpagaa
