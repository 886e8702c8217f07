/- Draws of states and of points: spec.l20Point; the laws' draws. -/
import Derived.Test.YtpefimeogbpagaaW7
import Derived.Test.YtpefimeogbpagaaDC
set_option linter.unusedSimpArgs false
namespace Go.Proofs.Ytpefimeogbpagaa
open Go.RowKit
attribute [local go_sem ↓] Go.wp_at_zero Go.wp_at_succ

theorem BndsAt.mvR {w w' : World} {A : Option Addr} {n R : Nat} {xs : List Bd} {B : Int} (h : BndsAt w A n xs) (hap : ∀ a, A = some a → a.block ≠ R ∧ a.block < w.heap.size) (hm : Mv R B w w') : BndsAt w' A n xs :=
  h.keepB fun a ha => hm.1.block _ (hap a ha).2 (fun e => (hap a ha).1 (Option.some.inj e))
theorem IntsAt.mvR {w w' : World} {A : Option Addr} {n R : Nat} {xs : List Int} {B : Int} (h : IntsAt w A n xs) (hap : ∀ a, A = some a → a.block ≠ R ∧ a.block < w.heap.size) (hm : Mv R B w w') : IntsAt w' A n xs :=
  ⟨h.len, fun hn => by
    obtain ⟨b, off, e, hc⟩ := h.cells hn
    exact ⟨b, off, e, fun j hj => (cell_blk (b := b) (hm.1.block _ (hap _ e).2 (fun e' => (hap _ e).1 (Option.some.inj e'))) _).trans (hc j hj)⟩⟩

/-- What a law's draw of a plan and a state leaves. -/
def DState (w : World) (e : Ending) (w' : World) : Prop :=
  ∃ (pts : Int) (A : Option Addr) (n c : Nat) (xs : List Bd) (now : Int) (D : Option Addr) (m d : Nat) (ds : List Int), e = .returned (.tuple #[.agg #[.int .i64 pts, .slice A n c], .agg #[.int .i64 now, .slice D m d]]) ∧ (n ≤ c ∧ n ≤ 16) ∧ (m ≤ d ∧ m ≤ 8) ∧ BndsAt w' A n xs ∧ IntsAt w' D m ds ∧ Below w.heap.size w w'
theorem kDState {Pr : Program} {f : FuncId} {args : Array Value} {w : World} {K : Ending → World → Prop} (h : Calls Pr f args w (DState w))
    (h1 : ∀ pts A n c xs now D m d ds w', (n ≤ c ∧ n ≤ 16) → (m ≤ d ∧ m ≤ 8) → BndsAt w' A n xs → IntsAt w' D m ds → Below w.heap.size w w' → K (.returned (.tuple #[.agg #[.int .i64 pts, .slice A n c], .agg #[.int .i64 now, .slice D m d]])) w') : Calls Pr f args w K :=
  h.mono fun e w' ⟨pts, A, n, c, xs, now, D, m, d, ds, he, h3, h4, h5, h6, h9⟩ => by subst he; exact h1 pts A n c xs now D m d ds w' h3 h4 h5 h6 h9
/-- What a draw of a plan, a state and a point leaves. -/
def PointMade (R : Nat) (B : Int) (w : World) (e : Ending) (w' : World) : Prop :=
  ∃ (pts : Int) (A : Option Addr) (n c : Nat) (xs : List Bd) (now : Int) (D : Option Addr) (m d : Nat) (ds : List Int) (i : Int), e = .returned (.tuple #[.agg #[.int .i64 pts, .slice A n c], .agg #[.int .i64 now, .slice D m d], .int .i64 i]) ∧ (n ≤ c ∧ n ≤ 16) ∧ (m ≤ d ∧ m ≤ 8) ∧ BndsAt w' A n xs ∧ IntsAt w' D m ds ∧ (∀ a, A = some a → w.heap.size ≤ a.block ∧ a.block < w'.heap.size) ∧ (∀ a, D = some a → w.heap.size ≤ a.block ∧ a.block < w'.heap.size) ∧ Mv R (B + 300) w w'
theorem kPointMade {Pr : Program} {f : FuncId} {args : Array Value} {w : World} {K : Ending → World → Prop} {R : Nat} {B : Int} (h : Calls Pr f args w (PointMade R B w))
    (h1 : ∀ pts A n c xs now D m d ds i w', (n ≤ c ∧ n ≤ 16) → (m ≤ d ∧ m ≤ 8) → BndsAt w' A n xs → IntsAt w' D m ds → (∀ a, A = some a → w.heap.size ≤ a.block ∧ a.block < w'.heap.size) → (∀ a, D = some a → w.heap.size ≤ a.block ∧ a.block < w'.heap.size) → Mv R (B + 300) w w' → K (.returned (.tuple #[.agg #[.int .i64 pts, .slice A n c], .agg #[.int .i64 now, .slice D m d], .int .i64 i])) w') : Calls Pr f args w K :=
  h.mono fun e w' ⟨pts, A, n, c, xs, now, D, m, d, ds, i, he, h3, h4, h5, h6, h7, h8, h9⟩ => by subst he; exact h1 pts A n c xs now D m d ds i w' h3 h4 h5 h6 h7 h8 h9
theorem PointMade.drewD {R : Nat} {B : Int} {w : World} {e : Ending} {w' : World} (h : PointMade R B w e w') : PointMade R B w e w'.drew := by
  obtain ⟨pts, A, n, c, xs, now, D, m, d, ds, i, he, h3, h4, h5, h6, h7, h8, h9⟩ := h
  exact ⟨pts, A, n, c, xs, now, D, m, d, ds, i, he, h3, h4, h5.drewN 1, h6.drewN 1, h7, h8, h9.drewN 1⟩
def DPoint (w : World) (e : Ending) (w' : World) : Prop :=
  ∃ (pts : Int) (A : Option Addr) (n c : Nat) (xs : List Bd) (now : Int) (D : Option Addr) (m d : Nat) (ds : List Int) (i : Int), e = .returned (.tuple #[.agg #[.int .i64 pts, .slice A n c], .agg #[.int .i64 now, .slice D m d], .int .i64 i]) ∧ (n ≤ c ∧ n ≤ 16) ∧ (m ≤ d ∧ m ≤ 8) ∧ BndsAt w' A n xs ∧ IntsAt w' D m ds ∧ Below w.heap.size w w'
theorem kDPoint {Pr : Program} {f : FuncId} {args : Array Value} {w : World} {K : Ending → World → Prop} (h : Calls Pr f args w (DPoint w))
    (h1 : ∀ pts A n c xs now D m d ds i w', (n ≤ c ∧ n ≤ 16) → (m ≤ d ∧ m ≤ 8) → BndsAt w' A n xs → IntsAt w' D m ds → Below w.heap.size w w' → K (.returned (.tuple #[.agg #[.int .i64 pts, .slice A n c], .agg #[.int .i64 now, .slice D m d], .int .i64 i])) w') : Calls Pr f args w K :=
  h.mono fun e w' ⟨pts, A, n, c, xs, now, D, m, d, ds, i, he, h3, h4, h5, h6, h9⟩ => by subst he; exact h1 pts A n c xs now D m d ds i w' h3 h4 h5 h6 h9







end Go.Proofs.Ytpefimeogbpagaa
