/- Small rules for taking copies and sizes at their calls. -/
import Derived.Test.YtopfhlopicjemaaK1
namespace Go.Proofs.Ytopfhlopicjemaa
open Go.RowKit
theorem kPrj {Pr : Program} {f : FuncId} {args : Array Value} {w : World} {R : Ending → World → Prop} {n n' : Nat} {xs ys : List Int} (h : Calls Pr f args w (NewPrj w n n' xs ys))
    (h1 : ∀ A c A' c' w', n ≤ c → n' ≤ c' → IntsAt w' A n xs → IntsAt w' A' n' ys → Below w.heap.size w w' → R (.returned (.agg #[.slice A n c, .slice A' n' c'])) w') : Calls Pr f args w R :=
  h.mono fun e w' ⟨A, c, A', c', he, hc, hc', hi, hi', hb⟩ => by subst he; exact h1 A c A' c' w' hc hc' hi hi' hb
theorem kSz {Pr : Program} {f : FuncId} {args : Array Value} {w : World} {R : Ending → World → Prop} {p : Prop} (h : Calls Pr f args w (SzOk w p))
    (h1 : ∀ (r : Int) w', Hid p → 0 ≤ r → r ≤ 1048576 → Below w.heap.size w w' → R (.returned (.int .i64 r)) w') (h2 : ∀ (r : Int) w', r < 0 → Below w.heap.size w w' → R (.returned (.int .i64 r)) w') : Calls Pr f args w R :=
  h.mono fun e w' ⟨r, he, hp, hr, hr', hb⟩ => by
    subst he
    by_cases h0 : 0 ≤ r
    · exact h1 r w' (hp h0) h0 hr' hb
    · exact h2 r w' (by omega) hb
end Go.Proofs.Ytopfhlopicjemaa
