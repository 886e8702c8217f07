/- Draws of terms, alone. -/
import Derived.Test.YtcmicmenkbgfmaaDoorDR5
import Derived.Test.YtcmicmenkbgfmaaDoorDC
namespace Go.Proofs.YtcmicmenkbgfmaaDoor
open Go.RowKit

/-- What a draw of a term leaves. -/
def DrawnT (w : World) (e : Ending) (w' : World) : Prop :=
  ∃ (g c : Nat) (xs : List Mk), e = .returned (.slice (some ⟨g, 0, none⟩) xs.length c) ∧ OwnM w' w.heap.size (some ⟨g, 0, none⟩) xs.length c xs ∧ xs.length ≤ 11 ∧ Below w.heap.size w w'
theorem kDrawnT {Pr : Program} {f : FuncId} {args : Array Value} {w : World} {K : Ending → World → Prop} (h : Calls Pr f args w (DrawnT w))
    (h1 : ∀ g c xs w', OwnM w' w.heap.size (some ⟨g, 0, none⟩) xs.length c xs → xs.length ≤ 11 → Below w.heap.size w w' → K (.returned (.slice (some ⟨g, 0, none⟩) xs.length c)) w') : Calls Pr f args w K :=
  h.mono fun e w' ⟨A, c, xs, he, h2, h3, h4⟩ => by subst he; exact h1 A c xs w' h2 h3 h4








theorem drawTermText_any (A : Option Addr) (n c : Nat) (w : World) (h : BytsAt w w.heap.size A n) (hn : n ≤ 9223372036854775807) (hc : n ≤ c) :
    Calls Tryd.prog 7 #[.slice A n c] w (DrawnT w) := by
  go_enter Tryd.func7, Tryd.ntmps7
  go_wp2_with (fail)
  refine kOpen (open_any A n c w h hn hc) ?_
  intro R w1 hR hr1 hb1
  go_wp2_with (fail)
  refine (l20Term_any R 0 9 _ hr1 (by omega) (by omega)).mono ?_
  rintro e w2 ⟨A1, c1, xs, rfl, ho, hl, hm⟩
  have HB := Lib.hid (hm.below_of hb1 hR)
  have HO := Lib.hid (own_base ho hb1.size)
  clear hm ho hb1
  go_wp2
  go_ret
  exact ⟨A1, c1, xs, rfl, HO.out, hl, HB.out⟩

end Go.Proofs.YtcmicmenkbgfmaaDoor
