/- Codes that come in. -/
import Derived.Test.YtcmicmenkbgfmaaDoorDR1
import Derived.OpenShut
import Derived.Lib.SmallJoins
import Derived.ProofKit
namespace Go.Proofs.YtcmicmenkbgfmaaDoor
open Go.RowKit

theorem Mv.below_of {R : Nat} {B : Int} {w0 w w1 : World} (h : Mv R B w w1) (hb : Below w0.heap.size w0 w) (hR : w0.heap.size ≤ R) : Below w0.heap.size w0 w1 :=
  ⟨h.1.os.trans hb.os, h.1.tape.trans hb.tape, h.1.output.trans hb.output, Nat.le_trans hb.size h.1.size, fun k hk => (h.1.block k (Nat.lt_of_lt_of_le hk hb.size) (fun e => by cases e; omega)).trans (hb.block k hk)⟩
section
open Go.ChangeShapes Go.WideShapes Go.ChangeAt
theorem bounds_u8 {n : Int} (h : (Lit.int .u8 n).wf = true) : 0 ≤ n ∧ n ≤ 255 := by
  simp [Lit.wf, IntKind.min, IntKind.max, IntKind.signed, IntKind.bits] at h
  omega
/-- A slice of bytes that came in. -/
theorem byts_of_open {H : Type} {enc : TypeId × Value → H} {Pr : Program} {w : World} {base : Nat} {spare : Nat → Bool} {held : Bool} {t e : TypeId} {A : Option Addr} {n c : Nat} {d : DataW H} {p : List MemPlace}
    (ht : Pr.underlying t = some (.slice e)) (he : Pr.underlying e = some (.int .u8)) (hC : Pr.cellsOf e = 1) (h : DataW.Trod enc Pr w base spare held t (.slice A n c) d p) : n ≤ 9223372036854775807 ∧ n ≤ c ∧ BytsAt w w.heap.size A n := by
  obtain ⟨fuel, hf⟩ := h
  rcases open_ints ht he hC hf with ⟨hcs, _⟩ | ⟨x, l, c, zs, hcs, _, hl, hm, hz, _, hcell, hwz⟩
  · simp [Value.cells] at hcs
    obtain ⟨rfl, rfl, rfl⟩ := hcs
    exact ⟨by omega, Nat.le_refl _, ⟨fun h => by omega⟩⟩
  · simp [Value.cells] at hcs
    obtain ⟨rfl, rfl, rfl⟩ := hcs
    have hz' : n ≤ zs.length := by
      have : zs.length = if spare x.block then c else n := by simpa using hz
      split at this <;> omega
    refine ⟨by unfold maxLen at hm; omega, hl, ⟨fun hn => ?_⟩⟩
    obtain ⟨b, off, spot⟩ := x
    have hc := hcell 0 (by omega)
    have hspot : spot = none := by simpa [Addr.add] using World.cell?_spot hc
    subst hspot
    refine ⟨b, off, rfl, cell_lt (by simpa [Addr.add] using hc), fun j hj => ?_⟩
    have h1 := hcell j (by omega)
    have h2 := bounds_u8 (hwz (zs.getD j 0) (by
      have hjl : j < zs.length := by omega
      simp [List.getD, hjl]))
    refine ⟨zs.getD j 0, h2.1, h2.2, ?_⟩
    by_cases hj0 : j = 0
    · subst hj0; simpa [Addr.add] using h1
    · simpa [Addr.add, hj0] using h1
end
section
open Go.ChangeShapes Go.WideShapes Go.ChangeAt Go.Joins
set_option maxRecDepth 100000 in
theorem open_code {H : Type} {enc : TypeId × Value → H} {w : World} {base b0 : Nat} {spare : Nat → Bool} {held : Bool} {r : Go.Reach} {v : Value} {d : DataW H} {p : List MemPlace}
    (hv : Value.okWide Tryd.prog w r b0 22 v) (h : DataW.Trod enc Tryd.prog w base spare held 22 v d p) :
    ∃ A n c, v = .slice A n c ∧ (n ≤ 9223372036854775807 ∧ n ≤ c ∧ BytsAt w w.heap.size A n) := by
  obtain ⟨A, n, c, rfl⟩ := okWide_slice Tryd.underlying22 hv
  exact ⟨A, n, c, rfl, byts_of_open Tryd.underlying22 Tryd.underlying5 (by kernel_rfl) h⟩
end


end Go.Proofs.YtcmicmenkbgfmaaDoor
