/- Lengths of terms: the walks of l12Lengths and (*part).lengths, both LengthsOf, both AlikeTerms. -/
import Derived.Test.YtcmicmenkbgfmaaDoorM6
namespace Go.Proofs.YtcmicmenkbgfmaaDoor
open Go.RowKit

def lenV (x : Int × Int × Bool) : Value := .tuple #[.int .i64 x.1, .int .i64 x.2.1, .bool x.2.2]


theorem Pt.openStep {D : Nat → Prop} {w : World} {l h : Int} {a : Addr} (hp : Pt D w (.step l h) a) : ∃ b off A c, a = ⟨b, off, none⟩ ∧ w.cell? ⟨b, off, none⟩ = some (.int .i64 0) ∧ w.cell? ⟨b, off + 1, none⟩ = some (.int .i64 l) ∧ w.cell? ⟨b, off + 2, none⟩ = some (.int .i64 h) ∧ w.cell? ⟨b, off + 3, none⟩ = some (.slice A 0 c) := by
  obtain ⟨b, off, A, c, e, _, h0, h1, h2, h3, _⟩ := hp
  exact ⟨b, off, A, c, e, h0, h1, h2, h3⟩
theorem Pt.openOne {D : Nat → Prop} {w : World} {x : Tm} {h : Int} {a : Addr} (hp : Pt D w (.one x h) a) : ∃ b off kb ko c ax, a = ⟨b, off, none⟩ ∧ w.cell? ⟨b, off, none⟩ = some (.int .i64 3) ∧ w.cell? ⟨b, off + 1, none⟩ = some (.int .i64 0) ∧ w.cell? ⟨b, off + 2, none⟩ = some (.int .i64 h) ∧ w.cell? ⟨b, off + 3, none⟩ = some (.slice (some ⟨kb, ko, none⟩) 1 c) ∧ w.cell? ⟨kb, ko, none⟩ = some (.pointer (some ax)) ∧ Pt D w x ax := by
  obtain ⟨ax, ⟨b, off, A, c, e, _, h0, h1, h2, h3, hr⟩, hx⟩ := hp
  obtain ⟨kb, ko, rfl, _, hc⟩ := hr.cells (by simp)
  have k0 := hc 0 (by simp)
  exact ⟨b, off, kb, ko, c, ax, e, h0, h1, h2, h3, k0, hx⟩
theorem Pt.openTwo {D : Nat → Prop} {w : World} {x y : Tm} {k : Int} {a : Addr} (hp : Pt D w (.two k x y) a) : ∃ b off kb ko c ax ay, a = ⟨b, off, none⟩ ∧ w.cell? ⟨b, off, none⟩ = some (.int .i64 k) ∧ w.cell? ⟨b, off + 1, none⟩ = some (.int .i64 0) ∧ w.cell? ⟨b, off + 2, none⟩ = some (.int .i64 0) ∧ w.cell? ⟨b, off + 3, none⟩ = some (.slice (some ⟨kb, ko, none⟩) 2 c) ∧ w.cell? ⟨kb, ko, none⟩ = some (.pointer (some ax)) ∧ w.cell? ⟨kb, ko + 1, none⟩ = some (.pointer (some ay)) ∧ Pt D w x ax ∧ Pt D w y ay := by
  obtain ⟨ax, ay, ⟨b, off, A, c, e, _, h0, h1, h2, h3, hr⟩, hx, hy⟩ := hp
  obtain ⟨kb, ko, rfl, _, hc⟩ := hr.cells (by simp)
  have k0 := hc 0 (by simp)
  have k1 := hc 1 (by simp)
  exact ⟨b, off, kb, ko, c, ax, ay, e, h0, h1, h2, h3, k0, k1, hx, hy⟩
theorem Pt.drewN {D : Nat → Prop} {w : World} {t : Tm} {a : Addr} (h : Pt D w t a) (m : Nat) : Pt D (w.drewN m) t a := Pt.keep (w := w) (w' := w.drewN m) (fun _ _ _ hd hv => ⟨hv, hd⟩) h


end Go.Proofs.YtcmicmenkbgfmaaDoor
