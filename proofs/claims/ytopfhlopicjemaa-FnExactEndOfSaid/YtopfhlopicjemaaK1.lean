/- Arguments opened: a project by value. -/
import Derived.Test.YtopfhlopicjemaaA7
import Derived.Lib.SmallJoins
namespace Go.Proofs.Ytopfhlopicjemaa
open Go.RowKit Go.ChangeShapes Go.WideShapes Go.ChangeAt Go.Joins

section
variable {H : Type} {enc : TypeId × Value → H} {Pr : Program} {w : World} {base : Nat} {spare : Nat → Bool} {held : Bool} {t e : TypeId}
theorem ints_of_trod {fuel : Nat} {v : Value} {x : DataW H × List MemPlace}
    (ht : Pr.underlying t = some (.slice e)) (he : Pr.underlying e = some (.int .i64)) (hC : Pr.cellsOf e = 1) (hf : DataW.trod enc Pr w base spare held fuel t [v] = some x) :
    ∃ A n c zs, v = .slice A n c ∧ n ≤ 9223372036854775807 ∧ IntsAt w A n zs := by
  rcases open_ints ht he hC hf with ⟨hcs, _⟩ | ⟨a, l, c, zs, hcs, _⟩
  · obtain rfl : v = .slice none 0 0 := by simpa using hcs
    obtain ⟨zs, hz⟩ := intsAt_of_open (d := x.1) (p := x.2) ht he hC ⟨fuel, by simpa [Value.cells] using hf⟩
    exact ⟨_, _, _, zs, rfl, hz⟩
  · obtain rfl : v = .slice (some a) l c := by simpa using hcs
    obtain ⟨zs, hz⟩ := intsAt_of_open (d := x.1) (p := x.2) ht he hC ⟨fuel, by simpa [Value.cells] using hf⟩
    exact ⟨_, _, _, zs, rfl, hz⟩
end

set_option maxRecDepth 100000 in
theorem open_project {H : Type} {enc : TypeId × Value → H} {w : World} {base b0 : Nat} {spare : Nat → Bool} {held : Bool} {r : Reach} {v : Value} {d : DataW H} {p : List MemPlace}
    (hv : Value.okWide Try.prog w r b0 31 v) (h : DataW.Trod enc Try.prog w base spare held 31 v d p) :
    ∃ A n c xs A' n' c' ys, v = .agg #[.slice A n c, .slice A' n' c'] ∧ (n ≤ 9223372036854775807 ∧ n' ≤ 9223372036854775807 ∧ IntsAt w A n xs ∧ IntsAt w A' n' ys) := by
  obtain ⟨c0, c1, y0, y1, m, rfl, rfl, rfl, hy0, hy1⟩ := open_agg2 Try.underlying31 (by kernel_rfl) (by kernel_rfl) hv h
  obtain ⟨A, n, c, zs, rfl, hn, hz⟩ := ints_of_trod Try.underlying22 Try.underlying3 (by kernel_rfl) hy0
  obtain ⟨A', n', c', zs', rfl, hn', hz'⟩ := ints_of_trod Try.underlying22 Try.underlying3 (by kernel_rfl) hy1
  exact ⟨A, n, c, zs, A', n', c', zs', rfl, hn, hn', hz, hz'⟩

end Go.Proofs.Ytopfhlopicjemaa
