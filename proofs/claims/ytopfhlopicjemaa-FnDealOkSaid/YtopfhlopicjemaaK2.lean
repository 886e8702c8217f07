/- Arguments opened: plans and cases by value. -/
import Derived.Test.YtopfhlopicjemaaC2
namespace Go.Proofs.Ytopfhlopicjemaa
open Go.RowKit Go.ChangeShapes Go.WideShapes Go.ChangeAt Go.Joins Go.Deep

set_option maxRecDepth 100000 in
theorem plan_of_trod {H : Type} {enc : TypeId × Value → H} {w : World} {base : Nat} {spare : Nat → Bool} {held : Bool} {fuel : Nat} {v0 v1 : Value} {x : DataW H × List MemPlace}
    (hf : DataW.trod enc Try.prog w base spare held fuel 56 [v0, v1] = some x) : ∃ p A n c bs, v0 = .int .i64 p ∧ v1 = .slice A n c ∧ n ≤ 9223372036854775807 ∧ BndsAt w A n bs := by
  obtain ⟨y0, y1, m, hx, hl, h0, h1⟩ := trod_struct2 Try.underlying56 hf
  have h0' : DataW.trod enc Try.prog w base spare held m 3 [v0] = some y0 := h0
  have h1' : DataW.trod enc Try.prog w base spare held m 54 [v1] = some y1 := h1
  obtain ⟨p, e0, -, -⟩ := DataW.trod_int Try.underlying3 h0'
  obtain rfl : v0 = .int .i64 p := by simpa using e0
  obtain ⟨A, n, c, bs, rfl, hn, hb⟩ := openBoundS h1'
  exact ⟨p, A, n, c, bs, rfl, rfl, hn, hb⟩

set_option maxRecDepth 100000 in
theorem open_plan {H : Type} {enc : TypeId × Value → H} {w : World} {base b0 : Nat} {spare : Nat → Bool} {held : Bool} {r : Reach} {v : Value} {d : DataW H} {p : List MemPlace}
    (hv : Value.okWide Try.prog w r b0 56 v) (h : DataW.Trod enc Try.prog w base spare held 56 v d p) :
    ∃ q A n c bs, v = .agg #[.int .i64 q, .slice A n c] ∧ (n ≤ 9223372036854775807 ∧ BndsAt w A n bs) := by
  obtain ⟨cs, rfl, hsz⟩ := okWide_struct Try.underlying56 hv
  obtain ⟨c0, c1, rfl⟩ := array2 (hsz.trans (by kernel_rfl))
  obtain ⟨fuel, hf⟩ := h
  obtain ⟨q, A, n, c, bs, rfl, rfl, hn, hb⟩ := plan_of_trod (by simpa [Value.cells] using hf)
  exact ⟨q, A, n, c, bs, rfl, hn, hb⟩

set_option maxRecDepth 100000 in
theorem bndss_of_trod {H : Type} {enc : TypeId × Value → H} {w : World} {base : Nat} {spare : Nat → Bool} {held : Bool} {fuel : Nat} {v : Value} {x : DataW H × List MemPlace}
    (hf : DataW.trod enc Try.prog w base spare held fuel 57 [v] = some x) : ∃ A n c ls, v = .slice A n c ∧ n ≤ 9223372036854775807 ∧ BndssAt w A n ls := by
  rcases open_slice Try.underlying57 hf with h0 | ⟨a, len, cap, m, n, D, Pl, hcs, hb, hl, hm, hmm, hx, hi⟩
  · obtain rfl : v = .slice none 0 0 := by simpa using h0.1
    exact ⟨none, 0, 0, [], rfl, by omega, rfl, fun h => by omega⟩
  · obtain rfl : v = .slice (some a) len cap := by simpa using hcs
    have hC : Try.prog.cellsOf 54 = 1 := by kernel_rfl
    have hq : ∀ i, i < len → ∃ l : List Bd, ∃ A' c', w.cell? (a.add i) = some (.slice A' l.length c') ∧ l.length ≤ 9223372036854775807 ∧ BndsAt w A' l.length l := by
      intro i hil
      obtain ⟨cs', hc, ht'⟩ := hi i (by rw [hmm]; split <;> omega)
      rw [hC] at hc
      obtain ⟨_, hcl, hat⟩ := World.cells?_some hc
      match cs', hcl with
      | [u], _ =>
        obtain ⟨A', n', c', l, rfl, hn', hl'⟩ := openBoundS ht'
        obtain rfl : l.length = n' := hl'.len
        refine ⟨l, A', c', ?_, hn', hl'⟩
        have h2 := hat 0 (by omega)
        rw [Go.Deep.add_add] at h2
        simpa using h2
    obtain ⟨f, hf⟩ : ∃ f : Nat → List Bd, ∀ i, i < len → ∃ A' c', w.cell? (a.add i) = some (.slice A' (f i).length c') ∧ (f i).length ≤ 9223372036854775807 ∧ BndsAt w A' (f i).length (f i) :=
      ⟨fun i => if h : i < len then (hq i h).choose else [], fun i hi => by simp only [hi, dif_pos]; exact (hq i hi).choose_spec⟩
    refine ⟨some a, len, cap, (List.range len).map f, rfl, by unfold maxLen at hm; omega, by simp, fun hn => ?_⟩
    obtain ⟨b, off, spot⟩ := a
    have hs : spot = none := by obtain ⟨_, _, h, _⟩ := hf 0 hn; simpa [Addr.add] using World.cell?_spot h
    subst hs
    refine ⟨b, off, rfl, fun j hj => ?_⟩
    obtain ⟨A', c', h1, h2, h3⟩ := hf j hj
    have hg : ((List.range len).map f).getD j [] = f j := by simp [List.getD, hj]
    rw [hg]
    rw [add_at] at h1
    exact ⟨A', c', h1, h2, h3⟩

set_option maxRecDepth 100000 in
theorem open_case {H : Type} {enc : TypeId × Value → H} {w : World} {base b0 : Nat} {spare : Nat → Bool} {held : Bool} {r : Reach} {v : Value} {d : DataW H} {p : List MemPlace}
    (hv : Value.okWide Try.prog w r b0 59 v) (h : DataW.Trod enc Try.prog w base spare held 59 v d p) :
    ∃ q A n c bs C m d ls, v = .agg #[.int .i64 q, .slice A n c, .slice C m d] ∧ (n ≤ 9223372036854775807 ∧ m ≤ 9223372036854775807 ∧ BndsAt w A n bs ∧ BndssAt w C m ls) := by
  obtain ⟨cs, rfl, hsz⟩ := okWide_struct Try.underlying59 hv
  obtain ⟨c0, c1, c2, rfl⟩ := array3 (hsz.trans (by kernel_rfl))
  obtain ⟨fuel, hf⟩ := h
  obtain ⟨y0, y1, m, hx, hl, h0, h1⟩ := trod_struct2 Try.underlying59 (by simpa [Value.cells] using hf)
  have h0' : DataW.trod enc Try.prog w base spare held m 56 [c0, c1] = some y0 := by
    have hC : Try.prog.cellsOf 56 = 2 := by kernel_rfl
    simpa [hC] using h0
  have h1' : DataW.trod enc Try.prog w base spare held m 57 [c2] = some y1 := by
    have hC : Try.prog.cellsOf 57 = 1 := by kernel_rfl
    simpa [hC] using h1
  obtain ⟨q, A, n, c, bs, rfl, rfl, hn, hb⟩ := plan_of_trod h0'
  obtain ⟨C, k, e, ls, rfl, hk, hb'⟩ := bndss_of_trod h1'
  exact ⟨q, A, n, c, bs, C, k, e, ls, rfl, hn, hk, hb, hb'⟩

end Go.Proofs.Ytopfhlopicjemaa
