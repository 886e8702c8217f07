/- Draws of terms with numbers. -/
import Derived.Test.YtookhelfbnhadaaDR6
import Derived.Test.YtookhelfbnhadaaQ6
namespace Go.Proofs.Ytookhelfbnhadaa
open Go.RowKit

/-- What a draw of a term and a number leaves. -/
def DrawnTI (w : World) (e : Ending) (w' : World) : Prop :=
  ∃ (g c : Nat) (xs : List Mk) (k : Int), e = .returned (.tuple #[.slice (some ⟨g, 0, none⟩) xs.length c, .int .i64 k]) ∧ OwnM w' w.heap.size (some ⟨g, 0, none⟩) xs.length c xs ∧ xs.length ≤ 11 ∧ -100 ≤ k ∧ k ≤ 1000 ∧ Below w.heap.size w w'
theorem kDrawnTI {Pr : Program} {f : FuncId} {args : Array Value} {w : World} {K : Ending → World → Prop} (h : Calls Pr f args w (DrawnTI w))
    (h1 : ∀ g c xs k w', OwnM w' w.heap.size (some ⟨g, 0, none⟩) xs.length c xs → xs.length ≤ 11 → -100 ≤ k → k ≤ 1000 → Below w.heap.size w w' → K (.returned (.tuple #[.slice (some ⟨g, 0, none⟩) xs.length c, .int .i64 k])) w') : Calls Pr f args w K :=
  h.mono fun e w' ⟨g, c, xs, k, he, h2, h3, h4, h5, h6⟩ => by subst he; exact h1 g c xs k w' h2 h3 h4 h5 h6

set_option maxHeartbeats 1000000 in
theorem drawLastsFor_any (A : Option Addr) (n c : Nat) (w : World) (h : BytsAt w w.heap.size A n) (hn : n ≤ 9223372036854775807) (hc : n ≤ c) :
    Calls Try.prog 32 #[.slice A n c] w (DrawnTI w) := by
  go_enter Try.func32, Try.ntmps32
  go_wp2_with (fail)
  refine kOpen (open_any A n c w h hn hc) ?_
  intro R w1 hR hr1 hb1
  have HB1 := Lib.hid hb1
  have hs1 : w.heap.size ≤ w1.heap.size := hb1.size
  clear hb1
  go_wp2_with (fail)
  refine (l20Term_any R 0 9 _ hr1 (by omega) (by omega)).mono ?_
  rintro e w2 ⟨g, c1, xs, rfl, ho, hl, hm⟩
  have hcap := OwnM.cap ho
  have hR1 := hr1.lt
  have HM2 := Lib.hid hm
  have HO2 := Lib.hid ho
  clear hm ho hr1
  have hbd := lenF_bd xs
  have hsl := sLengthsOf_any (some ⟨g, 0, none⟩) xs.length c1 xs w2 (OwnM.at_ HO2.out) (by omega) hcap
  obtain ⟨L, HL⟩ : ∃ q, Hid (LenF xs = q) := ⟨_, rfl⟩
  rw [HL.out] at hbd hsl
  obtain ⟨lo, hi, ok⟩ := L
  simp only at hbd
  obtain ⟨hb1, hb2, hb3, hb4, hb5⟩ := hbd
  go_wp2_with (fail)
  refine kBV hsl ?_
  intro w3 hb
  clear hsl
  simp only [lenV]
  have HM3 := Lib.hid (HM2.out.below hb)
  have HO3 := Lib.hid (own_below HO2.out hb)
  clear hb
  cases ok with
  | true =>
    replace hb5 := hb5 rfl
    go_wp2_with (fail)
    refine kPick (pick_any R _ 4 _ HM3.out.2 (by omega)) ?_
    intro y w4 hq1 hq2 hm4 hs4
    obtain ⟨hy0, hy1⟩ := hq1 (by omega)
    have HM4 := Lib.hid (HM3.out.trans hm4)
    have HO4 := Lib.hid (own_mv HO3.out hR1 hm4)
    clear hq1 hq2 hm4 hs4
    by_cases hy : 0 < y
    · go_wp2_with (fail)
      refine kPick (pick_any R _ _ _ HM4.out.2 (by omega)) ?_
      intro z w5 hq1 hq2 hm5 hs5
      obtain ⟨hz0, hz1⟩ := hq1 (by omega)
      have HM5 := Lib.hid (HM4.out.trans hm5)
      have HO5 := Lib.hid (own_mv HO4.out hR1 hm5)
      clear hq1 hq2 hm5 hs5
      go_wp2
      refine bodyPost_ret (v := .tuple #[.slice (some ⟨g, 0, none⟩) xs.length c1, .int .i64 _]) (by simp [results, Try.results32, go_sem]; rfl) rfl ⟨g, c1, xs, _, rfl, own_base HO5.out hs1, hl, by omega, by omega, HM5.out.below_of HB1.out hR⟩
    · go_wp2_with (fail)
      refine kPick (pick_any R _ 40 _ HM4.out.2 (by omega)) ?_
      intro z w5 hq1 hq2 hm5 hs5
      obtain ⟨hz0, hz1⟩ := hq1 (by omega)
      have HM5 := Lib.hid (HM4.out.trans hm5)
      have HO5 := Lib.hid (own_mv HO4.out hR1 hm5)
      clear hq1 hq2 hm5 hs5
      go_wp2_with (fail)
      refine kPick (pick_any R _ 3 _ HM5.out.2 (by omega)) ?_
      intro z2 w6 hq1 hq2 hm6 hs6
      obtain ⟨hz20, hz21⟩ := hq1 (by omega)
      have HM6 := Lib.hid (HM5.out.trans hm6)
      have HO6 := Lib.hid (own_mv HO5.out hR1 hm6)
      clear hq1 hq2 hm6 hs6
      go_wp2
      refine bodyPost_ret (v := .tuple #[.slice (some ⟨g, 0, none⟩) xs.length c1, .int .i64 _]) (by simp [results, Try.results32, go_sem]; rfl) rfl ⟨g, c1, xs, _, rfl, own_base HO6.out hs1, hl, by omega, by omega, HM6.out.below_of HB1.out hR⟩
  | false =>
    clear hb5
    have HM4 := HM3
    have HO4 := HO3
    go_wp2_with (fail)
    refine kPick (pick_any R _ 40 _ HM4.out.2 (by omega)) ?_
    intro z w5 hq1 hq2 hm5 hs5
    obtain ⟨hz0, hz1⟩ := hq1 (by omega)
    have HM5 := Lib.hid (HM4.out.trans hm5)
    have HO5 := Lib.hid (own_mv HO4.out hR1 hm5)
    clear hq1 hq2 hm5 hs5
    go_wp2_with (fail)
    refine kPick (pick_any R _ 3 _ HM5.out.2 (by omega)) ?_
    intro z2 w6 hq1 hq2 hm6 hs6
    obtain ⟨hz20, hz21⟩ := hq1 (by omega)
    have HM6 := Lib.hid (HM5.out.trans hm6)
    have HO6 := Lib.hid (own_mv HO5.out hR1 hm6)
    clear hq1 hq2 hm6 hs6
    go_wp2
    refine bodyPost_ret (v := .tuple #[.slice (some ⟨g, 0, none⟩) xs.length c1, .int .i64 _]) (by simp [results, Try.results32, go_sem]; rfl) rfl ⟨g, c1, xs, _, rfl, own_base HO6.out hs1, hl, by omega, by omega, HM6.out.below_of HB1.out hR⟩

end Go.Proofs.Ytookhelfbnhadaa
