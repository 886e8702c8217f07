/- Draws of a term with two numbers. -/
import Derived.Test.YtookhelfbnhadaaDR6
import Derived.Test.YtookhelfbnhadaaM5
import Derived.Lib.MinMax
namespace Go.Proofs.Ytookhelfbnhadaa
open Go.RowKit

theorem stepsV_bd (xs : List Mk) (hl : xs.length ≤ 11) : -1 ≤ StepsV xs ∧ StepsV xs ≤ 11 := by
  by_cases h : TOk xs
  · rw [stepsV_pos h]; have := stepsIn_le xs; omega
  · rw [stepsV_neg h]; omega
/-- What a draw of a term and two numbers leaves. -/
def DrawnTII (w : World) (e : Ending) (w' : World) : Prop :=
  ∃ (g c : Nat) (xs : List Mk) (k l : Int), e = .returned (.tuple #[.slice (some ⟨g, 0, none⟩) xs.length c, .int .i64 k, .int .i64 l]) ∧ OwnM w' w.heap.size (some ⟨g, 0, none⟩) xs.length c xs ∧ xs.length ≤ 11 ∧ -100 ≤ k ∧ k ≤ 1000 ∧ 0 ≤ l ∧ l ≤ 1000 ∧ Below w.heap.size w w'
theorem kDrawnTII {Pr : Program} {f : FuncId} {args : Array Value} {w : World} {K : Ending → World → Prop} (h : Calls Pr f args w (DrawnTII w))
    (h1 : ∀ g c xs k l w', OwnM w' w.heap.size (some ⟨g, 0, none⟩) xs.length c xs → xs.length ≤ 11 → -100 ≤ k → k ≤ 1000 → 0 ≤ l → l ≤ 1000 → Below w.heap.size w w' → K (.returned (.tuple #[.slice (some ⟨g, 0, none⟩) xs.length c, .int .i64 k, .int .i64 l])) w') : Calls Pr f args w K :=
  h.mono fun e w' ⟨g, c, xs, k, l, he, h2, h3, h4, h5, h6, h7, h8⟩ => by subst he; exact h1 g c xs k l w' h2 h3 h4 h5 h6 h7 h8
set_option maxHeartbeats 1000000 in
theorem drawGivenTerm_any (A : Option Addr) (n c : Nat) (w : World) (h : BytsAt w w.heap.size A n) (hn : n ≤ 9223372036854775807) (hc : n ≤ c) :
    Calls Try.prog 24 #[.slice A n c] w (DrawnTII w) := by
  go_enter Try.func24, Try.ntmps24
  go_wp2_with (fail)
  refine kOpen (open_any A n c w h hn hc) ?_
  intro R w1 hR hr1 hb1
  have HB1 := Lib.hid hb1
  have hs1 : w.heap.size ≤ w1.heap.size := hb1.size
  clear hb1
  go_wp2_with (fail)
  refine (l20Term_any R 0 9 _ hr1 (by omega) (by omega)).mono ?_
  rintro e w2 ⟨g, c1, xs, rfl, ho, hl, hm⟩
  have hcap := OwnM.cap ho
  have hR1 := hr1.lt
  have HM2 := Lib.hid hm
  have HO2 := Lib.hid ho
  clear hm ho hr1
  have hbd := stepsV_bd xs hl
  have hsl := sStepsOf_any (some ⟨g, 0, none⟩) xs.length c1 xs w2 (OwnM.at_ HO2.out) (by omega)
  obtain ⟨S, HS⟩ : ∃ q, Hid (StepsV xs = q) := ⟨_, rfl⟩
  rw [HS.out] at hbd hsl
  obtain ⟨hb1, hb2⟩ := hbd
  go_wp2_with (fail)
  refine kBV hsl ?_
  intro w3 hb
  clear hsl
  have HM3 := Lib.hid (HM2.out.below hb)
  have HO3 := Lib.hid (own_below HO2.out hb)
  clear hb
  obtain ⟨M, HMX⟩ : ∃ q, Hid (max S 0 = q) := ⟨_, rfl⟩
  have hM0 : 0 ≤ M := by rw [← HMX.out]; omega
  have hM1 : M ≤ 11 := by rw [← HMX.out]; omega
  have hMe := HMX.out
  go_wp2_with (fail)
  refine kPick (pick_any R _ (M + 1) _ HM3.out.2 (by omega)) ?_
  intro y w4 hq1 hq2 hm4 hs4
  obtain ⟨hy0, hy1⟩ := hq1 (by omega)
  have HM4 := Lib.hid (HM3.out.trans hm4)
  have HO4 := Lib.hid (own_mv HO3.out hR1 hm4)
  clear hq1 hq2 hm4 hs4
  go_wp2_with (fail)
  refine kPick (pick_any R _ 30 _ HM4.out.2 (by omega)) ?_
  intro z w5 hq1 hq2 hm5 hs5
  obtain ⟨hz0, hz1⟩ := hq1 (by omega)
  have HM5 := Lib.hid (HM4.out.trans hm5)
  have HO5 := Lib.hid (own_mv HO4.out hR1 hm5)
  clear hq1 hq2 hm5 hs5
  go_wp2_with (fail)
  refine kPick (pick_any R _ 12 _ HM5.out.2 (by omega)) ?_
  intro z2 w6 hq1 hq2 hm6 hs6
  obtain ⟨hz20, hz21⟩ := hq1 (by omega)
  have HM6 := Lib.hid (HM5.out.trans hm6)
  have HO6 := Lib.hid (own_mv HO5.out hR1 hm6)
  clear hq1 hq2 hm6 hs6 hMe
  go_wp2
  refine bodyPost_ret (v := .tuple #[.slice (some ⟨g, 0, none⟩) xs.length c1, .int .i64 _, .int .i64 z2]) (by simp [results, Try.results24, go_sem]; rfl) rfl ⟨g, c1, xs, _, z2, rfl, own_base HO6.out hs1, hl, by omega, by omega, hz20, by omega, HM6.out.below_of HB1.out hR⟩


end Go.Proofs.Ytookhelfbnhadaa
