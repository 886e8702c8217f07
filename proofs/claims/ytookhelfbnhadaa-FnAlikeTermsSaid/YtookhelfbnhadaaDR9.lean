/- Draws of two terms. -/
import Derived.Test.YtookhelfbnhadaaDR6
import Derived.Test.YtookhelfbnhadaaMB
import Derived.Test.YtookhelfbnhadaaMJ
import Derived.Test.YtookhelfbnhadaaN8
import Derived.Lib.MinMax
namespace Go.Proofs.Ytookhelfbnhadaa
open Go.RowKit

/-- What a draw of two terms leaves. -/
def DrawnTT (w : World) (e : Ending) (w' : World) : Prop :=
  ∃ (g c : Nat) (xs : List Mk) (A : Option Addr) (c2 : Nat) (ys : List Mk), e = .returned (.tuple #[.slice (some ⟨g, 0, none⟩) xs.length c, .slice A ys.length c2]) ∧ MarksAt w' (some ⟨g, 0, none⟩) xs.length xs ∧ xs.length ≤ 11 ∧ xs.length ≤ c ∧ MarksAt w' A ys.length ys ∧ ys.length ≤ 11 ∧ ys.length ≤ c2 ∧ Below w.heap.size w w'
theorem kDrawnTT {Pr : Program} {f : FuncId} {args : Array Value} {w : World} {K : Ending → World → Prop} (h : Calls Pr f args w (DrawnTT w))
    (h1 : ∀ g c xs A c2 ys w', MarksAt w' (some ⟨g, 0, none⟩) xs.length xs → xs.length ≤ 11 → xs.length ≤ c → MarksAt w' A ys.length ys → ys.length ≤ 11 → ys.length ≤ c2 → Below w.heap.size w w' → K (.returned (.tuple #[.slice (some ⟨g, 0, none⟩) xs.length c, .slice A ys.length c2])) w') : Calls Pr f args w K :=
  h.mono fun e w' ⟨g, c, xs, A, c2, ys, he, h2, h3, h4, h5, h6, h7, h8⟩ => by subst he; exact h1 g c xs A c2 ys w' h2 h3 h4 h5 h6 h7 h8
set_option maxHeartbeats 1000000 in
theorem drawAlikeTerms_any (A : Option Addr) (n c : Nat) (w : World) (h : BytsAt w w.heap.size A n) (hn : n ≤ 9223372036854775807) (hc : n ≤ c) :
    Calls Try.prog 37 #[.slice A n c] w (DrawnTT w) := by
  go_enter Try.func37, Try.ntmps37
  go_wp2_with (fail)
  refine kOpen (open_any A n c w h hn hc) ?_
  intro R w1 hR hr1 hb1
  have HB1 := Lib.hid hb1
  have hs1 : w.heap.size ≤ w1.heap.size := hb1.size
  clear hb1
  go_wp2_with (fail)
  refine (l20Term_any R 0 9 _ hr1 (by omega) (by omega)).mono ?_
  rintro e w2 ⟨g, c1, xs, rfl, ho, hl, hm⟩
  have hcap := OwnM.cap ho
  have hR1 := hr1.lt
  have HM2 := Lib.hid hm
  have HO2 := Lib.hid ho
  clear hm ho hr1
  go_wp2_with (fail)
  refine kPick (pick_any R _ 4 _ HM2.out.2 (by omega)) ?_
  intro y w3 hq1 hq2 hm3 hs3
  obtain ⟨hy0, hy1⟩ := hq1 (by omega)
  have HM3 := Lib.hid (HM2.out.trans hm3)
  have HO3 := Lib.hid (own_mv HO2.out hR1 hm3)
  have HMK := Lib.hid (OwnM.at_ HO3.out)
  have HB3 := Lib.hid (HM3.out.below_of HB1.out hR)
  clear hq1 hq2 hm3 hs3
  have hback := backF_len xs
  have htrim := trimF_len xs
  have hleft := leftF_len xs
  by_cases hq0 : y = 0
  · subst hq0
    go_wp2_with (fail)
    refine kNewM (sBackTerm_any (some ⟨g, 0, none⟩) xs.length c1 xs _ HMK.out (by omega) hcap) ?_
    intro A2 c2 w4 h4 hb4
    have HX4 := Lib.hid (HMK.out.below hb4)
    have HB4 := Lib.hid (HB3.out.trans (hb4.mono HB3.out.size))
    go_wp2
    exact bodyPost_ret (v := .tuple #[.slice (some ⟨g, 0, none⟩) xs.length c1, .slice A2 (BackF xs).length c2]) (by simp [results, Try.results37, go_sem]) rfl ⟨g, c1, xs, A2, c2, BackF xs, rfl, HX4.out, hl, hcap, OwnM.at_ h4, by omega, OwnM.cap h4, HB4.out⟩
  · by_cases hq1 : y = 1
    · subst hq1
      go_wp2_with (fail)
      refine kNewM (sTrimTerm_any (some ⟨g, 0, none⟩) xs.length c1 xs _ HMK.out (by omega) hcap) ?_
      intro A2 c2 w4 h4 hb4
      have HX4 := Lib.hid (HMK.out.below hb4)
      have HB4 := Lib.hid (HB3.out.trans (hb4.mono HB3.out.size))
      go_wp2
      exact bodyPost_ret (v := .tuple #[.slice (some ⟨g, 0, none⟩) xs.length c1, .slice A2 (TrimF xs).length c2]) (by simp [results, Try.results37, go_sem]) rfl ⟨g, c1, xs, A2, c2, TrimF xs, rfl, HX4.out, hl, hcap, OwnM.at_ h4, by omega, OwnM.cap h4, HB4.out⟩
    · by_cases hq2 : y = 2
      · subst hq2
        go_wp2_with (fail)
        refine kNewM (sLeftTerm_any (some ⟨g, 0, none⟩) xs.length c1 xs _ HMK.out (by omega) hcap) ?_
        intro A2 c2 w4 h4 hb4
        have HX4 := Lib.hid (HMK.out.below hb4)
        have HB4 := Lib.hid (HB3.out.trans (hb4.mono HB3.out.size))
        go_wp2
        exact bodyPost_ret (v := .tuple #[.slice (some ⟨g, 0, none⟩) xs.length c1, .slice A2 (LeftF xs).length c2]) (by simp [results, Try.results37, go_sem]) rfl ⟨g, c1, xs, A2, c2, LeftF xs, rfl, HX4.out, hl, hcap, OwnM.at_ h4, by omega, OwnM.cap h4, HB4.out⟩
      · have b0 : (y == 0) = false := by simpa using hq0
        have b1 : (y == 1) = false := by simpa using hq1
        have b2 : (y == 2) = false := by simpa using hq2
        clear hq0 hq1 hq2
        go_wp2_with (fail)
        refine (l20Term_any R _ 9 _ HM3.out.2 (by omega) (by omega)).mono ?_
        rintro e w4 ⟨g2, c2, ys, rfl, ho4, hl4, hm4⟩
        have HX4 := Lib.hid (OwnM.at_ (own_mv HO3.out hR1 hm4))
        have HB4 := Lib.hid ((HM3.out.trans hm4).below_of HB1.out hR)
        go_wp2
        exact bodyPost_ret (v := .tuple #[.slice (some ⟨g, 0, none⟩) xs.length c1, .slice (some ⟨g2, 0, none⟩) ys.length c2]) (by simp [results, Try.results37, go_sem]) rfl ⟨g, c1, xs, _, c2, ys, rfl, HX4.out, hl, hcap, OwnM.at_ ho4, hl4, OwnM.cap ho4, HB4.out⟩

end Go.Proofs.Ytookhelfbnhadaa
