/- The reference's DealOk; a deal among the arguments. -/
import Derived.Test.YtopfhlopicjemaaD1
import Derived.Test.YtopfhlopicjemaaK2
namespace Go.Proofs.Ytopfhlopicjemaa
open Go.RowKit

theorem prOk_iff (p : Int) (x : Pm) : PrOk p x ↔ (HasPt p x.1 ∧ HasPt p x.2.1 ∧ x.1 ≠ x.2.1 ∧ InR x.2.2.1 0 x.2.2.2 ∧ x.2.2.2 ≤ 12) := by
  unfold PrOk InR
  constructor
  · rintro ⟨h1, h2, h3, h4, h5⟩; exact ⟨h1, h2, h3, h5, h4.2⟩
  · rintro ⟨h1, h2, h3, h4, h5⟩; exact ⟨h1, h2, h3, ⟨by omega, h5⟩, h4⟩

set_option maxRecDepth 100000 in
set_option maxHeartbeats 1000000 in
theorem sDealOk_any (p : Int) (A : Option Addr) (n c : Nat) (bs : List Bd) (C : Option Addr) (m d : Nat) (xs : List Pm) (w : World) (h : BndsAt w A n bs) (g : PromsAt w C m xs) (hn : n ≤ 1048576) (hm : m ≤ 1048576) :
    Calls Try.prog 41 #[.agg #[.int .i64 p, .slice A n c, .slice C m d]] w (Bl w (.bool (B (DlOk p bs xs)))) := by
  have HL := Lib.hid h.len
  have HG := Lib.hid g.len
  have hB0 : Below w.heap.size w (w.alloc (.cells #[.int .i64 p, .slice A n c, .slice C m d] 66)) := (Below.refl w.heap.size w).alloc (Nat.le_refl _) _
  go_enter Try.func41, Try.ntmps41
  go_wp2_with (fail)
  refine kB (sPlanOk_any p A n c bs _ (h.below hB0) hn) ?_ ?_
  · intro w1 hp hb1
    have hB1 : Below w.heap.size w w1 := hB0.trans (hb1.mono hB0.size)
    have e0 : w1.cell? ⟨w.heap.size, 0, none⟩ = some (.int .i64 p) := keep hb1 (by simp [go_sem])
    have e1 : w1.cell? ⟨w.heap.size, 1, none⟩ = some (.slice A n c) := keep hb1 (by simp [go_sem])
    have e2 : w1.cell? ⟨w.heap.size, 2, none⟩ = some (.slice C m d) := keep hb1 (by simp [go_sem])
    have g1 := g.below hB1
    have HB1 := Lib.hid hB1
    clear hb1 hB1
    by_cases h12 : n ≤ 12
    · by_cases h4 : m ≤ 2
      · go_wp2
        go_loopw [3] (fun i wr => ∃ k : Nat, k ≤ m ∧ i = .int .i64 k ∧ Below w1.heap.size w1 wr ∧ DlUp p xs k) (fun i _ => m - (intOf i).toNat)
        case atStart => exact ⟨0, Nat.zero_le _, rfl, Below.refl _ _, fun j hj => by omega⟩
        case round =>
          obtain ⟨wo, rfl⟩ : ∃ wo : World, wo = wr := ⟨_, rfl⟩
          obtain ⟨k, hk, rfl, hb, hup⟩ := hrel
          have HU := Lib.hid hup
          have HB := Lib.hid hb
          clear hup
          have i0 := keep hb e0
          have i1 := keep hb e1
          have i2 := keep hb e2
          clear hb
          by_cases hlt : k < m
          · obtain ⟨b, off, rfl, hc⟩ := (g1.below HB.out).cells (by omega)
            obtain ⟨c0, c1, c2, c3⟩ := hc k hlt
            have hno : ¬ (PrOk p (xs.getD k (0, 0, 0, 0)) ∧ Apart xs k xs.length) → ¬ DlOk p bs xs := fun hf hh => hf (hh.2.2.2 k (by rw [HG.out]; exact hlt))
            obtain ⟨x, HX⟩ : ∃ q, Hid (xs.getD k (0, 0, 0, 0) = q) := ⟨_, rfl⟩
            rw [HX.out] at c0 c1 c2 c3 hno
            rw [prOk_iff] at hno
            have HNO := Lib.hid hno
            have HC := Lib.hid hc
            clear hno hc
            obtain ⟨x0, x1, x2, x3⟩ := x
            have hbl : b < wo.heap.size := cell_lt c0
            have hgl : w.heap.size < wo.heap.size := cell_lt i0
            have hBW : Below wo.heap.size wo (wo.alloc (.cells #[.int .i64 x0, .int .i64 x1, .int .i64 x2, .int .i64 x3] 105)) := (Below.refl _ _).alloc (Nat.le_refl _) _
            have hBE : Below w.heap.size w (wo.alloc (.cells #[.int .i64 x0, .int .i64 x1, .int .i64 x2, .int .i64 x3] 105)) := HB1.out.trans ((HB.out.trans (hBW.mono HB.out.size)).mono HB1.out.size)
            have HBE := Lib.hid hBE
            have HBW := Lib.hid hBW
            clear hBE hBW
            go_wp2_with (fail)
            refine kS (l1In_any x0 0 (wrap64 (p - 1)) _) ?_ ?_ <;> intro hp0
            · go_wp2_with (fail)
              refine kS (l1In_any x1 0 (wrap64 (p - 1)) _) ?_ ?_ <;> intro hp1
              · by_cases h01 : x0 = x1
                · have hq : (x0 == x1) = true := by simpa using h01
                  have H01 := Lib.hid h01
                  clear h01
                  go_wp2
                  go_ret
                  exact ⟨ret_b (B_false (HNO.out (fun hh => hh.1.2.2.1 H01.out))).symm, HBE.out⟩
                · have hq : (x0 == x1) = false := by simpa using h01
                  have H01 := Lib.hid h01
                  clear h01
                  go_wp2_with (fail)
                  refine kS (l1In_any x2 0 x3 _) ?_ ?_ <;> intro hin2
                  · by_cases h3 : x3 ≤ 12
                    · go_wp2
                      go_loopw [5] (fun i wq => ∃ j z : Nat, j ≤ m ∧ i = .int .i64 j ∧ wq = (wo.alloc (.cells #[.int .i64 x0, .int .i64 x1, .int .i64 x2, .int .i64 x3] 105)).drewN z ∧ Apart xs k j) (fun i _ => m - (intOf i).toNat)
                      case atStart => exact ⟨0, 0, Nat.zero_le _, rfl, rfl, fun j hj => by omega⟩
                      case round =>
                        obtain ⟨j, z, hj, rfl, rfl, hap⟩ := hrel
                        have HAP := Lib.hid hap
                        clear hap
                        by_cases hltj : j < m
                        · obtain ⟨d0, d1, d2, d3⟩ := HC.out j hltj
                          obtain ⟨y, HY⟩ : ∃ q, Hid (xs.getD j (0, 0, 0, 0) = q) := ⟨_, rfl⟩
                          rw [HY.out] at d0 d1 d2 d3
                          obtain ⟨u0, u1, u2, u3⟩ := y
                          have hst : Apart xs k j → (j ≠ k → x1 ≠ u0 ∧ x1 ≠ u1) → Apart xs k (j + 1) := fun h1 h2 i hi hne => by
                            rcases Nat.lt_or_ge i j with h3 | h3
                            · exact h1 i h3 hne
                            · obtain rfl : i = j := by omega
                              rw [HX.out, HY.out]; exact h2 hne
                          have HST := Lib.hid hst
                          have hbad : j ≠ k → (x1 = u0 ∨ x1 = u1) → ¬ DlOk p bs xs := fun h1 h2 => HNO.out (fun hh => by
                            have := hh.2 j (by rw [HG.out]; exact hltj) h1
                            rw [HX.out, HY.out] at this
                            rcases h2 with h2 | h2
                            · exact this.1 h2
                            · exact this.2 h2)
                          have HBAD := Lib.hid hbad
                          clear hst hbad
                          by_cases hjk : j = k
                          · subst hjk
                            have hq2 : ((j : Int) != (j : Int)) = false := by simp
                            go_wp2
                            go_quiet (fail)
                            go_wp2
                            go_roundw
                            case rel => exact ⟨j + 1, _, by omega, by go_num, rfl, HST.out HAP.out (fun h => absurd rfl h)⟩
                            case measure => simp [intOf]; omega
                          · have hq2 : ((j : Int) != (k : Int)) = true := by simp; omega
                            have HJK := Lib.hid hjk
                            clear hjk
                            by_cases ha : x1 = u1
                            · have hqa : (u1 == x1) = true := by simpa using ha.symm
                              have HA := Lib.hid ha
                              clear ha
                              go_wp2
                              go_quiet (fail)
                              go_wp2
                              go_ret
                              exact ⟨ret_b (B_false (HBAD.out HJK.out (.inr HA.out))).symm, below_drewN (below_drewN HBE.out _) _⟩
                            · have hqa : (u1 == x1) = false := by simpa using fun h => ha h.symm
                              have HA := Lib.hid ha
                              clear ha
                              by_cases hc2 : x1 = u0
                              · have hqb : (u0 == x1) = true := by simpa using hc2.symm
                                have HC2 := Lib.hid hc2
                                clear hc2
                                go_wp2
                                go_quiet (fail)
                                go_wp2
                                go_ret
                                exact ⟨ret_b (B_false (HBAD.out HJK.out (.inl HC2.out))).symm, below_drewN (below_drewN HBE.out _) _⟩
                              · have hqb : (u0 == x1) = false := by simpa using fun h => hc2 h.symm
                                have HC2 := Lib.hid hc2
                                clear hc2
                                go_wp2
                                go_quiet (fail)
                                go_wp2
                                go_roundw
                                case rel => exact ⟨j + 1, _, by omega, by go_num, rfl, HST.out HAP.out (fun _ => ⟨HC2.out, HA.out⟩)⟩
                                case measure => simp [intOf]; omega
                        · go_wp2
                          go_roundw
                          case rel =>
                            refine ⟨k + 1, by omega, by go_num, below_drewN (HB.out.trans (HBW.out.mono HB.out.size)) _, fun i hi => ?_⟩
                            rcases Nat.lt_or_ge i k with h1 | h1
                            · exact HU.out i h1
                            · obtain rfl : i = k := by omega
                              obtain rfl : j = m := by omega
                              rw [HX.out]
                              exact ⟨(prOk_iff _ _).2 ⟨hp0.out, hp1.out, H01.out, hin2.out, h3⟩, by rw [HG.out]; exact HAP.out⟩
                          case measure => simp [intOf]; omega
                    · go_wp2
                      go_ret
                      exact ⟨ret_b (B_false (HNO.out (fun hh => by have := hh.1.2.2.2.2; omega))).symm, HBE.out⟩
                  · go_wp2
                    go_ret
                    exact ⟨ret_b (B_false (HNO.out (fun hh => hin2.out hh.1.2.2.2.1))).symm, HBE.out⟩
              · go_wp2
                go_ret
                exact ⟨ret_b (B_false (HNO.out (fun hh => hp1.out hh.1.2.1))).symm, HBE.out⟩
            · go_wp2
              go_ret
              exact ⟨ret_b (B_false (HNO.out (fun hh => hp0.out hh.1.1))).symm, HBE.out⟩
          · go_wp2
            go_ret
            obtain rfl : k = m := by omega
            exact ⟨ret_b (B_true ⟨hp.out, by rw [HL.out]; exact h12, by rw [HG.out]; exact h4, by rw [HG.out]; exact HU.out⟩).symm, HB1.out.trans (HB.out.mono HB1.out.size)⟩
      · go_wp2
        go_ret
        exact ⟨ret_b (B_false (fun hh => h4 (by rw [← HG.out]; exact hh.2.2.1))).symm, HB1.out⟩
    · go_wp2
      go_ret
      exact ⟨ret_b (B_false (fun hh => h12 (by rw [← HL.out]; exact hh.2.1))).symm, HB1.out⟩
  · intro w1 hp hb1
    go_wp2
    go_ret
    exact ⟨ret_b (B_false (fun hh => hp.out hh.1)).symm, hB0.trans (hb1.mono hB0.size)⟩

section
open Go.ChangeShapes Go.WideShapes Go.ChangeAt Go.Joins Go.Deep
set_option maxRecDepth 100000 in
theorem open_deal {H : Type} {enc : TypeId × Value → H} {w : World} {base b0 : Nat} {spare : Nat → Bool} {held : Bool} {r : Reach} {v : Value} {d : DataW H} {p : List MemPlace}
    (hv : Value.okWide Try.prog w r b0 71 v) (h : DataW.Trod enc Try.prog w base spare held 71 v d p) :
    ∃ q A n c bs C m d ls, v = .agg #[.int .i64 q, .slice A n c, .slice C m d] ∧ (n ≤ 9223372036854775807 ∧ m ≤ 9223372036854775807 ∧ BndsAt w A n bs ∧ PromsAt w C m ls) := by
  obtain ⟨cs, rfl, hsz⟩ := okWide_struct Try.underlying71 hv
  obtain ⟨c0, c1, c2, rfl⟩ := array3 (hsz.trans (by kernel_rfl))
  obtain ⟨fuel, hf⟩ := h
  obtain ⟨y0, y1, m, hx, hl, h0, h1⟩ := trod_struct2 Try.underlying71 (by simpa [Value.cells] using hf)
  have h0' : DataW.trod enc Try.prog w base spare held m 56 [c0, c1] = some y0 := by
    have hC : Try.prog.cellsOf 56 = 2 := by kernel_rfl
    simpa [hC] using h0
  have h1' : DataW.trod enc Try.prog w base spare held m 69 [c2] = some y1 := by
    have hC : Try.prog.cellsOf 69 = 1 := by kernel_rfl
    simpa [hC] using h1
  obtain ⟨q, A, n, c, bs, rfl, rfl, hn, hb⟩ := plan_of_trod h0'
  obtain ⟨C, k, e, ls, rfl, hk, hb'⟩ := openPromiseS h1'
  exact ⟨q, A, n, c, bs, C, k, e, ls, rfl, hn, hk, hb, hb'⟩
end

end Go.Proofs.Ytopfhlopicjemaa
