/- The closed table of a plan by the reference: l2Closed. -/
import Derived.Test.YtpefimeogbpagaaT6
namespace Go.Proofs.Ytpefimeogbpagaa
open Go.RowKit

theorem TabAt.get {w : World} {A : Option Addr} {p : Nat} {T : Tab} (h : TabAt w A p T) (hp : 0 < p) : ∃ b off, A = some ⟨b, off, none⟩ ∧ ∀ i, i < p → ∃ r ro c, w.cell? ⟨b, off + i, none⟩ = some (.slice (some ⟨r, ro, none⟩) p c) ∧ ∀ j, j < p → w.cell? ⟨r, ro + j, none⟩ = some (.int .i64 (T i j)) := h.cells hp
theorem cl_lo4 {T : Tab} (hT : Lo 4000 T) {k : Nat} (hk : k ≤ 6) : Lo 256000 (cl T k) := fun x y => by
  have h1 := cl_lo (by omega) hT k x y
  have h3 : (2 : Int) ^ k ≤ 64 := by
    have : k = 0 ∨ k = 1 ∨ k = 2 ∨ k = 3 ∨ k = 4 ∨ k = 5 ∨ k = 6 := by omega
    rcases this with rfl | rfl | rfl | rfl | rfl | rfl | rfl <;> simp
  omega
theorem cl_hi {T : Tab} (hT : Hi T) (k : Nat) : Hi (cl T k) := by
  have := cl_mono T 0 k
  rw [Nat.zero_add] at this
  exact this.hi hT
theorem St_near {k i j : Nat} {C : Tab} (h1 : C i k < 100000) (h2 : C k j < 100000) : St k C i j = min (C i j) (C i k + C k j) := by
  unfold St; rw [if_pos ⟨h1, h2⟩]
theorem St_far {k i j : Nat} {C : Tab} (h : ¬ C i k < 100000 ∨ ¬ C k j < 100000) : St k C i j = C i j := by
  unfold St; rw [if_neg (by omega)]

set_option maxRecDepth 100000 in
set_option maxHeartbeats 4000000 in
theorem l2Closed_any (p : Nat) (A : Option Addr) (n c : Nat) (bs : List Bd) (w : World) (h : BndsAt w A n bs) (hp : p ≤ 6) (hn : n ≤ 1048576) (hlo : Lo 4000 (T0 bs)) :
    Calls Try.prog 46 #[.agg #[.int .i64 (p : Int), .slice A n c]] w (NewT w p (cl (T0 bs) p)) := by
  have HLO := Lib.hid hlo
  clear hlo
  obtain ⟨w0, HW0⟩ : ∃ q, Hid (w.alloc (.cells #[.int .i64 (p : Int), .slice A n c] 25) = q) := ⟨_, rfl⟩
  have hA0 : Below w.heap.size w w0 := HW0.out ▸ (Below.refl w.heap.size w).alloc (Nat.le_refl _) _
  have s0 : w0.cell? ⟨w.heap.size, 0, none⟩ = some (.int .i64 (p : Int)) := HW0.out ▸ by simp [go_sem]
  have HB0 := Lib.hid hA0
  have HH0 := Lib.hid (h.below hA0)
  have HZ := Lib.hid (show w0.heap.size = w.heap.size + 1 from HW0.out ▸ by simp)
  have HS0 := Lib.hid s0
  clear hA0 h
  go_enter Try.func46, Try.ntmps46
  go_wp2_with (fail)
  rw [HW0.out]
  obtain ⟨sb, HSB⟩ : ∃ q, Hid (w.heap.size = q) := ⟨_, rfl⟩
  rw [HSB.out] at s0 HS0 HB0 HZ ⊢
  refine kNewT (l2Table_any p A n c bs w0 HH0.out (by omega) hn) ?_
  intro A1 c1 w1 htab1 hb1
  obtain ⟨B, HB1⟩ : ∃ q, Hid (sb + 1 = q) := ⟨_, rfl⟩
  rw [HZ.out, HB1.out] at hb1
  have hsbB : sb < B := by have := HB1.out; omega
  have HT1 := Lib.hid htab1
  have HBL1 := Lib.hid hb1
  have hB1 := hb1.size
  rw [HZ.out, HB1.out] at hB1
  have s0 := (hb1.cell (p := ⟨sb, 0, none⟩) (by simp; omega)).trans HS0.out
  clear htab1 hb1
  go_wp2
  go_loopw [3, 4] (fun o i wr => ∃ (k : Nat) (A' : Option Addr) (c' : Nat), k ≤ p ∧ i = .int .i64 k ∧ o = .slice A' p c' ∧ TabAt wr A' p (cl (T0 bs) k) ∧ Below B w0 wr ∧ B ≤ wr.heap.size) (fun _ i _ => p - (intOf i).toNat)
  case atStart => exact ⟨0, A1, c1, Nat.zero_le _, rfl, rfl, HT1.out, HBL1.out, hB1⟩
  case round =>
    obtain ⟨wo, rfl⟩ : ∃ wo : World, wo = wr := ⟨_, rfl⟩
    obtain ⟨k, A', c', hk, rfl, rfl, htab, hb, hBw⟩ := hrel
    have HT := Lib.hid htab
    have HB := Lib.hid hb
    have s0' := (hb.cell (p := ⟨sb, 0, none⟩) (by simp; omega)).trans HS0.out
    clear htab hb s0 HT1 HBL1
    by_cases hkp : k < p
    · have bx := cl_lo4 HLO.out (k := k) (by omega)
      have by_ := cl_hi (T0_hi bs) k
      have hcl : cl (T0 bs) (k + 1) = St k (cl (T0 bs) k) := rfl
      obtain ⟨C, HC⟩ : ∃ C, Hid (cl (T0 bs) k = C) := ⟨_, rfl⟩
      rw [HC.out] at HT bx by_ hcl
      have HCL := Lib.hid hcl
      have HBX := Lib.hid bx
      have HBY := Lib.hid by_
      clear hcl bx by_
      obtain ⟨BK, HBK⟩ : ∃ q, Hid (wo.heap.size = q) := ⟨_, rfl⟩
      have HE0 := Lib.hid (RowsZ.empty wo BK (Nat.le_of_eq HBK.out.symm))
      rw [HBK.out] at HE0
      have hsBK : sb < BK := by have := HBK.out; omega
      have HBE := Lib.hid (show Below BK wo (wo.alloc (.cells #[] 29)) from HBK.out ▸ (Below.refl _ _).alloc (Nat.le_refl _) _)
      have HBR := Lib.hid (show Below BK wo wo from Below.refl _ _)
      go_wp2_with (fail)
      rw [HBK.out]
      go_loopw [5, 6] (fun o i wr => ∃ (i' g c1 : Nat) (ps : List PartZ), i' ≤ p ∧ i = .int .i64 i' ∧ o = .slice (some ⟨g, 0, none⟩) i' c1 ∧ RowsZ wr BK (some ⟨g, 0, none⟩) i' c1 ps ∧ Good ps p (St k C) ∧ Below BK wo wr) (fun _ i _ => p - (intOf i).toNat)
      case atStart => exact ⟨0, BK, 0, [], Nat.zero_le _, rfl, rfl, HE0.out, Good.nil _ _, HBE.out⟩
      case round =>
        obtain ⟨wn, rfl⟩ : ∃ wn : World, wn = wr := ⟨_, rfl⟩
        obtain ⟨i, g, c1, ps, hi, rfl, rfl, hrows, hgood, hb⟩ := hrel
        have HR := Lib.hid hrows
        have HG := Lib.hid hgood
        have HBN := Lib.hid hb
        have hgl := (hrows.own.lt g rfl).2
        have HPL := Lib.hid hrows.len
        have hbB : BK ≤ wn.heap.size := by have := hb.size; have := HBK.out; omega
        have s0b := (hb.cell (p := ⟨sb, 0, none⟩) (by simp; omega)).trans s0'
        clear hrows hgood hb HE0 HBE
        by_cases hip : i < p
        · go_wp2
          go_loopw [7, 8] (fun r j wr => ∃ (j' g2 c2 : Nat), j' ≤ p ∧ j = .int .i64 j' ∧ r = .slice (some ⟨g2, 0, none⟩) j' c2 ∧ OwnZ wr BK (some ⟨g2, 0, none⟩) j' c2 (rowL (St k C) i j') ∧ g2 ≠ g ∧ (∀ q ∈ ps, (hdZ q).ownBlock ≠ some g2) ∧ RowsZ wr BK (some ⟨g, 0, none⟩) i c1 ps ∧ Below BK wo wr) (fun _ j _ => p - (intOf j).toNat)
          case atStart => exact ⟨0, wn.heap.size, 0, Nat.zero_le _, rfl, rfl, own_litZ rfl BK _ 1 #[] 0 hbB (by decide) rfl, by omega, fun q hq e => by have := HR.out.inner_lt q hq _ e; omega, HR.out.alloc _, HBN.out.alloc hbB _⟩
          case round =>
            obtain ⟨wp, rfl⟩ : ∃ wp : World, wp = wr := ⟨_, rfl⟩
            obtain ⟨j, g2, c2, hj, rfl, rfl, hown, hne, hnp, hrows, hb⟩ := hrel
            have HO := Lib.hid hown
            have HR2 := Lib.hid hrows
            have HB2 := Lib.hid hb
            have HNP := Lib.hid hnp
            have hg2l := (hown.lt g2 rfl).2
            have hg2B := (hown.lt g2 rfl).1
            have hgl2 := (hrows.own.lt g rfl).2
            have s0c := (hb.cell (p := ⟨sb, 0, none⟩) (by simp; omega)).trans s0'
            have HTP := Lib.hid (HT.out.below (HBK.out.symm ▸ hb))
            have hbB2 : BK ≤ wp.heap.size := by have := hb.size; have := HBK.out; omega
            clear hown hrows hb hnp
            by_cases hjp : j < p
            · obtain ⟨tb, toff, rfl, htc⟩ := HTP.out.get (by omega)
              obtain ⟨r1, o1, q1, h1, hr1⟩ := htc i hip
              obtain ⟨r2, o2, q2, h2, hr2⟩ := htc k hkp
              have d0 := hr1 j hjp
              have d1 := hr1 k hkp
              have d2 := hr2 j hjp
              clear htc hr1 hr2
              have b1 := HBX.out i k
              have b2 := HBX.out k j
              have b3 := HBX.out i j
              have b4 := HBY.out i k
              have b5 := HBY.out k j
              have b6 := HBY.out i j
              have HN := Lib.hid (fun h1 h2 => St_near (k := k) (i := i) (j := j) (C := C) h1 h2)
              have HF := Lib.hid (fun h => St_far (k := k) (i := i) (j := j) (C := C) h)
              obtain ⟨x, HX⟩ : ∃ q, Hid (C i k = q) := ⟨_, rfl⟩
              obtain ⟨y, HY⟩ : ∃ q, Hid (C k j = q) := ⟨_, rfl⟩
              obtain ⟨z, HZZ⟩ : ∃ q, Hid (C i j = q) := ⟨_, rfl⟩
              rw [HX.out] at d1 b1 b4 HN HF
              rw [HY.out] at d2 b2 b5 HN HF
              rw [HZZ.out] at d0 b3 b6 HN HF
              by_cases hx : x < 100000
              · by_cases hy : y < 100000
                · have HV := Lib.hid (HN.out hx hy)
                  have hxx : decide (x < 100000) = true := decide_eq_true hx
                  have hyy : decide (y < 100000) = true := decide_eq_true hy
                  go_wp2
                  go_region
                  all_goals
                    go_wp2_with (first
                      | (at_builtin; refine wpl_app rowZ rfl _ _ (by rfl) BK _ j (vI (rowL (St k C) i j)) (by rfl) (HO.out.alloc _) ⟨wp.drew.heap.size, 0, none⟩ 1 1 (vI [min z (x + y)]) (by rfl) rfl (cell_one_at (by simp) _ _) (vI_one _) (by decide) (by omega) (by simp; omega) ?_
                         intro g' cap' wB hownB hgrow hat hltB))
                    have hgr := Lib.hid (show wp.grownBy wB (some g2) from grown_trZ (show wp.grownBy wp.drew (some g2) from ⟨rfl, rfl, rfl, Nat.le_refl _, fun _ _ _ => rfl⟩) (grown_trZ (World.grownBy_alloc _ _ _) hgrow))
                    have HOB := Lib.hid hownB
                    have HAT := Lib.hid hat
                    clear hownB hgrow hat
                    go_wp2
                    go_roundw
                    case rel =>
                      have hat' : g2 = g' ∨ g' = wp.heap.size + 1 := by
                        rcases HAT.out with e | e
                        · left; simp only [Value.ownBlock] at e; cases e; rfl
                        · right; simpa using e
                      refine ⟨j + 1, g', cap', by omega, by go_num, rfl, by show World.ownsRow _ _ _ _ _ _ (vI _); rw [rowL_succ, HV.out, vI_appZ]; exact HOB.out, ?_, fun q hq e => ?_, ?_, ?_⟩
                      · rcases hat' with rfl | rfl
                        · exact hne
                        · omega
                      · have hlt := HR2.out.inner_lt q hq _ e
                        rcases hat' with rfl | rfl
                        · exact HNP.out q hq e
                        · omega
                      · exact HR2.out.keptAp hgr.out (fun k hk e => by simp only [Value.ownBlock] at hk; cases hk; cases e; exact hne rfl) (fun q hq k hk e => by cases e; exact HNP.out q hq hk)
                      · exact HB2.out.grown hgr.out hbB2 (fun k hk => by cases hk; exact hg2B)
                    case measure => simp [intOf]; omega
                · have HV := Lib.hid (HF.out (.inr hy))
                  have hxx : decide (x < 100000) = true := decide_eq_true hx
                  have hyy : decide (y < 100000) = false := decide_eq_false hy
                  go_wp2_with (first
                    | (at_builtin; refine wpl_app rowZ rfl _ _ (by rfl) BK _ j (vI (rowL (St k C) i j)) (by rfl) (HO.out.alloc _) ⟨wp.heap.size, 0, none⟩ 1 1 (vI [z]) (by rfl) rfl (cell_one_at (by simp) _ _) (vI_one _) (by decide) (by omega) (by simp; omega) ?_
                       intro g' cap' wB hownB hgrow hat hltB))
                  have hgr := Lib.hid (show wp.grownBy wB (some g2) from grown_trZ (show wp.grownBy wp (some g2) from ⟨rfl, rfl, rfl, Nat.le_refl _, fun _ _ _ => rfl⟩) (grown_trZ (World.grownBy_alloc _ _ _) hgrow))
                  have HOB := Lib.hid hownB
                  have HAT := Lib.hid hat
                  clear hownB hgrow hat
                  go_wp2
                  go_roundw
                  case rel =>
                    have hat' : g2 = g' ∨ g' = wp.heap.size + 1 := by
                      rcases HAT.out with e | e
                      · left; simp only [Value.ownBlock] at e; cases e; rfl
                      · right; simpa using e
                    refine ⟨j + 1, g', cap', by omega, by go_num, rfl, by show World.ownsRow _ _ _ _ _ _ (vI _); rw [rowL_succ, HV.out, vI_appZ]; exact HOB.out, ?_, fun q hq e => ?_, ?_, ?_⟩
                    · rcases hat' with rfl | rfl
                      · exact hne
                      · omega
                    · have hlt := HR2.out.inner_lt q hq _ e
                      rcases hat' with rfl | rfl
                      · exact HNP.out q hq e
                      · omega
                    · exact HR2.out.keptAp hgr.out (fun k hk e => by simp only [Value.ownBlock] at hk; cases hk; cases e; exact hne rfl) (fun q hq k hk e => by cases e; exact HNP.out q hq hk)
                    · exact HB2.out.grown hgr.out hbB2 (fun k hk => by cases hk; exact hg2B)
                  case measure => simp [intOf]; omega
              · have HV := Lib.hid (HF.out (.inl hx))
                have hxx : decide (x < 100000) = false := decide_eq_false hx
                go_wp2_with (first
                  | (at_builtin; refine wpl_app rowZ rfl _ _ (by rfl) BK _ j (vI (rowL (St k C) i j)) (by rfl) (HO.out.alloc _) ⟨wp.heap.size, 0, none⟩ 1 1 (vI [z]) (by rfl) rfl (cell_one_at (by simp) _ _) (vI_one _) (by decide) (by omega) (by simp; omega) ?_
                     intro g' cap' wB hownB hgrow hat hltB))
                have hgr := Lib.hid (show wp.grownBy wB (some g2) from grown_trZ (show wp.grownBy wp (some g2) from ⟨rfl, rfl, rfl, Nat.le_refl _, fun _ _ _ => rfl⟩) (grown_trZ (World.grownBy_alloc _ _ _) hgrow))
                have HOB := Lib.hid hownB
                have HAT := Lib.hid hat
                clear hownB hgrow hat
                go_wp2
                go_roundw
                case rel =>
                  have hat' : g2 = g' ∨ g' = wp.heap.size + 1 := by
                    rcases HAT.out with e | e
                    · left; simp only [Value.ownBlock] at e; cases e; rfl
                    · right; simpa using e
                  refine ⟨j + 1, g', cap', by omega, by go_num, rfl, by show World.ownsRow _ _ _ _ _ _ (vI _); rw [rowL_succ, HV.out, vI_appZ]; exact HOB.out, ?_, fun q hq e => ?_, ?_, ?_⟩
                  · rcases hat' with rfl | rfl
                    · exact hne
                    · omega
                  · have hlt := HR2.out.inner_lt q hq _ e
                    rcases hat' with rfl | rfl
                    · exact HNP.out q hq e
                    · omega
                  · exact HR2.out.keptAp hgr.out (fun k hk e => by simp only [Value.ownBlock] at hk; cases hk; cases e; exact hne rfl) (fun q hq k hk e => by cases e; exact HNP.out q hq hk)
                  · exact HB2.out.grown hgr.out hbB2 (fun k hk => by cases hk; exact hg2B)
                case measure => simp [intOf]; omega
            · obtain rfl : j = p := by omega
              have HRL := Lib.hid (rowL_len (St k C) i j)
              go_wp2_with (first
                | (at_builtin; refine wpl_app rowRZ rfl _ _ (by rfl) BK _ i (vSZ ps) (by rfl) (HR2.out.own.alloc _) ⟨wp.heap.size, 0, none⟩ 1 1 [.slice (some ⟨g2, 0, none⟩) j c2] (by rfl) rfl (cell_one_at (by simp) _ _) (by intro u hu; simp at hu; subst hu; rfl) (by decide) (by omega) (by simp; omega) ?_
                   intro g' cap' wB hownB hgrow hat hltB))
              have HA := Lib.hid ((HR2.out.alloc (.cells #[.slice (some ⟨g2, 0, none⟩) j c2] 29)).app (qs := [((some ⟨g2, 0, none⟩, c2), rowL (St k C) i j)]) (m := 1) (g := g') (cap := cap') (wB := wB) (fun q hq => by
                obtain rfl := List.mem_singleton.1 hq
                refine ⟨?_, fun k hk e => ?_⟩
                · show World.ownsRow _ _ _ _ (.slice _ _ _) _ _
                  rw [HRL.out]; exact HO.out.alloc _
                · have hk' : k = g2 := by simpa [hdZ, Value.ownBlock] using hk.symm
                  have e' : g = k := by simpa [Value.ownBlock] using e
                  omega) (by rw [vSZ_one', hdZ, HRL.out]; exact hownB) hgrow (by
                rcases hat with e | e
                · exact .inl e
                · exact .inr (by rw [e]; exact Nat.le_refl _)))
              have HBQ := Lib.hid ((HB2.out.alloc hbB2 _).grown hgrow (by simp; omega) (fun k hk => (HR2.out.own.lt k hk).1))
              clear hownB hgrow hat
              go_wp2
              go_roundw
              case rel => exact ⟨i + 1, g', cap', _, by omega, by go_num, rfl, HA.out, HG.out.snoc HPL.out rfl, HBQ.out⟩
              case measure => simp [intOf]; omega
        · obtain rfl : i = p := by omega
          have HTN := Lib.hid (HR.out.tab HG.out)
          go_wp2
          go_roundw
          case rel => exact ⟨k + 1, _, _, by omega, by go_num, rfl, by rw [HCL.out]; exact HTN.out, HB.out.trans (HBN.out.mono (by have := HBK.out; omega)), by have := HBK.out; omega⟩
          case measure => simp [intOf]; omega
    · obtain rfl : k = p := by omega
      go_wp2
      go_ret
      exact ⟨_, _, rfl, HT.out, by have := HSB.out; rw [this]; exact HB0.out.trans (HB.out.mono (by omega))⟩

set_option maxHeartbeats 2000000 in
theorem l2Fits_any (p : Nat) (A : Option Addr) (c : Nat) (T : Tab) (w : World) (h : TabAt w A p T) (hp : p ≤ 1048576) :
    Calls Try.prog 45 #[.slice A p c] w (Same w (.bool (B (Nonneg p T)))) := by
  have HT := Lib.hid h
  clear h
  go_enter Try.func45, Try.ntmps45
  go_wp2
  go_loopw [3] (fun i wr => ∃ (k : Nat), k ≤ p ∧ i = .int .i64 k ∧ wr = w ∧ ∀ m, m < k → 0 ≤ T m m) (fun i _ => p - (intOf i).toNat)
  case atStart => exact ⟨0, Nat.zero_le _, rfl, rfl, fun m hm => by omega⟩
  case round =>
    obtain ⟨k, hk, rfl, rfl, hall⟩ := hrel
    have HA := Lib.hid hall
    clear hall
    by_cases hkp : k < p
    · obtain ⟨tb, toff, rfl, htc⟩ := HT.out.cells (by omega)
      obtain ⟨r1, o1, q1, h1, hr1⟩ := htc k hkp
      have d0 := hr1 k hkp
      clear htc hr1
      obtain ⟨x, HX⟩ : ∃ q, Hid (T k k = q) := ⟨_, rfl⟩
      rw [HX.out] at d0
      by_cases hx : x < 0
      · go_wp2
        go_ret
        exact ⟨ret_b (B_false (fun hh => by have := hh k hkp; rw [HX.out] at this; omega)).symm, rfl⟩
      · go_wp2
        go_roundw
        case rel =>
          refine ⟨k + 1, by omega, by go_num, by first | rfl | trivial, fun m hm => ?_⟩
          rcases Nat.lt_or_ge m k with h1 | h1
          · exact HA.out m h1
          · obtain rfl : m = k := by omega
            rw [HX.out]; omega
        case measure => simp [intOf]; omega
    · obtain rfl : k = p := by omega
      go_wp2
      go_ret
      exact ⟨ret_b (B_true (fun m hm => HA.out m hm)).symm, rfl⟩

end Go.Proofs.Ytpefimeogbpagaa
