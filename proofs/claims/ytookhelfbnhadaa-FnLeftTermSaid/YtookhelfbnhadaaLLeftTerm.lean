/- The walk of FnLeftTerm: for every code the law returns true, and the code is left as it was. -/
import Derived.Test.YtookhelfbnhadaaDR6
import Derived.Test.YtookhelfbnhadaaAL
import Derived.Test.YtookhelfbnhadaaSM
import Derived.Test.YtookhelfbnhadaaQ2
import Derived.Test.YtookhelfbnhadaaN8
import Derived.Test.YtookhelfbnhadaaN5
namespace Go.Proofs.Ytookhelfbnhadaa
open Go.RowKit

theorem left_is {xs : List Mk} {x : Tm} (h : TIs xs x) : TIs (marksOf (leftT x)) (leftT x) := ⟨leftT_wf h.1, rfl, by have h1 := leftT_marks x; have h2 := h.2.2; rw [← h.2.1] at h2; omega⟩
theorem own_apart {w w' : World} {base : Nat} {e : TypeId} {size : Nat} {v : Value} {n : Nat} {xs : List Value} {row : Option Nat} (h : w.ownsRow base e size v n xs) (hg : w.grownBy w' row) (hne : ∀ g, v.ownBlock = some g → row ≠ some g) : w'.ownsRow base e size v n xs := by
  refine h.kept hg ?_
  cases hv : v.ownBlock with
  | none => exact .inl rfl
  | some k => exact .inr (fun e => hne k hv e.symm)
theorem stepsOnly_take {xs : List Mk} {k : Nat} {x : Mk} (hk : k < xs.length) (hx : xs.getD k (0, 0, 0) = x) : stepsOnly (xs.take (k + 1)) = stepsOnly (xs.take k) ++ (if x.1 = 0 then [x] else []) := by
  have e : xs[k] = x := by simpa [List.getD, hk] using hx
  rw [List.take_succ_eq_append_getElem hk, stepsOnly_append, e]
  congr 1
  by_cases h : x.1 = 0
  · rw [if_pos h]; simp [stepsOnly, h]
  · rw [if_neg h]; simp [stepsOnly, h]
theorem stepsOnly_len (xs : List Mk) : (stepsOnly xs).length ≤ xs.length := List.length_filter_le _ _

set_option maxRecDepth 100000 in
set_option maxHeartbeats 40000000 in
theorem FnLeftTerm_any (A0 : Option Addr) (n0 c0 : Nat) (w : World) (F0 : n0 ≤ 9223372036854775807 ∧ n0 ≤ c0 ∧ BytsAt w w.heap.size A0 n0) :
    Calls Try.prog 7 #[.slice A0 n0 c0] w fun e w' => e = .returned (.bool true) ∧ Below w.heap.size w w' := by
  obtain ⟨hm0, hc0, h0⟩ := F0
  by_cases hn : n0 ≤ 1048576
  rotate_left
  · go_enter Try.func7, Try.ntmps7
    go_wp2
    go_ret
    exact ⟨rfl, Below.refl _ _⟩
  go_enter Try.func7, Try.ntmps7
  go_wp2_with (fail)
  refine kDrawnT (drawLeftTerm_any A0 n0 c0 w h0 hm0 hc0) ?_
  intro g c xs w1 hown hl hb1
  have hcap := OwnM.cap hown
  have HM := Lib.hid (OwnM.at_ hown)
  have HB1 := Lib.hid hb1
  clear hown hb1
  obtain ⟨R, HR⟩ : ∃ q, Hid (LeftF xs = q) := ⟨_, rfl⟩
  have hRl : R.length ≤ xs.length := by rw [← HR.out]; exact leftF_len xs
  have hci := iLeftTerm_any (some ⟨g, 0, none⟩) xs.length c xs w1 HM.out (by omega)
  rw [HR.out] at hci
  go_wp2_with (fail)
  refine kNewM hci ?_
  intro A2 c2 w2 h2 hb2
  clear hci
  have HB2 := Lib.hid (HB1.out.trans (hb2.mono HB1.out.size))
  have HM2 := Lib.hid (HM.out.below hb2)
  have HR2 := Lib.hid (OwnM.at_ h2)
  have hcap2 := OwnM.cap h2
  clear hb2 h2
  have hcs := sLeftTerm_any (some ⟨g, 0, none⟩) xs.length c xs w2 HM2.out (by omega) hcap
  rw [HR.out] at hcs
  go_wp2_with (fail)
  refine kNewM hcs ?_
  intro A3 c3 w3 h3 hb3
  clear hcs
  have HB3 := Lib.hid (HB2.out.trans (hb3.mono HB2.out.size))
  have HM3 := Lib.hid (HM2.out.below hb3)
  have HR3 := Lib.hid (HR2.out.below hb3)
  have HS3 := Lib.hid (OwnM.at_ h3)
  clear hb3 h3
  go_wp2_with (fail)
  refine kQ (sameMarks_any A2 A3 R.length c2 R.length c3 R R _ HR3.out HS3.out (by omega)) ?_ (fun _ h => absurd rfl h.out)
  intro m3 _
  have HB4 := Lib.hid (below_drewN HB3.out m3)
  have HM4 := Lib.hid (HM3.out.drewN m3)
  have HR4 := Lib.hid (HR3.out.drewN m3)
  obtain ⟨w4, HW4⟩ : ∃ q, Hid (w3.drewN m3 = q) := ⟨_, rfl⟩
  rw [HW4.out] at HB4 HM4 HR4 ⊢
  by_cases hT : TOk xs
  · obtain ⟨x, hx⟩ := hT
    have HX := Lib.hid (show TIs xs x from hx)
    have hRx : R = marksOf (leftT x) := by rw [← HR.out]; exact onT_pos hx
    have HY := Lib.hid (show TIs R (leftT x) by rw [hRx]; exact left_is hx)
    have HBB := Lib.hid (show LeftF R = R by rw [show LeftF R = _ from onT_pos HY.out, left_left hx.1, hRx])
    have HCC := Lib.hid (show CntF R = CntF xs by rw [show CntF R = _ from onT_pos HY.out, show CntF xs = _ from onT_pos HX.out, cntsT_congr HY.out.1 hx.1 (left_cnt x)])
    have hpos : 0 < R.length := tIs_pos HY.out
    have hposb : ((R.length : Int) == 0) = false := by rw [beq_eq_false_iff_ne]; omega
    have HRX := Lib.hid hRx
    clear hx hRx
    have hln : R.length = xs.length := by rw [HRX.out, leftT_marks, HX.out.2.1]
    have hln1 := Nat.le_of_eq hln
    have hln2 := Nat.le_of_eq hln.symm
    have HSS := Lib.hid (show stepsOnly R = stepsOnly xs by rw [HRX.out, leftT_steps HX.out.1, HX.out.2.1])
    have HLN := Lib.hid hln
    clear hln
    obtain ⟨n, HNN⟩ : ∃ q, Hid (xs.length = q) := ⟨_, rfl⟩
    obtain ⟨n', HNR⟩ : ∃ q, Hid (R.length = q) := ⟨_, rfl⟩
    have HM4' := Lib.hid (show MarksAt w4 (some ⟨g, 0, none⟩) n xs from by have := HM4.out; rw [HNN.out] at this; exact this)
    have HR4' := Lib.hid (show MarksAt w4 A2 n' R from by have := HR4.out; rw [HNR.out] at this; exact this)
    rw [HNN.out] at hl hln1 hln2 hRl ⊢
    rw [HNR.out] at hln1 hln2 hRl hpos hposb hcap2 ⊢
    rw [HNN.out] at hcap
    go_wp2_with (fail)
    go_loopw [5, 6, 7] (fun oa ob i wr => ∃ (k : Nat) (Aa : Option Addr) (ca la : Nat) (Ab : Option Addr) (cb lb : Nat), k ≤ n ∧ i = .int .i64 k ∧ oa = .slice Aa la ca ∧ ob = .slice Ab lb cb ∧ la = (stepsOnly (xs.take k)).length ∧ lb = (stepsOnly (R.take k)).length ∧
        OwnM wr w4.heap.size Aa la ca (stepsOnly (xs.take k)) ∧ OwnM wr w4.heap.size Ab lb cb (stepsOnly (R.take k)) ∧ (∀ g, (Value.slice Aa la ca).ownBlock = some g → (Value.slice Ab lb cb).ownBlock ≠ some g) ∧ Below w4.heap.size w4 wr) (fun _ _ i _ => n - (intOf i).toNat)
    case atStart =>
      refine ⟨0, some ⟨w4.heap.size, 0, none⟩, 0, 0, some ⟨w4.heap.size + 1, 0, none⟩, 0, 0, Nat.zero_le _, rfl, rfl, rfl, rfl, rfl, ?_, ?_, ?_, ?_⟩
      · exact World.ownsRow.alloc (OwnM.empty_at rfl _ (Nat.le_refl _)) _
      · exact OwnM.empty_at (by simp) _ (by omega)
      · intro g h1 h2; simp only [Value.ownBlock, Option.some.injEq] at h1 h2; omega
      · exact ((Below.refl _ _).alloc (Nat.le_refl _) _).alloc (by simp) _
    case round =>
      obtain ⟨wo, rfl⟩ : ∃ wo : World, wo = wr := ⟨_, rfl⟩
      obtain ⟨k, Aa, ca, la, Ab, cb, lb, hk, rfl, rfl, rfl, hla, hlb, hoa, hob, hsp, hb⟩ := hrel
      have HOA := Lib.hid hoa
      have HOB := Lib.hid hob
      have HSP := Lib.hid hsp
      have HB := Lib.hid (show Below w4.heap.size w4 wo from hb)
      have HLA := Lib.hid hla
      have HLB := Lib.hid hlb
      have hla2 : la ≤ 11 := by have h1 := stepsOnly_len (xs.take k); rw [List.length_take] at h1; omega
      have hlb2 : lb ≤ 11 := by have h1 := stepsOnly_len (R.take k); rw [List.length_take] at h1; omega
      have hBs : w4.heap.size ≤ wo.heap.size := HB.out.size
      clear hoa hob hsp hb hla hlb
      by_cases hlt : k < n
      · obtain ⟨b1, o1, e1, t0, t1, t2⟩ := HM4'.out.at_ hlt
        cases e1
        simp only [Nat.zero_add] at t0 t1 t2
        obtain ⟨b2, o2, e2, u0, u1, u2⟩ := HR4'.out.at_ (show k < n' by omega)
        have hkx : k < xs.length := by rw [HNN.out]; exact hlt
        have hkr : k < R.length := by rw [HNR.out]; omega
        obtain ⟨x, HXX⟩ : ∃ q, Hid (xs.getD k (0, 0, 0) = q) := ⟨_, rfl⟩
        obtain ⟨y, HYY⟩ : ∃ q, Hid (R.getD k (0, 0, 0) = q) := ⟨_, rfl⟩
        have HSA := Lib.hid (stepsOnly_take hkx HXX.out)
        have HSB := Lib.hid (stepsOnly_take hkr HYY.out)
        rw [HXX.out] at t0 t1 t2
        rw [HYY.out] at u0 u1 u2
        obtain ⟨x0, x1, x2⟩ := x
        obtain ⟨y0, y1, y2⟩ := y
        simp only at t0 t1 t2 u0 u1 u2 HSA HSB
        subst e2
        have D0 := Lib.hid u0
        have D1 := Lib.hid u1
        have D2 := Lib.hid u2
        have c0 := keep HB.out t0
        have c1 := keep HB.out t1
        have c2 := keep HB.out t2
        have hkI0 : (0 : Int) ≤ (k : Int) := by omega
        have hkI1 : (k : Int) < (n : Int) := by omega
        have hkI2 : (k : Int) < (n' : Int) := by omega
        obtain ⟨PA, HPA⟩ : ∃ q, Hid (stepsOnly (xs.take k) = q) := ⟨_, rfl⟩
        obtain ⟨PB, HPB⟩ : ∃ q, Hid (stepsOnly (R.take k) = q) := ⟨_, rfl⟩
        rw [HPA.out] at HOA HLA HSA
        rw [HPB.out] at HOB HLB HSB
        clear t0 t1 t2 u0 u1 u2
        by_cases hx0 : x0 = 0
        · by_cases hy0 : y0 = 0
          · subst hx0
            subst hy0
            go_wp2_with (first
              | (at_builtin; refine wpl_app rowM rfl _ _ (by rfl) w4.heap.size _ la (v3 PA) (by rfl) (HOA.out.alloc _) ⟨wo.heap.size, 0, none⟩ 1 1 (v3 [(0, x1, x2)]) (by rfl) rfl (cell3_at (by simp) _ _) (v3_one _) (by decide) (by omega) (by have := HB.out.size; simp; omega) ?_
                 intro ga capa wA hownA hgrowA hata hlta
                 have hbA : Below w4.heap.size w4 wA := Below.grown (HB.out.alloc HB.out.size _) hgrowA (by have := HB.out.size; simp; omega) (fun j hj => (HOA.out.lt j hj).1)
                 have hownBA := own_apart (HOB.out.alloc _) hgrowA (fun g hg e => HSP.out g e hg)
                 have hsA := hbA.size
                 have hszA := hgrowA.size
                 have d0 := keep hbA D0.out
                 have d1 := keep hbA D1.out
                 have d2 := keep hbA D2.out)
              | (at_builtin; refine wpl_app rowM rfl _ _ (by rfl) w4.heap.size _ lb (v3 PB) (by rfl) ((hownBA).alloc _) ⟨wA.heap.size, 0, none⟩ 1 1 (v3 [(0, y1, y2)]) (by rfl) rfl (cell3_at (by simp) _ _) (v3_one _) (by decide) (by omega) (by have := (hbA).size; simp; omega) ?_
                 intro gb capb wB hownB hgrowB hatb hltb
                 have hbB : Below w4.heap.size w4 wB := Below.grown ((hbA).alloc (hbA).size _) hgrowB (by have := (hbA).size; simp; omega) (fun j hj => (HOB.out.lt j hj).1))
              | go_in)
            go_roundw
            case rel =>
              refine ⟨k + 1, some ⟨ga, 0, none⟩, capa, la + 1, some ⟨gb, 0, none⟩, capb, lb + 1, by omega, by go_num, rfl, rfl, ?_, ?_, ?_, ?_, ?_, hbB⟩
              · rw [HSA.out, if_pos rfl, List.length_append, HLA.out]; rfl
              · rw [HSB.out, if_pos rfl, List.length_append, HLB.out]; rfl
              · show World.ownsRow _ _ _ _ _ _ (v3 _)
                rw [HSA.out, if_pos rfl, v3_append]
                refine own_apart (hownA.alloc _) hgrowB (fun g hg e => ?_)
                simp only [Value.ownBlock] at hg
                cases hg
                have h1 := (HOB.out.lt _ e).2
                rcases hata with h2 | h2
                · exact HSP.out _ h2 e
                · simp at h2; omega
              · show World.ownsRow _ _ _ _ _ _ (v3 _)
                rw [HSB.out, if_pos rfl, v3_append]
                exact hownB
              · intro g hg hg2
                simp only [Value.ownBlock] at hg hg2
                cases hg
                cases hg2
                rcases hata with h2 | h2
                · have h3 := (HOA.out.lt _ h2).2
                  rcases hatb with h4 | h4
                  · exact HSP.out _ h2 h4
                  · simp at h4 hszA; omega
                · rcases hatb with h4 | h4
                  · have h5 := (HOB.out.lt _ h4).2; simp at h2; omega
                  · simp at h4; omega
            case measure => simp [intOf]; omega
          · have HY0 := Lib.hid hy0
            have hyb : (y0 == 0) = false := by simpa using hy0
            subst hx0
            clear hy0
            go_wp2_with (first
              | (at_builtin; refine wpl_app rowM rfl _ _ (by rfl) w4.heap.size _ la (v3 PA) (by rfl) (HOA.out.alloc _) ⟨wo.heap.size, 0, none⟩ 1 1 (v3 [(0, x1, x2)]) (by rfl) rfl (cell3_at (by simp) _ _) (v3_one _) (by decide) (by omega) (by have := HB.out.size; simp; omega) ?_
                 intro ga capa wA hownA hgrowA hata hlta
                 have hbA : Below w4.heap.size w4 wA := Below.grown (HB.out.alloc HB.out.size _) hgrowA (by have := HB.out.size; simp; omega) (fun j hj => (HOA.out.lt j hj).1)
                 have hownBA := own_apart (HOB.out.alloc _) hgrowA (fun g hg e => HSP.out g e hg)
                 have hsA := hbA.size
                 have hszA := hgrowA.size
                 have d0 := keep hbA D0.out
                 have d1 := keep hbA D1.out
                 have d2 := keep hbA D2.out)
              | go_in)
            go_roundw
            case rel =>
              refine ⟨k + 1, some ⟨ga, 0, none⟩, capa, la + 1, Ab, cb, lb, by omega, by go_num, rfl, rfl, ?_, ?_, ?_, ?_, ?_, hbA⟩
              · rw [HSA.out, if_pos rfl, List.length_append, HLA.out]; rfl
              · rw [HSB.out, if_neg HY0.out, List.append_nil]; exact HLB.out
              · show World.ownsRow _ _ _ _ _ _ (v3 _)
                rw [HSA.out, if_pos rfl, v3_append]
                exact hownA
              · show World.ownsRow _ _ _ _ _ _ (v3 _)
                rw [HSB.out, if_neg HY0.out, List.append_nil]
                exact hownBA
              · intro g hg hg2
                simp only [Value.ownBlock] at hg
                cases hg
                have h5 := (HOB.out.lt _ hg2).2
                rcases hata with h2 | h2
                · exact HSP.out _ h2 hg2
                · simp at h2; omega
            case measure => simp [intOf]; omega
        · have HX0 := Lib.hid hx0
          have hxb : (x0 == 0) = false := by simpa using hx0
          by_cases hy0 : y0 = 0
          · subst hy0
            clear hx0
            have d0 := keep HB.out D0.out
            have d1 := keep HB.out D1.out
            have d2 := keep HB.out D2.out
            go_wp2_with (first
              | (at_builtin; refine wpl_app rowM rfl _ _ (by rfl) w4.heap.size _ lb (v3 PB) (by rfl) ((HOB.out).alloc _) ⟨wo.heap.size, 0, none⟩ 1 1 (v3 [(0, y1, y2)]) (by rfl) rfl (cell3_at (by simp) _ _) (v3_one _) (by decide) (by omega) (by have := (HB.out).size; simp; omega) ?_
                 intro gb capb wB hownB hgrowB hatb hltb
                 have hbB : Below w4.heap.size w4 wB := Below.grown ((HB.out).alloc (HB.out).size _) hgrowB (by have := (HB.out).size; simp; omega) (fun j hj => (HOB.out.lt j hj).1))
              | go_in)
            go_roundw
            case rel =>
              refine ⟨k + 1, Aa, ca, la, some ⟨gb, 0, none⟩, capb, lb + 1, by omega, by go_num, rfl, rfl, ?_, ?_, ?_, ?_, ?_, hbB⟩
              · rw [HSA.out, if_neg HX0.out, List.append_nil]; exact HLA.out
              · rw [HSB.out, if_pos rfl, List.length_append, HLB.out]; rfl
              · show World.ownsRow _ _ _ _ _ _ (v3 _)
                rw [HSA.out, if_neg HX0.out, List.append_nil]
                exact own_apart (HOA.out.alloc _) hgrowB (fun g hg e => HSP.out g hg e)
              · show World.ownsRow _ _ _ _ _ _ (v3 _)
                rw [HSB.out, if_pos rfl, v3_append]
                exact hownB
              · intro g hg hg2
                simp only [Value.ownBlock] at hg2
                cases hg2
                have h5 := (HOA.out.lt _ hg).2
                rcases hatb with h2 | h2
                · exact HSP.out _ hg h2
                · simp at h2; omega
            case measure => simp [intOf]; omega
          · have HY0 := Lib.hid hy0
            have hyb : (y0 == 0) = false := by simpa using hy0
            clear hx0 hy0
            have d0 := keep HB.out D0.out
            have d1 := keep HB.out D1.out
            have d2 := keep HB.out D2.out
            go_wp2
            go_roundw
            case rel =>
              refine ⟨k + 1, Aa, ca, la, Ab, cb, lb, by omega, by go_num, rfl, rfl, ?_, ?_, ?_, ?_, ?_, HB.out⟩
              · rw [HSA.out, if_neg HX0.out, List.append_nil]; exact HLA.out
              · rw [HSB.out, if_neg HY0.out, List.append_nil]; exact HLB.out
              · show World.ownsRow _ _ _ _ _ _ (v3 _)
                rw [HSA.out, if_neg HX0.out, List.append_nil]
                exact HOA.out
              · show World.ownsRow _ _ _ _ _ _ (v3 _)
                rw [HSB.out, if_neg HY0.out, List.append_nil]
                exact HOB.out
              · intro g hg hg2
                exact HSP.out g hg hg2
            case measure => simp [intOf]; omega
      · obtain rfl : n = k := by omega
        have hEA : stepsOnly (xs.take n) = stepsOnly xs := by rw [List.take_of_length_le (by rw [HNN.out]; exact Nat.le_refl _)]
        have hEB : stepsOnly (R.take n) = stepsOnly xs := by rw [List.take_of_length_le (by rw [HNR.out]; omega), HSS.out]
        rw [hEA] at HOA HLA
        rw [hEB] at HOB HLB
        obtain ⟨S, HSX⟩ : ∃ q, Hid (stepsOnly xs = q) := ⟨_, rfl⟩
        rw [HSX.out] at HOA HOB HLA HLB
        clear hEA hEB
        have HSA4 := Lib.hid (OwnM.at_ HOA.out)
        have HSB4 := Lib.hid (OwnM.at_ HOB.out)
        have HBo := Lib.hid (HB4.out.trans (HB.out.mono HB4.out.size))
        have HMo := Lib.hid (HM4'.out.below HB.out)
        have HRo := Lib.hid (HR4'.out.below HB.out)
        go_wp2_with (fail)
        refine kB (iTermOk_any A2 n' c2 R _ HRo.out (by omega)) ?_ (fun _ h _ => absurd ⟨_, HY.out⟩ h.out)
        intro w5 _ hb5
        have HB5 := Lib.hid (HBo.out.trans (hb5.mono HBo.out.size))
        have HM5 := Lib.hid (HMo.out.below hb5)
        have HR5 := Lib.hid (HRo.out.below hb5)
        have HSA5 := Lib.hid (HSA4.out.below hb5)
        have HSB5 := Lib.hid (HSB4.out.below hb5)
        clear hb5
        obtain ⟨C, HC⟩ : ∃ q, Hid (CntF xs = q) := ⟨_, rfl⟩
        have hCl : C.length ≤ 1048576 := by rw [← HC.out]; exact Nat.le_trans (cntF_len xs) (by decide)
        have hi1 := iCountsOf_any A2 n' c2 R w5 HR5.out (by omega)
        rw [HCC.out, HC.out] at hi1
        go_wp2_with (fail)
        refine kNewI hi1 ?_
        intro A6 c6 w6 h6 hb6
        clear hi1
        have HB6 := Lib.hid (HB5.out.trans (hb6.mono HB5.out.size))
        have HM6 := Lib.hid (HM5.out.below hb6)
        have HR6 := Lib.hid (HR5.out.below hb6)
        have HC6 := Lib.hid (OwnI.at_ h6)
        have HSA6 := Lib.hid (HSA5.out.below hb6)
        have HSB6 := Lib.hid (HSB5.out.below hb6)
        clear hb6 h6
        have hi2 := iCountsOf_any (some ⟨g, 0, none⟩) n c xs w6 HM6.out (by omega)
        rw [HC.out] at hi2
        go_wp2_with (fail)
        refine kNewI hi2 ?_
        intro A7 c7 w7 h7 hb7
        clear hi2
        have HB7 := Lib.hid (HB6.out.trans (hb7.mono HB6.out.size))
        have HM7 := Lib.hid (HM6.out.below hb7)
        have HR7 := Lib.hid (HR6.out.below hb7)
        have HC7 := Lib.hid (HC6.out.below hb7)
        have HE7 := Lib.hid (OwnI.at_ h7)
        have HSA7 := Lib.hid (HSA6.out.below hb7)
        have HSB7 := Lib.hid (HSB6.out.below hb7)
        clear hb7 h7
        go_wp2_with (fail)
        refine kQ (sameInts_any A6 A7 C.length c6 C.length c7 C C _ HC7.out HE7.out (by omega)) ?_ (fun _ h => absurd rfl h.out)
        intro m7 _
        have HB8 := Lib.hid (below_drewN HB7.out m7)
        have HM8 := Lib.hid (HM7.out.drewN m7)
        have HR8 := Lib.hid (HR7.out.drewN m7)
        have HSA8 := Lib.hid (HSA7.out.drewN m7)
        have HSB8 := Lib.hid (HSB7.out.drewN m7)
        obtain ⟨w8, HW8⟩ : ∃ q, Hid (w7.drewN m7 = q) := ⟨_, rfl⟩
        rw [HW8.out] at HB8 HM8 HR8 HSA8 HSB8 ⊢
        have hi3 := iLeftTerm_any A2 n' c2 R w8 HR8.out (by omega)
        rw [HBB.out] at hi3
        go_wp2_with (fail)
        refine kNewM hi3 ?_
        intro A10 c10 w10 h10 hb10
        rw [HNR.out] at h10 ⊢
        clear hi3
        have HB10 := Lib.hid (HB8.out.trans (hb10.mono HB8.out.size))
        have HR10 := Lib.hid (HR8.out.below hb10)
        have HS10 := Lib.hid (OwnM.at_ h10)
        have HSA10 := Lib.hid (HSA8.out.below hb10)
        have HSB10 := Lib.hid (HSB8.out.below hb10)
        clear hb10 h10
        go_wp2_with (fail)
        refine kQ (sameMarks_any A10 A2 n' c10 n' c2 R R _ HS10.out HR10.out (by omega)) ?_ (fun _ h => absurd rfl h.out)
        intro m11 _
        go_wp2_with (fail)
        refine kQ (sameMarks_any Aa Ab la ca lb cb S S _ (HSA10.out.drewN m11) (HSB10.out.drewN m11) (by omega)) ?_ (fun _ h => absurd rfl h.out)
        intro m12 _
        go_wp2
        go_ret
        exact ⟨rfl, below_drewN HB10.out (m11 + m12)⟩
  · have HT := Lib.hid hT
    have hR0 : R = [] := by rw [← HR.out]; exact onT_neg hT
    subst hR0
    clear hT
    go_wp2_with (fail)
    refine kB (iTermOk_any (some ⟨g, 0, none⟩) xs.length c xs _ HM4.out (by omega)) (fun _ h _ => absurd h.out HT.out) ?_
    intro w5 _ hb5
    have HB5 := Lib.hid (HB4.out.trans (hb5.mono HB4.out.size))
    clear hb5
    go_wp2_with (fail)
    refine kBV (alive_any _) ?_
    intro w6 hb6
    go_wp2
    go_ret
    exact ⟨rfl, HB5.out.trans (hb6.mono HB5.out.size)⟩

end Go.Proofs.Ytookhelfbnhadaa

