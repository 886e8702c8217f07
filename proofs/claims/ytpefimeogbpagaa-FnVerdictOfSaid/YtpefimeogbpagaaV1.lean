/- Verdicts: both VerdictOf functions; broken. -/
import Derived.Test.YtpefimeogbpagaaS5
import Derived.Test.YtpefimeogbpagaaS6
import Derived.Deep.RegionHeld3
namespace Go.Proofs.Ytpefimeogbpagaa
open Go.RowKit

/-- A point that has not happened is not done. -/
theorem DsA_none {P : Nat} {hs : List Hp} (hl : HL (P : Int) hs) (hP : 1 ≤ P ∧ P ≤ 6) : ∀ k, k ≤ hs.length → ∀ j, 1 ≤ j → j < P → (∀ i, i < k → (hs.getD i (0, 0)).1 ≠ (j : Int)) → (DsA P (hs.take k)).getD j 0 = -1
  | 0, _, j, h1, h2, _ => by
    obtain ⟨i, rfl⟩ : ∃ i, j = i + 1 := ⟨j - 1, by omega⟩
    have hi : i < P - 1 := by omega
    simp [DsA, Ds0, List.getD, hi]
  | k + 1, hk, j, h1, h2, h => by
    rw [DsA_take (by omega)]
    have hx := hl.inP hP (k := k) (by omega)
    rw [getD_set (by rw [DsA_len hP.1]; omega), if_neg (fun e => h k (by omega) (by omega))]
    exact DsA_none hl hP k (by omega) j h1 h2 fun i hi => h i (by omega)
/-- How many points are not done. -/
theorem DsA_count {P : Nat} {hs : List Hp} (hl : HL (P : Int) hs) (hP : 1 ≤ P ∧ P ≤ 6) : ∀ k, k ≤ hs.length → (DsA P (hs.take k)).count (-1) + k = P - 1
  | 0, _ => by
    show (Ds0 P).count (-1) + 0 = _
    unfold Ds0
    rw [List.count_cons, List.count_replicate_self]
    simp
  | k + 1, hk => by
    have ih := DsA_count hl hP k (by omega)
    have hx := hl.inP hP (k := k) (by omega)
    have hlen := DsA_len hP.1 (hs.take k)
    have hi : (hs.getD k (0, 0)).1.toNat < (DsA P (hs.take k)).length := by omega
    have hn := DsA_none hl hP k (by omega) (hs.getD k (0, 0)).1.toNat (by omega) (by omega) (fun i hi e => (hl k (by omega)).2.2.2 i hi (by omega))
    have ht := (hl k (by omega)).2.1.1
    rw [DsA_take (by omega)]
    obtain ⟨X, hX⟩ : ∃ X, (hs.getD k (0, 0)).1.toNat = X := ⟨_, rfl⟩
    obtain ⟨t, hT⟩ : ∃ t, (hs.getD k (0, 0)).2 = t := ⟨_, rfl⟩
    rw [hX] at hi hn ⊢
    rw [hT] at ht ⊢
    have hget : (DsA P (hs.take k))[X] = -1 := by simpa [List.getD, hi] using hn
    rw [List.count_set hi, hget]
    have hpos : 0 < (DsA P (hs.take k)).count (-1) := List.count_pos_iff.2 (by rw [← hget]; exact List.getElem_mem _)
    have hne : (t == (-1 : Int)) = false := by simpa using (show t ≠ -1 by omega)
    rw [hne]
    simp
    omega
def Left (ds : List Int) : Prop := (-1 : Int) ∈ ds
theorem left_iff {P : Nat} {hs : List Hp} (hl : HL (P : Int) hs) (hP : 1 ≤ P ∧ P ≤ 6) : Left (DsA P hs) ↔ ¬ (hs.length : Int) = (P : Int) - 1 := by
  have h := DsA_count hl hP hs.length (Nat.le_refl _)
  rw [List.take_length] at h
  unfold Left
  rw [← List.count_pos_iff]
  omega
/-- The verdict. -/
noncomputable def Vd (p : Int) (bs : List Bd) (hs : List Hp) (now : Int) : Int :=
  if B (SaOk p bs hs now) = true then (if B (Goes p bs now (DsA p.toNat hs)) = true then (if B (Left (DsA p.toNat hs)) = true then 1 else 0) else 2) else -1
theorem Vd_no {p : Int} {bs : List Bd} {hs : List Hp} {now : Int} (h : ¬ SaOk p bs hs now) : Vd p bs hs now = -1 := by unfold Vd; rw [B_false h]; rfl
theorem Vd_two {p : Int} {bs : List Bd} {hs : List Hp} {now : Int} (h : SaOk p bs hs now) (h2 : ¬ Goes p bs now (DsA p.toNat hs)) : Vd p bs hs now = 2 := by unfold Vd; rw [B_true h, B_false h2]; rfl
theorem Vd_one {p : Int} {bs : List Bd} {hs : List Hp} {now : Int} (h : SaOk p bs hs now) (h2 : Goes p bs now (DsA p.toNat hs)) (h3 : Left (DsA p.toNat hs)) : Vd p bs hs now = 1 := by unfold Vd; rw [B_true h, B_true h2, B_true h3]; rfl
theorem Vd_zero {p : Int} {bs : List Bd} {hs : List Hp} {now : Int} (h : SaOk p bs hs now) (h2 : Goes p bs now (DsA p.toNat hs)) (h3 : ¬ Left (DsA p.toNat hs)) : Vd p bs hs now = 0 := by unfold Vd; rw [B_true h, B_true h2, B_false h3]; rfl

def OpenAt (ds : List Int) (i : Int) : Prop := (0 ≤ i ∧ i < ds.length) ∧ ds.getD i.toNat 0 = -1
set_option maxHeartbeats 1000000 in
theorem open_at_any (now : Int) (D : Option Addr) (m d : Nat) (ds : List Int) (i : Int) (w : World) (g : IntsAt w D m ds) (hm : m ≤ 1048576) :
    Calls Try.prog 29 #[.agg #[.int .i64 now, .slice D m d], .int .i64 i] w (Bl w (.bool (B (OpenAt ds i)))) := by
  have HL := Lib.hid g.len
  have hB0 : Below w.heap.size w (w.alloc (.cells #[.int .i64 now, .slice D m d] 31)) := (Below.refl w.heap.size w).alloc (Nat.le_refl _) _
  by_cases hin : InR i 0 ((m : Int) - 1)
  · have hin' : ∀ W, Calls Try.prog 17 #[.int .i64 i, .int .i64 0, .int .i64 ((m : Int) - 1)] W (Same W (.bool true)) := fun W => by rw [← B_true hin]; exact in_any _ _ _ _
    have HIN := Lib.hid hin'
    obtain ⟨hi0, hi1⟩ := hin
    obtain ⟨k, rfl⟩ := Int.eq_ofNat_of_zero_le hi0
    have hkm : k < m := by omega
    obtain ⟨b, off, rfl, hc⟩ := (g.below hB0).cells (by omega)
    have hbl : b < w.heap.size := by
      obtain ⟨b2, off2, e2, hc2⟩ := g.cells (by omega)
      cases e2
      exact cell_lt (hc2 k hkm)
    have c0 := hc k hkm
    obtain ⟨x, HX⟩ : ∃ q, Hid (ds.getD k 0 = q) := ⟨_, rfl⟩
    rw [HX.out] at c0
    have HO := Lib.hid (show OpenAt ds (k : Int) ↔ x = -1 from by
      unfold OpenAt
      rw [show ((k : Int)).toNat = k from rfl, HX.out, HL.out]
      exact ⟨fun h => h.2, fun h => ⟨⟨by omega, by omega⟩, h⟩⟩)
    have hkI : (k : Int) < (m : Int) := by omega
    clear hin' hc g
    by_cases hx : x = -1
    · have HB := Lib.hid (HO.out.2 hx)
      subst hx
      go_enter Try.func29, Try.ntmps29
      go_wp2_with (fail)
      refine kV (HIN.out _) ?_
      go_wp2
      go_ret
      exact ⟨ret_b (B_true HB.out).symm, hB0⟩
    · have HB := Lib.hid (show ¬ OpenAt ds (k : Int) from fun h => hx (HO.out.1 h))
      have hx' : (x == -1) = false := by simpa using hx
      go_enter Try.func29, Try.ntmps29
      go_wp2_with (fail)
      refine kV (HIN.out _) ?_
      go_wp2
      go_ret
      refine ⟨ret_b ?_, hB0⟩
      rw [B_false HB.out]
  · have hin' : ∀ W, Calls Try.prog 17 #[.int .i64 i, .int .i64 0, .int .i64 ((m : Int) - 1)] W (Same W (.bool false)) := fun W => by rw [← B_false hin]; exact in_any _ _ _ _
    have HIN := Lib.hid hin'
    have HB := Lib.hid (show ¬ OpenAt ds i from fun h => hin ⟨h.1.1, by have := h.1.2; rw [HL.out] at this; omega⟩)
    clear hin' hin
    go_enter Try.func29, Try.ntmps29
    go_wp2_with (fail)
    refine kV (HIN.out _) ?_
    go_wp2
    go_ret
    exact ⟨ret_b (B_false HB.out).symm, hB0⟩

set_option maxRecDepth 100000 in
set_option maxHeartbeats 2000000 in
theorem iVerdictOf_any (p : Int) (A : Option Addr) (n c : Nat) (bs : List Bd) (D : Option Addr) (m d : Nat) (hs : List Hp) (now : Int) (w : World) (h : BndsAt w A n bs) (g : HapsAt w D m hs) (hn : n ≤ 1048576) (hm : m ≤ 1048576) :
    Calls Try.prog 12 #[.agg #[.int .i64 p, .slice A n c], .slice D m d, .int .i64 now] w (Bl w (.int .i64 (Vd p bs hs now))) := by
  have hB0 : Below w.heap.size w (w.alloc (.cells #[.int .i64 p, .slice A n c] 25)) := (Below.refl w.heap.size w).alloc (Nat.le_refl _) _
  have HH := Lib.hid (h.below hB0)
  have HG := Lib.hid (g.below hB0)
  clear h g
  go_enter Try.func12, Try.ntmps12
  go_wp2_with (fail)
  refine (iStateAfter_any p A n c bs D m d hs now _ HH.out HG.out hn hm).mono ?_
  rintro e w1 (⟨hsa, A1, n1, c1, rfl, hown, hb1⟩ | ⟨hsa, A1, n1, c1, rfl, hown, hb1⟩)
  · have HSA := Lib.hid hsa
    have hB1 : Below w.heap.size w w1 := hB0.trans (hb1.mono hB0.size)
    have e0 : w1.cell? ⟨w.heap.size, 0, none⟩ = some (.int .i64 p) := keep hb1 (by simp [go_sem])
    have e1 : w1.cell? ⟨w.heap.size, 1, none⟩ = some (.slice A n c) := keep hb1 (by simp [go_sem])
    obtain ⟨P, hpP, hP1, hP6⟩ := hsa.1.2.1.nat
    subst hpP
    have HN := Lib.hid (show n1 = P by have h1 := hown.len; have h2 : (DsA (P : Int).toNat hs).length = P := DsA_len hP1 hs; omega)
    have hn1 : n1 ≤ 6 := by rw [HN.out]; exact hP6
    obtain ⟨w2, HW2⟩ : ∃ q, Hid (w1.alloc (.cells #[.int .i64 now, .slice A1 n1 c1] 31) = q) := ⟨_, rfl⟩
    have hb2 : Below w1.heap.size w1 w2 := HW2.out ▸ (Below.refl _ _).alloc (Nat.le_refl _) _
    have HI := Lib.hid ((OwnZ.at_ hown).below hb2)
    have HH2 := Lib.hid ((HH.out.below hb1).below hb2)
    have s0 : w2.cell? ⟨w1.heap.size, 0, none⟩ = some (.int .i64 now) := HW2.out ▸ by simp [go_sem]
    have s1 : w2.cell? ⟨w1.heap.size, 1, none⟩ = some (.slice A1 n1 c1) := HW2.out ▸ by simp [go_sem]
    have e0' := keep hb2 e0
    have e1' := keep hb2 e1
    have HB2 := Lib.hid (hB1.trans (hb2.mono hB1.size))
    have hsw : w.heap.size < w1.heap.size := cell_lt e0
    clear hsa hown hb1 hb2 hB1
    obtain ⟨ds, HDS⟩ : ∃ q, Hid (DsA (P : Int).toNat hs = q) := ⟨_, rfl⟩
    rw [HDS.out] at HI
    go_wp2_with (fail)
    rw [HW2.out]
    clear e0 e1 hsw
    obtain ⟨qb, HQB⟩ : ∃ q, Hid (w1.heap.size = q) := ⟨_, rfl⟩
    rw [HQB.out] at s0 s1 ⊢
    refine kB (iGoesOnOk_any (P : Int) A n c bs now A1 n1 c1 ds w2 HH2.out HI.out) ?_ ?_
    · intro w3 hg hb3
      have HI3 := Lib.hid (HI.out.below hb3)
      replace s0 := keep hb3 s0
      replace s1 := keep hb3 s1
      have HB3 := Lib.hid (HB2.out.trans (hb3.mono HB2.out.size))
      have HS := Lib.hid (And.intro s0 s1)
      clear hb3 e0' e1'
      go_wp2
      go_loopw [28] (fun i wr => ∃ (k : Nat), k ≤ n1 ∧ i = .int .i64 k ∧ (∀ j, j < k → ds.getD j 0 ≠ -1) ∧ Below w3.heap.size w3 wr) (fun i _ => n1 - (intOf i).toNat)
      case atStart => exact ⟨0, Nat.zero_le _, rfl, fun j hj => by omega, Below.refl _ _⟩
      case round =>
        obtain ⟨wo, rfl⟩ : ∃ wo : World, wo = wr := ⟨_, rfl⟩
        obtain ⟨k, hk, rfl, hne, hb⟩ := hrel
        have HNE := Lib.hid hne
        have HB := Lib.hid hb
        have s0' := keep hb HS.out.1
        have s1' := keep hb HS.out.2
        clear hne hb s0 s1
        by_cases hkn : k < n1
        · have hl := HI3.out.len
          have HOP := Lib.hid (show OpenAt ds (k : Int) ↔ ds.getD k 0 = -1 from ⟨fun h => h.2, fun h => ⟨⟨by omega, by rw [hl]; omega⟩, h⟩⟩)
          have HLN := Lib.hid hl
          clear hl
          go_wp2_with (fail)
          refine kB (open_at_any now A1 n1 c1 ds (k : Int) _ (HI3.out.below HB.out) (by omega)) ?_ ?_
          · intro w4 ho hb4
            go_wp2
            go_ret
            refine ⟨ret_i ?_, HB3.out.trans ((HB.out.trans (hb4.mono HB.out.size)).mono HB3.out.size)⟩
            have hkl : k < ds.length := by rw [HLN.out]; exact hkn
            have hx := HOP.out.1 ho.out
            have hmem : Left ds := by
              have : ds[k] = -1 := by simpa [List.getD, hkl] using hx
              unfold Left; rw [← this]; exact List.getElem_mem _
            exact (Vd_one HSA.out (by rw [HDS.out]; exact hg.out) (by rw [HDS.out]; exact hmem)).symm
          · intro w4 ho hb4
            go_wp2
            go_roundw
            case rel =>
              refine ⟨k + 1, by omega, by go_num, fun j hj => ?_, HB.out.trans (hb4.mono HB.out.size)⟩
              rcases Nat.lt_or_ge j k with h5 | h5
              · exact HNE.out j h5
              · obtain rfl : j = k := by omega
                exact fun h => ho.out (HOP.out.2 h)
            case measure => simp [intOf]; omega
        · obtain rfl : k = n1 := by omega
          go_wp2
          go_ret
          refine ⟨ret_i ?_, HB3.out.trans (HB.out.mono HB3.out.size)⟩
          have hno : ¬ Left ds := fun hm => by
            obtain ⟨j, hj, e⟩ := List.mem_iff_getElem.1 hm
            refine HNE.out j (by rw [← HI3.out.len]; exact hj) ?_
            simpa [List.getD, hj] using e
          exact (Vd_zero HSA.out (by rw [HDS.out]; exact hg.out) (by rw [HDS.out]; exact hno)).symm
    · intro w3 hg hb3
      go_wp2
      go_ret
      exact ⟨ret_i (Vd_two HSA.out (by rw [HDS.out]; exact hg.out)).symm, HB2.out.trans (hb3.mono HB2.out.size)⟩
  · have HSA := Lib.hid hsa
    have hB1 : Below w.heap.size w w1 := hB0.trans (hb1.mono hB0.size)
    clear hown hsa
    go_wp2
    go_ret
    exact ⟨ret_i (Vd_no HSA.out).symm, hB1.alloc hB1.size _⟩

set_option maxRecDepth 100000 in
set_option maxHeartbeats 2000000 in
theorem sVerdictOf_any (p : Int) (A : Option Addr) (n c : Nat) (bs : List Bd) (D : Option Addr) (m d : Nat) (hs : List Hp) (now : Int) (w : World) (h : BndsAt w A n bs) (g : HapsAt w D m hs) (hn : n ≤ 1048576) (hm : m ≤ 1048576) :
    Calls Try.prog 13 #[.agg #[.int .i64 p, .slice A n c], .slice D m d, .int .i64 now] w (Bl w (.int .i64 (Vd p bs hs now))) := by
  have HL := Lib.hid g.len
  have hB0 : Below w.heap.size w (w.alloc (.cells #[.int .i64 p, .slice A n c] 25)) := (Below.refl w.heap.size w).alloc (Nat.le_refl _) _
  have HH := Lib.hid (h.below hB0)
  have HG := Lib.hid (g.below hB0)
  clear h g
  go_enter Try.func13, Try.ntmps13
  go_wp2_with (fail)
  refine (sStateAfter_any p A n c bs D m d hs now _ HH.out HG.out hn hm).mono ?_
  rintro e w1 (⟨hsa, A1, n1, c1, rfl, hown, hb1⟩ | ⟨hsa, A1, n1, c1, rfl, hown, hb1⟩)
  · have HSA := Lib.hid hsa
    have hB1 : Below w.heap.size w w1 := hB0.trans (hb1.mono hB0.size)
    have e0 : w1.cell? ⟨w.heap.size, 0, none⟩ = some (.int .i64 p) := keep hb1 (by simp [go_sem])
    have e1 : w1.cell? ⟨w.heap.size, 1, none⟩ = some (.slice A n c) := keep hb1 (by simp [go_sem])
    obtain ⟨P, hpP, hP1, hP6⟩ := hsa.1.2.1.nat
    subst hpP
    have HLI := Lib.hid (left_iff hsa.1.1 ⟨hP1, hP6⟩)
    obtain ⟨w2, HW2⟩ : ∃ q, Hid (w1.alloc (.cells #[.int .i64 now, .slice A1 n1 c1] 31) = q) := ⟨_, rfl⟩
    have hb2 : Below w1.heap.size w1 w2 := HW2.out ▸ (Below.refl _ _).alloc (Nat.le_refl _) _
    have HI := Lib.hid ((OwnZ.at_ hown).below hb2)
    have HH2 := Lib.hid ((HH.out.below hb1).below hb2)
    have s0 : w2.cell? ⟨w1.heap.size, 0, none⟩ = some (.int .i64 now) := HW2.out ▸ by simp [go_sem]
    have s1 : w2.cell? ⟨w1.heap.size, 1, none⟩ = some (.slice A1 n1 c1) := HW2.out ▸ by simp [go_sem]
    have e0' := keep hb2 e0
    have e1' := keep hb2 e1
    have HB2 := Lib.hid (hB1.trans (hb2.mono hB1.size))
    have hsw : w.heap.size < w1.heap.size := cell_lt e0
    clear hsa hown hb1 hb2 hB1
    obtain ⟨ds, HDS⟩ : ∃ q, Hid (DsA (P : Int).toNat hs = q) := ⟨_, rfl⟩
    rw [HDS.out] at HI
    go_wp2_with (fail)
    rw [HW2.out]
    clear e0 e1 hsw
    refine kB (sGoesOnOk_any (P : Int) A n c bs now A1 n1 c1 ds w2 HH2.out HI.out hn) ?_ ?_
    · intro w3 hg hb3
      replace e0' := keep hb3 e0'
      have HB3 := Lib.hid (HB2.out.trans (hb3.mono HB2.out.size))
      clear hb3
      by_cases hlen : (m : Int) = (P : Int) - 1
      · have hlen' : ((m : Int) == (P : Int) - 1) = true := by simpa using hlen
        have HV := Lib.hid (show ¬ Left (DsA (P : Int).toNat hs) from fun hh => HLI.out.1 hh (by rw [HL.out]; exact hlen))
        clear hlen
        go_wp2
        go_ret
        exact ⟨ret_i (Vd_zero HSA.out (by rw [HDS.out]; exact hg.out) HV.out).symm, HB3.out⟩
      · have hlen' : ((m : Int) == (P : Int) - 1) = false := by simpa using hlen
        have HV := Lib.hid (show Left (DsA (P : Int).toNat hs) from HLI.out.2 (by rw [HL.out]; exact hlen))
        clear hlen
        go_wp2
        go_ret
        exact ⟨ret_i (Vd_one HSA.out (by rw [HDS.out]; exact hg.out) HV.out).symm, HB3.out⟩
    · intro w3 hg hb3
      go_wp2
      go_ret
      exact ⟨ret_i (Vd_two HSA.out (by rw [HDS.out]; exact hg.out)).symm, HB2.out.trans (hb3.mono HB2.out.size)⟩
  · have HSA := Lib.hid hsa
    have hB1 : Below w.heap.size w w1 := hB0.trans (hb1.mono hB0.size)
    clear hown hsa
    go_wp2
    go_ret
    exact ⟨ret_i (Vd_no HSA.out).symm, hB1.alloc hB1.size _⟩

end Go.Proofs.Ytpefimeogbpagaa
