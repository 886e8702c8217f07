/- Both KeepsCase functions. -/
import Derived.Test.YtopfhlopicjemaaC2
import Derived.Test.YtopfhlopicjemaaP3
import Derived.Test.YtopfhlopicjemaaK2
namespace Go.Proofs.Ytopfhlopicjemaa
open Go.RowKit

def KcUp (ls : List (List Bd)) (ts : List Int) (k : Nat) : Prop := ∀ j, j < k → ∃ b ∈ ls.getD j [], Kpt ts b
def KcOk (p : Int) (bs : List Bd) (ls : List (List Bd)) (ts : List Int) : Prop := CsOk p bs ls ∧ KpOk p bs ts ∧ KcUp ls ts ls.length

theorem KeepsCase1_any (x : Bd) (D : Option Addr) (k d : Nat) (ts : List Int) (q : Nat) (w : World) (h0 : w.cell? ⟨q, 0, none⟩ = some (.slice D k d)) (g : IntsAt w D k ts) (hi : 0 ≤ x.1 ∧ x.1 < k) (hj : 0 ≤ x.2.1 ∧ x.2.1 < k) (ht : AllIn ts (-2000) 2000) :
    Calls Try.prog 80 #[.agg #[.int .i64 x.1, .int .i64 x.2.1, .int .i64 x.2.2], .pointer (some ⟨q, 0, none⟩)] w (Bl w (.bool (B (Kpt ts x)))) := by
  have hq : q < w.heap.size := cell_lt h0
  have hB0 : Below w.heap.size w (w.alloc (.cells #[.int .i64 x.1, .int .i64 x.2.1, .int .i64 x.2.2] 95)) := (Below.refl w.heap.size w).alloc (Nat.le_refl _) _
  go_enter Try.func80, Try.ntmps80
  go_wp2_with (fail)
  refine kBV (keptBy_any x D k d ts _ (g.below hB0) hi hj ht) ?_
  intro w1 hb1
  go_wp2
  go_ret
  exact ⟨rfl, hB0.trans (hb1.mono hB0.size)⟩

theorem iKeepsCase_any (p : Int) (A : Option Addr) (n c : Nat) (bs : List Bd) (C : Option Addr) (m d : Nat) (ls : List (List Bd)) (D : Option Addr) (k e : Nat) (ts : List Int) (w : World)
    (h : BndsAt w A n bs) (g : BndssAt w C m ls) (f : IntsAt w D k ts) (hn : n ≤ 1048576) (hm : m ≤ 1048576) (hs : Short ls m) (hk : k ≤ 1048576) :
    Calls Try.prog 46 #[.agg #[.int .i64 p, .slice A n c, .slice C m d], .slice D k e] w (Bl w (.bool (B (KcOk p bs ls ts)))) := by
  have HG := Lib.hid g.len
  have HF := Lib.hid f.len
  have HS := Lib.hid hs
  clear hs
  have hB0 : Below w.heap.size w ((w.alloc (.cells #[.int .i64 p, .slice A n c, .slice C m d] 51)).alloc (.cells #[.slice D k e] 22)) := ((Below.refl w.heap.size w).alloc (Nat.le_refl _) _).alloc (by simp) _
  go_enter Try.func46, Try.ntmps46
  go_wp2_with (fail)
  refine kB (iCaseOk_any p A n c bs C m d ls _ (h.below hB0) (g.below hB0) hn hm HS.out) ?_ ?_
  · intro w1 hp hb1
    have hB1 : Below w.heap.size w w1 := hB0.trans (hb1.mono hB0.size)
    have e0 : w1.cell? ⟨w.heap.size, 0, none⟩ = some (.int .i64 p) := keep hb1 (by simp [go_sem])
    have e1 : w1.cell? ⟨w.heap.size, 1, none⟩ = some (.slice A n c) := keep hb1 (by simp [go_sem])
    have e2 : w1.cell? ⟨w.heap.size, 2, none⟩ = some (.slice C m d) := keep hb1 (by simp [go_sem])
    have e3 : w1.cell? ⟨w.heap.size + 1, 0, none⟩ = some (.slice D k e) := keep hb1 (by simp [go_sem])
    have HB1 := Lib.hid hB1
    clear hb1 hB1
    go_wp2_with (fail)
    refine kB (iKeepsOk_any p A n c bs D k e ts w1 (h.below HB1.out) (f.below HB1.out) hn hk) ?_ ?_
    · intro w2 hkp hb2
      have i0 := keep hb2 e0
      have i2 := keep hb2 e2
      have i3 := keep hb2 e3
      have HB2 := Lib.hid (HB1.out.trans (hb2.mono HB1.out.size))
      have g2 := g.below HB2.out
      have f2 := f.below HB2.out
      have hpt : ∀ j, j < m → ∀ x ∈ ls.getD j [], (0 ≤ x.1 ∧ x.1 < k) ∧ (0 ≤ x.2.1 ∧ x.2.1 < k) := fun j hj x hx => by
        have := bd_pts hkp.out.1 ((hp.out.2.2.2 j (by rw [HG.out]; exact hj)).2.2 x hx)
        rwa [HF.out] at this
      have HPT := Lib.hid hpt
      clear hb2 e0 e1 e2 e3 hpt
      go_wp2
      go_loopw [20] (fun i wr => ∃ j : Nat, j ≤ m ∧ i = .int .i64 j ∧ Below w2.heap.size w2 wr ∧ KcUp ls ts j) (fun i _ => m - (intOf i).toNat)
      case atStart => exact ⟨0, Nat.zero_le _, rfl, Below.refl _ _, fun j hj => by omega⟩
      case round =>
        obtain ⟨j, hj, rfl, hb, hup⟩ := hrel
        have HU := Lib.hid hup
        have HB := Lib.hid hb
        have j3 := keep hb i3
        clear hup hb
        by_cases hlt : j < m
        · obtain ⟨b, off, rfl, hc⟩ := (g2.below HB.out).cells (by omega)
          obtain ⟨A', c', hc0, -, hrow⟩ := hc j hlt
          have hshort := HS.out j hlt
          have hpt := HPT.out j hlt
          obtain ⟨q, HM⟩ : ∃ q, Hid ((ls.getD j []).length = q) := ⟨_, rfl⟩
          obtain ⟨l, HLj⟩ : ∃ l, Hid (ls.getD j [] = l) := ⟨_, rfl⟩
          rw [HM.out] at hc0 hrow hshort
          rw [HLj.out] at hrow hpt
          have HP2 := Lib.hid hpt
          have HR := Lib.hid hrow
          have HF2 := Lib.hid (f2.below HB.out)
          clear hc hrow hpt
          go_wp2_with (fail)
          refine kB (ContainsFuncBnd_any (fun x => Kpt ts x) _ _ A' q c' l _ HR.out (by omega) (enters Try.func80 (by kernel_rfl) (by kernel_rfl)) (Lib.hid fun W x hx hW => KeepsCase1_any x D k e ts _ W (keep hW j3) (HF2.out.below hW) (HP2.out x hx).1 (HP2.out x hx).2 hkp.out.1.2.2)) ?_ ?_
          · intro w3 hq hb3
            go_wp2
            go_roundw
            case rel =>
              refine ⟨j + 1, by omega, by go_num, HB.out.trans (hb3.mono HB.out.size), fun i hi => ?_⟩
              rcases Nat.lt_or_ge i j with h1 | h1
              · exact HU.out i h1
              · obtain rfl : i = j := by omega
                rw [HLj.out]; exact hq.out
            case measure => simp [intOf]; omega
          · intro w3 hq hb3
            go_wp2
            go_ret
            exact ⟨ret_b (B_false (fun hh => hq.out (by rw [← HLj.out]; exact hh.2.2 j (by rw [HG.out]; exact hlt)))).symm, HB2.out.trans ((HB.out.trans (hb3.mono HB.out.size)).mono HB2.out.size)⟩
        · go_wp2
          go_ret
          obtain rfl : j = m := by omega
          exact ⟨ret_b (B_true ⟨hp.out, hkp.out, by rw [HG.out]; exact HU.out⟩).symm, HB2.out.trans (HB.out.mono HB2.out.size)⟩
    · intro w2 hkp hb2
      go_wp2
      go_ret
      exact ⟨ret_b (B_false (fun hh => hkp.out hh.2.1)).symm, HB1.out.trans (hb2.mono HB1.out.size)⟩
  · intro w1 hp hb1
    go_wp2
    go_ret
    exact ⟨ret_b (B_false (fun hh => hp.out hh.1)).symm, hB0.trans (hb1.mono hB0.size)⟩

set_option maxRecDepth 100000 in
set_option maxHeartbeats 1000000 in
theorem sKeepsCase_any (p : Int) (A : Option Addr) (n c : Nat) (bs : List Bd) (C : Option Addr) (m d : Nat) (ls : List (List Bd)) (D : Option Addr) (k e : Nat) (ts : List Int) (w : World)
    (h : BndsAt w A n bs) (g : BndssAt w C m ls) (f : IntsAt w D k ts) (hn : n ≤ 1048576) (hm : m ≤ 1048576) (hs : Short ls m) (hk : k ≤ 1048576) :
    Calls Try.prog 45 #[.agg #[.int .i64 p, .slice A n c, .slice C m d], .slice D k e] w (Bl w (.bool (B (KcOk p bs ls ts)))) := by
  have HG := Lib.hid g.len
  have HF := Lib.hid f.len
  have HS := Lib.hid hs
  clear hs
  have hB0 : Below w.heap.size w (w.alloc (.cells #[.int .i64 p, .slice A n c, .slice C m d] 51)) := (Below.refl w.heap.size w).alloc (Nat.le_refl _) _
  go_enter Try.func45, Try.ntmps45
  go_wp2_with (fail)
  refine kB (sCaseOk_any p A n c bs C m d ls _ (h.below hB0) (g.below hB0) hn hm HS.out) ?_ ?_
  · intro w1 hp hb1
    have hB1 : Below w.heap.size w w1 := hB0.trans (hb1.mono hB0.size)
    have e0 : w1.cell? ⟨w.heap.size, 0, none⟩ = some (.int .i64 p) := keep hb1 (by simp [go_sem])
    have e1 : w1.cell? ⟨w.heap.size, 1, none⟩ = some (.slice A n c) := keep hb1 (by simp [go_sem])
    have e2 : w1.cell? ⟨w.heap.size, 2, none⟩ = some (.slice C m d) := keep hb1 (by simp [go_sem])
    have HB1 := Lib.hid hB1
    clear hb1 hB1
    go_wp2_with (fail)
    refine kB (sKeepsOk_any p A n c bs D k e ts w1 (h.below HB1.out) (f.below HB1.out) hn hk) ?_ ?_
    · intro w2 hkp hb2
      have i2 := keep hb2 e2
      have HB2 := Lib.hid (HB1.out.trans (hb2.mono HB1.out.size))
      have g2 := g.below HB2.out
      have f2 := f.below HB2.out
      have hpt : ∀ j, j < m → ∀ x ∈ ls.getD j [], (0 ≤ x.1 ∧ x.1 < k) ∧ (0 ≤ x.2.1 ∧ x.2.1 < k) := fun j hj x hx => by
        have := bd_pts hkp.out.1 ((hp.out.2.2.2 j (by rw [HG.out]; exact hj)).2.2 x hx)
        rwa [HF.out] at this
      have HPT := Lib.hid hpt
      clear hb2 e0 e1 e2 hpt
      go_wp2
      go_loopw [5, 6, 7] (fun i _ _ wr => ∃ j : Nat, j ≤ m ∧ i = .int .i64 j ∧ Below w2.heap.size w2 wr ∧ KcUp ls ts j) (fun i _ _ _ => m - (intOf i).toNat)
      case atStart => exact ⟨0, Nat.zero_le _, rfl, Below.refl _ _, fun j hj => by omega⟩
      case round =>
        obtain ⟨wo, rfl⟩ : ∃ wo : World, wo = wr := ⟨_, rfl⟩
        obtain ⟨j, hj, rfl, hb, hup⟩ := hrel
        have HU := Lib.hid hup
        have HB := Lib.hid hb
        have j2 := keep hb i2
        clear hup hb
        by_cases hlt : j < m
        · obtain ⟨b, off, rfl, hc⟩ := (g2.below HB.out).cells (by omega)
          obtain ⟨A', c', hc0, -, hrow⟩ := hc j hlt
          have hshort := HS.out j hlt
          have hpt := HPT.out j hlt
          obtain ⟨q, HM⟩ : ∃ q, Hid ((ls.getD j []).length = q) := ⟨_, rfl⟩
          obtain ⟨l, HLj⟩ : ∃ l, Hid (ls.getD j [] = l) := ⟨_, rfl⟩
          rw [HM.out] at hc0 hrow hshort
          rw [HLj.out] at hrow hpt
          have HP2 := Lib.hid hpt
          have HR := Lib.hid hrow
          have HF2 := Lib.hid (f2.below HB.out)
          clear hc hrow hpt
          go_wp2
          go_loopw [6, 7] (fun s i wr => ∃ r : Nat, r ≤ q ∧ i = .int .i64 r ∧ s = .bool (B (∃ b ∈ l.take r, Kpt ts b)) ∧ Below wo.heap.size wo wr) (fun _ i _ => q - (intOf i).toNat)
          case atStart => exact ⟨0, Nat.zero_le _, rfl, by rw [B_false]; simp, Below.refl _ _⟩
          case round =>
            obtain ⟨r, hr, rfl, rfl, hbr⟩ := hrel
            have HBR := Lib.hid hbr
            have c0' := keep hbr hc0
            have j2' := keep hbr j2
            clear hbr
            by_cases hltr : r < q
            · have hrl : r < l.length := by rw [HR.out.len]; exact hltr
              obtain ⟨b1, off1, rfl, hc1⟩ := (HR.out.below HBR.out).cells (by omega)
              obtain ⟨d0, d1, d2⟩ := hc1 r hltr
              have hmem : l.getD r (0, 0, 0) ∈ l := by simp [List.getD, hrl]
              obtain ⟨hi, hjx⟩ := HP2.out _ hmem
              have htake : (∃ b ∈ l.take (r + 1), Kpt ts b) ↔ ((∃ b ∈ l.take r, Kpt ts b) ∨ Kpt ts (l.getD r (0, 0, 0))) := by
                rw [List.take_succ_eq_append_getElem hrl]
                simp only [List.mem_append, List.mem_singleton]
                rw [show l.getD r (0, 0, 0) = l[r] by simp [List.getD, hrl]]
                constructor
                · rintro ⟨b, hb | rfl, hk⟩
                  · exact .inl ⟨b, hb, hk⟩
                  · exact .inr hk
                · rintro (⟨b, hb, hk⟩ | hk)
                  · exact ⟨b, .inl hb, hk⟩
                  · exact ⟨_, .inr rfl, hk⟩
              obtain ⟨x, HX⟩ : ∃ q, Hid (l.getD r (0, 0, 0) = q) := ⟨_, rfl⟩
              rw [HX.out] at d0 d1 d2 hi hjx hmem htake
              obtain ⟨x0, x1, x2⟩ := x
              obtain ⟨i, rfl⟩ := Int.eq_ofNat_of_zero_le hi.1
              obtain ⟨v, rfl⟩ := Int.eq_ofNat_of_zero_le hjx.1
              have hik : i < k := by have := hi.2; simp at this; omega
              have hvk : v < k := by have := hjx.2; simp at this; omega
              clear hi hjx hc1 hmem
              obtain ⟨b', off', rfl, hc'⟩ := (HF2.out.below HBR.out).cells (by omega)
              have ci := hc' i hik
              have cv := hc' v hvk
              have hbl1 : b1 < wr.heap.size := cell_lt d0
              have hbl' : b' < wr.heap.size := cell_lt ci
              have hgl' : w.heap.size < wr.heap.size := cell_lt j2'
              have hbl0 : b < wr.heap.size := cell_lt c0'
              clear hc'
              obtain ⟨hti0, hti1⟩ := allIn_at hkp.out.1.2.2 (k := i) (by rw [HF.out]; exact hik)
              obtain ⟨htv0, htv1⟩ := allIn_at hkp.out.1.2.2 (k := v) (by rw [HF.out]; exact hvk)
              have hkq : Kpt ts ((i : Int), (v : Int), x2) ↔ ts.getD v 0 - ts.getD i 0 ≤ x2 := by unfold Kpt; simp only [Int.toNat_natCast]
              obtain ⟨ti, HTI⟩ : ∃ q, Hid (ts.getD i 0 = q) := ⟨_, rfl⟩
              obtain ⟨tv, HTV⟩ : ∃ q, Hid (ts.getD v 0 = q) := ⟨_, rfl⟩
              rw [HTI.out] at ci hti0 hti1 hkq
              rw [HTV.out] at cv htv0 htv1 hkq
              rw [hkq] at htake
              have HTK := Lib.hid htake
              clear hkq htake
              have hik' : (i : Int) < (k : Int) := by omega
              have hvk' : (v : Int) < (k : Int) := by omega
              have hw : IntKind.i64.wrap (tv - ti) = tv - ti := IntWalk.i64_in _ (by omega)
              have HBA := Lib.hid (HBR.out.alloc HBR.out.size (.cells #[.int .i64 i, .int .i64 v, .int .i64 x2] 95))
              by_cases hsome : ∃ b ∈ l.take r, Kpt ts b
              · rw [B_true hsome]
                have HSO := Lib.hid hsome
                clear hsome
                go_wp2
                go_quiet (fail)
                go_wp2
                go_roundw
                case rel => exact ⟨r + 1, by omega, by go_num, by rw [B_true (HTK.out.2 (.inl HSO.out))], below_drewN HBA.out _⟩
                case measure => simp [intOf]; omega
              · rw [B_false hsome]
                have HSO := Lib.hid hsome
                clear hsome
                go_wp2
                go_quiet (fail)
                go_wp2
                go_roundw
                case rel =>
                  refine ⟨r + 1, by omega, by go_num, ?_, below_drewN HBA.out _⟩
                  by_cases hle : tv - ti ≤ x2
                  · rw [B_true (HTK.out.2 (.inr hle))]; simp; omega
                  · rw [B_false (fun hh => (HTK.out.1 hh).elim HSO.out hle)]; simp; omega
                case measure => simp [intOf]; omega
            · obtain rfl : r = q := by omega
              have htl : l.take r = l := List.take_of_length_le (by rw [HR.out.len]; omega)
              rw [htl]
              have hfin : Below w2.heap.size w2 wr := HB.out.trans (HBR.out.mono HB.out.size)
              have HFIN := Lib.hid hfin
              clear hfin htl
              by_cases hsome : ∃ b ∈ l, Kpt ts b
              · rw [B_true hsome]
                have HSO := Lib.hid hsome
                clear hsome
                go_wp2
                go_roundw
                case rel =>
                  refine ⟨j + 1, by omega, by go_num, HFIN.out, fun i hi => ?_⟩
                  rcases Nat.lt_or_ge i j with h1 | h1
                  · exact HU.out i h1
                  · obtain rfl : i = j := by omega
                    rw [HLj.out]; exact HSO.out
                case measure => simp [intOf]; omega
              · rw [B_false hsome]
                have HSO := Lib.hid hsome
                clear hsome
                go_wp2
                go_ret
                exact ⟨ret_b (B_false (fun hh => HSO.out (by rw [← HLj.out]; exact hh.2.2 j (by rw [HG.out]; exact hlt)))).symm, HB2.out.trans (HFIN.out.mono HB2.out.size)⟩
        · go_wp2
          go_ret
          obtain rfl : j = m := by omega
          exact ⟨ret_b (B_true ⟨hp.out, hkp.out, by rw [HG.out]; exact HU.out⟩).symm, HB2.out.trans (HB.out.mono HB2.out.size)⟩
    · intro w2 hkp hb2
      go_wp2
      go_ret
      exact ⟨ret_b (B_false (fun hh => hkp.out hh.2.1)).symm, HB1.out.trans (hb2.mono HB1.out.size)⟩
  · intro w1 hp hb1
    go_wp2
    go_ret
    exact ⟨ret_b (B_false (fun hh => hp.out hh.1)).symm, hB0.trans (hb1.mono hB0.size)⟩

end Go.Proofs.Ytopfhlopicjemaa
