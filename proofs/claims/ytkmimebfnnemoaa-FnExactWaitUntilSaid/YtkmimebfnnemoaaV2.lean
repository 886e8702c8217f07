/- The fewest happenings with which a plan is broken: broken, both FirstBad functions. -/
import Derived.Test.YtkmimebfnnemoaaV1
namespace Go.Proofs.Ytkmimebfnnemoaa
open Go.RowKit

/-- Broken with the first k happenings, at the time of the last one. -/
def Brk (p : Int) (bs : List Bd) (hs : List Hp) (k : Nat) : Prop := Vd p bs (hs.take k) (lastT hs k) = 2
theorem lastT_take {hs : List Hp} {k : Nat} (_hk : k ≤ hs.length) : lastT (hs.take k) k = lastT hs k := by
  unfold lastT
  split
  · rfl
  · have : k - 1 < k := by omega
    simp [List.getD, this]
/-- What FirstBad answers. -/
noncomputable def Fb (p : Int) (bs : List Bd) (hs : List Hp) : Int := if B (HrdOk p bs hs) = true then (match (List.range (hs.length + 1)).find? (fun k => B (Brk p bs hs k)) with | some k => (k : Int) | none => -1) else -1
theorem Fb_no {p : Int} {bs : List Bd} {hs : List Hp} (h : ¬ HrdOk p bs hs) : Fb p bs hs = -1 := by unfold Fb; rw [B_false h]; rfl
theorem find_range {P : Nat → Bool} : ∀ (n : Nat), (∀ k, k < n → P k = false) → (List.range n).find? P = none := fun n h => List.find?_eq_none.2 fun k hk => by rw [h k (List.mem_range.1 hk)]; simp
theorem Fb_hit {p : Int} {bs : List Bd} {hs : List Hp} {k : Nat} (h : HrdOk p bs hs) (hk : k ≤ hs.length) (hlo : ∀ j, j < k → ¬ Brk p bs hs j) (hb : Brk p bs hs k) : Fb p bs hs = k := by
  unfold Fb
  rw [B_true h]
  have e : List.range (hs.length + 1) = List.range k ++ (k :: (List.range (hs.length - k)).map (· + (k + 1))) := by
    have h1 : hs.length + 1 = k + (1 + (hs.length - k)) := by omega
    rw [h1, List.range_add]
    congr 1
    rw [Nat.add_comm 1, List.range_succ_eq_map, List.map_cons, List.map_map]
    congr 1
    apply List.map_congr_left
    intro a _
    simp; omega
  rw [e, List.find?_append, find_range k (fun j hj => B_false (hlo j hj))]
  simp [List.find?_cons, B_true hb]
theorem Fb_none {p : Int} {bs : List Bd} {hs : List Hp} (h : HrdOk p bs hs) (hlo : ∀ j, j < hs.length + 1 → ¬ Brk p bs hs j) : Fb p bs hs = -1 := by
  unfold Fb
  rw [B_true h, find_range _ (fun j hj => B_false (hlo j hj))]
  rfl

set_option maxHeartbeats 1000000 in
theorem broken_any (p : Int) (A : Option Addr) (n c : Nat) (bs : List Bd) (D : Option Addr) (m d : Nat) (hs : List Hp) (w : World) (h : BndsAt w A n bs) (g : HapsAt w D m hs) (hn : n ≤ 1048576) (hm : m ≤ 1048576) :
    Calls Try.prog 49 #[.agg #[.int .i64 p, .slice A n c], .slice D m d] w (Bl w (.bool (B (Vd p bs hs (lastT hs m) = 2)))) := by
  obtain ⟨w0, HW0⟩ : ∃ q, Hid (w.alloc (.cells #[.int .i64 p, .slice A n c] 31) = q) := ⟨_, rfl⟩
  have hA0 : Below w.heap.size w w0 := HW0.out ▸ (Below.refl w.heap.size w).alloc (Nat.le_refl _) _
  have s0 : w0.cell? ⟨w.heap.size, 0, none⟩ = some (.int .i64 p) := HW0.out ▸ by simp [go_sem]
  have s1 : w0.cell? ⟨w.heap.size, 1, none⟩ = some (.slice A n c) := HW0.out ▸ by simp [go_sem]
  have HB0 := Lib.hid hA0
  have HH := Lib.hid (h.below hA0)
  have HG := Lib.hid (g.below hA0)
  clear hA0 h g
  obtain ⟨l, HLT⟩ : ∃ q, Hid (lastT hs m = q) := ⟨_, rfl⟩
  have hlt := lastTime_any D m d hs w0.drew (HG.out.drewN 1) hm
  rw [HLT.out] at hlt ⊢
  have HLC := Lib.hid hlt
  have HVC := Lib.hid (iVerdictOf_any p A n c bs D m d hs l w0.drew (HH.out.drewN 1) (HG.out.drewN 1) hn hm)
  clear hlt
  go_enter Try.func49, Try.ntmps49
  go_wp2_with (fail)
  rw [HW0.out]
  obtain ⟨sb, HSB⟩ : ∃ q, Hid (w.heap.size = q) := ⟨_, rfl⟩
  rw [HSB.out] at s0 s1 HB0 ⊢
  go_region_held3 (fun w' => w'.cell? ⟨sb, 0, none⟩ = some (.int .i64 p) ∧ w'.cell? ⟨sb, 1, none⟩ = some (.slice A n c))
    (first | exact ⟨s0, s1⟩ | exact ⟨keep hbV s0, keep hbV s1⟩)
    (first
      | (go_at_call 40; refine kV HLC.out ?_)
      | (go_at_call 24; refine kBV HVC.out ?_; intro wV hbV))
  have HV := Lib.hid (show Below w.heap.size w wV by rw [HSB.out]; exact HB0.out.drew.trans (hbV.mono (by have := HB0.out.size; have := HSB.out; show sb ≤ w0.heap.size; omega)))
  go_wp2
  go_ret
  refine ⟨ret_b ?_, HV.out⟩
  unfold B
  by_cases e : Vd p bs hs l = 2 <;> simp [e]

set_option maxRecDepth 100000 in
set_option maxHeartbeats 2000000 in
theorem iFirstBad_any (p : Int) (A : Option Addr) (n c : Nat) (bs : List Bd) (D : Option Addr) (m d : Nat) (hs : List Hp) (w : World) (h : BndsAt w A n bs) (g : HapsAt w D m hs) (hn : n ≤ 1048576) (hm : m ≤ 1048576) (_hnc : n ≤ c) (hmd : m ≤ d) :
    Calls Try.prog 26 #[.agg #[.int .i64 p, .slice A n c], .slice D m d] w (Bl w (.int .i64 (Fb p bs hs))) := by
  have HL := Lib.hid g.len
  have hB0 : Below w.heap.size w (w.alloc (.cells #[.int .i64 p, .slice A n c] 31)) := (Below.refl w.heap.size w).alloc (Nat.le_refl _) _
  have HH := Lib.hid (h.below hB0)
  have HG := Lib.hid (g.below hB0)
  clear h g
  go_enter Try.func26, Try.ntmps26
  go_wp2_with (fail)
  refine kB (iHeardOk_any p A n c bs D m d hs _ HH.out HG.out hn hm) ?_ ?_
  · intro w1 hf hb1
    have hB1 : Below w.heap.size w w1 := hB0.trans (hb1.mono hB0.size)
    have e0 : w1.cell? ⟨w.heap.size, 0, none⟩ = some (.int .i64 p) := keep hb1 (by simp [go_sem])
    have e1 : w1.cell? ⟨w.heap.size, 1, none⟩ = some (.slice A n c) := keep hb1 (by simp [go_sem])
    have HH1 := Lib.hid (HH.out.below hb1)
    have HG1 := Lib.hid (HG.out.below hb1)
    have HB1 := Lib.hid hB1
    have HE := Lib.hid (And.intro e0 e1)
    clear hb1 hB1 e0 e1
    go_wp2
    go_loopw [13] (fun i wr => ∃ (k : Nat), k ≤ m + 1 ∧ i = .int .i64 k ∧ (∀ j, j < k → ¬ Brk p bs hs j) ∧ Below w1.heap.size w1 wr) (fun i _ => m + 1 - (intOf i).toNat)
    case atStart => exact ⟨0, Nat.zero_le _, rfl, fun j hj => by omega, Below.refl _ _⟩
    case round =>
      obtain ⟨wo, rfl⟩ : ∃ wo : World, wo = wr := ⟨_, rfl⟩
      obtain ⟨k, hk, rfl, hne, hb⟩ := hrel
      have HNE := Lib.hid hne
      have HB := Lib.hid hb
      have e0 := keep hb HE.out.1
      have e1 := keep hb HE.out.2
      clear hne hb
      by_cases hkm : k < m + 1
      · have hkI0 : (0 : Int) ≤ (k : Int) := by omega
        have hkI1 : (k : Int) ≤ (m : Int) := by omega
        have hkI2 : (k : Int) ≤ (d : Int) := by omega
        have hkI3 : (k : Int) < (m : Int) + 1 := by omega
        have hkm' : k ≤ m := by omega
        have HLT := Lib.hid (lastT_take (hs := hs) (k := k) (by rw [HL.out]; omega))
        have hcall := broken_any p A n c bs D k d (hs.take k) wo.drew ((HH1.out.below HB.out).drewN 1) (((HG1.out.below HB.out).cut hkm').drewN 1) hn (by omega)
        rw [HLT.out] at hcall
        have HC := Lib.hid hcall
        clear hcall
        go_wp2_with (fail)
        go_region_held3 (fun w' => w'.cell? ⟨w.heap.size, 0, none⟩ = some (.int .i64 p) ∧ w'.cell? ⟨w.heap.size, 1, none⟩ = some (.slice A n c))
          (first | exact ⟨e0, e1⟩ | exact ⟨keep hbV e0, keep hbV e1⟩)
          ((go_at_call 49; refine kBV HC.out ?_; intro wV hbV))
        have HV := Lib.hid (show Below w1.heap.size w1 wV from HB.out.drew.trans (hbV.mono HB.out.size))
        clear hbV
        by_cases hbk : Brk p bs hs k
        · rw [show B (Vd p bs (hs.take k) (lastT hs k) = 2) = true from B_true hbk]
          have HBK := Lib.hid hbk
          clear hbk
          go_wp2
          go_ret
          exact ⟨ret_i (Fb_hit hf.out (by rw [HL.out]; exact hkm') HNE.out HBK.out).symm, HB1.out.trans (HV.out.mono HB1.out.size)⟩
        · rw [show B (Vd p bs (hs.take k) (lastT hs k) = 2) = false from B_false hbk]
          have HBK := Lib.hid hbk
          clear hbk
          go_wp2
          go_roundw
          case rel =>
            refine ⟨k + 1, by omega, by go_num, fun j hj => ?_, HV.out⟩
            rcases Nat.lt_or_ge j k with h5 | h5
            · exact HNE.out j h5
            · obtain rfl : j = k := by omega
              exact HBK.out
          case measure => simp [intOf]; omega
      · obtain rfl : k = m + 1 := by omega
        go_wp2
        go_ret
        exact ⟨ret_i (Fb_none hf.out (fun j hj => HNE.out j (by rw [HL.out] at hj; exact hj))).symm, HB1.out.trans (HB.out.mono HB1.out.size)⟩
  · intro w1 hf hb1
    go_wp2
    go_ret
    exact ⟨ret_i (Fb_no hf.out).symm, hB0.trans (hb1.mono hB0.size)⟩

set_option maxRecDepth 100000 in
set_option maxHeartbeats 2000000 in
theorem sFirstBad_any (p : Int) (A : Option Addr) (n c : Nat) (bs : List Bd) (D : Option Addr) (m d : Nat) (hs : List Hp) (w : World) (h : BndsAt w A n bs) (g : HapsAt w D m hs) (hn : n ≤ 1048576) (hm : m ≤ 1048576) (_hnc : n ≤ c) (hmd : m ≤ d) :
    Calls Try.prog 25 #[.agg #[.int .i64 p, .slice A n c], .slice D m d] w (Bl w (.int .i64 (Fb p bs hs))) := by
  have HL := Lib.hid g.len
  have hB0 : Below w.heap.size w (w.alloc (.cells #[.int .i64 p, .slice A n c] 31)) := (Below.refl w.heap.size w).alloc (Nat.le_refl _) _
  have HH := Lib.hid (h.below hB0)
  have HG := Lib.hid (g.below hB0)
  clear h g
  go_enter Try.func25, Try.ntmps25
  go_wp2_with (fail)
  refine kB (sHeardOk_any p A n c bs D m d hs _ HH.out HG.out hn hm) ?_ ?_
  · intro w1 hf hb1
    have hB1 : Below w.heap.size w w1 := hB0.trans (hb1.mono hB0.size)
    have e0 : w1.cell? ⟨w.heap.size, 0, none⟩ = some (.int .i64 p) := keep hb1 (by simp [go_sem])
    have e1 : w1.cell? ⟨w.heap.size, 1, none⟩ = some (.slice A n c) := keep hb1 (by simp [go_sem])
    have HH1 := Lib.hid (HH.out.below hb1)
    have HG1 := Lib.hid (HG.out.below hb1)
    have HB1 := Lib.hid hB1
    have HE := Lib.hid (And.intro e0 e1)
    clear hb1 hB1 e0 e1
    go_wp2
    go_loopw [5] (fun i wr => ∃ (k : Nat), k ≤ m + 1 ∧ i = .int .i64 k ∧ (∀ j, j < k → ¬ Brk p bs hs j) ∧ Below w1.heap.size w1 wr) (fun i _ => m + 1 - (intOf i).toNat)
    case atStart => exact ⟨0, Nat.zero_le _, rfl, fun j hj => by omega, Below.refl _ _⟩
    case round =>
      obtain ⟨wo, rfl⟩ : ∃ wo : World, wo = wr := ⟨_, rfl⟩
      obtain ⟨k, hk, rfl, hne, hb⟩ := hrel
      have HNE := Lib.hid hne
      have HB := Lib.hid hb
      have e0 := keep hb HE.out.1
      have e1 := keep hb HE.out.2
      clear hne hb
      by_cases hkm : k < m + 1
      · have hkI0 : (0 : Int) ≤ (k : Int) := by omega
        have hkI1 : (k : Int) ≤ (m : Int) := by omega
        have hkI2 : (k : Int) ≤ (d : Int) := by omega
        have hkm' : k ≤ m := by omega
        obtain ⟨l, HLT⟩ : ∃ q, Hid (lastT hs k = q) := ⟨_, rfl⟩
        have HC := Lib.hid (sVerdictOf_any p A n c bs D k d (hs.take k) l wo.drew ((HH1.out.below HB.out).drewN 1) (((HG1.out.below HB.out).cut hkm').drewN 1) hn (by omega))
        have HBR := Lib.hid (show Brk p bs hs k ↔ Vd p bs (hs.take k) l = 2 by unfold Brk; rw [HLT.out])
        obtain ⟨v, HVD⟩ : ∃ q, Hid (Vd p bs (hs.take k) l = q) := ⟨_, rfl⟩
        rw [HVD.out] at HC HBR
        have way : ∀ (x : Prop), x → x := fun _ h => h
        clear way
        by_cases h0 : 0 < k
        all_goals
          first
            | (obtain ⟨k1, HK1⟩ : ∃ k1, Hid (k = k1 + 1) := ⟨k - 1, Lib.hid (by omega)⟩
               obtain ⟨b, off, rfl, hc⟩ := (HG1.out.below HB.out).cells (by omega)
               obtain ⟨-, c1⟩ := hc k1 (by have := HK1.out; omega)
               have hl : (hs.getD k1 (0, 0)).2 = l := by have := HLT.out; unfold lastT at this; rw [if_neg (by omega), HK1.out, Nat.add_sub_cancel] at this; exact this
               rw [hl] at c1
               have hk1 : (k : Int) - 1 = (k1 : Int) := by have := HK1.out; omega
               have h0' : (0 : Int) < (k : Int) := by omega
               have hk1m : k1 < m := by have := HK1.out; omega
               clear hc hl)
            | (have hl : l = 0 := by have := HLT.out; unfold lastT at this; rw [if_pos (by omega)] at this; exact this.symm
               have h0' : ¬ (0 : Int) < (k : Int) := by omega
               subst hl)
          go_wp2_with (fail)
          go_region_held3 (fun w' => w'.cell? ⟨w.heap.size, 0, none⟩ = some (.int .i64 p) ∧ w'.cell? ⟨w.heap.size, 1, none⟩ = some (.slice A n c))
            (first | exact ⟨e0, e1⟩ | exact ⟨keep hbV e0, keep hbV e1⟩)
            ((go_at_call 23; refine kBV HC.out ?_; intro wV hbV))
          have HV := Lib.hid (show Below w1.heap.size w1 wV from HB.out.drew.trans (hbV.mono HB.out.size))
          clear hbV
          by_cases hbk : v = 2
          · have HBK := Lib.hid (HBR.out.2 hbk)
            subst hbk
            go_wp2
            go_ret
            exact ⟨ret_i (Fb_hit hf.out (by rw [HL.out]; exact hkm') HNE.out HBK.out).symm, HB1.out.trans (HV.out.mono HB1.out.size)⟩
          · have hbk' : (v == 2) = false := by simpa using hbk
            have HBK := Lib.hid (fun h => hbk (HBR.out.1 h))
            go_wp2
            go_roundw
            case rel =>
              refine ⟨k + 1, by omega, by go_num, fun j hj => ?_, HV.out⟩
              rcases Nat.lt_or_ge j k with h5 | h5
              · exact HNE.out j h5
              · obtain rfl : j = k := by omega
                exact HBK.out
            case measure => simp [intOf]; omega
      · obtain rfl : k = m + 1 := by omega
        go_wp2
        go_ret
        exact ⟨ret_i (Fb_none hf.out (fun j hj => HNE.out j (by rw [HL.out] at hj; exact hj))).symm, HB1.out.trans (HB.out.mono HB1.out.size)⟩
  · intro w1 hf hb1
    go_wp2
    go_ret
    exact ⟨ret_i (Fb_no hf.out).symm, hB0.trans (hb1.mono hB0.size)⟩

end Go.Proofs.Ytkmimebfnnemoaa
