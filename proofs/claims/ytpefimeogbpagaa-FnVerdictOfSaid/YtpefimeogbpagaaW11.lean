/- The happening that may be next, by the reference: spec.NextOf (as far as draws need it). -/
import Derived.Test.YtpefimeogbpagaaW6
import Derived.Test.YtpefimeogbpagaaOH
import Derived.Test.YtpefimeogbpagaaV1
set_option linter.unusedSimpArgs false
set_option linter.unusedVariables false
namespace Go.Proofs.Ytpefimeogbpagaa
open Go.RowKit

/-- What NextOf leaves, as far as draws need it. -/
def NxV (w : World) (e : Ending) (w' : World) : Prop := ∃ (a b : Int) (ok : Bool), e = .returned (.tuple #[.agg #[.int .i64 a, .int .i64 b], .bool ok]) ∧ Below w.heap.size w w'
theorem kNx {Pr : Program} {f : FuncId} {args : Array Value} {w : World} {K : Ending → World → Prop} (h : Calls Pr f args w (NxV w))
    (h1 : ∀ (a b : Int) (ok : Bool) w', Below w.heap.size w w' → K (.returned (.tuple #[.agg #[.int .i64 a, .int .i64 b], .bool ok])) w') : Calls Pr f args w K :=
  h.mono fun e w' ⟨a, b, ok, he, hb⟩ => by subst he; exact h1 a b ok w' hb
theorem Vd_sa {p : Int} {bs : List Bd} {hs : List Hp} {now : Int} (h : Vd p bs hs now = 1) : SaOk p bs hs now := by
  by_cases hh : SaOk p bs hs now
  · exact hh
  · rw [Vd_no hh] at h; exact absurd h (by decide)
set_option maxRecDepth 100000 in
set_option maxHeartbeats 8000000 in
theorem NextOf_any (p : Int) (A : Option Addr) (n c : Nat) (bs : List Bd) (D : Option Addr) (m d : Nat) (hs : List Hp) (w : World) (h : BndsAt w A n bs) (g : HapsAt w D m hs) (hn : n ≤ 1048576) (hm : m ≤ 1048576) :
    Calls Try.prog 48 #[.agg #[.int .i64 p, .slice A n c], .slice D m d] w (NxV w) := by
  have HL := Lib.hid g.len
  have hB0 : Below w.heap.size w ((w.alloc (.cells #[.int .i64 p, .slice A n c] 25)).alloc (.cells #[.int .i64 0, .int .i64 0] 37)) := ((Below.refl w.heap.size w).alloc (Nat.le_refl _) _).alloc (by simp) _
  obtain ⟨w0, HW0⟩ : ∃ q, Hid ((w.alloc (.cells #[.int .i64 p, .slice A n c] 25)).alloc (.cells #[.int .i64 0, .int .i64 0] 37) = q) := ⟨_, rfl⟩
  rw [HW0.out] at hB0
  have e0 : w0.cell? ⟨w.heap.size, 0, none⟩ = some (.int .i64 p) := HW0.out ▸ by simp [go_sem]
  have e1 : w0.cell? ⟨w.heap.size, 1, none⟩ = some (.slice A n c) := HW0.out ▸ by simp [go_sem]
  have HRS := Lib.hid (show Blk w0 (w.heap.size + 1) 37 #[.int .i64 0, .int .i64 0] from HW0.out ▸ Blk.at_new (by simp) _ _)
  have HH := Lib.hid (h.below hB0)
  have HG := Lib.hid (g.below hB0)
  have HB0 := Lib.hid hB0
  clear h g hB0
  obtain ⟨now, HNOW⟩ : ∃ q, Hid (lastT hs m = q) := ⟨_, rfl⟩
  have HVD := Lib.hid (fun (W : World) (hb : Below w0.heap.size w0 W) => sVerdictOf_any p A n c bs D m d hs now W (HH.out.below hb) (HG.out.below hb) hn hm)
  go_enter Try.func48, Try.ntmps48
  go_upto_if 15 with fail
  rw [HW0.out]
  obtain ⟨sb, HSB⟩ : ∃ q, Hid (w.heap.size = q) := ⟨_, rfl⟩
  rw [HSB.out] at e0 e1 HRS HB0 ⊢
  go_cut [6] from 16 to 22 (fun s wx => s = .int .i64 now ∧ wx = w0)
  case first =>
    by_cases hm0 : m = 0
    · subst hm0
      have hnow : now = 0 := by rw [← HNOW.out]; rfl
      subst hnow
      go_wp2_with (fail)
      go_meet
      exact ⟨rfl, rfl⟩
    · obtain ⟨k, rfl⟩ : ∃ k, m = k + 1 := ⟨m - 1, by omega⟩
      obtain ⟨b, off, rfl, hc⟩ := HG.out.cells (by omega)
      obtain ⟨-, c1⟩ := hc k (by omega)
      have HLT := Lib.hid (show (hs.getD k (0, 0)).2 = now from by rw [← HNOW.out]; unfold lastT; rw [if_neg (by omega), Nat.add_sub_cancel])
      rw [HLT.out] at c1
      have hk1 : ((k + 1 : Nat) : Int) - 1 = (k : Int) := by omega
      clear hc hm0
      go_wp2_with (fail)
      go_meet
      exact ⟨rfl, rfl⟩
  case rest =>
    obtain ⟨rfl, rfl⟩ := hcut
    have hvd := HVD.out _ (Below.refl _ _)
    obtain ⟨v, HV⟩ : ∃ q, Hid (Vd p bs hs now = q) := ⟨_, rfl⟩
    rw [HV.out] at hvd
    have HVC := Lib.hid hvd
    have hsl : sb + 1 < wc.heap.size := HRS.out.lt
    clear hvd
    go_wp2_with (fail)
    refine kBV HVC.out ?_
    intro w1 hb1
    have e0 := keep hb1 e0
    have e1 := keep hb1 e1
    have HR1 := Lib.hid (HRS.out.below hb1 hsl)
    have HB1 := Lib.hid (HB0.out.trans (hb1.mono (by have := HB0.out.size; have := HSB.out; omega)))
    have HC1 := Lib.hid hb1
    have hs1 := hb1.size
    clear hb1
    by_cases hv : v = 1
    rotate_left
    · have hvb : (v != 1) = true := by simpa using hv
      have r0 := (HR1.out.cell 0).trans rfl
      have r1 := (HR1.out.cell 1).trans rfl
      have f0 := HR1.out.frozen 0
      have f1 := HR1.out.frozen 1
      go_wp2_with (fail)
      refine bodyPost_ret (v := .tuple #[.agg #[.int .i64 0, .int .i64 0], .bool false]) (by simp [results, Try.results48, go_sem, r0, r1]) rfl ⟨0, 0, false, rfl, ?_⟩
      rw [HSB.out]; exact (HB1.out.setCell (by simp <;> omega) _).setCell (by simp <;> omega) _
    · subst hv
      have HSA := Lib.hid (Vd_sa HV.out)
      obtain ⟨P, rfl, hP1, hP6⟩ := HSA.out.1.2.1.nat
      have hst := l14State_any P A n c D m d hs now w1 (HG.out.below HC1.out) ⟨hP1, hP6⟩ hm HSA.out.1.1
      have HST := Lib.hid hst
      clear hst
      go_wp2_with (fail)
      refine HST.out.mono ?_
      rintro e w2 ⟨D', m', d', rfl, hown, hb2⟩
      have HI2 := Lib.hid (OwnZ.at_ hown)
      have hm6 : m' ≤ 6 := by have h1 := OwnZ.len hown; rw [DsA_len hP1] at h1; omega
      have HB2 := Lib.hid (HB1.out.trans (hb2.mono (by omega)))
      have HC2 := Lib.hid (HC1.out.trans (hb2.mono hs1))
      obtain ⟨ds, HDS⟩ : ∃ q, Hid (DsA P hs = q) := ⟨_, rfl⟩
      rw [HDS.out] at HI2
      have e0 := keep hb2 e0
      have e1 := keep hb2 e1
      have HR2 := Lib.hid (HR1.out.below hb2 HR1.out.lt)
      have hs2 := hb2.size
      obtain ⟨w3, HW3⟩ : ∃ q, Hid (w2.alloc (.cells #[.int .i64 now, .slice D' m' d'] 31) = q) := ⟨_, rfl⟩
      have hb3 : Below w2.heap.size w2 w3 := HW3.out ▸ (Below.refl _ _).alloc (Nat.le_refl _) _
      have hz3 : w3.heap.size = w2.heap.size + 1 := by rw [← HW3.out, World.size_alloc]
      have s0 : w3.cell? ⟨w2.heap.size, 0, none⟩ = some (.int .i64 now) := HW3.out ▸ by simp [go_sem]
      have s1 : w3.cell? ⟨w2.heap.size, 1, none⟩ = some (.slice D' m' d') := HW3.out ▸ by simp [go_sem]
      have HE := Lib.hid (And.intro (keep hb3 e0) (And.intro (keep hb3 e1) (And.intro s0 s1)))
      have HI3 := Lib.hid (HI2.out.below hb3)
      have HC3 := Lib.hid (HC2.out.trans (hb3.mono (by omega)))
      have HB3 := Lib.hid (HB2.out.trans (hb3.mono (by omega)))
      have HR3 := Lib.hid (HR2.out.below hb3 HR2.out.lt)
      clear hown hb2 hb3 e0 e1 s0 s1
      go_wp2_with (fail)
      rw [HW3.out]
      obtain ⟨T, HTT⟩ : ∃ q, Hid (w2.heap.size = q) := ⟨_, rfl⟩
      rw [HTT.out] at HE hz3 hs2 ⊢
      go_loopw [9] (fun i wr => ∃ (k : Nat) (a b : Int), k ≤ P ∧ i = .int .i64 k ∧ Blk wr (T + 1) 37 #[.int .i64 a, .int .i64 b] ∧ Below (T + 1) w3 wr) (fun i _ => P - (intOf i).toNat)
      case atStart => exact ⟨0, -1, 100000, Nat.zero_le _, rfl, Blk.at_new hz3 _ _, hz3 ▸ (Below.refl _ _).alloc (Nat.le_refl _) _⟩
      case round =>
        obtain ⟨wo, rfl⟩ : ∃ wo : World, wo = wr := ⟨_, rfl⟩
        obtain ⟨k, a, b, hk, rfl, hblk, hb⟩ := hrel
        have HK := Lib.hid hblk
        have HBO := Lib.hid hb
        have hbe : Below w3.heap.size w3 wo := hz3 ▸ hb
        have HBE := Lib.hid hbe
        have e0 := keep hbe HE.out.1
        have e1 := keep hbe HE.out.2.1
        have s0 := keep hbe HE.out.2.2.1
        have s1 := keep hbe HE.out.2.2.2
        have q0 := (hblk.cell 0).trans rfl
        have q1 := (hblk.cell 1).trans rfl
        have f0 := hblk.frozen 0
        have f1 := hblk.frozen 1
        have hql := hblk.lt
        clear hblk hb hbe
        by_cases hkP : k < P
        · have hkI : (k : Int) < (P : Int) := by omega
          have HHO := Lib.hid (HH.out.below (HC3.out.trans (HBE.out.mono HC3.out.size)))
          have HIO := Lib.hid (HI3.out.below HBE.out)
          go_wp2_with (fail)
          refine kWinU (sWindowOf_any (P : Int) A n c bs now D' m' d' ds (k : Int) _ HHO.out HIO.out hn) ?_
          intro lo hi ok w4 hb4
          have HHO4 := Lib.hid (HHO.out.below hb4)
          have HIO4 := Lib.hid (HIO.out.below hb4)
          have HBO4 := Lib.hid (HBO.out.trans (hb4.mono (by omega)))
          have HK4 := Lib.hid (HK.out.below hb4 hql)
          replace e0 := keep hb4 e0
          replace e1 := keep hb4 e1
          replace s0 := keep hb4 s0
          replace s1 := keep hb4 s1
          clear hb4 q0 q1 f0 f1
          go_wp2_with (fail)
          refine kB (sReadyOk_any (P : Int) A n c bs now D' m' d' ds (k : Int) _ HHO4.out HIO4.out hn) ?_ ?_
          · intro w5 _ hb5
            have HBO5 := Lib.hid (HBO4.out.trans (hb5.mono (by have := HK4.out.lt; omega)))
            have HK5 := Lib.hid (HK4.out.below hb5 HK4.out.lt)
            have q0 := (HK5.out.cell 0).trans rfl
            have q1 := (HK5.out.cell 1).trans rfl
            have f0 := HK5.out.frozen 0
            have f1 := HK5.out.frozen 1
            clear hb5
            by_cases hlo : lo < b
            · have HKN := Lib.hid (show Blk ((w5.setCell ⟨T + 1, 0, none⟩ (.int .i64 (k : Int))).setCell ⟨T + 1, 1, none⟩ (.int .i64 lo)) (T + 1) 37 #[.int .i64 (k : Int), .int .i64 lo] from by
                have := (HK5.out.set_ 0 (.int .i64 (k : Int))).set_ 1 (.int .i64 lo)
                simpa using this)
              go_wp2_with (fail)
              go_roundw
              case rel => exact ⟨k + 1, k, lo, by omega, by go_num, HKN.out, (HBO5.out.setCell (by simp) _).setCell (by simp) _⟩
              case measure => simp [intOf]; omega
            · go_wp2_with (fail)
              go_roundw
              case rel => exact ⟨k + 1, a, b, by omega, by go_num, HK5.out, HBO5.out⟩
              case measure => simp [intOf]; omega
          · intro w5 _ hb5
            have HBO5 := Lib.hid (HBO4.out.trans (hb5.mono (by have := HK4.out.lt; omega)))
            have HK5 := Lib.hid (HK4.out.below hb5 HK4.out.lt)
            clear hb5
            go_wp2_with (fail)
            go_roundw
            case rel => exact ⟨k + 1, a, b, by omega, by go_num, HK5.out, HBO5.out⟩
            case measure => simp [intOf]; omega
        · obtain rfl : k = P := by omega
          have HRO := Lib.hid (HR3.out.below HBE.out HR3.out.lt)
          have r0 := (HRO.out.cell 0).trans rfl
          have r1 := (HRO.out.cell 1).trans rfl
          have g0 := HRO.out.frozen 0
          have g1 := HRO.out.frozen 1
          have hrl := HRO.out.lt
          have HBF := Lib.hid (HB3.out.trans (HBE.out.mono (by have := HB3.out.size; have := HSB.out; omega)))
          by_cases hb2 : 2000 < b
          · go_wp2_with (fail)
            refine bodyPost_ret (v := .tuple #[.agg #[.int .i64 0, .int .i64 0], .bool false]) (by simp [results, Try.results48, go_sem, r0, r1]) rfl ⟨0, 0, false, rfl, ?_⟩
            rw [HSB.out]; exact (HBF.out.setCell (by simp <;> omega) _).setCell (by simp <;> omega) _
          · go_wp2_with (fail)
            refine bodyPost_ret (v := .tuple #[.agg #[.int .i64 a, .int .i64 b], .bool true]) (by simp [results, Try.results48, go_sem, r0, r1]) rfl ⟨a, b, true, rfl, ?_⟩
            rw [HSB.out]; exact (HBF.out.setCell (by simp <;> omega) _).setCell (by simp <;> omega) _

end Go.Proofs.Ytpefimeogbpagaa
