/- The table of bounds by the program: impl.start. -/
import Derived.Test.YtpefimeogbpagaaT2
import Derived.Lib.MinMax
import Derived.BigRegion
namespace Go.Proofs.Ytpefimeogbpagaa
open Go.RowKit

def NewTab (w : World) (p : Nat) (T : Tab) (e : Ending) (w' : World) : Prop := ∃ o f, e = .returned (.slice (some ⟨o, 0, none⟩) p p) ∧ TabP w' w.heap.size o p p f T ∧ Below w.heap.size w w'
theorem kNewTab {Pr : Program} {f : FuncId} {args : Array Value} {w : World} {R : Ending → World → Prop} {p : Nat} {T : Tab} (h : Calls Pr f args w (NewTab w p T))
    (h1 : ∀ o g w', TabP w' w.heap.size o p p g T → Below w.heap.size w w' → R (.returned (.slice (some ⟨o, 0, none⟩) p p)) w') : Calls Pr f args w R :=
  h.mono fun e w' ⟨o, g, he, hi, hb⟩ => by subst he; exact h1 o g w' hi hb
theorem infoIntS : (Try.prog.info? 29).map (fun i => (i.zero, i.size, i.bytes)) = some (some (.slice none 0 0), 1, 24) := by kernel_rfl
theorem infoInt : (Try.prog.info? 3).map (fun i => (i.zero, i.size, i.bytes)) = some (some (.int .i64 0), 1, 8) := by kernel_rfl
/-- Bounds of a plan of p points. -/
def Within (p : Nat) (bs : List Bd) : Prop := ∀ b ∈ bs, (0 ≤ b.1 ∧ b.1 < (p : Int)) ∧ (0 ≤ b.2.1 ∧ b.2.1 < (p : Int))
theorem addB_upd {T : Tab} {F G : Nat} {m : Int} : addB T ((F : Int), (G : Int), m) = upd T F G (min (T F G) m) := by
  funext x y
  unfold addB upd
  by_cases h : x = F ∧ y = G
  · obtain ⟨rfl, rfl⟩ := h
    rw [if_pos ⟨rfl, rfl⟩, if_pos ⟨rfl, rfl⟩]
  · rw [if_neg h, if_neg (fun e => h (by simp only at e; omega))]

set_option maxRecDepth 100000 in
set_option maxHeartbeats 2000000 in
theorem start_any (p : Nat) (A : Option Addr) (n c : Nat) (bs : List Bd) (w : World) (h : BndsAt w A n bs) (hp : p ≤ 6) (hn : n ≤ 1048576) (hb : Within p bs) :
    Calls Try.prog 42 #[.int .i64 (p : Int), .slice A n c] w (NewTab w p (T0 bs)) := by
  have HL := Lib.hid h.len
  have HW := Lib.hid hb
  clear hb
  have hmk1 := makeRows (P := Try.prog) 64 29 _ 1 24 Try.underlying64 infoIntS p (by omega) (by omega)
  obtain ⟨arr0, hs0, hmk1⟩ := hmk1
  have HS0 := Lib.hid hs0
  clear hs0
  have hmk2 := makeInts (P := Try.prog) (t := 29) Try.underlying29 infoInt p (by omega)
  go_enter Try.func42, Try.ntmps42
  go_wp2
  clear hmk1
  go_loopw [14] (fun i wr => ∃ (k : Nat) (f : Nat → Nat) (T : Tab), k ≤ p ∧ i = .int .i64 k ∧ TabP wr w.heap.size w.heap.size p k f T ∧ (∀ x y, x < k → y < p → T x y = T00 x y) ∧ Below w.heap.size w wr) (fun i _ => p - (intOf i).toNat)
  case atStart => exact ⟨0, id, T00, Nat.zero_le _, rfl, TabP.new rfl (Nat.le_refl _) (by rw [HS0.out]; omega) _ _ _, fun x y hx => by omega, (Below.refl _ _).alloc (Nat.le_refl _) _⟩
  case round =>
    obtain ⟨wo, rfl⟩ : ∃ wo : World, wo = wr := ⟨_, rfl⟩
    obtain ⟨k, f, T, hk, rfl, htab, hT, hbl⟩ := hrel
    have HT := Lib.hid htab
    have HE := Lib.hid hT
    have HB := Lib.hid hbl
    have hol := htab.ol
    clear htab hT hbl
    by_cases hlt : k < p
    · obtain ⟨⟨v0, d0⟩, f0⟩ := HT.out.hc k hlt
      have HT1 := Lib.hid (HT.out.row hlt rfl 3)
      have HB1 := Lib.hid (show Below w.heap.size w ((wo.alloc (.cells (Array.replicate p (.int .i64 0)) 3)).setCell ⟨w.heap.size, k, none⟩ (.slice (some ⟨wo.heap.size, 0, none⟩) p p)) from (HB.out.alloc HB.out.size _).setCell (Nat.le_refl _) _)
      rw [World.setCell_alloc_past _ _ _ _ hol] at HT1 HB1
      have e1 := HT1.out.hd k (by omega)
      rw [if_pos rfl] at e1
      obtain ⟨w1, HW1⟩ : ∃ q, Hid ((wo.setCell ⟨w.heap.size, k, none⟩ (.slice (some ⟨wo.heap.size, 0, none⟩) p p)).alloc (.cells (Array.replicate p (.int .i64 0)) 3) = q) := ⟨_, rfl⟩
      rw [HW1.out] at HT1 e1 HB1
      obtain ⟨r, HRR⟩ : ∃ r, Hid (wo.heap.size = r) := ⟨_, rfl⟩
      go_wp2_with (fail)
      rw [HW1.out]
      rw [HRR.out] at HT1 e1 ⊢
      go_wp2
      go_loopw [27] (fun i wr => ∃ (j : Nat) (T' : Tab), j ≤ p ∧ i = .int .i64 j ∧ TabP wr w.heap.size w.heap.size p (k + 1) (fun x => if x = k then r else f x) T' ∧ (∀ x y, x < k → y < p → T' x y = T00 x y) ∧ (∀ y, y < j → T' k y = 100000) ∧ Below w.heap.size w wr) (fun i _ => p - (intOf i).toNat)
      case atStart => exact ⟨0, _, Nat.zero_le _, rfl, HT1.out, fun x y hx hy => by rw [if_neg (by omega)]; exact HE.out x y hx hy, fun y hy => by omega, HB1.out⟩
      case round =>
        obtain ⟨wp, rfl⟩ : ∃ wp : World, wp = wr := ⟨_, rfl⟩
        obtain ⟨j, T', hj, rfl, htab, hTo, hTk, hbl⟩ := hrel
        have e2 := htab.hd k (by omega)
        rw [if_pos rfl] at e2
        have HT2 := Lib.hid htab
        have HEO := Lib.hid hTo
        have HEK := Lib.hid hTk
        have HB2 := Lib.hid hbl
        clear htab hTo hTk hbl e1 d0
        by_cases hjl : j < p
        · obtain ⟨c0, g0⟩ := HT2.out.cs k j (by omega) hjl
          rw [if_pos rfl] at c0 g0
          have HT3 := Lib.hid (HT2.out.set (i := k) (by omega) hjl 100000)
          rw [if_pos rfl] at HT3
          go_wp2
          go_roundw
          case rel =>
            refine ⟨j + 1, _, by omega, by go_num, HT3.out, fun x y hx hy => ?_, fun y hy => ?_, HB2.out.setCell (by have := (HT2.out.rb k (by omega)).1; rw [if_pos rfl] at this; simp; omega) _⟩
            · unfold upd; rw [if_neg (by omega)]; exact HEO.out x y hx hy
            · unfold upd
              by_cases e : y = j
              · rw [if_pos ⟨rfl, e⟩]
              · rw [if_neg (by omega)]; exact HEK.out y (by omega)
          case measure => simp [intOf]; omega
        · obtain ⟨c0, g0⟩ := HT2.out.cs k k (by omega) hlt
          rw [if_pos rfl] at c0 g0
          have HT3 := Lib.hid (HT2.out.set (i := k) (by omega) hlt 0)
          rw [if_pos rfl] at HT3
          go_wp2
          go_roundw
          case rel =>
            refine ⟨k + 1, _, _, by omega, by go_num, HT3.out, fun x y hx hy => ?_, HB2.out.setCell (by have := (HT2.out.rb k (by omega)).1; rw [if_pos rfl] at this; simp; omega) _⟩
            unfold upd
            by_cases ex : x = k
            · by_cases ey : y = k
              · rw [if_pos ⟨ex, ey⟩, ex, ey]; unfold T00; rw [if_pos rfl]
              · rw [if_neg (by omega), ex, HEK.out y (by omega)]; unfold T00; rw [if_neg (by omega)]
            · rw [if_neg (by omega)]; exact HEO.out x y (by omega) hy
          case measure => simp [intOf]; omega
    · obtain rfl : k = p := by omega
      have HT1 := Lib.hid (HT.out.congr HE.out)
      clear hmk2 HT HE
      go_wp2
      go_loopw [46] (fun i wr => ∃ (m : Nat), m ≤ n ∧ i = .int .i64 m ∧ TabP wr w.heap.size w.heap.size k k f (T0 (bs.take m)) ∧ Below w.heap.size w wr) (fun i _ => n - (intOf i).toNat)
      case atStart => exact ⟨0, Nat.zero_le _, rfl, HT1.out, HB.out⟩
      case round =>
        obtain ⟨wp, rfl⟩ : ∃ wp : World, wp = wr := ⟨_, rfl⟩
        obtain ⟨m, hm, rfl, htab, hbl⟩ := hrel
        have HT2 := Lib.hid htab
        have HB2 := Lib.hid hbl
        have hol2 := htab.ol
        clear htab hbl
        by_cases hml : m < n
        · obtain ⟨b, off, rfl, hc⟩ := (h.below HB2.out).cells (by omega)
          obtain ⟨c0, c1, c2⟩ := hc m hml
          clear hc
          obtain ⟨x, HX⟩ : ∃ q, Hid (bs.getD m (0, 0, 0) = q) := ⟨_, rfl⟩
          rw [HX.out] at c0 c1 c2
          have hmb : m < bs.length := by rw [HL.out]; exact hml
          have hx : bs[m] = x := by have := HX.out; simpa [List.getD, hmb] using this
          have hw := HW.out x (by rw [← hx]; exact List.getElem_mem _)
          have hT0 : T0 (bs.take (m + 1)) = addB (T0 (bs.take m)) x := by rw [List.take_succ_eq_append_getElem hmb, T0_snoc, hx]
          obtain ⟨x0, x1, x2⟩ := x
          obtain ⟨⟨hF0, hF1⟩, hG0, hG1⟩ := hw
          simp only at c0 c1 c2 hF0 hF1 hG0 hG1
          obtain ⟨F, rfl⟩ := Int.eq_ofNat_of_zero_le hF0
          obtain ⟨G, rfl⟩ := Int.eq_ofNat_of_zero_le hG0
          rw [addB_upd] at hT0
          have HT0 := Lib.hid hT0
          have hFp : F < k := by omega
          have hGp : G < k := by omega
          have d0 := HT2.out.hd F hFp
          obtain ⟨d1, g1⟩ := HT2.out.cs F G hFp hGp
          have hfl := (HT2.out.rb F hFp).2
          have hfo := (HT2.out.rb F hFp).1
          have HT3 := Lib.hid ((HT2.out.alloc (.cells #[.int .i64 (F : Int), .int .i64 (G : Int), .int .i64 x2] 61)).set hFp hGp (min (T0 (bs.take m) F G) x2))
          rw [World.setCell_alloc_past _ _ _ _ hfl] at HT3
          obtain ⟨t0, HTT⟩ : ∃ q, Hid (T0 (bs.take m) F G = q) := ⟨_, rfl⟩
          rw [HTT.out] at d1 HT3 HT0
          clear hT0 hx
          go_wp2_with (fail)
          go_region
          all_goals
            go_wp2
            go_roundw
            case rel =>
              refine ⟨m + 1, by omega, by go_num, ?_, ?_⟩
              · rw [HT0.out]; exact HT3.out.drewN 1
              · exact below_drewN ((HB2.out.setCell (by have := (HT2.out.rb F hFp).1; simp; omega) _).alloc (by have := HB2.out.size; simp [World.setCell]; omega) _) 1
            case measure => simp [intOf]; omega
        · obtain rfl : m = n := by omega
          go_wp2
          go_ret
          have := HT2.out
          rw [List.take_of_length_le (by rw [HL.out]; exact Nat.le_refl _)] at this
          exact ⟨_, f, rfl, this, HB2.out⟩

end Go.Proofs.Ytpefimeogbpagaa
