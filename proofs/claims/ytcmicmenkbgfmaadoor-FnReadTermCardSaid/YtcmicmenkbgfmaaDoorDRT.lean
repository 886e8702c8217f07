/- The draw of a text that is often a term's: DrawReadTerm. -/
import Derived.Test.YtcmicmenkbgfmaaDoorDR5T
import Derived.Test.YtcmicmenkbgfmaaDoorDC
import Derived.Test.YtcmicmenkbgfmaaDoorRT5
import Derived.Test.YtcmicmenkbgfmaaDoorRU1
import Derived.Laws.Strings3
import Derived.Deep.RegionLaw
import Derived.Deep.DrawnRows
set_option linter.unusedSimpArgs false
namespace Go.Proofs.YtcmicmenkbgfmaaDoor
open Go.RowKit
attribute [local go_sem ↓] Go.wp_at_zero Go.wp_at_succ

theorem rdDrT {R : Nat} {B : Int} {w w1 : World} (h : Mv R B w w1) : Rd w1.drew R B := h.2.drewN 1
theorem rdDrA {R : Nat} {B : Int} {w w1 : World} (h : Mv R B w w1) (o : Obj) : Rd (w1.alloc o).drew R B := (h.2.alloc o).drewN 1
theorem rdOfT {R : Nat} {B : Int} {w w1 : World} (h : Mv R B w w1) : Rd w1 R B := h.2
theorem rdAlT {R : Nat} {B : Int} {w w1 : World} (h : Mv R B w w1) (o : Obj) : Rd (w1.alloc o) R B := h.2.alloc o
theorem slice_from (Pr : Program) (t : TypeId) (s : ByteArray) (i : Nat) (k : Int) (X : ByteArray) (ht : Pr.underlying t = some .string) (hk : k = (i : Int)) (hi : i ≤ s.size) (hX : s.extract i s.size = X) (W : World) :
    (Instr.slice t (.string s) (some (.int .i64 k)) none none).run Pr W = .ok (.string X) W := by
  subst hk
  rw [run_slice_string_from_if (P := Pr) W t s .i64 (i : Int) ht, if_pos ⟨by omega, by omega⟩, Int.toNat_natCast, hX]
/-- A draw of a text. -/
def DrawnS (w : World) (e : Ending) (w' : World) : Prop := ∃ S : ByteArray, e = .returned (.string S) ∧ S.size ≤ 200 ∧ Below w.heap.size w w'
theorem kDrawnS {Pr : Program} {f : FuncId} {args : Array Value} {w : World} {K : Ending → World → Prop} (h : Calls Pr f args w (DrawnS w))
    (h1 : ∀ (S : ByteArray) w', S.size ≤ 200 → Below w.heap.size w w' → K (.returned (.string S)) w') : Calls Pr f args w K :=
  h.mono fun e w' ⟨S, he, h2, h3⟩ => by subst he; exact h1 S w' h2 h3
theorem lits {y : Nat} (h : y < 8) : ∃ Y : ByteArray, Y.size ≤ 2 ∧ ([Value.string ⟨#[]⟩, .string ⟨#[40]⟩, .string ⟨#[41]⟩, .string ⟨#[59]⟩, .string ⟨#[38]⟩, .string ⟨#[60, 51]⟩, .string ⟨#[52]⟩, .string ⟨#[45]⟩] : List Value)[y]? = some (.string Y) := by
  match y, h with
  | 0, _ => exact ⟨_, by decide, rfl⟩
  | 1, _ => exact ⟨_, by decide, rfl⟩
  | 2, _ => exact ⟨_, by decide, rfl⟩
  | 3, _ => exact ⟨_, by decide, rfl⟩
  | 4, _ => exact ⟨_, by decide, rfl⟩
  | 5, _ => exact ⟨_, by decide, rfl⟩
  | 6, _ => exact ⟨_, by decide, rfl⟩
  | 7, _ => exact ⟨_, by decide, rfl⟩
theorem ext_listT (s : ByteArray) (i j : Nat) : (s.extract i j).data.toList = (s.data.toList.drop i).take (j - i) := by simp [ByteArray.data_extract]
theorem ext_le (s : ByteArray) (i j : Nat) : (s.extract i j).size ≤ s.size := by
  rw [← sz_list, ext_listT, List.length_take, List.length_drop, sz_list]; omega

theorem lit_cell {W : World} {T : TypeId} {y : Nat} {Y : ByteArray} (h : ([Value.string ⟨#[]⟩, .string ⟨#[40]⟩, .string ⟨#[41]⟩, .string ⟨#[59]⟩, .string ⟨#[38]⟩, .string ⟨#[60, 51]⟩, .string ⟨#[52]⟩, .string ⟨#[45]⟩] : List Value)[y]? = some (.string Y)) : (W.alloc (.cells #[.string ⟨#[]⟩, .string ⟨#[40]⟩, .string ⟨#[41]⟩, .string ⟨#[59]⟩, .string ⟨#[38]⟩, .string ⟨#[60, 51]⟩, .string ⟨#[52]⟩, .string ⟨#[45]⟩] T)).cell? ⟨W.heap.size, y, none⟩ = some (.string Y) := by
  rw [World.cell?_alloc_new]
  rw [← h]
  simp
theorem litKeep {R : Nat} {B : Int} {W w' : World} {T : TypeId} {y : Nat} {Y : ByteArray} (hm : Mv R B (W.alloc (.cells #[.string ⟨#[]⟩, .string ⟨#[40]⟩, .string ⟨#[41]⟩, .string ⟨#[59]⟩, .string ⟨#[38]⟩, .string ⟨#[60, 51]⟩, .string ⟨#[52]⟩, .string ⟨#[45]⟩] T)) w') (hne : W.heap.size ≠ R) (h : ([Value.string ⟨#[]⟩, .string ⟨#[40]⟩, .string ⟨#[41]⟩, .string ⟨#[59]⟩, .string ⟨#[38]⟩, .string ⟨#[60, 51]⟩, .string ⟨#[52]⟩, .string ⟨#[45]⟩] : List Value)[y]? = some (.string Y)) : w'.cell? ⟨W.heap.size, y, none⟩ = some (.string Y) := Mv.keepC hm hne (lit_cell h)
theorem litKeepD {R : Nat} {B : Int} {W w' : World} {T : TypeId} {y : Nat} {Y : ByteArray} (hm : Mv R B (W.alloc (.cells #[.string ⟨#[]⟩, .string ⟨#[40]⟩, .string ⟨#[41]⟩, .string ⟨#[59]⟩, .string ⟨#[38]⟩, .string ⟨#[60, 51]⟩, .string ⟨#[52]⟩, .string ⟨#[45]⟩] T)).drew w') (hne : W.heap.size ≠ R) (h : ([Value.string ⟨#[]⟩, .string ⟨#[40]⟩, .string ⟨#[41]⟩, .string ⟨#[59]⟩, .string ⟨#[38]⟩, .string ⟨#[60, 51]⟩, .string ⟨#[52]⟩, .string ⟨#[45]⟩] : List Value)[y]? = some (.string Y)) : w'.cell? ⟨W.heap.size, y, none⟩ = some (.string Y) := Mv.keepC hm hne (lit_cell (T := T) h)

set_option maxRecDepth 100000 in
set_option maxHeartbeats 8000000 in
theorem drawReadTerm_any (A : Option Addr) (n c : Nat) (w : World) (h : BytsAt w w.heap.size A n) (hn : n ≤ 9223372036854775807) (hc : n ≤ c) :
    Calls Tryd.prog 18 #[.slice A n c] w (DrawnS w) := by
  go_enter Tryd.func18, Tryd.ntmps18
  go_wp2_with (fail)
  refine kOpen (open_any A n c w h hn hc) ?_
  intro R w1 hR hr1 hb1
  have HB1 := Lib.hid hb1
  have hRl := hr1.lt
  have HR1 := Lib.hid hr1
  clear hb1 hr1
  go_wp2_with (fail)
  refine (l20Term0_any R 0 _ HR1.out (by omega)).mono ?_
  rintro e w2 ⟨g, c2, xs, rfl, ho, htk, hm⟩
  have HM2 := Lib.hid hm
  have HO2 := Lib.hid (OwnM.at_ ho)
  have HC2 := Lib.hid (OwnM.cap ho)
  have HTK := Lib.hid htk
  have hxl := htk.len
  have HTV := Lib.hid (textV_len xs)
  have HTN := Lib.hid (show textV xs ≠ [] by
    obtain ⟨t, ht⟩ := HTK.out
    rw [textV_of ht]
    exact textT_ne ht.1)
  obtain ⟨m, HLN⟩ : ∃ q, Hid (xs.length = q) := ⟨_, rfl⟩
  rw [HLN.out] at HO2 HC2 hxl ⊢
  clear ho htk hm
  go_wp2_with (fail)
  refine kStr (n := 75) (sTermText_any (some ⟨g, 0, none⟩) m c2 xs _ HO2.out HC2.out (by omega)) HTV.out ?_
  intro S w3 hS hz hb3
  have HM3 := Lib.hid (HM2.out.below hb3)
  have hz0 : 0 < S.size := by
    rcases Nat.eq_zero_or_pos S.size with h0 | h0
    · exact absurd (by rw [← hS.out]; exact List.eq_nil_of_length_eq_zero (by rw [sz_list]; exact h0)) HTN.out
    · exact h0
  clear hb3
  go_wp2_with (fail)
  refine kPick (pick_any R _ 3 _ HM3.out.2 (by omega)) ?_
  intro x w4 hq1 hq2 hm4 hs4
  have HM4 := Lib.hid (HM3.out.trans hm4)
  clear hq1 hq2 hm4 hs4
  by_cases hx : x = 0
  rotate_left
  · have hxb : (x == 0) = false := by simpa using hx
    clear hx
    go_wp2
    go_ret
    exact ⟨S, rfl, by omega, HM4.out.below_of HB1.out hR⟩
  · have hxb : (x == 0) = true := by simpa using hx
    clear hx
    go_wp2_with (fail)
    refine kPick (pick_any R _ (S.size : Int) _ HM4.out.2 (by omega)) ?_
    intro k w5 hq1 hq2 hm5 hs5
    obtain ⟨hk0, hk1⟩ := hq1 (by omega)
    have HM5 := Lib.hid (HM4.out.trans hm5)
    clear hq1 hq2 hm5 hs5
    obtain ⟨kn, rfl⟩ := Int.eq_ofNat_of_zero_le hk0
    have hkn : kn < S.size := by omega
    have HR5 := Lib.hid (show Mv R _ w5 w5 from ⟨grown_rf _ _, HM5.out.2⟩)
    have hR5 : R < w5.heap.size := by have := HM5.out.1.size; omega
    obtain ⟨X1, HX1⟩ : ∃ q, Hid (S.extract 0 kn = q) := ⟨_, rfl⟩
    have hx1 : X1.size ≤ 75 := by rw [← HX1.out]; exact Nat.le_trans (ext_le _ _ _) hz
    have hkI : (kn : Int) ≤ (S.size : Int) := by omega
    have hsl1 : ∀ W : World, (Instr.slice 9 (.string S) none (some (.int .i64 (kn : Int))) none).run Tryd.prog W = .ok (.string X1) W := fun W => by
      have h2 := run_slice_string_to_if (P := Tryd.prog) W 9 S .i64 (kn : Int) Tryd.underlying9
      rw [if_pos ⟨hk0, hkI⟩, Int.toNat_natCast, HX1.out] at h2
      exact h2
    go_wp2_with (fail)
    go_region_law (first
      | (go_simp; go_at_call 31; first
           | (with_reducible refine kPick (pick_any R _ 8 _ (rdDrT HM5.out) (by omega)) ?_)
           | (with_reducible refine kPick (pick_any R _ 8 _ (rdDrA HM5.out _) (by omega)) ?_)
         intro y w6 hq1 hq2 hm6 hs6
         obtain ⟨hy0, hy1⟩ := hq1 (by omega)
         obtain ⟨yn, rfl⟩ := Int.eq_ofNat_of_zero_le hy0
         obtain ⟨Y, hY, hYA⟩ := lits (y := yn) (by omega)
         have HM6 := Lib.hid (show Mv R _ w5 w6 from by first | exact (HR5.out.drewN 1).trans hm6 | exact ((HR5.out.alloc _).drewN 1).trans hm6)
         first | (have hcl := litKeepD hm6 (by omega) hYA) | skip
         have hadd1 : ¬ 9223372036854775807 < X1.size + Y.size := by omega
         have hr6 : R < w6.heap.size := by have := HM6.out.1.size; omega
         clear hq1 hq2 hs6)
      | (go_simp; go_at_call 31; first
           | (with_reducible refine kPick (pick_any R _ 2 _ (rdOfT HM6.out) (by omega)) ?_)
           | (with_reducible refine kPick (pick_any R _ 2 _ (rdAlT HM6.out _) (by omega)) ?_)
         intro z w7 hq1 hq2 hm7 hs7
         obtain ⟨hz1, hz2⟩ := hq1 (by omega)
         have HM7 := Lib.hid (show Mv R _ w5 w7 from by first | exact HM6.out.trans hm7 | exact (HM6.out.alloc _).trans hm7)
         first | (have hcl := Mv.keepC hm7 (by omega) hcl) | (have hcl := litKeep hm7 (by omega) hYA) | skip
         obtain ⟨zn, rfl⟩ := Int.eq_ofNat_of_zero_le hz1
         have hw2 : IntKind.i64.wrap ((kn : Int) + (zn : Int)) = (kn : Int) + (zn : Int) := IntWalk.i64_in _ (by omega)
         obtain ⟨X2, HX2⟩ : ∃ q, Hid (S.extract (kn + zn) S.size = q) := ⟨_, rfl⟩
         have hx2 : X2.size ≤ 75 := by rw [← HX2.out]; exact Nat.le_trans (ext_le _ _ _) hz
         have hsl2 := slice_from (Tryd.prog) 9 S (kn + zn) ((kn : Int) + (zn : Int)) X2 Tryd.underlying9 (by omega) (by omega) HX2.out
         have hadd2 : ¬ 9223372036854775807 < X1.size + Y.size + X2.size := by omega
         clear hq1 hq2 hs7))
    all_goals
      go_wp2
      go_ret
      refine ⟨_, rfl, by rw [ByteArray.size_append, ByteArray.size_append]; omega, ?_⟩
      first
        | exact (HM5.out.trans HM7.out).below_of HB1.out hR
        | exact ((HM5.out.trans HM7.out).alloc _).below_of HB1.out hR

end Go.Proofs.YtcmicmenkbgfmaaDoor
