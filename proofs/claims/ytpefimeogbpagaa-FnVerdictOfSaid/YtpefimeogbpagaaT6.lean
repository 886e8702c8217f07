/- The table of a plan by the reference: l2Table. -/
import Derived.Test.YtpefimeogbpagaaT2
import Derived.Lib.MinMax
import Derived.BigRegion
namespace Go.Proofs.Ytpefimeogbpagaa
open Go.RowKit

/-- A table as rows. -/
def rowL (T : Tab) (i k : Nat) : List Int := (List.range k).map (T i)
theorem rowL_len (T : Tab) (i k : Nat) : (rowL T i k).length = k := by simp [rowL]
theorem rowL_succ (T : Tab) (i k : Nat) : rowL T i (k + 1) = rowL T i k ++ [T i k] := by simp [rowL, List.range_succ]
theorem rowL_get (T : Tab) (i : Nat) {k j : Nat} (h : j < k) : (rowL T i k).getD j 0 = T i j := by simp [rowL, List.getD, h]
def Good (ps : List PartZ) (p : Nat) (T : Tab) : Prop := ∀ i q, ps[i]? = some q → q.2 = rowL T i p
section
variable {w w' : World} {B n c g : Nat} {A : Option Addr} {ps : List PartZ} {row : Option Nat}
theorem RowsZ.keptAp (h : RowsZ w B A n c ps) (hg : w.grownBy w' row) (ho : ∀ k, (Value.slice A n c).ownBlock = some k → row ≠ some k) (hr : ∀ q ∈ ps, ∀ k, (hdZ q).ownBlock = some k → row ≠ some k) : RowsZ w' B A n c ps :=
  ⟨own_keptZ h.own hg ho, fun q hq => (h.inn q hq).kept hg (fun k hk => hr q hq k hk) (fun k hk _ => (h.inn q hq).2 k hk)⟩
theorem RowsZ.inner_lt (h : RowsZ w B A n c ps) : ∀ q ∈ ps, ∀ k, (hdZ q).ownBlock = some k → k < w.heap.size := fun q hq k hk => ((h.inn q hq).1.lt k hk).2
theorem RowsZ.tab {p : Nat} {T : Tab} (h : RowsZ w B (some ⟨g, 0, none⟩) p c ps) (hG : Good ps p T) : TabAt w (some ⟨g, 0, none⟩) p T :=
  ⟨fun hp => by
    refine ⟨g, 0, rfl, fun i hi => ?_⟩
    obtain ⟨g', q, e, hg, hgl, hq, hc, -, hin⟩ := h.get hi
    cases e
    have hrow := hG i q hq
    have hl : q.2.length = p := by rw [hrow, rowL_len]
    obtain ⟨b, off, e2, hcell⟩ := hin.1.at_.cells (by omega)
    refine ⟨b, off, q.1.2, ?_, fun j hj => ?_⟩
    · rw [Nat.zero_add, hc, hdZ, e2, hl]
    · rw [hcell j (by omega), hrow, rowL_get T i hj]⟩
end
theorem Good.nil (p : Nat) (T : Tab) : Good [] p T := fun i q h => by simp at h
theorem Good.snoc {ps : List PartZ} {p : Nat} {T : Tab} (h : Good ps p T) {q : PartZ} {i : Nat} (hi : ps.length = i) (hq : q.2 = rowL T i p) : Good (ps ++ [q]) p T := fun j r hr => by
  rcases Nat.lt_or_ge j ps.length with h1 | h1
  · rw [List.getElem?_append_left h1] at hr; exact h j r hr
  · rw [List.getElem?_append_right h1] at hr
    have hj : j = ps.length := by
      rcases Nat.lt_or_ge (j - ps.length) 1 with h2 | h2
      · omega
      · rw [List.getElem?_eq_none (by simpa using h2)] at hr; cases hr
    subst hj
    simp at hr
    rw [← hr, hq, hi]
theorem vSZ_one' (q : PartZ) : vSZ [q] = [hdZ q] := rfl

/-- What makes a table in new memory. -/
def NewT (w : World) (p : Nat) (T : Tab) (e : Ending) (w' : World) : Prop := ∃ A c, e = .returned (.slice A p c) ∧ TabAt w' A p T ∧ Below w.heap.size w w'
theorem kNewT {Pr : Program} {f : FuncId} {args : Array Value} {w : World} {R : Ending → World → Prop} {p : Nat} {T : Tab} (h : Calls Pr f args w (NewT w p T))
    (h1 : ∀ A c w', TabAt w' A p T → Below w.heap.size w w' → R (.returned (.slice A p c)) w') : Calls Pr f args w R :=
  h.mono fun e w' ⟨A, c, he, hi, hb⟩ => by subst he; exact h1 A c w' hi hb

set_option maxRecDepth 100000 in
set_option maxHeartbeats 4000000 in
theorem l2Table_any (p : Nat) (A : Option Addr) (n c : Nat) (bs : List Bd) (w : World) (h : BndsAt w A n bs) (hp : p ≤ 1048576) (hn : n ≤ 1048576) :
    Calls Try.prog 53 #[.agg #[.int .i64 (p : Int), .slice A n c]] w (NewT w p (T0 bs)) := by
  have HL := Lib.hid h.len
  obtain ⟨w0, HW0⟩ : ∃ q, Hid (w.alloc (.cells #[.int .i64 (p : Int), .slice A n c] 25) = q) := ⟨_, rfl⟩
  have hA0 : Below w.heap.size w w0 := HW0.out ▸ (Below.refl w.heap.size w).alloc (Nat.le_refl _) _
  have s0 : w0.cell? ⟨w.heap.size, 0, none⟩ = some (.int .i64 (p : Int)) := HW0.out ▸ by simp [go_sem]
  have s1 : w0.cell? ⟨w.heap.size, 1, none⟩ = some (.slice A n c) := HW0.out ▸ by simp [go_sem]
  have HB0 := Lib.hid hA0
  have HH0 := Lib.hid (h.below hA0)
  have HZ := Lib.hid (show w0.heap.size = w.heap.size + 1 from HW0.out ▸ by simp)
  have HS0 := Lib.hid s0
  have HS1 := Lib.hid s1
  clear hA0 h
  go_enter Try.func53, Try.ntmps53
  go_wp2_with (fail)
  rw [HW0.out]
  obtain ⟨sb, HSB⟩ : ∃ q, Hid (w.heap.size = q) := ⟨_, rfl⟩
  rw [HSB.out] at s0 s1 HS0 HS1 HB0 HZ ⊢
  go_wp2
  obtain ⟨B, HB1⟩ : ∃ q, Hid (sb + 1 = q) := ⟨_, rfl⟩
  rw [HB1.out] at HZ ⊢
  have HBB := HZ
  have hsbB : sb < B := by have := HB1.out; omega
  go_loopw [3, 4] (fun o i wr => ∃ (k g c1 : Nat) (ps : List PartZ), k ≤ p ∧ i = .int .i64 k ∧ o = .slice (some ⟨g, 0, none⟩) k c1 ∧ RowsZ wr B (some ⟨g, 0, none⟩) k c1 ps ∧ Good ps p (T0 bs) ∧ Below B w0 wr) (fun _ i _ => p - (intOf i).toNat)
  case atStart => exact ⟨0, B, 0, [], Nat.zero_le _, rfl, rfl, by have := RowsZ.empty w0 w0.heap.size (Nat.le_refl _); rwa [HBB.out] at this, Good.nil _ _, by have := (Below.refl w0.heap.size w0).alloc (Nat.le_refl _) (.cells #[] 29); rwa [HBB.out] at this⟩
  case round =>
    obtain ⟨wo, rfl⟩ : ∃ wo : World, wo = wr := ⟨_, rfl⟩
    obtain ⟨i, g, c1, ps, hi, rfl, rfl, hrows, hgood, hb⟩ := hrel
    have HR := Lib.hid hrows
    have HG := Lib.hid hgood
    have HB := Lib.hid hb
    have hgl := (hrows.own.lt g rfl).2
    have HPL := Lib.hid hrows.len
    have s0' : wo.cell? ⟨sb, 0, none⟩ = some (.int .i64 (p : Int)) := (hb.cell (p := ⟨sb, 0, none⟩) (by simp; omega)).trans HS0.out
    have hbB : B ≤ wo.heap.size := by have := hb.size; have := HBB.out; omega
    clear hrows hgood hb s0 s1
    by_cases hip : i < p
    · go_wp2
      go_loopw [5, 6] (fun r j wr => ∃ (k g2 c2 : Nat), k ≤ p ∧ j = .int .i64 k ∧ r = .slice (some ⟨g2, 0, none⟩) k c2 ∧ OwnZ wr B (some ⟨g2, 0, none⟩) k c2 (rowL (T0 bs) i k) ∧ g2 ≠ g ∧ (∀ q ∈ ps, (hdZ q).ownBlock ≠ some g2) ∧ RowsZ wr B (some ⟨g, 0, none⟩) i c1 ps ∧ Below B w0 wr) (fun _ j _ => p - (intOf j).toNat)
      case atStart => exact ⟨0, wo.heap.size, 0, Nat.zero_le _, rfl, rfl, own_litZ rfl B _ 1 #[] 0 hbB (by decide) rfl, by omega, fun q hq e => by have := HR.out.inner_lt q hq _ e; omega, HR.out.alloc _, HB.out.alloc hbB _⟩
      case round =>
        obtain ⟨wp, rfl⟩ : ∃ wp : World, wp = wr := ⟨_, rfl⟩
        obtain ⟨j, g2, c2, hj, rfl, rfl, hown, hne, hnp, hrows, hb⟩ := hrel
        have HO := Lib.hid hown
        have HR2 := Lib.hid hrows
        have HB2 := Lib.hid hb
        have HNP := Lib.hid hnp
        have hg2l := (hown.lt g2 rfl).2
        have hg2B := (hown.lt g2 rfl).1
        have hgl2 := (hrows.own.lt g rfl).2
        have s0' : wp.cell? ⟨sb, 0, none⟩ = some (.int .i64 (p : Int)) := (hb.cell (p := ⟨sb, 0, none⟩) (by simp; omega)).trans HS0.out
        have s1' : wp.cell? ⟨sb, 1, none⟩ = some (.slice A n c) := (hb.cell (p := ⟨sb, 1, none⟩) (by simp; omega)).trans HS1.out
        have HH := Lib.hid (HH0.out.below (HBB.out.symm ▸ hb))
        have hbB2 : B ≤ wp.heap.size := by omega
        clear hown hrows hb hnp
        by_cases hjp : j < p
        · have hT00 : T0 (bs.take 0) i j = if i = j then 0 else 100000 := rfl
          by_cases hij : i = j
          all_goals
            first
              | rw [if_pos hij] at hT00
              | rw [if_neg hij] at hT00
            have HT00 := Lib.hid hT00
            clear hT00
            have hijI : ((i : Int) == (j : Int)) = decide (i = j) := by
              by_cases e : i = j
              · subst e; simp
              · simp [e]; omega
            first
              | rw [decide_eq_true hij] at hijI
              | rw [decide_eq_false hij] at hijI
            clear hij
            go_wp2
            go_loopw [7, 8] (fun v k wr => ∃ (m : Nat), m ≤ n ∧ k = .int .i64 m ∧ v = .int .i64 (T0 (bs.take m) i j) ∧ wr = wp) (fun _ k _ => n - (intOf k).toNat)
            case atStart => exact ⟨0, Nat.zero_le _, rfl, by rw [HT00.out], rfl⟩
            case round =>
              obtain ⟨m, hm, rfl, rfl, rfl⟩ := hrel
              by_cases hml : m < n
              · obtain ⟨b, off, rfl, hc⟩ := HH.out.cells (by omega)
                obtain ⟨c0, c1', c2'⟩ := hc m hml
                clear hc
                obtain ⟨x, HX⟩ : ∃ q, Hid (bs.getD m (0, 0, 0) = q) := ⟨_, rfl⟩
                rw [HX.out] at c0 c1' c2'
                have hmb : m < bs.length := by rw [HL.out]; exact hml
                have hx : bs[m] = x := by have := HX.out; simpa [List.getD, hmb] using this
                have hT0 : T0 (bs.take (m + 1)) i j = addB (T0 (bs.take m)) x i j := by rw [List.take_succ_eq_append_getElem hmb, T0_snoc, hx]
                obtain ⟨x0, x1, x2⟩ := x
                simp only at c0 c1' c2'
                obtain ⟨t0, HTT⟩ : ∃ q, Hid (T0 (bs.take m) i j = q) := ⟨_, rfl⟩
                have hadd : T0 (bs.take (m + 1)) i j = if x0 = (i : Int) ∧ x1 = (j : Int) then min t0 x2 else t0 := by rw [hT0]; unfold addB; rw [HTT.out]
                have HAD := Lib.hid hadd
                clear hT0 hadd hx
                rw [HTT.out]
                by_cases h0 : x0 = (i : Int)
                · by_cases h1 : x1 = (j : Int)
                  · have HE := Lib.hid (show T0 (bs.take (m + 1)) i j = min t0 x2 by rw [HAD.out, if_pos ⟨h0, h1⟩])
                    subst h0
                    subst h1
                    go_wp2
                    go_roundw
                    case rel => exact ⟨m + 1, by omega, by go_num, by rw [HE.out], by first | rfl | trivial⟩
                    case measure => simp [intOf]; omega
                  · have HE := Lib.hid (show T0 (bs.take (m + 1)) i j = t0 by rw [HAD.out, if_neg (fun e => h1 e.2)])
                    subst h0
                    have h1' : (x1 == (j : Int)) = false := by simpa using h1
                    go_wp2
                    go_roundw
                    case rel => exact ⟨m + 1, by omega, by go_num, by rw [HE.out], by first | rfl | trivial⟩
                    case measure => simp [intOf]; omega
                · have HE := Lib.hid (show T0 (bs.take (m + 1)) i j = t0 by rw [HAD.out, if_neg (fun e => h0 e.1)])
                  have h0' : (x0 == (i : Int)) = false := by simpa using h0
                  go_wp2
                  go_roundw
                  case rel => exact ⟨m + 1, by omega, by go_num, by rw [HE.out], by first | rfl | trivial⟩
                  case measure => simp [intOf]; omega
              · obtain rfl : m = n := by omega
                have HTE := Lib.hid (show T0 (bs.take m) i j = T0 bs i j by rw [List.take_of_length_le (by rw [HL.out]; exact Nat.le_refl _)])
                rw [HTE.out]
                obtain ⟨t0, HTT⟩ : ∃ q, Hid (T0 bs i j = q) := ⟨_, rfl⟩
                have HRS := Lib.hid (rowL_succ (T0 bs) i j)
                rw [HTT.out] at HRS ⊢
                go_wp2_with (first
                  | (at_builtin; refine wpl_app rowZ rfl _ _ (by rfl) B _ j (vI (rowL (T0 bs) i j)) (by rfl) (HO.out.alloc _) ⟨wr.heap.size, 0, none⟩ 1 1 (vI [t0]) (by rfl) rfl (cell_one_at (by simp) _ _) (vI_one _) (by decide) (by omega) (by simp; omega) ?_
                     intro g' cap' wB hownB hgrow hat hltB))
                have hgr := Lib.hid (show wr.grownBy wB (some g2) from grown_trZ (World.grownBy_alloc _ _ _) hgrow)
                have HOB := Lib.hid hownB
                have HAT := Lib.hid hat
                clear hownB hgrow hat
                go_wp2
                go_roundw
                case rel =>
                  have hat' : g2 = g' ∨ g' = wr.heap.size + 1 := by
                    rcases HAT.out with e | e
                    · left; simp only [Value.ownBlock] at e; cases e; rfl
                    · right; simpa using e
                  refine ⟨j + 1, g', cap', by omega, by go_num, rfl, by show World.ownsRow _ _ _ _ _ _ (vI _); rw [HRS.out, vI_appZ]; exact HOB.out, ?_, fun q hq e => ?_, ?_, ?_⟩
                  · rcases hat' with rfl | rfl
                    · exact hne
                    · omega
                  · have hlt := HR2.out.inner_lt q hq _ e
                    rcases hat' with rfl | rfl
                    · exact HNP.out q hq e
                    · omega
                  · exact HR2.out.keptAp hgr.out (fun k hk e => by simp only [Value.ownBlock] at hk; cases hk; cases e; exact hne rfl) (fun q hq k hk e => by cases e; exact HNP.out q hq hk)
                  · exact HB2.out.grown hgr.out hbB2 (fun k hk => by cases hk; exact hg2B)
                case measure => simp [intOf]; omega
        · obtain rfl : j = p := by omega
          have HRL := Lib.hid (rowL_len (T0 bs) i j)
          go_wp2_with (first
            | (at_builtin; refine wpl_app rowRZ rfl _ _ (by rfl) B _ i (vSZ ps) (by rfl) (HR2.out.own.alloc _) ⟨wp.heap.size, 0, none⟩ 1 1 [.slice (some ⟨g2, 0, none⟩) j c2] (by rfl) rfl (cell_one_at (by simp) _ _) (by intro u hu; simp at hu; subst hu; rfl) (by decide) (by omega) (by simp; omega) ?_
               intro g' cap' wB hownB hgrow hat hltB))
          have HA := Lib.hid ((HR2.out.alloc (.cells #[.slice (some ⟨g2, 0, none⟩) j c2] 29)).app (qs := [((some ⟨g2, 0, none⟩, c2), rowL (T0 bs) i j)]) (m := 1) (g := g') (cap := cap') (wB := wB) (fun q hq => by
            obtain rfl := List.mem_singleton.1 hq
            refine ⟨?_, fun k hk e => ?_⟩
            · show World.ownsRow _ _ _ _ (.slice _ _ _) _ _
              rw [HRL.out]; exact HO.out.alloc _
            · have hk' : k = g2 := by simpa [hdZ, Value.ownBlock] using hk.symm
              have e' : g = k := by simpa [Value.ownBlock] using e
              omega) (by rw [vSZ_one', hdZ, HRL.out]; exact hownB) hgrow (by
            rcases hat with e | e
            · exact .inl e
            · exact .inr (by rw [e]; exact Nat.le_refl _)))
          have HBN := Lib.hid ((HB2.out.alloc hbB2 _).grown hgrow (by simp; omega) (fun k hk => (HR2.out.own.lt k hk).1))
          clear hownB hgrow hat
          go_wp2
          go_roundw
          case rel => exact ⟨i + 1, g', cap', _, by omega, by go_num, rfl, HA.out, HG.out.snoc HPL.out rfl, HBN.out⟩
          case measure => simp [intOf]; omega
    · obtain rfl : i = p := by omega
      go_wp2
      go_ret
      exact ⟨_, _, rfl, HR.out.tab HG.out, by have := HSB.out; rw [this]; exact HB0.out.trans (HB.out.mono (by omega))⟩

end Go.Proofs.Ytpefimeogbpagaa
