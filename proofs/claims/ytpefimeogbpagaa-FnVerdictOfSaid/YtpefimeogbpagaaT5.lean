/- The closed table of a plan, and whether it fits: impl.closed, both FitsOk. -/
import Derived.Test.YtpefimeogbpagaaT4
import Derived.Test.YtpefimeogbpagaaT7
namespace Go.Proofs.Ytpefimeogbpagaa
open Go.RowKit

theorem hasPtI {p q : Int} (h : InR p 1 6) : HasPt p q ↔ 0 ≤ q ∧ q < p := by
  obtain ⟨h1, h2⟩ := h
  unfold HasPt InR
  rw [IntWalk.wrap64_in _ (by omega)]
  omega
/-- A plan that fits. -/
def FitsP (p : Int) (bs : List Bd) : Prop := PlOk p bs ∧ Fits p.toNat bs
theorem PlOk.nat {p : Int} {bs : List Bd} (h : PlOk p bs) : ∃ P : Nat, p = (P : Int) ∧ 1 ≤ P ∧ P ≤ 6 := by
  obtain ⟨⟨h1, h2⟩, _⟩ := h
  exact ⟨p.toNat, by omega, by omega, by omega⟩
theorem PlOk.within {P : Nat} {bs : List Bd} (h : PlOk (P : Int) bs) : Within P bs := fun b hb => by
  obtain ⟨h1, h2, -⟩ := h.2.2 b hb
  exact ⟨(hasPtI h.1).1 h1, (hasPtI h.1).1 h2⟩
theorem PlOk.lo {p : Int} {bs : List Bd} (h : PlOk p bs) : Lo 4000 (T0 bs) := T0_lo (by omega) fun b hb => by
  obtain ⟨-, -, h3, h4⟩ := h.2.2 b hb
  omega

/-- What closed leaves. -/
def ClosedP (w : World) (p : Int) (bs : List Bd) (e : Ending) (w' : World) : Prop :=
  Below w.heap.size w w' ∧ ((FitsP p bs ∧ ∃ A c, e = .returned (.tuple #[.slice A p.toNat c, .bool true]) ∧ TabAt w' A p.toNat (cl (T0 bs) p.toNat)) ∨ (¬ FitsP p bs ∧ e = .returned (.tuple #[.slice none 0 0, .bool false])))
theorem kClosedP {Pr : Program} {f : FuncId} {args : Array Value} {w : World} {R : Ending → World → Prop} {p : Int} {bs : List Bd} (h : Calls Pr f args w (ClosedP w p bs))
    (h1 : ∀ A c w', Hid (FitsP p bs) → TabAt w' A p.toNat (cl (T0 bs) p.toNat) → Below w.heap.size w w' → R (.returned (.tuple #[.slice A p.toNat c, .bool true])) w')
    (h0 : ∀ w', Hid (¬ FitsP p bs) → Below w.heap.size w w' → R (.returned (.tuple #[.slice none 0 0, .bool false])) w') : Calls Pr f args w R :=
  h.mono fun e w' ⟨hb, h⟩ => by
    rcases h with ⟨hf, A, c, he, ht⟩ | ⟨hf, he⟩
    · subst he; exact h1 A c w' hf ht hb
    · subst he; exact h0 w' hf hb

set_option maxHeartbeats 1000000 in
theorem closed_any (p : Int) (A : Option Addr) (n c : Nat) (bs : List Bd) (w : World) (h : BndsAt w A n bs) :
    Calls Try.prog 38 #[.agg #[.int .i64 p, .slice A n c]] w (ClosedP w p bs) := by
  have hB0 : Below w.heap.size w (w.alloc (.cells #[.int .i64 p, .slice A n c] 25)) := (Below.refl w.heap.size w).alloc (Nat.le_refl _) _
  have HH0 := Lib.hid (h.below hB0)
  have HL := Lib.hid h.len
  clear h
  go_enter Try.func38, Try.ntmps38
  go_wp2_with (fail)
  refine kB (iPlanOk_any p A n c bs _ HH0.out) ?_ ?_
  · intro w1 hp hb1
    have hB1 : Below w.heap.size w w1 := hB0.trans (hb1.mono hB0.size)
    have e0 : w1.cell? ⟨w.heap.size, 0, none⟩ = some (.int .i64 p) := keep hb1 (by simp [go_sem])
    have e1 : w1.cell? ⟨w.heap.size, 1, none⟩ = some (.slice A n c) := keep hb1 (by simp [go_sem])
    have hh1 := HH0.out.below hb1
    clear hb1
    obtain ⟨P, rfl, hP1, hP6⟩ := hp.out.nat
    have hn := hp.out.2.1
    rw [HL.out] at hn
    go_wp2_with (fail)
    refine kNewTab (start_any P A n c bs _ hh1 hP6 (by omega) hp.out.within) ?_
    intro o f w2 htab hb2
    have hB2 : Below w.heap.size w w2 := hB1.trans (hb2.mono hB1.size)
    clear hb2 e0 e1 hh1
    go_wp2_with (fail)
    refine (close_any _ o P f (T0 bs) w2 htab hP6 (T0_hi bs) hp.out.lo).mono ?_
    rintro e w3 ⟨rfl, htab3, hb3⟩
    have hB3 : Below w.heap.size w w3 := hB2.trans (hb3.mono hB1.size)
    obtain ⟨hfe, hff⟩ := fits_both P (T0 bs)
    have HFE := Lib.hid hfe
    have HFF := Lib.hid hff
    have HT3 := Lib.hid htab3
    clear htab htab3 hb3 hfe hff
    by_cases hf : Nonneg P (clIn P (T0 bs) P)
    · rw [B_true hf]
      have HF := Lib.hid hf
      clear hf
      go_wp2
      go_ret2
      exact ⟨hB3, .inl ⟨⟨hp.out, HFF.out.1 HF.out⟩, _, _, rfl, HT3.out.at_.congr (HFE.out HF.out)⟩⟩
    · rw [B_false hf]
      have HF := Lib.hid hf
      clear hf
      go_wp2
      go_ret2
      exact ⟨hB3, .inr ⟨fun hh => HF.out (HFF.out.2 hh.2), rfl⟩⟩
  · intro w1 hp hb1
    go_wp2
    go_ret2
    exact ⟨hB0.trans (hb1.mono hB0.size), .inr ⟨fun hh => hp.out hh.1, rfl⟩⟩

theorem iFitsOk_any (p : Int) (A : Option Addr) (n c : Nat) (bs : List Bd) (w : World) (h : BndsAt w A n bs) :
    Calls Try.prog 25 #[.agg #[.int .i64 p, .slice A n c]] w (Bl w (.bool (B (FitsP p bs)))) := by
  have hB0 : Below w.heap.size w (w.alloc (.cells #[.int .i64 p, .slice A n c] 25)) := (Below.refl w.heap.size w).alloc (Nat.le_refl _) _
  go_enter Try.func25, Try.ntmps25
  go_wp2_with (fail)
  refine kClosedP (closed_any p A n c bs _ (h.below hB0)) ?_ ?_
  · intro A1 c1 w1 hf _ hb1
    go_wp2
    go_ret
    exact ⟨ret_b (B_true hf.out).symm, hB0.trans (hb1.mono hB0.size)⟩
  · intro w1 hf hb1
    go_wp2
    go_ret
    exact ⟨ret_b (B_false hf.out).symm, hB0.trans (hb1.mono hB0.size)⟩

set_option maxHeartbeats 1000000 in
theorem sFitsOk_any (p : Int) (A : Option Addr) (n c : Nat) (bs : List Bd) (w : World) (h : BndsAt w A n bs) (hn : n ≤ 1048576) :
    Calls Try.prog 34 #[.agg #[.int .i64 p, .slice A n c]] w (Bl w (.bool (B (FitsP p bs)))) := by
  have hB0 : Below w.heap.size w (w.alloc (.cells #[.int .i64 p, .slice A n c] 25)) := (Below.refl w.heap.size w).alloc (Nat.le_refl _) _
  have HH0 := Lib.hid (h.below hB0)
  clear h
  go_enter Try.func34, Try.ntmps34
  go_wp2_with (fail)
  refine kB (sPlanOk_any p A n c bs _ HH0.out hn) ?_ ?_
  · intro w1 hp hb1
    have hB1 : Below w.heap.size w w1 := hB0.trans (hb1.mono hB0.size)
    have e0 : w1.cell? ⟨w.heap.size, 0, none⟩ = some (.int .i64 p) := keep hb1 (by simp [go_sem])
    have e1 : w1.cell? ⟨w.heap.size, 1, none⟩ = some (.slice A n c) := keep hb1 (by simp [go_sem])
    have hh1 := HH0.out.below hb1
    clear hb1
    obtain ⟨P, rfl, hP1, hP6⟩ := hp.out.nat
    go_wp2_with (fail)
    refine kNewT (l2Closed_any P A n c bs _ hh1 hP6 hn hp.out.lo) ?_
    intro A2 c2 w2 htab hb2
    have hB2 : Below w.heap.size w w2 := hB1.trans (hb2.mono hB1.size)
    clear hb2 e0 e1 hh1
    go_wp2_with (fail)
    refine kS (l2Fits_any P A2 c2 _ w2 htab (by omega)) ?_ ?_
    · intro hf
      go_wp2
      go_ret
      exact ⟨ret_b (B_true ⟨hp.out, hf.out⟩).symm, hB2⟩
    · intro hf
      go_wp2
      go_ret
      exact ⟨ret_b (B_false (fun hh => hf.out hh.2)).symm, hB2⟩
  · intro w1 hp hb1
    go_wp2
    go_ret
    exact ⟨ret_b (B_false (fun hh => hp.out hh.1)).symm, hB0.trans (hb1.mono hB0.size)⟩

end Go.Proofs.Ytpefimeogbpagaa
