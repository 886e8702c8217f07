/- What the laws over a plan and happenings share. -/
import Derived.Test.YtpefimeogbpagaaW13
import Derived.Test.YtpefimeogbpagaaAL
import Derived.Test.YtpefimeogbpagaaS5
import Derived.Test.YtpefimeogbpagaaW1
set_option linter.unusedSimpArgs false
namespace Go.Proofs.Ytpefimeogbpagaa
open Go.RowKit

/-- The plan's box P and a row of happenings; all of w0 is as it was. -/
structure LP (w0 w : World) (P : Nat) (pts : Int) (A : Option Addr) (n c : Nat) (xs : List Bd) (D : Option Addr) (m : Nat) (hs : List Hp) : Prop where
  below : Below w0.heap.size w0 w
  s : w.cell? ⟨P, 0, none⟩ = some (.int .i64 pts) ∧ w.cell? ⟨P, 1, none⟩ = some (.slice A n c)
  row : BndsAt w A n xs
  hap : HapsAt w D m hs
section
variable {w0 w w' : World} {P n c m : Nat} {pts : Int} {A D : Option Addr} {xs : List Bd} {hs : List Hp}
theorem LP.next (h : LP w0 w P pts A n c xs D m hs) (hb : Below w.heap.size w w') : LP w0 w' P pts A n c xs D m hs :=
  ⟨h.below.trans (hb.mono h.below.size), ⟨keep hb h.s.1, keep hb h.s.2⟩, h.row.below hb, h.hap.below hb⟩
theorem LP.lt (h : LP w0 w P pts A n c xs D m hs) : P < w.heap.size := cell_lt h.s.1
theorem LP.made {w1 : World} (hb1 : Below w0.heap.size w0 w1) (hrow : BndsAt w1 A n xs) (hhap : HapsAt w1 D m hs) (pts : Int) (c : Nat) (t : TypeId) : LP w0 (w1.alloc (.cells #[.int .i64 pts, .slice A n c] t)) w1.heap.size pts A n c xs D m hs := by
  have hb : Below w1.heap.size w1 (w1.alloc (.cells #[.int .i64 pts, .slice A n c] t)) := (Below.refl _ _).alloc (Nat.le_refl _) _
  exact ⟨hb1.trans (hb.mono hb1.size), ⟨by simp [go_sem], by simp [go_sem]⟩, hrow.below hb, hhap.below hb⟩
theorem HapsAt.none (w : World) (a : Option Addr) : HapsAt w a 0 [] := ⟨rfl, fun h => absurd h (by decide)⟩
theorem HapsAt.newsH (h : HapsAt w A n hs) {a : Addr} (e : A = some a) : ∀ j u, (v2 hs)[j]? = some u → w.cell? (a.add j) = some u := by
  subst e
  intro j u hu
  have hl := h.len
  have hj : j < hs.length * 2 := by
    rcases Nat.lt_or_ge j (hs.length * 2) with h1 | h1
    · exact h1
    · rw [List.getElem?_eq_none (by rw [v2_len]; exact h1)] at hu; cases hu
  obtain ⟨b, off, e, hc⟩ := h.cells (by omega)
  cases e
  obtain ⟨k, hk⟩ : ∃ k, j = k * 2 ∨ j = k * 2 + 1 := ⟨j / 2, by omega⟩
  have hkx : k < hs.length := by omega
  obtain ⟨g0, g1⟩ := v2_get hs k hkx
  obtain ⟨c0, c1⟩ := hc k (by omega)
  rw [add_at]
  rcases hk with rfl | rfl
  · rw [g0] at hu; cases hu; exact c0
  · rw [g1] at hu; cases hu; rw [← Nat.add_assoc]; exact c1
end
section
variable {Pr : Program} {f : FuncId} {args : Array Value} {w : World} {K : Ending → World → Prop}
theorem kDLater (h : Calls Pr f args w (DLater w))
    (h1 : ∀ pts A n c xs D m d hs now w', (n ≤ c ∧ n ≤ 16) → (m ≤ d ∧ m ≤ 6) → BndsAt w' A n xs → HapsAt w' D m hs → Below w.heap.size w w' → K (.returned (.tuple #[.agg #[.int .i64 pts, .slice A n c], .slice D m d, .int .i64 now])) w') : Calls Pr f args w K :=
  h.mono fun e w' ⟨pts, A, n, c, xs, D, m, d, hs, now, he, h3, h4, h5, h6, h7⟩ => by subst he; exact h1 pts A n c xs D m d hs now w' h3 h4 h5 h6 h7
theorem kSaY {p now : Int} {bs : List Bd} {hs : List Hp} (h : Calls Pr f args w (SaV w p bs hs now)) (hsa : SaOk p bs hs now)
    (h1 : ∀ A n c w', OwnZ w' w.heap.size A n c (DsA p.toNat hs) → Below w.heap.size w w' → K (.returned (.tuple #[.agg #[.int .i64 now, .slice A n c], .bool true])) w') : Calls Pr f args w K :=
  h.mono fun e w' hv => by
    rcases hv with ⟨-, A, n, c, he, h2, h3⟩ | ⟨h0, -⟩
    · subst he; exact h1 A n c w' h2 h3
    · exact absurd hsa h0
theorem kSaN {p now : Int} {bs : List Bd} {hs : List Hp} (h : Calls Pr f args w (SaV w p bs hs now)) (hsa : ¬ SaOk p bs hs now)
    (h1 : ∀ A n c w', OwnZ w' w.heap.size A n c [] → Below w.heap.size w w' → K (.returned (.tuple #[.agg #[.int .i64 0, .slice A n c], .bool false])) w') : Calls Pr f args w K :=
  h.mono fun e w' hv => by
    rcases hv with ⟨h0, -⟩ | ⟨-, A, n, c, he, h2, h3⟩
    · exact absurd h0 hsa
    · subst he; exact h1 A n c w' h2 h3
end
theorem HL.take {p : Int} {hs : List Hp} (h : HL p hs) {k : Nat} (hk : k ≤ hs.length) : HL p (hs.take k) := fun j hj => by
  rw [List.length_take] at hj
  have e : ∀ i, i < k → (hs.take k).getD i (0, 0) = hs.getD i (0, 0) := fun i hi => by simp [List.getD, hi]
  obtain ⟨h1, h2, h3, h4⟩ := h j (by omega)
  unfold H1
  rw [e j (by omega)]
  exact ⟨h1, h2, fun h0 => by rw [e (j - 1) (by omega)]; exact h3 h0, fun i hi => by rw [e i (by omega)]; exact h4 i hi⟩
theorem hrd_nil {p : Int} {bs : List Bd} : HrdOk p bs [] ↔ FitsP p bs := ⟨fun h => h.2, fun h => ⟨fun j hj => absurd hj (Nat.not_lt_zero _), h⟩⟩
/-- What has happened is done when it happened. -/
theorem DsA_hit {P : Nat} {hs : List Hp} (hl : HL (P : Int) hs) (hP : 1 ≤ P ∧ P ≤ 6) : ∀ k, k ≤ hs.length → ∀ j, j < k → (DsA P (hs.take k)).getD (hs.getD j (0, 0)).1.toNat 0 = (hs.getD j (0, 0)).2
  | 0, _, j, h => by omega
  | k + 1, hk, j, h => by
    have hx := hl.inP hP (k := k) (by omega)
    have hy := hl.inP hP (k := j) (by omega)
    rw [DsA_take (by omega), getD_set (by rw [DsA_len hP.1]; omega)]
    rcases Nat.lt_or_ge j k with h1 | h1
    · have hne := (hl k (by omega)).2.2.2 j h1
      rw [if_neg (by omega)]
      exact DsA_hit hl hP k (by omega) j h1
    · obtain rfl : j = k := by omega
      rw [if_pos rfl]
theorem sameInts_any (A A' : Option Addr) (n c n' c' : Nat) (xs ys : List Int) (w : World) (h : IntsAt w A n xs) (h' : IntsAt w A' n' ys) (hn : n ≤ 4611686018427387904) :
   Calls Try.prog 23 #[.slice A n c, .slice A' n' c'] w (Qt w (.bool (B (EqInts xs ys)))) := by
  by_cases hnn : n = n'
  · subst hnn
    have HL := Lib.hid h.len
    have HL' := Lib.hid h'.len
    go_enter Try.func23, Try.ntmps23
    go_wp2
    go_loopw [5] (fun i wr => ∃ k m : Nat, k ≤ n ∧ i = .int .i64 k ∧ wr = w.drewN m ∧ ∀ j, j < k → xs.getD j 0 = ys.getD j 0) (fun i _ => n - (intOf i).toNat)
    case atStart => exact ⟨0, 0, Nat.zero_le _, rfl, rfl, fun j hj => by omega⟩
    case round =>
      obtain ⟨k, m, hk, rfl, rfl, hnf⟩ := hrel
      have HN := Lib.hid hnf
      clear hnf
      by_cases hlt : k < n
      · obtain ⟨b, off, rfl, hc⟩ := h.cells (by omega)
        obtain ⟨b', off', rfl, hc'⟩ := h'.cells (by omega)
        have hcell := hc k hlt
        have hcell' := hc' k hlt
        clear hc hc'
        go_wp2
        go_quiet (fail)
        go_wp2
        · have hv : (xs[k]?.getD 0 != ys[k]?.getD 0) = true := by assumption
          go_ret
          refine ⟨ret_b ?_, _, dd _ _ _⟩
          rw [B_false]
          rintro rfl
          simp at hv
        · have hv : (xs[k]?.getD 0 != ys[k]?.getD 0) = false := by assumption
          go_roundw
          case rel =>
            refine ⟨k + 1, _, by omega, by go_num, rfl, fun j hj => ?_⟩
            rcases Nat.lt_or_ge j k with h1 | h1
            · exact HN.out j h1
            · obtain rfl : j = k := by omega
              simpa [List.getD] using hv
          case measure => simp [intOf]; omega
      · go_wp2
        go_ret
        refine ⟨ret_b ?_, m, rfl⟩
        rw [B_true]
        obtain rfl : k = n := by omega
        exact eq_of_upto HL.out HL'.out HN.out
  · have hne : ((n : Int) != (n' : Int)) = true := by simp; omega
    have HL := Lib.hid h.len
    have HL' := Lib.hid h'.len
    go_enter Try.func23, Try.ntmps23
    go_wp2
    go_ret
    refine ⟨ret_b ?_, 0, rfl⟩
    rw [B_false]
    rintro rfl
    exact hnn (HL.out.symm.trans HL'.out)
theorem sameStateE_any (now : Int) (D D' : Option Addr) (m d m' d' : Nat) (ds : List Int) (w : World) (g : IntsAt w D m ds) (g' : IntsAt w D' m' ds) (hm : m ≤ 1048576) :
    Calls Try.prog 8 #[.agg #[.int .i64 now, .slice D m d], .agg #[.int .i64 now, .slice D' m' d']] w (Bl w (.bool true)) := by
  have hB0 : Below w.heap.size w ((w.alloc (.cells #[.int .i64 now, .slice D m d] 31)).alloc (.cells #[.int .i64 now, .slice D' m' d'] 31)) := ((Below.refl w.heap.size w).alloc (Nat.le_refl _) _).alloc (by simp) _
  have hq := sameInts_any D D' m d m' d' ds ds _ (g.below hB0) (g'.below hB0) (by omega)
  rw [B_true (show EqInts ds ds from rfl)] at hq
  have HQ := Lib.hid hq
  clear hq
  go_enter Try.func8, Try.ntmps8
  go_wp2_with (fail)
  refine kW HQ.out ?_
  intro mm
  go_wp2
  go_ret
  exact ⟨rfl, below_drewN hB0 mm⟩

end Go.Proofs.Ytpefimeogbpagaa
