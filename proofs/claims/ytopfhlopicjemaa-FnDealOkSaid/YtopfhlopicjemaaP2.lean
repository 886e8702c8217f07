/- Plans: sizes, copies, equality, and a plan among the arguments. -/
import Derived.Test.YtopfhlopicjemaaP1
import Derived.ProofKit
import Derived.Lib.SmallJoins
namespace Go.Proofs.Ytopfhlopicjemaa
open Go.RowKit

theorem szPlan_any (p : Int) (A : Option Addr) (n c : Nat) (left : Int) (w : World) (hn : n ≤ 9223372036854775807) (hl : 0 ≤ left ∧ left ≤ 1048576) :
    Calls Try.prog 67 #[.agg #[.int .i64 p, .slice A n c], .int .i64 left] w (SzOk w (n ≤ 1048576)) := by
  have hb := szI_bd (n := n) hl
  obtain ⟨hb1, hb2⟩ := hb
  have hB0 : Below w.heap.size w (w.alloc (.cells #[.int .i64 p, .slice A n c] 56)) := (Below.refl w.heap.size w).alloc (Nat.le_refl _) _
  by_cases h1 : 0 ≤ szI left n
  · have H1 := Lib.hid (szI_le h1)
    go_enter Try.func67, Try.ntmps67
    go_wp2_with (fail)
    refine kV (szBoundS_any A n c left _ hn hl) ?_
    go_wp2
    go_ret
    have := H1.out
    exact ⟨_, rfl, fun _ => by omega, by omega, by omega, hB0⟩
  · go_enter Try.func67, Try.ntmps67
    go_wp2_with (fail)
    refine kV (szBoundS_any A n c left _ hn hl) ?_
    go_wp2
    go_ret
    exact ⟨_, rfl, fun h => by omega, by omega, by omega, hB0⟩

def NewPlan (w : World) (p : Int) (n : Nat) (bs : List Bd) (e : Ending) (w' : World) : Prop :=
  ∃ A c, e = .returned (.agg #[.int .i64 p, .slice A n c]) ∧ n ≤ c ∧ BndsAt w' A n bs ∧ Below w.heap.size w w' ∧ ∀ a, A = some a → w.heap.size ≤ a.block
theorem kPlan {Pr : Program} {f : FuncId} {args : Array Value} {w : World} {R : Ending → World → Prop} {p : Int} {n : Nat} {bs : List Bd} (h : Calls Pr f args w (NewPlan w p n bs))
    (h1 : ∀ A c w', n ≤ c → BndsAt w' A n bs → Below w.heap.size w w' → (∀ a, A = some a → w.heap.size ≤ a.block) → R (.returned (.agg #[.int .i64 p, .slice A n c])) w') : Calls Pr f args w R :=
  h.mono fun e w' ⟨A, c, he, hc, hi, hb, hf⟩ => by subst he; exact h1 A c w' hc hi hb hf
theorem toPlan_any (p : Int) (A : Option Addr) (n c : Nat) (bs : List Bd) (w : World) (h : BndsAt w A n bs) (hn : n ≤ 1048576) :
    Calls Try.prog 69 #[.agg #[.int .i64 p, .slice A n c]] w (NewPlan w p n bs) := by
  have hB0 : Below w.heap.size w (((w.alloc (.cells #[.int .i64 p, .slice A n c] 56)).alloc (.cells #[.int .i64 0, .slice none 0 0] 48)).alloc (.cells #[.int .i64 p, .slice none 0 0] 48)) :=
    (((Below.refl w.heap.size w).alloc (Nat.le_refl _) _).alloc (by simp) _).alloc (by simp; omega) _
  have hI := h.below hB0
  go_enter Try.func69, Try.ntmps69
  go_wp2_with (fail)
  refine kNewBndsAt (toBoundS_any A n c bs _ hI hn) ?_
  intro A1 c1 w1 hc1 hI1 hb1 hf1
  have e1 : w1.cell? ⟨w.heap.size + 1 + 1, 0, none⟩ = some (.int .i64 p) := keep hb1 (by simp [go_sem])
  have e2 : w1.cell? ⟨w.heap.size + 1 + 1, 1, none⟩ = some (.slice none 0 0) := keep hb1 (by simp [go_sem])
  have e3 : w1.cell? ⟨w.heap.size + 1, 0, none⟩ = some (.int .i64 0) := keep hb1 (by simp [go_sem])
  have e4 : w1.cell? ⟨w.heap.size + 1, 1, none⟩ = some (.slice none 0 0) := keep hb1 (by simp [go_sem])
  have f2 : w1.frozen? ⟨w.heap.size + 1 + 1, 1, none⟩ = false := ((bcell hb1).2 _ _ (by simp)).trans (by simp [go_sem])
  have f3 : w1.frozen? ⟨w.heap.size + 1, 0, none⟩ = false := ((bcell hb1).2 _ _ (by simp)).trans (by simp [go_sem])
  have f4 : w1.frozen? ⟨w.heap.size + 1, 1, none⟩ = false := ((bcell hb1).2 _ _ (by simp)).trans (by simp [go_sem])
  have hz1 : w.heap.size + 2 < w1.heap.size := by have := hb1.size; simp at this; omega
  have hB1 : Below w.heap.size w w1 := hB0.trans (hb1.mono (by simp; omega))
  go_wp2_with (fail)
  refine bodyPost_ret (v := .agg #[.int .i64 p, .slice A1 n c1]) (by simp [results, Try.results69, go_sem, e3, e4]) rfl ⟨A1, c1, rfl, hc1, ?_, ?_, ?_⟩
  · refine BndsAt.setCell (BndsAt.setCell (BndsAt.setCell hI1 ?_ _) ?_ _) ?_ _ <;> (intro a ha e; have := hf1 a ha; simp at this e; omega)
  · exact ((hB1.setCell (by simp; omega) _).setCell (by simp) _).setCell (by simp) _
  · intro a ha; have := hf1 a ha; simp at this; omega

theorem eqPlan_any (p : Int) (A : Option Addr) (n c : Nat) (bs : List Bd) (D : Option Addr) (d : Nat) (w : World) (h : BndsAt w A n bs) (g : BndsAt w D n bs) (hn : n ≤ 1048576) :
    Calls Try.prog 71 #[.agg #[.int .i64 p, .slice A n c], .agg #[.int .i64 p, .slice D n d]] w (Bl w (.bool true)) := by
  have hB0 : Below w.heap.size w ((w.alloc (.cells #[.int .i64 p, .slice A n c] 48)).alloc (.cells #[.int .i64 p, .slice D n d] 48)) :=
    ((Below.refl w.heap.size w).alloc (Nat.le_refl _) _).alloc (by simp) _
  go_enter Try.func71, Try.ntmps71
  go_wp2_with (fail)
  refine kB (eqBoundS_any A D n c n d bs bs _ (h.below hB0) (g.below hB0) (by omega)) ?_ ?_
  · intro w1 _ hb1
    go_wp2
    go_ret
    exact ⟨rfl, hB0.trans (hb1.mono hB0.size)⟩
  · intro w1 hne
    exact absurd rfl hne.out

end Go.Proofs.Ytopfhlopicjemaa
