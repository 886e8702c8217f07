/- Projects: sizes, copies, equality. -/
import Derived.Test.YtopfhlopicjemaaA4
import Derived.Deep.RegionHeld3
namespace Go.Proofs.Ytopfhlopicjemaa
open Go.RowKit

def szI (left : Int) (n : Nat) : Int := if (n : Int) ≤ left then left - n else -1
theorem szI_le {left : Int} {n : Nat} (h : 0 ≤ szI left n) : (n : Int) ≤ left ∧ szI left n = left - n := by unfold szI at *; split at h <;> omega
theorem szI_bd {left : Int} {n : Nat} (h : 0 ≤ left ∧ left ≤ 1048576) : -1 ≤ szI left n ∧ szI left n ≤ 1048576 := by unfold szI; split <;> omega

theorem szIntS_any (A : Option Addr) (n c : Nat) (left : Int) (w : World) (hn : n ≤ 9223372036854775807) (hl : 0 ≤ left ∧ left ≤ 1048576) :
    Calls Try.prog 53 #[.slice A n c, .int .i64 left] w (Same w (.int .i64 (szI left n))) := by
  obtain ⟨hl0, hl1⟩ := hl
  by_cases hle : (n : Int) ≤ left
  · go_enter Try.func53, Try.ntmps53
    go_wp2
    go_ret
    exact ⟨ret_i (by rw [szI, if_pos hle]), rfl⟩
  · go_enter Try.func53, Try.ntmps53
    go_wp2
    go_ret
    exact ⟨ret_i (by rw [szI, if_neg (by omega)]), rfl⟩

def SzOk (w : World) (p : Prop) (e : Ending) (w' : World) : Prop := ∃ r : Int, e = .returned (.int .i64 r) ∧ (0 ≤ r → p) ∧ -1 ≤ r ∧ r ≤ 1048576 ∧ Below w.heap.size w w'
theorem szProject_any (A : Option Addr) (n c : Nat) (A' : Option Addr) (n' c' : Nat) (left : Int) (w : World) (hn : n ≤ 9223372036854775807) (hn' : n' ≤ 9223372036854775807) (hl : 0 ≤ left ∧ left ≤ 1048576) :
    Calls Try.prog 21 #[.agg #[.slice A n c, .slice A' n' c'], .int .i64 left] w (SzOk w (n ≤ 1048576 ∧ n' ≤ 1048576)) := by
  have hb := szI_bd (n := n) hl
  obtain ⟨hb1, hb2⟩ := hb
  by_cases h1 : 0 ≤ szI left n
  · have hb' := szI_bd (left := szI left n) (n := n') ⟨h1, hb2⟩
    obtain ⟨hb3, hb4⟩ := hb'
    have H1 := Lib.hid (szI_le h1)
    go_enter Try.func21, Try.ntmps21
    go_wp2_with (fail)
    refine kV (szIntS_any A n c left _ hn hl) ?_
    go_wp2_with (fail)
    refine kV (szIntS_any A' n' c' (szI left n) _ hn' ⟨h1, hb2⟩) ?_
    by_cases h2 : 0 ≤ szI (szI left n) n'
    · go_wp2
      go_ret
      have := szI_le h2
      have := H1.out
      exact ⟨_, rfl, fun _ => by omega, by omega, by omega, (Below.refl _ _).alloc (Nat.le_refl _) _⟩
    · go_wp2
      go_ret
      exact ⟨_, rfl, fun h => by omega, by omega, by omega, (Below.refl _ _).alloc (Nat.le_refl _) _⟩
  · go_enter Try.func21, Try.ntmps21
    go_wp2_with (fail)
    refine kV (szIntS_any A n c left _ hn hl) ?_
    go_wp2
    go_ret
    exact ⟨_, rfl, fun h => by omega, by omega, by omega, (Below.refl _ _).alloc (Nat.le_refl _) _⟩

def NewPrj (w : World) (n n' : Nat) (xs ys : List Int) (e : Ending) (w' : World) : Prop :=
  ∃ A c A' c', e = .returned (.agg #[.slice A n c, .slice A' n' c']) ∧ n ≤ c ∧ n' ≤ c' ∧ IntsAt w' A n xs ∧ IntsAt w' A' n' ys ∧ Below w.heap.size w w'
theorem toProject_any (A : Option Addr) (n c : Nat) (xs : List Int) (A' : Option Addr) (n' c' : Nat) (ys : List Int) (w : World) (h : IntsAt w A n xs) (h' : IntsAt w A' n' ys) (hn : n ≤ 1048576) (hn' : n' ≤ 1048576) :
    Calls Try.prog 23 #[.agg #[.slice A n c, .slice A' n' c']] w (NewPrj w n n' xs ys) := by
  have hB0 : Below w.heap.size w (((w.alloc (.cells #[.slice A n c, .slice A' n' c'] 31)).alloc (.cells #[.slice none 0 0, .slice none 0 0] 34)).alloc (.cells #[.slice none 0 0, .slice none 0 0] 34)) :=
    (((Below.refl w.heap.size w).alloc (Nat.le_refl _) _).alloc (by simp) _).alloc (by simp; omega) _
  have hI := h.below hB0
  have hI' := h'.below hB0
  go_enter Try.func23, Try.ntmps23
  go_wp2_with (fail)
  refine kNew (toIntS_any A n c xs _ hI hn) ?_
  intro A1 c1 w1 hc1 hI1 hb1 hf1
  have e0 : w1.cell? ⟨w.heap.size, 1, none⟩ = some (.slice A' n' c') := keep hb1 (by simp [go_sem])
  have e1 : w1.cell? ⟨w.heap.size + 1 + 1, 0, none⟩ = some (.slice none 0 0) := keep hb1 (by simp [go_sem])
  have e2 : w1.cell? ⟨w.heap.size + 1 + 1, 1, none⟩ = some (.slice none 0 0) := keep hb1 (by simp [go_sem])
  have e3 : w1.cell? ⟨w.heap.size + 1, 0, none⟩ = some (.slice none 0 0) := keep hb1 (by simp [go_sem])
  have e4 : w1.cell? ⟨w.heap.size + 1, 1, none⟩ = some (.slice none 0 0) := keep hb1 (by simp [go_sem])
  have f1 : w1.frozen? ⟨w.heap.size + 1 + 1, 0, none⟩ = false := ((bcell hb1).2 _ _ (by simp)).trans (by simp [go_sem])
  have f2 : w1.frozen? ⟨w.heap.size + 1 + 1, 1, none⟩ = false := ((bcell hb1).2 _ _ (by simp)).trans (by simp [go_sem])
  have f3 : w1.frozen? ⟨w.heap.size + 1, 0, none⟩ = false := ((bcell hb1).2 _ _ (by simp)).trans (by simp [go_sem])
  have f4 : w1.frozen? ⟨w.heap.size + 1, 1, none⟩ = false := ((bcell hb1).2 _ _ (by simp)).trans (by simp [go_sem])
  have hz1 : w.heap.size + 2 < w1.heap.size := by have := hb1.size; simp at this; omega
  go_wp2_with (fail)
  have hB1 : Below w.heap.size w w1 := hB0.trans (hb1.mono (by simp; omega))
  have hB1' : Below w.heap.size w (w1.setCell ⟨w.heap.size + 1 + 1, 0, none⟩ (.slice A1 n c1)) := hB1.setCell (by simp; omega) _
  have hI1' : IntsAt (w1.setCell ⟨w.heap.size + 1 + 1, 0, none⟩ (.slice A1 n c1)) A1 n xs := hI1.setCell (by intro a ha e; have := hf1 a ha; simp at this e; omega) _
  refine kNew (toIntS_any A' n' c' ys _ (h'.below hB1') hn') ?_
  intro A2 c2 w2 hc2 hI2 hb2 hf2
  have e1' : w2.cell? ⟨w.heap.size + 1 + 1, 0, none⟩ = some (.slice A1 n c1) := keep hb2 (World.cell?_setCell_same _ _ _ e1)
  have e2' : w2.cell? ⟨w.heap.size + 1 + 1, 1, none⟩ = some (.slice none 0 0) := keep hb2 (by rw [World.cell?_setCell_other _ _ _ _ (by simp)]; exact e2)
  have e3' : w2.cell? ⟨w.heap.size + 1, 0, none⟩ = some (.slice none 0 0) := keep hb2 (by rw [World.cell?_setCell_other _ _ _ _ (by simp)]; exact e3)
  have e4' : w2.cell? ⟨w.heap.size + 1, 1, none⟩ = some (.slice none 0 0) := keep hb2 (by rw [World.cell?_setCell_other _ _ _ _ (by simp)]; exact e4)
  have g1 : w2.frozen? ⟨w.heap.size + 1 + 1, 0, none⟩ = false := ((bcell hb2).2 _ _ (by simp; omega)).trans (by simp [go_sem, f1])
  have g2 : w2.frozen? ⟨w.heap.size + 1 + 1, 1, none⟩ = false := ((bcell hb2).2 _ _ (by simp; omega)).trans (by simp [go_sem, f2])
  have g3 : w2.frozen? ⟨w.heap.size + 1, 0, none⟩ = false := ((bcell hb2).2 _ _ (by simp; omega)).trans (by simp [go_sem, f3])
  have g4 : w2.frozen? ⟨w.heap.size + 1, 1, none⟩ = false := ((bcell hb2).2 _ _ (by simp; omega)).trans (by simp [go_sem, f4])
  have hz2 : w.heap.size + 2 < w2.heap.size := by have := hb2.size; simp at this; omega
  clear e0 e1 e2 e3 e4 f1 f2 f3 f4
  go_wp2_with (fail)
  refine bodyPost_ret (v := .agg #[.slice A1 n c1, .slice A2 n' c2]) (by simp [results, Try.results23, go_sem, e3', e4']) rfl ⟨A1, c1, A2, c2, rfl, hc1, hc2, ?_, ?_, ?_⟩
  · refine IntsAt.setCell (IntsAt.setCell (IntsAt.setCell (hI1'.below hb2) ?_ _) ?_ _) ?_ _ <;> (intro a ha e; have := hf1 a ha; simp at this e; omega)
  · refine IntsAt.setCell (IntsAt.setCell (IntsAt.setCell hI2 ?_ _) ?_ _) ?_ _ <;> (intro a ha e; have := hf2 a ha; simp at this e; omega)
  · exact (((hB1'.trans (hb2.mono (by simp; omega))).setCell (by simp; omega) _).setCell (by simp) _).setCell (by simp) _

theorem eqProject_any (A : Option Addr) (n c : Nat) (xs : List Int) (A' : Option Addr) (n' c' : Nat) (ys : List Int) (D : Option Addr) (d : Nat) (D' : Option Addr) (d' : Nat) (w : World)
    (h : IntsAt w A n xs) (h' : IntsAt w A' n' ys) (g : IntsAt w D n xs) (g' : IntsAt w D' n' ys) (hn : n ≤ 1048576) (hn' : n' ≤ 1048576) :
    Calls Try.prog 25 #[.agg #[.slice A n c, .slice A' n' c'], .agg #[.slice D n d, .slice D' n' d']] w (Bl w (.bool true)) := by
  have hB0 : Below w.heap.size w ((w.alloc (.cells #[.slice A n c, .slice A' n' c'] 34)).alloc (.cells #[.slice D n d, .slice D' n' d'] 34)) :=
    ((Below.refl w.heap.size w).alloc (Nat.le_refl _) _).alloc (by simp) _
  have i := h.below hB0
  have i' := h'.below hB0
  have j := g.below hB0
  have j' := g'.below hB0
  go_enter Try.func25, Try.ntmps25
  go_wp2_with (fail)
  refine kQ (eqIntS_any A D n c n d xs xs _ i j (by omega)) ?_ ?_
  · intro m1 _
    go_wp2_with (fail)
    refine kQ (eqIntS_any A' D' n' c' n' d' ys ys _ (i'.drewN m1) (j'.drewN m1) (by omega)) ?_ ?_
    · intro m2 _
      go_wp2
      go_ret
      exact ⟨rfl, below_drewN hB0 _⟩
    · intro m2 hne
      exact absurd rfl hne.out
  · intro m1 hne
    exact absurd rfl hne.out

end Go.Proofs.Ytopfhlopicjemaa
