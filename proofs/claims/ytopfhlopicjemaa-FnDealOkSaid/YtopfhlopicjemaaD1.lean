/- Deals: sizes, copies, equality; both DealOk functions. -/
import Derived.Test.YtopfhlopicjemaaTPromise
namespace Go.Proofs.Ytopfhlopicjemaa
open Go.RowKit

theorem szDeal_any (p : Int) (A : Option Addr) (n c : Nat) (C : Option Addr) (m d : Nat) (left : Int) (w : World) (hn : n ≤ 9223372036854775807) (hm : m ≤ 9223372036854775807) (hl : 0 ≤ left ∧ left ≤ 1048576) :
    Calls Try.prog 42 #[.agg #[.int .i64 p, .slice A n c, .slice C m d], .int .i64 left] w (SzOk w (n ≤ 1048576 ∧ m ≤ 1048576)) := by
  have hB0 : Below w.heap.size w (w.alloc (.cells #[.int .i64 p, .slice A n c, .slice C m d] 71)) := (Below.refl w.heap.size w).alloc (Nat.le_refl _) _
  go_enter Try.func42, Try.ntmps42
  go_wp2_with (fail)
  refine kSz (szPlan_any p A n c left _ hn hl) ?_ ?_
  · intro r w1 hp hr0 hr1 hb1
    have hB1 : Below w.heap.size w w1 := hB0.trans (hb1.mono hB0.size)
    have e2 : w1.cell? ⟨w.heap.size, 2, none⟩ = some (.slice C m d) := keep hb1 (by simp [go_sem])
    obtain ⟨hs0, hs1⟩ := szI_bd (left := r) (n := m) ⟨hr0, hr1⟩
    by_cases hpos : 0 ≤ szI r m
    · have HP := Lib.hid (szI_le hpos)
      go_wp2_with (fail)
      refine kV (szPromiseS_any C m d r _ hm ⟨hr0, hr1⟩) ?_
      go_wp2
      go_ret
      have := HP.out
      exact ⟨_, rfl, fun _ => ⟨hp.out, by omega⟩, by omega, by omega, hB1⟩
    · go_wp2_with (fail)
      refine kV (szPromiseS_any C m d r _ hm ⟨hr0, hr1⟩) ?_
      go_wp2
      go_ret
      exact ⟨_, rfl, fun h => by omega, by omega, by omega, hB1⟩
  · intro r w1 hr0 hb1
    go_wp2
    go_ret
    exact ⟨_, rfl, fun h => by omega, by omega, by omega, hB0.trans (hb1.mono hB0.size)⟩

def NewDeal (w : World) (p : Int) (n m : Nat) (bs : List Bd) (ls : List (Int × Int × Int × Int)) (e : Ending) (w' : World) : Prop :=
  ∃ A c C d, e = .returned (.agg #[.int .i64 p, .slice A n c, .slice C m d]) ∧ n ≤ c ∧ m ≤ d ∧ BndsAt w' A n bs ∧ PromsAt w' C m ls ∧ Below w.heap.size w w'
theorem kDeal {Pr : Program} {f : FuncId} {args : Array Value} {w : World} {R : Ending → World → Prop} {p : Int} {n m : Nat} {bs : List Bd} {ls : List (Int × Int × Int × Int)} (h : Calls Pr f args w (NewDeal w p n m bs ls))
    (h1 : ∀ A c C d w', n ≤ c → m ≤ d → BndsAt w' A n bs → PromsAt w' C m ls → Below w.heap.size w w' → R (.returned (.agg #[.int .i64 p, .slice A n c, .slice C m d])) w') : Calls Pr f args w R :=
  h.mono fun e w' ⟨A, c, C, d, he, hc, hd, hi, hj, hb⟩ => by subst he; exact h1 A c C d w' hc hd hi hj hb

theorem toDeal_any (p : Int) (A : Option Addr) (n c : Nat) (bs : List Bd) (C : Option Addr) (m d : Nat) (ls : List (Int × Int × Int × Int)) (w : World) (h : BndsAt w A n bs) (g : PromsAt w C m ls) (hn : n ≤ 1048576) (hm : m ≤ 1048576) :
    Calls Try.prog 43 #[.agg #[.int .i64 p, .slice A n c, .slice C m d]] w (NewDeal w p n m bs ls) := by
  have hB0 : Below w.heap.size w (((w.alloc (.cells #[.int .i64 p, .slice A n c, .slice C m d] 71)).alloc (.cells #[.int .i64 0, .slice none 0 0, .slice none 0 0] 66)).alloc (.cells #[.int .i64 0, .slice none 0 0, .slice none 0 0] 66)) :=
    (((Below.refl w.heap.size w).alloc (Nat.le_refl _) _).alloc (by simp) _).alloc (by simp; omega) _
  have hI := h.below hB0
  go_enter Try.func43, Try.ntmps43
  go_wp2_with (fail)
  refine kPlan (toPlan_any p A n c bs _ hI hn) ?_
  intro A1 c1 w1 hc1 hI1 hb1 hf1
  have e0 : w1.cell? ⟨w.heap.size, 2, none⟩ = some (.slice C m d) := keep hb1 (by simp [go_sem])
  have e1 : w1.cell? ⟨w.heap.size + 1 + 1, 0, none⟩ = some (.int .i64 0) := keep hb1 (by simp [go_sem])
  have e2 : w1.cell? ⟨w.heap.size + 1 + 1, 1, none⟩ = some (.slice none 0 0) := keep hb1 (by simp [go_sem])
  have e5 : w1.cell? ⟨w.heap.size + 1 + 1, 2, none⟩ = some (.slice none 0 0) := keep hb1 (by simp [go_sem])
  have e3 : w1.cell? ⟨w.heap.size + 1, 0, none⟩ = some (.int .i64 0) := keep hb1 (by simp [go_sem])
  have e4 : w1.cell? ⟨w.heap.size + 1, 1, none⟩ = some (.slice none 0 0) := keep hb1 (by simp [go_sem])
  have e6 : w1.cell? ⟨w.heap.size + 1, 2, none⟩ = some (.slice none 0 0) := keep hb1 (by simp [go_sem])
  have f1 : w1.frozen? ⟨w.heap.size + 1 + 1, 0, none⟩ = false := ((bcell hb1).2 _ _ (by simp)).trans (by simp [go_sem])
  have f2 : w1.frozen? ⟨w.heap.size + 1 + 1, 1, none⟩ = false := ((bcell hb1).2 _ _ (by simp)).trans (by simp [go_sem])
  have f5 : w1.frozen? ⟨w.heap.size + 1 + 1, 2, none⟩ = false := ((bcell hb1).2 _ _ (by simp)).trans (by simp [go_sem])
  have f3 : w1.frozen? ⟨w.heap.size + 1, 0, none⟩ = false := ((bcell hb1).2 _ _ (by simp)).trans (by simp [go_sem])
  have f4 : w1.frozen? ⟨w.heap.size + 1, 1, none⟩ = false := ((bcell hb1).2 _ _ (by simp)).trans (by simp [go_sem])
  have f6 : w1.frozen? ⟨w.heap.size + 1, 2, none⟩ = false := ((bcell hb1).2 _ _ (by simp)).trans (by simp [go_sem])
  have hz1 : w.heap.size + 2 < w1.heap.size := by have := hb1.size; simp at this; omega
  go_wp2_with (fail)
  have hB1 : Below w.heap.size w w1 := hB0.trans (hb1.mono (by simp; omega))
  have hW : ∃ W, W = ((w1.setCell ⟨w.heap.size + 1 + 1, 0, none⟩ (.int .i64 p)).setCell ⟨w.heap.size + 1 + 1, 1, none⟩ (.slice A1 n c1)) := ⟨_, rfl⟩
  obtain ⟨W, HW⟩ := hW
  have hB1' : Below w.heap.size w W := by rw [HW]; exact (hB1.setCell (by simp; omega) _).setCell (by simp; omega) _
  have hI1' : BndsAt W A1 n bs := by rw [HW]; refine BndsAt.setCell (BndsAt.setCell hI1 ?_ _) ?_ _ <;> (intro a ha e; have := hf1 a ha; simp at this e; omega)
  have q1 : W.cell? ⟨w.heap.size + 1 + 1, 0, none⟩ = some (.int .i64 p) := by rw [HW]; simp [go_sem, e1]
  have q2 : W.cell? ⟨w.heap.size + 1 + 1, 1, none⟩ = some (.slice A1 n c1) := by rw [HW]; simp [go_sem, e2]
  have q5 : W.cell? ⟨w.heap.size + 1 + 1, 2, none⟩ = some (.slice none 0 0) := by rw [HW]; simp [go_sem, e5]
  have q3 : W.cell? ⟨w.heap.size + 1, 0, none⟩ = some (.int .i64 0) := by rw [HW]; simp [go_sem, e3]
  have q4 : W.cell? ⟨w.heap.size + 1, 1, none⟩ = some (.slice none 0 0) := by rw [HW]; simp [go_sem, e4]
  have q6 : W.cell? ⟨w.heap.size + 1, 2, none⟩ = some (.slice none 0 0) := by rw [HW]; simp [go_sem, e6]
  have r5 : W.frozen? ⟨w.heap.size + 1 + 1, 2, none⟩ = false := by rw [HW]; simp [go_sem, f5]
  have r3 : W.frozen? ⟨w.heap.size + 1, 0, none⟩ = false := by rw [HW]; simp [go_sem, f3]
  have r4 : W.frozen? ⟨w.heap.size + 1, 1, none⟩ = false := by rw [HW]; simp [go_sem, f4]
  have r6 : W.frozen? ⟨w.heap.size + 1, 2, none⟩ = false := by rw [HW]; simp [go_sem, f6]
  have hzW : w.heap.size + 2 < W.heap.size := by rw [HW]; simpa using hz1
  rw [← HW]
  have HWW := Lib.hid HW
  clear HW e0 e1 e2 e3 e4 e5 e6 f1 f2 f3 f4 f5 f6
  refine kNewPromsAt (toPromiseS_any C m d ls W (g.below hB1') hm) ?_
  intro C2 d2 w2 hd2 hI2 hb2 hf2
  have q1' := keep hb2 q1
  have q2' := keep hb2 q2
  have q3' := keep hb2 q3
  have q4' := keep hb2 q4
  have q5' := keep hb2 q5
  have q6' := keep hb2 q6
  have r3' := ((bcell hb2).2 _ _ (by omega)).trans r3
  have r4' := ((bcell hb2).2 _ _ (by omega)).trans r4
  have r5' := ((bcell hb2).2 _ _ (by omega)).trans r5
  have r6' := ((bcell hb2).2 _ _ (by omega)).trans r6
  have hz2 : w.heap.size + 2 < w2.heap.size := Nat.lt_of_lt_of_le hzW hb2.size
  have hI1'' := hI1'.below hb2
  have hB2 : Below w.heap.size w w2 := hB1'.trans (hb2.mono hB1'.size)
  clear q1 q2 q3 q4 q5 q6 r3 r4 r5 r6
  have HI2 := Lib.hid hI2
  clear hI2
  go_wp2_with (fail)
  refine bodyPost_ret (v := .agg #[.int .i64 p, .slice A1 n c1, .slice C2 m d2]) (by simp [results, Try.results43, go_sem, q3', q4', q6']) rfl ⟨A1, c1, C2, d2, rfl, hc1, hd2, ?_, ?_, ?_⟩
  · refine BndsAt.setCell (BndsAt.setCell (BndsAt.setCell (BndsAt.setCell hI1'' ?_ _) ?_ _) ?_ _) ?_ _ <;> (intro a ha e; have := hf1 a ha; simp at this e; omega)
  · refine PromsAt.setCell (PromsAt.setCell (PromsAt.setCell (PromsAt.setCell HI2.out ?_ _) ?_ _) ?_ _) ?_ _ <;> (intro a ha e; have := hf2 a ha; simp at e; omega)
  · exact ((((hB2.setCell (by simp; omega) _).setCell (by simp) _).setCell (by simp) _).setCell (by simp) _)

theorem eqDeal_any (p : Int) (A : Option Addr) (n c : Nat) (bs : List Bd) (C : Option Addr) (m d : Nat) (ls : List (Int × Int × Int × Int)) (A' : Option Addr) (c' : Nat) (C' : Option Addr) (d' : Nat) (w : World)
    (h : BndsAt w A n bs) (g : PromsAt w C m ls) (h' : BndsAt w A' n bs) (g' : PromsAt w C' m ls) (hn : n ≤ 1048576) (hm : m ≤ 1048576) :
    Calls Try.prog 44 #[.agg #[.int .i64 p, .slice A n c, .slice C m d], .agg #[.int .i64 p, .slice A' n c', .slice C' m d']] w (Bl w (.bool true)) := by
  have hB0 : Below w.heap.size w ((w.alloc (.cells #[.int .i64 p, .slice A n c, .slice C m d] 66)).alloc (.cells #[.int .i64 p, .slice A' n c', .slice C' m d'] 66)) :=
    ((Below.refl w.heap.size w).alloc (Nat.le_refl _) _).alloc (by simp) _
  go_enter Try.func44, Try.ntmps44
  go_wp2_with (fail)
  refine kBV (eqPlan_any p A n c bs A' c' _ (h.below hB0) (h'.below hB0) hn) ?_
  intro w1 hb1
  have hB1 : Below w.heap.size w w1 := hB0.trans (hb1.mono hB0.size)
  have e0 : w1.cell? ⟨w.heap.size, 2, none⟩ = some (.slice C m d) := keep hb1 (by simp [go_sem])
  have e1 : w1.cell? ⟨w.heap.size + 1, 2, none⟩ = some (.slice C' m d') := keep hb1 (by simp [go_sem])
  go_wp2_with (fail)
  refine kB (eqPromiseS_any C C' m d m d' ls ls w1 (g.below hB1) (g'.below hB1) (by omega)) ?_ (fun _ hne _ => absurd rfl hne.out)
  intro w2 _ hb2
  go_wp2
  go_ret
  exact ⟨rfl, hB1.trans (hb2.mono hB1.size)⟩

abbrev Pm := Int × Int × Int × Int
def PrOk (p : Int) (x : Pm) : Prop := HasPt p x.1 ∧ HasPt p x.2.1 ∧ x.1 ≠ x.2.1 ∧ InR x.2.2.2 0 12 ∧ InR x.2.2.1 0 x.2.2.2
def Apart (xs : List Pm) (j k : Nat) : Prop := ∀ i, i < k → i ≠ j → (xs.getD j (0, 0, 0, 0)).2.1 ≠ (xs.getD i (0, 0, 0, 0)).1 ∧ (xs.getD j (0, 0, 0, 0)).2.1 ≠ (xs.getD i (0, 0, 0, 0)).2.1
def DlUp (p : Int) (xs : List Pm) (k : Nat) : Prop := ∀ j, j < k → PrOk p (xs.getD j (0, 0, 0, 0)) ∧ Apart xs j xs.length
def DlOk (p : Int) (bs : List Bd) (xs : List Pm) : Prop := PlOk p bs ∧ bs.length ≤ 12 ∧ xs.length ≤ 2 ∧ DlUp p xs xs.length

set_option maxRecDepth 100000 in
set_option maxHeartbeats 1000000 in
theorem iDealOk_any (p : Int) (A : Option Addr) (n c : Nat) (bs : List Bd) (C : Option Addr) (m d : Nat) (xs : List Pm) (w : World) (h : BndsAt w A n bs) (g : PromsAt w C m xs) (_hn : n ≤ 1048576) (hm : m ≤ 1048576) :
    Calls Try.prog 40 #[.agg #[.int .i64 p, .slice A n c, .slice C m d]] w (Bl w (.bool (B (DlOk p bs xs)))) := by
  have HL := Lib.hid h.len
  have HG := Lib.hid g.len
  have hB0 : Below w.heap.size w (w.alloc (.cells #[.int .i64 p, .slice A n c, .slice C m d] 66)) := (Below.refl w.heap.size w).alloc (Nat.le_refl _) _
  go_enter Try.func40, Try.ntmps40
  go_wp2_with (fail)
  refine kB (iPlanOk_any p A n c bs _ (h.below hB0)) ?_ ?_
  · intro w1 hp hb1
    have hB1 : Below w.heap.size w w1 := hB0.trans (hb1.mono hB0.size)
    have e0 : w1.cell? ⟨w.heap.size, 0, none⟩ = some (.int .i64 p) := keep hb1 (by simp [go_sem])
    have e1 : w1.cell? ⟨w.heap.size, 1, none⟩ = some (.slice A n c) := keep hb1 (by simp [go_sem])
    have e2 : w1.cell? ⟨w.heap.size, 2, none⟩ = some (.slice C m d) := keep hb1 (by simp [go_sem])
    have g1 := g.below hB1
    have HB1 := Lib.hid hB1
    clear hb1 hB1
    by_cases h12 : n ≤ 12
    · by_cases h4 : m ≤ 2
      · go_wp2
        go_loopw [27] (fun i wr => ∃ k : Nat, k ≤ m ∧ i = .int .i64 k ∧ Below w1.heap.size w1 wr ∧ DlUp p xs k) (fun i _ => m - (intOf i).toNat)
        case atStart => exact ⟨0, Nat.zero_le _, rfl, Below.refl _ _, fun j hj => by omega⟩
        case round =>
          obtain ⟨wo, rfl⟩ : ∃ wo : World, wo = wr := ⟨_, rfl⟩
          obtain ⟨k, hk, rfl, hb, hup⟩ := hrel
          have HU := Lib.hid hup
          have HB := Lib.hid hb
          clear hup
          have i0 := keep hb e0
          have i1 := keep hb e1
          have i2 := keep hb e2
          clear hb
          by_cases hlt : k < m
          · obtain ⟨b, off, rfl, hc⟩ := (g1.below HB.out).cells (by omega)
            obtain ⟨c0, c1, c2, c3⟩ := hc k hlt
            have hno : ¬ (PrOk p (xs.getD k (0, 0, 0, 0)) ∧ Apart xs k xs.length) → ¬ DlOk p bs xs := fun hf hh => hf (hh.2.2.2 k (by rw [HG.out]; exact hlt))
            obtain ⟨x, HX⟩ : ∃ q, Hid (xs.getD k (0, 0, 0, 0) = q) := ⟨_, rfl⟩
            rw [HX.out] at c0 c1 c2 c3 hno
            have HNO := Lib.hid hno
            have HC := Lib.hid hc
            clear hno hc
            obtain ⟨x0, x1, x2, x3⟩ := x
            have hbl : b < wo.heap.size := cell_lt c0
            have hgl : w.heap.size < wo.heap.size := cell_lt i0
            obtain ⟨W, HW⟩ : ∃ W, Hid (W = wo.alloc (.cells #[.int .i64 x0, .int .i64 x1, .int .i64 x2, .int .i64 x3] 105)) := ⟨_, rfl⟩
            have hBW : Below wo.heap.size wo W := by rw [HW.out]; exact (Below.refl _ _).alloc (Nat.le_refl _) _
            have y0 : W.cell? ⟨wo.heap.size, 0, none⟩ = some (.int .i64 x0) := by rw [HW.out]; simp [go_sem]
            have y1 : W.cell? ⟨wo.heap.size, 1, none⟩ = some (.int .i64 x1) := by rw [HW.out]; simp [go_sem]
            have y2 : W.cell? ⟨wo.heap.size, 2, none⟩ = some (.int .i64 x2) := by rw [HW.out]; simp [go_sem]
            have y3 : W.cell? ⟨wo.heap.size, 3, none⟩ = some (.int .i64 x3) := by rw [HW.out]; simp [go_sem]
            have hBend : ∀ W', Below W.heap.size W W' → Below w.heap.size w W' := fun W' hW' => HB1.out.trans ((HB.out.trans ((hBW.trans (hW'.mono hBW.size)).mono HB.out.size)).mono HB1.out.size)
            have HBE := Lib.hid hBend
            have HBW := Lib.hid hBW
            clear hBend hBW
            go_wp2_with (fail)
            refine kB (has_any p _ x0 _) ?_ ?_
            · intro w2 hp0 hb2
              rw [← HW.out] at hb2
              have j0 := keep hb2 (keep HBW.out i0)
              have j1 := keep hb2 (keep HBW.out i1)
              have j2 := keep hb2 (keep HBW.out i2)
              have z0 := keep hb2 y0
              have z1 := keep hb2 y1
              have z2 := keep hb2 y2
              have z3 := keep hb2 y3
              have HB2 := Lib.hid hb2
              clear hb2
              go_wp2_with (fail)
              refine kB (has_any p _ x1 _) ?_ ?_
              · intro w3 hp1 hb3
                have l0 := keep hb3 j0
                have l1 := keep hb3 j1
                have l2 := keep hb3 j2
                have t0 := keep hb3 z0
                have t1 := keep hb3 z1
                have t2 := keep hb3 z2
                have t3 := keep hb3 z3
                have HB3 := Lib.hid (HB2.out.trans (hb3.mono HB2.out.size))
                clear hb3 i0 i1 i2 j0 j1 j2 y0 y1 y2 y3 z0 z1 z2 z3
                by_cases h01 : x0 = x1
                · have hq : (x0 == x1) = true := by simpa using h01
                  have H01 := Lib.hid h01
                  clear h01
                  go_wp2
                  go_ret
                  exact ⟨ret_b (B_false (HNO.out (fun hh => hh.1.2.2.1 H01.out))).symm, HBE.out _ HB3.out⟩
                · have hq : (x0 == x1) = false := by simpa using h01
                  have H01 := Lib.hid h01
                  clear h01
                  go_wp2_with (fail)
                  refine kS (in_any x3 0 12 _) ?_ ?_ <;> intro hin
                  · go_wp2_with (fail)
                    refine kS (in_any x2 0 x3 _) ?_ ?_ <;> intro hin2
                    · go_wp2
                      go_loopw [70] (fun i wq => ∃ j : Nat, j ≤ m ∧ i = .int .i64 j ∧ Below w3.heap.size w3 wq ∧ Apart xs k j) (fun i _ => m - (intOf i).toNat)
                      case atStart => exact ⟨0, Nat.zero_le _, rfl, Below.refl _ _, fun j hj => by omega⟩
                      case round =>
                        obtain ⟨j, hj, rfl, hbq, hap⟩ := hrel
                        have HAP := Lib.hid hap
                        have HBQ := Lib.hid hbq
                        have t0' := keep hbq t0
                        have t1' := keep hbq t1
                        have HCQ := Lib.hid fun (i : Nat) (hi : i < m) => (fun (q : _ ∧ _ ∧ _ ∧ _) => (⟨keep hbq (HB3.out.cell (p := ⟨b, off + i * 4, none⟩) (by have := HBW.out.size; exact Nat.lt_of_lt_of_le hbl this) ▸ keep HBW.out q.1), keep hbq (HB3.out.cell (p := ⟨b, off + i * 4 + 1, none⟩) (by have := HBW.out.size; exact Nat.lt_of_lt_of_le hbl this) ▸ keep HBW.out q.2.1), keep hbq (HB3.out.cell (p := ⟨b, off + i * 4 + 2, none⟩) (by have := HBW.out.size; exact Nat.lt_of_lt_of_le hbl this) ▸ keep HBW.out q.2.2.1), keep hbq (HB3.out.cell (p := ⟨b, off + i * 4 + 3, none⟩) (by have := HBW.out.size; exact Nat.lt_of_lt_of_le hbl this) ▸ keep HBW.out q.2.2.2)⟩ : _ ∧ _ ∧ _ ∧ _)) (HC.out i hi)
                        clear hap hbq
                        by_cases hltj : j < m
                        · obtain ⟨d0, d1, d2, d3⟩ := HCQ.out j hltj
                          obtain ⟨y, HY⟩ : ∃ q, Hid (xs.getD j (0, 0, 0, 0) = q) := ⟨_, rfl⟩
                          rw [HY.out] at d0 d1 d2 d3
                          obtain ⟨u0, u1, u2, u3⟩ := y
                          have hbl2 : b < wr.heap.size := cell_lt d0
                          have hgl2 : wo.heap.size < wr.heap.size := cell_lt t0'
                          have hst : Apart xs k j → (j ≠ k → x1 ≠ u0 ∧ x1 ≠ u1) → Apart xs k (j + 1) := fun h1 h2 i hi hne => by
                            rcases Nat.lt_or_ge i j with h3 | h3
                            · exact h1 i h3 hne
                            · obtain rfl : i = j := by omega
                              rw [HX.out, HY.out]; exact h2 hne
                          have HST := Lib.hid hst
                          have hbad : j ≠ k → (x1 = u0 ∨ x1 = u1) → ¬ DlOk p bs xs := fun h1 h2 => HNO.out (fun hh => by
                            have := hh.2 j (by rw [HG.out]; exact hltj) h1
                            rw [HX.out, HY.out] at this
                            rcases h2 with h2 | h2
                            · exact this.1 h2
                            · exact this.2 h2)
                          have HBAD := Lib.hid hbad
                          clear hst hbad
                          by_cases hjk : j = k
                          · subst hjk
                            have hq2 : ((j : Int) != (j : Int)) = false := by simp
                            go_wp2
                            go_roundw
                            case rel => exact ⟨j + 1, by omega, by go_num, HBQ.out.alloc HBQ.out.size _, HST.out HAP.out (fun h => absurd rfl h)⟩
                            case measure => simp [intOf]; omega
                          · have hq2 : ((k : Int) != (j : Int)) = true := by simp; omega
                            have HJK := Lib.hid hjk
                            clear hjk
                            by_cases ha : x1 = u0
                            · have hqa : (x1 == u0) = true := by simpa using ha
                              have HA := Lib.hid ha
                              clear ha
                              go_wp2
                              go_ret
                              exact ⟨ret_b (B_false (HBAD.out HJK.out (.inl HA.out))).symm, HBE.out _ (HB3.out.trans ((HBQ.out.alloc HBQ.out.size _).mono HB3.out.size))⟩
                            · have hqa : (x1 == u0) = false := by simpa using ha
                              have HA := Lib.hid ha
                              clear ha
                              by_cases hc2 : x1 = u1
                              · have hqb : (x1 == u1) = true := by simpa using hc2
                                have HC2 := Lib.hid hc2
                                clear hc2
                                go_wp2
                                go_ret
                                exact ⟨ret_b (B_false (HBAD.out HJK.out (.inr HC2.out))).symm, HBE.out _ (HB3.out.trans ((HBQ.out.alloc HBQ.out.size _).mono HB3.out.size))⟩
                              · have hqb : (x1 == u1) = false := by simpa using hc2
                                have HC2 := Lib.hid hc2
                                clear hc2
                                go_wp2
                                go_roundw
                                case rel => exact ⟨j + 1, by omega, by go_num, HBQ.out.alloc HBQ.out.size _, HST.out HAP.out (fun _ => ⟨HA.out, HC2.out⟩)⟩
                                case measure => simp [intOf]; omega
                        · go_wp2
                          go_roundw
                          case rel =>
                            refine ⟨k + 1, by omega, by go_num, HB.out.trans ((HBW.out.trans ((HB3.out.trans (HBQ.out.mono HB3.out.size)).mono HBW.out.size)).mono HB.out.size), fun i hi => ?_⟩
                            rcases Nat.lt_or_ge i k with h1 | h1
                            · exact HU.out i h1
                            · obtain rfl : i = k := by omega
                              obtain rfl : j = m := by omega
                              rw [HX.out]
                              exact ⟨⟨hp0.out, hp1.out, H01.out, hin.out, hin2.out⟩, by rw [HG.out]; exact HAP.out⟩
                          case measure => simp [intOf]; omega
                    · go_wp2
                      go_ret
                      exact ⟨ret_b (B_false (HNO.out (fun hh => hin2.out hh.1.2.2.2.2))).symm, HBE.out _ HB3.out⟩
                  · go_wp2
                    go_ret
                    exact ⟨ret_b (B_false (HNO.out (fun hh => hin.out hh.1.2.2.2.1))).symm, HBE.out _ HB3.out⟩
              · intro w3 hp1 hb3
                go_wp2
                go_ret
                exact ⟨ret_b (B_false (HNO.out (fun hh => hp1.out hh.1.2.1))).symm, HBE.out _ (HB2.out.trans (hb3.mono HB2.out.size))⟩
            · intro w2 hp0 hb2
              rw [← HW.out] at hb2
              go_wp2
              go_ret
              exact ⟨ret_b (B_false (HNO.out (fun hh => hp0.out hh.1.1))).symm, HBE.out _ hb2⟩
          · go_wp2
            go_ret
            obtain rfl : k = m := by omega
            exact ⟨ret_b (B_true ⟨hp.out, by rw [HL.out]; exact h12, by rw [HG.out]; exact h4, by rw [HG.out]; exact HU.out⟩).symm, HB1.out.trans (HB.out.mono HB1.out.size)⟩
      · go_wp2
        go_ret
        exact ⟨ret_b (B_false (fun hh => h4 (by rw [← HG.out]; exact hh.2.2.1))).symm, HB1.out⟩
    · go_wp2
      go_ret
      exact ⟨ret_b (B_false (fun hh => h12 (by rw [← HL.out]; exact hh.2.1))).symm, HB1.out⟩
  · intro w1 hp hb1
    go_wp2
    go_ret
    exact ⟨ret_b (B_false (fun hh => hp.out hh.1)).symm, hB0.trans (hb1.mono hB0.size)⟩

end Go.Proofs.Ytopfhlopicjemaa
