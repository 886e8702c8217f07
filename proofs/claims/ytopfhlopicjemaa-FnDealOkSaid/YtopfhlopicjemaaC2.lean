/- Cases: sizes, copies, equality; both CaseOk functions. -/
import Derived.Test.YtopfhlopicjemaaC1
namespace Go.Proofs.Ytopfhlopicjemaa
open Go.RowKit

theorem szCase_any (p : Int) (A : Option Addr) (n c : Nat) (C : Option Addr) (m d : Nat) (ls : List (List Bd)) (left : Int) (w : World) (g : BndssAt w C m ls) (hn : n ≤ 9223372036854775807) (hm : m ≤ 9223372036854775807) (hl : 0 ≤ left ∧ left ≤ 1048576) :
    Calls Try.prog 36 #[.agg #[.int .i64 p, .slice A n c, .slice C m d], .int .i64 left] w (SzOk w (n ≤ 1048576 ∧ m ≤ 1048576 ∧ Short ls m)) := by
  have hB0 : Below w.heap.size w (w.alloc (.cells #[.int .i64 p, .slice A n c, .slice C m d] 59)) := (Below.refl w.heap.size w).alloc (Nat.le_refl _) _
  go_enter Try.func36, Try.ntmps36
  go_wp2_with (fail)
  refine kSz (szPlan_any p A n c left _ hn hl) ?_ ?_
  · intro r w1 hp hr0 hr1 hb1
    have hB1 : Below w.heap.size w w1 := hB0.trans (hb1.mono hB0.size)
    have e2 : w1.cell? ⟨w.heap.size, 2, none⟩ = some (.slice C m d) := keep hb1 (by simp [go_sem])
    go_wp2_with (fail)
    refine kSz (szBoundSS_any C m d ls r _ (g.below hB1) hm ⟨hr0, hr1⟩) ?_ ?_
    · intro r2 w2 hp2 h0 h1 hb2
      go_wp2
      go_ret
      exact ⟨_, rfl, fun _ => ⟨hp.out, hp2.out⟩, by omega, by omega, hB1.trans (hb2.mono hB1.size)⟩
    · intro r2 w2 h0 hb2
      go_wp2
      go_ret
      exact ⟨_, rfl, fun h => by omega, by omega, by omega, hB1.trans (hb2.mono hB1.size)⟩
  · intro r w1 hr0 hb1
    go_wp2
    go_ret
    exact ⟨_, rfl, fun h => by omega, by omega, by omega, hB0.trans (hb1.mono hB0.size)⟩

def NewCase (w : World) (p : Int) (n m : Nat) (bs : List Bd) (ls : List (List Bd)) (e : Ending) (w' : World) : Prop :=
  ∃ A c C d, e = .returned (.agg #[.int .i64 p, .slice A n c, .slice C m d]) ∧ n ≤ c ∧ m ≤ d ∧ BndsAt w' A n bs ∧ BndssAt w' C m ls ∧ Below w.heap.size w w'
theorem kCase {Pr : Program} {f : FuncId} {args : Array Value} {w : World} {R : Ending → World → Prop} {p : Int} {n m : Nat} {bs : List Bd} {ls : List (List Bd)} (h : Calls Pr f args w (NewCase w p n m bs ls))
    (h1 : ∀ A c C d w', n ≤ c → m ≤ d → BndsAt w' A n bs → BndssAt w' C m ls → Below w.heap.size w w' → R (.returned (.agg #[.int .i64 p, .slice A n c, .slice C m d])) w') : Calls Pr f args w R :=
  h.mono fun e w' ⟨A, c, C, d, he, hc, hd, hi, hj, hb⟩ => by subst he; exact h1 A c C d w' hc hd hi hj hb

theorem toCase_any (p : Int) (A : Option Addr) (n c : Nat) (bs : List Bd) (C : Option Addr) (m d : Nat) (ls : List (List Bd)) (w : World) (h : BndsAt w A n bs) (g : BndssAt w C m ls) (hn : n ≤ 1048576) (hm : m ≤ 1048576) (hs : Short ls m) :
    Calls Try.prog 37 #[.agg #[.int .i64 p, .slice A n c, .slice C m d]] w (NewCase w p n m bs ls) := by
  have hB0 : Below w.heap.size w (((w.alloc (.cells #[.int .i64 p, .slice A n c, .slice C m d] 59)).alloc (.cells #[.int .i64 0, .slice none 0 0, .slice none 0 0] 51)).alloc (.cells #[.int .i64 0, .slice none 0 0, .slice none 0 0] 51)) :=
    (((Below.refl w.heap.size w).alloc (Nat.le_refl _) _).alloc (by simp) _).alloc (by simp; omega) _
  have hI := h.below hB0
  have HS := Lib.hid hs
  clear hs
  go_enter Try.func37, Try.ntmps37
  go_wp2_with (fail)
  refine kPlan (toPlan_any p A n c bs _ hI hn) ?_
  intro A1 c1 w1 hc1 hI1 hb1 hf1
  have e0 : w1.cell? ⟨w.heap.size, 2, none⟩ = some (.slice C m d) := keep hb1 (by simp [go_sem])
  have e1 : w1.cell? ⟨w.heap.size + 1 + 1, 0, none⟩ = some (.int .i64 0) := keep hb1 (by simp [go_sem])
  have e2 : w1.cell? ⟨w.heap.size + 1 + 1, 1, none⟩ = some (.slice none 0 0) := keep hb1 (by simp [go_sem])
  have e5 : w1.cell? ⟨w.heap.size + 1 + 1, 2, none⟩ = some (.slice none 0 0) := keep hb1 (by simp [go_sem])
  have e3 : w1.cell? ⟨w.heap.size + 1, 0, none⟩ = some (.int .i64 0) := keep hb1 (by simp [go_sem])
  have e4 : w1.cell? ⟨w.heap.size + 1, 1, none⟩ = some (.slice none 0 0) := keep hb1 (by simp [go_sem])
  have e6 : w1.cell? ⟨w.heap.size + 1, 2, none⟩ = some (.slice none 0 0) := keep hb1 (by simp [go_sem])
  have f1 : w1.frozen? ⟨w.heap.size + 1 + 1, 0, none⟩ = false := ((bcell hb1).2 _ _ (by simp)).trans (by simp [go_sem])
  have f2 : w1.frozen? ⟨w.heap.size + 1 + 1, 1, none⟩ = false := ((bcell hb1).2 _ _ (by simp)).trans (by simp [go_sem])
  have f5 : w1.frozen? ⟨w.heap.size + 1 + 1, 2, none⟩ = false := ((bcell hb1).2 _ _ (by simp)).trans (by simp [go_sem])
  have f3 : w1.frozen? ⟨w.heap.size + 1, 0, none⟩ = false := ((bcell hb1).2 _ _ (by simp)).trans (by simp [go_sem])
  have f4 : w1.frozen? ⟨w.heap.size + 1, 1, none⟩ = false := ((bcell hb1).2 _ _ (by simp)).trans (by simp [go_sem])
  have f6 : w1.frozen? ⟨w.heap.size + 1, 2, none⟩ = false := ((bcell hb1).2 _ _ (by simp)).trans (by simp [go_sem])
  have hz1 : w.heap.size + 2 < w1.heap.size := by have := hb1.size; simp at this; omega
  go_wp2_with (fail)
  have hB1 : Below w.heap.size w w1 := hB0.trans (hb1.mono (by simp; omega))
  have hW : ∃ W, W = ((w1.setCell ⟨w.heap.size + 1 + 1, 0, none⟩ (.int .i64 p)).setCell ⟨w.heap.size + 1 + 1, 1, none⟩ (.slice A1 n c1)) := ⟨_, rfl⟩
  obtain ⟨W, HW⟩ := hW
  have hB1' : Below w.heap.size w W := by rw [HW]; exact (hB1.setCell (by simp; omega) _).setCell (by simp; omega) _
  have hI1' : BndsAt W A1 n bs := by rw [HW]; refine BndsAt.setCell (BndsAt.setCell hI1 ?_ _) ?_ _ <;> (intro a ha e; have := hf1 a ha; simp at this e; omega)
  have q1 : W.cell? ⟨w.heap.size + 1 + 1, 0, none⟩ = some (.int .i64 p) := by rw [HW]; simp [go_sem, e1]
  have q2 : W.cell? ⟨w.heap.size + 1 + 1, 1, none⟩ = some (.slice A1 n c1) := by rw [HW]; simp [go_sem, e2]
  have q5 : W.cell? ⟨w.heap.size + 1 + 1, 2, none⟩ = some (.slice none 0 0) := by rw [HW]; simp [go_sem, e5]
  have q3 : W.cell? ⟨w.heap.size + 1, 0, none⟩ = some (.int .i64 0) := by rw [HW]; simp [go_sem, e3]
  have q4 : W.cell? ⟨w.heap.size + 1, 1, none⟩ = some (.slice none 0 0) := by rw [HW]; simp [go_sem, e4]
  have q6 : W.cell? ⟨w.heap.size + 1, 2, none⟩ = some (.slice none 0 0) := by rw [HW]; simp [go_sem, e6]
  have r5 : W.frozen? ⟨w.heap.size + 1 + 1, 2, none⟩ = false := by rw [HW]; simp [go_sem, f5]
  have r3 : W.frozen? ⟨w.heap.size + 1, 0, none⟩ = false := by rw [HW]; simp [go_sem, f3]
  have r4 : W.frozen? ⟨w.heap.size + 1, 1, none⟩ = false := by rw [HW]; simp [go_sem, f4]
  have r6 : W.frozen? ⟨w.heap.size + 1, 2, none⟩ = false := by rw [HW]; simp [go_sem, f6]
  have hzW : w.heap.size + 2 < W.heap.size := by rw [HW]; simpa using hz1
  rw [← HW]
  have HWW := Lib.hid HW
  clear HW e0 e1 e2 e3 e4 e5 e6 f1 f2 f3 f4 f5 f6
  refine (toBoundSS_any C m d ls W (g.below hB1') hm HS.out).mono ?_
  rintro e w2 ⟨C2, d2, rfl, hd2, hI2, hb2⟩
  have q1' := keep hb2 q1
  have q2' := keep hb2 q2
  have q3' := keep hb2 q3
  have q4' := keep hb2 q4
  have q5' := keep hb2 q5
  have q6' := keep hb2 q6
  have r3' := ((bcell hb2).2 _ _ (by omega)).trans r3
  have r4' := ((bcell hb2).2 _ _ (by omega)).trans r4
  have r5' := ((bcell hb2).2 _ _ (by omega)).trans r5
  have r6' := ((bcell hb2).2 _ _ (by omega)).trans r6
  have hz2 : w.heap.size + 2 < w2.heap.size := Nat.lt_of_lt_of_le hzW hb2.size
  have hI1'' := hI1'.below hb2
  have hB2 : Below w.heap.size w w2 := hB1'.trans (hb2.mono hB1'.size)
  clear q1 q2 q3 q4 q5 q6 r3 r4 r5 r6
  have HI2 := Lib.hid hI2
  clear hI2
  go_wp2_with (fail)
  refine bodyPost_ret (v := .agg #[.int .i64 p, .slice A1 n c1, .slice C2 m d2]) (by simp [results, Try.results37, go_sem, q3', q4', q6']) rfl ⟨A1, c1, C2, d2, rfl, hc1, hd2, ?_, ?_, ?_⟩
  · refine BndsAt.setCell (BndsAt.setCell (BndsAt.setCell (BndsAt.setCell hI1'' ?_ _) ?_ _) ?_ _) ?_ _ <;> (intro a ha e; have := hf1 a ha; simp at this e; omega)
  · refine HI2.out _ fun k hk _ => ?_
    rw [Below.heap_setCell _ _ _ _ (by simp; omega), Below.heap_setCell _ _ _ _ (by simp; omega), Below.heap_setCell _ _ _ _ (by simp; omega), Below.heap_setCell _ _ _ _ (by simp; omega)]
  · exact ((((hB2.setCell (by simp; omega) _).setCell (by simp) _).setCell (by simp) _).setCell (by simp) _)

theorem eqCase_any (p : Int) (A : Option Addr) (n c : Nat) (bs : List Bd) (C : Option Addr) (m d : Nat) (ls : List (List Bd)) (A' : Option Addr) (c' : Nat) (C' : Option Addr) (d' : Nat) (w : World)
    (h : BndsAt w A n bs) (g : BndssAt w C m ls) (h' : BndsAt w A' n bs) (g' : BndssAt w C' m ls) (hn : n ≤ 1048576) (hm : m ≤ 1048576) (hs : Short ls m) :
    Calls Try.prog 38 #[.agg #[.int .i64 p, .slice A n c, .slice C m d], .agg #[.int .i64 p, .slice A' n c', .slice C' m d']] w (Bl w (.bool true)) := by
  have hB0 : Below w.heap.size w ((w.alloc (.cells #[.int .i64 p, .slice A n c, .slice C m d] 51)).alloc (.cells #[.int .i64 p, .slice A' n c', .slice C' m d'] 51)) :=
    ((Below.refl w.heap.size w).alloc (Nat.le_refl _) _).alloc (by simp) _
  have HS := Lib.hid hs
  clear hs
  go_enter Try.func38, Try.ntmps38
  go_wp2_with (fail)
  refine kBV (eqPlan_any p A n c bs A' c' _ (h.below hB0) (h'.below hB0) hn) ?_
  intro w1 hb1
  have hB1 : Below w.heap.size w w1 := hB0.trans (hb1.mono hB0.size)
  have e0 : w1.cell? ⟨w.heap.size, 2, none⟩ = some (.slice C m d) := keep hb1 (by simp [go_sem])
  have e1 : w1.cell? ⟨w.heap.size + 1, 2, none⟩ = some (.slice C' m d') := keep hb1 (by simp [go_sem])
  go_wp2_with (fail)
  refine kBV (eqBoundSS_any C C' m d d' ls w1 (g.below hB1) (g'.below hB1) hm HS.out) ?_
  intro w2 hb2
  go_wp2
  go_ret
  exact ⟨rfl, hB1.trans (hb2.mono hB1.size)⟩

def ChOk (p : Int) (l : List Bd) : Prop := 1 ≤ l.length ∧ l.length ≤ 3 ∧ ∀ b ∈ l, BdOk p b
def CsUp (p : Int) (ls : List (List Bd)) (k : Nat) : Prop := ∀ j, j < k → ChOk p (ls.getD j [])
def CsOk (p : Int) (bs : List Bd) (ls : List (List Bd)) : Prop := PlOk p bs ∧ bs.length ≤ 12 ∧ ls.length ≤ 4 ∧ CsUp p ls ls.length

theorem CaseOk1_any (p : Int) (A : Option Addr) (n c : Nat) (x : Bd) (g : Nat) (w : World) (h0 : w.cell? ⟨g, 0, none⟩ = some (.int .i64 p)) (h1 : w.cell? ⟨g, 1, none⟩ = some (.slice A n c)) :
    Calls Try.prog 64 #[.agg #[.int .i64 x.1, .int .i64 x.2.1, .int .i64 x.2.2], .pointer (some ⟨g, 0, none⟩)] w (Bl w (.bool (B (¬ BdOk p x)))) := by
  have hg : g < w.heap.size := cell_lt h0
  have hB0 : Below w.heap.size w (w.alloc (.cells #[.int .i64 x.1, .int .i64 x.2.1, .int .i64 x.2.2] 95)) := (Below.refl w.heap.size w).alloc (Nat.le_refl _) _
  go_enter Try.func64, Try.ntmps64
  go_wp2_with (fail)
  refine kB (boundOk_any p A n c x _) ?_ ?_
  · intro w1 hp hb1
    go_wp2
    go_ret
    exact ⟨ret_b (B_false (fun hh => hh hp.out)).symm, hB0.trans (hb1.mono hB0.size)⟩
  · intro w1 hp hb1
    go_wp2
    go_ret
    exact ⟨ret_b (B_true hp.out).symm, hB0.trans (hb1.mono hB0.size)⟩

theorem iCaseOk_any (p : Int) (A : Option Addr) (n c : Nat) (bs : List Bd) (C : Option Addr) (m d : Nat) (ls : List (List Bd)) (w : World) (h : BndsAt w A n bs) (g : BndssAt w C m ls) (_hn : n ≤ 1048576) (hm : m ≤ 1048576) (hs : Short ls m) :
    Calls Try.prog 34 #[.agg #[.int .i64 p, .slice A n c, .slice C m d]] w (Bl w (.bool (B (CsOk p bs ls)))) := by
  have HL := Lib.hid h.len
  have HG := Lib.hid g.len
  have HS := Lib.hid hs
  clear hs
  have hB0 : Below w.heap.size w (w.alloc (.cells #[.int .i64 p, .slice A n c, .slice C m d] 51)) := (Below.refl w.heap.size w).alloc (Nat.le_refl _) _
  go_enter Try.func34, Try.ntmps34
  go_wp2_with (fail)
  refine kB (iPlanOk_any p A n c bs _ (h.below hB0)) ?_ ?_
  · intro w1 hp hb1
    have hB1 : Below w.heap.size w w1 := hB0.trans (hb1.mono hB0.size)
    have e0 : w1.cell? ⟨w.heap.size, 0, none⟩ = some (.int .i64 p) := keep hb1 (by simp [go_sem])
    have e1 : w1.cell? ⟨w.heap.size, 1, none⟩ = some (.slice A n c) := keep hb1 (by simp [go_sem])
    have e2 : w1.cell? ⟨w.heap.size, 2, none⟩ = some (.slice C m d) := keep hb1 (by simp [go_sem])
    have g1 := g.below hB1
    have HB1 := Lib.hid hB1
    clear hb1 hB1
    by_cases h12 : n ≤ 12
    · by_cases h4 : m ≤ 4
      · go_wp2
        go_loopw [25] (fun i wr => ∃ k : Nat, k ≤ m ∧ i = .int .i64 k ∧ Below w1.heap.size w1 wr ∧ CsUp p ls k) (fun i _ => m - (intOf i).toNat)
        case atStart => exact ⟨0, Nat.zero_le _, rfl, Below.refl _ _, fun j hj => by omega⟩
        case round =>
          obtain ⟨k, hk, rfl, hb, hup⟩ := hrel
          have HU := Lib.hid hup
          have HB := Lib.hid hb
          clear hup
          have i0 := keep hb e0
          have i1 := keep hb e1
          have i2 := keep hb e2
          clear hb
          by_cases hlt : k < m
          · obtain ⟨b, off, rfl, hc⟩ := (g1.below HB.out).cells (by omega)
            obtain ⟨A', c', hc0, hlen, hrow⟩ := hc k hlt
            have hno : ¬ ChOk p (ls.getD k []) → ¬ CsOk p bs ls := fun hf hh => hf (hh.2.2.2 k (by rw [HG.out]; exact hlt))
            have hshort := HS.out k hlt
            have hch : ChOk p (ls.getD k []) ↔ (InR ((ls.getD k []).length : Int) 1 3 ∧ ¬ ∃ x ∈ ls.getD k [], ¬ BdOk p x) := by
              constructor
              · rintro ⟨h1, h2, h3⟩
                exact ⟨⟨by omega, by omega⟩, fun ⟨x, hx, hn⟩ => hn (h3 x hx)⟩
              · rintro ⟨⟨h1, h2⟩, h3⟩
                refine ⟨by omega, by omega, fun x hx => ?_⟩
                by_cases hr : BdOk p x
                · exact hr
                · exact absurd ⟨x, hx, hr⟩ h3
            obtain ⟨q, HM⟩ : ∃ q, Hid ((ls.getD k []).length = q) := ⟨_, rfl⟩
            rw [HM.out] at hc0 hlen hrow hshort hch
            have HCH := Lib.hid hch
            have HNO := Lib.hid hno
            have HR := Lib.hid hrow
            clear hno hch hc hrow
            go_wp2_with (fail)
            refine kS (in_any (q : Int) 1 3 _) ?_ ?_ <;> intro hin
            · go_wp2_with (fail)
              refine kB (ContainsFuncBnd_any (fun x => ¬ BdOk p x) _ _ A' q c' (ls.getD k []) _ HR.out (by omega) (enters Try.func64 (by kernel_rfl) (by kernel_rfl)) (Lib.hid fun W x _ hW => CaseOk1_any p A n c x _ W (keep hW i0) (keep hW i1))) ?_ ?_
              · intro w2 hq hb2
                go_wp2
                go_ret
                exact ⟨ret_b (B_false (HNO.out (fun hh => (HCH.out.1 hh).2 hq.out))).symm, HB1.out.trans ((HB.out.trans (hb2.mono HB.out.size)).mono HB1.out.size)⟩
              · intro w2 hq hb2
                go_wp2
                go_roundw
                case rel =>
                  refine ⟨k + 1, by omega, by go_num, HB.out.trans (hb2.mono HB.out.size), fun j hj => ?_⟩
                  rcases Nat.lt_or_ge j k with h1 | h1
                  · exact HU.out j h1
                  · obtain rfl : j = k := by omega
                    exact HCH.out.2 ⟨hin.out, hq.out⟩
                case measure => simp [intOf]; omega
            · go_wp2
              go_ret
              exact ⟨ret_b (B_false (HNO.out (fun hh => hin.out (HCH.out.1 hh).1))).symm, HB1.out.trans (HB.out.mono HB1.out.size)⟩
          · go_wp2
            go_ret
            obtain rfl : k = m := by omega
            exact ⟨ret_b (B_true ⟨hp.out, by rw [HL.out]; exact h12, by rw [HG.out]; exact h4, by rw [HG.out]; exact HU.out⟩).symm, HB1.out.trans (HB.out.mono HB1.out.size)⟩
      · go_wp2
        go_ret
        exact ⟨ret_b (B_false (fun hh => h4 (by rw [← HG.out]; exact hh.2.2.1))).symm, HB1.out⟩
    · go_wp2
      go_ret
      exact ⟨ret_b (B_false (fun hh => h12 (by rw [← HL.out]; exact hh.2.1))).symm, HB1.out⟩
  · intro w1 hp hb1
    go_wp2
    go_ret
    exact ⟨ret_b (B_false (fun hh => hp.out hh.1)).symm, hB0.trans (hb1.mono hB0.size)⟩

theorem sCaseOk_any (p : Int) (A : Option Addr) (n c : Nat) (bs : List Bd) (C : Option Addr) (m d : Nat) (ls : List (List Bd)) (w : World) (h : BndsAt w A n bs) (g : BndssAt w C m ls) (hn : n ≤ 1048576) (hm : m ≤ 1048576) (hs : Short ls m) :
    Calls Try.prog 35 #[.agg #[.int .i64 p, .slice A n c, .slice C m d]] w (Bl w (.bool (B (CsOk p bs ls)))) := by
  have HL := Lib.hid h.len
  have HG := Lib.hid g.len
  have HS := Lib.hid hs
  clear hs
  have hB0 : Below w.heap.size w (w.alloc (.cells #[.int .i64 p, .slice A n c, .slice C m d] 51)) := (Below.refl w.heap.size w).alloc (Nat.le_refl _) _
  go_enter Try.func35, Try.ntmps35
  go_wp2_with (fail)
  refine kB (sPlanOk_any p A n c bs _ (h.below hB0) hn) ?_ ?_
  · intro w1 hp hb1
    have hB1 : Below w.heap.size w w1 := hB0.trans (hb1.mono hB0.size)
    have e0 : w1.cell? ⟨w.heap.size, 0, none⟩ = some (.int .i64 p) := keep hb1 (by simp [go_sem])
    have e1 : w1.cell? ⟨w.heap.size, 1, none⟩ = some (.slice A n c) := keep hb1 (by simp [go_sem])
    have e2 : w1.cell? ⟨w.heap.size, 2, none⟩ = some (.slice C m d) := keep hb1 (by simp [go_sem])
    have g1 := g.below hB1
    have HB1 := Lib.hid hB1
    clear hb1 hB1
    by_cases h12 : n ≤ 12
    · by_cases h4 : m ≤ 4
      · go_wp2
        go_loopw [3] (fun i wr => ∃ k : Nat, k ≤ m ∧ i = .int .i64 k ∧ Below w1.heap.size w1 wr ∧ CsUp p ls k) (fun i _ => m - (intOf i).toNat)
        case atStart => exact ⟨0, Nat.zero_le _, rfl, Below.refl _ _, fun j hj => by omega⟩
        case round =>
          obtain ⟨k, hk, rfl, hb, hup⟩ := hrel
          have HU := Lib.hid hup
          have HB := Lib.hid hb
          clear hup
          have i0 := keep hb e0
          have i2 := keep hb e2
          clear hb
          by_cases hlt : k < m
          · obtain ⟨b, off, rfl, hc⟩ := (g1.below HB.out).cells (by omega)
            obtain ⟨A', c', hc0, hlen, hrow⟩ := hc k hlt
            have hno : ¬ ChOk p (ls.getD k []) → ¬ CsOk p bs ls := fun hf hh => hf (hh.2.2.2 k (by rw [HG.out]; exact hlt))
            have hshort := HS.out k hlt
            have hch : ChOk p (ls.getD k []) ↔ (InR ((ls.getD k []).length : Int) 1 3 ∧ PlOk p (ls.getD k [])) := by
              constructor
              · rintro ⟨h1, h2, h3⟩
                exact ⟨⟨by omega, by omega⟩, hp.out.1, by omega, h3⟩
              · rintro ⟨⟨h1, h2⟩, h3⟩
                exact ⟨by omega, by omega, h3.2.2⟩
            obtain ⟨q, HM⟩ : ∃ q, Hid ((ls.getD k []).length = q) := ⟨_, rfl⟩
            obtain ⟨l, HLk⟩ : ∃ l, Hid (ls.getD k [] = l) := ⟨_, rfl⟩
            rw [HM.out] at hc0 hlen hrow hshort hch
            rw [HLk.out] at hrow hch hno
            have HCH := Lib.hid hch
            have HNO := Lib.hid hno
            have HR := Lib.hid (hrow.drewN 1)
            clear hno hch hc hrow
            by_cases hin : InR (q : Int) 1 3
            · have hl1 : ∀ W, Calls Try.prog 47 #[.int .i64 q, .int .i64 1, .int .i64 3] W (Same W (.bool true)) := fun W => by rw [← B_true hin]; exact l1In_any _ _ _ _
              have HI := Lib.hid hin
              have HL1 := Lib.hid hl1
              clear hin hl1
              go_wp2
              go_region_held3 (fun w' => w'.cell? ⟨w.heap.size, 0, none⟩ = some (.int .i64 p) ∧ w'.cell? ⟨w.heap.size, 2, none⟩ = some (.slice (some ⟨b, off, none⟩) m d) ∧ w'.cell? ⟨b, off + k, none⟩ = some (.slice A' q c'))
                (first | exact ⟨i0, i2, hc0⟩ | exact ⟨keep hbA i0, keep hbA i2, keep hbA hc0⟩)
                (first | (go_at_call 47; refine kV (HL1.out _) ?_) | (go_at_call 66; refine kBV (sPlanOk_any p A' q c' l _ HR.out (by omega)) ?_; intro wA hbA))
              have HA := Lib.hid (HB.out.trans ((Below.drew (Below.refl wr.heap.size wr)).trans (hbA.mono (Nat.le_refl _)) |>.mono HB.out.size))
              clear hbA
              by_cases hpk : PlOk p l
              · rw [B_true hpk]
                have HPK := Lib.hid hpk
                clear hpk
                go_wp2
                go_roundw
                case rel =>
                  refine ⟨k + 1, by omega, by go_num, HA.out, fun j hj => ?_⟩
                  rcases Nat.lt_or_ge j k with h1 | h1
                  · exact HU.out j h1
                  · obtain rfl : j = k := by omega
                    rw [HLk.out]; exact HCH.out.2 ⟨HI.out, HPK.out⟩
                case measure => simp [intOf]; omega
              · rw [B_false hpk]
                have HPK := Lib.hid hpk
                clear hpk
                go_wp2
                go_ret
                exact ⟨ret_b (B_false (HNO.out (fun hh => HPK.out (HCH.out.1 hh).2))).symm, HB1.out.trans (HA.out.mono HB1.out.size)⟩
            · have hl1 : ∀ W, Calls Try.prog 47 #[.int .i64 q, .int .i64 1, .int .i64 3] W (Same W (.bool false)) := fun W => by rw [← B_false hin]; exact l1In_any _ _ _ _
              have HI := Lib.hid hin
              have HL1 := Lib.hid hl1
              clear hin hl1
              go_wp2
              go_quiet ((go_at_call 47; exact qS (HL1.out _)))
              go_wp2
              go_ret
              exact ⟨ret_b (B_false (HNO.out (fun hh => HI.out (HCH.out.1 hh).1))).symm, below_drewN (HB1.out.trans (HB.out.mono HB1.out.size)) _⟩
          · go_wp2
            go_ret
            obtain rfl : k = m := by omega
            exact ⟨ret_b (B_true ⟨hp.out, by rw [HL.out]; exact h12, by rw [HG.out]; exact h4, by rw [HG.out]; exact HU.out⟩).symm, HB1.out.trans (HB.out.mono HB1.out.size)⟩
      · go_wp2
        go_ret
        exact ⟨ret_b (B_false (fun hh => h4 (by rw [← HG.out]; exact hh.2.2.1))).symm, HB1.out⟩
    · go_wp2
      go_ret
      exact ⟨ret_b (B_false (fun hh => h12 (by rw [← HL.out]; exact hh.2.1))).symm, HB1.out⟩
  · intro w1 hp hb1
    go_wp2
    go_ret
    exact ⟨ret_b (B_false (fun hh => hp.out hh.1)).symm, hB0.trans (hb1.mono hB0.size)⟩

end Go.Proofs.Ytopfhlopicjemaa
