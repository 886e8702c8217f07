/- Terms with their brackets moved to the left, by the program: (*part).together, (*part).left. -/
import Derived.Test.YtookhelfbnhadaaN6
import Derived.Test.YtookhelfbnhadaaMC
import Derived.Deep.RegionHeldLaw
import Derived.Deep.DrawnRows
namespace Go.Proofs.Ytookhelfbnhadaa
open Go.RowKit
attribute [local go_sem ↓] Go.wp_at_zero Go.wp_at_succ

/-- A tree in old and in new memory. -/
abbrev OldNew (W N : Nat) (row : Option Nat) (b : Nat) : Prop := b < W ∨ (N ≤ b ∧ some b ≠ row)
/-- What left leaves. -/
def LeftOut (W : Nat) (w : World) (t : Tm) (e : Ending) (w' : World) : Prop := ∃ a, e = .returned (.pointer (some a)) ∧ Pt (OldNew W w.heap.size none) w' t a ∧ Below w.heap.size w w'
theorem kLeft {Pr : Program} {f : FuncId} {args : Array Value} {w : World} {R : Ending → World → Prop} {W : Nat} {t : Tm} (h : Calls Pr f args w (LeftOut W w t))
    (h1 : ∀ a w', Pt (OldNew W w.heap.size none) w' t a → Below w.heap.size w w' → R (.returned (.pointer (some a))) w') : Calls Pr f args w R :=
  h.mono fun e w' ⟨a, he, hi, hb⟩ => by subst he; exact h1 a w' hi hb
/-- What together leaves. -/
def TogOut (W : Nat) (w : World) (ts : List Tm) (e : Ending) (w' : World) : Prop :=
  ∃ (A : Option Addr) (c : Nat) (qs : List Addr), e = .returned (.slice A ts.length c) ∧ w'.ownsRow w.heap.size 54 1 (.slice A ts.length c) ts.length (vP qs) ∧
    (∀ j, j < ts.length → Pt (OldNew W w.heap.size (Value.slice A ts.length c).ownBlock) w' (ts.getD j dflt) (qs.getD j a0)) ∧ Below w.heap.size w w'
theorem kTog {Pr : Program} {f : FuncId} {args : Array Value} {w : World} {R : Ending → World → Prop} {W : Nat} {ts : List Tm} (h : Calls Pr f args w (TogOut W w ts))
    (h1 : ∀ A c qs w', w'.ownsRow w.heap.size 54 1 (.slice A ts.length c) ts.length (vP qs) → (∀ j, j < ts.length → Pt (OldNew W w.heap.size (Value.slice A ts.length c).ownBlock) w' (ts.getD j dflt) (qs.getD j a0)) → Below w.heap.size w w' → R (.returned (.slice A ts.length c)) w') : Calls Pr f args w R :=
  h.mono fun e w' ⟨A, c, qs, he, hr, ht, hb⟩ => by subst he; exact h1 A c qs w' hr ht hb

theorem own_ptrsTT {w : World} {base g c n : Nat} {e : TypeId} {ps : List Addr} (h : w.ownsRow base e 1 (.slice (some ⟨g, 0, none⟩) n c) n (vP ps)) : PtrsAt TT w (some ⟨g, 0, none⟩) n ps := by
  obtain ⟨A', c', e, _, hp, _⟩ := own_ptrs (D := TT) h (fun _ _ => trivial)
  cases e; exact hp
theorem node1 {w : World} {D : Nat → Prop} {x : Tm} {h : Int} {ax : Addr} {t4 tp : TypeId} {q r : Nat} (hq : w.heap.size = q) (hr : r = q + 1) (hx : Pt D w x ax) (h0 : D q) (h1 : D r) :
    Pt D ((w.alloc (.cells #[.pointer (some ax)] tp)).alloc (.cells #[.int .i64 3, .int .i64 0, .int .i64 h, .slice (some ⟨q, 0, none⟩) 1 1] t4)) (.one x h) ⟨r, 0, none⟩ := by
  subst hr
  subst hq
  have e1 : w.heap.size + 1 = (w.alloc (.cells #[.pointer (some ax)] tp)).heap.size := by simp
  have hb : Below w.heap.size w ((w.alloc (.cells #[.pointer (some ax)] tp)).alloc (.cells #[.int .i64 3, .int .i64 0, .int .i64 h, .slice (some ⟨w.heap.size, 0, none⟩) 1 1] t4)) := ((Below.refl _ _).alloc (Nat.le_refl _) _).alloc (by simp) _
  refine ⟨ax, ⟨w.heap.size + 1, 0, some ⟨w.heap.size, 0, none⟩, 1, rfl, h1, ?_, ?_, ?_, ?_, rfl, fun _ => ⟨w.heap.size, 0, rfl, h0, fun j hj => ?_⟩⟩, hx.below hb⟩
  · rw [e1, World.cell?_alloc_new]; rfl
  · rw [e1, World.cell?_alloc_new]; rfl
  · rw [e1, World.cell?_alloc_new]; rfl
  · rw [e1, World.cell?_alloc_new]; rfl
  · obtain rfl : j = 0 := by simp at hj; exact hj
    exact keep ((Below.refl _ _).alloc (Nat.le_refl _) _) (by rw [World.cell?_alloc_new]; rfl)
theorem node2 {w : World} {D : Nat → Prop} {x y : Tm} {k : Int} {ax ay : Addr} {t4 tp : TypeId} {q r : Nat} (hq : w.heap.size = q) (hr : r = q + 1) (hx : Pt D w x ax) (hy : Pt D w y ay) (h0 : D q) (h1 : D r) :
    Pt D ((w.alloc (.cells #[.pointer (some ax), .pointer (some ay)] tp)).alloc (.cells #[.int .i64 k, .int .i64 0, .int .i64 0, .slice (some ⟨q, 0, none⟩) 2 2] t4)) (.two k x y) ⟨r, 0, none⟩ := by
  subst hr
  subst hq
  have e1 : w.heap.size + 1 = (w.alloc (.cells #[.pointer (some ax), .pointer (some ay)] tp)).heap.size := by simp
  have hb : Below w.heap.size w ((w.alloc (.cells #[.pointer (some ax), .pointer (some ay)] tp)).alloc (.cells #[.int .i64 k, .int .i64 0, .int .i64 0, .slice (some ⟨w.heap.size, 0, none⟩) 2 2] t4)) := ((Below.refl _ _).alloc (Nat.le_refl _) _).alloc (by simp) _
  refine ⟨ax, ay, ⟨w.heap.size + 1, 0, some ⟨w.heap.size, 0, none⟩, 2, rfl, h1, ?_, ?_, ?_, ?_, rfl, fun _ => ⟨w.heap.size, 0, rfl, h0, fun j hj => ?_⟩⟩, hx.below hb, hy.below hb⟩
  · rw [e1, World.cell?_alloc_new]; rfl
  · rw [e1, World.cell?_alloc_new]; rfl
  · rw [e1, World.cell?_alloc_new]; rfl
  · rw [e1, World.cell?_alloc_new]; rfl
  · match j, hj with
    | 0, _ => exact keep ((Below.refl _ _).alloc (Nat.le_refl _) _) (by rw [World.cell?_alloc_new]; rfl)
    | 1, _ => exact keep ((Below.refl _ _).alloc (Nat.le_refl _) _) (by rw [World.cell?_alloc_new]; rfl)
theorem Pt.lt {D : Nat → Prop} {w : World} {t : Tm} {a : Addr} (h : Pt D w t a) : Pt (fun b => D b ∧ b < w.heap.size) w t a := h.weaken fun b hl hd => ⟨hd, hl⟩

set_option maxRecDepth 100000 in
set_option maxHeartbeats 2000000 in
theorem left_step (l h : Int) (W : Nat) (a : Addr) (w : World) (hp : Pt (fun b => b < W) w (.step l h) a) : Calls Try.prog 60 #[.pointer (some a)] w (LeftOut W w (leftT (.step l h))) := by
  rw [leftT_step]
  have HP := Lib.hid hp
  obtain ⟨b, off, A, c, rfl, c0, c1, c2, c3⟩ := hp.openStep
  clear hp
  go_enter Try.func60, Try.ntmps60
  go_wp2
  go_ret
  exact ⟨_, rfl, HP.out.weaken fun b _ hb => .inl hb, Below.refl _ _⟩

set_option maxRecDepth 100000 in
set_option maxHeartbeats 4000000 in
theorem left_one (x : Tm) (h : Int) (W : Nat) (ih : ∀ (a : Addr) (w : World), W ≤ w.heap.size → Pt (fun b => b < W) w x a → Calls Try.prog 60 #[.pointer (some a)] w (LeftOut W w (leftT x)))
    (a : Addr) (w : World) (hW : W ≤ w.heap.size) (hp : Pt (fun b => b < W) w (.one x h) a) : Calls Try.prog 60 #[.pointer (some a)] w (LeftOut W w (leftT (.one x h))) := by
  rw [leftT_one]
  obtain ⟨b, off, kb, ko, c, ax, rfl, c0, c1, c2, c3, k0, hx⟩ := hp.openOne
  have HX := Lib.hid hx
  have IH := Lib.hid ih
  have hbl : b < w.heap.size := cell_lt c0
  have hkl : kb < w.heap.size := cell_lt k0
  have C0 := Lib.hid c0
  have C1 := Lib.hid c1
  have C2 := Lib.hid c2
  have C3 := Lib.hid c3
  have K0 := Lib.hid k0
  clear hp hx ih
  go_enter Try.func60, Try.ntmps60
  go_wp2_with (fail)
  go_region_held_law (fun w' => w'.cell? ⟨b, off, none⟩ = some (.int .i64 3) ∧ w'.cell? ⟨b, off + 1, none⟩ = some (.int .i64 0) ∧ w'.cell? ⟨b, off + 2, none⟩ = some (.int .i64 h) ∧ w'.cell? ⟨b, off + 3, none⟩ = some (.slice (some ⟨kb, ko, none⟩) 1 c) ∧ w'.cell? ⟨kb, ko, none⟩ = some (.pointer (some ax)))
    (first | exact ⟨c0, c1, c2, c3, k0⟩ | exact ⟨keep hbA C0.out, keep hbA C1.out, keep hbA C2.out, keep hbA C3.out, keep hbA K0.out⟩ | exact ⟨keep (hbA.alloc hbA.size _) C0.out, keep (hbA.alloc hbA.size _) C1.out, keep (hbA.alloc hbA.size _) C2.out, keep (hbA.alloc hbA.size _) C3.out, keep (hbA.alloc hbA.size _) K0.out⟩ | exact ⟨keep ((hbA.alloc hbA.size _).alloc (by have := hbA.size; simp; omega) _) C0.out, keep ((hbA.alloc hbA.size _).alloc (by have := hbA.size; simp; omega) _) C1.out, keep ((hbA.alloc hbA.size _).alloc (by have := hbA.size; simp; omega) _) C2.out, keep ((hbA.alloc hbA.size _).alloc (by have := hbA.size; simp; omega) _) C3.out, keep ((hbA.alloc hbA.size _).alloc (by have := hbA.size; simp; omega) _) K0.out⟩)
    (first
      | (go_at_call 60; with_reducible refine kLeft (IH.out ax _ ?_ ?_) ?_; first | exact hW | simpa using hW; exact HX.out.below (by repeat (first | exact Below.refl _ _ | refine Below.alloc ?_ (by simp) _ | apply Below.drew)); intro aN wA hpA hbA'
         have hbA : Below w.heap.size w wA := Below.trans (show Below w.heap.size w _ from (by repeat (first | exact Below.refl _ _ | refine Below.alloc ?_ (by simp) _ | apply Below.drew))) (hbA'.mono (by simp))))
  all_goals
    go_wp2
    go_ret
    refine ⟨_, rfl, node1 rfl rfl (hpA.weaken fun b _ hb => hb.imp id fun h => ⟨by simpa using h.1, h.2⟩) ?_ ?_, (hbA.alloc hbA.size _).alloc (by have := hbA.size; simp; omega) _⟩
    · exact .inr ⟨hbA.size, by simp⟩
    · exact .inr ⟨by have := hbA.size; omega, by simp⟩

/-- A part of another kind: itself alone. -/
theorem together_other (t : Tm) (kk : Int) (W : Nat) (hk : (markT t).1 ≠ kk) (hps : partsT t kk = [leftT t]) (ih : ∀ (a : Addr) (w : World), W ≤ w.heap.size → Pt (fun b => b < W) w t a → Calls Try.prog 60 #[.pointer (some a)] w (LeftOut W w (leftT t)))
    (a : Addr) (w : World) (hW : W ≤ w.heap.size) (hp : Pt (fun b => b < W) w t a) : Calls Try.prog 80 #[.pointer (some a), .int .i64 kk] w (TogOut W w (partsT t kk)) := by
  rw [hps]
  have HP := Lib.hid hp
  obtain ⟨b, off, A, c, ps, rfl, _, c0, c1, c2, c3, hpt, hpl, hkk⟩ := hp.open
  obtain ⟨k0, HK0⟩ : ∃ q, Hid ((markT t).1 = q) := ⟨_, rfl⟩
  rw [HK0.out] at c0 hk
  have hkb : (k0 != kk) = true := by simpa using hk
  have HC := Lib.hid ih
  have hTl : (leftT t :: []).length = 1 := rfl
  obtain ⟨R, HR⟩ : ∃ q, Hid (leftT t = q) := ⟨_, rfl⟩
  rw [HR.out] at HC ⊢
  clear hp ih c1 c2 c3 hk hps hpt hpl hkk hTl
  go_enter Try.func80, Try.ntmps80
  go_wp2_with (fail)
  refine kLeft (HC.out _ _ hW HP.out) ?_
  intro aN w1 hpA hb1
  have HA := Lib.hid hpA
  have HB1 := Lib.hid hb1
  clear hpA hb1
  go_wp2
  go_ret
  refine ⟨some ⟨w1.heap.size, 0, none⟩, 1, [aN], rfl, own_lit w1 w.heap.size 54 1 #[.pointer (some aN)] 1 HB1.out.size (by decide) rfl, fun j hj => ?_, HB1.out.alloc HB1.out.size _⟩
  obtain rfl : j = 0 := by simp at hj; exact hj
  refine Pt.keep (fun b o v hd hv => ⟨keep ((Below.refl _ _).alloc (Nat.le_refl _) _) hv, ?_⟩) HA.out
  rcases hd with h | h
  · exact .inl h
  · refine .inr ⟨h.1, fun e => ?_⟩
    have hl := cell_lt hv
    simp only [Value.ownBlock] at e
    cases e
    exact absurd hl (Nat.lt_irrefl _)

set_option maxRecDepth 100000 in
set_option maxHeartbeats 8000000 in
theorem together_same (k : Int) (x y : Tm) (wf : Wf (.two k x y)) (hlen : (marksOf (.two k x y)).length ≤ 1000) (W : Nat)
    (ihx : ∀ (a : Addr) (w : World), W ≤ w.heap.size → Pt (fun b => b < W) w x a → Calls Try.prog 80 #[.pointer (some a), .int .i64 k] w (TogOut W w (partsT x k)))
    (ihy : ∀ (a : Addr) (w : World), W ≤ w.heap.size → Pt (fun b => b < W) w y a → Calls Try.prog 80 #[.pointer (some a), .int .i64 k] w (TogOut W w (partsT y k)))
    (a : Addr) (w : World) (hW : W ≤ w.heap.size) (hp : Pt (fun b => b < W) w (.two k x y) a) : Calls Try.prog 80 #[.pointer (some a), .int .i64 k] w (TogOut W w (partsT (.two k x y) k)) := by
  rw [partsT_same]
  obtain ⟨b, off, kb, ko, c, ax, ay, rfl, c0, c1, c2, c3, k0, k1, hx, hy⟩ := hp.openTwo
  have HX := Lib.hid hx
  have HY := Lib.hid hy
  have IHX := Lib.hid ihx
  have IHY := Lib.hid ihy
  have hkb : (k != k) = false := by simp
  have hbl : b < w.heap.size := cell_lt c0
  have hkl : kb < w.heap.size := cell_lt k0
  have hpx := List.length_pos_iff.2 (parts_ne x k)
  have hpy := List.length_pos_iff.2 (parts_ne y k)
  have hll : (partsT x k).length + (partsT y k).length ≤ 2000 := by
    have h1 := (left_marks_parts x).2 k
    have h2 := parts_len_le (partsT x k)
    have h3 := (left_marks_parts y).2 k
    have h4 := parts_len_le (partsT y k)
    rw [marksOf, List.length_append, List.length_append, List.length_singleton] at hlen
    omega
  have HLEN := Lib.hid (show (partsT x k ++ partsT y k).length = (partsT x k).length + (partsT y k).length from List.length_append)
  have HG1 := Lib.hid (show ∀ j, j < (partsT x k).length → (partsT x k ++ partsT y k).getD j dflt = (partsT x k).getD j dflt from fun j hj => by simp [List.getD, List.getElem?_append_left hj])
  have HG2 := Lib.hid (show ∀ j, (partsT x k ++ partsT y k).getD ((partsT x k).length + j) dflt = (partsT y k).getD j dflt from fun j => by simp [List.getD, List.getElem?_append_right])
  obtain ⟨TT1, HT⟩ : ∃ q, Hid (partsT x k ++ partsT y k = q) := ⟨_, rfl⟩
  rw [HT.out] at HLEN HG1 HG2 ⊢
  obtain ⟨T1, HT1⟩ : ∃ q, Hid (partsT x k = q) := ⟨_, rfl⟩
  obtain ⟨T2, HT2⟩ : ∃ q, Hid (partsT y k = q) := ⟨_, rfl⟩
  rw [HT1.out] at HLEN HG1 HG2 hpx hll IHX
  rw [HT2.out] at HLEN HG2 hpy hll IHY
  have C3 := Lib.hid c3
  have K0 := Lib.hid k0
  have K1 := Lib.hid k1
  clear hp hx hy ihx ihy c1 c2
  go_enter Try.func80, Try.ntmps80
  go_wp2_with (fail)
  go_region_held_law (fun w' => w'.cell? ⟨b, off + 3, none⟩ = some (.slice (some ⟨kb, ko, none⟩) 2 c) ∧ w'.cell? ⟨kb, ko, none⟩ = some (.pointer (some ax)) ∧ w'.cell? ⟨kb, ko + 1, none⟩ = some (.pointer (some ay)))
    (first | exact ⟨c3, k0, k1⟩ | exact ⟨keep HB4.out C3.out, keep HB4.out K0.out, keep HB4.out K1.out⟩ | exact ⟨keep HB3.out C3.out, keep HB3.out K0.out, keep HB3.out K1.out⟩ | exact ⟨keep HBB.out C3.out, keep HBB.out K0.out, keep HBB.out K1.out⟩)
    (first
      | (go_at_call 80; with_reducible refine kTog (IHX.out ax _ ?_ ?_) ?_; first | exact hW | simpa using hW; exact HX.out.below (by repeat (first | exact Below.refl _ _ | refine Below.alloc ?_ (by simp) _ | apply Below.drew))
         intro A1 c1' qs1 w3 hown1 hpt1 hb3
         have HO3 := Lib.hid hown1
         have HP3 := Lib.hid hpt1
         have HB3 := Lib.hid (Below.trans (show Below w.heap.size w _ from (by repeat (first | exact Below.refl _ _ | refine Below.alloc ?_ (by simp) _ | apply Below.drew))) (hb3.mono (by simp))))
      | (go_at_call 80; with_reducible refine kTog (IHY.out ay _ ?_ ?_) ?_; exact Nat.le_trans hW HB3.out.size; exact HY.out.below HB3.out
         intro A2 c2' qs2 w4 hown2 hpt2 hb4
         have HO3' := Lib.hid (own_base (own_below HO3.out hb4) (show w.heap.size ≤ _ from by simp))
         have HP3' := Lib.hid (fun j hj => (HP3.out j hj).below hb4)
         have HP4 := Lib.hid hpt2
         have HB4 := Lib.hid (HB3.out.trans (hb4.mono HB3.out.size))
         have h34 := Lib.hid hb4.size
         obtain ⟨g2, rfl, hg2a, hg2⟩ := own_cellsD hown2 hpy
         have HO4 := Lib.hid hown2)
      | (refine step_app rowP (by rfl) _ _ (by rfl) w.heap.size _ T1.length (vP qs1) (by rfl) HO3'.out ⟨g2, 0, none⟩ T2.length c2' (vP qs2) (by rfl) HO4.out.1 (PtrsAt.news (D := TT) (own_ptrsTT HO4.out)) (vP_one _) hpy (by omega) HB4.out.size ?_
         intro g' cap' wB hownB hgrow hat hltB
         have HBB := Lib.hid (HB4.out.grown hgrow HB4.out.size (fun k hk => (HO3'.out.lt k hk).1))))
  all_goals
    go_wp2
    go_ret
    have hl2 := HLEN.out
    have hq1 : qs1.length = T1.length := by have := HO3.out.1; rw [vP_len] at this; omega
    have hr1 := HO3.out.lt
    have hr3 := HO3'.out.lt
    have hs34 := h34.out
    have hB3s := HB3.out.size
    refine ⟨some ⟨g', 0, none⟩, cap', qs1 ++ qs2, by rw [hl2]; first | (simp; done) | rfl, by rw [hl2, vP_append]; exact hownB, fun j hj => ?_, HBB.out⟩
    rw [hl2] at hj ⊢
    rcases Nat.lt_or_ge j T1.length with h1 | h1
    · have e2 : (qs1 ++ qs2).getD j a0 = qs1.getD j a0 := by simp [List.getD, List.getElem?_append_left (show j < qs1.length by omega)]
      rw [HG1.out j h1, e2]
      refine Pt.keep (fun b o v hd hv => ?_) (HP3'.out j h1)
      have hlb := cell_lt hv
      have hne : some b ≠ (Value.slice A1 T1.length c1').ownBlock := by
        rcases hd with hd | hd
        · intro e; have := (hr3 b e.symm).1; omega
        · exact hd.2
      refine ⟨hgrow.cell hv hne, ?_⟩
      rcases hd with hd | hd
      · exact .inl hd
      · refine .inr ⟨by have := hd.1; simp at this ⊢; omega, fun e => ?_⟩
        simp only [Value.ownBlock] at e
        cases e
        rcases hat with h3 | h3
        · exact hne h3.symm
        · subst h3; exact absurd hlb (Nat.lt_irrefl _)
    · obtain ⟨i, rfl⟩ : ∃ i, j = T1.length + i := ⟨j - T1.length, by omega⟩
      have e2 : (qs1 ++ qs2).getD (T1.length + i) a0 = qs2.getD i a0 := by rw [← hq1]; simp [List.getD, List.getElem?_append_right]
      rw [HG2.out i, e2]
      refine Pt.keep (fun b o v hd hv => ?_) (HP4.out i (by omega))
      have hlb := cell_lt hv
      have hne : some b ≠ (Value.slice A1 T1.length c1').ownBlock := by
        intro e
        have h5 := hr1 b e.symm
        have h6 := hr3 b e.symm
        rcases hd with hd | hd
        · omega
        · have := hd.1; omega
      refine ⟨hgrow.cell hv hne, ?_⟩
      rcases hd with hd | hd
      · exact .inl hd
      · refine .inr ⟨by have := hd.1; omega, fun e => ?_⟩
        simp only [Value.ownBlock] at e
        cases e
        rcases hat with h3 | h3
        · exact hne h3.symm
        · subst h3; exact absurd hlb (Nat.lt_irrefl _)

set_option maxRecDepth 100000 in
set_option maxHeartbeats 8000000 in
theorem left_two (k : Int) (x y : Tm) (wf : Wf (.two k x y)) (hlen : (marksOf (.two k x y)).length ≤ 1000) (W : Nat)
    (ihp : ∀ (a : Addr) (w : World), W ≤ w.heap.size → Pt (fun b => b < W) w (.two k x y) a → Calls Try.prog 80 #[.pointer (some a), .int .i64 k] w (TogOut W w (partsT (.two k x y) k)))
    (a : Addr) (w : World) (hW : W ≤ w.heap.size) (hp : Pt (fun b => b < W) w (.two k x y) a) : Calls Try.prog 60 #[.pointer (some a)] w (LeftOut W w (leftT (.two k x y))) := by
  have HJ := Lib.hid (show leftT (.two k x y) = joinT k (partsT (.two k x y) k) by rw [leftT_two, partsT_same])
  rw [HJ.out]
  have hT0 := List.length_pos_iff.2 (parts_ne (.two k x y) k)
  have htl : (partsT (.two k x y) k).length ≤ 2000 := by
    have h1 := (left_marks_parts (.two k x y)).2 k
    have h2 := parts_len_le (partsT (.two k x y) k)
    omega
  have HP := Lib.hid hp
  obtain ⟨b, off, kb, ko, c, ax, ay, rfl, c0, c1, c2, c3, k0, k1, -, -⟩ := hp.openTwo
  have hbl : b < w.heap.size := cell_lt c0
  have hkl : kb < w.heap.size := cell_lt k0
  have HIP := Lib.hid ihp
  obtain ⟨T, HT⟩ : ∃ q, Hid (partsT (.two k x y) k = q) := ⟨_, rfl⟩
  rw [HT.out] at HIP hT0 htl ⊢
  obtain ⟨tl, HTL⟩ : ∃ q, Hid (T.length = q) := ⟨_, rfl⟩
  have hq0 : (k == 0) = false := by have := wf.1; simp; omega
  have hq3 : (k == 3) = false := by have := wf.1; simp; omega
  have C0 := Lib.hid c0
  have C1 := Lib.hid c1
  have C2 := Lib.hid c2
  clear hp ihp c3 k0 k1
  go_enter Try.func60, Try.ntmps60
  go_wp2_with (fail)
  refine kTog (HIP.out _ _ hW HP.out) ?_
  intro A1 c1' qs w1 hown hpt hb1
  have hq1 : qs.length = T.length := by have := hown.1; rw [vP_len] at this; omega
  rw [HTL.out] at hown hpt hT0 htl hq1 ⊢
  obtain ⟨g, rfl, hga, hgl⟩ := own_cellsD hown hT0
  have HO := Lib.hid hown
  have hroom : tl ≤ c1' := by obtain ⟨A', c'', e, hc, _⟩ := own_cells hown; cases e; exact hc
  have HPT := Lib.hid hpt
  have HB1 := Lib.hid hb1
  have HQ := Lib.hid hq1
  have hc0 := hown.cellAt 0 (by omega)
  have hv0 : (vP qs)[0]? = some (.pointer (some (qs.getD 0 a0))) := by
    have : 0 < qs.length := by omega
    simp [vP, List.getD, this]
  rw [hv0] at hc0
  clear hown hpt hb1 hv0 hq1 c0 c1 c2
  have c0 := keep HB1.out C0.out
  have c1 := keep HB1.out C1.out
  have c2 := keep HB1.out C2.out
  obtain ⟨q0, HQ0⟩ : ∃ z, Hid (qs.getD 0 a0 = z) := ⟨_, rfl⟩
  rw [HQ0.out] at hc0
  have hI1 : (1 : Int) ≤ (tl : Int) := by omega
  have hI2 : (tl : Int) ≤ (c1' : Int) := by omega
  have hT1 := Lib.hid (show joinT k (T.take 1) = T.getD 0 dflt by
    cases hTT : T with
    | nil => rw [hTT] at HTL; have := HTL.out; simp at this; omega
    | cons z zs => simp [joinT_one])
  have HQQ := Lib.hid (show ∀ j, j < tl → w1.cell? ⟨g, j, none⟩ = some (.pointer (some (qs.getD j a0))) from fun j hj => by
    have h1 := HO.out.cellAt j (by omega)
    have h2 : j < qs.length := by rw [HQ.out]; exact hj
    have h3 : (vP qs)[j]? = some (.pointer (some (qs.getD j a0))) := by simp [vP, List.getD, h2]
    rw [h3] at h1; exact h1)
  by_cases h1c : c1' = 1
  · obtain rfl : tl = 1 := by omega
    subst h1c
    have HFIN := Lib.hid (show LeftOut W w (joinT k T) (.returned (.pointer (some q0))) w1 from by
      have h1 := HPT.out 0 (by omega)
      rw [← hT1.out, HQ0.out, List.take_of_length_le (by rw [HTL.out]; exact Nat.le_refl _)] at h1
      exact ⟨_, rfl, h1.weaken fun b _ hb => hb.imp id fun h => ⟨h.1, by simp⟩, HB1.out⟩)
    go_wp2_with (fail)
    refine wp_loop_rounds 1 ?_
    rw [rounds_succ]
    go_wp2
    go_ret
    exact HFIN.out
  go_wp2_with (fail)
  go_loopw [4, 6, 44] (fun o _ i wr => ∃ (j : Nat) (q : Addr), j + 1 ≤ tl ∧ i = .int .i64 j ∧ o = .pointer (some q) ∧ Pt (OldNew W w.heap.size none) wr (joinT k (T.take (j + 1))) q ∧ Below w1.heap.size w1 wr) (fun _ _ i _ => tl - (intOf i).toNat)
  case atStart => exact ⟨0, q0, by omega, rfl, rfl, by rw [hT1.out, ← HQ0.out]; exact (HPT.out 0 hT0).weaken fun b _ hb => hb.imp id fun h => ⟨h.1, by simp⟩, Below.refl _ _⟩
  case round =>
    obtain ⟨wo, rfl⟩ : ∃ wo : World, wo = wr := ⟨_, rfl⟩
    obtain ⟨j, q, hj, rfl, rfl, hpq, hb⟩ := hrel
    have HPQ := Lib.hid hpq
    have HB := Lib.hid hb
    have hs1 := HB1.out.size
    have hs2 := hb.size
    replace c0 := keep hb c0
    replace c1 := keep hb c1
    replace c2 := keep hb c2
    clear hpq hb hc0
    by_cases hlt : j + 1 < tl
    · have hcj := keep HB.out (HQQ.out (j + 1) hlt)
      have hcj2 : wo.cell? ⟨g, 1 + j, none⟩ = some (.pointer (some (qs.getD (j + 1) a0))) := by rw [Nat.add_comm]; exact hcj
      have HPJ := Lib.hid (((HPT.out (j + 1) hlt).below HB.out).weaken (D' := OldNew W w.heap.size none) fun b _ hb => hb.imp id fun h => ⟨h.1, by simp⟩)
      have HST := Lib.hid (show joinT k (T.take (j + 1 + 1)) = .two k (joinT k (T.take (j + 1))) (T.getD (j + 1) dflt) by
        have h1 : j + 1 < T.length := by rw [HTL.out]; exact hlt
        have htne : T.take (j + 1) ≠ [] := fun e => by
          have h2 : (T.take (j + 1)).length = 0 := by rw [e]; rfl
          rw [List.length_take, HTL.out] at h2; omega
        rw [List.take_succ_eq_append_getElem h1, joinT_snoc k _ _ htne]
        simp [List.getD, h1])
      obtain ⟨qj, HQJ⟩ : ∃ z, Hid (qs.getD (j + 1) a0 = z) := ⟨_, rfl⟩
      rw [HQJ.out] at hcj hcj2 HPJ
      have hjI : (j : Int) < (tl : Int) - 1 := by omega
      have hjI0 : (0 : Int) ≤ (j : Int) := by omega
      have hgo : g < wo.heap.size := by omega
      go_wp2
      go_roundw
      case rel =>
        refine ⟨j + 1, ⟨wo.heap.size + 1, 0, none⟩, by omega, by go_num, by first | rfl | simp, ?_, (HB.out.alloc HB.out.size _).alloc (by simp; omega) _⟩
        rw [HST.out]
        exact node2 rfl rfl HPQ.out HPJ.out (.inr ⟨by omega, by simp⟩) (.inr ⟨by omega, by simp⟩)
      case measure => simp [intOf]; omega
    · obtain rfl : j + 1 = tl := by omega
      go_wp2
      go_ret
      have h1 := HPQ.out
      rw [List.take_of_length_le (by rw [HTL.out]; exact Nat.le_refl _)] at h1
      exact ⟨_, rfl, h1, HB1.out.trans (HB.out.mono HB1.out.size)⟩

theorem left_tog (t : Tm) : Wf t → (marksOf t).length ≤ 1000 → ∀ W, (∀ (a : Addr) (w : World), W ≤ w.heap.size → Pt (fun b => b < W) w t a → Calls Try.prog 60 #[.pointer (some a)] w (LeftOut W w (leftT t))) ∧
    ∀ k, (k = 1 ∨ k = 2) → ∀ (a : Addr) (w : World), W ≤ w.heap.size → Pt (fun b => b < W) w t a → Calls Try.prog 80 #[.pointer (some a), .int .i64 k] w (TogOut W w (partsT t k)) := by
  induction t with
  | step l h =>
    intro _ _ W
    have hl : ∀ (a : Addr) (w : World), W ≤ w.heap.size → Pt (fun b => b < W) w (.step l h) a → Calls Try.prog 60 #[.pointer (some a)] w (LeftOut W w (leftT (.step l h))) := fun a w _ hp => left_step l h W a w hp
    exact ⟨hl, fun k hk => together_other _ k W (by simp only [markT]; omega) (partsT_step l h k) hl⟩
  | one x h ih =>
    intro wf hlen W
    have hl := left_one x h W (ih wf.1 (by simp only [marksOf, List.length_append, List.length_singleton] at hlen; omega) W).1
    exact ⟨hl, fun k hk => together_other _ k W (by simp only [markT]; omega) (partsT_one x h k) hl⟩
  | two k0 x y ihx ihy =>
    intro wf hlen W
    have hx := ihx wf.2.1 (by simp only [marksOf, List.length_append, List.length_singleton] at hlen; omega) W
    have hy := ihy wf.2.2 (by simp only [marksOf, List.length_append, List.length_singleton] at hlen; omega) W
    have hp := together_same k0 x y wf hlen W (hx.2 k0 wf.1) (hy.2 k0 wf.1)
    have hl := left_two k0 x y wf hlen W hp
    refine ⟨hl, fun k hk => ?_⟩
    by_cases e : k = k0
    · subst e; exact hp
    · exact together_other _ k W (by simp only [markT]; omega) (partsT_other x y e) hl

end Go.Proofs.Ytookhelfbnhadaa

