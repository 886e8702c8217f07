/- Terms with their brackets moved to the left, by the reference: l13Parts, l13Left. -/
import Derived.Test.YtookhelfbnhadaaQ3
import Derived.Test.YtookhelfbnhadaaO4
import Derived.Test.YtookhelfbnhadaaMG
import Derived.Deep.RegionHeldLaw
import Derived.Deep.DrawnRows
namespace Go.Proofs.Ytookhelfbnhadaa
open Go.RowKit
attribute [local go_sem ↓] Go.wp_at_zero Go.wp_at_succ

theorem parts_len_le (ps : List Tm) : ps.length * 2 ≤ sumM ps := by
  induction ps with
  | nil => simp [sumM]
  | cons p ps ih =>
    have := marks_pos p
    have e : sumM (p :: ps) = ((marksOf p).length + 1) + sumM ps := by simp [sumM]
    rw [e, List.length_cons]; omega
theorem sumM_take_le (ps : List Tm) (j : Nat) : sumM (ps.take j) ≤ sumM ps := by
  have h : ps = ps.take j ++ ps.drop j := (List.take_append_drop j ps).symm
  have h2 := sumM_append (ps.take j) (ps.drop j)
  rw [← h] at h2
  omega
theorem join_take_len (k : Int) (ps : List Tm) (j : Nat) (h0 : 0 < j) (h1 : j ≤ ps.length) : (marksOf (joinT k (ps.take j))).length + 1 ≤ sumM ps := by
  have hne : ps.take j ≠ [] := fun e => by
    have h2 : (ps.take j).length = 0 := by rw [e]; rfl
    rw [List.length_take] at h2; omega
  rw [join_marks k _ hne]
  exact sumM_take_le ps j

theorem rowRR : RowTy Try.prog 74 23 (.slice none 0 0) 1 24 := ⟨Try.underlying74, by kernel_rfl, rfl, by decide, by decide⟩
/-- A call that makes a row of rows of marks, of the trees ts. -/
def NewS (w : World) (ts : List Tm) (e : Ending) (w' : World) : Prop :=
  ∃ (A : Option Addr) (c : Nat) (ps : List Part), e = .returned (.slice A ts.length c) ∧ Rows2 w' w.heap.size A ts.length c ps ∧ ps.map (·.2) = ts.map marksOf ∧ Below w.heap.size w w'
theorem kNewS {Pr : Program} {f : FuncId} {args : Array Value} {w : World} {R : Ending → World → Prop} {ts : List Tm} (h : Calls Pr f args w (NewS w ts))
    (h1 : ∀ A c ps w', Rows2 w' w.heap.size A ts.length c ps → ps.map (·.2) = ts.map marksOf → Below w.heap.size w w' → R (.returned (.slice A ts.length c)) w') : Calls Pr f args w R :=
  h.mono fun e w' ⟨A, c, ps, he, hr, hm, hb⟩ => by subst he; exact h1 A c ps w' hr hm hb
theorem Rows2.base {w : World} {B B' n c : Nat} {A : Option Addr} {ps : List Part} (h : Rows2 w B A n c ps) (hb : B' ≤ B) : Rows2 w B' A n c ps :=
  ⟨own_base h.own hb, fun p hp => ⟨own_base (h.inn p hp).1 hb, (h.inn p hp).2⟩⟩
theorem Rows2.one {w : World} {B q : Nat} (hq : w.heap.size = q) {p : Part} (hB : B ≤ q) (hp : OwnM w B p.1.1 p.2.length p.1.2 p.2) : Rows2 (w.alloc (.cells #[hdV p] 23)) B (some ⟨q, 0, none⟩) 1 1 [p] := by
  subst hq
  refine ⟨own_lit w B _ 1 #[hdV p] 1 hB (by decide) rfl, fun p' hp' => ?_⟩
  obtain rfl := List.mem_singleton.1 hp'
  refine ⟨hp.alloc _, fun g hg e => ?_⟩
  have h1 := (hp.lt g hg).2
  simp only [Value.ownBlock] at e
  cases e
  omega
/-- A row of parts more. -/
theorem Rows2.app2 {w w2 wB : World} {B n c m c2 g cap : Nat} {A A2 : Option Addr} {ps qs : List Part} (h : Rows2 w B A n c ps) (hb : Below w.heap.size w w2) (h2 : Rows2 w2 w.heap.size A2 m c2 qs) (hB : B ≤ w.heap.size)
    (hown : wB.ownsRow B 23 1 (.slice (some ⟨g, 0, none⟩) (n + m) cap) (n + m) (vS ps ++ vS qs)) (hgrow : w2.grownBy wB (Value.slice A n c).ownBlock) (hat : (Value.slice A n c).ownBlock = some g ∨ w2.heap.size ≤ g) :
    Rows2 wB B (some ⟨g, 0, none⟩) (n + m) cap (ps ++ qs) := by
  refine (h.below hb).app (fun q hq => ?_) hown hgrow hat
  have hi := h2.inn q hq
  refine ⟨own_base hi.1 hB, fun k hk e => ?_⟩
  have h3 := (hi.1.lt k hk).1
  have h4 := (h.own.lt k e).2
  omega

set_option maxRecDepth 100000 in
set_option maxHeartbeats 2000000 in
theorem l13Left_step (l h : Int) (A : Option Addr) (n c : Nat) (w : World) (hm : MarksAt w A n (marksOf (.step l h))) (hc : n ≤ c) : Calls Try.prog 61 #[.slice A n c] w (NewM w (marksOf (leftT (.step l h)))) := by
  rw [leftT_step]
  obtain ⟨b, off, rfl⟩ := hm.some (by rw [← hm.len]; simp [marksOf])
  have hm2 := hm
  obtain ⟨-, rfl, c0, c1, c2⟩ := MarksAt.one (x := []) hm2
  simp only [List.length_nil, Nat.zero_mul, Nat.add_zero, Nat.zero_add] at c0 c1 c2 hc ⊢
  have HM := Lib.hid hm
  clear hm hm2
  have hA0 : Below w.heap.size w ((w.alloc (.cells #[.int .i64 0, .int .i64 l, .int .i64 h] 27)).alloc (.cells #[] 27)) := ((Below.refl w.heap.size w).alloc (Nat.le_refl _) _).alloc (by simp) _
  go_enter Try.func61, Try.ntmps61
  go_wp2_with (at_builtin; refine wpl_app rowM rfl _ _ (by rfl) w.heap.size _ 0 (v3 []) (by rfl) (own_lit_at (by simp) w.heap.size _ 3 #[] 0 (by simp <;> omega) (by decide) rfl) ⟨b, off, none⟩ 1 c (v3 [(0, l, h)]) (by rfl) rfl (MarksAt.news (HM.out.below hA0)) (v3_one _) (by decide) (by omega) (by simp <;> omega) ?_; intro g' cap' wB hownB hgrow hat hltB)
  go_wp2
  go_ret
  exact ⟨some ⟨g', 0, none⟩, cap', rfl, hownB, hA0.grown hgrow hA0.size (fun k hk => by cases hk; simp)⟩

set_option maxRecDepth 100000 in
set_option maxHeartbeats 40000000 in
theorem l13Left_one (a : Tm) (h : Int) (ih : ∀ (A : Option Addr) (n c : Nat) (w : World), MarksAt w A n (marksOf a) → n ≤ c → n ≤ 11 → Calls Try.prog 61 #[.slice A n c] w (NewM w (marksOf (leftT a))))
    (A : Option Addr) (n c : Nat) (w : World) (hm : MarksAt w A n (marksOf (.one a h))) (hc : n ≤ c) (hn : n ≤ 11) : Calls Try.prog 61 #[.slice A n c] w (NewM w (marksOf (leftT (.one a h)))) := by
  obtain ⟨b, off, rfl⟩ := hm.some (by rw [← hm.len]; simp [marksOf])
  obtain ⟨ha, rfl, c0, c1, c2⟩ := MarksAt.one hm
  clear hm
  have hlr := leftT_marks a
  have hp0 := marks_pos a
  obtain ⟨R, HR⟩ : ∃ q, Hid (marksOf (leftT a) = q) := ⟨_, rfl⟩
  have HF := Lib.hid (show marksOf (leftT (.one a h)) = R ++ [(3, 0, h)] by rw [leftT_one, marksOf, HR.out])
  rw [HR.out] at hlr ih
  have hlr1 := Nat.le_of_eq hlr
  have hlr2 := Nat.le_of_eq hlr.symm
  clear hlr
  obtain ⟨p, HP⟩ : ∃ q, Hid ((marksOf a).length = q) := ⟨_, rfl⟩
  rw [HP.out] at ha c0 c1 c2 hc hn hlr1 hlr2 hp0 ⊢
  simp only at c0 c1 c2
  have HC := Lib.hid ih
  have hA0 : Below w.heap.size w (w.alloc (.cells #[.int .i64 3, .int .i64 0, .int .i64 h] 27)) := (Below.refl w.heap.size w).alloc (Nat.le_refl _) _
  have HHA := Lib.hid (ha.below hA0)
  obtain ⟨w0, HW0⟩ : ∃ q, Hid (w.alloc (.cells #[.int .i64 3, .int .i64 0, .int .i64 h] 27) = q) := ⟨_, rfl⟩
  have s0 : w0.cell? ⟨w.heap.size, 0, none⟩ = some (.int .i64 3) := HW0.out ▸ by simp [go_sem]
  have s1 : w0.cell? ⟨w.heap.size, 1, none⟩ = some (.int .i64 0) := HW0.out ▸ by simp [go_sem]
  have s2 : w0.cell? ⟨w.heap.size, 2, none⟩ = some (.int .i64 h) := HW0.out ▸ by simp [go_sem]
  rw [HW0.out] at hA0 HHA
  have HB0 := Lib.hid hA0
  have hpI : (p : Int) ≤ (c : Int) := by omega
  have hpI0 : (0 : Int) ≤ (p : Int) := by omega
  clear ih
  go_enter Try.func61, Try.ntmps61
  go_wp2_with (fail)
  rw [HW0.out]
  obtain ⟨sb, HSB⟩ : ∃ q, Hid (w.heap.size = q) := ⟨_, rfl⟩
  rw [HSB.out] at s0 s1 s2 HB0 hA0 ⊢
  go_region_held_law (fun w' => w'.cell? ⟨sb, 0, none⟩ = some (.int .i64 3) ∧ w'.cell? ⟨sb, 1, none⟩ = some (.int .i64 0) ∧ w'.cell? ⟨sb, 2, none⟩ = some (.int .i64 h))
    (first | exact ⟨s0, s1, s2⟩ | exact ⟨keep hbB s0, keep hbB s1, keep hbB s2⟩ | exact ⟨keep (hbA.alloc hbA.size _) s0, keep (hbA.alloc hbA.size _) s1, keep (hbA.alloc hbA.size _) s2⟩ | exact ⟨keep hbA s0, keep hbA s1, keep hbA s2⟩ | exact ⟨keep (show Below w0.heap.size w0 _ from (by repeat (first | exact Below.refl _ _ | refine Below.alloc ?_ (by simp) _ | apply Below.drew))) s0, keep (show Below w0.heap.size w0 _ from (by repeat (first | exact Below.refl _ _ | refine Below.alloc ?_ (by simp) _ | apply Below.drew))) s1, keep (show Below w0.heap.size w0 _ from (by repeat (first | exact Below.refl _ _ | refine Below.alloc ?_ (by simp) _ | apply Below.drew))) s2⟩)
    (first
      | (go_at_call 61; with_reducible refine kNewM (HC.out (some ⟨b, off, none⟩) p c _ ?_ (by omega) (by omega)) ?_; exact HHA.out.below (by repeat (first | exact Below.refl _ _ | refine Below.alloc ?_ (by simp) _ | apply Below.drew)); intro A' c' wA hownA hbA'
         have hbA : Below w0.heap.size w0 wA := Below.trans (show Below w0.heap.size w0 _ from (by repeat (first | exact Below.refl _ _ | refine Below.alloc ?_ (by simp) _ | apply Below.drew))) (hbA'.mono (by simp)))
      | (refine step_app rowM (by rfl) _ _ (by rfl) w0.heap.size _ R.length (v3 R) (by rfl) (by first | exact own_base (own_below hownA (by repeat (first | exact Below.refl _ _ | refine Below.alloc ?_ (by simp) _ | apply Below.drew))) (by simp)) _ 1 1 (v3 [(3, 0, h)]) (by rfl) (by rfl) (by first | exact cell3_at (by simp) _ _ | exact fun j u hu => keep hbA' (cell3_at (by simp) _ _ j u hu)) (v3_one _) (by decide) (by omega) (by have := hbA.size; simp; omega) ?_
         intro g' cap' wB hownB hgrow hat hltB
         have hbB : Below w0.heap.size w0 wB := Below.grown (by first | exact hbA | exact hbA.alloc hbA.size _) hgrow (by have := hbA.size; simp; omega) (fun k hk => by have := (hownA.lt k hk).1; simp at this; omega)))
  all_goals
    simp only [List.getElem_toArray, List.getElem_cons_succ, List.getElem_cons_zero]
    go_wp2
    go_ret
    have hl2 : (marksOf (leftT (.one a h))).length = R.length + 1 := by rw [HF.out]; simp
    have hs := HB0.out.size
    rw [HSB.out] at hs
    refine ⟨some ⟨g', 0, none⟩, cap', by rw [hl2]; first | (simp; done) | rfl, ?_, ?_⟩
    · show World.ownsRow _ _ _ _ _ _ (v3 _)
      rw [hl2, HF.out, v3_append, HSB.out]; exact own_base hownB hs
    · rw [HSB.out]; exact HB0.out.trans (hbB.mono hs)

/-- A part of another kind: its own row alone. -/
theorem l13Parts_other (t : Tm) (kk : Int) (hk : (markT t).1 ≠ kk) (hps : partsT t kk = [leftT t]) (ih : ∀ (A : Option Addr) (n c : Nat) (w : World), MarksAt w A n (marksOf t) → n ≤ c → n ≤ 11 → Calls Try.prog 61 #[.slice A n c] w (NewM w (marksOf (leftT t))))
    (A : Option Addr) (n c : Nat) (w : World) (hm : MarksAt w A n (marksOf t)) (hc : n ≤ c) (hn : n ≤ 11) : Calls Try.prog 81 #[.slice A n c, .int .i64 kk] w (NewS w (partsT t kk)) := by
  rw [hps]
  have hpos := marks_pos t
  have hlen := hm.len
  have hlast := marks_last t
  obtain ⟨m, rfl⟩ : ∃ m, n = m + 1 := ⟨n - 1, by omega⟩
  have hm2 := hm
  obtain ⟨b, off, rfl, c0, c1, c2⟩ := hm2.at_ (k := m) (by omega)
  rw [hlen, Nat.add_sub_cancel] at hlast
  rw [hlast] at c0 c1 c2
  obtain ⟨k0, HK0⟩ : ∃ q, Hid ((markT t).1 = q) := ⟨_, rfl⟩
  rw [HK0.out] at c0 hk
  have hkb : (k0 != kk) = true := by simpa using hk
  have HM := Lib.hid hm
  have HC := Lib.hid ih
  obtain ⟨R, HR⟩ : ∃ q, Hid (marksOf (leftT t) = q) := ⟨_, rfl⟩
  rw [HR.out] at HC
  clear hm hlen hlast hpos ih c1 c2 hk hps
  go_enter Try.func81, Try.ntmps81
  go_wp2_with (fail)
  refine kNewM (HC.out (some ⟨b, off, none⟩) (m + 1) c _ HM.out hc hn) ?_
  intro A' c' w1 hown hb1
  have HO := Lib.hid hown
  have HB1 := Lib.hid hb1
  clear hown hb1
  go_wp2
  go_ret
  exact ⟨some ⟨w1.heap.size, 0, none⟩, 1, [((A', c'), R)], rfl, Rows2.one (p := ((A', c'), R)) rfl HB1.out.size HO.out, by simp [HR.out], HB1.out.alloc HB1.out.size _⟩

set_option maxRecDepth 100000 in
set_option maxHeartbeats 40000000 in
theorem l13Parts_same (k : Int) (x y : Tm) (wf : Wf (.two k x y))
    (ihx : ∀ (A : Option Addr) (n c : Nat) (w : World), MarksAt w A n (marksOf x) → n ≤ c → n ≤ 11 → Calls Try.prog 81 #[.slice A n c, .int .i64 k] w (NewS w (partsT x k)))
    (ihy : ∀ (A : Option Addr) (n c : Nat) (w : World), MarksAt w A n (marksOf y) → n ≤ c → n ≤ 11 → Calls Try.prog 81 #[.slice A n c, .int .i64 k] w (NewS w (partsT y k)))
    (A : Option Addr) (n c : Nat) (w : World) (hm : MarksAt w A n (marksOf (.two k x y))) (hc : n ≤ c) (hn : n ≤ 11) : Calls Try.prog 81 #[.slice A n c, .int .i64 k] w (NewS w (partsT (.two k x y) k)) := by
  rw [partsT_same]
  have hkk := wf.1
  obtain ⟨b, off, rfl⟩ := hm.some (by rw [← hm.len]; exact marks_pos _)
  obtain ⟨hx, hy, rfl, c0, c1, c2⟩ := MarksAt.two hm
  have HAH := Lib.hid (show Ahead (marksOf (.two k x y)) (marksOf x) ((marksOf x).length + (marksOf y).length) 1 from ⟨[y], (by intro z hz; obtain rfl := List.mem_singleton.1 hz; exact wf.2.2), rfl, by rw [allMarks_one, marksOf]; exact List.take_left' (by simp)⟩)
  have hq0 := marks_pos y
  have hp0 := marks_pos x
  have IHX := Lib.hid ihx
  have IHY := Lib.hid ihy
  obtain ⟨p, HP⟩ : ∃ q, Hid ((marksOf x).length = q) := ⟨_, rfl⟩
  obtain ⟨q, HQ⟩ : ∃ q, Hid ((marksOf y).length = q) := ⟨_, rfl⟩
  rw [HP.out] at hx hy c0 c1 c2 hc hn HAH hp0
  rw [HQ.out] at hy c0 c1 c2 hc hn hq0 HAH
  rw [HP.out, HQ.out] at hm ⊢
  have HQP := Lib.hid (show p + q - p = q by omega)
  obtain ⟨r, HRR⟩ : ∃ r, Hid (p + q = r) := ⟨_, rfl⟩
  rw [HRR.out] at c0 c1 c2 hc hn HAH hm HQP ⊢
  have hr1 : p + q ≤ r := by rw [← HRR.out]; exact Nat.le_refl _
  have hr2 : r ≤ p + q := by rw [← HRR.out]; exact Nat.le_refl _
  simp only at c0 c1 c2
  have hcp : ¬ c = p := by omega
  have hI1 : (0 : Int) ≤ (p : Int) := by omega
  have hI2 : (p : Int) ≤ (c : Int) := by omega
  have hI3 : (p : Int) ≤ (r : Int) := by omega
  have hI4 : (r : Int) ≤ (c : Int) := by omega
  have hI5 : (r : Int) < (r : Int) + 1 := by omega
  have hI6 : (r : Int) + 1 ≤ (c : Int) := by omega
  have hI7 : (0 : Int) ≤ (r : Int) := by omega
  have HM := Lib.hid hm
  have HX := Lib.hid hx
  have HY := Lib.hid hy
  clear hm hx hy ihx ihy
  have hkb : (k != k) = false := by simp
  have hpx := List.length_pos_iff.2 (parts_ne x k)
  have hpy := List.length_pos_iff.2 (parts_ne y k)
  have hlx : (partsT x k).length ≤ 12 := by
    have h1 := (left_marks_parts x).2 k
    have h2 := parts_len_le (partsT x k)
    rw [h1, HP.out] at h2
    omega
  have hly : (partsT y k).length ≤ 12 := by
    have h1 := (left_marks_parts y).2 k
    have h2 := parts_len_le (partsT y k)
    rw [h1, HQ.out] at h2
    omega
  have HAPP := Lib.hid (show ((partsT x k ++ partsT y k).map marksOf) = (partsT x k).map marksOf ++ (partsT y k).map marksOf from List.map_append)
  have HLEN := Lib.hid (show (partsT x k ++ partsT y k).length = (partsT x k).length + (partsT y k).length from List.length_append)
  obtain ⟨T, HT⟩ : ∃ q, Hid (partsT x k ++ partsT y k = q) := ⟨_, rfl⟩
  rw [HT.out] at HAPP HLEN ⊢
  obtain ⟨T1, HT1⟩ : ∃ q, Hid (partsT x k = q) := ⟨_, rfl⟩
  obtain ⟨T2, HT2⟩ : ∃ q, Hid (partsT y k = q) := ⟨_, rfl⟩
  rw [HT1.out] at HAPP HLEN hpx hlx IHX
  rw [HT2.out] at HAPP HLEN hpy hly IHY
  go_enter Try.func81, Try.ntmps81
  go_wp2_with (fail)
  refine kV (l11Starts_at (some ⟨b, off, none⟩) (r + 1) c r _ (marksOf x) _ _ HM.out (by omega) (by omega) HAH.out ?_) ?_
  · push_cast; omega
  rw [HP.out]
  go_wp2_with (fail)
  go_region_held_law (fun _ => True) (exact trivial) (first
    | (go_at_call 81; with_reducible refine kNewS (IHX.out (some ⟨b, off, none⟩) p c _ ?_ (by omega) (by omega)) ?_; exact HX.out.below (by repeat (first | exact Below.refl _ _ | refine Below.alloc ?_ (by simp) _ | apply Below.drew))
       intro A1 c1' ps1 wa hr1 hm1 hb1
       have hbw1 : Below w.heap.size w wa := Below.trans (show Below w.heap.size w _ from (by repeat (first | exact Below.refl _ _ | refine Below.alloc ?_ (by simp) _ | apply Below.drew))) (hb1.mono (by simp))
       have HR1 := Lib.hid (hr1.base (show w.heap.size ≤ _ from by simp)))
    | (go_at_call 81; (try rw [HQP.out]); with_reducible refine kNewS (IHY.out (some ⟨b, off + p * 3, none⟩) q (c - p) _ ?_ (by omega) (by omega)) ?_; exact HY.out.below (by first | exact hbw1 | exact hbw1.alloc hbw1.size _)
       intro A2 c2' ps2 wb hr2' hm2 hb2
       have hbw2 : Below w.heap.size w wb := hbw1.trans (hb2.mono hbw1.size)
       have HR2 := Lib.hid hr2'
       have HBB := Lib.hid hb2
       obtain ⟨g2, rfl, hg2a, hg2⟩ := own_cellsD hr2'.own hpy)
    | (refine step_app rowRR (by rfl) _ _ (by rfl) w.heap.size _ T1.length (vS ps1) (by rfl) (own_below HR1.out.own HBB.out) ⟨g2, 0, none⟩ T2.length c2' (vS ps2) (by rfl) (by rw [vS_len, HR2.out.len]) (HR2.out.news rfl) (vS_one _) hpy (by omega) hbw2.size ?_
       intro g' cap' wB hownB hgrow hat hltB
       have HBB' := Lib.hid (hbw2.grown hgrow hbw2.size (fun k hk => (HR1.out.own.lt k hk).1))))
  all_goals
    go_wp2
    go_ret
    have hll := HLEN.out
    refine ⟨some ⟨g', 0, none⟩, cap', ps1 ++ ps2, by rw [hll]; first | (simp; done) | rfl, ?_, ?_, HBB'.out⟩
    · rw [hll]; exact HR1.out.app2 HBB.out HR2.out hbw1.size hownB hgrow (hat.imp id fun h => by omega)
    · rw [HAPP.out, List.map_append, hm1, hm2]

set_option maxRecDepth 100000 in
set_option maxHeartbeats 40000000 in
theorem l13Left_two (k : Int) (x y : Tm) (wf : Wf (.two k x y))
    (ihp : ∀ (A : Option Addr) (n c : Nat) (w : World), MarksAt w A n (marksOf (.two k x y)) → n ≤ c → n ≤ 11 → Calls Try.prog 81 #[.slice A n c, .int .i64 k] w (NewS w (partsT (.two k x y) k)))
    (A : Option Addr) (n c : Nat) (w : World) (hm : MarksAt w A n (marksOf (.two k x y))) (hc : n ≤ c) (hn : n ≤ 11) : Calls Try.prog 61 #[.slice A n c] w (NewM w (marksOf (leftT (.two k x y)))) := by
  have hlm := leftT_marks (.two k x y)
  have hl0 := hm.len
  have hsm := (left_marks_parts (.two k x y)).2 k
  have hpl := parts_len_le (partsT (.two k x y) k)
  have HJ := Lib.hid (show leftT (.two k x y) = joinT k (partsT (.two k x y) k) by rw [leftT_two, partsT_same])
  have hne := parts_ne (.two k x y) k
  obtain ⟨b, off, rfl⟩ := hm.some (by rw [← hm.len]; exact marks_pos _)
  have hm' := hm
  obtain ⟨-, -, hnn, c0, c1, c2⟩ := MarksAt.two hm'
  obtain ⟨r, HRR⟩ : ∃ r, Hid ((marksOf x).length + (marksOf y).length = r) := ⟨_, rfl⟩
  rw [HRR.out] at c0 c1 c2 hnn
  subst hnn
  rw [hl0] at hlm hsm
  simp only at c0 c1 c2
  have hI5 : (r : Int) < (r : Int) + 1 := by omega
  have hI7 : (0 : Int) ≤ (r : Int) := by omega
  obtain ⟨TM, HTM⟩ : ∃ q, Hid (marksOf (.two k x y) = q) := ⟨_, rfl⟩
  rw [HTM.out] at hm ihp
  obtain ⟨T, HT⟩ : ∃ q, Hid (partsT (.two k x y) k = q) := ⟨_, rfl⟩
  rw [HT.out] at hsm hpl hne ihp HJ
  have HIP := Lib.hid ihp
  rw [HJ.out] at hlm ⊢
  have HJM := Lib.hid (fun j (h0 : 0 < j) (h1 : j ≤ T.length) => (by have := join_take_len k T j h0 h1; rw [hsm] at this; omega : (marksOf (joinT k (T.take j))).length ≤ r + 1))
  have hT0 := List.length_pos_iff.2 hne
  obtain ⟨tl, HTL⟩ : ∃ q, Hid (T.length = q) := ⟨_, rfl⟩
  rw [HTL.out] at hT0 hpl HJM
  have htl : tl ≤ 12 := by omega
  have HMM := Lib.hid hm
  clear hm ihp hne hl0
  obtain ⟨w0, HW0⟩ : ∃ q, Hid (w.alloc (.cells #[.int .i64 k, .int .i64 0, .int .i64 0] 27) = q) := ⟨_, rfl⟩
  have HB0 := Lib.hid (show Below w.heap.size w w0 from HW0.out ▸ (Below.refl w.heap.size w).alloc (Nat.le_refl _) _)
  have s0 : w0.cell? ⟨w.heap.size, 0, none⟩ = some (.int .i64 k) := HW0.out ▸ by simp [go_sem]
  have s1 : w0.cell? ⟨w.heap.size, 1, none⟩ = some (.int .i64 0) := HW0.out ▸ by simp [go_sem]
  have s2 : w0.cell? ⟨w.heap.size, 2, none⟩ = some (.int .i64 0) := HW0.out ▸ by simp [go_sem]
  have hq0 : (k == 0) = false := by have := wf.1; simp; omega
  have hq3 : (k == 3) = false := by have := wf.1; simp; omega
  go_enter Try.func61, Try.ntmps61
  go_wp2_with (fail)
  rw [HW0.out]
  obtain ⟨sb, HSB⟩ : ∃ q, Hid (w.heap.size = q) := ⟨_, rfl⟩
  rw [HSB.out] at s0 s1 s2 ⊢
  refine kNewS (HIP.out (some ⟨b, off, none⟩) (r + 1) c _ (HMM.out.below HB0.out) hc hn) ?_
  intro A1 c1' ps w1 hr1 hm1 hb1
  rw [HTL.out] at hr1 ⊢
  have HB1 := Lib.hid (HB0.out.trans (hb1.mono HB0.out.size))
  have HR1 := Lib.hid hr1
  have HPM := Lib.hid hm1
  replace s0 := keep hb1 s0
  replace s1 := keep hb1 s1
  replace s2 := keep hb1 s2
  obtain ⟨g, p0, rfl, hga, hgl, hp0, hc0, -, hin0⟩ := hr1.get (j := 0) hT0
  have HPX := Lib.hid (show ∀ (j : Nat) (p : Part), ps[j]? = some p → ∃ t, T[j]? = some t ∧ p.2 = marksOf t from fun j p hj => by
    have h1 := congrArg (fun l => l[j]?) HPM.out
    simp only [List.getElem?_map, hj, Option.map_some] at h1
    cases ht : T[j]? with
    | none => rw [ht] at h1; cases h1
    | some t => rw [ht] at h1; exact ⟨t, rfl, Option.some.inj h1⟩)
  obtain ⟨t0, ht0, hpt0⟩ := HPX.out 0 p0 hp0
  obtain ⟨⟨A0, cc0⟩, xs0⟩ := p0
  simp only [hdV] at hc0
  simp only at hpt0
  have hx0 : 0 < xs0.length := by rw [hpt0]; exact marks_pos t0
  have hin0' := hin0.1
  simp only at hin0'
  obtain ⟨gp0, rfl, -, hgp0⟩ := own_cellsD hin0' hx0
  have HMX0 := Lib.hid (OwnM.at_ hin0')
  have hj1 := HJM.out 1 (by decide) (by omega)
  have HT1 := Lib.hid (show joinT k (T.take 1) = t0 by
    cases hTT : T with
    | nil => rw [hTT] at ht0; cases ht0
    | cons z zs => rw [hTT] at ht0; simp at ht0; subst ht0; rfl)
  rw [HT1.out, ← hpt0] at hj1
  have HPT0 := Lib.hid hpt0
  clear hb1 hr1 hm1 hin0 hin0' hp0 ht0 hpt0 hlm hsm hpl c0 c1 c2 hm'
  have hcI1 : (tl : Int) ≤ (c1' : Int) := by have := HR1.out.room; omega
  have hw1s : sb < w1.heap.size := cell_lt s0
  go_wp2_with (at_builtin; refine wpl_app rowM rfl _ _ (by rfl) w1.heap.size _ 0 (v3 []) (by rfl) (OwnM.empty w1 _ (Nat.le_refl _)) ⟨gp0, 0, none⟩ xs0.length cc0 (v3 xs0) (by rfl) (v3_len _) (MarksAt.news (HMX0.out.below ((Below.refl _ _).alloc (Nat.le_refl _) _))) (v3_one _) hx0 (by omega) (by simp) ?_; intro g1 cap1 w2 hown2 hgrow2 hat2 hlt2)
  have hb2 : Below w1.heap.size w1 w2 := Below.grown ((Below.refl _ _).alloc (Nat.le_refl _) _) hgrow2 (by simp) (fun k hk => by cases hk; exact Nat.le_refl _)
  have HB2 := Lib.hid hb2
  have HO2 := Lib.hid (show OwnM w2 w1.heap.size (some ⟨g1, 0, none⟩) (marksOf (joinT k (T.take 1))).length cap1 (marksOf (joinT k (T.take 1))) from by
    rw [HT1.out, ← HPT0.out]
    show World.ownsRow _ _ _ _ _ _ (v3 _)
    simpa [v3_nil] using hown2)
  have HLL := Lib.hid (show xs0.length = (marksOf (joinT k (T.take 1))).length by rw [HT1.out, ← HPT0.out])
  clear hown2 hgrow2 hat2 hlt2 hb2
  have C0 := Lib.hid s0
  have C1 := Lib.hid s1
  have C2 := Lib.hid s2
  clear s0 s1 s2 hc0
  go_wp2_with (fail)
  go_loopw [6, 7] (fun o i wr => ∃ (j : Nat) (Av : Option Addr) (l cv : Nat), 1 ≤ j ∧ j ≤ tl ∧ i = .int .i64 j ∧ l = (marksOf (joinT k (T.take j))).length ∧ o = .slice Av l cv ∧ OwnM wr w1.heap.size Av l cv (marksOf (joinT k (T.take j))) ∧ Below w1.heap.size w1 wr) (fun _ i _ => tl - (intOf i).toNat)
  case atStart => exact ⟨1, some ⟨g1, 0, none⟩, xs0.length, cap1, Nat.le_refl _, by omega, rfl, HLL.out, by first | rfl | simp, by rw [HLL.out]; exact HO2.out, HB2.out⟩
  case round =>
    obtain ⟨wo, rfl⟩ : ∃ wo : World, wo = wr := ⟨_, rfl⟩
    obtain ⟨j, Av, l, cv, hj0, hj1', rfl, hl, rfl, hown, hb⟩ := hrel
    have HO := Lib.hid hown
    have HB := Lib.hid hb
    have s0 := keep hb C0.out
    have s1 := keep hb C1.out
    have s2 := keep hb C2.out
    have HLE := Lib.hid hl
    have hll := HJM.out j (by omega) (by omega)
    rw [← hl] at hll
    clear hown hb hl
    by_cases hlt : j < tl
    · obtain ⟨gg, pj, e, -, -, hpj, hcj, -, hinj⟩ := HR1.out.get (j := j) hlt
      cases e
      obtain ⟨tj, htj, hptj⟩ := HPX.out j pj hpj
      obtain ⟨⟨Aj, cj⟩, xs⟩ := pj
      simp only [hdV] at hcj
      simp only at hptj
      have hxp : 0 < xs.length := by rw [hptj]; exact marks_pos tj
      have hin := hinj.1
      simp only at hin
      obtain ⟨gp, rfl, -, hgp⟩ := own_cellsD hin hxp
      have HMX := Lib.hid (((OwnM.at_ hin).below HB.out))
      have D4 := Lib.hid hcj
      replace hcj := keep HB.out hcj
      have HST := Lib.hid (show marksOf (joinT k (T.take (j + 1))) = marksOf (joinT k (T.take j)) ++ xs ++ [(k, 0, 0)] by
        have h1 : j < T.length := by rw [HTL.out]; exact hlt
        have htne : T.take j ≠ [] := fun e => by
          have h2 : (T.take j).length = 0 := by rw [e]; rfl
          rw [List.length_take, HTL.out] at h2; omega
        rw [List.take_succ_eq_append_getElem h1, joinT_snoc k _ _ htne, marksOf]
        have h2 : T[j] = tj := by rw [List.getElem?_eq_getElem h1] at htj; exact Option.some.inj htj
        rw [h2, ← hptj])
      have hll2 := HJM.out (j + 1) (by omega) (by omega)
      rw [HST.out, List.length_append, List.length_append, List.length_singleton, ← HLE.out] at hll2
      obtain ⟨X, HX⟩ : ∃ q, Hid (marksOf (joinT k (T.take j)) = q) := ⟨_, rfl⟩
      rw [HX.out] at HO HLE HST
      have hgI : (j : Int) < (tl : Int) := by omega
      have hgI0 : (0 : Int) ≤ (j : Int) := by omega
      have D0 := Lib.hid s0
      have D1 := Lib.hid s1
      have D2 := Lib.hid s2
      have D3 := Lib.hid hcj
      have hsz := HB.out.size
      have hgw : g < wo.heap.size := cell_lt hcj
      have hsw : sb < wo.heap.size := cell_lt s0
      clear hin hinj hpj htj hptj
      go_wp2_with (fail)
      go_region_held_law (fun w' => w'.cell? ⟨sb, 0, none⟩ = some (.int .i64 k) ∧ w'.cell? ⟨sb, 1, none⟩ = some (.int .i64 0) ∧ w'.cell? ⟨sb, 2, none⟩ = some (.int .i64 0) ∧ w'.cell? ⟨g, j, none⟩ = some (.slice (some ⟨gp, 0, none⟩) xs.length cj))
        (first | exact ⟨s0, s1, s2, hcj⟩ | exact hS4 | exact hS3 | exact ⟨keep ((Below.refl _ _).alloc (Nat.le_refl _) _) hS3.1, keep ((Below.refl _ _).alloc (Nat.le_refl _) _) hS3.2.1, keep ((Below.refl _ _).alloc (Nat.le_refl _) _) hS3.2.2.1, keep ((Below.refl _ _).alloc (Nat.le_refl _) _) hS3.2.2.2⟩ | exact ⟨keep (show Below wo.heap.size wo _ from (by repeat (first | exact Below.refl _ _ | refine Below.alloc ?_ (by simp) _ | apply Below.drew))) s0, keep (show Below wo.heap.size wo _ from (by repeat (first | exact Below.refl _ _ | refine Below.alloc ?_ (by simp) _ | apply Below.drew))) s1, keep (show Below wo.heap.size wo _ from (by repeat (first | exact Below.refl _ _ | refine Below.alloc ?_ (by simp) _ | apply Below.drew))) s2, keep (show Below wo.heap.size wo _ from (by repeat (first | exact Below.refl _ _ | refine Below.alloc ?_ (by simp) _ | apply Below.drew))) hcj⟩)
        (first
          | (refine step_app rowM (by rfl) _ _ (by rfl) w1.heap.size _ l (v3 X) (by rfl) (own_below HO.out (by repeat (first | exact Below.refl _ _ | refine Below.alloc ?_ (by simp) _ | apply Below.drew))) ⟨gp, 0, none⟩ xs.length cj (v3 xs) (by rfl) (v3_len _) (MarksAt.news (HMX.out.below (by repeat (first | exact Below.refl _ _ | refine Below.alloc ?_ (by simp) _ | apply Below.drew)))) (v3_one _) hxp (by omega) (by simp <;> omega) ?_
             intro g3 cap3 w3 hown3 hgrow3 hat3 hlt3
             have hb3 : Below w1.heap.size w1 w3 := Below.grown (HB.out.trans ((show Below wo.heap.size wo _ from (by repeat (first | exact Below.refl _ _ | refine Below.alloc ?_ (by simp) _ | apply Below.drew))).mono HB.out.size)) hgrow3 (by simp <;> omega) (fun k hk => (HO.out.lt k hk).1)
             have hne3 : ∀ z, z < w1.heap.size → some z ≠ Value.ownBlock (.slice Av l cv) := fun z hz e => by have h1 := (HO.out.lt z e.symm).1; omega
             have hS3 := And.intro (hgrow3.cell (keep (show Below wo.heap.size wo _ from (by repeat (first | exact Below.refl _ _ | refine Below.alloc ?_ (by simp) _ | apply Below.drew))) s0) (hne3 _ hw1s)) (And.intro (hgrow3.cell (keep (show Below wo.heap.size wo _ from (by repeat (first | exact Below.refl _ _ | refine Below.alloc ?_ (by simp) _ | apply Below.drew))) s1) (hne3 _ hw1s)) (And.intro (hgrow3.cell (keep (show Below wo.heap.size wo _ from (by repeat (first | exact Below.refl _ _ | refine Below.alloc ?_ (by simp) _ | apply Below.drew))) s2) (hne3 _ hw1s)) (hgrow3.cell (keep (show Below wo.heap.size wo _ from (by repeat (first | exact Below.refl _ _ | refine Below.alloc ?_ (by simp) _ | apply Below.drew))) hcj) (hne3 _ hgl)))))
          | (refine step_app rowM (by rfl) _ _ (by rfl) w1.heap.size _ (l + xs.length) (v3 X ++ v3 xs) (by rfl) (by first | exact hown3 | exact hown3.alloc _) _ 1 1 (v3 [(k, 0, 0)]) (by rfl) (by rfl) (by first | exact cell3_at (by simp) _ _ | exact fun i u hu => hgrow3.cell (cell3_at (by simp) _ _ i u hu) (fun e => by have := (HO.out.lt _ e.symm).2; simp [addr_add] at this)) (v3_one _) (by decide) (by omega) (by have := hb3.size; simp <;> omega) ?_
             intro g' cap' wB hownB hgrow hat hltB
             have hbB : Below w1.heap.size w1 wB := Below.grown (by first | exact hb3 | exact hb3.alloc hb3.size _) hgrow (by have := hb3.size; simp <;> omega) (fun k hk => (hown3.lt k hk).1)
             have hS4 := And.intro (keep hbB C0.out) (And.intro (keep hbB C1.out) (And.intro (keep hbB C2.out) (keep hbB D4.out)))))
      all_goals
        go_wp2
        go_roundw
        case rel =>
          refine ⟨j + 1, some ⟨g', 0, none⟩, l + xs.length + 1, cap', by omega, by omega, by go_num, ?_, rfl, ?_, hbB⟩
          · rw [HST.out, List.length_append, List.length_append, List.length_singleton, ← HLE.out]
          · show World.ownsRow _ _ _ _ _ _ (v3 _)
            rw [HST.out, v3_append, v3_append]; exact hownB
        case measure => simp [intOf]; omega
    · obtain rfl : j = tl := by omega
      go_wp2
      go_ret
      have hTT : T.take j = T := List.take_of_length_le (by rw [HTL.out]; exact Nat.le_refl _)
      have h1 := HLE.out
      have h2 := HO.out
      rw [hTT] at h1 h2
      have h3 := HB1.out.size
      rw [HSB.out] at h3
      refine ⟨Av, cv, by rw [← h1]; first | (simp; done) | rfl, by rw [← h1, HSB.out]; exact own_base h2 h3, ?_⟩
      exact HB1.out.trans (HB.out.mono HB1.out.size)

theorem l13_any (t : Tm) : Wf t → (∀ (A : Option Addr) (n c : Nat) (w : World), MarksAt w A n (marksOf t) → n ≤ c → n ≤ 11 → Calls Try.prog 61 #[.slice A n c] w (NewM w (marksOf (leftT t)))) ∧
    ∀ k, (k = 1 ∨ k = 2) → ∀ (A : Option Addr) (n c : Nat) (w : World), MarksAt w A n (marksOf t) → n ≤ c → n ≤ 11 → Calls Try.prog 81 #[.slice A n c, .int .i64 k] w (NewS w (partsT t k)) := by
  induction t with
  | step l h =>
    intro _
    have hl : ∀ (A : Option Addr) (n c : Nat) (w : World), MarksAt w A n (marksOf (.step l h)) → n ≤ c → n ≤ 11 → Calls Try.prog 61 #[.slice A n c] w (NewM w (marksOf (leftT (.step l h)))) := fun A n c w hm hc _ => l13Left_step l h A n c w hm hc
    exact ⟨hl, fun k hk => l13Parts_other _ k (by simp only [markT]; omega) (partsT_step l h k) hl⟩
  | one a h ih =>
    intro wf
    have hl := l13Left_one a h (ih wf.1).1
    exact ⟨hl, fun k hk => l13Parts_other _ k (by simp only [markT]; omega) (partsT_one a h k) hl⟩
  | two k0 x y ihx ihy =>
    intro wf
    have hp := l13Parts_same k0 x y wf ((ihx wf.2.1).2 k0 wf.1) ((ihy wf.2.2).2 k0 wf.1)
    have hl := l13Left_two k0 x y wf hp
    refine ⟨hl, fun k hk => ?_⟩
    by_cases e : k = k0
    · subst e; exact hp
    · exact l13Parts_other _ k (by simp only [markT]; omega) (partsT_other x y e) hl

end Go.Proofs.Ytookhelfbnhadaa

