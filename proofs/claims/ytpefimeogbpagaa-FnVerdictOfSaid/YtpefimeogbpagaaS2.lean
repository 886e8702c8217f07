/- Whether a plan goes on, by the program: slices.Clone over bounds, impl.GoesOnOk. -/
import Derived.Test.YtpefimeogbpagaaS1
import Derived.Test.YtpefimeogbpagaaOB
namespace Go.Proofs.Ytpefimeogbpagaa
open Go.RowKit

/-- The bounds that what is done, and the time that it is, give of a point. -/
def ex1 (now : Int) (ds : List Int) (i : Nat) : List Bd := if ds.getD i 0 = -1 then [((i : Int), 0, -now)] else [(0, (i : Int), ds.getD i 0), ((i : Int), 0, -(ds.getD i 0))]
def exts (now : Int) (ds : List Int) (k : Nat) : List Bd := (List.range k).flatMap (ex1 now ds)
theorem exts_succ (now : Int) (ds : List Int) (k : Nat) : exts now ds (k + 1) = exts now ds k ++ ex1 now ds k := by simp [exts, List.range_succ]
theorem mem_exts {now : Int} {ds : List Int} {k : Nat} {b : Bd} : b ∈ exts now ds k ↔ ∃ i, i < k ∧ b ∈ ex1 now ds i := by simp [exts]
def Goes (p : Int) (bs : List Bd) (now : Int) (ds : List Int) : Prop := StOk p bs now ds ∧ Fits p.toNat (bs ++ exts now ds ds.length)
theorem StOk.at_ {p : Int} {bs : List Bd} {now : Int} {ds : List Int} (h : StOk p bs now ds) {i : Nat} (hi : i < ds.length) : -1 ≤ ds.getD i 0 ∧ ds.getD i 0 ≤ 2000 := by
  have h1 := allIn_at h.2.2.2.2 hi
  have h2 := h.2.2.1.2
  omega
theorem StOk.within {P : Nat} {bs : List Bd} {now : Int} {ds : List Int} (h : StOk (P : Int) bs now ds) : Within P (bs ++ exts now ds ds.length) := fun b hb => by
  have hl := h.2.1
  have hp := StOk.pos h.1
  rcases List.mem_append.1 hb with hb | hb
  · exact h.1.1.within b hb
  · obtain ⟨i, hi, hb⟩ := mem_exts.1 hb
    unfold ex1 at hb
    split at hb
    · obtain rfl := List.mem_singleton.1 hb
      simp only; omega
    · simp at hb
      rcases hb with rfl | rfl <;> (simp only; omega)
theorem StOk.lo {p : Int} {bs : List Bd} {now : Int} {ds : List Int} (h : StOk p bs now ds) : Lo 4000 (T0 (bs ++ exts now ds ds.length)) := T0_lo (by omega) fun b hb => by
  obtain ⟨hn0, hn1⟩ := h.2.2.1
  rcases List.mem_append.1 hb with hb | hb
  · obtain ⟨-, -, h3, h4⟩ := h.1.1.2.2 b hb
    omega
  · obtain ⟨i, hi, hb⟩ := mem_exts.1 hb
    have hd := h.at_ hi
    unfold ex1 at hb
    split at hb
    · obtain rfl := List.mem_singleton.1 hb
      simp only; omega
    · rcases List.mem_cons.1 hb with rfl | hb
      · simp only; omega
      · obtain rfl := List.mem_singleton.1 hb
        simp only; omega

/-- A call that makes a row of bounds of its own. -/
def NewB (w : World) (n : Nat) (xs : List Bd) (e : Ending) (w' : World) : Prop :=
  ∃ A c, e = .returned (.slice A n c) ∧ OwnB w' w.heap.size A n c xs ∧ Below w.heap.size w w'
theorem kNewB {Pr : Program} {f : FuncId} {args : Array Value} {w : World} {R : Ending → World → Prop} {n : Nat} {xs : List Bd} (h : Calls Pr f args w (NewB w n xs))
    (h1 : ∀ A c w', OwnB w' w.heap.size A n c xs → Below w.heap.size w w' → R (.returned (.slice A n c)) w') : Calls Pr f args w R :=
  h.mono fun e w' ⟨A, c, he, hi, hb⟩ => by subst he; exact h1 A c w' hi hb
theorem BndsAt.news {w : World} {a : Addr} {n : Nat} {xs : List Bd} (h : BndsAt w (some a) n xs) : ∀ j u, (v3 xs)[j]? = some u → w.cell? (a.add j) = some u := by
  intro j u hu
  have hl := h.len
  have hj : 0 < n := by
    rcases Nat.eq_zero_or_pos n with h0 | h0
    · subst h0
      have : xs = [] := List.length_eq_zero_iff.1 hl
      subst this
      simp [v3_nil] at hu
    · exact h0
  obtain ⟨b, off, e, hc⟩ := h.cells hj
  cases e
  exact v3_of (by rw [hl]; exact hc) j u hu
theorem CloneB_any (A : Option Addr) (n c : Nat) (xs : List Bd) (w : World) (h : BndsAt w A n xs) (hn : n ≤ 1048576) :
    Calls Try.prog 41 #[.slice A n c] w (NewB w n xs) := by
  have HL := Lib.hid h.len
  have hq : ∀ W : World, (Go.binOp .eql 23 (.slice A n c) (.slice none 0 0)).run Try.prog W = .ok (.bool A.isNone) W := fun W => Lib.run_eql_slice_nil W _ _ _ _ _ _ _ Try.underlying23
  cases A with
  | none =>
    have h0 : n = 0 := by
      rcases Nat.eq_zero_or_pos n with h0 | h0
      · exact h0
      · obtain ⟨b, off, e, _⟩ := h.cells h0; cases e
    subst h0
    have hx : xs = [] := List.length_eq_zero_iff.1 HL.out
    subst hx
    go_enter Try.func41, Try.ntmps41
    go_wp2
    go_ret
    exact ⟨none, 0, rfl, OwnB.empty _ _, Below.refl _ _⟩
  | some a =>
    go_enter Try.func41, Try.ntmps41
    go_wp2_with (at_builtin; refine wpl_app0 rowB rfl _ _ (by rfl) w.heap.size _ 0 [] (by rfl) (own_lit w w.heap.size _ 3 #[] 0 (Nat.le_refl _) (by decide) rfl) a n c (v3 xs) (by rfl) (by rw [v3_len, HL.out]) (BndsAt.news (h.below ((Below.refl _ _).alloc (Nat.le_refl _) _))) (v3_one xs) (by omega) (by simp) ?_; intro v' w' hown hgrow hat)
    rw [Nat.zero_add, List.nil_append] at hown
    go_ret
    obtain ⟨A', c', rfl, hc, hA, -⟩ := own_cells hown
    exact ⟨A', c', rfl, hown, ((Below.refl _ _).alloc (Nat.le_refl _) _).grown hgrow (by simp) (fun k hk => by cases hk; exact Nat.le_refl _)⟩

/-- A block of six cells just laid. -/
theorem cell6B {w : World} {q : Nat} (hq : w.heap.size = q) (x y : Bd) (t : TypeId) : ∀ j u, (v3 [x, y])[j]? = some u → (w.alloc (.cells #[.int .i64 x.1, .int .i64 x.2.1, .int .i64 x.2.2, .int .i64 y.1, .int .i64 y.2.1, .int .i64 y.2.2] t)).cell? ((⟨q, 0, none⟩ : Addr).add j) = some u := by
  subst hq
  intro j u hu
  rw [addr_add, Nat.zero_add, World.cell?_alloc_new]
  have e : v3 [x, y] = [.int .i64 x.1, .int .i64 x.2.1, .int .i64 x.2.2, .int .i64 y.1, .int .i64 y.2.1, .int .i64 y.2.2] := rfl
  rw [e] at hu
  match j with
  | 0 => simpa using hu
  | 1 => simpa using hu
  | 2 => simpa using hu
  | 3 => simpa using hu
  | 4 => simpa using hu
  | 5 => simpa using hu
  | j + 6 => simp at hu

set_option maxRecDepth 100000 in
set_option maxHeartbeats 4000000 in
theorem iGoesOnOk_any (p : Int) (A : Option Addr) (n c : Nat) (bs : List Bd) (now : Int) (D : Option Addr) (m d : Nat) (ds : List Int) (w : World) (h : BndsAt w A n bs) (g : IntsAt w D m ds) :
    Calls Try.prog 28 #[.agg #[.int .i64 p, .slice A n c], .agg #[.int .i64 now, .slice D m d]] w (Bl w (.bool (B (Goes p bs now ds)))) := by
  have HL := Lib.hid g.len
  have HLB := Lib.hid h.len
  have hB0 : Below w.heap.size w ((w.alloc (.cells #[.int .i64 p, .slice A n c] 25)).alloc (.cells #[.int .i64 now, .slice D m d] 31)) := ((Below.refl w.heap.size w).alloc (Nat.le_refl _) _).alloc (by simp) _
  have HH := Lib.hid (h.below hB0)
  have HG := Lib.hid (g.below hB0)
  clear h g
  go_enter Try.func28, Try.ntmps28
  go_wp2_with (fail)
  refine kB (iStateOk_any p A n c bs now D m d ds _ HH.out HG.out) ?_ ?_
  · intro w1 hf hb1
    obtain ⟨P, rfl, hP1, hP6⟩ := hf.out.1.1.nat
    have hmp : m = P := by have h1 := hf.out.2.1; have h2 := HL.out; omega
    subst hmp
    have hn16 : n ≤ 16 := by have := hf.out.1.1.2.1; rw [HLB.out] at this; exact this
    obtain ⟨hn0, hn1⟩ := hf.out.2.2.1
    have hB1 : Below w.heap.size w w1 := hB0.trans (hb1.mono hB0.size)
    have e0 : w1.cell? ⟨w.heap.size, 0, none⟩ = some (.int .i64 (m : Int)) := keep hb1 (by simp [go_sem])
    have e1 : w1.cell? ⟨w.heap.size, 1, none⟩ = some (.slice A n c) := keep hb1 (by simp [go_sem])
    have s0 : w1.cell? ⟨w.heap.size + 1, 0, none⟩ = some (.int .i64 now) := keep hb1 (by simp [go_sem])
    have s1 : w1.cell? ⟨w.heap.size + 1, 1, none⟩ = some (.slice D m d) := keep hb1 (by simp [go_sem])
    have HG1 := Lib.hid (HG.out.below hb1)
    have hh1 := HH.out.below hb1
    have HB1 := Lib.hid hB1
    clear hb1 hB1
    obtain ⟨sb, HSB⟩ : ∃ q, Hid (w.heap.size = q) := ⟨_, rfl⟩
    have hsw1 : sb + 1 < w1.heap.size := by have := cell_lt s0; have := HSB.out; simp at *; omega
    go_wp2_with (fail)
    refine kNewB (CloneB_any A n c bs w1 hh1 (by omega)) ?_
    intro A1 c1 w2 hown2 hb2
    have HE := Lib.hid (And.intro e0 s0)
    replace e0 := keep hb2 e0
    replace s0 := keep hb2 s0
    replace s1 := keep hb2 s1
    rw [HSB.out] at e0 s0 s1 ⊢
    have HS1 := Lib.hid s1
    have HS0 := Lib.hid s0
    have HE0 := Lib.hid e0
    have HO2 := Lib.hid hown2
    have HBL2 := Lib.hid hb2
    obtain ⟨B0, HBB⟩ : ∃ q, Hid (w1.heap.size = q) := ⟨_, rfl⟩
    rw [HBB.out] at HO2 hsw1 HBL2
    clear hown2 hb2 e1 hh1
    have HG2 := Lib.hid (HG1.out.below (HBB.out.symm ▸ HBL2.out))
    go_wp2
    go_loopw [5, 18] (fun r i wr => ∃ (k N : Nat) (A' : Option Addr) (c' : Nat), k ≤ m ∧ i = .int .i64 k ∧ r = .slice A' N c' ∧ N ≤ n + 2 * k ∧ OwnB wr B0 A' N c' (bs ++ exts now ds k) ∧ Below B0 w1 wr) (fun _ i _ => m - (intOf i).toNat)
    case atStart => exact ⟨0, n, A1, c1, Nat.zero_le _, rfl, rfl, by omega, by show OwnB _ _ _ _ _ (bs ++ []); rw [List.append_nil]; exact HO2.out, HBL2.out⟩
    case round =>
      obtain ⟨wo, rfl⟩ : ∃ wo : World, wo = wr := ⟨_, rfl⟩
      obtain ⟨k, N, A', c', hk, rfl, rfl, hN, hown, hb⟩ := hrel
      have HO := Lib.hid hown
      have HB := Lib.hid hb
      have hbB : B0 ≤ wo.heap.size := by have := hb.size; have := HBB.out; omega
      have e0' : wo.cell? ⟨sb, 0, none⟩ = some (.int .i64 (m : Int)) := (hb.cell (p := ⟨sb, 0, none⟩) (by simp <;> omega)).trans (by have := HE.out.1; rwa [HSB.out] at this)
      have s0' : wo.cell? ⟨sb + 1, 0, none⟩ = some (.int .i64 now) := (hb.cell (p := ⟨sb + 1, 0, none⟩) (by simp <;> omega)).trans (by have := HE.out.2; rwa [HSB.out] at this)
      clear hown hb e0 s0 s1
      by_cases hkm : k < m
      · obtain ⟨b, off, rfl, hc⟩ := (HG1.out.below (HBB.out.symm ▸ HB.out)).cells (by omega)
        have ck := hc k hkm
        clear hc
        have hdk := hf.out.at_ (i := k) (by rw [HL.out]; exact hkm)
        have HEX := Lib.hid (show exts now ds (k + 1) = exts now ds k ++ ex1 now ds k from exts_succ _ _ _)
        have hex : ex1 now ds k = if ds.getD k 0 = -1 then [((k : Int), 0, -now)] else [(0, (k : Int), ds.getD k 0), ((k : Int), 0, -(ds.getD k 0))] := rfl
        obtain ⟨y, HY⟩ : ∃ q, Hid (ds.getD k 0 = q) := ⟨_, rfl⟩
        rw [HY.out] at ck hdk hex
        obtain ⟨hd0, hd1⟩ := hdk
        by_cases hy : y = -1
        · rw [if_pos hy] at hex
          have HXX := Lib.hid hex
          subst hy
          clear hex
          go_wp2_with (first
            | (at_builtin; go_loud (refine wpl_app rowB rfl _ _ (by rfl) B0 _ N (v3 (bs ++ exts now ds k)) (by rfl) (HO.out.alloc _) ⟨wo.heap.size, 0, none⟩ 1 1 (v3 [((k : Int), 0, -now)]) (by rfl) rfl (cell3B (by simp) _ _) (v3_one _) (by decide) (by omega) (by simp; omega) ?_)
               intro g' cap' wB hownB hgrow hat hltB))
          have HOB := Lib.hid hownB
          have HBN := Lib.hid ((HB.out.alloc hbB _).grown hgrow (by simp; omega) (fun k hk => (HO.out.lt k hk).1))
          clear hownB hgrow hat
          go_wp2
          go_roundw
          case rel =>
            refine ⟨k + 1, N + 1, _, _, by omega, by go_num, rfl, by omega, ?_, HBN.out⟩
            show World.ownsRow _ _ _ _ _ _ (v3 _)
            rw [HEX.out, HXX.out, ← List.append_assoc, v3_append]; exact HOB.out
          case measure => simp [intOf]; omega
        · rw [if_neg hy] at hex
          have HXX := Lib.hid hex
          have hy' : (y == -1) = false := by simpa using hy
          clear hex
          go_wp2_with (first
            | (at_builtin; refine wpl_app rowB rfl _ _ (by rfl) B0 _ N (v3 (bs ++ exts now ds k)) (by rfl) (HO.out.alloc _) ⟨wo.heap.size, 0, none⟩ 2 2 (v3 [(0, (k : Int), y), ((k : Int), 0, -y)]) (by rfl) rfl (cell6B (by simp) _ _ _) (v3_one _) (by decide) (by omega) (by simp; omega) ?_
               intro g' cap' wB hownB hgrow hat hltB))
          have HOB := Lib.hid hownB
          have HBN := Lib.hid ((HB.out.alloc hbB _).grown hgrow (by simp; omega) (fun k hk => (HO.out.lt k hk).1))
          clear hownB hgrow hat
          go_wp2
          go_roundw
          case rel =>
            refine ⟨k + 1, N + 2, _, _, by omega, by go_num, rfl, by omega, ?_, HBN.out⟩
            show World.ownsRow _ _ _ _ _ _ (v3 _)
            rw [HEX.out, HXX.out, ← List.append_assoc, v3_append]; exact HOB.out
          case measure => simp [intOf]; omega
      · obtain rfl : k = m := by omega
        have HDL := Lib.hid (show ds.length = k from HL.out)
        have hwi := hf.out.within
        have hlo := hf.out.lo
        rw [HDL.out] at hwi hlo
        go_wp2_with (fail)
        refine kNewTab (start_any k A' N c' _ wo (OwnB.at_ HO.out) hP6 (by omega) hwi) ?_
        intro o f w4 htab hb4
        have HB4 := Lib.hid ((HB1.out.trans (HB.out.mono (by have := HB1.out.size; have := HBB.out; omega))).trans (hb4.mono (by have := HB1.out.size; have := HBB.out; omega)))
        have hws : w.heap.size ≤ wo.heap.size := by have := HB1.out.size; have := HBB.out; omega
        clear hb4 hwi
        go_wp2_with (fail)
        refine (close_any _ o k f _ w4 htab hP6 (T0_hi _) hlo).mono ?_
        rintro e w5 ⟨rfl, -, hb5⟩
        have HFF := Lib.hid (fits_both k (T0 (bs ++ exts now ds k))).2
        go_wp2
        go_ret
        refine ⟨ret_b ?_, HB4.out.trans (hb5.mono hws)⟩
        refine B_congr (HFF.out.trans ?_)
        unfold Goes Fits
        rw [HDL.out]
        exact ⟨fun hh => ⟨hf.out, hh⟩, fun hh => hh.2⟩
  · intro w1 hf hb1
    go_wp2
    go_ret
    exact ⟨ret_b (B_false (fun hh => hf.out hh.1)).symm, hB0.trans (hb1.mono hB0.size)⟩

end Go.Proofs.Ytpefimeogbpagaa
