/- Draws: a reader of a code (l20Rd) in memory; what a call leaves that moves the reader and makes memory; l20Open, pick, odd. -/
import Derived.Test.YtcmicmenkbgfmaaDoorA3
import Derived.Test.YtcmicmenkbgfmaaDoorO1
namespace Go.Proofs.YtcmicmenkbgfmaaDoor
open Go.RowKit

/-- A row of bytes, its block older than R. -/
structure BytsAt (w : World) (R : Nat) (A : Option Addr) (n : Nat) : Prop where
  cells : 0 < n → ∃ b off, A = some ⟨b, off, none⟩ ∧ b < R ∧ ∀ j, j < n → ∃ z : Int, 0 ≤ z ∧ z ≤ 255 ∧ w.cell? ⟨b, off + j, none⟩ = some (.int .u8 z)
theorem BytsAt.keep {w w' : World} {R : Nat} {A : Option Addr} {n : Nat} (h : BytsAt w R A n) (hk : ∀ b, b < R → w'.heap[b]? = w.heap[b]?) : BytsAt w' R A n :=
  ⟨fun hn => by
    obtain ⟨b, off, e, hb, hc⟩ := h.cells hn
    refine ⟨b, off, e, hb, fun j hj => ?_⟩
    obtain ⟨z, h0, h1, hz⟩ := hc j hj
    exact ⟨z, h0, h1, (cell_blk (b := b) (hk _ hb) _).trans hz⟩⟩
theorem BytsAt.cut {w : World} {R : Nat} {A : Option Addr} {n : Nat} (h : BytsAt w R A n) {k : Nat} (hk : k ≤ n) : BytsAt w R A k :=
  ⟨fun hn => by
    obtain ⟨b, off, e, hb, hc⟩ := h.cells (by omega)
    exact ⟨b, off, e, hb, fun j hj => hc j (by omega)⟩⟩
theorem BytsAt.older {w : World} {R R' : Nat} {A : Option Addr} {n : Nat} (h : BytsAt w R A n) (hR : R ≤ R') : BytsAt w R' A n :=
  ⟨fun hn => by
    obtain ⟨b, off, e, hb, hc⟩ := h.cells hn
    exact ⟨b, off, e, by omega, hc⟩⟩
/-- The reader at block R; it has read at most B numbers. -/
def Rd (w : World) (R : Nat) (B : Int) : Prop :=
  ∃ (A : Option Addr) (n c : Nat) (p : Int), w.cell? ⟨R, 0, none⟩ = some (.slice A n c) ∧ w.cell? ⟨R, 1, none⟩ = some (.int .i64 p) ∧ w.frozen? ⟨R, 1, none⟩ = false ∧ n ≤ 2000 ∧ 0 ≤ p ∧ p ≤ B ∧ BytsAt w R A n
theorem Rd.lt {w : World} {R : Nat} {B : Int} (h : Rd w R B) : R < w.heap.size := by
  obtain ⟨A, n, c, p, h0, _⟩ := h
  exact cell_lt h0
theorem Rd.keep {w w' : World} {R : Nat} {B : Int} (h : Rd w R B) (hk : ∀ b, b ≤ R → w'.heap[b]? = w.heap[b]?) : Rd w' R B := by
  obtain ⟨A, n, c, p, h0, h1, h2, h3, h4, h5, h6⟩ := h
  have hR := hk R (Nat.le_refl _)
  exact ⟨A, n, c, p, (cell_blk hR _).trans h0, (cell_blk hR _).trans h1, (World.frozen?_of_block (a := ⟨R, 1, none⟩) hR).trans h2, h3, h4, h5, h6.keep fun b hl => hk b (Nat.le_of_lt hl)⟩
theorem Rd.mono {w : World} {R : Nat} {B B' : Int} (h : Rd w R B) (hB : B ≤ B') : Rd w R B' := by
  obtain ⟨A, n, c, p, h0, h1, h2, h3, h4, h5, h6⟩ := h
  exact ⟨A, n, c, p, h0, h1, h2, h3, h4, by omega, h6⟩
theorem Rd.below {w w' : World} {R : Nat} {B : Int} (h : Rd w R B) (hb : Below w.heap.size w w') : Rd w' R B :=
  h.keep fun b hl => hb.block b (by have := h.lt; omega)
theorem Rd.drewN {w : World} {R : Nat} {B : Int} (h : Rd w R B) (m : Nat) : Rd (w.drewN m) R B := h.keep fun _ _ => rfl
theorem Rd.alloc {w : World} {R : Nat} {B : Int} (h : Rd w R B) (o : Obj) : Rd (w.alloc o) R B := h.keep fun b hl => Below.heap_alloc w o b (by have := h.lt; omega)
theorem Rd.grown {w w' : World} {R : Nat} {B : Int} {row : Option Nat} (h : Rd w R B) (hg : w.grownBy w' row) (hne : ∀ g, row = some g → R < g) : Rd w' R B :=
  h.keep fun b hl => hg.block b (by have := h.lt; omega) (fun e => by have := hne b e.symm; omega)

/-- What a call leaves that moves the reader on and makes memory. -/
def Mv (R : Nat) (B : Int) (w w' : World) : Prop := w.grownBy w' (some R) ∧ Rd w' R B
theorem grown_tr {a b c : World} {row : Option Nat} (h : a.grownBy b row) (k : b.grownBy c row) : a.grownBy c row :=
  ⟨k.os.trans h.os, k.tape.trans h.tape, k.output.trans h.output, Nat.le_trans h.size k.size, fun i hi hn => (k.block i (Nat.lt_of_lt_of_le hi h.size) hn).trans (h.block i hi hn)⟩
theorem grown_rf (w : World) (row : Option Nat) : w.grownBy w row := ⟨rfl, rfl, rfl, Nat.le_refl _, fun _ _ _ => rfl⟩
theorem grown_of_below {w w' : World} (h : Below w.heap.size w w') (row : Option Nat) : w.grownBy w' row := ⟨h.os, h.tape, h.output, h.size, fun k hk _ => h.block k hk⟩
/-- Onto a row that is newer than w. -/
theorem grown_new {a b c : World} {row row' : Option Nat} (h : a.grownBy b row) (k : b.grownBy c row') (hn : ∀ g, row' = some g → a.heap.size ≤ g) : a.grownBy c row :=
  ⟨k.os.trans h.os, k.tape.trans h.tape, k.output.trans h.output, Nat.le_trans h.size k.size, fun i hi hne => (k.block i (Nat.lt_of_lt_of_le hi h.size) (fun e => by have := hn i e.symm; omega)).trans (h.block i hi hne)⟩
theorem own_mv {R : Nat} {B : Int} {w w' : World} {base : Nat} {e : TypeId} {size : Nat} {v : Value} {n : Nat} {xs : List Value} (h : w.ownsRow base e size v n xs) (hR : R < base) (hm : Mv R B w w') : w'.ownsRow base e size v n xs := by
  refine h.kept hm.1 ?_
  cases hv : v.ownBlock with
  | none => exact .inl rfl
  | some k =>
    refine .inr fun e => ?_
    have h1 := (h.lt k hv).1
    cases e
    omega

theorem Mv.alloc {R : Nat} {B : Int} {w w1 : World} (h : Mv R B w w1) (o : Obj) : Mv R B w (w1.alloc o) :=
  ⟨grown_tr h.1 (grown_of_below ((Below.refl _ _).alloc (Nat.le_refl _) _) _), h.2.alloc o⟩
theorem Mv.grown {R : Nat} {B : Int} {w w1 w2 : World} {row : Option Nat} (h : Mv R B w w1) (hg : w1.grownBy w2 row) (hn : ∀ g, row = some g → w.heap.size ≤ g) (hR : R < w.heap.size) : Mv R B w w2 :=
  ⟨grown_new h.1 hg hn, h.2.grown hg (fun g e => by have := hn g e; omega)⟩
theorem Mv.below {R : Nat} {B : Int} {w w1 w2 : World} (h : Mv R B w w1) (hb : Below w1.heap.size w1 w2) : Mv R B w w2 :=
  ⟨grown_tr h.1 (grown_of_below hb _), h.2.below hb⟩
theorem Mv.trans {R : Nat} {B B' : Int} {w w1 w2 : World} (h : Mv R B w w1) (k : Mv R B' w1 w2) : Mv R B' w w2 := ⟨grown_tr h.1 k.1, k.2⟩
theorem Mv.mono {R : Nat} {B B' : Int} {w w1 : World} (h : Mv R B w w1) (hB : B ≤ B') : Mv R B' w w1 := ⟨h.1, h.2.mono hB⟩
theorem Mv.drewN {R : Nat} {B : Int} {w w1 : World} (h : Mv R B w w1) (m : Nat) : Mv R B w (w1.drewN m) := ⟨grown_tr h.1 ⟨rfl, rfl, rfl, Nat.le_refl _, fun _ _ _ => rfl⟩, h.2.drewN m⟩

theorem tmod_pos {x n : Int} (hx : 0 ≤ x) (hn : 0 < n) : 0 ≤ x.tmod n ∧ x.tmod n < n := ⟨Int.tmod_nonneg n hx, Int.tmod_lt_of_pos x hn⟩
theorem xor_nonneg {x : Int} (h0 : 0 ≤ x) (h1 : x < 4611686018427387904) : 0 ≤ bits .xor .i64 x (x / 64) := by
  obtain ⟨X, rfl⟩ := Int.eq_ofNat_of_zero_le h0
  have hd : ((X : Nat) : Int) / 64 = ((X / 64 : Nat) : Int) := rfl
  rw [hd]
  have hx : X ^^^ (X / 64) < 2 ^ 62 := Nat.xor_lt_two_pow (by omega) (by omega)
  show 0 ≤ IntKind.i64.wrap ((BitVec.ofInt 64 (X : Int) ^^^ BitVec.ofInt 64 ((X / 64 : Nat) : Int)).toNat : Int)
  have e1 : (BitVec.ofInt 64 (X : Int)).toNat = X := by simp; omega
  have e2 : (BitVec.ofInt 64 ((X / 64 : Nat) : Int)).toNat = X / 64 := by rw [BitVec.toNat_ofInt]; omega
  rw [BitVec.toNat_xor, e1, e2]
  have : IntKind.i64.wrap ((X ^^^ (X / 64) : Nat) : Int) = ((X ^^^ (X / 64) : Nat) : Int) := by
    simp [IntKind.wrap, IntKind.bits, IntKind.signed]; omega
  rw [this]; omega

/-- What pick leaves. -/
def Picked (R : Nat) (B n : Int) (w : World) (e : Ending) (w' : World) : Prop :=
  ∃ x : Int, e = .returned (.int .i64 x) ∧ (0 < n → 0 ≤ x ∧ x < n) ∧ (n ≤ 0 → x = 0) ∧ Mv R (B + 1) w w' ∧ w'.heap.size = w.heap.size
theorem kPick {Pr : Program} {f : FuncId} {args : Array Value} {w : World} {K : Ending → World → Prop} {R : Nat} {B n : Int} (h : Calls Pr f args w (Picked R B n w))
    (h1 : ∀ (x : Int) w', (0 < n → 0 ≤ x ∧ x < n) → (n ≤ 0 → x = 0) → Mv R (B + 1) w w' → w'.heap.size = w.heap.size → K (.returned (.int .i64 x)) w') : Calls Pr f args w K :=
  h.mono fun e w' ⟨x, he, hx, h0, hm, hs⟩ => by subst he; exact h1 x w' hx h0 hm hs
theorem picked_mv {w : World} {R m : Nat} {B p : Int} {A : Option Addr} {n c : Nat} (h0 : w.cell? ⟨R, 0, none⟩ = some (.slice A n c)) (h1 : w.cell? ⟨R, 1, none⟩ = some (.int .i64 p)) (h2 : w.frozen? ⟨R, 1, none⟩ = false) (h3 : n ≤ 2000) (h4 : 0 ≤ p) (h5 : p ≤ B) (h6 : BytsAt w R A n) :
    Mv R (B + 1) w ((w.setCell ⟨R, 1, none⟩ (.int .i64 (p + 1))).drewN m) ∧ ((w.setCell ⟨R, 1, none⟩ (.int .i64 (p + 1))).drewN m).heap.size = w.heap.size := by
  have hs : ((w.setCell ⟨R, 1, none⟩ (.int .i64 (p + 1))).drewN m).heap.size = w.heap.size := by show (w.setCell _ _).heap.size = _; simp [World.setCell]
  have hb : ∀ b, b ≠ R → ((w.setCell ⟨R, 1, none⟩ (.int .i64 (p + 1))).drewN m).heap[b]? = w.heap[b]? := fun b hb => Below.heap_setCell w ⟨R, 1, none⟩ _ b hb
  have hx : (w.setCell ⟨R, 1, none⟩ (.int .i64 (p + 1))).cell? ⟨R, 1, none⟩ = some (.int .i64 (p + 1)) := by
    have : ∃ v, w.cell? ⟨R, 1, none⟩ = some v := ⟨_, h1⟩
    simp [go_sem, h1]
  refine ⟨⟨⟨rfl, rfl, rfl, by rw [hs]; exact Nat.le_refl _, fun k hk hn => hb k (fun e => hn (by rw [e]))⟩, A, n, c, p + 1, ?_, hx, ?_, h3, by omega, by omega, h6.keep fun b hl => hb b (by omega)⟩, hs⟩
  · show (w.setCell _ _).cell? _ = _
    rw [World.cell?_setCell_other _ _ _ _ (by simp)]; exact h0
  · show (w.setCell _ _).frozen? _ = _
    rw [World.frozen?_setCell]; exact h2

set_option maxHeartbeats 1000000 in
theorem pick_any (R : Nat) (B n : Int) (w : World) (h : Rd w R B) (hB : B ≤ 1000000000) : Calls Tryd.prog 31 #[.pointer (some ⟨R, 0, none⟩), .int .i64 n] w (Picked R B n w) := by
  obtain ⟨A, l, c, p, h0, h1, h2, h3, h4, h5, h6⟩ := h
  by_cases hn : n < 1
  · have HM := Lib.hid (picked_mv (m := 0) h0 h1 h2 h3 h4 h5 h6)
    clear h6
    go_enter Tryd.func31, Tryd.ntmps31
    go_wp2
    go_ret
    exact ⟨0, rfl, fun h => by omega, fun _ => rfl, HM.out.1, HM.out.2⟩
  · by_cases hl : l = 0
    · subst hl
      have HM := Lib.hid (picked_mv (m := 0) h0 h1 h2 h3 h4 h5 h6)
      clear h6
      go_enter Tryd.func31, Tryd.ntmps31
      go_wp2
      go_ret
      exact ⟨0, rfl, fun h => ⟨Int.le_refl _, h⟩, fun _ => rfl, HM.out.1, HM.out.2⟩
    · have HM := Lib.hid (fun m => picked_mv (m := m) h0 h1 h2 h3 h4 h5 h6)
      obtain ⟨b, off, rfl, hbR, hc⟩ := h6.cells (by omega)
      obtain ⟨P, rfl⟩ := Int.eq_ofNat_of_zero_le h4
      clear h6
      by_cases hp : P < l
      · obtain ⟨z, z0, z1, hz⟩ := hc P hp
        clear hc
        go_enter Tryd.func31, Tryd.ntmps31
        go_wp2
        go_ret
        exact ⟨_, rfl, fun h => ⟨Int.emod_nonneg _ (by omega), Int.emod_lt_of_pos _ h⟩, fun h => by omega, (HM.out 0).1, (HM.out 0).2⟩
      · obtain ⟨z, z0, z1, hz⟩ := hc (P % l) (Nat.mod_lt _ (by omega))
        obtain ⟨y, y0, y1, hy⟩ := hc ((P * 7 + 3) % l) (Nat.mod_lt _ (by omega))
        clear hc
        have l1 : P % l < l := Nat.mod_lt _ (by omega)
        have l2 : (P * 7 + 3) % l < l := Nat.mod_lt _ (by omega)
        have e1 : ((P : Nat) : Int) % (l : Int) = ((P % l : Nat) : Int) := rfl
        have e2 : (((P : Nat) : Int) * 7 + 3) % (l : Int) = (((P * 7 + 3) % l : Nat) : Int) := rfl
        have e3 : ((P : Nat) : Int) / (l : Int) = ((P / l : Nat) : Int) := rfl
        have l3 : P / l ≤ P := Nat.div_le_self _ _
        obtain ⟨i3, HI3⟩ : ∃ q, Hid (P / l = q) := ⟨_, rfl⟩
        rw [HI3.out] at e3 l3
        obtain ⟨i1, HI1⟩ : ∃ q, Hid (P % l = q) := ⟨_, rfl⟩
        obtain ⟨i2, HI2⟩ : ∃ q, Hid ((P * 7 + 3) % l = q) := ⟨_, rfl⟩
        rw [HI1.out] at e1 l1 hz
        rw [HI2.out] at e2 l2 hy
        go_enter Tryd.func31, Tryd.ntmps31
        go_wp2
        go_quiet (fail)
        go_wp2
        go_ret
        have hX : 0 ≤ z * 131 + y * 1117 + (P : Int) * 29 + (i3 : Int) * 53 := by omega
        have hY := xor_nonneg hX (by omega)
        refine ⟨_, rfl, fun h => ?_, fun h => by omega, (HM.out _).1, (HM.out _).2⟩
        exact tmod_pos hY h

set_option maxHeartbeats 1000000 in
theorem odd_any (R : Nat) (B n : Int) (w : World) (h : Rd w R B) (hB : B ≤ 1000000000) (hn : 0 ≤ n ∧ n ≤ 1000) :
    Calls Tryd.prog 33 #[.pointer (some ⟨R, 0, none⟩), .int .i64 n] w fun e w' => ∃ b : Bool, e = .returned (.bool b) ∧ Mv R (B + 1) w w' ∧ w'.heap.size = w.heap.size := by
  obtain ⟨hn0, hn1⟩ := hn
  by_cases h0 : n = 0
  · subst h0
    go_enter Tryd.func33, Tryd.ntmps33
    go_wp2
    go_ret
    exact ⟨false, rfl, ⟨grown_rf _ _, h.mono (by omega)⟩, rfl⟩
  · go_enter Tryd.func33, Tryd.ntmps33
    go_wp2_with (fail)
    refine kPick (pick_any R B n _ h hB) ?_
    intro x w1 hx hx0 hm hs
    go_wp2
    go_ret
    exact ⟨_, rfl, hm, hs⟩

/-- What l20Open leaves. -/
def Opened (w : World) (e : Ending) (w' : World) : Prop := ∃ R, e = .returned (.pointer (some ⟨R, 0, none⟩)) ∧ w.heap.size ≤ R ∧ Rd w' R 0 ∧ Below w.heap.size w w'
theorem kOpen {Pr : Program} {f : FuncId} {args : Array Value} {w : World} {K : Ending → World → Prop} (h : Calls Pr f args w (Opened w))
    (h1 : ∀ R w', w.heap.size ≤ R → Rd w' R 0 → Below w.heap.size w w' → K (.returned (.pointer (some ⟨R, 0, none⟩))) w') : Calls Pr f args w K :=
  h.mono fun e w' ⟨R, he, hR, hr, hb⟩ => by subst he; exact h1 R w' hR hr hb
theorem Rd.new (w : World) (A : Option Addr) (n c : Nat) (t : TypeId) (hn : n ≤ 2000) (h : BytsAt w w.heap.size A n) : Rd (w.alloc (.cells #[.slice A n c, .int .i64 0] t)) w.heap.size 0 :=
  ⟨A, n, c, 0, by simp [go_sem], by simp [go_sem], by simp [go_sem], hn, Int.le_refl _, Int.le_refl _, h.keep fun b hb => Below.heap_alloc w _ b hb⟩
theorem open_any (A : Option Addr) (n c : Nat) (w : World) (h : BytsAt w w.heap.size A n) (hn : n ≤ 9223372036854775807) (hc : n ≤ c) :
    Calls Tryd.prog 22 #[.slice A n c] w (Opened w) := by
  by_cases hl : n > 2000
  · obtain ⟨b, off, rfl, hb, -⟩ := h.cells (by omega)
    have HR := Lib.hid (Rd.new w (some ⟨b, off, none⟩) 2000 c 65 (Nat.le_refl _) (h.cut (by omega)))
    go_enter Tryd.func22, Tryd.ntmps22
    go_wp2
    go_ret
    exact ⟨_, rfl, Nat.le_refl _, HR.out, (Below.refl _ _).alloc (Nat.le_refl _) _⟩
  · have HR := Lib.hid (Rd.new w A n c 65 (by omega) h)
    go_enter Tryd.func22, Tryd.ntmps22
    go_wp2
    go_ret
    exact ⟨_, rfl, Nat.le_refl _, HR.out, (Below.refl _ _).alloc (Nat.le_refl _) _⟩

end Go.Proofs.YtcmicmenkbgfmaaDoor
