/- Tables in memory: for reading (TabAt), and one of a call's own, written in place (TabP). -/
import Derived.Test.YtpefimeogbpagaaT1
import Derived.Test.YtpefimeogbpagaaOZ
import Derived.Laws.OwnMore
namespace Go.Proofs.Ytpefimeogbpagaa
open Go.RowKit

/-- A table in memory, for reading. -/
structure TabAt (w : World) (A : Option Addr) (p : Nat) (T : Tab) : Prop where
  cells : 0 < p → ∃ b off, A = some ⟨b, off, none⟩ ∧ ∀ i, i < p → ∃ r ro c, w.cell? ⟨b, off + i, none⟩ = some (.slice (some ⟨r, ro, none⟩) p c) ∧ ∀ j, j < p → w.cell? ⟨r, ro + j, none⟩ = some (.int .i64 (T i j))
theorem TabAt.keep {w w' : World} {A : Option Addr} {p : Nat} {T : Tab} (h : TabAt w A p T) (hk : ∀ q v, w.cell? q = some v → w'.cell? q = some v) : TabAt w' A p T :=
  ⟨fun hp => by
    obtain ⟨b, off, e, hc⟩ := h.cells hp
    refine ⟨b, off, e, fun i hi => ?_⟩
    obtain ⟨r, ro, c, h1, h2⟩ := hc i hi
    exact ⟨r, ro, c, hk _ _ h1, fun j hj => hk _ _ (h2 j hj)⟩⟩
theorem TabAt.below {w w' : World} {A : Option Addr} {p : Nat} {T : Tab} (h : TabAt w A p T) (hb : Below w.heap.size w w') : TabAt w' A p T := h.keep fun q v hv => by rw [hb.cell (cell_lt hv)]; exact hv
theorem TabAt.drewN {w : World} {A : Option Addr} {p : Nat} {T : Tab} (h : TabAt w A p T) (m : Nat) : TabAt (w.drewN m) A p T := h.keep fun _ _ hv => hv
theorem TabAt.congr {w : World} {A : Option Addr} {p : Nat} {S T : Tab} (h : TabAt w A p S) (he : Eqp p S T) : TabAt w A p T :=
  ⟨fun hp => by
    obtain ⟨b, off, e, hc⟩ := h.cells hp
    refine ⟨b, off, e, fun i hi => ?_⟩
    obtain ⟨r, ro, c, h1, h2⟩ := hc i hi
    exact ⟨r, ro, c, h1, fun j hj => by rw [← he i j hi hj]; exact h2 j hj⟩⟩

/-- A table of a call's own, of which m rows have been made: its header at block o, its rows at blocks f. -/
structure TabP (w : World) (base o p m : Nat) (f : Nat → Nat) (T : Tab) : Prop where
  bo : base ≤ o
  ol : o < w.heap.size
  hc : ∀ i, i < p → (∃ v, w.cell? ⟨o, i, none⟩ = some v) ∧ w.frozen? ⟨o, i, none⟩ = false
  hd : ∀ i, i < m → w.cell? ⟨o, i, none⟩ = some (.slice (some ⟨f i, 0, none⟩) p p)
  rb : ∀ i, i < m → o < f i ∧ f i < w.heap.size
  ap : ∀ i j, i < m → j < m → f i = f j → i = j
  cs : ∀ i j, i < m → j < p → w.cell? ⟨f i, j, none⟩ = some (.int .i64 (T i j)) ∧ w.frozen? ⟨f i, j, none⟩ = false
section
variable {w w' : World} {base o p m : Nat} {f : Nat → Nat} {S T : Tab}
theorem TabP.keep (h : TabP w base o p m f T) (hs : w.heap.size ≤ w'.heap.size) (hk : ∀ b, base ≤ b → b < w.heap.size → w'.heap[b]? = w.heap[b]?) : TabP w' base o p m f T := by
  have ho := hk o h.bo h.ol
  have hr := fun i (hi : i < m) => hk (f i) (by have := (h.rb i hi).1; have := h.bo; omega) (h.rb i hi).2
  exact ⟨h.bo, Nat.lt_of_lt_of_le h.ol hs, fun i hi => by
      obtain ⟨⟨v, hv⟩, hf⟩ := h.hc i hi
      exact ⟨⟨v, (cell_blk ho _).trans hv⟩, (World.frozen?_of_block (a := ⟨o, i, none⟩) ho).trans hf⟩,
    fun i hi => (cell_blk ho _).trans (h.hd i hi), fun i hi => ⟨(h.rb i hi).1, Nat.lt_of_lt_of_le (h.rb i hi).2 hs⟩, h.ap,
    fun i j hi hj => ⟨(cell_blk (hr i hi) _).trans (h.cs i j hi hj).1, (World.frozen?_of_block (a := ⟨f i, j, none⟩) (hr i hi)).trans (h.cs i j hi hj).2⟩⟩
theorem TabP.below (h : TabP w base o p m f T) (hb : Below w.heap.size w w') : TabP w' base o p m f T := h.keep hb.size fun b _ hl => hb.block b hl
theorem TabP.alloc (h : TabP w base o p m f T) (x : Obj) : TabP (w.alloc x) base o p m f T := h.below ((Below.refl _ _).alloc (Nat.le_refl _) _)
theorem TabP.drewN (h : TabP w base o p m f T) (n : Nat) : TabP (w.drewN n) base o p m f T := h.keep (Nat.le_refl _) fun _ _ _ => rfl
theorem TabP.older {base' : Nat} (h : TabP w base o p m f T) (hb : base' ≤ base) : TabP w base' o p m f T := ⟨Nat.le_trans hb h.bo, h.ol, h.hc, h.hd, h.rb, h.ap, h.cs⟩
theorem TabP.congr (h : TabP w base o p m f S) (he : ∀ x y, x < m → y < p → S x y = T x y) : TabP w base o p m f T :=
  ⟨h.bo, h.ol, h.hc, h.hd, h.rb, h.ap, fun i j hi hj => by rw [← he i j hi hj]; exact h.cs i j hi hj⟩
/-- A block that is none of the table's is written. -/
theorem TabP.setFar (h : TabP w base o p m f T) {q : Nat} (hq : q < base) (i : Nat) (v : Value) : TabP (w.setCell ⟨q, i, none⟩ v) base o p m f T :=
  h.keep (by simp [World.setCell]) fun b hb _ => Below.heap_setCell _ _ _ _ (fun e => by have : b = q := e; omega)
/-- A number is written. -/
theorem TabP.set (h : TabP w base o p m f T) {i j : Nat} (hi : i < m) (hj : j < p) (v : Int) : TabP (w.setCell ⟨f i, j, none⟩ (.int .i64 v)) base o p m f (upd T i j v) := by
  have hio : o ≠ f i := by have := (h.rb i hi).1; omega
  have hsz : (w.setCell ⟨f i, j, none⟩ (.int .i64 v)).heap.size = w.heap.size := by simp [World.setCell]
  have hob : (w.setCell ⟨f i, j, none⟩ (.int .i64 v)).heap[o]? = w.heap[o]? := Below.heap_setCell _ _ _ _ hio
  refine ⟨h.bo, by rw [hsz]; exact h.ol, fun k hk => ?_, fun k hk => (cell_blk hob _).trans (h.hd k hk), fun k hk => by rw [hsz]; exact h.rb k hk, h.ap, fun x y hx hy => ⟨?_, ?_⟩⟩
  · obtain ⟨⟨u, hu⟩, hf⟩ := h.hc k hk
    exact ⟨⟨u, (cell_blk hob _).trans hu⟩, by rw [World.frozen?_setCell]; exact hf⟩
  · unfold upd
    by_cases he : x = i ∧ y = j
    · obtain ⟨rfl, rfl⟩ := he
      rw [if_pos ⟨rfl, rfl⟩]
      exact World.cell?_setCell_same _ _ _ (h.cs _ _ hx hy).1
    · rw [if_neg he, World.cell?_setCell_other _ _ _ _ (fun e => he (by
        simp at e
        exact ⟨(h.ap i x hi hx e.1).symm, e.2.symm⟩))]
      exact (h.cs x y hx hy).1
  · rw [World.frozen?_setCell]; exact (h.cs x y hx hy).2
/-- A row more: a new block, and its header stored. -/
theorem TabP.row (h : TabP w base o p m f T) (hm : m < p) {q : Nat} (hq : w.heap.size = q) (t : TypeId) :
    TabP ((w.alloc (.cells (Array.replicate p (.int .i64 0)) t)).setCell ⟨o, m, none⟩ (.slice (some ⟨q, 0, none⟩) p p)) base o p (m + 1) (fun x => if x = m then q else f x) (fun x y => if x = m then 0 else T x y) := by
  subst hq
  have h1 := h.alloc (.cells (Array.replicate p (.int .i64 0)) t)
  have hol := h.ol
  have hsz : ∀ v, ((w.alloc (.cells (Array.replicate p (.int .i64 0)) t)).setCell ⟨o, m, none⟩ v).heap.size = w.heap.size + 1 := fun v => by simp [World.setCell]
  have hb : ∀ b, b ≠ o → ∀ v, ((w.alloc (.cells (Array.replicate p (.int .i64 0)) t)).setCell ⟨o, m, none⟩ v).heap[b]? = (w.alloc (.cells (Array.replicate p (.int .i64 0)) t)).heap[b]? := fun b hb v => Below.heap_setCell _ _ _ _ hb
  refine ⟨h.bo, by rw [hsz]; omega, fun k hk => ⟨cell?_setCell_some (h1.hc k hk).1.choose_spec, by rw [World.frozen?_setCell]; exact (h1.hc k hk).2⟩, fun k hk => ?_, fun k hk => ?_, fun i j hi hj e => ?_, fun i j hi hj => ?_⟩
  · by_cases e : k = m
    · subst e
      obtain ⟨v, hv⟩ := (h1.hc k hm).1
      rw [if_pos rfl]
      exact World.cell?_setCell_same _ _ _ hv
    · rw [if_neg e, World.cell?_setCell_other _ _ _ _ (fun e' => e (by injection e' with _ h2; exact h2.symm))]
      exact h1.hd k (by omega)
  · rw [hsz]
    by_cases e : k = m
    · rw [if_pos e]; omega
    · rw [if_neg e]; have := h.rb k (by omega); omega
  · by_cases e1 : i = m
    · by_cases e2 : j = m
      · omega
      · rw [if_pos e1, if_neg e2] at e
        have := (h.rb j (by omega)).2
        omega
    · by_cases e2 : j = m
      · rw [if_neg e1, if_pos e2] at e
        have := (h.rb i (by omega)).2
        omega
      · rw [if_neg e1, if_neg e2] at e
        exact h.ap i j (by omega) (by omega) e
  · by_cases e : i = m
    · rw [if_pos e, if_pos e]
      have hblk : ∀ v, Blk ((w.alloc (.cells (Array.replicate p (.int .i64 0)) t)).setCell ⟨o, m, none⟩ v) w.heap.size t (Array.replicate p (.int .i64 0)) := fun v => (hb _ (by omega) v).trans (Blk.new w t _)
      exact ⟨by rw [(hblk _).cell]; simp [hj], (hblk _).frozen j⟩
    · rw [if_neg e, if_neg e]
      have hr := h.rb i (by omega)
      have hbk : ∀ v, ((w.alloc (.cells (Array.replicate p (.int .i64 0)) t)).setCell ⟨o, m, none⟩ v).heap[f i]? = (w.alloc (.cells (Array.replicate p (.int .i64 0)) t)).heap[f i]? := hb _ (by omega)
      exact ⟨(cell_blk (hbk _) _).trans (h1.cs i j (by omega) hj).1, (World.frozen?_of_block (a := ⟨f i, j, none⟩) (hbk _)).trans (h1.cs i j (by omega) hj).2⟩
theorem TabP.at_ (h : TabP w base o p p f T) : TabAt w (some ⟨o, 0, none⟩) p T :=
  ⟨fun _ => ⟨o, 0, rfl, fun i hi => ⟨f i, 0, p, by rw [Nat.zero_add]; exact h.hd i hi, fun j hj => by rw [Nat.zero_add]; exact (h.cs i j hi hj).1⟩⟩⟩
/-- A header just made. -/
theorem TabP.new {q : Nat} (hq : w.heap.size = q) (hb : base ≤ q) {arr : Array Value} (ha : arr.size = p) (t : TypeId) (f : Nat → Nat) (T : Tab) : TabP (w.alloc (.cells arr t)) base q p 0 f T := by
  subst hq
  exact ⟨hb, by simp, fun i hi => ⟨(Blk.new w t arr).cell_at (by omega), (Blk.new w t arr).frozen i⟩, fun i hi => by omega, fun i hi => by omega, fun i j hi => by omega, fun i j hi => by omega⟩
end

theorem makeInts {P : Program} {t e : TypeId} (ht : P.underlying t = some (.slice e)) (hinfo : (P.info? e).map (fun i => (i.zero, i.size, i.bytes)) = some (some (.int .i64 0), 1, 8)) (n : Nat) (hn : n ≤ 1048576) (W : World) :
    (Instr.makeSlice t (.int .i64 (n : Int)) (.int .i64 (n : Int))).run P W = .ok (.slice (some ⟨W.heap.size, 0, none⟩) n n) (W.alloc (.cells (Array.replicate n (.int .i64 0)) e)) := by
  obtain ⟨i, hi, hzz⟩ := Option.map_eq_some_iff.1 hinfo
  simp only [Prod.mk.injEq] at hzz
  obtain ⟨hz, hs, hb⟩ := hzz
  have hr := run_make (P := P) W t e i (.int .i64 0) ht hi hz .i64 .i64 n n (by omega) (Int.le_refl _) (by rw [hb]; omega) (by omega)
  simp only [Int.toNat_natCast] at hr
  have hm : madeCells (Value.cells (.int .i64 0)) (n * i.size) = Array.replicate n (.int .i64 0) := by
    rw [hs, Nat.mul_one]
    apply Array.toList_inj.1
    rw [show Value.cells (.int .i64 0) = #[.int .i64 0] from rfl, toList_madeCells_one, Array.toList_replicate]
  rw [hm] at hr
  exact hr

end Go.Proofs.Ytpefimeogbpagaa
