/- A reader of texts in memory: what it holds, what a call leaves that moves it; bytes of a text; numbers that are read: plain facts. -/
import Derived.Test.YtcmicmenkbgfmaaDoorRT1
import Derived.Test.YtcmicmenkbgfmaaDoorDR1
import Derived.Test.YtcmicmenkbgfmaaDoorO2
import Derived.Laws.Strings2
import Derived.Lib.AtoiAll
namespace Go.Proofs.YtcmicmenkbgfmaaDoor
open Go.RowKit

/-- The byte at a place. -/
def btA (s : ByteArray) (i : Nat) : UInt8 := s.data.toList.getD i 0
theorem sz_list (s : ByteArray) : s.data.toList.length = s.size := by rw [Array.length_toList]; rfl
theorem btA_get (s : ByteArray) (i : Nat) (h : i < s.size) : s[i]'h = btA s i := by
  have hl : i < s.data.toList.length := by rw [sz_list]; exact h
  unfold btA
  rw [List.getD, List.getElem?_eq_getElem hl, Option.getD_some, Array.getElem_toList]
  rfl
theorem drop_bt {s : ByteArray} {i : Nat} (h : i < s.size) : s.data.toList.drop i = btA s i :: s.data.toList.drop (i + 1) := by
  have hl : i < s.data.toList.length := by rw [sz_list]; exact h
  rw [List.drop_eq_getElem_cons hl]
  unfold btA
  rw [List.getD, List.getElem?_eq_getElem hl, Option.getD_some]
theorem drop_none {s : ByteArray} {i : Nat} (h : ¬ i < s.size) : s.data.toList.drop i = [] := List.drop_eq_nil_of_le (by rw [sz_list]; omega)
theorem head_bt {s : ByteArray} {i : Nat} (h : i < s.size) : (s.data.toList.drop i).head? = some (btA s i) := by rw [drop_bt h]; rfl
theorem head_none {s : ByteArray} {i : Nat} (h : ¬ i < s.size) (c : UInt8) : (s.data.toList.drop i).head? ≠ some c := by rw [drop_none h]; simp
theorem run_at {Pr : Program} (t : TypeId) (s : ByteArray) (i : Nat) (h : i < s.size) (ht : Pr.underlying t = some .string) (W : World) :
    (Instr.index t (.string s) (.int .i64 (i : Int))).run Pr W = .ok (.int .u8 ((btA s i).toNat : Int)) W := by
  rw [run_index_string W t s .i64 i ht, dif_pos ⟨by omega, by omega⟩]
  simp only [Int.toNat_natCast]
  rw [btA_get s i h]
theorem u8_eq {a b : UInt8} : ((a.toNat : Int) = (b.toNat : Int)) ↔ a = b := by
  constructor
  · intro h; exact UInt8.toNat_inj.1 (by omega)
  · rintro rfl; rfl
theorem isDig_iff (c : UInt8) : isDig c ↔ 48 ≤ (c.toNat : Int) ∧ (c.toNat : Int) ≤ 57 := by unfold isDig; omega

/-- From i to j there are digits only; behind j there is none. -/
def Digs (s : ByteArray) (i j : Nat) : Prop := i ≤ j ∧ j ≤ s.size ∧ ∀ k, i ≤ k → k < j → isDig (btA s k)
theorem Digs.start {s : ByteArray} {i : Nat} (h : i ≤ s.size) : Digs s i i := ⟨Nat.le_refl _, h, fun k h1 h2 => by omega⟩
theorem Digs.next {s : ByteArray} {i j : Nat} (h : Digs s i j) (hj : j < s.size) (hd : isDig (btA s j)) : Digs s i (j + 1) := ⟨by have := h.1; omega, by omega, fun k h1 h2 => by
  rcases Nat.lt_or_ge k j with h3 | h3
  · exact h.2.2 k h1 h3
  · obtain rfl : k = j := by omega
    exact hd⟩
/-- A number's digits stand from i on: they end where no digit stands. -/
theorem digs_end {s : ByteArray} {i j : Nat} (h : Digs s i j) (hn : ¬ j < s.size ∨ ¬ isDig (btA s j)) {k : Int} {r : List UInt8} (k0 : 0 ≤ k) (k1 : k ≤ 19) (e : s.data.toList.drop i = dec k ++ r) (hr : NoDig r) :
    i + (dec k).length = j ∧ s.data.toList.drop j = r ∧ (s.data.toList.drop i).take (j - i) = dec k := by
  obtain ⟨q, hq, rfl⟩ := dec_cases k0 k1
  obtain ⟨l2, l1, hdig⟩ := dec_facts q hq
  obtain ⟨L, HL⟩ : ∃ L, dec (q : Int) = L := ⟨_, rfl⟩
  rw [HL] at e l1 l2 hdig ⊢
  have hlen : (s.data.toList.drop i).length = L.length + r.length := by rw [e, List.length_append]
  rw [List.length_drop, sz_list] at hlen
  have hget : ∀ t, i + t < s.size → (L ++ r)[t]? = some (btA s (i + t)) := fun t ht => by
    rw [← e, List.getElem?_drop]
    have hl : i + t < s.data.toList.length := by rw [sz_list]; exact ht
    unfold btA
    rw [List.getElem?_eq_getElem hl, List.getD, List.getElem?_eq_getElem hl]; rfl
  have h0 := h.1
  have h1 := h.2.1
  have hge : i + L.length ≤ j := by
    rcases Nat.lt_or_ge j (i + L.length) with h2 | h2
    · exfalso
      have hjs : j < s.size := by omega
      have h3 := hget (j - i) (by omega)
      rw [List.getElem?_append_left (by omega), show i + (j - i) = j by omega] at h3
      have h4 := hdig (btA s j) (List.mem_of_getElem? h3)
      rcases hn with hn | hn
      · exact hn hjs
      · exact hn h4
    · exact h2
  have hle : j ≤ i + L.length := by
    rcases Nat.lt_or_ge (i + L.length) j with h2 | h2
    · exfalso
      have h3 := hget L.length (by omega)
      rw [List.getElem?_append_right (Nat.le_refl _), Nat.sub_self] at h3
      have h4 := h.2.2 (i + L.length) (by omega) h2
      exact hr _ (by rw [List.head?_eq_getElem?]; exact h3) h4
    · exact h2
  have hj : j = i + L.length := by omega
  subst hj
  refine ⟨rfl, ?_, ?_⟩
  · rw [← List.drop_drop, e, List.drop_left]
  · rw [Nat.add_sub_cancel_left, e, List.take_left]
theorem atoi_dec : ∀ q : Nat, q < 20 → Lib.atoiAll (dec (q : Int)) = .ok (q : Int) := by decide
/-- What is read as a number between i and j. -/
theorem num_of {s : ByteArray} {i j : Nat} {n : Int} {g : Bool} (h : Digs s i j) (hn : ¬ j < s.size ∨ ¬ isDig (btA s j)) (hv : ∀ q : Nat, q < 20 → (s.data.toList.drop i).take (j - i) = dec (q : Int) → n = q ∧ g = true) : Num (s.data.toList.drop i) n g (s.data.toList.drop j) := by
  intro k r k0 k1 e hr
  obtain ⟨h1, h2, h3⟩ := digs_end h hn k0 k1 e hr
  obtain ⟨q, hq, rfl⟩ := dec_cases k0 k1
  obtain ⟨h4, h5⟩ := hv q hq h3
  exact ⟨h4, h5, h2⟩

/-- The reader at block R holds the text s, stands at i; f: all is fine. -/
structure TR (w : World) (R : Nat) (s : ByteArray) (i : Nat) (f : Bool) : Prop where
  c0 : w.cell? ⟨R, 0, none⟩ = some (.string s)
  c1 : w.cell? ⟨R, 1, none⟩ = some (.int .i64 (i : Int))
  c2 : w.cell? ⟨R, 2, none⟩ = some (.bool f)
  z1 : w.frozen? ⟨R, 1, none⟩ = false
  z2 : w.frozen? ⟨R, 2, none⟩ = false
section
variable {w w' w1 w2 : World} {R i j : Nat} {s : ByteArray} {f g : Bool}
theorem TR.lt (h : TR w R s i f) : R < w.heap.size := cell_lt h.c0
theorem TR.keep (h : TR w R s i f) (hk : w'.heap[R]? = w.heap[R]?) : TR w' R s i f :=
  ⟨(cell_blk hk _).trans h.c0, (cell_blk hk _).trans h.c1, (cell_blk hk _).trans h.c2, (World.frozen?_of_block (a := ⟨R, 1, none⟩) hk).trans h.z1, (World.frozen?_of_block (a := ⟨R, 2, none⟩) hk).trans h.z2⟩
theorem TR.below (h : TR w R s i f) (hb : Below w.heap.size w w') : TR w' R s i f := h.keep (hb.block R h.lt)
theorem TR.drewN (h : TR w R s i f) (m : Nat) : TR (w.drewN m) R s i f := h.keep rfl
theorem TR.grown (h : TR w R s i f) {row : Option Nat} (hg : w.grownBy w' row) (hn : some R ≠ row) : TR w' R s i f := h.keep (hg.block R h.lt hn)
theorem TR.setAt (h : TR w R s i f) (j : Nat) : TR (w.setCell ⟨R, 1, none⟩ (.int .i64 (j : Int))) R s j f := by
  refine ⟨?_, ?_, ?_, ?_, ?_⟩
  · rw [World.cell?_setCell_other _ _ _ _ (by simp)]; exact h.c0
  · have : ∃ v, w.cell? ⟨R, 1, none⟩ = some v := ⟨_, h.c1⟩
    simp [go_sem, h.c1]
  · rw [World.cell?_setCell_other _ _ _ _ (by simp)]; exact h.c2
  · rw [World.frozen?_setCell]; exact h.z1
  · rw [World.frozen?_setCell]; exact h.z2
theorem TR.setFine (h : TR w R s i f) (g : Bool) : TR (w.setCell ⟨R, 2, none⟩ (.bool g)) R s i g := by
  refine ⟨?_, ?_, ?_, ?_, ?_⟩
  · rw [World.cell?_setCell_other _ _ _ _ (by simp)]; exact h.c0
  · rw [World.cell?_setCell_other _ _ _ _ (by simp)]; exact h.c1
  · have : ∃ v, w.cell? ⟨R, 2, none⟩ = some v := ⟨_, h.c2⟩
    simp [go_sem, h.c2]
  · rw [World.frozen?_setCell]; exact h.z1
  · rw [World.frozen?_setCell]; exact h.z2

/-- What a call leaves that moves the reader and makes memory. -/
def MvR (R : Nat) (s : ByteArray) (i : Nat) (f : Bool) (w w' : World) : Prop := w.grownBy w' (some R) ∧ TR w' R s i f
theorem MvR.tr (h : MvR R s i f w w') : TR w' R s i f := h.2
theorem MvR.gr (h : MvR R s i f w w') : w.grownBy w' (some R) := h.1
theorem MvR.size (h : MvR R s i f w w') : w.heap.size ≤ w'.heap.size := h.1.size
theorem MvR.rf (h : TR w R s i f) : MvR R s i f w w := ⟨grown_rf _ _, h⟩
theorem MvR.trans (h : MvR R s i f w w1) (k : MvR R s j g w1 w2) : MvR R s j g w w2 := ⟨grown_tr h.1 k.1, k.2⟩
theorem MvR.below (h : MvR R s i f w w1) (hb : Below w1.heap.size w1 w2) : MvR R s i f w w2 := ⟨grown_tr h.1 (grown_of_below hb _), h.2.below hb⟩
theorem MvR.grown {row : Option Nat} (h : MvR R s i f w w1) (hg : w1.grownBy w2 row) (hn : ∀ g, row = some g → w.heap.size ≤ g) (hR : R < w.heap.size) : MvR R s i f w w2 :=
  ⟨grown_new h.1 hg hn, h.2.grown hg (fun e => by have := hn R e.symm; omega)⟩
theorem MvR.drewN (h : MvR R s i f w w1) (m : Nat) : MvR R s i f w (w1.drewN m) := ⟨grown_tr h.1 ⟨rfl, rfl, rfl, Nat.le_refl _, fun _ _ _ => rfl⟩, h.2.drewN m⟩
theorem set_gr (w : World) (q k : Nat) (v : Value) : w.grownBy (w.setCell ⟨q, k, none⟩ v) (some q) := ⟨rfl, rfl, rfl, by simp [World.setCell], fun k _ hk => Below.heap_setCell _ _ _ _ (fun e => hk (by rw [e]))⟩
theorem MvR.setAt (h : MvR R s i f w w1) (j : Nat) : MvR R s j f w (w1.setCell ⟨R, 1, none⟩ (.int .i64 (j : Int))) := ⟨grown_tr h.1 (set_gr _ _ _ _), h.2.setAt j⟩
theorem MvR.setFine (h : MvR R s i f w w1) (g : Bool) : MvR R s i g w (w1.setCell ⟨R, 2, none⟩ (.bool g)) := ⟨grown_tr h.1 (set_gr _ _ _ _), h.2.setFine g⟩
/-- A row of one's own that is newer than the reader. -/
theorem own_mvR {base : Nat} {e : TypeId} {size : Nat} {v : Value} {n : Nat} {xs : List Value} (h : w.ownsRow base e size v n xs) (hR : R < base) (hm : MvR R s i f w w') : w'.ownsRow base e size v n xs := by
  refine h.kept hm.1 ?_
  cases hv : v.ownBlock with
  | none => exact .inl rfl
  | some k =>
    refine .inr fun e => ?_
    have h1 := (h.lt k hv).1
    cases e
    omega

/-- The library's two variables of errors hold what errors are. -/
def GV (w : World) : Prop := ∃ e1 e2, w.cell? ⟨3, 0, none⟩ = some e1 ∧ (e1 = .nilIface ∨ ∃ te pe, e1 = .iface te pe) ∧ w.cell? ⟨4, 0, none⟩ = some e2 ∧ (e2 = .nilIface ∨ ∃ te pe, e2 = .iface te pe)
theorem GV.below (h : GV w) (hb : Below w.heap.size w w') : GV w' := by
  obtain ⟨e1, e2, h1, g1, h2, g2⟩ := h
  exact ⟨e1, e2, Go.Proofs.YtcmicmenkbgfmaaDoor.keep hb h1, g1, Go.Proofs.YtcmicmenkbgfmaaDoor.keep hb h2, g2⟩
theorem GV.drewN (h : GV w) (m : Nat) : GV (w.drewN m) := h
theorem GV.ne {q : Nat} (h : GV w) (hs : w.cell? ⟨q, 0, none⟩ = some (.string s)) : q ≠ 3 ∧ q ≠ 4 := by
  obtain ⟨e1, e2, h1, g1, h2, g2⟩ := h
  refine ⟨?_, ?_⟩
  · rintro rfl
    rw [hs] at h1
    cases h1
    rcases g1 with e | ⟨_, _, e⟩ <;> cases e
  · rintro rfl
    rw [hs] at h2
    cases h2
    rcases g2 with e | ⟨_, _, e⟩ <;> cases e
theorem GV.mv (h : GV w) (ht : TR w R s i f) (hm : MvR R s j g w w') : GV w' := by
  obtain ⟨n1, n2⟩ := h.ne ht.c0
  obtain ⟨e1, e2, h1, g1, h2, g2⟩ := h
  exact ⟨e1, e2, hm.1.cell h1 (fun e => n1 (Option.some.inj e).symm), g1, hm.1.cell h2 (fun e => n2 (Option.some.inj e).symm), g2⟩
theorem GV.grown {row : Option Nat} (h : GV w) (hg : w.grownBy w' row) (hn : ∀ g, row = some g → 5 ≤ g) : GV w' := by
  obtain ⟨e1, e2, h1, g1, h2, g2⟩ := h
  exact ⟨e1, e2, hg.cell h1 (fun e => by have := hn 3 e.symm; omega), g1, hg.cell h2 (fun e => by have := hn 4 e.symm; omega), g2⟩
end

end Go.Proofs.YtcmicmenkbgfmaaDoor
