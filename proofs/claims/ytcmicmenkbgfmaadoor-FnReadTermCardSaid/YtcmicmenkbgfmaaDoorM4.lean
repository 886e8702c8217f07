/- Parts in memory: rows of pointers, nodes, trees; slices.Clone over rows of parts. -/
import Derived.Test.YtcmicmenkbgfmaaDoorM3
import Derived.Test.YtcmicmenkbgfmaaDoorO1
import Derived.Lib.SmallJoins
namespace Go.Proofs.YtcmicmenkbgfmaaDoor
open Go.RowKit Go.Joins

def a0 : Addr := ⟨0, 0, none⟩
def vP (ps : List Addr) : List Value := ps.map fun a => .pointer (some a)
theorem vP_one (ps : List Addr) : ∀ u ∈ vP ps, u.oneCell' = true := by
  intro u hu; obtain ⟨x, _, rfl⟩ := List.mem_map.1 hu; rfl
theorem vP_len (ps : List Addr) : (vP ps).length = ps.length * 1 := by simp [vP]
theorem vP_append (ps qs : List Addr) : vP (ps ++ qs) = vP ps ++ vP qs := by simp [vP]

/-- A row of pointers; its block is in D. -/
structure PtrsAt (D : Nat → Prop) (w : World) (A : Option Addr) (n : Nat) (ps : List Addr) : Prop where
  len : ps.length = n
  cells : 0 < n → ∃ b off, A = some ⟨b, off, none⟩ ∧ D b ∧ ∀ j, j < n → w.cell? ⟨b, off + j, none⟩ = some (.pointer (some (ps.getD j a0)))
theorem PtrsAt.keep {D D' : Nat → Prop} {w w' : World} {A : Option Addr} {n : Nat} {ps : List Addr} (h : PtrsAt D w A n ps) (hk : ∀ b o v, D b → w.cell? ⟨b, o, none⟩ = some v → w'.cell? ⟨b, o, none⟩ = some v ∧ D' b) : PtrsAt D' w' A n ps :=
  ⟨h.len, fun hn => by
    obtain ⟨b, off, e, hd, hc⟩ := h.cells hn
    exact ⟨b, off, e, (hk _ _ _ hd (hc 0 hn)).2, fun j hj => (hk _ _ _ hd (hc j hj)).1⟩⟩
theorem PtrsAt.below {D : Nat → Prop} {w w' : World} {A : Option Addr} {n : Nat} {ps : List Addr} (h : PtrsAt D w A n ps) (hb : Below w.heap.size w w') : PtrsAt D w' A n ps :=
  h.keep fun b o v hd hv => ⟨Go.Proofs.YtcmicmenkbgfmaaDoor.keep hb hv, hd⟩
theorem PtrsAt.news {D : Nat → Prop} {w : World} {a : Addr} {n : Nat} {ps : List Addr} (h : PtrsAt D w (some a) n ps) : ∀ j u, (vP ps)[j]? = some u → w.cell? (a.add j) = some u := by
  intro j u hu
  have hj : j < ps.length := by
    rcases Nat.lt_or_ge j ps.length with h1 | h1
    · exact h1
    · rw [vP, List.getElem?_eq_none (by simpa using h1)] at hu; cases hu
  obtain ⟨b', off', e, _, hc⟩ := h.cells (by rw [← h.len]; omega)
  cases e
  rw [addr_add, hc j (by rw [← h.len]; exact hj)]
  simp [vP, hj] at hu
  simp [← hu, List.getD, hj]
theorem own_ptrs {D : Nat → Prop} {w : World} {base : Nat} {e : TypeId} {v : Value} {n : Nat} {ps : List Addr} (h : w.ownsRow base e 1 v n (vP ps)) (hD : ∀ g, v.ownBlock = some g → D g) :
    ∃ A c, v = .slice A n c ∧ n ≤ c ∧ PtrsAt D w A n ps ∧ (∀ a, A = some a → base ≤ a.block) := by
  obtain ⟨A, c, rfl, hc, hA, hcell⟩ := own_cells h
  have hl : ps.length = n := by have := h.1; simpa [vP] using this
  refine ⟨A, c, rfl, hc, ⟨hl, fun hn => ?_⟩, hA⟩
  obtain ⟨g, rfl, ho, _, hg⟩ := hcell hn
  exact ⟨g, 0, rfl, hD g ho, fun j hj => by rw [Nat.zero_add]; exact hg j _ (by simp [vP, List.getD, hl, hj])⟩

theorem rowP : RowTy Tryd.prog 67 42 (.pointer none) 1 8 := ⟨Tryd.underlying67, by kernel_rfl, rfl, by decide, by decide⟩

/-- A call that makes a row of pointers in new memory. -/
def NewPtrs (w : World) (n : Nat) (ps : List Addr) (e : Ending) (w' : World) : Prop :=
  ∃ A c, e = .returned (.slice A n c) ∧ n ≤ c ∧ PtrsAt (fun b => w.heap.size ≤ b) w' A n ps ∧ Below w.heap.size w w'
theorem kPtrs {Pr : Program} {f : FuncId} {args : Array Value} {w : World} {R : Ending → World → Prop} {n : Nat} {ps : List Addr} (h : Calls Pr f args w (NewPtrs w n ps))
    (h1 : ∀ A c w', n ≤ c → PtrsAt (fun b => w.heap.size ≤ b) w' A n ps → Below w.heap.size w w' → R (.returned (.slice A n c)) w') : Calls Pr f args w R :=
  h.mono fun e w' ⟨A, c, he, hc, hi, hb⟩ => by subst he; exact h1 A c w' hc hi hb

theorem Clone_any (D : Nat → Prop) (A : Option Addr) (n c : Nat) (ps : List Addr) (w : World) (h : PtrsAt D w A n ps) (hn : n ≤ 1048576) :
    Calls Tryd.prog 36 #[.slice A n c] w (NewPtrs w n ps) := by
  have HL := Lib.hid h.len
  have hq : ∀ W : World, (Go.binOp .eql 67 (.slice A n c) (.slice none 0 0)).run Tryd.prog W = .ok (.bool A.isNone) W := fun W => Lib.run_eql_slice_nil W _ _ _ _ _ _ _ Tryd.underlying67
  cases A with
  | none =>
    have h0 : n = 0 := by
      rcases Nat.eq_zero_or_pos n with h0 | h0
      · exact h0
      · obtain ⟨b, off, e, _⟩ := h.cells h0; cases e
    subst h0
    go_enter Tryd.func36, Tryd.ntmps36
    go_wp2
    go_ret
    exact ⟨none, 0, rfl, Nat.le_refl _, ⟨HL.out, fun h => by omega⟩, Below.refl _ _⟩
  | some a =>
    go_enter Tryd.func36, Tryd.ntmps36
    go_wp2_with (at_builtin; refine wpl_app0 rowP rfl _ _ (by rfl) w.heap.size _ 0 [] (by rfl) (own_lit w w.heap.size _ 1 #[] 0 (Nat.le_refl _) (by decide) rfl) a n c (vP ps) (by rfl) (by rw [vP_len, HL.out]) (PtrsAt.news (h.below ((Below.refl _ _).alloc (Nat.le_refl _) _))) (vP_one ps) (by omega) (by simp) ?_; intro v' w' hown hgrow hat)
    rw [Nat.zero_add, List.nil_append] at hown
    go_ret
    obtain ⟨A', c', rfl, hc, hp, hA⟩ := own_ptrs (D := fun b => w.heap.size ≤ b) hown (fun g hg => (hown.lt g hg).1)
    exact ⟨A', c', rfl, hc, hp, ((Below.refl _ _).alloc (Nat.le_refl _) _).grown hgrow (by simp) (fun k hk => by cases hk; exact Nat.le_refl _)⟩


/-- A node: its mark and its kids' row. -/
def Nd (D : Nat → Prop) (w : World) (a : Addr) (m : Mk) (ps : List Addr) : Prop :=
  ∃ b off A c, a = ⟨b, off, none⟩ ∧ D b ∧ w.cell? ⟨b, off, none⟩ = some (.int .i64 m.1) ∧ w.cell? ⟨b, off + 1, none⟩ = some (.int .i64 m.2.1) ∧ w.cell? ⟨b, off + 2, none⟩ = some (.int .i64 m.2.2) ∧ w.cell? ⟨b, off + 3, none⟩ = some (.slice A ps.length c) ∧ PtrsAt D w A ps.length ps
theorem Nd.keep {D D' : Nat → Prop} {w w' : World} {a : Addr} {m : Mk} {ps : List Addr} (h : Nd D w a m ps) (hk : ∀ b o v, D b → w.cell? ⟨b, o, none⟩ = some v → w'.cell? ⟨b, o, none⟩ = some v ∧ D' b) : Nd D' w' a m ps := by
  obtain ⟨b, off, A, c, e, hd, h0, h1, h2, h3, hp⟩ := h
  exact ⟨b, off, A, c, e, (hk _ _ _ hd h0).2, (hk _ _ _ hd h0).1, (hk _ _ _ hd h1).1, (hk _ _ _ hd h2).1, (hk _ _ _ hd h3).1, hp.keep hk⟩

/-- A tree of parts in memory. -/
def Pt (D : Nat → Prop) (w : World) : Tm → Addr → Prop
  | .step l h, a => Nd D w a (0, l, h) []
  | .two k x y, a => ∃ ax ay, Nd D w a (k, 0, 0) [ax, ay] ∧ Pt D w x ax ∧ Pt D w y ay
  | .one x h, a => ∃ ax, Nd D w a (3, 0, h) [ax] ∧ Pt D w x ax
theorem Pt.keep {D D' : Nat → Prop} {w w' : World} (hk : ∀ b o v, D b → w.cell? ⟨b, o, none⟩ = some v → w'.cell? ⟨b, o, none⟩ = some v ∧ D' b) : ∀ {t : Tm} {a : Addr}, Pt D w t a → Pt D' w' t a := by
  intro t
  induction t with
  | step l h => intro a hp; exact Nd.keep hp hk
  | two k x y ihx ihy => intro a hp; obtain ⟨ax, ay, h1, h2, h3⟩ := hp; exact ⟨ax, ay, h1.keep hk, ihx h2, ihy h3⟩
  | one x h ih => intro a hp; obtain ⟨ax, h1, h2⟩ := hp; exact ⟨ax, h1.keep hk, ih h2⟩
theorem Pt.below {D : Nat → Prop} {w w' : World} {t : Tm} {a : Addr} (h : Pt D w t a) (hb : Below w.heap.size w w') : Pt D w' t a :=
  Pt.keep (fun b o v hd hv => ⟨Go.Proofs.YtcmicmenkbgfmaaDoor.keep hb hv, hd⟩) h
theorem Pt.weaken {D D' : Nat → Prop} {w : World} {t : Tm} {a : Addr} (h : Pt D w t a) (hD : ∀ b, b < w.heap.size → D b → D' b) : Pt D' w t a :=
  Pt.keep (fun b o v hd hv => ⟨hv, hD b (cell_lt hv) hd⟩) h
/-- A tree stands when a row is appended to that it does not touch. -/
theorem Pt.grown {w w' : World} {row : Option Nat} {g : Nat} {t : Tm} {a : Addr} (h : Pt (fun b => some b ≠ row) w t a) (hg : w.grownBy w' row) (hr : row = some g ∨ w.heap.size ≤ g) : Pt (fun b => some b ≠ some g) w' t a :=
  Pt.keep (fun b o v hd hv => ⟨hg.cell hv hd, fun e => by
    have hlt := cell_lt hv
    rcases hr with hr | hr
    · exact hd (by rw [hr]; exact e)
    · cases e; exact absurd hlt (by show ¬ g < _; omega)⟩) h
theorem Nd.grown {w w' : World} {row : Option Nat} {g : Nat} {m : Mk} {ps : List Addr} {a : Addr} (h : Nd (fun b => some b ≠ row) w a m ps) (hg : w.grownBy w' row) (hr : row = some g ∨ w.heap.size ≤ g) : Nd (fun b => some b ≠ some g) w' a m ps :=
  Nd.keep h (fun b o v hd hv => ⟨hg.cell hv hd, fun e => by
    have hlt := cell_lt hv
    rcases hr with hr | hr
    · exact hd (by rw [hr]; exact e)
    · cases e; exact absurd hlt (by show ¬ g < _; omega)⟩)

/-- All parts. -/
abbrev TT : Nat → Prop := fun _ => True
theorem Pt.tt {D : Nat → Prop} {w : World} {t : Tm} {a : Addr} (h : Pt D w t a) : Pt TT w t a := h.weaken fun _ _ _ => trivial

/-- xs are the marks of x. -/
def TIs (xs : List Mk) (x : Tm) : Prop := Wf x ∧ marksOf x = xs ∧ xs.length ≤ 11
theorem tOk_iff (xs : List Mk) : TOk xs ↔ ∃ x, TIs xs x := Iff.rfl

/-- What a mark makes of parts. -/
def node (m : Mk) : List Tm → Tm
  | [] => .step m.2.1 m.2.2
  | [a] => .one a m.2.2
  | a :: b :: _ => .two m.1 a b
theorem drop_two {α : Type} (st : List α) (d : α) (h : 2 ≤ st.length) : st.drop (st.length - 2) = [st.getD (st.length - 2) d, st.getD (st.length - 1) d] := by
  apply List.ext_getElem
  · simp; omega
  · intro i h3 h4
    simp at h3 h4
    have h5 : st.length - 1 < st.length := by omega
    have h6 : st.length - 2 < st.length := by omega
    match i, h4 with
    | 0, _ => simp [List.getD, h6]
    | 1, _ =>
      have : st.length - 2 + 1 = st.length - 1 := by omega
      simp [List.getD, h5, this]
theorem drop_one {α : Type} (st : List α) (d : α) (h : 1 ≤ st.length) : st.drop (st.length - 1) = [st.getD (st.length - 1) d] := by
  apply List.ext_getElem
  · simp; omega
  · intro i h3 h4
    simp at h3 h4
    have h5 : st.length - 1 < st.length := by omega
    match i, h4 with
    | 0, _ => simp [List.getD, h5]
theorem push_node {st : List Tm} {m : Mk} {r : Nat} (h : MOk m) (hr : arity m = (r : Int)) (hl : r ≤ st.length) : push st m = some (st.take (st.length - r) ++ [node m (st.drop (st.length - r))]) := by
  rcases h with h | h | h
  · rw [arity_step h] at hr
    obtain rfl : r = 0 := by omega
    rw [push_step h]; simp [node]
  · rw [arity_two h] at hr
    obtain rfl : r = 2 := by omega
    rw [push_two h hl, drop_two st dflt hl]; rfl
  · rw [arity_one h] at hr
    obtain rfl : r = 1 := by omega
    rw [push_one h hl, drop_one st dflt hl]; rfl
theorem push_short {st : List Tm} {m : Mk} (hl : (st.length : Int) < arity m) : push st m = none := by
  by_cases h : MOk m
  · rcases h with h | h | h
    · rw [arity_step h] at hl; omega
    · rw [arity_two h] at hl; exact push_two_none h (by omega)
    · rw [arity_one h] at hl; exact push_one_none h (by omega)
  · exact push_bad h
theorem Pt_node {D : Nat → Prop} {w : World} {a : Addr} {m : Mk} {ps : List Addr} {l : List Tm} (h : MOk m) (hn : Nd D w a m ps) (hl : ps.length = l.length) (hr : arity m = (l.length : Int)) (hp : ∀ j, j < l.length → Pt D w (l.getD j dflt) (ps.getD j a0)) : Pt D w (node m l) a := by
  obtain ⟨k, lo, hi⟩ := m
  rcases h with h | h | h
  · rw [arity_step h] at hr
    obtain rfl : l = [] := List.eq_nil_of_length_eq_zero (by omega)
    obtain rfl : ps = [] := List.eq_nil_of_length_eq_zero (by simpa using hl)
    have := h.1
    simp only at this
    subst this
    exact hn
  · rw [arity_two h] at hr
    match l, ps, hl, hr with
    | [x, y], [ax, ay], _, _ =>
      obtain ⟨_, h2, h3⟩ := h
      simp only at h2 h3
      subst h2 h3
      exact ⟨ax, ay, hn, hp 0 (by simp), hp 1 (by simp)⟩
  · rw [arity_one h] at hr
    match l, ps, hl, hr with
    | [x], [ax], _, _ =>
      obtain ⟨h1, h2, _⟩ := h
      simp only at h1 h2
      subst h1 h2
      exact ⟨ax, hn, hp 0 (by simp)⟩
theorem own_take {w : World} {base : Nat} {e : TypeId} {g cap n k : Nat} {xs : List Value} (h : w.ownsRow base e 1 (.slice (some ⟨g, 0, none⟩) n cap) n xs) (hk : k ≤ n) : w.ownsRow base e 1 (.slice (some ⟨g, 0, none⟩) k cap) k (xs.take k) := by
  have hl := h.1
  obtain ⟨_, h2⟩ := h
  rcases h2 with ⟨h0, _⟩ | ⟨g', cap', cur, hv, hg, hh, hn, hcap, hsz, htake⟩
  · cases h0
  · cases hv
    refine ⟨by simp; omega, .inr ⟨g, cap, cur, rfl, hg, hh, by omega, hcap, hsz, ?_⟩⟩
    rw [← htake, List.take_take]
    congr 1; omega
theorem own_drop {D : Nat → Prop} {w : World} {base : Nat} {e : TypeId} {g cap n k : Nat} {ps : List Addr} (h : w.ownsRow base e 1 (.slice (some ⟨g, 0, none⟩) n cap) n (vP ps)) (hk : k ≤ n) (hD : D g) : PtrsAt D w (some ⟨g, k, none⟩) (n - k) (ps.drop k) := by
  have hl : ps.length = n := by have := h.1; simpa [vP] using this
  refine ⟨by simp [hl], fun hn => ⟨g, k, rfl, hD, fun j hj => ?_⟩⟩
  have := h.cells (g := g) rfl (k + j) (.pointer (some (ps.getD (k + j) a0))) (by
    have : k + j < ps.length := by omega
    simp [vP, List.getD, this])
  rw [addr_add, Nat.zero_add] at this
  rw [this]
  simp [List.getD]

theorem own_dropIf {D : Nat → Prop} {w : World} {base : Nat} {e : TypeId} {g cap n k : Nat} {ps : List Addr} (h : w.ownsRow base e 1 (.slice (some ⟨g, 0, none⟩) n cap) n (vP ps)) (hk : k ≤ n) (hc : n ≤ cap) (hD : D g) : PtrsAt D w (if cap = k then some ⟨g, 0, none⟩ else some ⟨g, k, none⟩) (n - k) (ps.drop k) := by
  split
  · have h1 := own_drop (D := D) h hk hD
    exact ⟨h1.len, fun hn => by omega⟩
  · exact own_drop h hk hD

theorem build_pts {wo w2 wA wB : World} {row : Option Nat} {g' j : Nat} {st : List Tm} {ps : List Addr} {m : Mk} {A' : Option Addr} {c' : Nat} {T1 T2 : TypeId}
    (hb : Below wo.heap.size wo w2) (hbA : Below w2.drew.heap.size w2.drew wA) (hrow : ∀ g, row = some g → g < wo.heap.size)
    (hpt : ∀ i, i < st.length → Pt (fun b => some b ≠ row) wo (st.getD i dflt) (ps.getD i a0)) (hps : ps.length = st.length) (hj : j ≤ st.length)
    (hpA : PtrsAt (fun b => w2.drew.heap.size ≤ b) wA A' (st.length - j) (ps.drop j)) (hok : MOk m) (har : arity m = ((st.length - j : Nat) : Int))
    (hgrow : ((wA.alloc (.cells #[.int .i64 m.1, .int .i64 m.2.1, .int .i64 m.2.2, .slice A' (st.length - j) c'] T1)).alloc (.cells #[.pointer (some ⟨wA.heap.size, 0, none⟩)] T2)).grownBy wB row)
    (hat : row = some g' ∨ g' = ((wA.alloc (.cells #[.int .i64 m.1, .int .i64 m.2.1, .int .i64 m.2.2, .slice A' (st.length - j) c'] T1)).alloc (.cells #[.pointer (some ⟨wA.heap.size, 0, none⟩)] T2)).heap.size) :
    ∀ i, i < (st.take j ++ [node m (st.drop j)]).length → Pt (fun b => some b ≠ some g') wB ((st.take j ++ [node m (st.drop j)]).getD i dflt) ((ps.take j ++ [(⟨wA.heap.size, 0, none⟩ : Addr)]).getD i a0) := by
  have hsA : wo.heap.size ≤ wA.heap.size := Nat.le_trans hb.size hbA.size
  have hA : Below wo.heap.size wo wA := (hb.trans ((Below.refl wo.heap.size w2).drew)).trans (hbA.mono hb.size)
  have hAC : Below wA.heap.size wA ((wA.alloc (.cells #[.int .i64 m.1, .int .i64 m.2.1, .int .i64 m.2.2, .slice A' (st.length - j) c'] T1)).alloc (.cells #[.pointer (some ⟨wA.heap.size, 0, none⟩)] T2)) := ((Below.refl _ _).alloc (Nat.le_refl _) _).alloc (by simp) _
  have hC := hA.trans (hAC.mono hsA)
  have hr : row = some g' ∨ ((wA.alloc (.cells #[.int .i64 m.1, .int .i64 m.2.1, .int .i64 m.2.2, .slice A' (st.length - j) c'] T1)).alloc (.cells #[.pointer (some ⟨wA.heap.size, 0, none⟩)] T2)).heap.size ≤ g' := hat.imp id (fun h => Nat.le_of_eq h.symm)
  have hold : ∀ i, i < st.length → Pt (fun b => some b ≠ row) ((wA.alloc (.cells #[.int .i64 m.1, .int .i64 m.2.1, .int .i64 m.2.2, .slice A' (st.length - j) c'] T1)).alloc (.cells #[.pointer (some ⟨wA.heap.size, 0, none⟩)] T2)) (st.getD i dflt) (ps.getD i a0) := fun i hi => (hpt i hi).below hC
  have hnode : Pt (fun b => some b ≠ row) ((wA.alloc (.cells #[.int .i64 m.1, .int .i64 m.2.1, .int .i64 m.2.2, .slice A' (st.length - j) c'] T1)).alloc (.cells #[.pointer (some ⟨wA.heap.size, 0, none⟩)] T2)) (node m (st.drop j)) ⟨wA.heap.size, 0, none⟩ := by
    refine Pt_node (ps := ps.drop j) hok ?_ (by simp [hps]) (by rw [har]; simp) ?_
    · refine ⟨wA.heap.size, 0, A', c', rfl, fun e => ?_, by simp [go_sem], by simp [go_sem], by simp [go_sem], by simp [go_sem, hps], ?_⟩
      · have := hrow _ e.symm; omega
      · rw [show (ps.drop j).length = st.length - j by simp [hps]]
        refine hpA.keep fun b o v hd hv => ⟨keep hAC hv, fun e => ?_⟩
        have h1 := hrow _ e.symm
        have h2 : w2.drew.heap.size ≤ b := hd
        have h3 : w2.drew.heap.size = w2.heap.size := rfl
        have := hb.size
        omega
    · intro i hi
      have hi2 : j + i < st.length := by simp at hi; omega
      have := hold (j + i) hi2
      simpa [List.getD] using this
  intro i hi
  have hlen : (st.take j).length = j := by simp; omega
  have hlen2 : (ps.take j).length = j := by simp; omega
  rcases Nat.lt_or_ge i j with h1 | h1
  · have e1 : (st.take j ++ [node m (st.drop j)]).getD i dflt = st.getD i dflt := by
      simp only [List.getD]
      rw [List.getElem?_append_left (by omega), List.getElem?_take_of_lt h1]
    have e2 : (ps.take j ++ [(⟨wA.heap.size, 0, none⟩ : Addr)]).getD i a0 = ps.getD i a0 := by
      simp only [List.getD]
      rw [List.getElem?_append_left (by omega), List.getElem?_take_of_lt h1]
    rw [e1, e2]
    exact (hold i (by omega)).grown hgrow hr
  · obtain rfl : i = j := by simp at hi; omega
    have e1 : (st.take i ++ [node m (st.drop i)]).getD i dflt = node m (st.drop i) := by
      simp only [List.getD]
      rw [List.getElem?_append_right (by omega), hlen]; simp
    have e2 : (ps.take i ++ [(⟨wA.heap.size, 0, none⟩ : Addr)]).getD i a0 = ⟨wA.heap.size, 0, none⟩ := by
      simp only [List.getD]
      rw [List.getElem?_append_right (by omega), hlen2]; simp
    rw [e1, e2]
    exact hnode.grown hgrow hr

/-- What build leaves. -/
def Built (xs : List Mk) (w : World) (e : Ending) (w' : World) : Prop :=
  Below w.heap.size w w' ∧ ((¬ TOk xs ∧ e = .returned (.pointer none)) ∨ ∃ x a, TIs xs x ∧ e = .returned (.pointer (some a)) ∧ Pt TT w' x a)
theorem kBuild {Pr : Program} {f : FuncId} {args : Array Value} {w : World} {R : Ending → World → Prop} {xs : List Mk} (h : Calls Pr f args w (Built xs w))
    (h0 : ∀ w', Hid (¬ TOk xs) → Below w.heap.size w w' → R (.returned (.pointer none)) w')
    (h1 : ∀ w' x a, Hid (TIs xs x) → Below w.heap.size w w' → Pt TT w' x a → R (.returned (.pointer (some a))) w') : Calls Pr f args w R :=
  h.mono fun e w' ⟨hb, hh⟩ => by
    rcases hh with ⟨hn, rfl⟩ | ⟨x, a, hx, rfl, hp⟩
    · exact h0 w' hn hb
    · exact h1 w' x a hx hb hp

set_option maxRecDepth 100000 in
set_option maxHeartbeats 1000000 in
theorem iBuild_any (A : Option Addr) (n c : Nat) (xs : List Mk) (w : World) (h : MarksAt w A n xs) (hn : n ≤ 1048576) :
    Calls Tryd.prog 23 #[.slice A n c] w (Built xs w) := by
  have HL := Lib.hid h.len
  go_enter Tryd.func23, Tryd.ntmps23
  go_wp2_with (fail)
  refine kS (in_any (n : Int) 1 11 _) ?_ ?_
  rotate_left
  · intro hin
    go_wp2
    go_ret
    refine ⟨Below.refl _ _, .inl ⟨fun ⟨x, hx⟩ => hin.out ?_, rfl⟩⟩
    have h1 := marks_pos x
    have h2 := hx.2.2
    rw [hx.2.1] at h1
    rw [HL.out] at h1 h2
    exact ⟨by omega, by omega⟩
  · intro hin
    go_wp2
    go_loopw [3, 13] (fun s i wr => ∃ (k : Nat) (st : List Tm) (ps : List Addr) (Av : Option Addr) (cv : Nat), k ≤ n ∧ i = .int .i64 k ∧ s = .slice Av st.length cv ∧ st.length ≤ k ∧ ps.length = st.length ∧ Below w.heap.size w wr ∧ runM (xs.take k) = some st ∧ wr.ownsRow w.heap.size 42 1 (.slice Av st.length cv) st.length (vP ps) ∧ ∀ j, j < st.length → Pt (fun b => some b ≠ (Value.slice Av st.length cv).ownBlock) wr (st.getD j dflt) (ps.getD j a0)) (fun _ i _ => n - (intOf i).toNat)
    case atStart => exact ⟨0, [], [], none, 0, Nat.zero_le _, rfl, rfl, by simp, rfl, Below.refl _ _, rfl, World.ownsRow_nil _ _ _ _, fun j hj => by simp at hj⟩
    case round =>
      obtain ⟨wo, rfl⟩ : ∃ wo : World, wo = wr := ⟨_, rfl⟩
      obtain ⟨k, st, ps, Av, cv, hk, rfl, rfl, hst, hps, hb, hr, hown, hpt⟩ := hrel
      have HR := Lib.hid hr
      have HB := Lib.hid hb
      have HPS := Lib.hid hps
      have HPT := Lib.hid hpt
      have HOWN := Lib.hid hown
      clear hr hb hown hpt hps
      by_cases hlt : k < n
      · obtain ⟨b, off, rfl, c0, c1, c2⟩ := (h.below HB.out).at_ hlt
        have hs := Lib.hid (runM_take_succ (t := xs) (k := k) (by rw [HL.out]; exact hlt))
        obtain ⟨x, HX⟩ : ∃ q, Hid (xs.getD k (0, 0, 0) = q) := ⟨_, rfl⟩
        rw [HX.out] at c0 c1 c2
        obtain ⟨x0, x1, x2⟩ := x
        simp only at c0 c1 c2
        obtain ⟨ar, HAR⟩ : ∃ q, Hid (arity (x0, x1, x2) = q) := ⟨_, rfl⟩
        have hb1 := arity_bd (x0, x1, x2)
        rw [HAR.out] at hb1
        obtain ⟨hb1, hb2⟩ := hb1
        have hm := Lib.hid (arity_nonneg (m := (x0, x1, x2)))
        have hl11 : st.length ≤ 11 := by have := hin.out.2; omega
        go_wp2_with (fail)
        refine kBV (parts_any (x0, x1, x2) _) ?_
        intro w1 hbw1
        rw [HAR.out]
        have hX : Below wo.heap.size wo (wo.alloc (.cells #[.int .i64 x0, .int .i64 x1, .int .i64 x2] 54)) := (Below.refl _ _).alloc (Nat.le_refl _) _
        have m0 : w1.cell? ⟨wo.heap.size, 0, none⟩ = some (.int .i64 x0) := keep hbw1 (by simp [go_sem])
        have m1 : w1.cell? ⟨wo.heap.size, 1, none⟩ = some (.int .i64 x1) := keep hbw1 (by simp [go_sem])
        have m2 : w1.cell? ⟨wo.heap.size, 2, none⟩ = some (.int .i64 x2) := keep hbw1 (by simp [go_sem])
        have HB1 := Lib.hid (hX.trans (hbw1.mono hX.size))
        clear hbw1 hX
        go_wp2_with (fail)
        refine kBV (parts_any (x0, x1, x2) _) ?_
        intro w2 hbw2
        rw [HAR.out]
        replace m0 := keep hbw2 m0
        replace m1 := keep hbw2 m1
        replace m2 := keep hbw2 m2
        have HB2 := Lib.hid (HB1.out.trans (hbw2.mono HB1.out.size))
        clear hbw2 HB1
        by_cases hneg : ar < 0
        · have q1 : decide (ar < 0) = true := by simpa using hneg
          go_wp2
          go_ret
          refine ⟨HB.out.trans (HB2.out.mono HB.out.size), .inl ⟨not_tOk_of_none (k := k + 1) ?_, rfl⟩⟩
          rw [hs.out, HR.out, HX.out]
          exact push_bad (fun hh => by have := hm.out.2 hh; rw [HAR.out] at this; omega)
        · by_cases hfew : (st.length : Int) < ar
          · go_wp2
            go_ret
            refine ⟨HB.out.trans (HB2.out.mono HB.out.size), .inl ⟨not_tOk_of_none (k := k + 1) ?_, rfl⟩⟩
            rw [hs.out, HR.out, HX.out]
            exact push_short (by rw [HAR.out]; exact hfew)
          · obtain ⟨r, rfl⟩ : ∃ r : Nat, ar = (r : Int) := ⟨ar.toNat, by omega⟩
            have hOK := Lib.hid (hm.out.1 (by rw [HAR.out]; omega))
            have hrl : r ≤ st.length := by omega
            obtain ⟨j, hj⟩ : ∃ j, st.length - r = j := ⟨_, rfl⟩
            have hjI : (st.length : Int) - (r : Int) = (j : Int) := by omega
            have hjl : j ≤ st.length := by omega
            have HRJ := Lib.hid (show r = st.length - j by omega)
            clear hj
            rcases ownsRow_forms HOWN.out with ⟨he, h0⟩ | ⟨g, cap, he⟩
            · obtain rfl : st = [] := List.eq_nil_of_length_eq_zero h0
              cases he
              obtain rfl : r = 0 := by simpa using hrl
              obtain rfl : ps = [] := List.eq_nil_of_length_eq_zero HPS.out
              clear hjI hjl HRJ hb1 hb2 hrl hst hl11 h0 j
              go_wp2_with (fail)
              go_region_held_law (fun w' => w'.cell? ⟨wo.heap.size, 0, none⟩ = some (.int .i64 x0) ∧ w'.cell? ⟨wo.heap.size, 1, none⟩ = some (.int .i64 x1) ∧ w'.cell? ⟨wo.heap.size, 2, none⟩ = some (.int .i64 x2))
                (first | exact hS | exact ⟨m0, m1, m2⟩ | exact ⟨keep hbA m0, keep hbA m1, keep hbA m2⟩ | exact ⟨keep (hbA.alloc hbA.size _) m0, keep (hbA.alloc hbA.size _) m1, keep (hbA.alloc hbA.size _) m2⟩ | exact ⟨keep ((hbA.alloc hbA.size _).alloc (by have := hbA.size; simp at this ⊢; omega) _) m0, keep ((hbA.alloc hbA.size _).alloc (by have := hbA.size; simp at this ⊢; omega) _) m1, keep ((hbA.alloc hbA.size _).alloc (by have := hbA.size; simp at this ⊢; omega) _) m2⟩)
                (first
                  | (go_at_call 36; refine kPtrs (Clone_any TT none 0 0 [] _ ⟨rfl, fun h => absurd h (by decide)⟩ (by decide)) ?_; intro A' c' wA hcA hpA hbA)
                  | (refine step_app rowP (by rfl) _ _ (by rfl) w.heap.size _ 0 [] (by rfl) (World.ownsRow_nil _ _ _ _) ⟨wA.heap.size + 1, 0, none⟩ 1 1 (vP [⟨wA.heap.size, 0, none⟩]) (by rfl) rfl (cell_one_at (by simp) _ _) (vP_one _) (by decide) (by omega) (by have := hbA.size; have := HB.out.size; have := HB2.out.size; simp at *; omega) ?_
                     intro g' cap' wB hownB hgrow hat hltB
                     have hne : some wo.heap.size ≠ Value.ownBlock (.slice none 0 0) := by simp [Value.ownBlock]
                     have hbC := ((hbA.alloc hbA.size (.cells #[.int .i64 x0, .int .i64 x1, .int .i64 x2, .slice A' 0 c'] 71)).alloc (by have := hbA.size; simp at this ⊢; omega) (.cells #[.pointer (some ⟨wA.heap.size, 0, none⟩)] 42))
                     have hS := And.intro (hgrow.cell (keep hbC m0) hne) (And.intro (hgrow.cell (keep hbC m1) hne) (hgrow.cell (keep hbC m2) hne))))
              go_wp2
              go_roundw
              case rel =>
                have hbB : Below w.heap.size w wB := (((HB.out.trans (HB2.out.mono HB.out.size)).drew).trans (hbC.mono (Nat.le_trans HB.out.size HB2.out.size))).grown hgrow (Nat.le_trans (Nat.le_trans HB.out.size HB2.out.size) hbC.size) (fun k hk => by cases hk)
                have hpts := build_pts (j := 0) (st := []) (ps := []) (m := (x0, x1, x2)) HB2.out hbA (fun g hg => by cases hg) (fun i hi => by simp at hi) rfl (Nat.le_refl _) hpA hOK.out HAR.out hgrow hat
                refine ⟨k + 1, [node (x0, x1, x2) []], [⟨wA.heap.size, 0, none⟩], some ⟨g', 0, none⟩, cap', by omega, by go_num, by simp, by simp, rfl, hbB, ?_, hownB, hpts⟩
                rw [hs.out, HR.out, HX.out]
                exact push_node (r := 0) (st := []) hOK.out HAR.out (Nat.le_refl _)
              case measure => simp [intOf]; omega
            · cases he
              have hcv : st.length ≤ cv := by obtain ⟨_, _, e, hcv, _⟩ := own_cells HOWN.out; cases e; exact hcv
              have hjc : j ≤ cv := by omega
              have HPD := Lib.hid (own_dropIf (D := TT) (own_below HOWN.out HB2.out) hjl hcv trivial)
              obtain ⟨Ad, hif⟩ : ∃ Ad, (if cv = j then some (⟨g, 0, none⟩ : Addr) else some ⟨g, j, none⟩) = Ad := ⟨_, rfl⟩
              rw [hif] at HPD
              have HCL := Lib.hid (Clone_any TT Ad (st.length - j) (cv - j) (ps.drop j) w2.drew (HPD.out.keep fun _ _ _ _ hv => ⟨hv, trivial⟩) (by omega))
              have hgl : g < wo.heap.size := (HOWN.out.lt g rfl).2
              clear hrl
              go_wp2_with (fail)
              go_region_held_law (fun w' => w'.cell? ⟨wo.heap.size, 0, none⟩ = some (.int .i64 x0) ∧ w'.cell? ⟨wo.heap.size, 1, none⟩ = some (.int .i64 x1) ∧ w'.cell? ⟨wo.heap.size, 2, none⟩ = some (.int .i64 x2))
                (first | exact hS | exact ⟨m0, m1, m2⟩ | exact ⟨keep hbA m0, keep hbA m1, keep hbA m2⟩ | exact ⟨keep (hbA.alloc hbA.size _) m0, keep (hbA.alloc hbA.size _) m1, keep (hbA.alloc hbA.size _) m2⟩ | exact ⟨keep ((hbA.alloc hbA.size _).alloc (by have := hbA.size; simp at this ⊢; omega) _) m0, keep ((hbA.alloc hbA.size _).alloc (by have := hbA.size; simp at this ⊢; omega) _) m1, keep ((hbA.alloc hbA.size _).alloc (by have := hbA.size; simp at this ⊢; omega) _) m2⟩)
                (first
                  | (go_at_call 36; refine kPtrs HCL.out ?_; intro A' c' wA hcA hpA hbA)
                  | (refine step_app rowP (by rfl) _ _ (by rfl) w.heap.size _ j ((vP ps).take j) (by rfl) ((((own_below (own_drewN (own_take (own_below HOWN.out HB2.out) hjl) 1) hbA).alloc _).alloc _)) ⟨wA.heap.size + 1, 0, none⟩ 1 1 (vP [⟨wA.heap.size, 0, none⟩]) (by rfl) rfl (cell_one_at (by simp) _ _) (vP_one _) (by decide) (by omega) (by have := hbA.size; have := HB.out.size; have := HB2.out.size; simp at *; omega) ?_
                     intro g' cap' wB hownB hgrow hat hltB
                     have hne : some wo.heap.size ≠ Value.ownBlock (.slice (some ⟨g, 0, none⟩) j cv) := by simp [Value.ownBlock]; omega
                     have hbC := ((hbA.alloc hbA.size (.cells #[.int .i64 x0, .int .i64 x1, .int .i64 x2, .slice A' (st.length - j) c'] 71)).alloc (by have := hbA.size; simp at this ⊢; omega) (.cells #[.pointer (some ⟨wA.heap.size, 0, none⟩)] 42))
                     have hS := And.intro (hgrow.cell (keep hbC m0) hne) (And.intro (hgrow.cell (keep hbC m1) hne) (hgrow.cell (keep hbC m2) hne))))
              go_wp2
              go_roundw
              case rel =>
                have hbB : Below w.heap.size w wB := (((HB.out.trans (HB2.out.mono HB.out.size)).drew).trans (hbC.mono (Nat.le_trans HB.out.size HB2.out.size))).grown hgrow (Nat.le_trans (Nat.le_trans HB.out.size HB2.out.size) hbC.size) (fun k hk => by cases hk; exact (HOWN.out.lt g rfl).1)
                have har : arity (x0, x1, x2) = ((st.length - j : Nat) : Int) := by rw [HAR.out, HRJ.out]
                have hpts := build_pts (row := some g) (m := (x0, x1, x2)) HB2.out hbA (fun q hq => by cases hq; exact hgl) HPT.out HPS.out hjl hpA hOK.out har hgrow hat
                have hlen : (st.take j ++ [node (x0, x1, x2) (st.drop j)]).length = j + 1 := by simp; omega
                refine ⟨k + 1, st.take j ++ [node (x0, x1, x2) (st.drop j)], ps.take j ++ [⟨wA.heap.size, 0, none⟩], some ⟨g', 0, none⟩, cap', by omega, by go_num, by rw [hlen], by rw [hlen]; omega, by rw [hlen]; simp [HPS.out]; omega, hbB, ?_, ?_, ?_⟩
                · rw [hs.out, HR.out, HX.out]
                  show push st (x0, x1, x2) = _
                  rw [push_node (r := r) hOK.out HAR.out (by omega)]
                  have : st.length - r = j := by omega
                  rw [this]
                · rw [hlen]
                  have : vP (ps.take j ++ [(⟨wA.heap.size, 0, none⟩ : Addr)]) = List.take j (vP ps) ++ vP [(⟨wA.heap.size, 0, none⟩ : Addr)] := by simp [vP]
                  rw [this]; exact hownB
                · intro i hi
                  exact hpts i hi
              case measure => simp [intOf]; omega
      · obtain rfl : k = n := by omega
        have hr2 : runM xs = some st := by have := HR.out; rwa [List.take_of_length_le (by rw [HL.out]; omega)] at this
        have HR2 := Lib.hid hr2
        clear hr2
        by_cases h1 : st.length = 1
        · obtain ⟨x, rfl⟩ := List.length_eq_one_iff.1 h1
          have hx : TIs xs x := tOk_of_run HR2.out (by rw [HL.out]; have := hin.out.2; omega)
          obtain ⟨g, cap, he⟩ := ownsRow_form HOWN.out (by simp)
          cases he
          have c0 := HOWN.out.cellAt 0 (by simp)
          have hp0 := HPT.out 0 (by simp)
          have hps1 : (vP ps)[0]? = some (.pointer (some (ps.getD 0 a0))) := by
            have : 0 < ps.length := by rw [HPS.out]; simp
            simp [vP, List.getD, this]
          rw [hps1] at c0
          obtain ⟨a, HA⟩ : ∃ q, Hid (ps.getD 0 a0 = q) := ⟨_, rfl⟩
          rw [HA.out] at c0 hp0
          have HX := Lib.hid hx
          have HP0 := Lib.hid hp0
          clear hx hp0 hps1 h1
          go_wp2
          go_ret
          exact ⟨HB.out, .inr ⟨x, a, HX.out, rfl, HP0.out.tt⟩⟩
        · have hx : ¬ TOk xs := fun ⟨x, hx⟩ => h1 (by have := run_of_tOk hx; rw [HR2.out] at this; obtain rfl := Option.some.inj this; rfl)
          have HX := Lib.hid hx
          have q1 : ((st.length : Int) != 1) = true := by simp; omega
          clear hx
          go_wp2
          go_ret
          exact ⟨HB.out, .inl ⟨HX.out, rfl⟩⟩

end Go.Proofs.YtcmicmenkbgfmaaDoor
