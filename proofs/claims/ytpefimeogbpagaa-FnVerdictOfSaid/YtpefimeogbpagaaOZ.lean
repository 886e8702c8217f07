/- Rows of ints, and rows of rows of ints, that a call has made itself. -/
import Derived.Test.YtpefimeogbpagaaA2
import Derived.Test.YtpefimeogbpagaaO1
namespace Go.Proofs.Ytpefimeogbpagaa
open Go.RowKit

theorem rowZ : RowTy Try.prog 29 3 (.int .i64 0) 1 8 := ⟨Try.underlying29, by kernel_rfl, rfl, by decide, by decide⟩
theorem grown_trZ {a b c : World} {row : Option Nat} (h : a.grownBy b row) (k : b.grownBy c row) : a.grownBy c row :=
  ⟨k.os.trans h.os, k.tape.trans h.tape, k.output.trans h.output, Nat.le_trans h.size k.size, fun i hi hn => (k.block i (Nat.lt_of_lt_of_le hi h.size) hn).trans (h.block i hi hn)⟩
theorem grown_rfZ (w : World) (row : Option Nat) : w.grownBy w row := ⟨rfl, rfl, rfl, Nat.le_refl _, fun _ _ _ => rfl⟩
theorem own_keptZ {w w' : World} {base : Nat} {e : TypeId} {size : Nat} {v : Value} {n : Nat} {xs : List Value} {row : Option Nat} (h : w.ownsRow base e size v n xs) (hg : w.grownBy w' row) (hne : ∀ k, v.ownBlock = some k → row ≠ some k) : w'.ownsRow base e size v n xs := by
  refine h.kept hg ?_
  cases hv : v.ownBlock with
  | none => exact .inl rfl
  | some k => exact .inr (fun e => hne k hv e.symm)
theorem own_setOldZ {w : World} {base : Nat} {e : TypeId} {size : Nat} {v : Value} {n : Nat} {xs : List Value} (h : w.ownsRow base e size v n xs) {Q : Nat} (hQ : Q < base) (i : Nat) (u : Value) : (w.setCell ⟨Q, i, none⟩ u).ownsRow base e size v n xs :=
  own_keptZ h (row := some Q) ⟨rfl, rfl, rfl, by simp [World.setCell], fun k _ hk => Below.heap_setCell _ _ _ _ (fun e => hk (by rw [e]))⟩ (fun k hk e => by have := (h.lt k hk).1; cases e; omega)
theorem own_litZ {w : World} {q : Nat} (hq : w.heap.size = q) (base : Nat) (e : TypeId) (size : Nat) (cs : Array Value) (n : Nat) (hb : base ≤ w.heap.size) (hm : n ≤ maxLen) (hs : cs.size = n * size) :
    (w.alloc (.cells cs e)).ownsRow base e size (.slice (some ⟨q, 0, none⟩) n n) n cs.toList := by subst hq; exact own_lit w base e size cs n hb hm hs
def seqZ (k : Int) (n : Nat) : List Int := (List.range n).map fun j : Nat => k + (j : Int)
theorem seqZ_len (k : Int) (n : Nat) : (seqZ k n).length = n := by simp [seqZ]
theorem seqZ_get (k : Int) {n j : Nat} (h : j < n) : (seqZ k n).getD j 0 = k + (j : Int) := by simp [seqZ, List.getD, h]
theorem seqZ_succ (k : Int) (n : Nat) : seqZ k (n + 1) = seqZ k n ++ [k + (n : Int)] := by simp [seqZ, List.range_succ]
theorem own_cellsZ {w : World} {base : Nat} {e : TypeId} {size : Nat} {A : Option Addr} {n c : Nat} {xs : List Value} (h : w.ownsRow base e size (.slice A n c) n xs) (hn : 0 < n) : ∃ g, A = some ⟨g, 0, none⟩ ∧ base ≤ g ∧ g < w.heap.size := by
  obtain ⟨g, cap, e, h1, h2⟩ := h.form hn
  cases e
  exact ⟨g, rfl, h1, h2⟩
theorem own_setZ {w : World} {base : Nat} {e : TypeId} {size g n cap : Nat} {xs : List Value} (h : w.ownsRow base e size (.slice (some ⟨g, 0, none⟩) n cap) n xs) (j : Nat) (u : Value) :
    (w.setCell ⟨g, j, none⟩ u).ownsRow base e size (.slice (some ⟨g, 0, none⟩) n cap) n (xs.set j u) := (h.stored j u).1

section
variable {P : Program} {w : World} {t e : TypeId} {z : Value} {size bytes : Nat}
theorem run_appZ (R : RowTy P t e z size bytes) (ty : TypeId) (base : Nat) (q n c0 : Nat) (xs : List Value) (hown : w.ownsRow base e size (.slice (some ⟨q, 0, none⟩) n c0) n xs)
    (ad : Addr) (m c : Nat) (news : List Value) (hl : news.length = m * size) (hnews : ∀ j u, news[j]? = some u → w.cell? (ad.add j) = some u) (h1 : ∀ u ∈ news, u.oneCell' = true)
    (hbytes : (n + m) * bytes ≤ 140737488355328) (hbase : base ≤ w.heap.size) :
    ∃ g cap w', (Builtin.append_ #[t, t] ty #[.slice (some ⟨q, 0, none⟩) n c0, .slice (some ad) m c]).run P w = .ok (.slice (some ⟨g, 0, none⟩) (n + m) cap) w' ∧
      w'.ownsRow base e size (.slice (some ⟨g, 0, none⟩) (n + m) cap) (n + m) (xs ++ news) ∧ w.grownBy w' (some q) ∧ (q = g ∨ g = w.heap.size) ∧ g < w'.heap.size := by
  obtain ⟨i, hi, hz, hsz, hby⟩ := R.info
  have h63 : n + m ≤ maxLen := by
    have : n + m ≤ (n + m) * bytes := Nat.le_mul_of_pos_right _ R.hb
    unfold maxLen; omega
  obtain ⟨v', w', hr, h2, h3, h4, h5⟩ := run_append_own_at (P := P) w base t ty e i z size bytes R.ht hi hz hsz hby R.hz R.hs _ n xs hown ad m c news hl hnews h1 h63 hbytes hbase
  have hne : v' ≠ .slice none 0 0 := fun e => by have := (h4.1 e).1; cases this
  rcases h2.2 with ⟨e, _⟩ | ⟨g, cap, cur, hv, hb, hg, _⟩
  · exact absurd e hne
  · subst hv
    refine ⟨g, cap, w', hr, h2, h3, ?_, (h2.lt g rfl).2⟩
    rcases h5 with h5 | h5
    · simp only [Value.ownBlock] at h5; cases h5; exact .inl rfl
    · simp only [Value.ownBlock] at h5; cases h5; exact .inr rfl
theorem wp_appZ (R : RowTy P t e z size bytes) {o : Oper} {a : Act} {K : Act → World → Prop} {Q : Exit → Act → World → Prop} (s x : Operand)
    (ho : o.op = .call { callee := .builtin .append, args := #[s, x], argTypes := #[t, t] })
    (base : Nat) (q n c0 : Nat) (xs : List Value) (hs : a.eval s = .slice (some ⟨q, 0, none⟩) n c0) (hown : w.ownsRow base e size (.slice (some ⟨q, 0, none⟩) n c0) n xs)
    (ad : Addr) (m c : Nat) (news : List Value) (hx : a.eval x = .slice (some ad) m c) (hl : news.length = m * size) (hnews : ∀ j u, news[j]? = some u → w.cell? (ad.add j) = some u) (h1 : ∀ u ∈ news, u.oneCell' = true)
    (N : Nat) (hN : n + m = N) (zs : List Value) (hzs : xs ++ news = zs) (hbytes : N * bytes ≤ 140737488355328) (hbase : base ≤ w.heap.size)
    (h : ∀ g cap w', w'.ownsRow base e size (.slice (some ⟨g, 0, none⟩) N cap) N zs → w.grownBy w' (some q) → (q = g ∨ g = w.heap.size) → g < w'.heap.size → K (a.put o.dst (.slice (some ⟨g, 0, none⟩) N cap)) w') : o.wp P a w K Q := by
  subst hN hzs
  obtain ⟨g, cap, w', hr, h2, h3, h4, h5⟩ := run_appZ (P := P) (w := w) R o.type base q n c0 xs hown ad m c news hl hnews h1 hbytes hbase
  unfold Oper.wp execOp
  simp only [ho, resolve, invoke, builtin, Sem.run_bind, Sem.run_pure, Result.andThen_ok, List.map_toArray, List.map_cons, List.map_nil, hs, hx, hr]
  exact h g cap w' h2 h3 h4 h5
theorem wpl_appZ (R : RowTy P t e z size bytes) {ops : Array Oper} {rest : List Oper} {o : Oper} {a : Act} {Q : Exit → Act → World → Prop} (hgd : o.guard = none) (s x : Operand)
    (ho : o.op = .call { callee := .builtin .append, args := #[s, x], argTypes := #[t, t] })
    (base : Nat) (q n c0 : Nat) (xs : List Value) (hs : a.eval s = .slice (some ⟨q, 0, none⟩) n c0) (hown : w.ownsRow base e size (.slice (some ⟨q, 0, none⟩) n c0) n xs)
    (ad : Addr) (m c : Nat) (news : List Value) (hx : a.eval x = .slice (some ad) m c) (hl : news.length = m * size) (hnews : ∀ j u, news[j]? = some u → w.cell? (ad.add j) = some u) (h1 : ∀ u ∈ news, u.oneCell' = true)
    (N : Nat) (hN : n + m = N) (zs : List Value) (hzs : xs ++ news = zs) (hbytes : N * bytes ≤ 140737488355328) (hbase : base ≤ w.heap.size)
    (h : ∀ g cap w', w'.ownsRow base e size (.slice (some ⟨g, 0, none⟩) N cap) N zs → w.grownBy w' (some q) → (q = g ∨ g = w.heap.size) → g < w'.heap.size → wpList P ops Q rest (a.put o.dst (.slice (some ⟨g, 0, none⟩) N cap)) w') : wpList P ops Q (o :: rest) a w :=
  wpList_plain hgd fun _ hK => wp_appZ R s x ho base q n c0 xs hs hown ad m c news hx hl hnews h1 N hN zs hzs hbytes hbase fun g cap w' h2 h3 h4 h5 => hK _ _ (h g cap w' h2 h3 h4 h5)
theorem step_appZ (R : RowTy P t e z size bytes) {ops : Array Oper} {o : Oper} {a : Act} {K : Act → World → Prop} {Q : Exit → Act → World → Prop} {E : Prop} (hgd : o.guard = none) (s x : Operand)
    (ho : o.op = .call { callee := .builtin .append, args := #[s, x], argTypes := #[t, t] })
    (base : Nat) (q n c0 : Nat) (xs : List Value) (hs : a.eval s = .slice (some ⟨q, 0, none⟩) n c0) (hown : w.ownsRow base e size (.slice (some ⟨q, 0, none⟩) n c0) n xs)
    (ad : Addr) (m c : Nat) (news : List Value) (hx : a.eval x = .slice (some ad) m c) (hl : news.length = m * size) (hnews : ∀ j u, news[j]? = some u → w.cell? (ad.add j) = some u) (h1 : ∀ u ∈ news, u.oneCell' = true)
    (N : Nat) (hN : n + m = N) (zs : List Value) (hzs : xs ++ news = zs) (hbytes : N * bytes ≤ 140737488355328) (hbase : base ≤ w.heap.size)
    (h : ∀ g cap w', w'.ownsRow base e size (.slice (some ⟨g, 0, none⟩) N cap) N zs → w.grownBy w' (some q) → (q = g ∨ g = w.heap.size) → g < w'.heap.size → K (a.put o.dst (.slice (some ⟨g, 0, none⟩) N cap)) w') :
    if Region.wanted o (yielded ops a.tmps) = true then Oper.wp P o a w K Q else E := by
  have hw : Region.wanted o (yielded ops a.tmps) = true := by simp [Region.wanted, hgd]
  rw [if_pos hw]
  exact wp_appZ R s x ho base q n c0 xs hs hown ad m c news hx hl hnews h1 N hN zs hzs hbytes hbase h
end


/-- A row of ints of one's own. -/
abbrev OwnZ (w : World) (base : Nat) (A : Option Addr) (n c : Nat) (xs : List Int) : Prop := w.ownsRow base 3 1 (.slice A n c) n (vI xs)
theorem OwnZ.len {w : World} {base : Nat} {A : Option Addr} {n c : Nat} {xs : List Int} (h : OwnZ w base A n c xs) : xs.length = n := by
  have := h.1; rw [vI_len] at this; omega
theorem OwnZ.at_ {w : World} {base : Nat} {A : Option Addr} {n c : Nat} {xs : List Int} (h : OwnZ w base A n c xs) : IntsAt w A n xs := by
  obtain ⟨A', c', e, _, hi, _⟩ := own_ints h
  cases e; exact hi
theorem OwnZ.cap {w : World} {base : Nat} {A : Option Addr} {n c : Nat} {xs : List Int} (h : OwnZ w base A n c xs) : n ≤ c := by
  obtain ⟨A', c', e, hc, _, _⟩ := own_ints h
  cases e; exact hc
theorem OwnZ.nil (w : World) (base : Nat) : OwnZ w base none 0 0 [] := World.ownsRow_nil _ _ _ _
theorem OwnZ.empty (w : World) (base : Nat) (hb : base ≤ w.heap.size) : OwnZ (w.alloc (.cells #[] 3)) base (some ⟨w.heap.size, 0, none⟩) 0 0 [] := own_lit w base _ 1 #[] 0 hb (by decide) rfl
def NewZ (w : World) (xs : List Int) (e : Ending) (w' : World) : Prop :=
  ∃ A c, e = .returned (.slice A xs.length c) ∧ OwnZ w' w.heap.size A xs.length c xs ∧ Below w.heap.size w w'
theorem kNewZ {Pr : Program} {f : FuncId} {args : Array Value} {w : World} {R : Ending → World → Prop} {xs : List Int} (h : Calls Pr f args w (NewZ w xs))
    (h1 : ∀ A c w', OwnZ w' w.heap.size A xs.length c xs → Below w.heap.size w w' → R (.returned (.slice A xs.length c)) w') : Calls Pr f args w R :=
  h.mono fun e w' ⟨A, c, he, hi, hb⟩ => by subst he; exact h1 A c w' hi hb
def NewZB (w : World) (xs : List Int) (b : Bool) (e : Ending) (w' : World) : Prop :=
  ∃ A c, e = .returned (.tuple #[.slice A xs.length c, .bool b]) ∧ OwnZ w' w.heap.size A xs.length c xs ∧ Below w.heap.size w w'
theorem kNewZB {Pr : Program} {f : FuncId} {args : Array Value} {w : World} {R : Ending → World → Prop} {xs : List Int} {b : Bool} (h : Calls Pr f args w (NewZB w xs b))
    (h1 : ∀ A c w', OwnZ w' w.heap.size A xs.length c xs → Below w.heap.size w w' → R (.returned (.tuple #[.slice A xs.length c, .bool b])) w') : Calls Pr f args w R :=
  h.mono fun e w' ⟨A, c, he, hi, hb⟩ => by subst he; exact h1 A c w' hi hb
theorem vI_appZ (xs ys : List Int) : vI (xs ++ ys) = vI xs ++ vI ys := by simp [vI]
theorem setZ1 (ys pre : List Int) (y x : Int) : (vI (pre ++ y :: ys)).set pre.length (.int .i64 x) = vI (pre ++ x :: ys) := by
  rw [vI_appZ, vI_appZ]
  have h := vI_len pre
  rw [List.set_append_right _ _ (by omega), h, Nat.mul_one, Nat.sub_self]
  rfl




theorem rowRZ : RowTy Try.prog 63 29 (.slice none 0 0) 1 24 := ⟨Try.underlying63, by kernel_rfl, rfl, by decide, by decide⟩
/-- A part of such a row: where it lies, its room, its marks. -/
abbrev PartZ := (Option Addr × Nat) × List Int
def hdZ (p : PartZ) : Value := .slice p.1.1 p.2.length p.1.2
def vSZ (ps : List PartZ) : List Value := ps.map hdZ
theorem vSZ_one (ps : List PartZ) : ∀ u ∈ vSZ ps, u.oneCell' = true := by
  intro u hu; obtain ⟨x, _, rfl⟩ := List.mem_map.1 hu; rfl
theorem vSZ_len (ps : List PartZ) : (vSZ ps).length = ps.length * 1 := by simp [vSZ]
theorem vSZ_append (ps qs : List PartZ) : vSZ (ps ++ qs) = vSZ ps ++ vSZ qs := by simp [vSZ]
theorem vSZ_take (ps : List PartZ) (k : Nat) : vSZ (ps.take k) = (vSZ ps).take k := by simp [vSZ]
theorem vSZ_drop (ps : List PartZ) (k : Nat) : vSZ (ps.drop k) = (vSZ ps).drop k := by simp [vSZ]
theorem vSZ_set (ps : List PartZ) (k : Nat) (q : PartZ) : vSZ (ps.set k q) = (vSZ ps).set k (hdZ q) := by simp [vSZ, List.map_set]

/-- A part lies in a row of its own, apart from block o. -/
def InnZ (w : World) (B : Nat) (o : Option Nat) (p : PartZ) : Prop := OwnZ w B p.1.1 p.2.length p.1.2 p.2 ∧ ∀ g, (hdZ p).ownBlock = some g → o ≠ some g
theorem InnZ.kept {w w' : World} {B : Nat} {o o' row : Option Nat} {p : PartZ} (h : InnZ w B o p) (hg : w.grownBy w' row) (hne : ∀ g, (hdZ p).ownBlock = some g → row ≠ some g) (ho : ∀ g, (hdZ p).ownBlock = some g → g < w.heap.size → o' ≠ some g) : InnZ w' B o' p := by
  refine ⟨h.1.kept hg ?_, fun g hgb => ho g hgb (h.1.lt g hgb).2⟩
  cases hv : (Value.slice p.1.1 p.2.length p.1.2).ownBlock with
  | none => exact .inl rfl
  | some k => exact .inr (fun e => hne k hv e.symm)

structure RowsZ (w : World) (B : Nat) (A : Option Addr) (n c : Nat) (ps : List PartZ) : Prop where
  own : w.ownsRow B 29 1 (.slice A n c) n (vSZ ps)
  inn : ∀ p ∈ ps, InnZ w B (Value.slice A n c).ownBlock p
section
variable {w w' wB W : World} {B n c m g cap j : Nat} {A : Option Addr} {ps qs : List PartZ} {row : Option Nat}
theorem RowsZ.len (h : RowsZ w B A n c ps) : ps.length = n := by
  have := h.own.1; rw [vSZ_len] at this; omega
theorem RowsZ.room (h : RowsZ w B A n c ps) : n ≤ c := by
  obtain ⟨A', c', e, hc, _, _⟩ := own_cells h.own
  cases e; exact hc
theorem RowsZ.nil (w : World) (B : Nat) : RowsZ w B none 0 0 [] := ⟨World.ownsRow_nil _ _ _ _, fun p hp => by cases hp⟩
theorem RowsZ.empty (w : World) (B : Nat) (hb : B ≤ w.heap.size) : RowsZ (w.alloc (.cells #[] 29)) B (some ⟨w.heap.size, 0, none⟩) 0 0 [] := ⟨own_lit w B _ 1 #[] 0 hb (by decide) rfl, fun p hp => by cases hp⟩
theorem RowsZ.kept (h : RowsZ w B A n c ps) (hg : w.grownBy w' row) (hr : ∀ g, row = some g → g < B) : RowsZ w' B A n c ps := by
  refine ⟨h.own.kept hg ?_, fun p hp => ?_⟩
  · cases hv : (Value.slice A n c).ownBlock with
    | none => exact .inl rfl
    | some k => exact .inr (fun e => by have := hr k e.symm; have := (h.own.lt k hv).1; omega)
  · have hi := h.inn p hp
    exact hi.kept hg (fun g hgb e => by have := hr g e; have := (hi.1.lt g hgb).1; omega) (fun g hgb _ => hi.2 g hgb)
theorem RowsZ.below (h : RowsZ w B A n c ps) (hb : Below w.heap.size w w') : RowsZ w' B A n c ps :=
  h.kept (row := none) ⟨hb.os, hb.tape, hb.output, hb.size, fun k hk _ => hb.block k hk⟩ (fun g hg => by cases hg)
theorem RowsZ.alloc (h : RowsZ w B A n c ps) (o : Obj) : RowsZ (w.alloc o) B A n c ps := h.below ((Below.refl _ _).alloc (Nat.le_refl _) _)
theorem RowsZ.drewN (h : RowsZ w B A n c ps) (k : Nat) : RowsZ (w.drewN k) B A n c ps := ⟨h.own, h.inn⟩
theorem RowsZ.get (h : RowsZ w B A n c ps) (hj : j < n) : ∃ g p, A = some ⟨g, 0, none⟩ ∧ B ≤ g ∧ g < w.heap.size ∧ ps[j]? = some p ∧ w.cell? ⟨g, j, none⟩ = some (hdZ p) ∧ w.frozen? ⟨g, j, none⟩ = false ∧ InnZ w B (some g) p := by
  obtain ⟨g, rfl, hg, hgl⟩ := own_cellsZ h.own (by omega)
  have hl := h.len
  have hp : ps[j]? = some ps[j] := List.getElem?_eq_getElem (by omega)
  refine ⟨g, _, rfl, hg, hgl, hp, ?_, h.own.frozenAt j, h.inn _ (List.getElem_mem _)⟩
  have := h.own.cells (g := g) rfl j (hdZ ps[j]) (by simp [vSZ, hl, hj])
  rwa [addr_add, Nat.zero_add] at this
/-- Parts more. -/
theorem RowsZ.app (h : RowsZ W B A n c ps) (hq : ∀ q ∈ qs, InnZ W B (Value.slice A n c).ownBlock q) (hown : wB.ownsRow B 29 1 (.slice (some ⟨g, 0, none⟩) (n + m) cap) (n + m) (vSZ ps ++ vSZ qs)) (hgrow : W.grownBy wB (Value.slice A n c).ownBlock) (hat : (Value.slice A n c).ownBlock = some g ∨ W.heap.size ≤ g) :
    RowsZ wB B (some ⟨g, 0, none⟩) (n + m) cap (ps ++ qs) := by
  refine ⟨by rw [vSZ_append]; exact hown, fun p hp => ?_⟩
  have hi : InnZ W B (Value.slice A n c).ownBlock p := by
    rcases List.mem_append.1 hp with hp | hp
    · exact h.inn p hp
    · exact hq p hp
  refine hi.kept hgrow (fun k hk => hi.2 k hk) (fun k hk hlt e => ?_)
  simp only [Value.ownBlock] at e
  cases e
  rcases hat with h1 | h1
  · exact hi.2 _ hk h1
  · exact absurd hlt (by show ¬ _ < _; omega)
/-- A part is written over. -/
theorem RowsZ.set (h : RowsZ W B (some ⟨g, 0, none⟩) n c ps) (j : Nat) {q : PartZ} (hq : InnZ W B (some g) q) : RowsZ (W.setCell ⟨g, j, none⟩ (hdZ q)) B (some ⟨g, 0, none⟩) n c (ps.set j q) := by
  have hs := h.own.stored j (hdZ q)
  refine ⟨by rw [vSZ_set]; exact hs.1, fun p hp => ?_⟩
  have hi : InnZ W B (some g) p := by
    rcases List.mem_or_eq_of_mem_set hp with hp | rfl
    · exact h.inn p hp
    · exact hq
  exact hi.kept hs.2 (fun k hk => hi.2 k hk) (fun k hk _ => hi.2 k hk)
theorem RowsZ.news (h : RowsZ w B A n c ps) {a : Addr} (ha : A = some a) : ∀ j u, (vSZ ps)[j]? = some u → w.cell? (a.add j) = some u := by
  intro j u hu
  have hj : j < ps.length := by
    rcases Nat.lt_or_ge j ps.length with h1 | h1
    · exact h1
    · rw [vSZ, List.getElem?_eq_none (by simpa using h1)] at hu; cases hu
  obtain ⟨g, p, e, _, _, hp, hc, _, _⟩ := h.get (j := j) (by rw [← h.len]; exact hj)
  rw [e] at ha
  cases ha
  rw [addr_add, Nat.zero_add, hc]
  rw [vSZ, List.getElem?_map, hp] at hu
  exact hu
end


end Go.Proofs.Ytpefimeogbpagaa
