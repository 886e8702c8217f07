/- Rows that a call has made itself, and append onto them: laws in few arguments; ints, and elements of three cells. -/
import Derived.Test.YtcmicmenkbgfmaaDoorB1
import Derived.Deep.AppendLies
import Derived.Deep.RegionHeldLaw
import Derived.WalkSmall
namespace Go.Proofs.YtcmicmenkbgfmaaDoor
open Go.RowKit

/-- What append asks of a slice type. -/
structure RowTy (P : Program) (t e : TypeId) (z : Value) (size bytes : Nat) : Prop where
  ht : P.underlying t = some (.slice e)
  hi : (P.info? e).map (fun i => (i.zero, i.size, i.bytes)) = some (some z, size, bytes)
  hz : z.cells.size = size
  hs : 0 < size
  hb : 0 < bytes
theorem RowTy.info {P : Program} {t e : TypeId} {z : Value} {size bytes : Nat} (R : RowTy P t e z size bytes) : ∃ i, P.info? e = some i ∧ i.zero = some z ∧ i.size = size ∧ i.bytes = bytes := by
  have h := R.hi
  cases hh : P.info? e with
  | none => rw [hh] at h; cases h
  | some i =>
    rw [hh] at h
    have h2 : (i.zero, i.size, i.bytes) = (some z, size, bytes) := by simpa using h
    simp only [Prod.mk.injEq] at h2
    exact ⟨i, rfl, h2.1, h2.2.1, h2.2.2⟩

section
variable {P : Program} {w : World} {t e : TypeId} {z : Value} {size bytes : Nat}
theorem wpl_app (R : RowTy P t e z size bytes) {ops : Array Oper} {rest : List Oper} {o : Oper} {a : Act} {Q : Exit → Act → World → Prop} (hgd : o.guard = none) (s x : Operand)
    (ho : o.op = .call { callee := .builtin .append, args := #[s, x], argTypes := #[t, t] })
    (base : Nat) (v : Value) (n : Nat) (xs : List Value) (hs : a.eval s = v) (hown : w.ownsRow base e size v n xs)
    (ad : Addr) (m c : Nat) (news : List Value) (hx : a.eval x = .slice (some ad) m c) (hl : news.length = m * size) (hnews : ∀ j u, news[j]? = some u → w.cell? (ad.add j) = some u) (h1 : ∀ u ∈ news, u.oneCell' = true)
    (hm : 0 < m) (hbytes : (n + m) * bytes ≤ 140737488355328) (hbase : base ≤ w.heap.size)
    (h : ∀ g cap w', w'.ownsRow base e size (.slice (some ⟨g, 0, none⟩) (n + m) cap) (n + m) (xs ++ news) → w.grownBy w' v.ownBlock → (v.ownBlock = some g ∨ g = w.heap.size) → g < w'.heap.size → wpList P ops Q rest (a.put o.dst (.slice (some ⟨g, 0, none⟩) (n + m) cap)) w') : wpList P ops Q (o :: rest) a w := by
  obtain ⟨i, hi, hz, hsz, hby⟩ := R.info
  have h63 : n + m ≤ maxLen := by
    have : n + m ≤ (n + m) * bytes := Nat.le_mul_of_pos_right _ R.hb
    unfold maxLen; omega
  exact wpList_append_lies w hgd s x t ho base e i z size bytes R.ht hi hz hsz hby R.hz R.hs v n xs hs hown ad m c news hx hl hnews h1 hm h63 hbytes hbase _ rfl h
theorem wpl_app0 (R : RowTy P t e z size bytes) {ops : Array Oper} {rest : List Oper} {o : Oper} {a : Act} {Q : Exit → Act → World → Prop} (hgd : o.guard = none) (s x : Operand)
    (ho : o.op = .call { callee := .builtin .append, args := #[s, x], argTypes := #[t, t] })
    (base : Nat) (v : Value) (n : Nat) (xs : List Value) (hs : a.eval s = v) (hown : w.ownsRow base e size v n xs)
    (ad : Addr) (m c : Nat) (news : List Value) (hx : a.eval x = .slice (some ad) m c) (hl : news.length = m * size) (hnews : ∀ j u, news[j]? = some u → w.cell? (ad.add j) = some u) (h1 : ∀ u ∈ news, u.oneCell' = true)
    (hbytes : (n + m) * bytes ≤ 140737488355328) (hbase : base ≤ w.heap.size)
    (h : ∀ v' w', w'.ownsRow base e size v' (n + m) (xs ++ news) → w.grownBy w' v.ownBlock → (v'.ownBlock = v.ownBlock ∨ v'.ownBlock = some w.heap.size) → wpList P ops Q rest (a.put o.dst v') w') : wpList P ops Q (o :: rest) a w := by
  obtain ⟨i, hi, hz, hsz, hby⟩ := R.info
  have h63 : n + m ≤ maxLen := by
    have : n + m ≤ (n + m) * bytes := Nat.le_mul_of_pos_right _ R.hb
    unfold maxLen; omega
  exact wpList_append_own_at w hgd s x t ho base e i z size bytes R.ht hi hz hsz hby R.hz R.hs v n xs hs hown ad m c news hx hl hnews h1 h63 hbytes hbase fun v' w' h1 h2 _ h3 => h v' w' h1 h2 h3
theorem step_app (R : RowTy P t e z size bytes) {ops : Array Oper} {o : Oper} {a : Act} {K : Act → World → Prop} {Q : Exit → Act → World → Prop} {E : Prop} (hgd : o.guard = none) (s x : Operand)
    (ho : o.op = .call { callee := .builtin .append, args := #[s, x], argTypes := #[t, t] })
    (base : Nat) (v : Value) (n : Nat) (xs : List Value) (hs : a.eval s = v) (hown : w.ownsRow base e size v n xs)
    (ad : Addr) (m c : Nat) (news : List Value) (hx : a.eval x = .slice (some ad) m c) (hl : news.length = m * size) (hnews : ∀ j u, news[j]? = some u → w.cell? (ad.add j) = some u) (h1 : ∀ u ∈ news, u.oneCell' = true)
    (hm : 0 < m) (hbytes : (n + m) * bytes ≤ 140737488355328) (hbase : base ≤ w.heap.size)
    (h : ∀ g cap w', w'.ownsRow base e size (.slice (some ⟨g, 0, none⟩) (n + m) cap) (n + m) (xs ++ news) → w.grownBy w' v.ownBlock → (v.ownBlock = some g ∨ g = w.heap.size) → g < w'.heap.size → K (a.put o.dst (.slice (some ⟨g, 0, none⟩) (n + m) cap)) w') :
    if Region.wanted o (yielded ops a.tmps) = true then Oper.wp P o a w K Q else E := by
  obtain ⟨i, hi, hz, hsz, hby⟩ := R.info
  have h63 : n + m ≤ maxLen := by
    have : n + m ≤ (n + m) * bytes := Nat.le_mul_of_pos_right _ R.hb
    unfold maxLen; omega
  exact step_append_lies w hgd s x t ho base e i z size bytes R.ht hi hz hsz hby R.hz R.hs v n xs hs hown ad m c news hx hl hnews h1 hm h63 hbytes hbase _ rfl h

/-- A row stands while blocks ahead of it stand and its own one is not written. -/
theorem own_below {w' : World} {base : Nat} {v : Value} {n : Nat} {xs : List Value} (h : w.ownsRow base e size v n xs) (hb : Below w.heap.size w w') : w'.ownsRow base e size v n xs := by
  refine h.kept (row := none) ⟨hb.os, hb.tape, hb.output, hb.size, fun k hk _ => hb.block k hk⟩ ?_
  cases v.ownBlock <;> simp
theorem own_drewN {base : Nat} {v : Value} {n : Nat} {xs : List Value} (h : w.ownsRow base e size v n xs) (k : Nat) : (w.drewN k).ownsRow base e size v n xs := h
theorem own_base {base base' : Nat} {v : Value} {n : Nat} {xs : List Value} (h : w.ownsRow base e size v n xs) (hb : base' ≤ base) : w.ownsRow base' e size v n xs := by
  obtain ⟨h1, h2⟩ := h
  refine ⟨h1, ?_⟩
  rcases h2 with h2 | ⟨g, cap, cur, h3, h4, h5⟩
  · exact .inl h2
  · exact .inr ⟨g, cap, cur, h3, Nat.le_trans hb h4, h5⟩
theorem own_lit (w : World) (base : Nat) (e : TypeId) (size : Nat) (cs : Array Value) (n : Nat) (hb : base ≤ w.heap.size) (hm : n ≤ maxLen) (hs : cs.size = n * size) :
    (w.alloc (.cells cs e)).ownsRow base e size (.slice (some ⟨w.heap.size, 0, none⟩) n n) n cs.toList := World.ownsRow_lit w cs n hb hm hs
end

theorem addr_add (b off j : Nat) : (⟨b, off, none⟩ : Addr).add j = ⟨b, off + j, none⟩ := by unfold Addr.add; split <;> simp_all

/-- The one cell of a block just laid, its number a letter. -/
theorem cell_one_at {w : World} {q : Nat} (hq : w.heap.size = q) (x : Value) (t : TypeId) : ∀ j u, [x][j]? = some u → (w.alloc (.cells #[x] t)).cell? ((⟨q, 0, none⟩ : Addr).add j) = some u := by
  subst hq; exact cell_one_new w x t

/-- Ints as values. -/
def vI (xs : List Int) : List Value := xs.map fun x => .int .i64 x
theorem vI_one (xs : List Int) : ∀ u ∈ vI xs, u.oneCell' = true := by
  intro u hu; obtain ⟨x, _, rfl⟩ := List.mem_map.1 hu; rfl
theorem vI_len (xs : List Int) : (vI xs).length = xs.length * 1 := by simp [vI]
theorem IntsAt.news {w : World} {b off n : Nat} {xs : List Int} (h : IntsAt w (some ⟨b, off, none⟩) n xs) : ∀ j u, (vI xs)[j]? = some u → w.cell? ((⟨b, off, none⟩ : Addr).add j) = some u := by
  intro j u hu
  have hj : j < xs.length := by
    rcases Nat.lt_or_ge j xs.length with h1 | h1
    · exact h1
    · rw [vI, List.getElem?_eq_none (by simpa using h1)] at hu; cases hu
  obtain ⟨b', off', e, hc⟩ := h.cells (by rw [← h.len]; omega)
  cases e
  rw [addr_add, hc j (by rw [← h.len]; exact hj)]
  simp [vI, hj] at hu
  simp [← hu, List.getD, hj]
theorem own_cells {w : World} {base : Nat} {e : TypeId} {size : Nat} {v : Value} {n : Nat} {xs : List Value} (h : w.ownsRow base e size v n xs) :
    ∃ A c, v = .slice A n c ∧ n ≤ c ∧ (∀ a, A = some a → base ≤ a.block) ∧ (0 < n → ∃ g, A = some ⟨g, 0, none⟩ ∧ v.ownBlock = some g ∧ g < w.heap.size ∧ ∀ j u, xs[j]? = some u → w.cell? ⟨g, j, none⟩ = some u) := by
  rcases h.2 with ⟨rfl, rfl⟩ | ⟨g, cap, cur, rfl, hbg, hg, hnc, hcm, hcs, htake⟩
  · refine ⟨none, 0, rfl, Nat.le_refl _, ?_, fun h => by omega⟩
    intro a ha
    cases ha
  · refine ⟨_, _, rfl, hnc, fun a ha => by cases ha; exact hbg, fun _ => ⟨g, rfl, rfl, ?_, fun j u hu => ?_⟩⟩
    · rcases Nat.lt_or_ge g w.heap.size with hl | hl
      · exact hl
      · rw [Array.getElem?_eq_none hl] at hg; cases hg
    · have := h.cells (g := g) rfl j u hu
      rwa [addr_add, Nat.zero_add] at this
theorem own_ints {w : World} {base : Nat} {e : TypeId} {v : Value} {n : Nat} {xs : List Int} (h : w.ownsRow base e 1 v n (vI xs)) :
    ∃ A c, v = .slice A n c ∧ n ≤ c ∧ IntsAt w A n xs ∧ (∀ a, A = some a → base ≤ a.block) := by
  obtain ⟨A, c, rfl, hc, hA, hcell⟩ := own_cells h
  have hl : xs.length = n := by have := h.1; simpa [vI] using this
  refine ⟨A, c, rfl, hc, ⟨hl, fun hn => ?_⟩, hA⟩
  obtain ⟨g, rfl, _, _, hg⟩ := hcell hn
  exact ⟨g, 0, rfl, fun j hj => by rw [Nat.zero_add]; exact hg j _ (by simp [vI, List.getD, hl, hj])⟩

/-- Elements of three integer cells, flat. -/
def v3 (xs : List (Int × Int × Int)) : List Value := xs.flatMap fun x => [.int .i64 x.1, .int .i64 x.2.1, .int .i64 x.2.2]
theorem v3_nil : v3 [] = [] := rfl
theorem v3_cons (x : Int × Int × Int) (xs : List (Int × Int × Int)) : v3 (x :: xs) = .int .i64 x.1 :: .int .i64 x.2.1 :: .int .i64 x.2.2 :: v3 xs := rfl
theorem v3_append (xs ys : List (Int × Int × Int)) : v3 (xs ++ ys) = v3 xs ++ v3 ys := by simp [v3]
theorem v3_one (xs : List (Int × Int × Int)) : ∀ u ∈ v3 xs, u.oneCell' = true := by
  intro u hu
  obtain ⟨x, _, hx⟩ := List.mem_flatMap.1 hu
  simp at hx
  rcases hx with rfl | rfl | rfl <;> rfl
theorem v3_len (xs : List (Int × Int × Int)) : (v3 xs).length = xs.length * 3 := by
  induction xs with
  | nil => rfl
  | cons x xs ih => rw [v3_cons]; simp [ih]; omega
theorem v3_get (xs : List (Int × Int × Int)) : ∀ j, j < xs.length → (v3 xs)[j * 3]? = some (.int .i64 (xs.getD j (0, 0, 0)).1) ∧ (v3 xs)[j * 3 + 1]? = some (.int .i64 (xs.getD j (0, 0, 0)).2.1) ∧ (v3 xs)[j * 3 + 2]? = some (.int .i64 (xs.getD j (0, 0, 0)).2.2) := by
  induction xs with
  | nil => intro j hj; simp at hj
  | cons x xs ih =>
    intro j hj
    cases j with
    | zero => simp [v3_cons]
    | succ j =>
      have := ih j (by simpa using hj)
      rw [v3_cons, show (j + 1) * 3 = j * 3 + 3 by omega]
      simpa [List.getD] using this
theorem v3_of {w : World} {g off : Nat} {xs : List (Int × Int × Int)} (hc : ∀ j, j < xs.length → w.cell? ⟨g, off + j * 3, none⟩ = some (.int .i64 (xs.getD j (0, 0, 0)).1) ∧ w.cell? ⟨g, off + j * 3 + 1, none⟩ = some (.int .i64 (xs.getD j (0, 0, 0)).2.1) ∧ w.cell? ⟨g, off + j * 3 + 2, none⟩ = some (.int .i64 (xs.getD j (0, 0, 0)).2.2)) :
    ∀ i u, (v3 xs)[i]? = some u → w.cell? ((⟨g, off, none⟩ : Addr).add i) = some u := by
  intro i u hu
  have hi : i < xs.length * 3 := by
    rcases Nat.lt_or_ge i (xs.length * 3) with h1 | h1
    · exact h1
    · rw [List.getElem?_eq_none (by rw [v3_len]; exact h1)] at hu; cases hu
  rw [addr_add]
  obtain ⟨j, r, hr, rfl⟩ : ∃ j r, r < 3 ∧ i = j * 3 + r := ⟨i / 3, i % 3, Nat.mod_lt _ (by omega), by omega⟩
  have hj : j < xs.length := by omega
  obtain ⟨c0, c1, c2⟩ := hc j hj
  obtain ⟨g0, g1, g2⟩ := v3_get xs j hj
  match r, hr with
  | 0, _ => rw [Nat.add_zero] at hu ⊢; rw [c0, ← g0, hu]
  | 1, _ => rw [← Nat.add_assoc, c1, ← g1, hu]
  | 2, _ => rw [← Nat.add_assoc, c2, ← g2, hu]

end Go.Proofs.YtcmicmenkbgfmaaDoor
