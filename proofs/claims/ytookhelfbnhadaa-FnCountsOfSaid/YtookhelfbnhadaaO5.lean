/- append onto a row of one's own that is not nil, of any number of elements; blocks of six cells. -/
import Derived.Test.YtookhelfbnhadaaM9
namespace Go.Proofs.Ytookhelfbnhadaa
open Go.RowKit

section
variable {P : Program} {w : World} {t e : TypeId} {z : Value} {size bytes : Nat}
theorem run_appE (R : RowTy P t e z size bytes) (ty : TypeId) (base : Nat) (q n c0 : Nat) (xs : List Value) (hown : w.ownsRow base e size (.slice (some ⟨q, 0, none⟩) n c0) n xs)
    (ad : Addr) (m c : Nat) (news : List Value) (hl : news.length = m * size) (hnews : ∀ j u, news[j]? = some u → w.cell? (ad.add j) = some u) (h1 : ∀ u ∈ news, u.oneCell' = true)
    (hbytes : (n + m) * bytes ≤ 140737488355328) (hbase : base ≤ w.heap.size) :
    ∃ g cap w', (Builtin.append_ #[t, t] ty #[.slice (some ⟨q, 0, none⟩) n c0, .slice (some ad) m c]).run P w = .ok (.slice (some ⟨g, 0, none⟩) (n + m) cap) w' ∧
      w'.ownsRow base e size (.slice (some ⟨g, 0, none⟩) (n + m) cap) (n + m) (xs ++ news) ∧ w.grownBy w' (some q) ∧ (q = g ∨ g = w.heap.size) ∧ g < w'.heap.size := by
  obtain ⟨i, hi, hz, hsz, hby⟩ := R.info
  have h63 : n + m ≤ maxLen := by
    have : n + m ≤ (n + m) * bytes := Nat.le_mul_of_pos_right _ R.hb
    unfold maxLen; omega
  obtain ⟨v', w', hr, h2, h3, h4, h5⟩ := run_append_own_at (P := P) w base t ty e i z size bytes R.ht hi hz hsz hby R.hz R.hs _ n xs hown ad m c news hl hnews h1 h63 hbytes hbase
  have hne : v' ≠ .slice none 0 0 := fun e => by have := (h4.1 e).1; cases this
  rcases h2.2 with ⟨e, _⟩ | ⟨g, cap, cur, hv, hb, hg, _⟩
  · exact absurd e hne
  · subst hv
    refine ⟨g, cap, w', hr, h2, h3, ?_, (h2.lt g rfl).2⟩
    rcases h5 with h5 | h5
    · simp only [Value.ownBlock] at h5; cases h5; exact .inl rfl
    · simp only [Value.ownBlock] at h5; cases h5; exact .inr rfl
theorem wp_appE (R : RowTy P t e z size bytes) {o : Oper} {a : Act} {K : Act → World → Prop} {Q : Exit → Act → World → Prop} (s x : Operand)
    (ho : o.op = .call { callee := .builtin .append, args := #[s, x], argTypes := #[t, t] })
    (base : Nat) (q n c0 : Nat) (xs : List Value) (hs : a.eval s = .slice (some ⟨q, 0, none⟩) n c0) (hown : w.ownsRow base e size (.slice (some ⟨q, 0, none⟩) n c0) n xs)
    (ad : Addr) (m c : Nat) (news : List Value) (hx : a.eval x = .slice (some ad) m c) (hl : news.length = m * size) (hnews : ∀ j u, news[j]? = some u → w.cell? (ad.add j) = some u) (h1 : ∀ u ∈ news, u.oneCell' = true)
    (N : Nat) (hN : n + m = N) (zs : List Value) (hzs : xs ++ news = zs) (hbytes : N * bytes ≤ 140737488355328) (hbase : base ≤ w.heap.size)
    (h : ∀ g cap w', w'.ownsRow base e size (.slice (some ⟨g, 0, none⟩) N cap) N zs → w.grownBy w' (some q) → (q = g ∨ g = w.heap.size) → g < w'.heap.size → K (a.put o.dst (.slice (some ⟨g, 0, none⟩) N cap)) w') : o.wp P a w K Q := by
  subst hN hzs
  obtain ⟨g, cap, w', hr, h2, h3, h4, h5⟩ := run_appE (P := P) (w := w) R o.type base q n c0 xs hown ad m c news hl hnews h1 hbytes hbase
  unfold Oper.wp execOp
  simp only [ho, resolve, invoke, builtin, Sem.run_bind, Sem.run_pure, Result.andThen_ok, List.map_toArray, List.map_cons, List.map_nil, hs, hx, hr]
  exact h g cap w' h2 h3 h4 h5
theorem wpl_appE (R : RowTy P t e z size bytes) {ops : Array Oper} {rest : List Oper} {o : Oper} {a : Act} {Q : Exit → Act → World → Prop} (hgd : o.guard = none) (s x : Operand)
    (ho : o.op = .call { callee := .builtin .append, args := #[s, x], argTypes := #[t, t] })
    (base : Nat) (q n c0 : Nat) (xs : List Value) (hs : a.eval s = .slice (some ⟨q, 0, none⟩) n c0) (hown : w.ownsRow base e size (.slice (some ⟨q, 0, none⟩) n c0) n xs)
    (ad : Addr) (m c : Nat) (news : List Value) (hx : a.eval x = .slice (some ad) m c) (hl : news.length = m * size) (hnews : ∀ j u, news[j]? = some u → w.cell? (ad.add j) = some u) (h1 : ∀ u ∈ news, u.oneCell' = true)
    (N : Nat) (hN : n + m = N) (zs : List Value) (hzs : xs ++ news = zs) (hbytes : N * bytes ≤ 140737488355328) (hbase : base ≤ w.heap.size)
    (h : ∀ g cap w', w'.ownsRow base e size (.slice (some ⟨g, 0, none⟩) N cap) N zs → w.grownBy w' (some q) → (q = g ∨ g = w.heap.size) → g < w'.heap.size → wpList P ops Q rest (a.put o.dst (.slice (some ⟨g, 0, none⟩) N cap)) w') : wpList P ops Q (o :: rest) a w :=
  wpList_plain hgd fun _ hK => wp_appE R s x ho base q n c0 xs hs hown ad m c news hx hl hnews h1 N hN zs hzs hbytes hbase fun g cap w' h2 h3 h4 h5 => hK _ _ (h g cap w' h2 h3 h4 h5)
theorem step_appE (R : RowTy P t e z size bytes) {ops : Array Oper} {o : Oper} {a : Act} {K : Act → World → Prop} {Q : Exit → Act → World → Prop} {E : Prop} (hgd : o.guard = none) (s x : Operand)
    (ho : o.op = .call { callee := .builtin .append, args := #[s, x], argTypes := #[t, t] })
    (base : Nat) (q n c0 : Nat) (xs : List Value) (hs : a.eval s = .slice (some ⟨q, 0, none⟩) n c0) (hown : w.ownsRow base e size (.slice (some ⟨q, 0, none⟩) n c0) n xs)
    (ad : Addr) (m c : Nat) (news : List Value) (hx : a.eval x = .slice (some ad) m c) (hl : news.length = m * size) (hnews : ∀ j u, news[j]? = some u → w.cell? (ad.add j) = some u) (h1 : ∀ u ∈ news, u.oneCell' = true)
    (N : Nat) (hN : n + m = N) (zs : List Value) (hzs : xs ++ news = zs) (hbytes : N * bytes ≤ 140737488355328) (hbase : base ≤ w.heap.size)
    (h : ∀ g cap w', w'.ownsRow base e size (.slice (some ⟨g, 0, none⟩) N cap) N zs → w.grownBy w' (some q) → (q = g ∨ g = w.heap.size) → g < w'.heap.size → K (a.put o.dst (.slice (some ⟨g, 0, none⟩) N cap)) w') :
    if Region.wanted o (yielded ops a.tmps) = true then Oper.wp P o a w K Q else E := by
  have hw : Region.wanted o (yielded ops a.tmps) = true := by simp [Region.wanted, hgd]
  rw [if_pos hw]
  exact wp_appE R s x ho base q n c0 xs hs hown ad m c news hx hl hnews h1 N hN zs hzs hbytes hbase h
end

theorem OwnM.empty_at {w : World} {q : Nat} (hq : w.heap.size = q) (base : Nat) (hb : base ≤ q) : OwnM (w.alloc (.cells #[] 27)) base (some ⟨q, 0, none⟩) 0 0 [] := by
  subst hq; exact OwnM.empty w base hb
/-- A block of six cells just laid. -/
theorem cell6_at {w : World} {q : Nat} (hq : w.heap.size = q) (x y : Mk) (t : TypeId) : ∀ j u, (v3 [x, y])[j]? = some u → (w.alloc (.cells #[.int .i64 x.1, .int .i64 x.2.1, .int .i64 x.2.2, .int .i64 y.1, .int .i64 y.2.1, .int .i64 y.2.2] t)).cell? ((⟨q, 0, none⟩ : Addr).add j) = some u := by
  subst hq
  intro j u hu
  rw [addr_add, Nat.zero_add, World.cell?_alloc_new]
  have e : v3 [x, y] = [.int .i64 x.1, .int .i64 x.2.1, .int .i64 x.2.2, .int .i64 y.1, .int .i64 y.2.1, .int .i64 y.2.2] := rfl
  rw [e] at hu
  match j with
  | 0 => simpa using hu
  | 1 => simpa using hu
  | 2 => simpa using hu
  | 3 => simpa using hu
  | 4 => simpa using hu
  | 5 => simpa using hu
  | j + 6 => simp at hu

end Go.Proofs.Ytookhelfbnhadaa
