/- Closed tables (plain): what they say of times that keep the bounds; a plan fits exactly if some times keep it. -/
import Derived.Test.YtpefimeogbpagaaT1
namespace Go.Proofs.Ytpefimeogbpagaa

/-- Times keep the bounds. -/
def Keeps (bs : List Bd) (t : Nat → Int) : Prop := ∀ b ∈ bs, t b.2.1.toNat - t b.1.toNat ≤ b.2.2
/-- Times keep a table. -/
def KeepsT (T : Tab) (t : Nat → Int) : Prop := ∀ x y, T x y < 100000 → t y - t x ≤ T x y
/-- Bounds between points of a plan of p points. -/
def Pts (p : Nat) (bs : List Bd) : Prop := ∀ b ∈ bs, (0 ≤ b.1 ∧ b.1 < (p : Int)) ∧ (0 ≤ b.2.1 ∧ b.2.1 < (p : Int))
theorem T0_cons (b : Bd) (bs : List Bd) : T0 (b :: bs) = bs.foldl addB (addB T00 b) := rfl
theorem foldl_keeps {t : Nat → Int} : ∀ (bs : List Bd) (T : Tab), KeepsT T t → Keeps bs t → KeepsT (bs.foldl addB T) t
  | [], _, h, _ => h
  | b :: bs, T, h, hk => foldl_keeps bs _ (fun x y hxy => by
      have hb := hk b (by simp)
      unfold addB at hxy ⊢
      split at hxy
      · rename_i he
        rw [if_pos he]
        have e1 : b.1.toNat = x := by omega
        have e2 : b.2.1.toNat = y := by omega
        rw [e1, e2] at hb
        have := h x y
        omega
      · rename_i he
        rw [if_neg he]; exact h x y hxy) (fun c hc => hk c (List.mem_cons_of_mem _ hc))
theorem T0_keeps {bs : List Bd} {t : Nat → Int} (h : Keeps bs t) : KeepsT (T0 bs) t := foldl_keeps bs T00 (fun x y hxy => by
  unfold T00 at hxy ⊢
  split at hxy
  · rename_i e; subst e; rw [if_pos rfl]; omega
  · omega) h
theorem St_keeps {k : Nat} {T : Tab} {t : Nat → Int} (h : KeepsT T t) : KeepsT (St k T) t := fun x y hxy => by
  have h1 := h x y; have h2 := h x k; have h3 := h k y
  unfold St at hxy ⊢
  split
  · rename_i hc
    rw [if_pos hc] at hxy
    have := h2 hc.1; have := h3 hc.2
    omega
  · rename_i hc
    rw [if_neg hc] at hxy
    exact h1 hxy
/-- What follows holds of all times that keep the bounds. -/
theorem cl_keeps {bs : List Bd} {t : Nat → Int} (h : Keeps bs t) : ∀ k, KeepsT (cl (T0 bs) k) t
  | 0 => T0_keeps h
  | k + 1 => St_keeps (cl_keeps h k)
theorem addB_mem {bs : List Bd} {b : Bd} (h : b ∈ bs) : ∀ T : Tab, ∀ x y : Nat, b.1 = (x : Int) → b.2.1 = (y : Int) → (bs.foldl addB T) x y ≤ b.2.2 := by
  induction bs with
  | nil => cases h
  | cons c bs ih =>
    intro T x y hx hy
    rcases List.mem_cons.1 h with rfl | h
    · refine Int.le_trans (foldl_le bs _ x y) ?_
      unfold addB
      rw [if_pos ⟨hx, hy⟩]
      omega
    · exact ih h _ x y hx hy
theorem T0_mem {bs : List Bd} {b : Bd} (h : b ∈ bs) {x y : Nat} (hx : b.1 = (x : Int)) (hy : b.2.1 = (y : Int)) : T0 bs x y ≤ b.2.2 := addB_mem h T00 x y hx hy
theorem T0_diag (bs : List Bd) (x : Nat) : T0 bs x x ≤ 0 := Int.le_trans (foldl_le bs T00 x x) (by unfold T00; rw [if_pos rfl]; omega)
theorem cl_le0 (T : Tab) (k : Nat) : Le (cl T k) T := by
  have := cl_mono T 0 k
  rwa [Nat.zero_add] at this
theorem fits_of_keeps {p : Nat} {bs : List Bd} {t : Nat → Int} (h : Keeps bs t) : Fits p bs := fun x hx => by
  rcases Int.lt_or_le (cl (T0 bs) p x x) 100000 with h1 | h1
  · have := cl_keeps h p x x h1; omega
  · omega

/-- Finite numbers are small. -/
def Small (U : Int) (T : Tab) : Prop := ∀ x y, T x y < 100000 → T x y ≤ U
theorem St_small {k : Nat} {T : Tab} {U : Int} (h : Small U T) (hU : 0 ≤ U) : Small (2 * U) (St k T) := fun x y hxy => by
  have h1 := h x y; have h2 := h x k; have h3 := h k y
  unfold St at hxy ⊢
  split
  · rename_i hc
    rw [if_pos hc] at hxy
    have := h2 hc.1; have := h3 hc.2
    omega
  · rename_i hc
    rw [if_neg hc] at hxy
    have := h1 hxy
    omega
theorem cl_small {T : Tab} {U : Int} (h : Small U T) (hU : 0 ≤ U) : ∀ k, Small (2 ^ k * U) (cl T k)
  | 0 => by simpa [cl] using h
  | k + 1 => by
    have h1 := St_small (k := k) (cl_small h hU k) (Int.mul_nonneg (Int.pow_nonneg (by omega)) hU)
    rw [show (2 : Int) ^ (k + 1) * U = 2 * (2 ^ k * U) by rw [Int.pow_succ, Int.mul_comm (2 ^ k) 2, Int.mul_assoc]]
    exact h1
/-- By way of any of the first k points it is no nearer. -/
def Tri (p k : Nat) (T : Tab) : Prop := ∀ x y m, x < p → y < p → m < k → T x m < 100000 → T m y < 100000 → T x y ≤ T x m + T m y
theorem Tri.step {p k : Nat} {T : Tab} (hk : k < p) (h : Tri p k T) (hs : Small 49999 T) (h0 : 0 ≤ T k k) : Tri p (k + 1) (St k T) := by
  intro x y m hx hy hm h1 h2
  have hkk : ∀ z, St k T z k = T z k := St_kc h0
  have hkr : ∀ z, St k T k z = T k z := St_kr h0
  have hle : St k T x y ≤ T x y := St_le k T x y
  have hby : T x k < 100000 → T k y < 100000 → St k T x y ≤ T x k + T k y := fun ha hb => by unfold St; rw [if_pos ⟨ha, hb⟩]; omega
  by_cases hmk : m = k
  · subst hmk
    rw [hkk] at h1 ⊢
    rw [hkr] at h2 ⊢
    exact hby h1 h2
  · have hmk' : m < k := by omega
    have hmp : m < p := by omega
    -- both numbers as they were or by way of k
    have hA : (St k T x m = T x m ∧ T x m < 100000) ∨ (T x k < 100000 ∧ T k m < 100000 ∧ St k T x m = T x k + T k m) := by
      unfold St at h1 ⊢
      split
      · rename_i hc
        rw [if_pos hc] at h1
        by_cases hq : T x m ≤ T x k + T k m
        · exact .inl ⟨by omega, by omega⟩
        · exact .inr ⟨hc.1, hc.2, by omega⟩
      · rename_i hc
        rw [if_neg hc] at h1
        exact .inl ⟨rfl, h1⟩
    have hB : (St k T m y = T m y ∧ T m y < 100000) ∨ (T m k < 100000 ∧ T k y < 100000 ∧ St k T m y = T m k + T k y) := by
      unfold St at h2 ⊢
      split
      · rename_i hc
        rw [if_pos hc] at h2
        by_cases hq : T m y ≤ T m k + T k y
        · exact .inl ⟨by omega, by omega⟩
        · exact .inr ⟨hc.1, hc.2, by omega⟩
      · rename_i hc
        rw [if_neg hc] at h2
        exact .inl ⟨rfl, h2⟩
    rcases hA with ⟨ea, fa⟩ | ⟨a1, a2, ea⟩
    · rcases hB with ⟨eb, fb⟩ | ⟨b1, b2, eb⟩
      · rw [ea, eb]
        have := h x y m hx hy hmk' fa fb
        omega
      · rw [ea, eb]
        have h3 := h x k m hx hk hmk' fa b1
        have s1 := hs x m fa; have s2 := hs m k b1
        have := hby (by omega) b2
        omega
    · rcases hB with ⟨eb, fb⟩ | ⟨b1, b2, eb⟩
      · rw [ea, eb]
        have h3 := h k y m hk hy hmk' a2 fb
        have s1 := hs k m a2; have s2 := hs m y fb
        have := hby a1 (by omega)
        omega
      · rw [ea, eb]
        have h3 := h k k m hk hk hmk' a2 b1
        have := hby a1 b2
        omega
theorem cl_tri {p : Nat} {T : Tab} (hs : ∀ k, k < p → Small 49999 (cl T k)) (hf : Nonneg p (cl T p)) : ∀ k, k ≤ p → Tri p k (cl T k)
  | 0, _ => fun _ _ _ _ _ h => by omega
  | k + 1, hk => by
    refine Tri.step (by omega) (cl_tri hs hf k (by omega)) (hs k (by omega)) ?_
    have h1 := cl_mono T k (p - k)
    rw [show k + (p - k) = p by omega] at h1
    exact Int.le_trans (hf k (by omega)) (h1 k k)

/-- The least of f over the first n, where P holds. -/
noncomputable def minP (P : Nat → Prop) (f : Nat → Int) : Nat → Option Int
  | 0 => none
  | n + 1 => if @decide (P n) (Classical.propDecidable _) = true then some (match minP P f n with | some m => min m (f n) | none => f n) else minP P f n
theorem minP_some {P : Nat → Prop} {f : Nat → Int} : ∀ {n : Nat} {m : Int}, minP P f n = some m → (∃ i, i < n ∧ P i ∧ m = f i) ∧ ∀ i, i < n → P i → m ≤ f i
  | 0, m, h => by cases h
  | n + 1, m, h => by
    unfold minP at h
    by_cases hp : P n
    · rw [if_pos (by simpa using hp)] at h
      cases hm : minP P f n with
      | none =>
        rw [hm] at h
        have e : f n = m := by simpa using h
        refine ⟨⟨n, by omega, hp, e.symm⟩, fun i hi hpi => ?_⟩
        rcases Nat.lt_or_ge i n with h1 | h1
        · exfalso
          have : ∀ {k : Nat}, minP P f k = none → ∀ i, i < k → ¬ P i := by
            intro k
            induction k with
            | zero => intro _ i hi; omega
            | succ k ih =>
              intro hk i hi hpi
              unfold minP at hk
              by_cases hpk : P k
              · rw [if_pos (by simpa using hpk)] at hk; cases hk
              · rw [if_neg (by simpa using hpk)] at hk
                rcases Nat.lt_or_ge i k with h2 | h2
                · exact ih hk i h2 hpi
                · obtain rfl : i = k := by omega
                  exact hpk hpi
          exact this hm i h1 hpi
        · obtain rfl : i = n := by omega
          omega
      | some q =>
        rw [hm] at h
        have e : min q (f n) = m := by simpa using h
        obtain ⟨⟨i, hi, hpi, hq⟩, hall⟩ := minP_some hm
        refine ⟨?_, fun j hj hpj => ?_⟩
        · rcases Int.le_total q (f n) with h1 | h1
          · exact ⟨i, by omega, hpi, by omega⟩
          · exact ⟨n, by omega, hp, by omega⟩
        · rcases Nat.lt_or_ge j n with h1 | h1
          · have := hall j h1 hpj; omega
          · obtain rfl : j = n := by omega
            omega
    · rw [if_neg (by simpa using hp)] at h
      obtain ⟨⟨i, hi, hpi, hq⟩, hall⟩ := minP_some h
      refine ⟨⟨i, by omega, hpi, hq⟩, fun j hj hpj => ?_⟩
      rcases Nat.lt_or_ge j n with h1 | h1
      · exact hall j h1 hpj
      · obtain rfl : j = n := by omega
        exact absurd hpj hp
theorem minP_of {P : Nat → Prop} {f : Nat → Int} : ∀ {n i : Nat}, i < n → P i → ∃ m, minP P f n = some m
  | n + 1, i, hi, hp => by
    unfold minP
    by_cases hpn : P n
    · rw [if_pos (by simpa using hpn)]; exact ⟨_, rfl⟩
    · rw [if_neg (by simpa using hpn)]
      exact minP_of (n := n) (i := i) (by
        rcases Nat.lt_or_ge i n with h1 | h1
        · exact h1
        · obtain rfl : i = n := by omega
          exact absurd hp hpn) hp

/-- A closed table of a plan. -/
structure ClT (p : Nat) (bs : List Bd) (C : Tab) : Prop where
  diag : ∀ x, x < p → C x x = 0
  tri : ∀ x y m, x < p → y < p → m < p → C x m < 100000 → C m y < 100000 → C x y ≤ C x m + C m y
  mem : ∀ b ∈ bs, ∀ x y : Nat, b.1 = (x : Int) → b.2.1 = (y : Int) → C x y ≤ b.2.2
/-- The least times that follow from numbers of the points. -/
noncomputable def sol (p : Nat) (C : Tab) (s : Nat → Int) (j : Nat) : Int := (minP (fun k => C k j < 100000) (fun k => s k + C k j) p).getD 0
theorem sol_le {p : Nat} {C : Tab} {s : Nat → Int} {j k : Nat} (hk : k < p) (h : C k j < 100000) : sol p C s j ≤ s k + C k j := by
  obtain ⟨m, hm⟩ := minP_of (P := fun k => C k j < 100000) (f := fun k => s k + C k j) hk h
  unfold sol
  rw [hm]
  exact (minP_some hm).2 k hk h
theorem sol_at {p : Nat} {bs : List Bd} {C : Tab} {s : Nat → Int} {j : Nat} (hc : ClT p bs C) (hj : j < p) : ∃ k, k < p ∧ C k j < 100000 ∧ sol p C s j = s k + C k j := by
  have h0 : C j j < 100000 := by rw [hc.diag j hj]; decide
  obtain ⟨m, hm⟩ := minP_of (P := fun k => C k j < 100000) (f := fun k => s k + C k j) hj h0
  obtain ⟨⟨k, hk, hkp, e⟩, -⟩ := minP_some hm
  refine ⟨k, hk, hkp, ?_⟩
  unfold sol
  rw [hm]
  exact e
/-- They keep the bounds. -/
theorem sol_keeps {p : Nat} {bs : List Bd} {C : Tab} {s : Nat → Int} (hc : ClT p bs C) (hp : Pts p bs) (hs : Small 64000 C) (hm : ∀ b ∈ bs, b.2.2 ≤ 2000) : Keeps bs (sol p C s) := fun b hb => by
  obtain ⟨⟨hx0, hx1⟩, hy0, hy1⟩ := hp b hb
  obtain ⟨x, hx⟩ := Int.eq_ofNat_of_zero_le hx0
  obtain ⟨y, hy⟩ := Int.eq_ofNat_of_zero_le hy0
  have hxy := hc.mem b hb x y hx hy
  have hmb := hm b hb
  rw [show b.1.toNat = x by omega, show b.2.1.toNat = y by omega]
  obtain ⟨k, hk, hkf, e⟩ := sol_at (s := s) hc (j := x) (by omega)
  have s1 := hs k x hkf
  have h1 := hc.tri k y x hk (by omega) (by omega) hkf (by omega)
  have h2 := sol_le (s := s) (j := y) hk (show C k y < 100000 by omega)
  omega
/-- A plan that fits has a closed table. -/
theorem clT_of {p : Nat} {bs : List Bd} (hs : ∀ k, k < p → Small 49999 (cl (T0 bs) k)) (hf : Fits p bs) : ClT p bs (cl (T0 bs) p) where
  diag := fun x hx => by have h1 := hf x hx; have h2 := cl_le0 (T0 bs) p x x; have h3 := T0_diag bs x; omega
  tri := fun x y m hx hy hm h1 h2 => cl_tri hs hf p (Nat.le_refl _) x y m hx hy hm h1 h2
  mem := fun b hb x y hx hy => Int.le_trans (cl_le0 (T0 bs) p x y) (T0_mem hb hx hy)

end Go.Proofs.Ytpefimeogbpagaa
