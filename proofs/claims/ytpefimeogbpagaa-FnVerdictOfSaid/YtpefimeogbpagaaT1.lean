/- Tables of bounds (plain): the table of a plan, its closing step by step and in place; both close alike where no point has a number less than 0 to itself. -/
import Derived.Test.YtpefimeogbpagaaP1
namespace Go.Proofs.Ytpefimeogbpagaa

abbrev Tab := Nat → Nat → Int
/-- A bound more. -/
def addB (T : Tab) (b : Bd) : Tab := fun x y => if b.1 = (x : Int) ∧ b.2.1 = (y : Int) then min (T x y) b.2.2 else T x y
def T00 : Tab := fun x y => if x = y then 0 else 100000
def T0 (bs : List Bd) : Tab := bs.foldl addB T00
def upd (T : Tab) (i j : Nat) (v : Int) : Tab := fun x y => if x = i ∧ y = j then v else T x y
/-- The number by way of k. -/
def St (k : Nat) (T : Tab) : Tab := fun i j => if T i k < 100000 ∧ T k j < 100000 then min (T i j) (T i k + T k j) else T i j
def cl (T : Tab) : Nat → Tab | 0 => T | k + 1 => St k (cl T k)
def cellIn (k i j : Nat) (T : Tab) : Tab := upd T i j (St k T i j)
def rowIn (k i : Nat) (T : Tab) : Nat → Tab | 0 => T | j + 1 => cellIn k i j (rowIn k i T j)
def matIn (p k : Nat) (T : Tab) : Nat → Tab | 0 => T | i + 1 => rowIn k i (matIn p k T i) p
def clIn (p : Nat) (T : Tab) : Nat → Tab | 0 => T | k + 1 => matIn p k (clIn p T k) p

def Hi (T : Tab) : Prop := ∀ x y, T x y ≤ 100000
def Lo (L : Int) (T : Tab) : Prop := ∀ x y, -L ≤ T x y
def Le (S T : Tab) : Prop := ∀ x y, S x y ≤ T x y
def Eqp (p : Nat) (S T : Tab) : Prop := ∀ x y, x < p → y < p → S x y = T x y
def Nonneg (p : Nat) (T : Tab) : Prop := ∀ x, x < p → 0 ≤ T x x

theorem Le.trans {A B C : Tab} (h : Le A B) (k : Le B C) : Le A C := fun x y => Int.le_trans (h x y) (k x y)
theorem Le.hi {S T : Tab} (h : Le S T) (k : Hi T) : Hi S := fun x y => Int.le_trans (h x y) (k x y)
theorem St_le (k : Nat) (T : Tab) : Le (St k T) T := fun x y => by unfold St; split <;> omega
theorem cellIn_le (k i j : Nat) (T : Tab) : Le (cellIn k i j T) T := fun x y => by
  unfold cellIn upd
  split
  · rename_i h; obtain ⟨rfl, rfl⟩ := h; exact St_le k T _ _
  · omega
theorem rowIn_le (k i : Nat) (T : Tab) : ∀ j, Le (rowIn k i T j) T
  | 0 => fun _ _ => Int.le_refl _
  | j + 1 => (cellIn_le k i j _).trans (rowIn_le k i T j)
theorem matIn_le (p k : Nat) (T : Tab) : ∀ i, Le (matIn p k T i) T
  | 0 => fun _ _ => Int.le_refl _
  | i + 1 => (rowIn_le k i _ p).trans (matIn_le p k T i)
theorem clIn_le (p : Nat) (T : Tab) : ∀ k, Le (clIn p T k) T
  | 0 => fun _ _ => Int.le_refl _
  | k + 1 => (matIn_le p k _ p).trans (clIn_le p T k)
theorem clIn_mono (p : Nat) (T : Tab) (k : Nat) : ∀ d, Le (clIn p T (k + d)) (clIn p T k)
  | 0 => fun _ _ => Int.le_refl _
  | d + 1 => (matIn_le p (k + d) _ p).trans (clIn_mono p T k d)
theorem cl_mono (T : Tab) (k : Nat) : ∀ d, Le (cl T (k + d)) (cl T k)
  | 0 => fun _ _ => Int.le_refl _
  | d + 1 => (St_le (k + d) _).trans (cl_mono T k d)
theorem T0_snoc (bs : List Bd) (b : Bd) : T0 (bs ++ [b]) = addB (T0 bs) b := by unfold T0; rw [List.foldl_append]; rfl
theorem addB_le (T : Tab) (b : Bd) : Le (addB T b) T := fun x y => by unfold addB; split <;> omega
theorem foldl_le (bs : List Bd) : ∀ T : Tab, Le (bs.foldl addB T) T := by
  induction bs with
  | nil => exact fun _ _ _ => Int.le_refl _
  | cons b bs ih => exact fun T => (ih _).trans (addB_le T b)
theorem T00_hi : Hi T00 := fun x y => by unfold T00; split <;> omega
theorem T0_hi (bs : List Bd) : Hi (T0 bs) := (foldl_le bs T00).hi T00_hi
theorem foldl_lo {L : Int} (hL : 0 ≤ L) : ∀ (bs : List Bd) (T : Tab), Lo L T → (∀ b ∈ bs, -L ≤ b.2.2) → Lo L (bs.foldl addB T)
  | [], _, h, _ => h
  | b :: bs, T, h, hb => foldl_lo hL bs _ (fun x y => by
      have := h x y
      have := hb b (by simp)
      unfold addB; split <;> omega) (fun c hc => hb c (List.mem_cons_of_mem _ hc))
theorem T0_lo {L : Int} (hL : 0 ≤ L) {bs : List Bd} (h : ∀ b ∈ bs, -L ≤ b.2.2) : Lo L (T0 bs) := foldl_lo hL bs _ (fun x y => by unfold T00; split <;> omega) h
theorem St_lo {L : Int} (hL : 0 ≤ L) {k : Nat} {T : Tab} (h : Lo L T) : Lo (2 * L) (St k T) := fun x y => by
  have := h x y; have := h x k; have := h k y
  unfold St; split <;> omega
theorem cl_lo {L : Int} (hL : 0 ≤ L) {T : Tab} (h : Lo L T) : ∀ k, Lo (2 ^ k * L) (cl T k)
  | 0 => by simpa [cl] using h
  | k + 1 => by
    have h1 := St_lo (k := k) (Int.mul_nonneg (Int.pow_nonneg (by omega)) hL) (cl_lo hL h k)
    rw [show (2 : Int) ^ (k + 1) * L = 2 * (2 ^ k * L) by rw [Int.pow_succ, Int.mul_comm (2 ^ k) 2, Int.mul_assoc]]
    exact h1

/-- In place: nothing grows less than six times less in a round. -/
structure Lw (k : Nat) (L : Int) (T C : Tab) (i j : Nat) : Prop where
  unv : ∀ x y, (i < x ∨ x = i ∧ j ≤ y) → C x y = T x y
  kk : -(2 * L) ≤ C k k
  kr : ∀ y, -(3 * L) ≤ C k y
  kc : ∀ x, -(3 * L) ≤ C x k
  al : ∀ x y, -(6 * L) ≤ C x y
theorem Lw.step {k : Nat} {L : Int} {T C : Tab} {i j : Nat} (hL : 0 ≤ L) (hT : Lo L T) (h : Lw k L T C i j) : Lw k L T (cellIn k i j C) i (j + 1) := by
  obtain ⟨unv, kk, kr, kc, al⟩ := h
  have hij : C i j = T i j := unv i j (.inr ⟨rfl, Nat.le_refl _⟩)
  have h0 := hT i j
  have hv : -(6 * L) ≤ St k C i j := by
    have := kc i; have := kr j; have := al i j
    unfold St; split <;> omega
  have hvk : i = k → -(3 * L) ≤ St k C i j := by
    rintro rfl
    unfold St; split <;> omega
  have hvc : j = k → -(3 * L) ≤ St k C i j := by
    rintro rfl
    unfold St; split <;> omega
  have hvkk : i = k → j = k → -(2 * L) ≤ St k C i j := by
    rintro rfl rfl
    unfold St; split <;> omega
  refine ⟨fun x y hxy => ?_, ?_, fun y => ?_, fun x => ?_, fun x y => ?_⟩
  · unfold cellIn upd; rw [if_neg (by omega)]; exact unv x y (by omega)
  · unfold cellIn upd; split
    · rename_i h; exact hvkk h.1.symm h.2.symm
    · exact kk
  · unfold cellIn upd; split
    · rename_i h; exact hvk h.1.symm
    · exact kr y
  · unfold cellIn upd; split
    · rename_i h; exact hvc h.2.symm
    · exact kc x
  · unfold cellIn upd; split
    · exact hv
    · exact al x y
theorem Lw.row {k : Nat} {L : Int} {T C : Tab} {i : Nat} (hL : 0 ≤ L) (hT : Lo L T) (h : Lw k L T C i 0) : ∀ j, Lw k L T (rowIn k i C j) i j
  | 0 => h
  | j + 1 => (Lw.row hL hT h j).step hL hT
theorem Lw.mat {k p : Nat} {L : Int} {T : Tab} (hL : 0 ≤ L) (hT : Lo L T) : ∀ i, Lw k L T (matIn p k T i) i 0
  | 0 => ⟨fun _ _ _ => rfl, by have := hT k k; show -(2 * L) ≤ T k k; omega, fun y => by have := hT k y; show -(3 * L) ≤ T k y; omega, fun x => by have := hT x k; show -(3 * L) ≤ T x k; omega, fun x y => by have := hT x y; show -(6 * L) ≤ T x y; omega⟩
  | i + 1 => by
    obtain ⟨unv, kk, kr, kc, al⟩ := Lw.row hL hT (Lw.mat hL hT i) p
    exact ⟨fun x y hxy => unv x y (by omega), kk, kr, kc, al⟩
theorem matIn_lo {k p : Nat} {L : Int} {T : Tab} (hL : 0 ≤ L) (hT : Lo L T) (i j : Nat) : Lo (6 * L) (rowIn k i (matIn p k T i) j) := (Lw.row hL hT (Lw.mat hL hT i) j).al
theorem clIn_lo {p : Nat} {L : Int} {T : Tab} (hL : 0 ≤ L) (hT : Lo L T) : ∀ k, Lo (6 ^ k * L) (clIn p T k)
  | 0 => by simpa [clIn] using hT
  | k + 1 => by
    have h1 := (Lw.mat (k := k) (p := p) (Int.mul_nonneg (Int.pow_nonneg (by omega)) hL) (clIn_lo (p := p) hL hT k) p).al
    rw [show (6 : Int) ^ (k + 1) * L = 6 * (6 ^ k * L) by rw [Int.pow_succ, Int.mul_comm (6 ^ k) 6, Int.mul_assoc]]
    exact h1

/-- In place, where the point by the way of which one goes has no number less than 0 to itself. -/
structure Gd (p k : Nat) (T C : Tab) (i j : Nat) : Prop where
  unv : ∀ x y, (i < x ∨ x = i ∧ j ≤ y) → C x y = T x y
  vis : ∀ x y, y < p → (x < i ∨ x = i ∧ y < j) → C x y = St k T x y
theorem St_kc {k : Nat} {T : Tab} (h : 0 ≤ T k k) (x : Nat) : St k T x k = T x k := by unfold St; split <;> omega
theorem St_kr {k : Nat} {T : Tab} (h : 0 ≤ T k k) (y : Nat) : St k T k y = T k y := by unfold St; split <;> omega
theorem Gd.all {p k : Nat} {T C : Tab} {i j : Nat} (h : Gd p k T C i j) {x y : Nat} (hy : y < p) (he : St k T x y = T x y) : C x y = T x y := by
  by_cases hv : x < i ∨ x = i ∧ y < j
  · rw [h.vis x y hy hv, he]
  · exact h.unv x y (by omega)
theorem Gd.step {p k : Nat} {T C : Tab} {i j : Nat} (hk : k < p) (hj : j < p) (h0 : 0 ≤ T k k) (h : Gd p k T C i j) : Gd p k T (cellIn k i j C) i (j + 1) := by
  have e1 : C i j = T i j := h.unv i j (.inr ⟨rfl, Nat.le_refl _⟩)
  have e2 : C i k = T i k := h.all hk (St_kc h0 i)
  have e3 : C k j = T k j := h.all hj (St_kr h0 j)
  refine ⟨fun x y hxy => ?_, fun x y hy hxy => ?_⟩
  · unfold cellIn upd; rw [if_neg (by omega)]; exact h.unv x y (by omega)
  · unfold cellIn upd; split
    · rename_i h; obtain ⟨rfl, rfl⟩ := h
      unfold St; rw [e1, e2, e3]
    · exact h.vis x y hy (by omega)
theorem Gd.row {p k : Nat} {T C : Tab} {i : Nat} (hk : k < p) (h0 : 0 ≤ T k k) (h : Gd p k T C i 0) : ∀ j, j ≤ p → Gd p k T (rowIn k i C j) i j
  | 0, _ => h
  | j + 1, hj => (Gd.row hk h0 h j (by omega)).step hk (by omega) h0
theorem Gd.mat {p k : Nat} {T : Tab} (hk : k < p) (h0 : 0 ≤ T k k) : ∀ i, Gd p k T (matIn p k T i) i 0
  | 0 => ⟨fun _ _ _ => rfl, fun x y _ h => by omega⟩
  | i + 1 => by
    have h := Gd.row hk h0 (Gd.mat hk h0 i) p (Nat.le_refl _)
    exact ⟨fun x y hxy => h.unv x y (by omega), fun x y hy hxy => h.vis x y hy (by omega)⟩
theorem matIn_eq {p k : Nat} {T : Tab} (hk : k < p) (h0 : 0 ≤ T k k) : Eqp p (matIn p k T p) (St k T) := fun x y hx hy => (Gd.mat hk h0 p).vis x y hy (.inl hx)
theorem St_eqp {p k : Nat} (hk : k < p) {S T : Tab} (h : Eqp p S T) : Eqp p (St k S) (St k T) := fun x y hx hy => by
  unfold St; rw [h x y hx hy, h x k hx hk, h k y hk hy]
theorem clIn_eq {p : Nat} {T : Tab} : ∀ k, k ≤ p → (∀ j, j < k → Nonneg p (clIn p T j)) → Eqp p (clIn p T k) (cl T k)
  | 0, _, _ => fun _ _ _ _ => rfl
  | k + 1, hk, h => fun x y hx hy => by
    have h1 := clIn_eq k (by omega) (fun j hj => h j (by omega))
    exact (matIn_eq (by omega) (h k (by omega) k (by omega)) x y hx hy).trans (St_eqp (by omega) h1 x y hx hy)
theorem clIn_eq' {p : Nat} {T : Tab} : ∀ k, k ≤ p → (∀ j, j < k → Nonneg p (cl T j)) → Eqp p (clIn p T k) (cl T k)
  | 0, _, _ => fun _ _ _ _ => rfl
  | k + 1, hk, h => fun x y hx hy => by
    have h1 := clIn_eq' k (by omega) (fun j hj => h j (by omega))
    have h0 : 0 ≤ clIn p T k k k := by rw [h1 k k (by omega) (by omega)]; exact h k (by omega) k (by omega)
    exact (matIn_eq (by omega) h0 x y hx hy).trans (St_eqp (by omega) h1 x y hx hy)
theorem Nonneg.up {p : Nat} {S T : Tab} (h : Nonneg p S) (hl : Le S T) : Nonneg p T := fun x hx => Int.le_trans (h x hx) (hl x x)
/-- Both fit alike. -/
theorem fits_both (p : Nat) (T : Tab) : (Nonneg p (clIn p T p) → Eqp p (clIn p T p) (cl T p)) ∧ (Nonneg p (clIn p T p) ↔ Nonneg p (cl T p)) := by
  have h1 : Nonneg p (clIn p T p) → Eqp p (clIn p T p) (cl T p) := fun h => clIn_eq p (Nat.le_refl _) fun j hj => h.up (by
    have := clIn_mono p T j (p - j)
    rwa [show j + (p - j) = p by omega] at this)
  refine ⟨h1, fun h x hx => by rw [← h1 h x x hx hx]; exact h x hx, fun h => ?_⟩
  have h2 := clIn_eq' (p := p) (T := T) p (Nat.le_refl _) fun j hj => h.up (by
    have := cl_mono T j (p - j)
    rwa [show j + (p - j) = p by omega] at this)
  exact fun x hx => by rw [h2 x x hx hx]; exact h x hx

/-- A plan of p points and these bounds fits. -/
def Fits (p : Nat) (bs : List Bd) : Prop := Nonneg p (cl (T0 bs) p)

end Go.Proofs.Ytpefimeogbpagaa
