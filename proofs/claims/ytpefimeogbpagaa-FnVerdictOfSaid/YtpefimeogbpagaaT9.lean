/- States and what goes on (plain): a plan goes on exactly if some times keep it; windows, deadlines. -/
import Derived.Test.YtpefimeogbpagaaT8
import Derived.Test.YtpefimeogbpagaaS2
import Derived.Test.YtpefimeogbpagaaS3
namespace Go.Proofs.Ytpefimeogbpagaa

theorem T0_out {p : Nat} {bs : List Bd} (h : Pts p bs) {x y : Nat} (hx : p ≤ x) (hne : x ≠ y) : T0 bs x y = 100000 := by
  have : ∀ (bs : List Bd) (T : Tab), Pts p bs → T x y = 100000 → (bs.foldl addB T) x y = 100000 := by
    intro bs
    induction bs with
    | nil => intro T _ h; exact h
    | cons b bs ih =>
      intro T hb hT
      refine ih _ (fun c hc => hb c (List.mem_cons_of_mem _ hc)) ?_
      have := (hb b (by simp)).1.2
      unfold addB
      rw [if_neg (by omega)]; exact hT
  exact this bs T00 h (by unfold T00; rw [if_neg hne])
theorem foldl_small {U : Int} (hU : 0 ≤ U) : ∀ (bs : List Bd) (T : Tab), Small U T → (∀ b ∈ bs, b.2.2 ≤ U) → Small U (bs.foldl addB T)
  | [], _, h, _ => h
  | b :: bs, T, h, hb => foldl_small hU bs _ (fun x y hxy => by
      have h1 := h x y
      have h2 := hb b (by simp)
      unfold addB at hxy ⊢
      split
      · omega
      · rename_i he
        rw [if_neg he] at hxy
        exact h1 hxy) (fun c hc => hb c (List.mem_cons_of_mem _ hc))
theorem T0_small {U : Int} (hU : 0 ≤ U) {bs : List Bd} (h : ∀ b ∈ bs, b.2.2 ≤ U) : Small U (T0 bs) := foldl_small hU bs _ (fun x y hxy => by
  unfold T00 at hxy ⊢
  split at hxy
  · rename_i e; rw [if_pos e]; exact hU
  · omega) h
theorem Small.mono {U V : Int} {T : Tab} (h : Small U T) (hV : U ≤ V) : Small V T := fun x y hxy => Int.le_trans (h x y hxy) hV

/-- The closed table of a plan that fits. -/
theorem FitsP.cl {P : Nat} {bs : List Bd} (h : FitsP (P : Int) bs) : ClT P bs (cl (T0 bs) P) ∧ Small 6336 (cl (T0 bs) P) ∧ Lo 6400 (cl (T0 bs) P) ∧ Pts P bs ∧ P ≤ 6 ∧ 1 ≤ P := by
  have hP := StOk.pos h
  have hm : ∀ b ∈ bs, b.2.2 ≤ 99 := fun b hb => (h.1.2.2 b hb).2.2.2
  have hs := cl_small (T0_small (by omega) hm) (by omega)
  have hpow : ∀ k, k ≤ 6 → (2 : Int) ^ k ≤ 64 := by
    intro k hk
    have : k = 0 ∨ k = 1 ∨ k = 2 ∨ k = 3 ∨ k = 4 ∨ k = 5 ∨ k = 6 := by omega
    rcases this with rfl | rfl | rfl | rfl | rfl | rfl | rfl <;> simp
  have hs' : ∀ k, k ≤ 6 → Small 6336 (Go.Proofs.Ytpefimeogbpagaa.cl (T0 bs) k) := fun k hk => (hs k).mono (by have := hpow k hk; omega)
  have hlo : Lo 6400 (Go.Proofs.Ytpefimeogbpagaa.cl (T0 bs) P) := fun x y => by
    have h1 := cl_lo (L := 99) (by omega) (T0_lo (L := 99) (by omega) (fun b hb => (h.1.2.2 b hb).2.2.1)) P x y
    have h2 := hpow P (by omega)
    omega
  refine ⟨clT_of (fun k hk => (hs' k (by omega)).mono (by omega)) ?_, hs' P (by omega), hlo, h.1.within, by omega, by omega⟩
  exact h.2

/-- Times of what is done, and of what may be done from now on. -/
def Goal (P : Nat) (bs : List Bd) (now : Int) (ds : List Int) (t : Nat → Int) : Prop := Keeps bs t ∧ ∀ i, i < P → (ds.getD i 0 = -1 → now ≤ t i) ∧ (ds.getD i 0 ≠ -1 → t i = ds.getD i 0)
theorem keeps_app {bs cs : List Bd} {t : Nat → Int} : Keeps (bs ++ cs) t ↔ Keeps bs t ∧ Keeps cs t :=
  ⟨fun h => ⟨fun b hb => h b (List.mem_append_left _ hb), fun b hb => h b (List.mem_append_right _ hb)⟩, fun h b hb => (List.mem_append.1 hb).elim (h.1 b) (h.2 b)⟩
theorem Keeps.shift {bs : List Bd} {t : Nat → Int} (h : Keeps bs t) (c : Int) : Keeps bs (fun i => t i - c) := fun b hb => by have := h b hb; simp only; omega
theorem goes_of {P : Nat} {bs : List Bd} {now : Int} {ds : List Int} {t : Nat → Int} (hs : StOk (P : Int) bs now ds) (h : Goal P bs now ds t) : Goes (P : Int) bs now ds := by
  refine ⟨hs, fits_of_keeps (t := t) (keeps_app.2 ⟨h.1, fun b hb => ?_⟩)⟩
  obtain ⟨i, hi, hb⟩ := mem_exts.1 hb
  have hl := hs.2.1
  have hP := StOk.pos hs.1
  have h0 : t 0 = 0 := by
    have := (h.2 0 (by omega)).2 (by rw [hs.2.2.2.1]; decide)
    rw [this, hs.2.2.2.1]
  have hti := h.2 i (by omega)
  unfold ex1 at hb
  split at hb
  · rename_i e
    obtain rfl := List.mem_singleton.1 hb
    have := hti.1 e
    simp only [Int.toNat_natCast, Int.toNat_zero]
    omega
  · rename_i e
    have := hti.2 e
    rcases List.mem_cons.1 hb with rfl | hb
    · simp only [Int.toNat_natCast, Int.toNat_zero]; omega
    · obtain rfl := List.mem_singleton.1 hb
      simp only [Int.toNat_natCast, Int.toNat_zero]; omega
theorem goal_of {P : Nat} {bs : List Bd} {now : Int} {ds : List Int} (h : Goes (P : Int) bs now ds) : ∃ t, Goal P bs now ds t := by
  obtain ⟨hs, hf⟩ := h
  have hl := hs.2.1
  have hP := StOk.pos hs.1
  obtain ⟨hn0, hn1⟩ := hs.2.2.1
  have hpts : Pts P (bs ++ exts now ds ds.length) := hs.within
  have hmost : ∀ b ∈ bs ++ exts now ds ds.length, b.2.2 ≤ 2000 := fun b hb => by
    rcases List.mem_append.1 hb with hb | hb
    · have := (hs.1.1.2.2 b hb).2.2.2; omega
    · obtain ⟨i, hi, hb⟩ := mem_exts.1 hb
      have hd := hs.at_ hi
      unfold ex1 at hb
      split at hb
      · obtain rfl := List.mem_singleton.1 hb
        simp only; omega
      · rcases List.mem_cons.1 hb with rfl | hb
        · simp only; omega
        · obtain rfl := List.mem_singleton.1 hb
          simp only; omega
  have hback : ∀ i, i < P → ∃ b ∈ bs ++ exts now ds ds.length, b.1 = (i : Int) ∧ b.2.1 = ((0 : Nat) : Int) ∧ b.2.2 ≤ 0 ∧ (ds.getD i 0 = -1 → b.2.2 = -now) ∧ (ds.getD i 0 ≠ -1 → b.2.2 = -(ds.getD i 0)) := fun i hi => by
    have hd := hs.at_ (i := i) (by omega)
    by_cases e : ds.getD i 0 = -1
    · exact ⟨((i : Int), 0, -now), List.mem_append_right _ (mem_exts.2 ⟨i, by omega, by unfold ex1; rw [if_pos e]; simp⟩), rfl, rfl, by simp only; omega, fun _ => rfl, fun h => absurd e h⟩
    · exact ⟨((i : Int), 0, -(ds.getD i 0)), List.mem_append_right _ (mem_exts.2 ⟨i, by omega, by unfold ex1; rw [if_neg e]; simp⟩), rfl, rfl, by simp only; omega, fun h => absurd h e, fun _ => rfl⟩
  have hthere : ∀ i, i < P → ds.getD i 0 ≠ -1 → ((0 : Int), (i : Int), ds.getD i 0) ∈ bs ++ exts now ds ds.length := fun i hi e =>
    List.mem_append_right _ (mem_exts.2 ⟨i, by omega, by unfold ex1; rw [if_neg e]; simp⟩)
  obtain ⟨E, hE⟩ : ∃ E, bs ++ exts now ds ds.length = E := ⟨_, rfl⟩
  rw [show (P : Int).toNat = P from rfl, hE] at hf
  rw [hE] at hpts hmost hback hthere
  have hT0 := T0_small (U := 2000) (by omega) hmost
  have h1 : Small 2000 (St 0 (T0 E)) := fun x y hxy => by
    have g1 := hT0 x y; have g2 := hT0 0 y
    unfold St at hxy ⊢
    split
    · rename_i hc
      have hx0 : T0 E x 0 ≤ 0 := by
        rcases Nat.lt_or_ge x P with hx | hx
        · obtain ⟨b, hb, e1, e2, e3, -⟩ := hback x hx
          exact Int.le_trans (T0_mem hb e1 e2) e3
        · have hne : x ≠ 0 := by omega
          rw [T0_out hpts hx hne] at hc; omega
      have := g2 hc.2
      omega
    · rename_i hc
      rw [if_neg hc] at hxy
      exact g1 hxy
  have hk : ∀ k, Small (2 ^ k * 2000) (Go.Proofs.Ytpefimeogbpagaa.cl (T0 E) (k + 1)) := fun k => by
    induction k with
    | zero => simpa [Go.Proofs.Ytpefimeogbpagaa.cl] using h1
    | succ k ih =>
      have h2 := St_small (k := k + 1) ih (Int.mul_nonneg (Int.pow_nonneg (by omega)) (by omega))
      rw [show (2 : Int) ^ (k + 1) * 2000 = 2 * (2 ^ k * 2000) by rw [Int.pow_succ, Int.mul_comm (2 ^ k) 2, Int.mul_assoc]]
      exact h2
  have hpow : ∀ k, k ≤ 5 → (2 : Int) ^ k ≤ 32 := by
    intro k hk
    have : k = 0 ∨ k = 1 ∨ k = 2 ∨ k = 3 ∨ k = 4 ∨ k = 5 := by omega
    rcases this with rfl | rfl | rfl | rfl | rfl | rfl <;> simp
  have hpow4 : ∀ k, k ≤ 4 → (2 : Int) ^ k ≤ 16 := by
    intro k hk
    have : k = 0 ∨ k = 1 ∨ k = 2 ∨ k = 3 ∨ k = 4 := by omega
    rcases this with rfl | rfl | rfl | rfl | rfl <;> simp
  have hsm : ∀ k, k < P → Small 49999 (Go.Proofs.Ytpefimeogbpagaa.cl (T0 E) k) := fun k hkP => by
    cases k with
    | zero => exact hT0.mono (by omega)
    | succ k => exact (hk k).mono (by have := hpow4 k (by omega); omega)
  have hc := clT_of hsm hf
  have hend : Small 64000 (Go.Proofs.Ytpefimeogbpagaa.cl (T0 E) P) := by
    obtain ⟨q, rfl⟩ : ∃ q, P = q + 1 := ⟨P - 1, by omega⟩
    exact (hk q).mono (by have := hpow q (by omega); omega)
  have hkeep := (sol_keeps (s := fun _ => 0) hc hpts hend hmost).shift (sol P (Go.Proofs.Ytpefimeogbpagaa.cl (T0 E) P) (fun _ => 0) 0)
  obtain ⟨t, ht⟩ : ∃ t : Nat → Int, (fun i => sol P (Go.Proofs.Ytpefimeogbpagaa.cl (T0 E) P) (fun _ => 0) i - sol P (Go.Proofs.Ytpefimeogbpagaa.cl (T0 E) P) (fun _ => 0) 0) = t := ⟨_, rfl⟩
  have t0 : t 0 = 0 := by rw [← ht]; simp
  rw [ht] at hkeep
  refine ⟨t, fun b hb => hkeep b (by rw [← hE]; exact List.mem_append_left _ hb), fun i hi => ?_⟩
  obtain ⟨b, hb, e1, e2, -, e3, e4⟩ := hback i hi
  have h2 := hkeep b hb
  rw [show b.1.toNat = i by omega, show b.2.1.toNat = 0 by omega, t0] at h2
  refine ⟨fun e => by have := e3 e; omega, fun e => ?_⟩
  have h3 := hkeep _ (hthere i hi e)
  simp only [Int.toNat_natCast, Int.toNat_zero, t0] at h3
  have := e4 e
  omega

/-- Until when a point may be done, by the first n points; from when. -/
def hiW (C : Tab) (ds : List Int) (j : Nat) : Nat → Int
  | 0 => 100000
  | n + 1 => if ds.getD n 0 = -1 then hiW C ds j n else if C n j < 100000 then min (hiW C ds j n) (ds.getD n 0 + C n j) else hiW C ds j n
def loW (C : Tab) (now : Int) (ds : List Int) (j : Nat) : Nat → Int
  | 0 => now
  | n + 1 => if ds.getD n 0 = -1 then loW C now ds j n else if C j n < 100000 then max (loW C now ds j n) (ds.getD n 0 - C j n) else loW C now ds j n
/-- Until when some point must be done. -/
def dlW (C : Tab) (ds : List Int) (P : Nat) : Nat → Int
  | 0 => 100000
  | n + 1 => if ds.getD n 0 = -1 then min (dlW C ds P n) (hiW C ds n P) else dlW C ds P n
theorem hiW_le {C : Tab} {ds : List Int} {j k : Nat} (hd : ds.getD k 0 ≠ -1) (hC : C k j < 100000) : ∀ {n}, k < n → hiW C ds j n ≤ ds.getD k 0 + C k j
  | n + 1, hk => by
    unfold hiW
    rcases Nat.lt_or_ge k n with h1 | h1
    · have := hiW_le hd hC h1
      split
      · exact this
      · split <;> omega
    · obtain rfl : k = n := by omega
      rw [if_neg hd, if_pos hC]; omega
theorem hiW_ge {C : Tab} {ds : List Int} {j : Nat} {v : Int} (hv : v ≤ 100000) : ∀ {n}, (∀ k, k < n → ds.getD k 0 ≠ -1 → C k j < 100000 → v ≤ ds.getD k 0 + C k j) → v ≤ hiW C ds j n
  | 0, _ => hv
  | n + 1, h => by
    have ih := hiW_ge hv (n := n) fun k hk => h k (by omega)
    unfold hiW
    split
    · exact ih
    · rename_i hd
      split
      · rename_i hC
        have := h n (by omega) hd hC
        omega
      · exact ih
theorem hiW_far (C : Tab) (ds : List Int) (j : Nat) : ∀ n, hiW C ds j n ≤ 100000
  | 0 => Int.le_refl _
  | n + 1 => by
    have := hiW_far C ds j n
    unfold hiW
    split
    · exact this
    · split <;> omega
theorem loW_ge {C : Tab} {now : Int} {ds : List Int} {j k : Nat} (hd : ds.getD k 0 ≠ -1) (hC : C j k < 100000) : ∀ {n}, k < n → ds.getD k 0 - C j k ≤ loW C now ds j n
  | n + 1, hk => by
    unfold loW
    rcases Nat.lt_or_ge k n with h1 | h1
    · have := loW_ge (now := now) hd hC h1
      split
      · exact this
      · split <;> omega
    · obtain rfl : k = n := by omega
      rw [if_neg hd, if_pos hC]; omega
theorem loW_now (C : Tab) (now : Int) (ds : List Int) (j : Nat) : ∀ n, now ≤ loW C now ds j n
  | 0 => Int.le_refl _
  | n + 1 => by
    have := loW_now C now ds j n
    unfold loW
    split
    · exact this
    · split <;> omega
theorem loW_le {C : Tab} {now : Int} {ds : List Int} {j : Nat} {v : Int} (hv : now ≤ v) : ∀ {n}, (∀ k, k < n → ds.getD k 0 ≠ -1 → C j k < 100000 → ds.getD k 0 - C j k ≤ v) → loW C now ds j n ≤ v
  | 0, _ => hv
  | n + 1, h => by
    have ih := loW_le hv (n := n) fun k hk => h k (by omega)
    unfold loW
    split
    · exact ih
    · rename_i hd
      split
      · rename_i hC
        have := h n (by omega) hd hC
        omega
      · exact ih
theorem dlW_le {C : Tab} {ds : List Int} {P j : Nat} (hd : ds.getD j 0 = -1) : ∀ {n}, j < n → dlW C ds P n ≤ hiW C ds j P
  | n + 1, hj => by
    unfold dlW
    rcases Nat.lt_or_ge j n with h1 | h1
    · have := dlW_le (C := C) (P := P) hd h1
      split <;> omega
    · obtain rfl : j = n := by omega
      rw [if_pos hd]; omega
theorem dlW_ge {C : Tab} {ds : List Int} {P : Nat} {v : Int} (hv : v ≤ 100000) : ∀ {n}, (∀ j, j < n → ds.getD j 0 = -1 → v ≤ hiW C ds j P) → v ≤ dlW C ds P n
  | 0, _ => hv
  | n + 1, h => by
    have ih := dlW_ge hv (n := n) fun k hk => h k (by omega)
    unfold dlW
    split
    · rename_i hd
      have := h n (by omega) hd
      omega
    · exact ih
/-- Within times that go on, each point is in its window. -/
theorem goal_hi {P : Nat} {bs : List Bd} {now : Int} {ds : List Int} {t : Nat → Int} (h : Goal P bs now ds t) {j : Nat} (hf : t j ≤ 100000) : t j ≤ hiW (cl (T0 bs) P) ds j P :=
  hiW_ge hf fun k hk hd hC => by
    have h1 := cl_keeps h.1 P k j hC
    have h2 := (h.2 k hk).2 hd
    omega
theorem goal_hi' {P : Nat} {bs : List Bd} {now : Int} {ds : List Int} {t : Nat → Int} (h : Goal P bs now ds t) {j : Nat} (hj : now ≤ t j) (hn : now ≤ 100000) : now ≤ hiW (cl (T0 bs) P) ds j P :=
  hiW_ge hn fun k hk hd hC => by
    have h1 := cl_keeps h.1 P k j hC
    have h2 := (h.2 k hk).2 hd
    omega
theorem goal_lo {P : Nat} {bs : List Bd} {now : Int} {ds : List Int} {t : Nat → Int} (h : Goal P bs now ds t) {j : Nat} (hj : now ≤ t j) : loW (cl (T0 bs) P) now ds j P ≤ t j :=
  loW_le hj fun k hk hd hC => by
    have h1 := cl_keeps h.1 P j k hC
    have h2 := (h.2 k hk).2 hd
    omega
/-- What goes on at some time goes on at another one exactly if that is not past the deadline. -/
theorem goes_deadline {P : Nat} {bs : List Bd} {now now' : Int} {ds : List Int} (h : Goes (P : Int) bs now ds) (hs : StOk (P : Int) bs now' ds) : Goes (P : Int) bs now' ds ↔ now' ≤ dlW (cl (T0 bs) P) ds P P := by
  obtain ⟨hn0, hn1⟩ := hs.2.2.1
  constructor
  · intro h'
    obtain ⟨t, ht⟩ := goal_of h'
    exact dlW_ge (by omega) fun j hj hd => goal_hi' ht ((ht.2 j hj).1 hd) (by omega)
  · intro hle
    obtain ⟨t, ht⟩ := goal_of h
    obtain ⟨hc, hsm, hlo, hpts, hP6, hP1⟩ := hs.1.cl
    have hl := hs.2.1
    refine goes_of hs (t := sol P (cl (T0 bs) P) (fun k => if ds.getD k 0 = -1 then 100000 else ds.getD k 0)) ⟨sol_keeps hc hpts (hsm.mono (by omega)) (fun b hb => by have := (hs.1.1.2.2 b hb).2.2.2; omega), fun j hj => ⟨fun hd => ?_, fun hd => ?_⟩⟩
    · obtain ⟨k, hk, hkC, e⟩ := sol_at (s := fun k => if ds.getD k 0 = -1 then 100000 else ds.getD k 0) hc hj
      rw [e]
      have hlk := hlo k j
      split
      · omega
      · rename_i hdk
        have h1 := hiW_le (j := j) hdk hkC hk
        have h2 := dlW_le (C := cl (T0 bs) P) (P := P) hd hj
        omega
    · have hdj := hs.at_ (i := j) (by omega)
      have h1 := sol_le (s := fun k => if ds.getD k 0 = -1 then 100000 else ds.getD k 0) (j := j) hj (show cl (T0 bs) P j j < 100000 by rw [hc.diag j hj]; decide)
      rw [hc.diag j hj] at h1
      simp only [if_neg hd] at h1
      obtain ⟨k, hk, hkC, e⟩ := sol_at (s := fun k => if ds.getD k 0 = -1 then 100000 else ds.getD k 0) hc hj
      have h3 := hlo k j
      have h4 := cl_keeps ht.1 P k j hkC
      have h5 := (ht.2 j hj).2 hd
      have h6 := (ht.2 k hk).2
      rw [e] at h1 ⊢
      split at h1
      · rename_i hdk
        omega
      · rename_i hdk
        rw [if_neg hdk]
        have := h6 hdk
        omega

end Go.Proofs.Ytpefimeogbpagaa
