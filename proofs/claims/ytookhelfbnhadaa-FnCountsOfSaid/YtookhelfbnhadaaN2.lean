/- Maps of counts: what they read as; plain facts. -/
import Derived.Test.YtookhelfbnhadaaN1
import Derived.Maps.OwnOps
import Derived.Maps.RangeWalk
import Derived.Maps.Ext
namespace Go.Proofs.Ytookhelfbnhadaa
open Go.RowKit Go.Maps

abbrev ky (n : Int) : Lit := .int .i64 n
theorem ky_ne {m n : Int} (h : m ≠ n) : ky m ≠ ky n := fun e => h (by injection e)
theorem ky_same (m n : Int) : (ky m).sameKey (ky n) = (m == n) := by
  by_cases h : m = n
  · subst h
    rw [WideAt.sameKey_self (show WideAt.IsKeyLit (ky m) from trivial)]; simp
  · rw [sameKey_ne (ky_ne h)]; simp [h]
/-- The map reads as: at each number how often; its keys are from 0 to N. -/
structure Cm (D : DataW Unit) (f : Int → Nat) (N : Int) : Prop where
  isMap : IsMap D
  keys : ∀ kl, Maps.has D kl = true → ∃ n : Int, kl = ky n ∧ 0 ≤ n ∧ n ≤ N
  at_ : ∀ n : Int, D.atKey (ky n) (.lit (.int .i64 0)) = .lit (.int .i64 (f n : Int))
theorem Cm.empty (N : Int) : Cm (.map []) (fun _ => 0) N := ⟨isMap_empty, fun kl h => by simp [Maps.has] at h, fun n => rfl⟩
theorem Cm.congr {D : DataW Unit} {f g : Int → Nat} {N : Int} (h : Cm D f N) (hg : ∀ n, f n = g n) : Cm D g N := ⟨h.isMap, h.keys, fun n => by rw [h.at_, hg]⟩
theorem Cm.mono {D : DataW Unit} {f : Int → Nat} {N M : Int} (h : Cm D f N) (hM : N ≤ M) : Cm D f M :=
  ⟨h.isMap, fun kl hk => by obtain ⟨n, e, h0, h1⟩ := h.keys kl hk; exact ⟨n, e, h0, by omega⟩, h.at_⟩
theorem Cm.put {D : DataW Unit} {f : Int → Nat} {N : Int} (h : Cm D f N) {x : Int} (h0 : 0 ≤ x) (h1 : x ≤ N) (v : Nat) : Cm (D.put (ky x) (.lit (.int .i64 (v : Int)))) (fun n => if n = x then v else f n) N := by
  refine ⟨h.isMap.put _ _, fun kl hk => ?_, fun n => ?_⟩
  · by_cases e : kl = ky x
    · exact ⟨x, e, h0, h1⟩
    · rw [has_put_other e] at hk; exact h.keys kl hk
  · by_cases e : n = x
    · subst e
      rw [if_pos rfl, atKey_put_same h.isMap (show WideAt.IsKeyLit (ky n) from trivial)]
    · rw [if_neg e, atKey_put_other (ky_ne e), h.at_]
theorem Cm.at_c {D : DataW Unit} {f : Int → Nat} {N x c : Int} (h : Cm D f N) (hc : D.atKey (ky x) (.lit (.int .i64 0)) = .lit (.int .i64 c)) : c = (f x : Int) := by
  rw [h.at_] at hc
  injection hc with e
  injection e with _ e
  exact e.symm
theorem Cm.key_in {D : DataW Unit} {f : Int → Nat} {N x : Int} (h : Cm D f N) (hk : Maps.has D (ky x) = true) : 0 ≤ x ∧ x ≤ N := by
  obtain ⟨n, e, h0, h1⟩ := h.keys _ hk
  injection e with _ e
  subst e
  exact ⟨h0, h1⟩
theorem Cm.zero {D : DataW Unit} {f : Int → Nat} {N x : Int} (h : Cm D f N) (hk : Maps.has D (ky x) = false) : f x = 0 := by
  have h1 := h.at_ x
  rw [atKey_of_not_has hk] at h1
  injection h1 with e
  injection e with _ e
  omega
theorem len_keys : ∀ (M : Nat) (es : List (Lit × DataW Unit)), es.Pairwise (fun p q => p.1 ≠ q.1) → (∀ p ∈ es, ∃ n : Int, p.1 = ky n ∧ 0 ≤ n ∧ n < (M : Int)) → es.length ≤ M
  | 0, es, _, h => by
    cases es with
    | nil => simp
    | cons p es => obtain ⟨n, _, h0, h1⟩ := h p (by simp); omega
  | M + 1, es, hp, h => by
    have h1 := length_strike (k := ky (M : Int)) es hp
    have h2 := len_keys M (es.filter fun p => !p.1.sameKey (ky (M : Int))) (hp.filter _) (fun p hp' => by
      obtain ⟨hm, hs⟩ := List.mem_filter.1 hp'
      obtain ⟨n, e, h0, h1⟩ := h p hm
      refine ⟨n, e, h0, ?_⟩
      have hne : n ≠ (M : Int) := by
        rintro rfl
        rw [e, ky_same] at hs
        simp at hs
      omega)
    split at h1 <;> omega
theorem Cm.size {D : DataW Unit} {f : Int → Nat} {M : Nat} (h : Cm D f (M : Int)) (hc : Canon D) : Maps.size D ≤ M + 1 := by
  obtain ⟨es, rfl, hr, hk⟩ := hc
  rw [size_eq]
  refine len_keys (M + 1) es (apart_of_rising hr) fun p hp => ?_
  have h1 : Maps.has (.map es) p.1 = true := List.any_eq_true.2 ⟨p, hp, WideAt.sameKey_self (hk p hp)⟩
  obtain ⟨n, e, h0, h2⟩ := h.keys _ h1
  exact ⟨n, e, h0, by push_cast; omega⟩
theorem owns_size {P : Program} {k : TypeId} {R : Value → Option (DataW Unit × List MemPlace)} {w : World} {b n m : Nat} {D : DataW Unit} (h : w.ownsMap P k R b n D) (hm : Maps.size D ≤ m) : w.ownsMap P k R b m D := by
  obtain ⟨es, clock, hb, F, hs, hD⟩ := h
  refine ⟨es, clock, hb, F, ?_, hD⟩
  rw [hD, size_eq, length_sorted] at hm
  simpa using hm
/-- The numbers still to come, of a range. -/
def lf (left : Lit → Bool) (n : Int) : Bool := left (ky n)
theorem lf_strike (left : Lit → Bool) (x : Int) : lf (fun z => left z && !z.sameKey (ky x)) = fun n => lf left n && !(n == x) := by
  funext n
  show (left (ky n) && !(ky n).sameKey (ky x)) = _
  rw [ky_same]; rfl
theorem lf_has {D : DataW Unit} {f : Int → Nat} {N : Int} (h : Cm D f N) (i : Int) (hl : lf (Maps.has D) i = false) : f i = 0 := h.zero hl

end Go.Proofs.Ytookhelfbnhadaa
