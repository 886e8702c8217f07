/- Rows of ints that a call has made itself: contracts with such a result; writing into and reading what was written (markIntS, heldIntS). -/
import Derived.Test.YtenfaahmkaaieaaO2
namespace Go.Proofs.Ytenfaahmkaaieaa
open Go.RowKit

/-- A row of ints of one's own. -/
abbrev OwnI (w : World) (base : Nat) (A : Option Addr) (n c : Nat) (xs : List Int) : Prop := w.ownsRow base 3 1 (.slice A n c) n (vI xs)
theorem OwnI.len {w : World} {base : Nat} {A : Option Addr} {n c : Nat} {xs : List Int} (h : OwnI w base A n c xs) : xs.length = n := by
  have := h.1; rw [vI_len] at this; omega
theorem OwnI.at_ {w : World} {base : Nat} {A : Option Addr} {n c : Nat} {xs : List Int} (h : OwnI w base A n c xs) : IntsAt w A n xs := by
  obtain ⟨A', c', e, _, hi, _⟩ := own_ints h
  cases e; exact hi
theorem OwnI.cap {w : World} {base : Nat} {A : Option Addr} {n c : Nat} {xs : List Int} (h : OwnI w base A n c xs) : n ≤ c := by
  obtain ⟨A', c', e, hc, _, _⟩ := own_ints h
  cases e; exact hc
theorem OwnI.nil (w : World) (base : Nat) : OwnI w base none 0 0 [] := World.ownsRow_nil _ _ _ _
theorem OwnI.empty (w : World) (base : Nat) (hb : base ≤ w.heap.size) : OwnI (w.alloc (.cells #[] 3)) base (some ⟨w.heap.size, 0, none⟩) 0 0 [] := own_lit w base _ 1 #[] 0 hb (by decide) rfl
def NewI (w : World) (xs : List Int) (e : Ending) (w' : World) : Prop :=
  ∃ A c, e = .returned (.slice A xs.length c) ∧ OwnI w' w.heap.size A xs.length c xs ∧ Below w.heap.size w w'
theorem kNewI {Pr : Program} {f : FuncId} {args : Array Value} {w : World} {R : Ending → World → Prop} {xs : List Int} (h : Calls Pr f args w (NewI w xs))
    (h1 : ∀ A c w', OwnI w' w.heap.size A xs.length c xs → Below w.heap.size w w' → R (.returned (.slice A xs.length c)) w') : Calls Pr f args w R :=
  h.mono fun e w' ⟨A, c, he, hi, hb⟩ => by subst he; exact h1 A c w' hi hb
def NewIB (w : World) (xs : List Int) (b : Bool) (e : Ending) (w' : World) : Prop :=
  ∃ A c, e = .returned (.tuple #[.slice A xs.length c, .bool b]) ∧ OwnI w' w.heap.size A xs.length c xs ∧ Below w.heap.size w w'
theorem kNewIB {Pr : Program} {f : FuncId} {args : Array Value} {w : World} {R : Ending → World → Prop} {xs : List Int} {b : Bool} (h : Calls Pr f args w (NewIB w xs b))
    (h1 : ∀ A c w', OwnI w' w.heap.size A xs.length c xs → Below w.heap.size w w' → R (.returned (.tuple #[.slice A xs.length c, .bool b])) w') : Calls Pr f args w R :=
  h.mono fun e w' ⟨A, c, he, hi, hb⟩ => by subst he; exact h1 A c w' hi hb
theorem vI_append (xs ys : List Int) : vI (xs ++ ys) = vI xs ++ vI ys := by simp [vI]
theorem set1 (ys pre : List Int) (y x : Int) : (vI (pre ++ y :: ys)).set pre.length (.int .i64 x) = vI (pre ++ x :: ys) := by
  rw [vI_append, vI_append]
  have h := vI_len pre
  rw [List.set_append_right _ _ (by omega), h, Nat.mul_one, Nat.sub_self]
  rfl

set_option maxHeartbeats 1000000 in
theorem markIntS_any (base : Nat) (A : Option Addr) (n c : Nat) (xs : List Int) (w : World) (h : OwnI w base A n c xs) (hn : n ≤ 1048576) :
    Calls Try.prog 42 #[.slice A n c, .int .i64 1] w fun e w' => e = .returned (.int .i64 (1 + (n : Int))) ∧ OwnI w' base A n c (seq1 1 n) ∧ w.grownBy w' (Value.ownBlock (.slice A n c)) := by
  have HL := Lib.hid h.len
  go_enter Try.func42, Try.ntmps42
  go_wp2
  go_loopw [1, 5] (fun s i wr => ∃ k : Nat, k ≤ n ∧ i = .int .i64 k ∧ s = .int .i64 (1 + (k : Int)) ∧ OwnI wr base A n c (seq1 1 k ++ xs.drop k) ∧ w.grownBy wr (Value.ownBlock (.slice A n c))) (fun _ i _ => n - (intOf i).toNat)
  case atStart => exact ⟨0, Nat.zero_le _, rfl, rfl, by simpa [seq1] using h, grown_refl _ _⟩
  case round =>
    obtain ⟨wo, rfl⟩ : ∃ wo : World, wo = wr := ⟨_, rfl⟩
    obtain ⟨k, hk, rfl, rfl, hown, hg⟩ := hrel
    have HO := Lib.hid hown
    have HG := Lib.hid hg
    clear hown hg
    by_cases hlt : k < n
    · obtain ⟨g, rfl, hbg, hgl⟩ := own_cellsD HO.out (by omega)
      obtain ⟨b', off', e', hd⟩ := HO.out.at_.cells (by omega)
      cases e'
      have d0 := hd k hlt
      rw [Nat.zero_add] at d0
      clear hd
      have f0 := HO.out.frozenAt k
      go_wp2
      go_roundw
      case rel =>
        refine ⟨k + 1, by omega, by go_num, by go_num, ?_, ?_⟩
        · have hkx : k < xs.length := by rw [HL.out]; exact hlt
          have h1 := own_set HO.out k (.int .i64 (1 + (k : Int)))
          have h2 := set1 (xs.drop (k + 1)) (seq1 1 k) xs[k] (1 + (k : Int))
          rw [seq1_len, ← List.drop_eq_getElem_cons hkx] at h2
          rw [h2] at h1
          rw [seq1_succ, List.append_assoc]
          simpa using h1
        · exact grown_trans HG.out (HO.out.stored k (.int .i64 (1 + (k : Int)))).2
      case measure => simp [intOf]; omega
    · obtain rfl : k = n := by omega
      go_wp2
      go_ret
      refine ⟨rfl, ?_, HG.out⟩
      have := HO.out
      rwa [List.drop_eq_nil_of_le (by rw [HL.out]; exact Nat.le_refl _), List.append_nil] at this

set_option maxHeartbeats 1000000 in
theorem heldIntS_any (A : Option Addr) (n c : Nat) (w : World) (h : IntsAt w A n (seq1 1 n)) (hn : n ≤ 1048576) :
    Calls Try.prog 43 #[.slice A n c, .int .i64 1] w (Qt w (.int .i64 (1 + (n : Int)))) := by
  go_enter Try.func43, Try.ntmps43
  go_wp2
  go_loopw [1, 5] (fun s i wr => ∃ k m : Nat, k ≤ n ∧ i = .int .i64 k ∧ s = .int .i64 (1 + (k : Int)) ∧ wr = w.drewN m) (fun _ i _ => n - (intOf i).toNat)
  case atStart => exact ⟨0, 0, Nat.zero_le _, rfl, rfl, rfl⟩
  case round =>
    obtain ⟨k, m, hk, rfl, rfl, rfl⟩ := hrel
    by_cases hlt : k < n
    · obtain ⟨b, off, rfl, hc⟩ := h.cells (by omega)
      have c0 := hc k hlt
      clear hc
      rw [seq1_get 1 hlt] at c0
      go_wp2
      go_roundw
      case rel => exact ⟨k + 1, m, by omega, by go_num, by go_num, by trivial⟩
      case measure => simp [intOf]; omega
    · obtain rfl : k = n := by omega
      go_wp2
      go_ret
      exact ⟨rfl, m, rfl⟩

end Go.Proofs.Ytenfaahmkaaieaa
