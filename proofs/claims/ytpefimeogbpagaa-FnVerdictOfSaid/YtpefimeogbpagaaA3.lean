/- Calls that make memory of their own ('Bl'); slices.ContainsFunc over ints with any closure; impl.allIn. -/
import Derived.Test.YtpefimeogbpagaaA2
namespace Go.Proofs.Ytpefimeogbpagaa
open Go.RowKit

/-- What a call leaves that makes at most new memory: the value; all that was there is as it was. -/
def Bl (w : World) (v : Value) (e : Ending) (w' : World) : Prop := e = .returned v ∧ Below w.heap.size w w'

theorem bcell {W w1 : World} (hb : Below W.heap.size W w1) : (∀ b o, b < W.heap.size → w1.cell? ⟨b, o, none⟩ = W.cell? ⟨b, o, none⟩) ∧ (∀ b o, b < W.heap.size → w1.frozen? ⟨b, o, none⟩ = W.frozen? ⟨b, o, none⟩) :=
  ⟨fun b o h => hb.cell (p := ⟨b, o, none⟩) h, fun b o h => hb.frozen (p := ⟨b, o, none⟩) h⟩
theorem keep {W w1 : World} (hb : Below W.heap.size W w1) {a : Addr} {v : Value} (h : W.cell? a = some v) : w1.cell? a = some v := by rw [hb.cell (cell_lt h)]; exact h

section
variable {Pr : Program} {f : FuncId} {args : Array Value} {w : World} {R : Ending → World → Prop}
theorem Bl.of_same {v : Value} (h : Calls Pr f args w (Same w v)) : Calls Pr f args w (Bl w v) :=
  h.mono fun _ _ ⟨he, hw⟩ => ⟨he, hw ▸ Below.refl _ _⟩
theorem Bl.of_quiet {v : Value} (h : Calls Pr f args w (Qt w v)) : Calls Pr f args w (Bl w v) :=
  h.mono fun _ _ ⟨he, m, hw⟩ => ⟨he, hw ▸ below_drewN (Below.refl _ _) m⟩
theorem kB {p : Prop} (h : Calls Pr f args w (Bl w (.bool (B p)))) (h1 : ∀ w', Hid p → Below w.heap.size w w' → R (.returned (.bool true)) w') (h0 : ∀ w', Hid (¬ p) → Below w.heap.size w w' → R (.returned (.bool false)) w') : Calls Pr f args w R :=
  h.mono fun e w' ⟨he, hw⟩ => by
    subst he
    by_cases hp : p
    · rw [B_true hp]; exact h1 w' hp hw
    · rw [B_false hp]; exact h0 w' hp hw
theorem kBV {v : Value} (h : Calls Pr f args w (Bl w v)) (h1 : ∀ w', Below w.heap.size w w' → R (.returned v) w') : Calls Pr f args w R :=
  h.mono fun e w' ⟨he, hw⟩ => by subst he; exact h1 w' hw
end

/-- A call of a function that has a body enters it. -/
theorem enters {P : Program} {f : FuncId} {fn : Func} (hf : P.funcs[f]? = some fn) (hn : (fn.name == "runtime.NumGoroutine") = false) (hb : fn.body.isNone = false) (ar : Array Value) (W : World) :
    (callFunc f ar).run P W = .ok (.enter f ar) W := by
  have hn' : ¬ fn.name = "runtime.NumGoroutine" := by simpa using hn
  have hb' : ¬ fn.body = none := by intro h; rw [h] at hb; cases hb
  simp [callFunc, hf, hn', hb']

/-- What IndexFunc and its kin answer: a place exactly if some element has the property. -/
def IdxSome (w : World) (p : Prop) (e : Ending) (w' : World) : Prop := ∃ i : Int, e = .returned (.int .i64 i) ∧ (0 ≤ i ↔ p) ∧ Below w.heap.size w w'

theorem IndexFuncInt_any (P : Int → Prop) (kf : FuncId) (caps : Array Value) (A : Option Addr) (n c : Nat) (xs : List Int) (w : World) (h : IntsAt w A n xs) (hn : n ≤ 1048576)
    (hcall : ∀ (ar : Array Value) (W : World), (callFunc kf ar).run Try.prog W = .ok (.enter kf ar) W)
    (hf : Hid (∀ (W : World) (x : Int), Below w.heap.size w W → Calls Try.prog kf (#[.int .i64 x] ++ caps) W (Bl W (.bool (B (P x)))))) :
    Calls Try.prog 52 #[.slice A n c, .func (.func kf) #[] caps] w (IdxSome w (∃ x ∈ xs, P x)) := by
  have HL := Lib.hid h.len
  go_enter Try.func52, Try.ntmps52
  go_wp2
  go_loopw [8] (fun i wr => ∃ k : Nat, k ≤ n ∧ i = .int .i64 k ∧ Below w.heap.size w wr ∧ ∀ j, j < k → ¬ P (xs.getD j 0)) (fun i _ => n - (intOf i).toNat)
  case atStart => exact ⟨0, Nat.zero_le _, rfl, Below.refl _ _, fun j hj => by omega⟩
  case round =>
    obtain ⟨k, hk, rfl, hb, hnf⟩ := hrel
    have HN := Lib.hid hnf
    have HB := Lib.hid hb
    clear hnf hb
    by_cases hlt : k < n
    · obtain ⟨b, off, rfl, hc⟩ := (h.below HB.out).cells (by omega)
      have hcell := hc k hlt
      clear hc
      go_wp2_with (fail)
      refine kB (hf.out _ _ HB.out) ?_ ?_
      · intro w2 hp hb2
        go_wp2
        go_ret
        have hp' : P (xs.getD k 0) := by simpa [List.getD] using hp.out
        refine ⟨_, rfl, ⟨fun _ => ⟨xs.getD k 0, ?_, hp'⟩, fun _ => by omega⟩, HB.out.trans (hb2.mono HB.out.size)⟩
        have : k < xs.length := by rw [HL.out]; exact hlt
        simp [List.getD, this]
      · intro w2 hp hb2
        go_wp2
        go_roundw
        case rel =>
          refine ⟨k + 1, by omega, by go_num, HB.out.trans (hb2.mono HB.out.size), fun j hj => ?_⟩
          rcases Nat.lt_or_ge j k with h1 | h1
          · exact HN.out j h1
          · obtain rfl : j = k := by omega
            simpa [List.getD] using hp.out
        case measure => simp [intOf]; omega
    · go_wp2
      go_ret
      obtain rfl : k = n := by omega
      refine ⟨_, rfl, ⟨fun h => by omega, ?_⟩, HB.out⟩
      rintro ⟨x, hx, hp⟩
      obtain ⟨j, hj, rfl⟩ := List.mem_iff_getElem.1 hx
      refine absurd hp ?_
      have := HN.out j (by rw [← HL.out]; exact hj)
      simpa [List.getD, hj] using this

theorem ContainsFuncInt_any (P : Int → Prop) (kf : FuncId) (caps : Array Value) (A : Option Addr) (n c : Nat) (xs : List Int) (w : World) (h : IntsAt w A n xs) (hn : n ≤ 1048576)
    (hcall : ∀ (ar : Array Value) (W : World), (callFunc kf ar).run Try.prog W = .ok (.enter kf ar) W)
    (hf : Hid (∀ (W : World) (x : Int), Below w.heap.size w W → Calls Try.prog kf (#[.int .i64 x] ++ caps) W (Bl W (.bool (B (P x)))))) :
    Calls Try.prog 39 #[.slice A n c, .func (.func kf) #[] caps] w (Bl w (.bool (B (∃ x ∈ xs, P x)))) := by
  go_enter Try.func39, Try.ntmps39
  go_wp2_with (fail)
  refine (IndexFuncInt_any P kf caps A n c xs w h hn hcall hf).mono ?_
  rintro e w' ⟨i, rfl, hi, hb⟩
  have HI := Lib.hid hi
  clear hi
  go_wp2
  go_ret
  refine ⟨ret_b ?_, hb⟩
  by_cases hp : 0 ≤ i
  · rw [B_true (HI.out.1 hp)]; simpa using hp
  · rw [B_false (fun h => hp (HI.out.2 h))]; simpa using hp

def AllIn (xs : List Int) (lo hi : Int) : Prop := ∀ x ∈ xs, InR x lo hi

theorem allIn1_any (v lo hi : Int) (a b : Nat) (w : World) (h0 : w.cell? ⟨a, 0, none⟩ = some (.int .i64 lo)) (h1 : w.cell? ⟨b, 0, none⟩ = some (.int .i64 hi)) :
    Calls Try.prog 40 #[.int .i64 v, .pointer (some ⟨a, 0, none⟩), .pointer (some ⟨b, 0, none⟩)] w (Same w (.bool (B (¬ InR v lo hi)))) := by
  go_enter Try.func40, Try.ntmps40
  go_wp2_with (go_at_call 17; refine kS (in_any _ _ _ _) ?_ ?_ <;> intro HQ)
  · go_ret
    exact ⟨ret_b (by rw [B_false (fun h => h HQ.out)]), rfl⟩
  · go_ret
    exact ⟨ret_b (by rw [B_true HQ.out]), rfl⟩

theorem allIn_any (A : Option Addr) (n c : Nat) (xs : List Int) (lo hi : Int) (w : World) (h : IntsAt w A n xs) (hn : n ≤ 1048576) :
    Calls Try.prog 27 #[.slice A n c, .int .i64 lo, .int .i64 hi] w (Bl w (.bool (B (AllIn xs lo hi)))) := by
  go_enter Try.func27, Try.ntmps27
  go_wp2_with (fail)
  refine kB (ContainsFuncInt_any (fun x => ¬ InR x lo hi) _ _ A n c xs _ ((h.below ((Below.refl _ _).alloc (Nat.le_refl _) _)).below ((Below.refl _ _).alloc (Nat.le_refl _) _)) hn (enters Try.func40 (by kernel_rfl) (by kernel_rfl)) (Lib.hid fun W x hW => Bl.of_same (allIn1_any x lo hi _ _ W (keep hW (by simp [go_sem])) (keep hW (by simp [go_sem]))))) ?_ ?_
  all_goals
    intro w2 hp hb2
    go_wp2
    go_ret
  · refine ⟨ret_b ?_, ?_⟩
    · rw [B_false]
      intro hall
      obtain ⟨x, hx, hn⟩ := hp.out
      exact hn (hall x hx)
    · exact ((((Below.refl _ _).alloc (Nat.le_refl _) _).alloc (by simp) _).trans (hb2.mono (by simp; omega)))
  · refine ⟨ret_b ?_, ?_⟩
    · rw [B_true]
      intro x hx
      by_cases hr : InR x lo hi
      · exact hr
      · exact absurd ⟨x, hx, hr⟩ hp.out
    · exact ((((Below.refl _ _).alloc (Nat.le_refl _) _).alloc (by simp) _).trans (hb2.mono (by simp; omega)))

end Go.Proofs.Ytpefimeogbpagaa
