/- Calls that make memory of their own ('Bl'); slices.ContainsFunc over ints with any closure; impl.allIn. -/
import Derived.Test.YtcmicmenkbgfmaaDoorA2
namespace Go.Proofs.YtcmicmenkbgfmaaDoor
open Go.RowKit

/-- What a call leaves that makes at most new memory: the value; all that was there is as it was. -/
def Bl (w : World) (v : Value) (e : Ending) (w' : World) : Prop := e = .returned v ∧ Below w.heap.size w w'

theorem bcell {W w1 : World} (hb : Below W.heap.size W w1) : (∀ b o, b < W.heap.size → w1.cell? ⟨b, o, none⟩ = W.cell? ⟨b, o, none⟩) ∧ (∀ b o, b < W.heap.size → w1.frozen? ⟨b, o, none⟩ = W.frozen? ⟨b, o, none⟩) :=
  ⟨fun b o h => hb.cell (p := ⟨b, o, none⟩) h, fun b o h => hb.frozen (p := ⟨b, o, none⟩) h⟩
theorem keep {W w1 : World} (hb : Below W.heap.size W w1) {a : Addr} {v : Value} (h : W.cell? a = some v) : w1.cell? a = some v := by rw [hb.cell (cell_lt h)]; exact h

section
variable {Pr : Program} {f : FuncId} {args : Array Value} {w : World} {R : Ending → World → Prop}
theorem Bl.of_same {v : Value} (h : Calls Pr f args w (Same w v)) : Calls Pr f args w (Bl w v) :=
  h.mono fun _ _ ⟨he, hw⟩ => ⟨he, hw ▸ Below.refl _ _⟩
theorem Bl.of_quiet {v : Value} (h : Calls Pr f args w (Qt w v)) : Calls Pr f args w (Bl w v) :=
  h.mono fun _ _ ⟨he, m, hw⟩ => ⟨he, hw ▸ below_drewN (Below.refl _ _) m⟩
theorem kB {p : Prop} (h : Calls Pr f args w (Bl w (.bool (B p)))) (h1 : ∀ w', Hid p → Below w.heap.size w w' → R (.returned (.bool true)) w') (h0 : ∀ w', Hid (¬ p) → Below w.heap.size w w' → R (.returned (.bool false)) w') : Calls Pr f args w R :=
  h.mono fun e w' ⟨he, hw⟩ => by
    subst he
    by_cases hp : p
    · rw [B_true hp]; exact h1 w' hp hw
    · rw [B_false hp]; exact h0 w' hp hw
theorem kBV {v : Value} (h : Calls Pr f args w (Bl w v)) (h1 : ∀ w', Below w.heap.size w w' → R (.returned v) w') : Calls Pr f args w R :=
  h.mono fun e w' ⟨he, hw⟩ => by subst he; exact h1 w' hw
end

/-- A call of a function that has a body enters it. -/
theorem enters {P : Program} {f : FuncId} {fn : Func} (hf : P.funcs[f]? = some fn) (hn : (fn.name == "runtime.NumGoroutine") = false) (hb : fn.body.isNone = false) (ar : Array Value) (W : World) :
    (callFunc f ar).run P W = .ok (.enter f ar) W := by
  have hn' : ¬ fn.name = "runtime.NumGoroutine" := by simpa using hn
  have hb' : ¬ fn.body = none := by intro h; rw [h] at hb; cases hb
  simp [callFunc, hf, hn', hb']

/-- What IndexFunc and its kin answer: a place exactly if some element has the property. -/
def IdxSome (w : World) (p : Prop) (e : Ending) (w' : World) : Prop := ∃ i : Int, e = .returned (.int .i64 i) ∧ (0 ≤ i ↔ p) ∧ Below w.heap.size w w'

def AllIn (xs : List Int) (lo hi : Int) : Prop := ∀ x ∈ xs, InR x lo hi

end Go.Proofs.YtcmicmenkbgfmaaDoor
