/- States as the exact law holds them: equal, marked, held. -/
import Derived.Test.YtkmimebfnnemoaaS5
import Derived.Test.YtkmimebfnnemoaaS4
import Derived.Test.YtkmimebfnnemoaaOX
import Derived.Test.YtkmimebfnnemoaaOH
namespace Go.Proofs.Ytkmimebfnnemoaa
open Go.RowKit

theorem saV_one (p : Int) (bs : List Bd) (hs : List Hp) (now : Int) : ∃ (nw : Int) (ds : List Int) (b : Bool), ds.length ≤ 6 ∧ ∀ (v : World) (e : Ending) (v' : World), SaV v p bs hs now e v' → StV v nw ds b e v' := by
  by_cases h : SaOk p bs hs now
  · obtain ⟨P, hP, hP1, hP6⟩ := h.1.2.1.nat
    refine ⟨now, DsA p.toNat hs, true, ?_, ?_⟩
    · rw [DsA_len (by omega)]; omega
    · rintro v e v' (⟨_, hs⟩ | ⟨hn, _⟩)
      · exact hs
      · exact absurd h hn
  · refine ⟨0, [], false, by simp, ?_⟩
    rintro v e v' (⟨hn, _⟩ | ⟨_, hs⟩)
    · exact absurd hn h
    · exact hs
theorem kSt {Pr : Program} {f : FuncId} {args : Array Value} {w : World} {R : Ending → World → Prop} {nw : Int} {ds : List Int} {b : Bool} (h : Calls Pr f args w (StV w nw ds b))
    (h1 : ∀ A c w', OwnZ w' w.heap.size A ds.length c ds → Below w.heap.size w w' → R (.returned (.tuple #[.agg #[.int .i64 nw, .slice A ds.length c], .bool b])) w') : Calls Pr f args w R :=
  h.mono fun e w' ⟨A, n, c, he, hi, hb⟩ => by
    subst he
    obtain rfl : ds.length = n := hi.len
    exact h1 A c w' hi hb

theorem eqState_any (nw : Int) (A D : Option Addr) (n c d : Nat) (xs : List Int) (w : World) (h : IntsAt w A n xs) (g : IntsAt w D n xs) (hn : n ≤ 1048576) :
    Calls Try.prog 18 #[.agg #[.int .i64 nw, .slice A n c], .agg #[.int .i64 nw, .slice D n d]] w (Bl w (.bool true)) := by
  have hB0 : Below w.heap.size w ((w.alloc (.cells #[.int .i64 nw, .slice A n c] 40)).alloc (.cells #[.int .i64 nw, .slice D n d] 40)) :=
    ((Below.refl w.heap.size w).alloc (Nat.le_refl _) _).alloc (by simp) _
  go_enter Try.func18, Try.ntmps18
  go_wp2_with (fail)
  refine kB (Bl.of_quiet (eqIntS_any A D n c n d xs xs _ (h.below hB0) (g.below hB0) (by omega))) ?_ ?_
  · intro w1 _ hb1
    go_wp2
    go_ret
    exact ⟨rfl, hB0.trans (hb1.mono hB0.size)⟩
  · intro w1 hne
    exact absurd rfl hne.out
theorem markState_any (nw : Int) (base : Nat) (A : Option Addr) (n c : Nat) (xs : List Int) (w : World) (h : OwnZ w base A n c xs) (hn : n ≤ 1048576) :
    Calls Try.prog 21 #[.agg #[.int .i64 nw, .slice A n c], .int .i64 1] w fun e w' => e = .returned (.int .i64 (1 + (n : Int))) ∧ OwnZ w' base A n c (seqZ 1 n) ∧ w.grownBy w' (Value.ownBlock (.slice A n c)) := by
  go_enter Try.func21, Try.ntmps21
  go_wp2_with (fail)
  refine (markZ_any base A n c xs _ (own_below h ((Below.refl _ _).alloc (Nat.le_refl _) _)) hn).mono ?_
  rintro e w' ⟨rfl, ho, hg⟩
  go_wp2
  go_ret
  exact ⟨rfl, ho, grown_trZ (World.grownBy_alloc _ _ _) hg⟩
theorem heldState_any (nw : Int) (A : Option Addr) (n c : Nat) (w : World) (h : IntsAt w A n (seqZ 1 n)) (hn : n ≤ 1048576) :
    Calls Try.prog 22 #[.agg #[.int .i64 nw, .slice A n c], .int .i64 1] w (Bl w (.int .i64 (1 + (n : Int)))) := by
  have hB0 : Below w.heap.size w (w.alloc (.cells #[.int .i64 nw, .slice A n c] 40)) := (Below.refl w.heap.size w).alloc (Nat.le_refl _) _
  have hneg : ¬ (1 + (n : Int)) < 0 := by omega
  go_enter Try.func22, Try.ntmps22
  go_wp2_with (fail)
  refine kBV (Bl.of_quiet (heldZ_any A n c _ (h.below hB0) hn)) ?_
  intro w1 hb1
  go_wp2
  go_ret
  exact ⟨rfl, hB0.trans (hb1.mono hB0.size)⟩

end Go.Proofs.Ytkmimebfnnemoaa
