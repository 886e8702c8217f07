/- The walk of FnExactReadTerm: the program and the reference answer alike, and the answers lie in rows of their own. -/
import Derived.Test.YtcmicmenkbgfmaaDoorRS5
set_option linter.unusedSimpArgs false
namespace Go.Proofs.YtcmicmenkbgfmaaDoor
open Go.RowKit

theorem readV_len (s : List UInt8) : (readV s).1.length ≤ 11 := by
  by_cases h : ∃ p : List Mk × Bool, ReadP s p.1 p.2
  · obtain ⟨p, hp⟩ := h
    rw [(readV_eq hp).1]
    rcases hp with ⟨-, ⟨t, ht, -⟩, -⟩ | ⟨-, h1, -⟩
    · exact ht.2.2
    · rw [h1]; simp
  · unfold readV
    rw [dif_neg h]; simp

set_option maxRecDepth 100000 in
set_option maxHeartbeats 4000000 in
theorem FnExactReadTerm_any (s : ByteArray) (w : World) (_F0 : s.size ≤ 9223372036854775807) (hG : GV w) :
    Calls Tryd.prog 4 #[.string s] w fun e w' => e = .returned (.bool true) ∧ Below w.heap.size w w' := by
  have HG := Lib.hid hG
  clear hG
  by_cases h20 : s.size ≤ 1048576
  rotate_left
  · go_enter Tryd.func4, Tryd.ntmps4
    go_wp2
    go_ret
    exact ⟨rfl, Below.refl _ _⟩
  have hl := Lib.hid (Nat.le_trans (readV_len s.data.toList) (by decide : 11 ≤ 1048576))
  have HS := Lib.hid (fun W : World => sReadTerm_any s W)
  have HI := Lib.hid (fun (W : World) (g : GV W) => iReadTerm_any s W g)
  obtain ⟨R, HR⟩ : ∃ q, Hid ((readV s.data.toList).1 = q) := ⟨_, rfl⟩
  obtain ⟨bb, HBB⟩ : ∃ q, Hid ((readV s.data.toList).2 = q) := ⟨_, rfl⟩
  rw [HR.out] at hl HS HI
  rw [HBB.out] at HS HI
  go_enter Tryd.func4, Tryd.ntmps4
  go_wp2_with (fail)
  refine kNewMB (HS.out _) ?_
  intro Aw cw w1 hw hb1
  have lw := Lib.hid hw.lt
  go_wp2_with (fail)
  refine kNewMB (HI.out _ (HG.out.below hb1)) ?_
  intro Ag cg w2 hg hb2
  have hB2 : Below w.heap.size w w2 := hb1.trans (hb2.mono hb1.size)
  have lg := Lib.hid hg.lt
  have hz := Lib.hid (And.intro hb1.size hb2.size)
  replace hw := own_below hw hb2
  go_wp2_with (fail)
  refine kB (eqMarkS_any Ag Aw R.length cg R.length cw R R _ (OwnM.at_ hg) (OwnM.at_ hw) (by have := hl.out; omega)) ?_ (fun _ hne _ => absurd rfl hne.out)
  intro w3 _ hb3
  have hB3 : Below w.heap.size w w3 := hB2.trans (hb3.mono hB2.size)
  replace hw := own_below hw hb3
  replace hg := own_below hg hb3
  go_wp2_with (fail)
  refine kMark (markMarkS_any _ Ag R.length cg R _ hg hl.out) ?_
  intro w4 hg' gg
  have hB4 : Below w.heap.size w w4 := hB3.grown gg hB3.size (fun k hk => by have := (lg.out k hk).1; have := hz.out.1; omega)
  replace hw := own_grown' hw (fun k hk => (lw.out k hk).2) gg (fun k hk => (lg.out k hk).1)
  clear hg gg
  go_wp2_with (fail)
  refine kBV (Bl.of_quiet (heldMarkS_any Ag R.length cg _ (OwnM.at_ hg') hl.out)) ?_
  intro w5 hb5
  have hB5 : Below w.heap.size w w5 := hB4.trans (hb5.mono hB4.size)
  replace hw := own_below hw hb5
  replace hg' := own_below hg' hb5
  go_wp2_with (fail)
  refine kNewMB (HI.out _ (HG.out.below hB5)) ?_
  intro Ah ch w6 hh hb6
  have hB6 : Below w.heap.size w w6 := hB5.trans (hb6.mono hB5.size)
  replace hw := own_below hw hb6
  replace hg' := own_below hg' hb6
  go_wp2_with (fail)
  refine kB (eqMarkS_any Ah Aw R.length ch R.length cw R R _ (OwnM.at_ hh) (OwnM.at_ hw) (by have := hl.out; omega)) ?_ (fun _ hne _ => absurd rfl hne.out)
  intro w7 _ hb7
  have hB7 : Below w.heap.size w w7 := hB6.trans (hb7.mono hB6.size)
  replace hg' := own_below hg' hb7
  go_wp2_with (fail)
  refine kBV (Bl.of_quiet (heldMarkS_any Ag R.length cg _ (OwnM.at_ hg') hl.out)) ?_
  intro w8 hb8
  go_wp2
  go_ret
  exact ⟨rfl, hB7.trans (hb8.mono hB7.size)⟩

end Go.Proofs.YtcmicmenkbgfmaaDoor
