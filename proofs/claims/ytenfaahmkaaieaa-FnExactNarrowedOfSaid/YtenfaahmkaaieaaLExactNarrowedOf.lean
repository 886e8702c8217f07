/- The walk of FnExactNarrowedOf: the program and the reference answer alike, the arguments are left as they were, and the answers lie in rows of their own. -/
import Derived.Test.YtenfaahmkaaieaaN10
namespace Go.Proofs.Ytenfaahmkaaieaa
open Go.RowKit

set_option maxRecDepth 100000 in
set_option maxHeartbeats 2000000 in
theorem FnExactNarrowedOf_any (A0 : Option Addr) (n0 c0 : Nat) (x0 : List Mk) (w : World) (F0 : n0 ≤ 9223372036854775807 ∧ MarksAt w A0 n0 x0) :
    Calls Try.prog 13 #[.slice A0 n0 c0] w fun e w' => e = .returned (.bool true) ∧ Below w.heap.size w w' := by
  obtain ⟨hm0, h0⟩ := F0
  obtain rfl : n0 = x0.length := h0.len.symm
  obtain ⟨R, HR⟩ : ∃ q, Hid (NarF x0 = q) := ⟨_, rfl⟩
  obtain ⟨bb, HBB⟩ : ∃ q, Hid (B (NarP x0) = q) := ⟨_, rfl⟩
  go_enter Try.func13, Try.ntmps13
  go_wp2_with (fail)
  refine kSz (szMarkS_ok A0 x0.length c0 1048576 _ hm0 (by omega)) ?_ ?_
  rotate_left
  · intro r0 w1 hr0 hb1
    go_wp2
    go_ret
    exact ⟨rfl, hb1⟩
  intro r0 w1 hp0 hr0 hs0 hb1
  have hl := Lib.hid (show R.length ≤ 1048576 by rw [← HR.out]; exact (Nat.le_trans (narF_len x0) hp0.out))
  go_wp2_with (fail)
  refine kNewM (toMarkS_own A0 x0.length c0 x0 _ (h0.below hb1) hp0.out) ?_
  intro As cs w2 hs hb2
  have hB2 : Below w.heap.size w w2 := hb1.trans (hb2.mono hb1.size)
  have hcs := sNarrowedOf_any As x0.length cs x0 _ (OwnM.at_ hs) hp0.out (OwnM.cap hs)
  rw [HR.out, HBB.out] at hcs
  go_wp2_with (fail)
  refine kNewMB hcs ?_
  intro Aw cw w3 hw hb3
  clear hcs
  have hB3 : Below w.heap.size w w3 := hB2.trans (hb3.mono hB2.size)
  have lw := Lib.hid hw.lt
  go_wp2_with (fail)
  refine kNewM (toMarkS_own A0 x0.length c0 x0 _ (h0.below hB3) hp0.out) ?_
  intro Ax cx w4 hx hb4
  have hB4 : Below w.heap.size w w4 := hB3.trans (hb4.mono hB3.size)
  have lx := Lib.hid hx.lt
  replace hw := own_below hw hb4
  have hci := iNarrowedOf_any Ax x0.length cx x0 _ (OwnM.at_ hx) hp0.out 
  rw [HR.out, HBB.out] at hci
  go_wp2_with (fail)
  refine kNewMB hci ?_
  intro Ag cg w5 hg hb5
  clear hci
  have hB5 : Below w.heap.size w w5 := hB4.trans (hb5.mono hB4.size)
  have lg := Lib.hid hg.lt
  have hz := Lib.hid (And.intro hb3.size (And.intro hb4.size hb5.size))
  replace hw := own_below hw hb5
  replace hx := own_below hx hb5
  go_wp2_with (fail)
  refine kB (eqMarkS_any Ag Aw R.length cg R.length cw R R _ (OwnM.at_ hg) (OwnM.at_ hw) (by have := hl.out; omega)) ?_ (fun _ hne _ => absurd rfl hne.out)
  intro w6 _ hb6
  have hB6 : Below w.heap.size w w6 := hB5.trans (hb6.mono hB5.size)
  replace hw := own_below hw hb6
  replace hx := own_below hx hb6
  replace hg := own_below hg hb6
  go_wp2_with (fail)
  refine kNewM (toMarkS_own A0 x0.length c0 x0 _ (h0.below hB6) hp0.out) ?_
  intro Av cv w7 hv hb7
  have hB7 : Below w.heap.size w w7 := hB6.trans (hb7.mono hB6.size)
  replace hw := own_below hw hb7
  replace hx := own_below hx hb7
  replace hg := own_below hg hb7
  go_wp2_with (fail)
  refine kB (eqMarkS_any Ax Av x0.length cx x0.length cv x0 x0 _ (OwnM.at_ hx) (OwnM.at_ hv) (by have := hp0.out; omega)) ?_ (fun _ hne _ => absurd rfl hne.out)
  intro w8 _ hb8
  have hB8 : Below w.heap.size w w8 := hB7.trans (hb8.mono hB7.size)
  replace hw := own_below hw hb8
  replace hx := own_below hx hb8
  replace hg := own_below hg hb8
  clear hv
  go_wp2_with (fail)
  refine kMark (markMarkS_any _ Ax x0.length cx x0 _ hx hp0.out) ?_
  intro w9 hx' gx
  have hB9 : Below w.heap.size w w9 := hB8.grown gx hB8.size (fun k hk => by have := (lx.out k hk).1; have := hB3.size; omega)
  replace hw := own_grown' hw (fun k hk => (lw.out k hk).2) gx (fun k hk => (lx.out k hk).1)
  replace hg := own_grown hg gx (fun k hk => (lx.out k hk).2)
  clear hx hx' gx
  go_wp2_with (fail)
  refine kB (eqMarkS_any Ag Aw R.length cg R.length cw R R _ (OwnM.at_ hg) (OwnM.at_ hw) (by have := hl.out; omega)) ?_ (fun _ hne _ => absurd rfl hne.out)
  intro w10 _ hb10
  have hB10 : Below w.heap.size w w10 := hB9.trans (hb10.mono hB9.size)
  replace hw := own_below hw hb10
  replace hg := own_below hg hb10
  go_wp2_with (fail)
  refine kMark (markMarkS_any _ Ag R.length cg R _ hg hl.out) ?_
  intro w11 hg' gg
  have hB11 : Below w.heap.size w w11 := hB10.grown gg hB10.size (fun k hk => by have := (lg.out k hk).1; have := hB4.size; omega)
  replace hw := own_grown' hw (fun k hk => (lw.out k hk).2) gg (fun k hk => by have := (lg.out k hk).1; have := hz.out.2.1; omega)
  clear hg gg
  go_wp2_with (fail)
  refine kBV (Bl.of_quiet (heldMarkS_any Ag R.length cg _ (OwnM.at_ hg') hl.out)) ?_
  intro w12 hb12
  have hB12 : Below w.heap.size w w12 := hB11.trans (hb12.mono hB11.size)
  replace hw := own_below hw hb12
  replace hg' := own_below hg' hb12
  go_wp2_with (fail)
  refine kNewM (toMarkS_own A0 x0.length c0 x0 _ (h0.below hB12) hp0.out) ?_
  intro Ay cy w13 hy hb13
  have hB13 : Below w.heap.size w w13 := hB12.trans (hb13.mono hB12.size)
  replace hw := own_below hw hb13
  replace hg' := own_below hg' hb13
  have hci := iNarrowedOf_any Ay x0.length cy x0 _ (OwnM.at_ hy) hp0.out 
  rw [HR.out, HBB.out] at hci
  go_wp2_with (fail)
  refine kNewMB hci ?_
  intro Ah ch w14 hh hb14
  clear hci
  have hB14 : Below w.heap.size w w14 := hB13.trans (hb14.mono hB13.size)
  replace hw := own_below hw hb14
  replace hg' := own_below hg' hb14
  go_wp2_with (fail)
  refine kB (eqMarkS_any Ah Aw R.length ch R.length cw R R _ (OwnM.at_ hh) (OwnM.at_ hw) (by have := hl.out; omega)) ?_ (fun _ hne _ => absurd rfl hne.out)
  intro w15 _ hb15
  have hB15 : Below w.heap.size w w15 := hB14.trans (hb15.mono hB14.size)
  replace hg' := own_below hg' hb15
  go_wp2_with (fail)
  refine kBV (Bl.of_quiet (heldMarkS_any Ag R.length cg _ (OwnM.at_ hg') hl.out)) ?_
  intro w16 hb16
  go_wp2
  go_ret
  exact ⟨rfl, hB15.trans (hb16.mono hB15.size)⟩

end Go.Proofs.Ytenfaahmkaaieaa
