/- Happenings: the program's HeardOk (a map of the points that have happened). -/
import Derived.Test.YtpefimeogbpagaaH1
import Derived.Maps.OwnOps
import Derived.Maps.Ext
namespace Go.Proofs.Ytpefimeogbpagaa
open Go.RowKit Go.Maps

theorem lawP : Keyed Try.prog 3 := int_keyed Try.underlying3
theorem zeroBl (w : World) : (zeroValue 4).run Try.prog w = .ok (.bool false) w := by kernel_rfl
theorem plainElem_bool_inv {H : Type} {P : Program} {e : TypeId} (he : P.underlying e = some .bool) {v : Value} {z : DataW H × List MemPlace} (h : plainElem P e v = some z) : ∃ a, v = .bool a ∧ z = (.lit (.bool a), []) := by
  unfold plainElem at h
  rw [he] at h
  cases v <;> simp at h
  obtain rfl := h
  exact ⟨_, rfl, rfl⟩
abbrev kyP (n : Int) : Lit := .int .i64 n
theorem kyP_ne {m n : Int} (h : m ≠ n) : kyP m ≠ kyP n := fun e => h (by injection e)
/-- A map of points that have happened. -/
abbrev OwnP (w : World) (b n : Nat) (D : DataW Unit) : Prop := w.ownsMap Try.prog 3 (plainElem Try.prog 4) b n D
structure Sm (D : DataW Unit) (S : Int → Bool) : Prop where
  isMap : IsMap D
  at_ : ∀ n : Int, D.atKey (kyP n) (.lit (.bool false)) = .lit (.bool (S n))
theorem Sm.empty : Sm (.map []) (fun _ => false) := ⟨isMap_empty, fun _ => rfl⟩
theorem Sm.put {D : DataW Unit} {S : Int → Bool} (h : Sm D S) (x : Int) : Sm (D.put (kyP x) (.lit (.bool true))) (fun n => n == x || S n) := by
  refine ⟨h.isMap.put _ _, fun n => ?_⟩
  by_cases e : n = x
  · subst e
    rw [atKey_put_same h.isMap (show WideAt.IsKeyLit (kyP n) from trivial)]; simp
  · rw [atKey_put_other (kyP_ne e), h.at_]; simp [e]
theorem Sm.congr {D : DataW Unit} {S S' : Int → Bool} (h : Sm D S) (he : ∀ n, S n = S' n) : Sm D S' := ⟨h.isMap, fun n => by rw [h.at_, he]⟩
theorem OwnP.look {w : World} {b n : Nat} {D : DataW Unit} {S : Int → Bool} (h : OwnP w b n D) (hs : Sm D S) {x : Int} (hx : -9223372036854775808 ≤ x ∧ x ≤ 9223372036854775807) :
    (Instr.lookup 58 (.map (some b)) (.int .i64 x) false).run Try.prog w = .ok (.bool (S x)) w := by
  obtain ⟨v, ps, hrun, hv⟩ := h.lookup lawP Try.underlying58 (zeroBl w) (plainElem_bool Try.underlying4 false) (keyOf_int_mk Try.underlying3 (a := x) (WalkArith.wf_i64 hx))
  obtain ⟨a, rfl, hz⟩ := plainElem_bool_inv Try.underlying4 hv
  rw [hrun]
  rw [hs.at_] at hz
  injection hz with h1 _
  injection h1 with h1
  injection h1 with h1
  rw [h1]
theorem OwnP.below {w w' : World} {b n : Nat} {D : DataW Unit} (h : OwnP w b n D) (hb : Below w.heap.size w w') : OwnP w' b n D :=
  h.kept (row := none) ⟨hb.os, hb.tape, hb.output, hb.size, fun k hk _ => hb.block k hk⟩ (by simp)
/-- The points of the first k happenings, and the first point. -/
def seenS (hs : List Hp) (k : Nat) : Int → Bool := fun n => n == 0 || (hs.take k).any fun h => n == h.1
theorem seenS_zero (hs : List Hp) (n : Int) : seenS hs 0 n = (n == 0) := by simp [seenS]
theorem seenS_succ {hs : List Hp} {k : Nat} (hk : k < hs.length) (n : Int) : seenS hs (k + 1) n = (n == (hs.getD k (0, 0)).1 || seenS hs k n) := by
  unfold seenS
  rw [List.take_succ_eq_append_getElem hk, List.any_append]
  simp only [List.any_cons, List.any_nil, Bool.or_false]
  rw [show hs[k] = hs.getD k (0, 0) by simp [List.getD, hk]]
  cases (n == 0) <;> cases ((hs.take k).any fun h => n == h.1) <;> cases (n == (hs.getD k (0, 0)).1) <;> rfl
theorem seenS_false {hs : List Hp} {k : Nat} {x : Int} (hk : k ≤ hs.length) : seenS hs k x = false ↔ x ≠ 0 ∧ ∀ j, j < k → (hs.getD j (0, 0)).1 ≠ x := by
  unfold seenS
  rw [Bool.or_eq_false_iff, List.any_eq_false]
  constructor
  · rintro ⟨h1, h2⟩
    refine ⟨by simpa using h1, fun j hj e => ?_⟩
    have hjl : j < hs.length := by omega
    have := h2 hs[j] (by rw [List.mem_take_iff_getElem]; exact ⟨j, by omega, rfl⟩)
    simp [List.getD, hjl] at e
    simp [e] at this
  · rintro ⟨h1, h2⟩
    refine ⟨by simpa using h1, fun h hm => ?_⟩
    obtain ⟨j, hj, rfl⟩ := List.mem_take_iff_getElem.1 hm
    have := h2 j (by omega)
    have hjl : j < hs.length := by omega
    simp [List.getD, hjl] at this
    simp only [beq_iff_eq]
    exact fun e => this e.symm
/-- The time of the last one of the first k, 0 without any. -/
def lastT (hs : List Hp) (k : Nat) : Int := if k = 0 then 0 else (hs.getD (k - 1) (0, 0)).2
theorem H1_iff {p : Int} {hs : List Hp} {k : Nat} (hk : k < hs.length) (hu : ∀ j, j < k → H1 p hs j) :
    H1 p hs k ↔ HasPt p (hs.getD k (0, 0)).1 ∧ seenS hs k (hs.getD k (0, 0)).1 = false ∧ InR (hs.getD k (0, 0)).2 (lastT hs k) 2000 := by
  rw [seenS_false (by omega)]
  unfold H1 HasPt InR lastT
  constructor
  · rintro ⟨⟨h1, h2⟩, ⟨h3, h4⟩, h5, h6⟩
    refine ⟨⟨by omega, h2⟩, ⟨by omega, h6⟩, ?_, h4⟩
    split
    · exact h3
    · exact h5 (by omega)
  · rintro ⟨⟨h1, h2⟩, ⟨h3, h4⟩, h5, h6⟩
    refine ⟨⟨by omega, h2⟩, ⟨?_, h6⟩, fun h0 => ?_, h4⟩
    · split at h5
      · exact h5
      · have := (hu (k - 1) (by omega)).2.1.1; omega
    · rw [if_neg (by omega)] at h5; exact h5

set_option maxRecDepth 100000 in
set_option maxHeartbeats 4000000 in
theorem iHeardOk_any (p : Int) (A : Option Addr) (n c : Nat) (bs : List Bd) (D : Option Addr) (m d : Nat) (hs : List Hp) (w : World) (h : BndsAt w A n bs) (g : HapsAt w D m hs) (_hn : n ≤ 1048576) (hm : m ≤ 1048576) :
    Calls Try.prog 16 #[.agg #[.int .i64 p, .slice A n c], .slice D m d] w (Bl w (.bool (B (HrdOk p bs hs)))) := by
  have HL := Lib.hid g.len
  have hmm := @run_makeMap
    Try.prog
  obtain ⟨w1, hrun, hown1, hgrow1⟩ := World.ownsMap.update (R := plainElem (H := Unit) Try.prog 4) (t := 58) (World.ownsMap_made (w.alloc (.cells #[.int .i64 p, .slice A n c] 25)) Try.prog 3 (plainElem (H := Unit) Try.prog 4)) lawP Try.underlying58 (by decide) (keyOf_int_mk Try.underlying3 (q := .i64) (a := 0) (by decide)) (plainElem_bool Try.underlying4 true)
  have e1 : (w.alloc (.cells #[.int .i64 p, .slice A n c] 25)).heap.size = w.heap.size + 1 := by simp
  rw [e1] at hrun hown1 hgrow1
  have hb1 : Below w.heap.size w w1 := (((Below.refl w.heap.size w).alloc (Nat.le_refl _) _).alloc (by simp) _).grown hgrow1 (by simp; omega) (fun j hj => by cases hj; omega)
  have s0 : w1.cell? ⟨w.heap.size, 0, none⟩ = some (.int .i64 p) := hgrow1.cell (by simp [go_sem]) (by simp)
  have s1 : w1.cell? ⟨w.heap.size, 1, none⟩ = some (.slice A n c) := hgrow1.cell (by simp [go_sem]) (by simp)
  have HB1 := Lib.hid hb1
  have HS0 := Lib.hid s0
  have HS1 := Lib.hid s1
  have HO1 := Lib.hid hown1
  have HG := Lib.hid g
  have HH := Lib.hid h
  clear hgrow1 hown1 hb1 s0 s1 g h e1
  go_enter Try.func16, Try.ntmps16
  go_wp2
  obtain ⟨sb, HSB⟩ : ∃ q, Hid (w.heap.size = q) := ⟨_, rfl⟩
  rw [HSB.out] at HS0 HS1 HO1 ⊢
  go_loopw [5, 13] (fun l i wr => ∃ (k : Nat) (Dm : DataW Unit), k ≤ m ∧ i = .int .i64 k ∧ l = .int .i64 (lastT hs k) ∧ OwnP wr (sb + 1) (k + 1) Dm ∧ Sm Dm (seenS hs k) ∧ (∀ j, j < k → H1 p hs j) ∧ wr.cell? ⟨sb, 0, none⟩ = some (.int .i64 p) ∧ wr.cell? ⟨sb, 1, none⟩ = some (.slice A n c) ∧ Below w.heap.size w wr) (fun _ i _ => m - (intOf i).toNat)
  case atStart => exact ⟨0, _, Nat.zero_le _, rfl, rfl, HO1.out, (Sm.empty.put 0).congr fun n => by rw [seenS_zero]; simp, fun j hj => by omega, HS0.out, HS1.out, HB1.out⟩
  case round =>
    obtain ⟨wo, rfl⟩ : ∃ wo : World, wo = wr := ⟨_, rfl⟩
    obtain ⟨k, Dm, hk, rfl, rfl, hown, hsm, hu, s0, s1, hb⟩ := hrel
    have HO := Lib.hid hown
    have HSM := Lib.hid hsm
    have HU := Lib.hid hu
    have HB := Lib.hid hb
    have hbo := hown.lt
    have hbs : sb < wo.heap.size := by omega
    clear hown hsm hu hb
    clear hrun
    by_cases hkm : k < m
    · obtain ⟨b, off, rfl, hc⟩ := (HG.out.below HB.out).cells (by omega)
      obtain ⟨c0, c1⟩ := hc k hkm
      clear hc
      have hkl : k < hs.length := by rw [HL.out]; exact hkm
      have HI := Lib.hid (H1_iff hkl HU.out)
      have HSU := Lib.hid (seenS_succ hkl)
      have HLT := Lib.hid (show lastT hs (k + 1) = (hs.getD k (0, 0)).2 by unfold lastT; rw [if_neg (by omega), Nat.add_sub_cancel])
      have HNO := Lib.hid (show ¬ H1 p hs k → ¬ HrdOk p bs hs from fun hx hh => hx (hh.1 k hkl))
      obtain ⟨x, HX⟩ : ∃ q, Hid ((hs.getD k (0, 0)).1 = q) := ⟨_, rfl⟩
      obtain ⟨t, HT⟩ : ∃ q, Hid ((hs.getD k (0, 0)).2 = q) := ⟨_, rfl⟩
      obtain ⟨l, HLL⟩ : ∃ q, Hid (lastT hs k = q) := ⟨_, rfl⟩
      rw [HX.out] at c0 HI HSU
      rw [HT.out] at c1 HI HLT
      rw [HLL.out] at HI ⊢
      have hB2 := (Below.refl wo.heap.size wo).alloc (Nat.le_refl _) (.cells #[.int .i64 x, .int .i64 t] 37)
      have HB2 := Lib.hid hB2
      clear hB2
      go_wp2_with (fail)
      refine kB (has_any p _ x _) ?_ ?_
      · intro w2 hp hb2
        have hxp := hp.out
        have hx0 := hxp.1
        have hx1 : x ≤ 9223372036854775807 := Int.le_trans hxp.2 (by unfold wrap64; have := Int.emod_lt_of_pos (p - 1 + 9223372036854775808) (b := 18446744073709551616) (by omega); omega)
        have hown2 := OwnP.below (OwnP.below HO.out HB2.out) hb2
        have hlook := hown2.look HSM.out (x := x) ⟨by omega, hx1⟩
        have f0 : w2.cell? ⟨wo.heap.size, 0, none⟩ = some (.int .i64 x) := keep hb2 (by simp [go_sem])
        have f1 : w2.cell? ⟨wo.heap.size, 1, none⟩ = some (.int .i64 t) := keep hb2 (by simp [go_sem])
        have s0' := keep hb2 (keep HB2.out s0)
        have s1' := keep hb2 (keep HB2.out s1)
        have HO2 := Lib.hid hown2
        have HBW := Lib.hid ((HB.out.trans (HB2.out.mono HB.out.size)).trans (hb2.mono (Nat.le_trans HB.out.size HB2.out.size)))
        have hbo2 := hown2.lt
        have hbs2 : sb < w2.heap.size := by omega
        clear hxp hown2 hb2 s0 s1
        by_cases hseen : seenS hs k x = true
        · have HSE := Lib.hid hseen
          rw [hseen] at hlook
          clear hseen
          go_wp2
          go_ret
          exact ⟨ret_b (B_false (HNO.out (fun hh => by have := (HI.out.1 hh).2.1; rw [HSE.out] at this; cases this))).symm, HBW.out⟩
        · have hseen' : seenS hs k x = false := by simpa using hseen
          have HSE := Lib.hid hseen'
          rw [hseen'] at hlook
          clear hseen hseen'
          go_wp2_with (fail)
          refine kS (in_any t l 2000 _) ?_ ?_
          · intro hin
            go_wp2_with (first
              | (at_mapUpdate; refine wpList_mapUpdate_own _ rfl _ _ _ 58 rfl 3 4 lawP Try.underlying58 _ (sb + 1) (k + 1) _ rfl HO2.out (by unfold maxLen; omega) _ _ _ rfl rfl (keyOf_int_mk Try.underlying3 (WalkArith.wf_i64 (by omega))) _ [] (plainElem_bool Try.underlying4 true) ?_; intro w3 hown3 hgrow3; have f1' : w3.cell? ⟨wo.heap.size, 1, none⟩ = some (.int .i64 t) := hgrow3.cell f1 (by simp; omega))
              | go_in)
            have HO3 := Lib.hid hown3
            have HS3 := Lib.hid (show w3.cell? ⟨sb, 0, none⟩ = some (.int .i64 p) ∧ w3.cell? ⟨sb, 1, none⟩ = some (.slice A n c) from ⟨hgrow3.cell s0' (by simp), hgrow3.cell s1' (by simp)⟩)
            have HBX := Lib.hid (HBW.out.grown hgrow3 HBW.out.size (fun j hj => by have := HSB.out; cases hj; omega))
            clear hgrow3 hown3 hlook f0 f1
            go_wp2
            go_roundw
            case rel =>
              refine ⟨k + 1, _, by omega, by go_num, by rw [HLT.out], HO3.out, (HSM.out.put x).congr fun n => (HSU.out n).symm, fun j hj => ?_, HS3.out.1, HS3.out.2, HBX.out⟩
              rcases Nat.lt_or_ge j k with h1 | h1
              · exact HU.out j h1
              · obtain rfl : j = k := by omega
                exact HI.out.2 ⟨hp.out, HSE.out, hin.out⟩
            case measure => simp [intOf]; omega
          · intro hin
            go_wp2
            go_ret
            exact ⟨ret_b (B_false (HNO.out (fun hh => hin.out (HI.out.1 hh).2.2))).symm, HBW.out⟩
      · intro w2 hp hb2
        go_wp2
        go_ret
        exact ⟨ret_b (B_false (HNO.out (fun hh => hp.out (HI.out.1 hh).1))).symm, (HB.out.trans (HB2.out.mono HB.out.size)).trans (hb2.mono (Nat.le_trans HB.out.size HB2.out.size))⟩
    · obtain rfl : k = m := by omega
      go_wp2_with (fail)
      refine kB (iFitsOk_any p A n c bs _ (HH.out.below HB.out)) ?_ ?_
      · intro w2 hf hb2
        go_wp2
        go_ret
        exact ⟨ret_b (B_true ⟨fun j hj => HU.out j (by rw [← HL.out]; exact hj), hf.out⟩).symm, HB.out.trans (hb2.mono HB.out.size)⟩
      · intro w2 hf hb2
        go_wp2
        go_ret
        exact ⟨ret_b (B_false (fun hh => hf.out hh.2)).symm, HB.out.trans (hb2.mono HB.out.size)⟩

end Go.Proofs.Ytpefimeogbpagaa
