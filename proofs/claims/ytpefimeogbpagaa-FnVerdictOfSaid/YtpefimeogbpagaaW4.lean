/- A plan with a further bound, by the reference: spec.WithBound. -/
import Derived.Test.YtpefimeogbpagaaRG
import Derived.Test.YtpefimeogbpagaaOB
import Derived.Test.YtpefimeogbpagaaS6
import Derived.Deep.RegionHeldLaw
import Derived.Deep.CutRange
import Derived.Deep.DrawnRows
set_option linter.unusedSimpArgs false
namespace Go.Proofs.Ytpefimeogbpagaa
open Go.RowKit
attribute [local go_sem ↓] Go.wp_at_zero Go.wp_at_succ

/-- What WithBound leaves. -/
def WbV (w : World) (p : Int) (n : Nat) (bs : List Bd) (b : Bd) (e : Ending) (w' : World) : Prop :=
  Below w.heap.size w w' ∧ ((PlOk p bs ∧ PlOk p (bs ++ [b]) ∧ ∃ A c, e = .returned (.tuple #[.agg #[.int .i64 p, .slice A (n + 1) c], .bool true]) ∧ OwnB w' w.heap.size A (n + 1) c (bs ++ [b])) ∨ (¬ (PlOk p bs ∧ PlOk p (bs ++ [b])) ∧ e = .returned (.tuple #[.agg #[.int .i64 0, .slice none 0 0], .bool false])))
theorem kWb {Pr : Program} {f : FuncId} {args : Array Value} {w : World} {K : Ending → World → Prop} {p : Int} {n : Nat} {bs : List Bd} {b : Bd} (h : Calls Pr f args w (WbV w p n bs b))
    (h1 : ∀ A c w', Hid (PlOk p (bs ++ [b])) → OwnB w' w.heap.size A (n + 1) c (bs ++ [b]) → Below w.heap.size w w' → K (.returned (.tuple #[.agg #[.int .i64 p, .slice A (n + 1) c], .bool true])) w')
    (h0 : ∀ w', Hid (¬ (PlOk p bs ∧ PlOk p (bs ++ [b]))) → Below w.heap.size w w' → K (.returned (.tuple #[.agg #[.int .i64 0, .slice none 0 0], .bool false])) w') : Calls Pr f args w K :=
  h.mono fun e w' ⟨hb, h⟩ => by
    rcases h with ⟨-, hf, A, c, he, ho⟩ | ⟨hf, he⟩
    · subst he; exact h1 A c w' hf ho hb
    · subst he; exact h0 w' hf hb
set_option maxRecDepth 100000 in
set_option maxHeartbeats 8000000 in
theorem WithBound_any (p : Int) (A : Option Addr) (n c : Nat) (bs : List Bd) (b : Bd) (w : World) (h : BndsAt w A n bs) (hn : n ≤ 1048575) :
    Calls Try.prog 55 #[.agg #[.int .i64 p, .slice A n c], .agg #[.int .i64 b.1, .int .i64 b.2.1, .int .i64 b.2.2]] w (WbV w p n bs b) := by
  have HLB := Lib.hid h.len
  have HNA := Lib.hid (show A = none → n = 0 from fun e => by
    rcases Nat.eq_zero_or_pos n with h0 | h0
    · exact h0
    · obtain ⟨b, off, e', _⟩ := h.cells h0; rw [e] at e'; cases e')
  obtain ⟨w0, HW0⟩ : ∃ q, Hid (((w.alloc (.cells #[.int .i64 p, .slice A n c] 25)).alloc (.cells #[.int .i64 b.1, .int .i64 b.2.1, .int .i64 b.2.2] 61)).alloc (.cells #[.int .i64 0, .slice none 0 0] 25) = q) := ⟨_, rfl⟩
  have hB0 : Below w.heap.size w w0 := HW0.out ▸ (((Below.refl w.heap.size w).alloc (Nat.le_refl _) _).alloc (by simp) _).alloc (by simp; omega) _
  have e0 : w0.cell? ⟨w.heap.size, 0, none⟩ = some (.int .i64 p) := HW0.out ▸ by simp [go_sem]
  have e1 : w0.cell? ⟨w.heap.size, 1, none⟩ = some (.slice A n c) := HW0.out ▸ by simp [go_sem]
  have s0 : w0.cell? ⟨w.heap.size + 1, 0, none⟩ = some (.int .i64 b.1) := HW0.out ▸ by simp [go_sem]
  have s1 : w0.cell? ⟨w.heap.size + 1, 1, none⟩ = some (.int .i64 b.2.1) := HW0.out ▸ by simp [go_sem]
  have s2 : w0.cell? ⟨w.heap.size + 1, 2, none⟩ = some (.int .i64 b.2.2) := HW0.out ▸ by simp [go_sem]
  have HRB := Lib.hid (show Blk w0 (w.heap.size + 2) 25 #[.int .i64 0, .slice none 0 0] from HW0.out ▸ Blk.at_new (by simp) _ _)
  have HH := Lib.hid (h.below hB0)
  have HBW := Lib.hid hB0
  clear h hB0
  go_enter Try.func55, Try.ntmps55
  go_wp2_with (fail)
  rw [HW0.out]
  obtain ⟨sb, HSB⟩ : ∃ q, Hid (w.heap.size = q) := ⟨_, rfl⟩
  rw [HSB.out] at e0 e1 s0 s1 s2 HRB ⊢
  obtain ⟨B0, HBB⟩ : ∃ q, Hid (w0.heap.size = q) := ⟨_, rfl⟩
  have R0 := Lib.hid (Reg.start (w0 := w0) HBB.out 61 3)
  have HS := Lib.hid (fun W' (hb : Below B0 w0 W') => show W'.cell? ⟨sb, 0, none⟩ = some (.int .i64 p) ∧ W'.cell? ⟨sb, 1, none⟩ = some (.slice A n c) ∧ W'.cell? ⟨sb + 1, 0, none⟩ = some (.int .i64 b.1) ∧ W'.cell? ⟨sb + 1, 1, none⟩ = some (.int .i64 b.2.1) ∧ W'.cell? ⟨sb + 1, 2, none⟩ = some (.int .i64 b.2.2) from ⟨keepB HBB.out hb e0, keepB HBB.out hb e1, keepB HBB.out hb s0, keepB HBB.out hb s1, keepB HBB.out hb s2⟩)
  have HNEW := Lib.hid (fun W' (hb : Below B0 w0 W') (ad : Addr) (e : A = some ad) => BndsAt.newsE (HH.out.below (show Below w0.heap.size w0 W' from HBB.out.symm ▸ hb)) e)
  go_cut [6] from 7 to 16 (fun s wx => ∃ (q : Nat) (A' : Option Addr) (c' : Nat), s = .pointer (some ⟨q, 0, none⟩) ∧ Reg w0 B0 wx 61 3 (some (.slice A' (n + 1) c', n + 1, v3 bs ++ v3 [b])) [(q, 25, #[.int .i64 p, .slice A' (n + 1) c'])])
  case first =>
    refine wp_region_held_drew (S := (fun w' => w'.cell? ⟨sb, 0, none⟩ = some (.int .i64 p) ∧ w'.cell? ⟨sb, 1, none⟩ = some (.slice A n c) ∧ w'.cell? ⟨sb + 1, 0, none⟩ = some (.int .i64 b.1) ∧ w'.cell? ⟨sb + 1, 1, none⟩ = some (.int .i64 b.2.1) ∧ w'.cell? ⟨sb + 1, 2, none⟩ = some (.int .i64 b.2.2))) (by kernel_rfl) ?_ (fun hHeld => ?_)
    · exact HS.out _ R0.out.drew.below
    refine wpAnyH_take (i := 0) (oi := _) (v := ?_) rfl (by kernel_rfl) (by kernel_rfl) (by kernel_rfl) (fun _ _ _ h => h) (Or.inl ⟨by kernel_rfl, ?_⟩) (by assumption) ?_
    rotate_left
    · (intro w hSw; (try dsimp only at hSw); go_simp; (try with_reducible rfl))
    try simp only [Act.put, List.getElem_toArray, List.getElem_cons_succ, List.getElem_cons_zero, List.setIfInBounds_toArray, List.set_cons_zero, List.set_cons_succ]
    refine wpAnyH_take (i := 1) (oi := _) (v := ?_) rfl (by kernel_rfl) (by kernel_rfl) (by kernel_rfl) (fun _ _ _ h => h) (Or.inl ⟨by kernel_rfl, ?_⟩) (by assumption) ?_
    rotate_left
    · (intro w hSw; (try dsimp only at hSw); go_simp; (try with_reducible rfl))
    try simp only [Act.put, List.getElem_toArray, List.getElem_cons_succ, List.getElem_cons_zero, List.setIfInBounds_toArray, List.set_cons_zero, List.set_cons_succ]
    refine wpAnyH_take (i := 3) (oi := _) (v := ?_) rfl (by kernel_rfl) (by kernel_rfl) (by kernel_rfl) (fun _ _ _ h => h) (Or.inl ⟨by kernel_rfl, ?_⟩) (by assumption) ?_
    rotate_left
    · (intro w hSw; (try dsimp only at hSw); go_simp; (try with_reducible rfl))
    try simp only [Act.put, List.getElem_toArray, List.getElem_cons_succ, List.getElem_cons_zero, List.setIfInBounds_toArray, List.set_cons_zero, List.set_cons_succ]
    refine wpAnyH_take (i := 4) (oi := _) (v := ?_) rfl (by kernel_rfl) (by kernel_rfl) (by kernel_rfl) (fun _ _ _ h => h) (Or.inl ⟨by kernel_rfl, ?_⟩) (by assumption) ?_
    rotate_left
    · (intro w hSw; (try dsimp only at hSw); go_simp; (try with_reducible rfl))
    try simp only [Act.put, List.getElem_toArray, List.getElem_cons_succ, List.getElem_cons_zero, List.setIfInBounds_toArray, List.set_cons_zero, List.set_cons_succ]
    refine wpAnyH_take (i := 6) (oi := _) (v := ?_) rfl (by kernel_rfl) (by kernel_rfl) (by kernel_rfl) (fun _ _ _ h => h) (Or.inl ⟨by kernel_rfl, ?_⟩) (by assumption) ?_
    rotate_left
    · (intro w hSw; (try dsimp only at hSw); go_simp; (try with_reducible rfl))
    try simp only [Act.put, List.getElem_toArray, List.getElem_cons_succ, List.getElem_cons_zero, List.setIfInBounds_toArray, List.set_cons_zero, List.set_cons_succ]
    refine wpAnyH_ready (rs := [2, 7, 10]) (by kernel_rfl) (by simp) ?_
    refine AllReadyH.cons (o := _) rfl (fun K hK => ?_) (AllReadyH.cons (o := _) rfl (fun K hK => ?_) (AllReadyH.cons (o := _) rfl (fun K hK => ?_) (AllReadyH.nil)))
    · have R1 := Lib.hid (R0.out.rowed (q := w0.heap.size) rfl)
      go_simp
      refine hK.out _ _ ?_ (fun hHeld => ?_)
      · exact HS.out _ R1.out.drew.below
      clear hK K
      try simp only [Act.put, List.getElem_toArray, List.getElem_cons_succ, List.getElem_cons_zero, List.setIfInBounds_toArray, List.set_cons_zero, List.set_cons_succ]
      refine wpAnyH_ready (rs := [5, 7, 10]) (by kernel_rfl) (by simp) ?_
      refine AllReadyH.cons (o := _) rfl (fun K hK => ?_) (AllReadyH.cons (o := _) rfl (fun K hK => ?_) (AllReadyH.cons (o := _) rfl (fun K hK => ?_) (AllReadyH.nil)))
      · refine step_appX rowB (by rfl) _ _ (by rfl) B0 _ 0 [] (by rfl) (show World.ownsRow (w0.alloc (.cells #[] 61)).drew B0 61 3 (.slice (some ⟨w0.heap.size, 0, none⟩) 0 0) 0 [] from R1.out.drew.own _ rfl) A n c (v3 bs) (by rfl) HNA.out (by rw [v3_len, HLB.out]) (HNEW.out _ R1.out.drew.below) (v3_one _) n (Nat.zero_add _) (v3 bs) (List.nil_append _) (by omega) R1.out.drew.b0 ?_
        intro A1 c1 wA hown1 hgrow1 hat1
        have R2 := Lib.hid (R1.out.drew.grown (r' := (.slice A1 n c1, n, (v3 bs))) hown1 hgrow1 hat1)
        clear hown1 hgrow1 hat1
        refine hK.out _ _ ?_ (fun hHeld => ?_)
        · exact HS.out _ R2.out.below
        clear hK K
        try simp only [Act.put, List.getElem_toArray, List.getElem_cons_succ, List.getElem_cons_zero, List.setIfInBounds_toArray, List.set_cons_zero, List.set_cons_succ]
        refine wpAnyH_ready (rs := [7, 10]) (by kernel_rfl) (by simp) ?_
        refine AllReadyH.cons (o := _) rfl (fun K hK => ?_) (AllReadyH.cons (o := _) rfl (fun K hK => ?_) (AllReadyH.nil))
        · have R3 := Lib.hid (R2.out.boxed (q := wA.heap.size) rfl #[.int .i64 b.1, .int .i64 b.2.1, .int .i64 b.2.2] 61)
          go_simp
          refine hK.out _ _ ?_ (fun hHeld => ?_)
          · exact HS.out _ R3.out.below
          clear hK K
          try simp only [Act.put, List.getElem_toArray, List.getElem_cons_succ, List.getElem_cons_zero, List.setIfInBounds_toArray, List.set_cons_zero, List.set_cons_succ]
          refine wpAnyH_ready (rs := [8, 10]) (by kernel_rfl) (by simp) ?_
          refine AllReadyH.cons (o := _) rfl (fun K hK => ?_) (AllReadyH.cons (o := _) rfl (fun K hK => ?_) (AllReadyH.nil))
          · refine step_appX rowB (by rfl) _ _ (by rfl) B0 _ n (v3 bs) (by rfl) (show World.ownsRow (wA.alloc (.cells #[.int .i64 b.1, .int .i64 b.2.1, .int .i64 b.2.2] 61)) B0 61 3 (.slice A1 n c1) n (v3 bs) from R3.out.own _ rfl) (some ⟨wA.heap.size, 0, none⟩) 1 1 (v3 [b]) (by rfl) (fun h => by cases h) (by rfl) (fun ad e => by cases e; exact R3.out.lit (.head _)) (v3_one _) (n + 1) rfl ((v3 bs) ++ (v3 [b])) rfl (by omega) R3.out.b0 ?_
            intro A2 c2 wB hown2 hgrow2 hat2
            have R4 := Lib.hid (R3.out.grown (r' := (.slice A2 (n + 1) c2, n + 1, (v3 bs) ++ (v3 [b]))) hown2 hgrow2 hat2)
            clear hown2 hgrow2 hat2
            refine hK.out _ _ ?_ (fun hHeld => ?_)
            · exact HS.out _ R4.out.below
            clear hK K
            try simp only [Act.put, List.getElem_toArray, List.getElem_cons_succ, List.getElem_cons_zero, List.setIfInBounds_toArray, List.set_cons_zero, List.set_cons_succ]
            refine wpAnyH_take (i := 9) (oi := _) (v := ?_) rfl (by kernel_rfl) (by kernel_rfl) (by kernel_rfl) (fun _ _ _ h => h) (Or.inl ⟨by kernel_rfl, ?_⟩) (by assumption) ?_
            rotate_left
            · (intro w hSw; (try dsimp only at hSw); go_simp; (try with_reducible rfl))
            try simp only [Act.put, List.getElem_toArray, List.getElem_cons_succ, List.getElem_cons_zero, List.setIfInBounds_toArray, List.set_cons_zero, List.set_cons_succ]
            refine wpAnyH_ready (rs := [10]) (by kernel_rfl) (by simp) ?_
            refine AllReadyH.cons (o := _) rfl (fun K hK => ?_) (AllReadyH.nil)
            have R5 := Lib.hid (R4.out.boxed (q := wB.heap.size) rfl #[.int .i64 0, .slice none 0 0] 25)
            go_simp
            refine hK.out _ _ ?_ (fun hHeld => ?_)
            · exact HS.out _ R5.out.below
            clear hK K
            try simp only [Act.put, List.getElem_toArray, List.getElem_cons_succ, List.getElem_cons_zero, List.setIfInBounds_toArray, List.set_cons_zero, List.set_cons_succ]
            refine wpAnyH_ready (rs := [11]) (by kernel_rfl) (by simp) ?_
            refine AllReadyH.cons (o := _) rfl (fun K hK => ?_) (AllReadyH.nil)
            have R6 := Lib.hid (R4.out.boxed (q := wB.heap.size) rfl #[.int .i64 p, .slice A2 (n + 1) c2] 25)
            go_simp
            refine hK.out _ _ ?_ (fun hHeld => ?_)
            · exact HS.out _ R6.out.below
            clear hK K
            try simp only [Act.put, List.getElem_toArray, List.getElem_cons_succ, List.getElem_cons_zero, List.setIfInBounds_toArray, List.set_cons_zero, List.set_cons_succ]
            refine wpAnyH_done (by kernel_rfl) ?_ _
            go_wp2_with fail
            go_meet
            exact ⟨_, A2, c2, rfl, R6.out.less (fun x hx => by obtain rfl := List.mem_singleton.1 hx; exact .head _)⟩
          · have R4 := Lib.hid (R3.out.boxed (q := wA.heap.size + 1) (by simp) #[.int .i64 0, .slice none 0 0] 25)
            go_simp
            refine hK.out _ _ ?_ (fun hHeld => ?_)
            · exact HS.out _ R4.out.below
            clear hK K
            try simp only [Act.put, List.getElem_toArray, List.getElem_cons_succ, List.getElem_cons_zero, List.setIfInBounds_toArray, List.set_cons_zero, List.set_cons_succ]
            refine wpAnyH_ready (rs := [8]) (by kernel_rfl) (by simp) ?_
            refine AllReadyH.cons (o := _) rfl (fun K hK => ?_) (AllReadyH.nil)
            refine step_appX rowB (by rfl) _ _ (by rfl) B0 _ n (v3 bs) (by rfl) (show World.ownsRow ((wA.alloc (.cells #[.int .i64 b.1, .int .i64 b.2.1, .int .i64 b.2.2] 61)).alloc (.cells #[.int .i64 0, .slice none 0 0] 25)) B0 61 3 (.slice A1 n c1) n (v3 bs) from R4.out.own _ rfl) (some ⟨wA.heap.size, 0, none⟩) 1 1 (v3 [b]) (by rfl) (fun h => by cases h) (by rfl) (fun ad e => by cases e; exact R4.out.lit (.tail _ (.head _))) (v3_one _) (n + 1) rfl ((v3 bs) ++ (v3 [b])) rfl (by omega) R4.out.b0 ?_
            intro A2 c2 wB hown2 hgrow2 hat2
            have R5 := Lib.hid (R4.out.grown (r' := (.slice A2 (n + 1) c2, n + 1, (v3 bs) ++ (v3 [b]))) hown2 hgrow2 hat2)
            clear hown2 hgrow2 hat2
            refine hK.out _ _ ?_ (fun hHeld => ?_)
            · exact HS.out _ R5.out.below
            clear hK K
            try simp only [Act.put, List.getElem_toArray, List.getElem_cons_succ, List.getElem_cons_zero, List.setIfInBounds_toArray, List.set_cons_zero, List.set_cons_succ]
            refine wpAnyH_take (i := 9) (oi := _) (v := ?_) rfl (by kernel_rfl) (by kernel_rfl) (by kernel_rfl) (fun _ _ _ h => h) (Or.inl ⟨by kernel_rfl, ?_⟩) (by assumption) ?_
            rotate_left
            · (intro w hSw; (try dsimp only at hSw); go_simp; (try with_reducible rfl))
            try simp only [Act.put, List.getElem_toArray, List.getElem_cons_succ, List.getElem_cons_zero, List.setIfInBounds_toArray, List.set_cons_zero, List.set_cons_succ]
            refine wpAnyH_ready (rs := [11]) (by kernel_rfl) (by simp) ?_
            refine AllReadyH.cons (o := _) rfl (fun K hK => ?_) (AllReadyH.nil)
            have t0 := (R5.out.cellAt (.head _) 0).trans rfl
            have u0 := R5.out.openAt (.head _) 0
            have t1 := (R5.out.cellAt (.head _) 1).trans rfl
            have u1 := R5.out.openAt (.head _) 1
            have hql := R5.out.ltAt (.head _)
            have R6 := Lib.hid (R5.out.set2 (.head _) (.int .i64 p) (.slice A2 (n + 1) c2))
            go_simp
            refine hK.out _ _ ?_ (fun hHeld => ?_)
            · exact HS.out _ R6.out.below
            clear hK K
            try simp only [Act.put, List.getElem_toArray, List.getElem_cons_succ, List.getElem_cons_zero, List.setIfInBounds_toArray, List.set_cons_zero, List.set_cons_succ]
            refine wpAnyH_done (by kernel_rfl) ?_ _
            go_wp2_with fail
            go_meet
            exact ⟨_, A2, c2, rfl, R6.out⟩
        · have R3 := Lib.hid (R2.out.boxed (q := wA.heap.size) rfl #[.int .i64 0, .slice none 0 0] 25)
          go_simp
          refine hK.out _ _ ?_ (fun hHeld => ?_)
          · exact HS.out _ R3.out.below
          clear hK K
          try simp only [Act.put, List.getElem_toArray, List.getElem_cons_succ, List.getElem_cons_zero, List.setIfInBounds_toArray, List.set_cons_zero, List.set_cons_succ]
          refine wpAnyH_ready (rs := [7]) (by kernel_rfl) (by simp) ?_
          refine AllReadyH.cons (o := _) rfl (fun K hK => ?_) (AllReadyH.nil)
          have R4 := Lib.hid (R3.out.boxed (q := wA.heap.size + 1) (by simp) #[.int .i64 b.1, .int .i64 b.2.1, .int .i64 b.2.2] 61)
          go_simp
          refine hK.out _ _ ?_ (fun hHeld => ?_)
          · exact HS.out _ R4.out.below
          clear hK K
          try simp only [Act.put, List.getElem_toArray, List.getElem_cons_succ, List.getElem_cons_zero, List.setIfInBounds_toArray, List.set_cons_zero, List.set_cons_succ]
          refine wpAnyH_ready (rs := [8]) (by kernel_rfl) (by simp) ?_
          refine AllReadyH.cons (o := _) rfl (fun K hK => ?_) (AllReadyH.nil)
          refine step_appX rowB (by rfl) _ _ (by rfl) B0 _ n (v3 bs) (by rfl) (show World.ownsRow ((wA.alloc (.cells #[.int .i64 0, .slice none 0 0] 25)).alloc (.cells #[.int .i64 b.1, .int .i64 b.2.1, .int .i64 b.2.2] 61)) B0 61 3 (.slice A1 n c1) n (v3 bs) from R4.out.own _ rfl) (some ⟨wA.heap.size + 1, 0, none⟩) 1 1 (v3 [b]) (by rfl) (fun h => by cases h) (by rfl) (fun ad e => by cases e; exact R4.out.lit (.head _)) (v3_one _) (n + 1) rfl ((v3 bs) ++ (v3 [b])) rfl (by omega) R4.out.b0 ?_
          intro A2 c2 wB hown2 hgrow2 hat2
          have R5 := Lib.hid (R4.out.grown (r' := (.slice A2 (n + 1) c2, n + 1, (v3 bs) ++ (v3 [b]))) hown2 hgrow2 hat2)
          clear hown2 hgrow2 hat2
          refine hK.out _ _ ?_ (fun hHeld => ?_)
          · exact HS.out _ R5.out.below
          clear hK K
          try simp only [Act.put, List.getElem_toArray, List.getElem_cons_succ, List.getElem_cons_zero, List.setIfInBounds_toArray, List.set_cons_zero, List.set_cons_succ]
          refine wpAnyH_take (i := 9) (oi := _) (v := ?_) rfl (by kernel_rfl) (by kernel_rfl) (by kernel_rfl) (fun _ _ _ h => h) (Or.inl ⟨by kernel_rfl, ?_⟩) (by assumption) ?_
          rotate_left
          · (intro w hSw; (try dsimp only at hSw); go_simp; (try with_reducible rfl))
          try simp only [Act.put, List.getElem_toArray, List.getElem_cons_succ, List.getElem_cons_zero, List.setIfInBounds_toArray, List.set_cons_zero, List.set_cons_succ]
          refine wpAnyH_ready (rs := [11]) (by kernel_rfl) (by simp) ?_
          refine AllReadyH.cons (o := _) rfl (fun K hK => ?_) (AllReadyH.nil)
          have t0 := (R5.out.cellAt (.tail _ (.head _)) 0).trans rfl
          have u0 := R5.out.openAt (.tail _ (.head _)) 0
          have t1 := (R5.out.cellAt (.tail _ (.head _)) 1).trans rfl
          have u1 := R5.out.openAt (.tail _ (.head _)) 1
          have hql := R5.out.ltAt (.tail _ (.head _))
          have R6 := Lib.hid (R5.out.set2 (.tail _ (.head _)) (.int .i64 p) (.slice A2 (n + 1) c2))
          go_simp
          refine hK.out _ _ ?_ (fun hHeld => ?_)
          · exact HS.out _ R6.out.below
          clear hK K
          try simp only [Act.put, List.getElem_toArray, List.getElem_cons_succ, List.getElem_cons_zero, List.setIfInBounds_toArray, List.set_cons_zero, List.set_cons_succ]
          refine wpAnyH_done (by kernel_rfl) ?_ _
          go_wp2_with fail
          go_meet
          exact ⟨_, A2, c2, rfl, R6.out⟩
      · have R2 := Lib.hid (R1.out.boxed (q := w0.heap.size + 1) (by simp) #[.int .i64 b.1, .int .i64 b.2.1, .int .i64 b.2.2] 61)
        go_simp
        refine hK.out _ _ ?_ (fun hHeld => ?_)
        · exact HS.out _ R2.out.drew.below
        clear hK K
        try simp only [Act.put, List.getElem_toArray, List.getElem_cons_succ, List.getElem_cons_zero, List.setIfInBounds_toArray, List.set_cons_zero, List.set_cons_succ]
        refine wpAnyH_ready (rs := [5, 10]) (by kernel_rfl) (by simp) ?_
        refine AllReadyH.cons (o := _) rfl (fun K hK => ?_) (AllReadyH.cons (o := _) rfl (fun K hK => ?_) (AllReadyH.nil))
        · refine step_appX rowB (by rfl) _ _ (by rfl) B0 _ 0 [] (by rfl) (show World.ownsRow ((w0.alloc (.cells #[] 61)).alloc (.cells #[.int .i64 b.1, .int .i64 b.2.1, .int .i64 b.2.2] 61)).drew B0 61 3 (.slice (some ⟨w0.heap.size, 0, none⟩) 0 0) 0 [] from R2.out.drew.own _ rfl) A n c (v3 bs) (by rfl) HNA.out (by rw [v3_len, HLB.out]) (HNEW.out _ R2.out.drew.below) (v3_one _) n (Nat.zero_add _) (v3 bs) (List.nil_append _) (by omega) R2.out.drew.b0 ?_
          intro A1 c1 wA hown1 hgrow1 hat1
          have R3 := Lib.hid (R2.out.drew.grown (r' := (.slice A1 n c1, n, (v3 bs))) hown1 hgrow1 hat1)
          clear hown1 hgrow1 hat1
          refine hK.out _ _ ?_ (fun hHeld => ?_)
          · exact HS.out _ R3.out.below
          clear hK K
          try simp only [Act.put, List.getElem_toArray, List.getElem_cons_succ, List.getElem_cons_zero, List.setIfInBounds_toArray, List.set_cons_zero, List.set_cons_succ]
          refine wpAnyH_ready (rs := [8, 10]) (by kernel_rfl) (by simp) ?_
          refine AllReadyH.cons (o := _) rfl (fun K hK => ?_) (AllReadyH.cons (o := _) rfl (fun K hK => ?_) (AllReadyH.nil))
          · refine step_appX rowB (by rfl) _ _ (by rfl) B0 _ n (v3 bs) (by rfl) (show World.ownsRow wA B0 61 3 (.slice A1 n c1) n (v3 bs) from R3.out.own _ rfl) (some ⟨w0.heap.size + 1, 0, none⟩) 1 1 (v3 [b]) (by rfl) (fun h => by cases h) (by rfl) (fun ad e => by cases e; exact R3.out.lit (.head _)) (v3_one _) (n + 1) rfl ((v3 bs) ++ (v3 [b])) rfl (by omega) R3.out.b0 ?_
            intro A2 c2 wB hown2 hgrow2 hat2
            have R4 := Lib.hid (R3.out.grown (r' := (.slice A2 (n + 1) c2, n + 1, (v3 bs) ++ (v3 [b]))) hown2 hgrow2 hat2)
            clear hown2 hgrow2 hat2
            refine hK.out _ _ ?_ (fun hHeld => ?_)
            · exact HS.out _ R4.out.below
            clear hK K
            try simp only [Act.put, List.getElem_toArray, List.getElem_cons_succ, List.getElem_cons_zero, List.setIfInBounds_toArray, List.set_cons_zero, List.set_cons_succ]
            refine wpAnyH_take (i := 9) (oi := _) (v := ?_) rfl (by kernel_rfl) (by kernel_rfl) (by kernel_rfl) (fun _ _ _ h => h) (Or.inl ⟨by kernel_rfl, ?_⟩) (by assumption) ?_
            rotate_left
            · (intro w hSw; (try dsimp only at hSw); go_simp; (try with_reducible rfl))
            try simp only [Act.put, List.getElem_toArray, List.getElem_cons_succ, List.getElem_cons_zero, List.setIfInBounds_toArray, List.set_cons_zero, List.set_cons_succ]
            refine wpAnyH_ready (rs := [10]) (by kernel_rfl) (by simp) ?_
            refine AllReadyH.cons (o := _) rfl (fun K hK => ?_) (AllReadyH.nil)
            have R5 := Lib.hid (R4.out.boxed (q := wB.heap.size) rfl #[.int .i64 0, .slice none 0 0] 25)
            go_simp
            refine hK.out _ _ ?_ (fun hHeld => ?_)
            · exact HS.out _ R5.out.below
            clear hK K
            try simp only [Act.put, List.getElem_toArray, List.getElem_cons_succ, List.getElem_cons_zero, List.setIfInBounds_toArray, List.set_cons_zero, List.set_cons_succ]
            refine wpAnyH_ready (rs := [11]) (by kernel_rfl) (by simp) ?_
            refine AllReadyH.cons (o := _) rfl (fun K hK => ?_) (AllReadyH.nil)
            have R6 := Lib.hid (R4.out.boxed (q := wB.heap.size) rfl #[.int .i64 p, .slice A2 (n + 1) c2] 25)
            go_simp
            refine hK.out _ _ ?_ (fun hHeld => ?_)
            · exact HS.out _ R6.out.below
            clear hK K
            try simp only [Act.put, List.getElem_toArray, List.getElem_cons_succ, List.getElem_cons_zero, List.setIfInBounds_toArray, List.set_cons_zero, List.set_cons_succ]
            refine wpAnyH_done (by kernel_rfl) ?_ _
            go_wp2_with fail
            go_meet
            exact ⟨_, A2, c2, rfl, R6.out.less (fun x hx => by obtain rfl := List.mem_singleton.1 hx; exact .head _)⟩
          · have R4 := Lib.hid (R3.out.boxed (q := wA.heap.size) rfl #[.int .i64 0, .slice none 0 0] 25)
            go_simp
            refine hK.out _ _ ?_ (fun hHeld => ?_)
            · exact HS.out _ R4.out.below
            clear hK K
            try simp only [Act.put, List.getElem_toArray, List.getElem_cons_succ, List.getElem_cons_zero, List.setIfInBounds_toArray, List.set_cons_zero, List.set_cons_succ]
            refine wpAnyH_ready (rs := [8]) (by kernel_rfl) (by simp) ?_
            refine AllReadyH.cons (o := _) rfl (fun K hK => ?_) (AllReadyH.nil)
            refine step_appX rowB (by rfl) _ _ (by rfl) B0 _ n (v3 bs) (by rfl) (show World.ownsRow (wA.alloc (.cells #[.int .i64 0, .slice none 0 0] 25)) B0 61 3 (.slice A1 n c1) n (v3 bs) from R4.out.own _ rfl) (some ⟨w0.heap.size + 1, 0, none⟩) 1 1 (v3 [b]) (by rfl) (fun h => by cases h) (by rfl) (fun ad e => by cases e; exact R4.out.lit (.tail _ (.head _))) (v3_one _) (n + 1) rfl ((v3 bs) ++ (v3 [b])) rfl (by omega) R4.out.b0 ?_
            intro A2 c2 wB hown2 hgrow2 hat2
            have R5 := Lib.hid (R4.out.grown (r' := (.slice A2 (n + 1) c2, n + 1, (v3 bs) ++ (v3 [b]))) hown2 hgrow2 hat2)
            clear hown2 hgrow2 hat2
            refine hK.out _ _ ?_ (fun hHeld => ?_)
            · exact HS.out _ R5.out.below
            clear hK K
            try simp only [Act.put, List.getElem_toArray, List.getElem_cons_succ, List.getElem_cons_zero, List.setIfInBounds_toArray, List.set_cons_zero, List.set_cons_succ]
            refine wpAnyH_take (i := 9) (oi := _) (v := ?_) rfl (by kernel_rfl) (by kernel_rfl) (by kernel_rfl) (fun _ _ _ h => h) (Or.inl ⟨by kernel_rfl, ?_⟩) (by assumption) ?_
            rotate_left
            · (intro w hSw; (try dsimp only at hSw); go_simp; (try with_reducible rfl))
            try simp only [Act.put, List.getElem_toArray, List.getElem_cons_succ, List.getElem_cons_zero, List.setIfInBounds_toArray, List.set_cons_zero, List.set_cons_succ]
            refine wpAnyH_ready (rs := [11]) (by kernel_rfl) (by simp) ?_
            refine AllReadyH.cons (o := _) rfl (fun K hK => ?_) (AllReadyH.nil)
            have t0 := (R5.out.cellAt (.head _) 0).trans rfl
            have u0 := R5.out.openAt (.head _) 0
            have t1 := (R5.out.cellAt (.head _) 1).trans rfl
            have u1 := R5.out.openAt (.head _) 1
            have hql := R5.out.ltAt (.head _)
            have R6 := Lib.hid (R5.out.set2 (.head _) (.int .i64 p) (.slice A2 (n + 1) c2))
            go_simp
            refine hK.out _ _ ?_ (fun hHeld => ?_)
            · exact HS.out _ R6.out.below
            clear hK K
            try simp only [Act.put, List.getElem_toArray, List.getElem_cons_succ, List.getElem_cons_zero, List.setIfInBounds_toArray, List.set_cons_zero, List.set_cons_succ]
            refine wpAnyH_done (by kernel_rfl) ?_ _
            go_wp2_with fail
            go_meet
            exact ⟨_, A2, c2, rfl, R6.out⟩
        · have R3 := Lib.hid (R2.out.boxed (q := w0.heap.size + 2) (by simp) #[.int .i64 0, .slice none 0 0] 25)
          go_simp
          refine hK.out _ _ ?_ (fun hHeld => ?_)
          · exact HS.out _ R3.out.drew.below
          clear hK K
          try simp only [Act.put, List.getElem_toArray, List.getElem_cons_succ, List.getElem_cons_zero, List.setIfInBounds_toArray, List.set_cons_zero, List.set_cons_succ]
          refine wpAnyH_ready (rs := [5]) (by kernel_rfl) (by simp) ?_
          refine AllReadyH.cons (o := _) rfl (fun K hK => ?_) (AllReadyH.nil)
          refine step_appX rowB (by rfl) _ _ (by rfl) B0 _ 0 [] (by rfl) (show World.ownsRow (((w0.alloc (.cells #[] 61)).alloc (.cells #[.int .i64 b.1, .int .i64 b.2.1, .int .i64 b.2.2] 61)).alloc (.cells #[.int .i64 0, .slice none 0 0] 25)).drew B0 61 3 (.slice (some ⟨w0.heap.size, 0, none⟩) 0 0) 0 [] from R3.out.drew.own _ rfl) A n c (v3 bs) (by rfl) HNA.out (by rw [v3_len, HLB.out]) (HNEW.out _ R3.out.drew.below) (v3_one _) n (Nat.zero_add _) (v3 bs) (List.nil_append _) (by omega) R3.out.drew.b0 ?_
          intro A1 c1 wA hown1 hgrow1 hat1
          have R4 := Lib.hid (R3.out.drew.grown (r' := (.slice A1 n c1, n, (v3 bs))) hown1 hgrow1 hat1)
          clear hown1 hgrow1 hat1
          refine hK.out _ _ ?_ (fun hHeld => ?_)
          · exact HS.out _ R4.out.below
          clear hK K
          try simp only [Act.put, List.getElem_toArray, List.getElem_cons_succ, List.getElem_cons_zero, List.setIfInBounds_toArray, List.set_cons_zero, List.set_cons_succ]
          refine wpAnyH_ready (rs := [8]) (by kernel_rfl) (by simp) ?_
          refine AllReadyH.cons (o := _) rfl (fun K hK => ?_) (AllReadyH.nil)
          refine step_appX rowB (by rfl) _ _ (by rfl) B0 _ n (v3 bs) (by rfl) (show World.ownsRow wA B0 61 3 (.slice A1 n c1) n (v3 bs) from R4.out.own _ rfl) (some ⟨w0.heap.size + 1, 0, none⟩) 1 1 (v3 [b]) (by rfl) (fun h => by cases h) (by rfl) (fun ad e => by cases e; exact R4.out.lit (.tail _ (.head _))) (v3_one _) (n + 1) rfl ((v3 bs) ++ (v3 [b])) rfl (by omega) R4.out.b0 ?_
          intro A2 c2 wB hown2 hgrow2 hat2
          have R5 := Lib.hid (R4.out.grown (r' := (.slice A2 (n + 1) c2, n + 1, (v3 bs) ++ (v3 [b]))) hown2 hgrow2 hat2)
          clear hown2 hgrow2 hat2
          refine hK.out _ _ ?_ (fun hHeld => ?_)
          · exact HS.out _ R5.out.below
          clear hK K
          try simp only [Act.put, List.getElem_toArray, List.getElem_cons_succ, List.getElem_cons_zero, List.setIfInBounds_toArray, List.set_cons_zero, List.set_cons_succ]
          refine wpAnyH_take (i := 9) (oi := _) (v := ?_) rfl (by kernel_rfl) (by kernel_rfl) (by kernel_rfl) (fun _ _ _ h => h) (Or.inl ⟨by kernel_rfl, ?_⟩) (by assumption) ?_
          rotate_left
          · (intro w hSw; (try dsimp only at hSw); go_simp; (try with_reducible rfl))
          try simp only [Act.put, List.getElem_toArray, List.getElem_cons_succ, List.getElem_cons_zero, List.setIfInBounds_toArray, List.set_cons_zero, List.set_cons_succ]
          refine wpAnyH_ready (rs := [11]) (by kernel_rfl) (by simp) ?_
          refine AllReadyH.cons (o := _) rfl (fun K hK => ?_) (AllReadyH.nil)
          have t0 := (R5.out.cellAt (.head _) 0).trans rfl
          have u0 := R5.out.openAt (.head _) 0
          have t1 := (R5.out.cellAt (.head _) 1).trans rfl
          have u1 := R5.out.openAt (.head _) 1
          have hql := R5.out.ltAt (.head _)
          have R6 := Lib.hid (R5.out.set2 (.head _) (.int .i64 p) (.slice A2 (n + 1) c2))
          go_simp
          refine hK.out _ _ ?_ (fun hHeld => ?_)
          · exact HS.out _ R6.out.below
          clear hK K
          try simp only [Act.put, List.getElem_toArray, List.getElem_cons_succ, List.getElem_cons_zero, List.setIfInBounds_toArray, List.set_cons_zero, List.set_cons_succ]
          refine wpAnyH_done (by kernel_rfl) ?_ _
          go_wp2_with fail
          go_meet
          exact ⟨_, A2, c2, rfl, R6.out⟩
      · have R2 := Lib.hid (R1.out.boxed (q := w0.heap.size + 1) (by simp) #[.int .i64 0, .slice none 0 0] 25)
        go_simp
        refine hK.out _ _ ?_ (fun hHeld => ?_)
        · exact HS.out _ R2.out.drew.below
        clear hK K
        try simp only [Act.put, List.getElem_toArray, List.getElem_cons_succ, List.getElem_cons_zero, List.setIfInBounds_toArray, List.set_cons_zero, List.set_cons_succ]
        refine wpAnyH_ready (rs := [5, 7]) (by kernel_rfl) (by simp) ?_
        refine AllReadyH.cons (o := _) rfl (fun K hK => ?_) (AllReadyH.cons (o := _) rfl (fun K hK => ?_) (AllReadyH.nil))
        · refine step_appX rowB (by rfl) _ _ (by rfl) B0 _ 0 [] (by rfl) (show World.ownsRow ((w0.alloc (.cells #[] 61)).alloc (.cells #[.int .i64 0, .slice none 0 0] 25)).drew B0 61 3 (.slice (some ⟨w0.heap.size, 0, none⟩) 0 0) 0 [] from R2.out.drew.own _ rfl) A n c (v3 bs) (by rfl) HNA.out (by rw [v3_len, HLB.out]) (HNEW.out _ R2.out.drew.below) (v3_one _) n (Nat.zero_add _) (v3 bs) (List.nil_append _) (by omega) R2.out.drew.b0 ?_
          intro A1 c1 wA hown1 hgrow1 hat1
          have R3 := Lib.hid (R2.out.drew.grown (r' := (.slice A1 n c1, n, (v3 bs))) hown1 hgrow1 hat1)
          clear hown1 hgrow1 hat1
          refine hK.out _ _ ?_ (fun hHeld => ?_)
          · exact HS.out _ R3.out.below
          clear hK K
          try simp only [Act.put, List.getElem_toArray, List.getElem_cons_succ, List.getElem_cons_zero, List.setIfInBounds_toArray, List.set_cons_zero, List.set_cons_succ]
          refine wpAnyH_ready (rs := [7]) (by kernel_rfl) (by simp) ?_
          refine AllReadyH.cons (o := _) rfl (fun K hK => ?_) (AllReadyH.nil)
          have R4 := Lib.hid (R3.out.boxed (q := wA.heap.size) rfl #[.int .i64 b.1, .int .i64 b.2.1, .int .i64 b.2.2] 61)
          go_simp
          refine hK.out _ _ ?_ (fun hHeld => ?_)
          · exact HS.out _ R4.out.below
          clear hK K
          try simp only [Act.put, List.getElem_toArray, List.getElem_cons_succ, List.getElem_cons_zero, List.setIfInBounds_toArray, List.set_cons_zero, List.set_cons_succ]
          refine wpAnyH_ready (rs := [8]) (by kernel_rfl) (by simp) ?_
          refine AllReadyH.cons (o := _) rfl (fun K hK => ?_) (AllReadyH.nil)
          refine step_appX rowB (by rfl) _ _ (by rfl) B0 _ n (v3 bs) (by rfl) (show World.ownsRow (wA.alloc (.cells #[.int .i64 b.1, .int .i64 b.2.1, .int .i64 b.2.2] 61)) B0 61 3 (.slice A1 n c1) n (v3 bs) from R4.out.own _ rfl) (some ⟨wA.heap.size, 0, none⟩) 1 1 (v3 [b]) (by rfl) (fun h => by cases h) (by rfl) (fun ad e => by cases e; exact R4.out.lit (.head _)) (v3_one _) (n + 1) rfl ((v3 bs) ++ (v3 [b])) rfl (by omega) R4.out.b0 ?_
          intro A2 c2 wB hown2 hgrow2 hat2
          have R5 := Lib.hid (R4.out.grown (r' := (.slice A2 (n + 1) c2, n + 1, (v3 bs) ++ (v3 [b]))) hown2 hgrow2 hat2)
          clear hown2 hgrow2 hat2
          refine hK.out _ _ ?_ (fun hHeld => ?_)
          · exact HS.out _ R5.out.below
          clear hK K
          try simp only [Act.put, List.getElem_toArray, List.getElem_cons_succ, List.getElem_cons_zero, List.setIfInBounds_toArray, List.set_cons_zero, List.set_cons_succ]
          refine wpAnyH_take (i := 9) (oi := _) (v := ?_) rfl (by kernel_rfl) (by kernel_rfl) (by kernel_rfl) (fun _ _ _ h => h) (Or.inl ⟨by kernel_rfl, ?_⟩) (by assumption) ?_
          rotate_left
          · (intro w hSw; (try dsimp only at hSw); go_simp; (try with_reducible rfl))
          try simp only [Act.put, List.getElem_toArray, List.getElem_cons_succ, List.getElem_cons_zero, List.setIfInBounds_toArray, List.set_cons_zero, List.set_cons_succ]
          refine wpAnyH_ready (rs := [11]) (by kernel_rfl) (by simp) ?_
          refine AllReadyH.cons (o := _) rfl (fun K hK => ?_) (AllReadyH.nil)
          have t0 := (R5.out.cellAt (.tail _ (.head _)) 0).trans rfl
          have u0 := R5.out.openAt (.tail _ (.head _)) 0
          have t1 := (R5.out.cellAt (.tail _ (.head _)) 1).trans rfl
          have u1 := R5.out.openAt (.tail _ (.head _)) 1
          have hql := R5.out.ltAt (.tail _ (.head _))
          have R6 := Lib.hid (R5.out.set2 (.tail _ (.head _)) (.int .i64 p) (.slice A2 (n + 1) c2))
          go_simp
          refine hK.out _ _ ?_ (fun hHeld => ?_)
          · exact HS.out _ R6.out.below
          clear hK K
          try simp only [Act.put, List.getElem_toArray, List.getElem_cons_succ, List.getElem_cons_zero, List.setIfInBounds_toArray, List.set_cons_zero, List.set_cons_succ]
          refine wpAnyH_done (by kernel_rfl) ?_ _
          go_wp2_with fail
          go_meet
          exact ⟨_, A2, c2, rfl, R6.out⟩
        · have R3 := Lib.hid (R2.out.boxed (q := w0.heap.size + 2) (by simp) #[.int .i64 b.1, .int .i64 b.2.1, .int .i64 b.2.2] 61)
          go_simp
          refine hK.out _ _ ?_ (fun hHeld => ?_)
          · exact HS.out _ R3.out.drew.below
          clear hK K
          try simp only [Act.put, List.getElem_toArray, List.getElem_cons_succ, List.getElem_cons_zero, List.setIfInBounds_toArray, List.set_cons_zero, List.set_cons_succ]
          refine wpAnyH_ready (rs := [5]) (by kernel_rfl) (by simp) ?_
          refine AllReadyH.cons (o := _) rfl (fun K hK => ?_) (AllReadyH.nil)
          refine step_appX rowB (by rfl) _ _ (by rfl) B0 _ 0 [] (by rfl) (show World.ownsRow (((w0.alloc (.cells #[] 61)).alloc (.cells #[.int .i64 0, .slice none 0 0] 25)).alloc (.cells #[.int .i64 b.1, .int .i64 b.2.1, .int .i64 b.2.2] 61)).drew B0 61 3 (.slice (some ⟨w0.heap.size, 0, none⟩) 0 0) 0 [] from R3.out.drew.own _ rfl) A n c (v3 bs) (by rfl) HNA.out (by rw [v3_len, HLB.out]) (HNEW.out _ R3.out.drew.below) (v3_one _) n (Nat.zero_add _) (v3 bs) (List.nil_append _) (by omega) R3.out.drew.b0 ?_
          intro A1 c1 wA hown1 hgrow1 hat1
          have R4 := Lib.hid (R3.out.drew.grown (r' := (.slice A1 n c1, n, (v3 bs))) hown1 hgrow1 hat1)
          clear hown1 hgrow1 hat1
          refine hK.out _ _ ?_ (fun hHeld => ?_)
          · exact HS.out _ R4.out.below
          clear hK K
          try simp only [Act.put, List.getElem_toArray, List.getElem_cons_succ, List.getElem_cons_zero, List.setIfInBounds_toArray, List.set_cons_zero, List.set_cons_succ]
          refine wpAnyH_ready (rs := [8]) (by kernel_rfl) (by simp) ?_
          refine AllReadyH.cons (o := _) rfl (fun K hK => ?_) (AllReadyH.nil)
          refine step_appX rowB (by rfl) _ _ (by rfl) B0 _ n (v3 bs) (by rfl) (show World.ownsRow wA B0 61 3 (.slice A1 n c1) n (v3 bs) from R4.out.own _ rfl) (some ⟨w0.heap.size + 2, 0, none⟩) 1 1 (v3 [b]) (by rfl) (fun h => by cases h) (by rfl) (fun ad e => by cases e; exact R4.out.lit (.head _)) (v3_one _) (n + 1) rfl ((v3 bs) ++ (v3 [b])) rfl (by omega) R4.out.b0 ?_
          intro A2 c2 wB hown2 hgrow2 hat2
          have R5 := Lib.hid (R4.out.grown (r' := (.slice A2 (n + 1) c2, n + 1, (v3 bs) ++ (v3 [b]))) hown2 hgrow2 hat2)
          clear hown2 hgrow2 hat2
          refine hK.out _ _ ?_ (fun hHeld => ?_)
          · exact HS.out _ R5.out.below
          clear hK K
          try simp only [Act.put, List.getElem_toArray, List.getElem_cons_succ, List.getElem_cons_zero, List.setIfInBounds_toArray, List.set_cons_zero, List.set_cons_succ]
          refine wpAnyH_take (i := 9) (oi := _) (v := ?_) rfl (by kernel_rfl) (by kernel_rfl) (by kernel_rfl) (fun _ _ _ h => h) (Or.inl ⟨by kernel_rfl, ?_⟩) (by assumption) ?_
          rotate_left
          · (intro w hSw; (try dsimp only at hSw); go_simp; (try with_reducible rfl))
          try simp only [Act.put, List.getElem_toArray, List.getElem_cons_succ, List.getElem_cons_zero, List.setIfInBounds_toArray, List.set_cons_zero, List.set_cons_succ]
          refine wpAnyH_ready (rs := [11]) (by kernel_rfl) (by simp) ?_
          refine AllReadyH.cons (o := _) rfl (fun K hK => ?_) (AllReadyH.nil)
          have t0 := (R5.out.cellAt (.tail _ (.head _)) 0).trans rfl
          have u0 := R5.out.openAt (.tail _ (.head _)) 0
          have t1 := (R5.out.cellAt (.tail _ (.head _)) 1).trans rfl
          have u1 := R5.out.openAt (.tail _ (.head _)) 1
          have hql := R5.out.ltAt (.tail _ (.head _))
          have R6 := Lib.hid (R5.out.set2 (.tail _ (.head _)) (.int .i64 p) (.slice A2 (n + 1) c2))
          go_simp
          refine hK.out _ _ ?_ (fun hHeld => ?_)
          · exact HS.out _ R6.out.below
          clear hK K
          try simp only [Act.put, List.getElem_toArray, List.getElem_cons_succ, List.getElem_cons_zero, List.setIfInBounds_toArray, List.set_cons_zero, List.set_cons_succ]
          refine wpAnyH_done (by kernel_rfl) ?_ _
          go_wp2_with fail
          go_meet
          exact ⟨_, A2, c2, rfl, R6.out⟩
    · have R1 := Lib.hid (R0.out.boxed (q := w0.heap.size) rfl #[.int .i64 b.1, .int .i64 b.2.1, .int .i64 b.2.2] 61)
      go_simp
      refine hK.out _ _ ?_ (fun hHeld => ?_)
      · exact HS.out _ R1.out.drew.below
      clear hK K
      try simp only [Act.put, List.getElem_toArray, List.getElem_cons_succ, List.getElem_cons_zero, List.setIfInBounds_toArray, List.set_cons_zero, List.set_cons_succ]
      refine wpAnyH_ready (rs := [2, 10]) (by kernel_rfl) (by simp) ?_
      refine AllReadyH.cons (o := _) rfl (fun K hK => ?_) (AllReadyH.cons (o := _) rfl (fun K hK => ?_) (AllReadyH.nil))
      · have R2 := Lib.hid (R1.out.rowed (q := w0.heap.size + 1) (by simp))
        go_simp
        refine hK.out _ _ ?_ (fun hHeld => ?_)
        · exact HS.out _ R2.out.drew.below
        clear hK K
        try simp only [Act.put, List.getElem_toArray, List.getElem_cons_succ, List.getElem_cons_zero, List.setIfInBounds_toArray, List.set_cons_zero, List.set_cons_succ]
        refine wpAnyH_ready (rs := [5, 10]) (by kernel_rfl) (by simp) ?_
        refine AllReadyH.cons (o := _) rfl (fun K hK => ?_) (AllReadyH.cons (o := _) rfl (fun K hK => ?_) (AllReadyH.nil))
        · refine step_appX rowB (by rfl) _ _ (by rfl) B0 _ 0 [] (by rfl) (show World.ownsRow ((w0.alloc (.cells #[.int .i64 b.1, .int .i64 b.2.1, .int .i64 b.2.2] 61)).alloc (.cells #[] 61)).drew B0 61 3 (.slice (some ⟨w0.heap.size + 1, 0, none⟩) 0 0) 0 [] from R2.out.drew.own _ rfl) A n c (v3 bs) (by rfl) HNA.out (by rw [v3_len, HLB.out]) (HNEW.out _ R2.out.drew.below) (v3_one _) n (Nat.zero_add _) (v3 bs) (List.nil_append _) (by omega) R2.out.drew.b0 ?_
          intro A1 c1 wA hown1 hgrow1 hat1
          have R3 := Lib.hid (R2.out.drew.grown (r' := (.slice A1 n c1, n, (v3 bs))) hown1 hgrow1 hat1)
          clear hown1 hgrow1 hat1
          refine hK.out _ _ ?_ (fun hHeld => ?_)
          · exact HS.out _ R3.out.below
          clear hK K
          try simp only [Act.put, List.getElem_toArray, List.getElem_cons_succ, List.getElem_cons_zero, List.setIfInBounds_toArray, List.set_cons_zero, List.set_cons_succ]
          refine wpAnyH_ready (rs := [8, 10]) (by kernel_rfl) (by simp) ?_
          refine AllReadyH.cons (o := _) rfl (fun K hK => ?_) (AllReadyH.cons (o := _) rfl (fun K hK => ?_) (AllReadyH.nil))
          · refine step_appX rowB (by rfl) _ _ (by rfl) B0 _ n (v3 bs) (by rfl) (show World.ownsRow wA B0 61 3 (.slice A1 n c1) n (v3 bs) from R3.out.own _ rfl) (some ⟨w0.heap.size, 0, none⟩) 1 1 (v3 [b]) (by rfl) (fun h => by cases h) (by rfl) (fun ad e => by cases e; exact R3.out.lit (.head _)) (v3_one _) (n + 1) rfl ((v3 bs) ++ (v3 [b])) rfl (by omega) R3.out.b0 ?_
            intro A2 c2 wB hown2 hgrow2 hat2
            have R4 := Lib.hid (R3.out.grown (r' := (.slice A2 (n + 1) c2, n + 1, (v3 bs) ++ (v3 [b]))) hown2 hgrow2 hat2)
            clear hown2 hgrow2 hat2
            refine hK.out _ _ ?_ (fun hHeld => ?_)
            · exact HS.out _ R4.out.below
            clear hK K
            try simp only [Act.put, List.getElem_toArray, List.getElem_cons_succ, List.getElem_cons_zero, List.setIfInBounds_toArray, List.set_cons_zero, List.set_cons_succ]
            refine wpAnyH_take (i := 9) (oi := _) (v := ?_) rfl (by kernel_rfl) (by kernel_rfl) (by kernel_rfl) (fun _ _ _ h => h) (Or.inl ⟨by kernel_rfl, ?_⟩) (by assumption) ?_
            rotate_left
            · (intro w hSw; (try dsimp only at hSw); go_simp; (try with_reducible rfl))
            try simp only [Act.put, List.getElem_toArray, List.getElem_cons_succ, List.getElem_cons_zero, List.setIfInBounds_toArray, List.set_cons_zero, List.set_cons_succ]
            refine wpAnyH_ready (rs := [10]) (by kernel_rfl) (by simp) ?_
            refine AllReadyH.cons (o := _) rfl (fun K hK => ?_) (AllReadyH.nil)
            have R5 := Lib.hid (R4.out.boxed (q := wB.heap.size) rfl #[.int .i64 0, .slice none 0 0] 25)
            go_simp
            refine hK.out _ _ ?_ (fun hHeld => ?_)
            · exact HS.out _ R5.out.below
            clear hK K
            try simp only [Act.put, List.getElem_toArray, List.getElem_cons_succ, List.getElem_cons_zero, List.setIfInBounds_toArray, List.set_cons_zero, List.set_cons_succ]
            refine wpAnyH_ready (rs := [11]) (by kernel_rfl) (by simp) ?_
            refine AllReadyH.cons (o := _) rfl (fun K hK => ?_) (AllReadyH.nil)
            have R6 := Lib.hid (R4.out.boxed (q := wB.heap.size) rfl #[.int .i64 p, .slice A2 (n + 1) c2] 25)
            go_simp
            refine hK.out _ _ ?_ (fun hHeld => ?_)
            · exact HS.out _ R6.out.below
            clear hK K
            try simp only [Act.put, List.getElem_toArray, List.getElem_cons_succ, List.getElem_cons_zero, List.setIfInBounds_toArray, List.set_cons_zero, List.set_cons_succ]
            refine wpAnyH_done (by kernel_rfl) ?_ _
            go_wp2_with fail
            go_meet
            exact ⟨_, A2, c2, rfl, R6.out.less (fun x hx => by obtain rfl := List.mem_singleton.1 hx; exact .head _)⟩
          · have R4 := Lib.hid (R3.out.boxed (q := wA.heap.size) rfl #[.int .i64 0, .slice none 0 0] 25)
            go_simp
            refine hK.out _ _ ?_ (fun hHeld => ?_)
            · exact HS.out _ R4.out.below
            clear hK K
            try simp only [Act.put, List.getElem_toArray, List.getElem_cons_succ, List.getElem_cons_zero, List.setIfInBounds_toArray, List.set_cons_zero, List.set_cons_succ]
            refine wpAnyH_ready (rs := [8]) (by kernel_rfl) (by simp) ?_
            refine AllReadyH.cons (o := _) rfl (fun K hK => ?_) (AllReadyH.nil)
            refine step_appX rowB (by rfl) _ _ (by rfl) B0 _ n (v3 bs) (by rfl) (show World.ownsRow (wA.alloc (.cells #[.int .i64 0, .slice none 0 0] 25)) B0 61 3 (.slice A1 n c1) n (v3 bs) from R4.out.own _ rfl) (some ⟨w0.heap.size, 0, none⟩) 1 1 (v3 [b]) (by rfl) (fun h => by cases h) (by rfl) (fun ad e => by cases e; exact R4.out.lit (.tail _ (.head _))) (v3_one _) (n + 1) rfl ((v3 bs) ++ (v3 [b])) rfl (by omega) R4.out.b0 ?_
            intro A2 c2 wB hown2 hgrow2 hat2
            have R5 := Lib.hid (R4.out.grown (r' := (.slice A2 (n + 1) c2, n + 1, (v3 bs) ++ (v3 [b]))) hown2 hgrow2 hat2)
            clear hown2 hgrow2 hat2
            refine hK.out _ _ ?_ (fun hHeld => ?_)
            · exact HS.out _ R5.out.below
            clear hK K
            try simp only [Act.put, List.getElem_toArray, List.getElem_cons_succ, List.getElem_cons_zero, List.setIfInBounds_toArray, List.set_cons_zero, List.set_cons_succ]
            refine wpAnyH_take (i := 9) (oi := _) (v := ?_) rfl (by kernel_rfl) (by kernel_rfl) (by kernel_rfl) (fun _ _ _ h => h) (Or.inl ⟨by kernel_rfl, ?_⟩) (by assumption) ?_
            rotate_left
            · (intro w hSw; (try dsimp only at hSw); go_simp; (try with_reducible rfl))
            try simp only [Act.put, List.getElem_toArray, List.getElem_cons_succ, List.getElem_cons_zero, List.setIfInBounds_toArray, List.set_cons_zero, List.set_cons_succ]
            refine wpAnyH_ready (rs := [11]) (by kernel_rfl) (by simp) ?_
            refine AllReadyH.cons (o := _) rfl (fun K hK => ?_) (AllReadyH.nil)
            have t0 := (R5.out.cellAt (.head _) 0).trans rfl
            have u0 := R5.out.openAt (.head _) 0
            have t1 := (R5.out.cellAt (.head _) 1).trans rfl
            have u1 := R5.out.openAt (.head _) 1
            have hql := R5.out.ltAt (.head _)
            have R6 := Lib.hid (R5.out.set2 (.head _) (.int .i64 p) (.slice A2 (n + 1) c2))
            go_simp
            refine hK.out _ _ ?_ (fun hHeld => ?_)
            · exact HS.out _ R6.out.below
            clear hK K
            try simp only [Act.put, List.getElem_toArray, List.getElem_cons_succ, List.getElem_cons_zero, List.setIfInBounds_toArray, List.set_cons_zero, List.set_cons_succ]
            refine wpAnyH_done (by kernel_rfl) ?_ _
            go_wp2_with fail
            go_meet
            exact ⟨_, A2, c2, rfl, R6.out⟩
        · have R3 := Lib.hid (R2.out.boxed (q := w0.heap.size + 2) (by simp) #[.int .i64 0, .slice none 0 0] 25)
          go_simp
          refine hK.out _ _ ?_ (fun hHeld => ?_)
          · exact HS.out _ R3.out.drew.below
          clear hK K
          try simp only [Act.put, List.getElem_toArray, List.getElem_cons_succ, List.getElem_cons_zero, List.setIfInBounds_toArray, List.set_cons_zero, List.set_cons_succ]
          refine wpAnyH_ready (rs := [5]) (by kernel_rfl) (by simp) ?_
          refine AllReadyH.cons (o := _) rfl (fun K hK => ?_) (AllReadyH.nil)
          refine step_appX rowB (by rfl) _ _ (by rfl) B0 _ 0 [] (by rfl) (show World.ownsRow (((w0.alloc (.cells #[.int .i64 b.1, .int .i64 b.2.1, .int .i64 b.2.2] 61)).alloc (.cells #[] 61)).alloc (.cells #[.int .i64 0, .slice none 0 0] 25)).drew B0 61 3 (.slice (some ⟨w0.heap.size + 1, 0, none⟩) 0 0) 0 [] from R3.out.drew.own _ rfl) A n c (v3 bs) (by rfl) HNA.out (by rw [v3_len, HLB.out]) (HNEW.out _ R3.out.drew.below) (v3_one _) n (Nat.zero_add _) (v3 bs) (List.nil_append _) (by omega) R3.out.drew.b0 ?_
          intro A1 c1 wA hown1 hgrow1 hat1
          have R4 := Lib.hid (R3.out.drew.grown (r' := (.slice A1 n c1, n, (v3 bs))) hown1 hgrow1 hat1)
          clear hown1 hgrow1 hat1
          refine hK.out _ _ ?_ (fun hHeld => ?_)
          · exact HS.out _ R4.out.below
          clear hK K
          try simp only [Act.put, List.getElem_toArray, List.getElem_cons_succ, List.getElem_cons_zero, List.setIfInBounds_toArray, List.set_cons_zero, List.set_cons_succ]
          refine wpAnyH_ready (rs := [8]) (by kernel_rfl) (by simp) ?_
          refine AllReadyH.cons (o := _) rfl (fun K hK => ?_) (AllReadyH.nil)
          refine step_appX rowB (by rfl) _ _ (by rfl) B0 _ n (v3 bs) (by rfl) (show World.ownsRow wA B0 61 3 (.slice A1 n c1) n (v3 bs) from R4.out.own _ rfl) (some ⟨w0.heap.size, 0, none⟩) 1 1 (v3 [b]) (by rfl) (fun h => by cases h) (by rfl) (fun ad e => by cases e; exact R4.out.lit (.tail _ (.head _))) (v3_one _) (n + 1) rfl ((v3 bs) ++ (v3 [b])) rfl (by omega) R4.out.b0 ?_
          intro A2 c2 wB hown2 hgrow2 hat2
          have R5 := Lib.hid (R4.out.grown (r' := (.slice A2 (n + 1) c2, n + 1, (v3 bs) ++ (v3 [b]))) hown2 hgrow2 hat2)
          clear hown2 hgrow2 hat2
          refine hK.out _ _ ?_ (fun hHeld => ?_)
          · exact HS.out _ R5.out.below
          clear hK K
          try simp only [Act.put, List.getElem_toArray, List.getElem_cons_succ, List.getElem_cons_zero, List.setIfInBounds_toArray, List.set_cons_zero, List.set_cons_succ]
          refine wpAnyH_take (i := 9) (oi := _) (v := ?_) rfl (by kernel_rfl) (by kernel_rfl) (by kernel_rfl) (fun _ _ _ h => h) (Or.inl ⟨by kernel_rfl, ?_⟩) (by assumption) ?_
          rotate_left
          · (intro w hSw; (try dsimp only at hSw); go_simp; (try with_reducible rfl))
          try simp only [Act.put, List.getElem_toArray, List.getElem_cons_succ, List.getElem_cons_zero, List.setIfInBounds_toArray, List.set_cons_zero, List.set_cons_succ]
          refine wpAnyH_ready (rs := [11]) (by kernel_rfl) (by simp) ?_
          refine AllReadyH.cons (o := _) rfl (fun K hK => ?_) (AllReadyH.nil)
          have t0 := (R5.out.cellAt (.head _) 0).trans rfl
          have u0 := R5.out.openAt (.head _) 0
          have t1 := (R5.out.cellAt (.head _) 1).trans rfl
          have u1 := R5.out.openAt (.head _) 1
          have hql := R5.out.ltAt (.head _)
          have R6 := Lib.hid (R5.out.set2 (.head _) (.int .i64 p) (.slice A2 (n + 1) c2))
          go_simp
          refine hK.out _ _ ?_ (fun hHeld => ?_)
          · exact HS.out _ R6.out.below
          clear hK K
          try simp only [Act.put, List.getElem_toArray, List.getElem_cons_succ, List.getElem_cons_zero, List.setIfInBounds_toArray, List.set_cons_zero, List.set_cons_succ]
          refine wpAnyH_done (by kernel_rfl) ?_ _
          go_wp2_with fail
          go_meet
          exact ⟨_, A2, c2, rfl, R6.out⟩
      · have R2 := Lib.hid (R1.out.boxed (q := w0.heap.size + 1) (by simp) #[.int .i64 0, .slice none 0 0] 25)
        go_simp
        refine hK.out _ _ ?_ (fun hHeld => ?_)
        · exact HS.out _ R2.out.drew.below
        clear hK K
        try simp only [Act.put, List.getElem_toArray, List.getElem_cons_succ, List.getElem_cons_zero, List.setIfInBounds_toArray, List.set_cons_zero, List.set_cons_succ]
        refine wpAnyH_ready (rs := [2]) (by kernel_rfl) (by simp) ?_
        refine AllReadyH.cons (o := _) rfl (fun K hK => ?_) (AllReadyH.nil)
        have R3 := Lib.hid (R2.out.rowed (q := w0.heap.size + 2) (by simp))
        go_simp
        refine hK.out _ _ ?_ (fun hHeld => ?_)
        · exact HS.out _ R3.out.drew.below
        clear hK K
        try simp only [Act.put, List.getElem_toArray, List.getElem_cons_succ, List.getElem_cons_zero, List.setIfInBounds_toArray, List.set_cons_zero, List.set_cons_succ]
        refine wpAnyH_ready (rs := [5]) (by kernel_rfl) (by simp) ?_
        refine AllReadyH.cons (o := _) rfl (fun K hK => ?_) (AllReadyH.nil)
        refine step_appX rowB (by rfl) _ _ (by rfl) B0 _ 0 [] (by rfl) (show World.ownsRow (((w0.alloc (.cells #[.int .i64 b.1, .int .i64 b.2.1, .int .i64 b.2.2] 61)).alloc (.cells #[.int .i64 0, .slice none 0 0] 25)).alloc (.cells #[] 61)).drew B0 61 3 (.slice (some ⟨w0.heap.size + 2, 0, none⟩) 0 0) 0 [] from R3.out.drew.own _ rfl) A n c (v3 bs) (by rfl) HNA.out (by rw [v3_len, HLB.out]) (HNEW.out _ R3.out.drew.below) (v3_one _) n (Nat.zero_add _) (v3 bs) (List.nil_append _) (by omega) R3.out.drew.b0 ?_
        intro A1 c1 wA hown1 hgrow1 hat1
        have R4 := Lib.hid (R3.out.drew.grown (r' := (.slice A1 n c1, n, (v3 bs))) hown1 hgrow1 hat1)
        clear hown1 hgrow1 hat1
        refine hK.out _ _ ?_ (fun hHeld => ?_)
        · exact HS.out _ R4.out.below
        clear hK K
        try simp only [Act.put, List.getElem_toArray, List.getElem_cons_succ, List.getElem_cons_zero, List.setIfInBounds_toArray, List.set_cons_zero, List.set_cons_succ]
        refine wpAnyH_ready (rs := [8]) (by kernel_rfl) (by simp) ?_
        refine AllReadyH.cons (o := _) rfl (fun K hK => ?_) (AllReadyH.nil)
        refine step_appX rowB (by rfl) _ _ (by rfl) B0 _ n (v3 bs) (by rfl) (show World.ownsRow wA B0 61 3 (.slice A1 n c1) n (v3 bs) from R4.out.own _ rfl) (some ⟨w0.heap.size, 0, none⟩) 1 1 (v3 [b]) (by rfl) (fun h => by cases h) (by rfl) (fun ad e => by cases e; exact R4.out.lit (.tail _ (.head _))) (v3_one _) (n + 1) rfl ((v3 bs) ++ (v3 [b])) rfl (by omega) R4.out.b0 ?_
        intro A2 c2 wB hown2 hgrow2 hat2
        have R5 := Lib.hid (R4.out.grown (r' := (.slice A2 (n + 1) c2, n + 1, (v3 bs) ++ (v3 [b]))) hown2 hgrow2 hat2)
        clear hown2 hgrow2 hat2
        refine hK.out _ _ ?_ (fun hHeld => ?_)
        · exact HS.out _ R5.out.below
        clear hK K
        try simp only [Act.put, List.getElem_toArray, List.getElem_cons_succ, List.getElem_cons_zero, List.setIfInBounds_toArray, List.set_cons_zero, List.set_cons_succ]
        refine wpAnyH_take (i := 9) (oi := _) (v := ?_) rfl (by kernel_rfl) (by kernel_rfl) (by kernel_rfl) (fun _ _ _ h => h) (Or.inl ⟨by kernel_rfl, ?_⟩) (by assumption) ?_
        rotate_left
        · (intro w hSw; (try dsimp only at hSw); go_simp; (try with_reducible rfl))
        try simp only [Act.put, List.getElem_toArray, List.getElem_cons_succ, List.getElem_cons_zero, List.setIfInBounds_toArray, List.set_cons_zero, List.set_cons_succ]
        refine wpAnyH_ready (rs := [11]) (by kernel_rfl) (by simp) ?_
        refine AllReadyH.cons (o := _) rfl (fun K hK => ?_) (AllReadyH.nil)
        have t0 := (R5.out.cellAt (.head _) 0).trans rfl
        have u0 := R5.out.openAt (.head _) 0
        have t1 := (R5.out.cellAt (.head _) 1).trans rfl
        have u1 := R5.out.openAt (.head _) 1
        have hql := R5.out.ltAt (.head _)
        have R6 := Lib.hid (R5.out.set2 (.head _) (.int .i64 p) (.slice A2 (n + 1) c2))
        go_simp
        refine hK.out _ _ ?_ (fun hHeld => ?_)
        · exact HS.out _ R6.out.below
        clear hK K
        try simp only [Act.put, List.getElem_toArray, List.getElem_cons_succ, List.getElem_cons_zero, List.setIfInBounds_toArray, List.set_cons_zero, List.set_cons_succ]
        refine wpAnyH_done (by kernel_rfl) ?_ _
        go_wp2_with fail
        go_meet
        exact ⟨_, A2, c2, rfl, R6.out⟩
    · have R1 := Lib.hid (R0.out.boxed (q := w0.heap.size) rfl #[.int .i64 0, .slice none 0 0] 25)
      go_simp
      refine hK.out _ _ ?_ (fun hHeld => ?_)
      · exact HS.out _ R1.out.drew.below
      clear hK K
      try simp only [Act.put, List.getElem_toArray, List.getElem_cons_succ, List.getElem_cons_zero, List.setIfInBounds_toArray, List.set_cons_zero, List.set_cons_succ]
      refine wpAnyH_ready (rs := [2, 7]) (by kernel_rfl) (by simp) ?_
      refine AllReadyH.cons (o := _) rfl (fun K hK => ?_) (AllReadyH.cons (o := _) rfl (fun K hK => ?_) (AllReadyH.nil))
      · have R2 := Lib.hid (R1.out.rowed (q := w0.heap.size + 1) (by simp))
        go_simp
        refine hK.out _ _ ?_ (fun hHeld => ?_)
        · exact HS.out _ R2.out.drew.below
        clear hK K
        try simp only [Act.put, List.getElem_toArray, List.getElem_cons_succ, List.getElem_cons_zero, List.setIfInBounds_toArray, List.set_cons_zero, List.set_cons_succ]
        refine wpAnyH_ready (rs := [5, 7]) (by kernel_rfl) (by simp) ?_
        refine AllReadyH.cons (o := _) rfl (fun K hK => ?_) (AllReadyH.cons (o := _) rfl (fun K hK => ?_) (AllReadyH.nil))
        · refine step_appX rowB (by rfl) _ _ (by rfl) B0 _ 0 [] (by rfl) (show World.ownsRow ((w0.alloc (.cells #[.int .i64 0, .slice none 0 0] 25)).alloc (.cells #[] 61)).drew B0 61 3 (.slice (some ⟨w0.heap.size + 1, 0, none⟩) 0 0) 0 [] from R2.out.drew.own _ rfl) A n c (v3 bs) (by rfl) HNA.out (by rw [v3_len, HLB.out]) (HNEW.out _ R2.out.drew.below) (v3_one _) n (Nat.zero_add _) (v3 bs) (List.nil_append _) (by omega) R2.out.drew.b0 ?_
          intro A1 c1 wA hown1 hgrow1 hat1
          have R3 := Lib.hid (R2.out.drew.grown (r' := (.slice A1 n c1, n, (v3 bs))) hown1 hgrow1 hat1)
          clear hown1 hgrow1 hat1
          refine hK.out _ _ ?_ (fun hHeld => ?_)
          · exact HS.out _ R3.out.below
          clear hK K
          try simp only [Act.put, List.getElem_toArray, List.getElem_cons_succ, List.getElem_cons_zero, List.setIfInBounds_toArray, List.set_cons_zero, List.set_cons_succ]
          refine wpAnyH_ready (rs := [7]) (by kernel_rfl) (by simp) ?_
          refine AllReadyH.cons (o := _) rfl (fun K hK => ?_) (AllReadyH.nil)
          have R4 := Lib.hid (R3.out.boxed (q := wA.heap.size) rfl #[.int .i64 b.1, .int .i64 b.2.1, .int .i64 b.2.2] 61)
          go_simp
          refine hK.out _ _ ?_ (fun hHeld => ?_)
          · exact HS.out _ R4.out.below
          clear hK K
          try simp only [Act.put, List.getElem_toArray, List.getElem_cons_succ, List.getElem_cons_zero, List.setIfInBounds_toArray, List.set_cons_zero, List.set_cons_succ]
          refine wpAnyH_ready (rs := [8]) (by kernel_rfl) (by simp) ?_
          refine AllReadyH.cons (o := _) rfl (fun K hK => ?_) (AllReadyH.nil)
          refine step_appX rowB (by rfl) _ _ (by rfl) B0 _ n (v3 bs) (by rfl) (show World.ownsRow (wA.alloc (.cells #[.int .i64 b.1, .int .i64 b.2.1, .int .i64 b.2.2] 61)) B0 61 3 (.slice A1 n c1) n (v3 bs) from R4.out.own _ rfl) (some ⟨wA.heap.size, 0, none⟩) 1 1 (v3 [b]) (by rfl) (fun h => by cases h) (by rfl) (fun ad e => by cases e; exact R4.out.lit (.head _)) (v3_one _) (n + 1) rfl ((v3 bs) ++ (v3 [b])) rfl (by omega) R4.out.b0 ?_
          intro A2 c2 wB hown2 hgrow2 hat2
          have R5 := Lib.hid (R4.out.grown (r' := (.slice A2 (n + 1) c2, n + 1, (v3 bs) ++ (v3 [b]))) hown2 hgrow2 hat2)
          clear hown2 hgrow2 hat2
          refine hK.out _ _ ?_ (fun hHeld => ?_)
          · exact HS.out _ R5.out.below
          clear hK K
          try simp only [Act.put, List.getElem_toArray, List.getElem_cons_succ, List.getElem_cons_zero, List.setIfInBounds_toArray, List.set_cons_zero, List.set_cons_succ]
          refine wpAnyH_take (i := 9) (oi := _) (v := ?_) rfl (by kernel_rfl) (by kernel_rfl) (by kernel_rfl) (fun _ _ _ h => h) (Or.inl ⟨by kernel_rfl, ?_⟩) (by assumption) ?_
          rotate_left
          · (intro w hSw; (try dsimp only at hSw); go_simp; (try with_reducible rfl))
          try simp only [Act.put, List.getElem_toArray, List.getElem_cons_succ, List.getElem_cons_zero, List.setIfInBounds_toArray, List.set_cons_zero, List.set_cons_succ]
          refine wpAnyH_ready (rs := [11]) (by kernel_rfl) (by simp) ?_
          refine AllReadyH.cons (o := _) rfl (fun K hK => ?_) (AllReadyH.nil)
          have t0 := (R5.out.cellAt (.tail _ (.head _)) 0).trans rfl
          have u0 := R5.out.openAt (.tail _ (.head _)) 0
          have t1 := (R5.out.cellAt (.tail _ (.head _)) 1).trans rfl
          have u1 := R5.out.openAt (.tail _ (.head _)) 1
          have hql := R5.out.ltAt (.tail _ (.head _))
          have R6 := Lib.hid (R5.out.set2 (.tail _ (.head _)) (.int .i64 p) (.slice A2 (n + 1) c2))
          go_simp
          refine hK.out _ _ ?_ (fun hHeld => ?_)
          · exact HS.out _ R6.out.below
          clear hK K
          try simp only [Act.put, List.getElem_toArray, List.getElem_cons_succ, List.getElem_cons_zero, List.setIfInBounds_toArray, List.set_cons_zero, List.set_cons_succ]
          refine wpAnyH_done (by kernel_rfl) ?_ _
          go_wp2_with fail
          go_meet
          exact ⟨_, A2, c2, rfl, R6.out⟩
        · have R3 := Lib.hid (R2.out.boxed (q := w0.heap.size + 2) (by simp) #[.int .i64 b.1, .int .i64 b.2.1, .int .i64 b.2.2] 61)
          go_simp
          refine hK.out _ _ ?_ (fun hHeld => ?_)
          · exact HS.out _ R3.out.drew.below
          clear hK K
          try simp only [Act.put, List.getElem_toArray, List.getElem_cons_succ, List.getElem_cons_zero, List.setIfInBounds_toArray, List.set_cons_zero, List.set_cons_succ]
          refine wpAnyH_ready (rs := [5]) (by kernel_rfl) (by simp) ?_
          refine AllReadyH.cons (o := _) rfl (fun K hK => ?_) (AllReadyH.nil)
          refine step_appX rowB (by rfl) _ _ (by rfl) B0 _ 0 [] (by rfl) (show World.ownsRow (((w0.alloc (.cells #[.int .i64 0, .slice none 0 0] 25)).alloc (.cells #[] 61)).alloc (.cells #[.int .i64 b.1, .int .i64 b.2.1, .int .i64 b.2.2] 61)).drew B0 61 3 (.slice (some ⟨w0.heap.size + 1, 0, none⟩) 0 0) 0 [] from R3.out.drew.own _ rfl) A n c (v3 bs) (by rfl) HNA.out (by rw [v3_len, HLB.out]) (HNEW.out _ R3.out.drew.below) (v3_one _) n (Nat.zero_add _) (v3 bs) (List.nil_append _) (by omega) R3.out.drew.b0 ?_
          intro A1 c1 wA hown1 hgrow1 hat1
          have R4 := Lib.hid (R3.out.drew.grown (r' := (.slice A1 n c1, n, (v3 bs))) hown1 hgrow1 hat1)
          clear hown1 hgrow1 hat1
          refine hK.out _ _ ?_ (fun hHeld => ?_)
          · exact HS.out _ R4.out.below
          clear hK K
          try simp only [Act.put, List.getElem_toArray, List.getElem_cons_succ, List.getElem_cons_zero, List.setIfInBounds_toArray, List.set_cons_zero, List.set_cons_succ]
          refine wpAnyH_ready (rs := [8]) (by kernel_rfl) (by simp) ?_
          refine AllReadyH.cons (o := _) rfl (fun K hK => ?_) (AllReadyH.nil)
          refine step_appX rowB (by rfl) _ _ (by rfl) B0 _ n (v3 bs) (by rfl) (show World.ownsRow wA B0 61 3 (.slice A1 n c1) n (v3 bs) from R4.out.own _ rfl) (some ⟨w0.heap.size + 2, 0, none⟩) 1 1 (v3 [b]) (by rfl) (fun h => by cases h) (by rfl) (fun ad e => by cases e; exact R4.out.lit (.head _)) (v3_one _) (n + 1) rfl ((v3 bs) ++ (v3 [b])) rfl (by omega) R4.out.b0 ?_
          intro A2 c2 wB hown2 hgrow2 hat2
          have R5 := Lib.hid (R4.out.grown (r' := (.slice A2 (n + 1) c2, n + 1, (v3 bs) ++ (v3 [b]))) hown2 hgrow2 hat2)
          clear hown2 hgrow2 hat2
          refine hK.out _ _ ?_ (fun hHeld => ?_)
          · exact HS.out _ R5.out.below
          clear hK K
          try simp only [Act.put, List.getElem_toArray, List.getElem_cons_succ, List.getElem_cons_zero, List.setIfInBounds_toArray, List.set_cons_zero, List.set_cons_succ]
          refine wpAnyH_take (i := 9) (oi := _) (v := ?_) rfl (by kernel_rfl) (by kernel_rfl) (by kernel_rfl) (fun _ _ _ h => h) (Or.inl ⟨by kernel_rfl, ?_⟩) (by assumption) ?_
          rotate_left
          · (intro w hSw; (try dsimp only at hSw); go_simp; (try with_reducible rfl))
          try simp only [Act.put, List.getElem_toArray, List.getElem_cons_succ, List.getElem_cons_zero, List.setIfInBounds_toArray, List.set_cons_zero, List.set_cons_succ]
          refine wpAnyH_ready (rs := [11]) (by kernel_rfl) (by simp) ?_
          refine AllReadyH.cons (o := _) rfl (fun K hK => ?_) (AllReadyH.nil)
          have t0 := (R5.out.cellAt (.tail _ (.head _)) 0).trans rfl
          have u0 := R5.out.openAt (.tail _ (.head _)) 0
          have t1 := (R5.out.cellAt (.tail _ (.head _)) 1).trans rfl
          have u1 := R5.out.openAt (.tail _ (.head _)) 1
          have hql := R5.out.ltAt (.tail _ (.head _))
          have R6 := Lib.hid (R5.out.set2 (.tail _ (.head _)) (.int .i64 p) (.slice A2 (n + 1) c2))
          go_simp
          refine hK.out _ _ ?_ (fun hHeld => ?_)
          · exact HS.out _ R6.out.below
          clear hK K
          try simp only [Act.put, List.getElem_toArray, List.getElem_cons_succ, List.getElem_cons_zero, List.setIfInBounds_toArray, List.set_cons_zero, List.set_cons_succ]
          refine wpAnyH_done (by kernel_rfl) ?_ _
          go_wp2_with fail
          go_meet
          exact ⟨_, A2, c2, rfl, R6.out⟩
      · have R2 := Lib.hid (R1.out.boxed (q := w0.heap.size + 1) (by simp) #[.int .i64 b.1, .int .i64 b.2.1, .int .i64 b.2.2] 61)
        go_simp
        refine hK.out _ _ ?_ (fun hHeld => ?_)
        · exact HS.out _ R2.out.drew.below
        clear hK K
        try simp only [Act.put, List.getElem_toArray, List.getElem_cons_succ, List.getElem_cons_zero, List.setIfInBounds_toArray, List.set_cons_zero, List.set_cons_succ]
        refine wpAnyH_ready (rs := [2]) (by kernel_rfl) (by simp) ?_
        refine AllReadyH.cons (o := _) rfl (fun K hK => ?_) (AllReadyH.nil)
        have R3 := Lib.hid (R2.out.rowed (q := w0.heap.size + 2) (by simp))
        go_simp
        refine hK.out _ _ ?_ (fun hHeld => ?_)
        · exact HS.out _ R3.out.drew.below
        clear hK K
        try simp only [Act.put, List.getElem_toArray, List.getElem_cons_succ, List.getElem_cons_zero, List.setIfInBounds_toArray, List.set_cons_zero, List.set_cons_succ]
        refine wpAnyH_ready (rs := [5]) (by kernel_rfl) (by simp) ?_
        refine AllReadyH.cons (o := _) rfl (fun K hK => ?_) (AllReadyH.nil)
        refine step_appX rowB (by rfl) _ _ (by rfl) B0 _ 0 [] (by rfl) (show World.ownsRow (((w0.alloc (.cells #[.int .i64 0, .slice none 0 0] 25)).alloc (.cells #[.int .i64 b.1, .int .i64 b.2.1, .int .i64 b.2.2] 61)).alloc (.cells #[] 61)).drew B0 61 3 (.slice (some ⟨w0.heap.size + 2, 0, none⟩) 0 0) 0 [] from R3.out.drew.own _ rfl) A n c (v3 bs) (by rfl) HNA.out (by rw [v3_len, HLB.out]) (HNEW.out _ R3.out.drew.below) (v3_one _) n (Nat.zero_add _) (v3 bs) (List.nil_append _) (by omega) R3.out.drew.b0 ?_
        intro A1 c1 wA hown1 hgrow1 hat1
        have R4 := Lib.hid (R3.out.drew.grown (r' := (.slice A1 n c1, n, (v3 bs))) hown1 hgrow1 hat1)
        clear hown1 hgrow1 hat1
        refine hK.out _ _ ?_ (fun hHeld => ?_)
        · exact HS.out _ R4.out.below
        clear hK K
        try simp only [Act.put, List.getElem_toArray, List.getElem_cons_succ, List.getElem_cons_zero, List.setIfInBounds_toArray, List.set_cons_zero, List.set_cons_succ]
        refine wpAnyH_ready (rs := [8]) (by kernel_rfl) (by simp) ?_
        refine AllReadyH.cons (o := _) rfl (fun K hK => ?_) (AllReadyH.nil)
        refine step_appX rowB (by rfl) _ _ (by rfl) B0 _ n (v3 bs) (by rfl) (show World.ownsRow wA B0 61 3 (.slice A1 n c1) n (v3 bs) from R4.out.own _ rfl) (some ⟨w0.heap.size + 1, 0, none⟩) 1 1 (v3 [b]) (by rfl) (fun h => by cases h) (by rfl) (fun ad e => by cases e; exact R4.out.lit (.head _)) (v3_one _) (n + 1) rfl ((v3 bs) ++ (v3 [b])) rfl (by omega) R4.out.b0 ?_
        intro A2 c2 wB hown2 hgrow2 hat2
        have R5 := Lib.hid (R4.out.grown (r' := (.slice A2 (n + 1) c2, n + 1, (v3 bs) ++ (v3 [b]))) hown2 hgrow2 hat2)
        clear hown2 hgrow2 hat2
        refine hK.out _ _ ?_ (fun hHeld => ?_)
        · exact HS.out _ R5.out.below
        clear hK K
        try simp only [Act.put, List.getElem_toArray, List.getElem_cons_succ, List.getElem_cons_zero, List.setIfInBounds_toArray, List.set_cons_zero, List.set_cons_succ]
        refine wpAnyH_take (i := 9) (oi := _) (v := ?_) rfl (by kernel_rfl) (by kernel_rfl) (by kernel_rfl) (fun _ _ _ h => h) (Or.inl ⟨by kernel_rfl, ?_⟩) (by assumption) ?_
        rotate_left
        · (intro w hSw; (try dsimp only at hSw); go_simp; (try with_reducible rfl))
        try simp only [Act.put, List.getElem_toArray, List.getElem_cons_succ, List.getElem_cons_zero, List.setIfInBounds_toArray, List.set_cons_zero, List.set_cons_succ]
        refine wpAnyH_ready (rs := [11]) (by kernel_rfl) (by simp) ?_
        refine AllReadyH.cons (o := _) rfl (fun K hK => ?_) (AllReadyH.nil)
        have t0 := (R5.out.cellAt (.tail _ (.head _)) 0).trans rfl
        have u0 := R5.out.openAt (.tail _ (.head _)) 0
        have t1 := (R5.out.cellAt (.tail _ (.head _)) 1).trans rfl
        have u1 := R5.out.openAt (.tail _ (.head _)) 1
        have hql := R5.out.ltAt (.tail _ (.head _))
        have R6 := Lib.hid (R5.out.set2 (.tail _ (.head _)) (.int .i64 p) (.slice A2 (n + 1) c2))
        go_simp
        refine hK.out _ _ ?_ (fun hHeld => ?_)
        · exact HS.out _ R6.out.below
        clear hK K
        try simp only [Act.put, List.getElem_toArray, List.getElem_cons_succ, List.getElem_cons_zero, List.setIfInBounds_toArray, List.set_cons_zero, List.set_cons_succ]
        refine wpAnyH_done (by kernel_rfl) ?_ _
        go_wp2_with fail
        go_meet
        exact ⟨_, A2, c2, rfl, R6.out⟩
  case rest =>
    obtain ⟨q, A1, c1, rfl, hreg⟩ := hcut
    have HR := Lib.hid hreg
    have h0 := HS.out _ hreg.below
    have q0 := (hreg.cellAt (.head _) 0).trans rfl
    have q1 := (hreg.cellAt (.head _) 1).trans rfl
    have HB1 := Lib.hid (show Below w.heap.size w _ from HBW.out.trans (hreg.below.mono (by have := HBW.out.size; have := HBB.out; omega)))
    have HO := Lib.hid (show OwnB _ B0 A1 (n + 1) c1 (bs ++ [b]) from by show World.ownsRow _ _ _ _ _ _ (v3 _); rw [v3_append]; exact hreg.own _ rfl)
    have HRX := Lib.hid (show Blk _ (sb + 2) 25 #[.int .i64 0, .slice none 0 0] from (hreg.below.block (sb + 2) (by have := HRB.out.lt; have := HBB.out; omega)).trans HRB.out)
    have HHX := Lib.hid (show BndsAt _ A n bs from HH.out.below (show Below w0.heap.size w0 _ from HBB.out.symm ▸ hreg.below))
    have hqs : sb + 2 < B0 := by have := HRB.out.lt; have := HBB.out; omega
    obtain ⟨x0, x1, -⟩ := h0
    have r0 := (HRX.out.cell 0).trans rfl
    have r1 := (HRX.out.cell 1).trans rfl
    have f0 := HRX.out.frozen 0
    have f1 := HRX.out.frozen 1
    have hrl := HRX.out.lt
    clear hreg e0 e1 s0 s1 s2
    go_wp2_with (fail)
    refine kB (sPlanOk_any p A n c bs _ HHX.out (by omega)) ?_ ?_
    · intro w2 hp2 hb2
      have q0 := keep hb2 q0
      have q1 := keep hb2 q1
      have HO2 := Lib.hid (own_below HO.out hb2)
      have HR2 := Lib.hid (HRX.out.below hb2 hrl)
      have HB2 := Lib.hid (HB1.out.trans (hb2.mono HB1.out.size))
      clear hb2 r0 r1 f0 f1 hrl
      go_wp2_with (fail)
      refine kB (sPlanOk_any p A1 (n + 1) c1 (bs ++ [b]) _ (OwnB.at_ HO2.out) (by omega)) ?_ ?_
      · intro w3 hp3 hb3
        have q0 := keep hb3 q0
        have q1 := keep hb3 q1
        have HO3 := Lib.hid (own_below HO2.out hb3)
        have HR3 := Lib.hid (HR2.out.below hb3 HR2.out.lt)
        have HB3 := Lib.hid (HB2.out.trans (hb3.mono HB2.out.size))
        have r0 := (HR3.out.cell 0).trans rfl
        have r1 := (HR3.out.cell 1).trans rfl
        have f0 := HR3.out.frozen 0
        have f1 := HR3.out.frozen 1
        clear hb3
        go_wp2_with (fail)
        refine bodyPost_ret (v := .tuple #[.agg #[.int .i64 p, .slice A1 (n + 1) c1], .bool true]) (by simp [results, Try.results55, go_sem, r0, r1]) rfl ⟨?_, .inl ⟨hp2.out, hp3.out, A1, c1, rfl, ?_⟩⟩
        · rw [HSB.out]; rw [HSB.out] at HB3; exact (HB3.out.setCell (by simp <;> omega) _).setCell (by simp <;> omega) _
        · rw [HSB.out]; exact own_base (own_setOldZ (own_setOldZ HO3.out hqs 0 _) hqs 1 _) (by omega)
      · intro w3 hp3 hb3
        have HR3 := Lib.hid (HR2.out.below hb3 HR2.out.lt)
        have HB3 := Lib.hid (HB2.out.trans (hb3.mono HB2.out.size))
        have r0 := (HR3.out.cell 0).trans rfl
        have r1 := (HR3.out.cell 1).trans rfl
        have f0 := HR3.out.frozen 0
        have f1 := HR3.out.frozen 1
        clear hb3
        go_wp2_with (fail)
        refine bodyPost_ret (v := .tuple #[.agg #[.int .i64 0, .slice none 0 0], .bool false]) (by simp [results, Try.results55, go_sem, r0, r1]) rfl ⟨?_, .inr ⟨fun hh => hp3.out hh.2, rfl⟩⟩
        rw [HSB.out]; rw [HSB.out] at HB3; exact (HB3.out.setCell (by simp <;> omega) _).setCell (by simp <;> omega) _
    · intro w2 hp2 hb2
      have HR3 := Lib.hid (HRX.out.below hb2 hrl)
      have HB3 := Lib.hid (HB1.out.trans (hb2.mono HB1.out.size))
      have r0 := (HR3.out.cell 0).trans rfl
      have r1 := (HR3.out.cell 1).trans rfl
      have f0 := HR3.out.frozen 0
      have f1 := HR3.out.frozen 1
      clear hb2
      go_wp2_with (fail)
      refine bodyPost_ret (v := .tuple #[.agg #[.int .i64 0, .slice none 0 0], .bool false]) (by simp [results, Try.results55, go_sem, r0, r1]) rfl ⟨?_, .inr ⟨fun hh => hp2.out hh.1, rfl⟩⟩
      rw [HSB.out]; rw [HSB.out] at HB3; exact (HB3.out.setCell (by simp <;> omega) _).setCell (by simp <;> omega) _

end Go.Proofs.Ytpefimeogbpagaa
