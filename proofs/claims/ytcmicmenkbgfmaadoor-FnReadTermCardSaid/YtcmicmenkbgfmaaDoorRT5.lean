/- The text of a tree of parts: (*part).text; both TermText. -/
import Derived.Test.YtcmicmenkbgfmaaDoorRT4
set_option linter.unusedSimpArgs false
namespace Go.Proofs.YtcmicmenkbgfmaaDoor
open Go.RowKit

theorem TextI.go {t : Tm} (h : TextI t) (a : Addr) (w : World) (hp : Pt TT w t a) : Calls Tryd.prog 24 #[.pointer (some a)] w (Str w (textT t)) := h a w hp
set_option maxRecDepth 100000 in
set_option maxHeartbeats 2000000 in
theorem text_two1 (x y : Tm) (wf : Wf (.two 1 x y)) (lx : (textT x).length ≤ 75) (ly : (textT y).length ≤ 75) (Tx : TextI x) (Ty : TextI y) : TextI (.two 1 x y) := by
  intro a w hp
  obtain ⟨b, off, kb, ko, c, ax, ay, rfl, c0, c1, c2, c3, k0, k1, hx, hy⟩ := hp.openTwo
  have HX := Lib.hid hx
  have HY := Lib.hid hy
  have HW := Lib.hid wf
  have WFx := wf.2.1
  have WFy := wf.2.2
  have HLX := Lib.hid lx
  have HTX := Lib.hid Tx
  have HLY := Lib.hid (show (brT (decide (bindsT y < 1)) (textT y)).length ≤ 77 from Nat.le_trans (brT_len _ _) (by omega))
  have HTY := Lib.hid (fun (B : Nat) (W : World) (g : Pt TT W y ay) (e1 : W.cell? ⟨B, 0, none⟩ = some (.int .i64 1)) => wrapped_any y 1 (.inl rfl) WFy Ty ly ay B W g e1 (fun e => by cases e))
  have HT := Lib.hid (show textT (.two 1 x y) = textT x ++ 59 :: brT (decide (bindsT y < 1)) (textT y) by simp [textT])
  rw [HT.out]
  obtain ⟨L, HL⟩ : ∃ q, Hid (textT x ++ 59 :: brT (decide (bindsT y < 1)) (textT y) = q) := ⟨_, rfl⟩
  rw [HL.out]
  clear hp hx hy Tx Ty lx ly wf WFx WFy
  have HB := Lib.hid (Below.refl w.heap.size w)
  go_enter Tryd.func24, Tryd.ntmps24
  go_wp2_with (fail)
  go_region_held_law (fun w' => w'.cell? ⟨b, off + 3, none⟩ = some (.slice (some ⟨kb, ko, none⟩) 2 c) ∧ w'.cell? ⟨kb, ko, none⟩ = some (.pointer (some ax)) ∧ w'.cell? ⟨kb, ko + 1, none⟩ = some (.pointer (some ay)))
    (first | exact ⟨keep (by first | exact HB.out | exact HB.out.drew | exact (a1 HB.out _) | exact (a1 HB.out _).drew | exact (a2 HB.out _ _) | exact (a2 HB.out _ _).drew) c3, keep (by first | exact HB.out | exact HB.out.drew | exact (a1 HB.out _) | exact (a1 HB.out _).drew | exact (a2 HB.out _ _) | exact (a2 HB.out _ _).drew) k0, keep (by first | exact HB.out | exact HB.out.drew | exact (a1 HB.out _) | exact (a1 HB.out _).drew | exact (a2 HB.out _ _) | exact (a2 HB.out _ _).drew) k1⟩)
    (first
      | (go_at_call 24; with_reducible refine kStr (n := 75) (TextI.go HTX.out ax _ (HX.out.below (by first | exact HB.out | exact HB.out.drew | exact (a1 HB.out _) | exact (a1 HB.out _).drew | exact (a2 HB.out _ _) | exact (a2 HB.out _ _).drew))) HLX.out ?_
         intro S1 wx hS1 hzS1 hb
         have HB := Lib.hid (show Below w.heap.size w wx from (by first | exact on0 HB.out hb | exact on0 HB.out.drew hb | exact on0 (a1 HB.out _) hb | exact on0 (a1 HB.out _).drew hb | exact on0 (a2 HB.out _ _) hb | exact on0 (a2 HB.out _ _).drew hb))
         have hk := fun (q : Addr) (v : Value) => keep (a := q) (v := v) hb
         clear hb)
      | (go_at_call 37; with_reducible refine kStr (n := 77) (HTY.out _ _ (HY.out.below (by first | exact HB.out | exact HB.out.drew | exact (a1 HB.out _) | exact (a1 HB.out _).drew | exact (a2 HB.out _ _) | exact (a2 HB.out _ _).drew)) (by first | exact hk _ _ (by simp [go_sem]) | simp [go_sem])) HLY.out ?_
         intro S2 wx hS2 hzS2 hb
         have HB := Lib.hid (show Below w.heap.size w wx from (by first | exact on0 HB.out hb | exact on0 HB.out.drew hb | exact on0 (a1 HB.out _) hb | exact on0 (a1 HB.out _).drew hb | exact on0 (a2 HB.out _ _) hb | exact on0 (a2 HB.out _ _).drew hb))
         have hk := fun (q : Addr) (v : Value) => keep (a := q) (v := v) hb
         clear hb))
  all_goals
    go_wp2
    go_ret
    exact ⟨_, rfl, by rw [cat_list, cat_list, hS1.out, hS2.out, ← HL.out, List.append_assoc]; rfl, (by first | exact HB.out | exact HB.out.drew | exact (a1 HB.out _) | exact (a1 HB.out _).drew | exact (a2 HB.out _ _) | exact (a2 HB.out _ _).drew)⟩
set_option maxRecDepth 100000 in
set_option maxHeartbeats 2000000 in
theorem text_two2 (x y : Tm) (wf : Wf (.two 2 x y)) (lx : (textT x).length ≤ 75) (ly : (textT y).length ≤ 75) (Tx : TextI x) (Ty : TextI y) : TextI (.two 2 x y) := by
  intro a w hp
  obtain ⟨b, off, kb, ko, c, ax, ay, rfl, c0, c1, c2, c3, k0, k1, hx, hy⟩ := hp.openTwo
  have HX := Lib.hid hx
  have HY := Lib.hid hy
  have HW := Lib.hid wf
  have WFx := wf.2.1
  have WFy := wf.2.2
  have HLX := Lib.hid (show (brT (decide (bindsT x < 1)) (textT x)).length ≤ 77 from Nat.le_trans (brT_len _ _) (by omega))
  have HTX := Lib.hid (fun (B : Nat) (W : World) (g : Pt TT W x ax) (e1 : W.cell? ⟨B, 0, none⟩ = some (.int .i64 1)) => wrapped_any x 1 (.inl rfl) WFx Tx lx ax B W g e1 (fun e => by cases e))
  have HLY := Lib.hid (show (brT (decide (bindsT y < 2)) (textT y)).length ≤ 77 from Nat.le_trans (brT_len _ _) (by omega))
  have HTY := Lib.hid (fun (B : Nat) (W : World) (g : Pt TT W y ay) (e1 : W.cell? ⟨B, 0, none⟩ = some (.int .i64 1)) (e2 : W.cell? ⟨B, 1, none⟩ = some (.int .i64 2)) => wrapped_any y 2 (.inr rfl) WFy Ty ly ay B W g e1 (fun e => e2))
  have HT := Lib.hid (show textT (.two 2 x y) = brT (decide (bindsT x < 1)) (textT x) ++ 38 :: brT (decide (bindsT y < 2)) (textT y) by simp [textT])
  rw [HT.out]
  obtain ⟨L, HL⟩ : ∃ q, Hid (brT (decide (bindsT x < 1)) (textT x) ++ 38 :: brT (decide (bindsT y < 2)) (textT y) = q) := ⟨_, rfl⟩
  rw [HL.out]
  clear hp hx hy Tx Ty lx ly wf WFx WFy
  have HB := Lib.hid (Below.refl w.heap.size w)
  go_enter Tryd.func24, Tryd.ntmps24
  go_wp2_with (fail)
  go_region_held_law (fun w' => w'.cell? ⟨b, off + 3, none⟩ = some (.slice (some ⟨kb, ko, none⟩) 2 c) ∧ w'.cell? ⟨kb, ko, none⟩ = some (.pointer (some ax)) ∧ w'.cell? ⟨kb, ko + 1, none⟩ = some (.pointer (some ay)))
    (first | exact ⟨keep (by first | exact HB.out | exact HB.out.drew | exact (a1 HB.out _) | exact (a1 HB.out _).drew | exact (a2 HB.out _ _) | exact (a2 HB.out _ _).drew) c3, keep (by first | exact HB.out | exact HB.out.drew | exact (a1 HB.out _) | exact (a1 HB.out _).drew | exact (a2 HB.out _ _) | exact (a2 HB.out _ _).drew) k0, keep (by first | exact HB.out | exact HB.out.drew | exact (a1 HB.out _) | exact (a1 HB.out _).drew | exact (a2 HB.out _ _) | exact (a2 HB.out _ _).drew) k1⟩)
    (first
      | (go_at_call 37; with_reducible refine kStr (n := 77) (HTX.out _ _ (HX.out.below (by first | exact HB.out | exact HB.out.drew | exact (a1 HB.out _) | exact (a1 HB.out _).drew | exact (a2 HB.out _ _) | exact (a2 HB.out _ _).drew)) (by first | exact hk _ _ (by simp [go_sem]) | simp [go_sem])) HLX.out ?_
         intro S1 wx hS1 hzS1 hb
         have HB := Lib.hid (show Below w.heap.size w wx from (by first | exact on0 HB.out hb | exact on0 HB.out.drew hb | exact on0 (a1 HB.out _) hb | exact on0 (a1 HB.out _).drew hb | exact on0 (a2 HB.out _ _) hb | exact on0 (a2 HB.out _ _).drew hb))
         have hk := fun (q : Addr) (v : Value) => keep (a := q) (v := v) hb
         clear hb)
      | (go_at_call 37; with_reducible refine kStr (n := 77) (HTY.out _ _ (HY.out.below (by first | exact HB.out | exact HB.out.drew | exact (a1 HB.out _) | exact (a1 HB.out _).drew | exact (a2 HB.out _ _) | exact (a2 HB.out _ _).drew)) (by first | exact hk _ _ (by simp [go_sem]) | simp [go_sem]) (by first | exact hk _ _ (by simp [go_sem]) | simp [go_sem])) HLY.out ?_
         intro S2 wx hS2 hzS2 hb
         have HB := Lib.hid (show Below w.heap.size w wx from (by first | exact on0 HB.out hb | exact on0 HB.out.drew hb | exact on0 (a1 HB.out _) hb | exact on0 (a1 HB.out _).drew hb | exact on0 (a2 HB.out _ _) hb | exact on0 (a2 HB.out _ _).drew hb))
         have hk := fun (q : Addr) (v : Value) => keep (a := q) (v := v) hb
         clear hb))
  all_goals
    go_wp2
    go_ret
    exact ⟨_, rfl, by rw [cat_list, cat_list, hS1.out, hS2.out, ← HL.out, List.append_assoc]; rfl, (by first | exact HB.out | exact HB.out.drew | exact (a1 HB.out _) | exact (a1 HB.out _).drew | exact (a2 HB.out _ _) | exact (a2 HB.out _ _).drew)⟩
set_option maxRecDepth 100000 in
set_option maxHeartbeats 2000000 in
theorem text_one (x : Tm) (h : Int) (wf : Wf (.one x h)) (lx : (textT x).length ≤ 75) (Tx : TextI x) : TextI (.one x h) := by
  intro a w hp
  obtain ⟨b, off, kb, ko, c, ax, rfl, c0, c1, c2, c3, k0, hx⟩ := hp.openOne
  have HX := Lib.hid hx
  have WFx := wf.1
  have HLX := Lib.hid (show (brT (decide (bindsT x < 2)) (textT x)).length ≤ 77 from Nat.le_trans (brT_len _ _) (by omega))
  have HTX := Lib.hid (fun (B : Nat) (W : World) (g : Pt TT W x ax) (e1 : W.cell? ⟨B, 0, none⟩ = some (.int .i64 1)) (e2 : W.cell? ⟨B, 1, none⟩ = some (.int .i64 2)) => wrapped_any x 2 (.inr rfl) WFx Tx lx ax B W g e1 (fun e => e2))
  have HLH := Lib.hid (dec_len wf.2.1 wf.2.2)
  have HH := Lib.hid (fun W : World => itoa_any h wf.2.1 wf.2.2 W)
  have HT := Lib.hid (show textT (.one x h) = brT (decide (bindsT x < 2)) (textT x) ++ 60 :: dec h from rfl)
  rw [HT.out]
  obtain ⟨L, HL⟩ : ∃ q, Hid (brT (decide (bindsT x < 2)) (textT x) ++ 60 :: dec h = q) := ⟨_, rfl⟩
  rw [HL.out]
  clear hp hx Tx lx wf WFx
  have HB := Lib.hid (Below.refl w.heap.size w)
  go_enter Tryd.func24, Tryd.ntmps24
  go_wp2_with (fail)
  go_region_held_law (fun w' => w'.cell? ⟨b, off + 3, none⟩ = some (.slice (some ⟨kb, ko, none⟩) 1 c) ∧ w'.cell? ⟨kb, ko, none⟩ = some (.pointer (some ax)) ∧ w'.cell? ⟨b, off + 2, none⟩ = some (.int .i64 h))
    (first | exact ⟨keep (by first | exact HB.out | exact HB.out.drew | exact (a1 HB.out _) | exact (a1 HB.out _).drew | exact (a2 HB.out _ _) | exact (a2 HB.out _ _).drew) c3, keep (by first | exact HB.out | exact HB.out.drew | exact (a1 HB.out _) | exact (a1 HB.out _).drew | exact (a2 HB.out _ _) | exact (a2 HB.out _ _).drew) k0, keep (by first | exact HB.out | exact HB.out.drew | exact (a1 HB.out _) | exact (a1 HB.out _).drew | exact (a2 HB.out _ _) | exact (a2 HB.out _ _).drew) c2⟩)
    (first
      | (go_at_call 37; with_reducible refine kStr (n := 77) (HTX.out _ _ (HX.out.below (by first | exact HB.out | exact HB.out.drew | exact (a1 HB.out _) | exact (a1 HB.out _).drew | exact (a2 HB.out _ _) | exact (a2 HB.out _ _).drew)) (by first | exact hk _ _ (by simp [go_sem]) | simp [go_sem]) (by first | exact hk _ _ (by simp [go_sem]) | simp [go_sem])) HLX.out ?_
         intro S1 wx hS1 hzS1 hb
         have HB := Lib.hid (show Below w.heap.size w wx from (by first | exact on0 HB.out hb | exact on0 HB.out.drew hb | exact on0 (a1 HB.out _) hb | exact on0 (a1 HB.out _).drew hb | exact on0 (a2 HB.out _ _) hb | exact on0 (a2 HB.out _ _).drew hb))
         have hk := fun (q : Addr) (v : Value) => keep (a := q) (v := v) hb
         clear hb)
      | (go_at_call 38; with_reducible refine kStr (n := 2) (HH.out _) HLH.out ?_
         intro S2 wx hS2 hzS2 hb
         have HB := Lib.hid (show Below w.heap.size w wx from (by first | exact on0 HB.out hb | exact on0 HB.out.drew hb | exact on0 (a1 HB.out _) hb | exact on0 (a1 HB.out _).drew hb | exact on0 (a2 HB.out _ _) hb | exact on0 (a2 HB.out _ _).drew hb))
         have hk := fun (q : Addr) (v : Value) => keep (a := q) (v := v) hb
         clear hb))
  all_goals
    go_wp2
    go_ret
    exact ⟨_, rfl, by rw [cat_list, cat_list, hS1.out, hS2.out, ← HL.out, List.append_assoc]; rfl, (by first | exact HB.out | exact HB.out.drew | exact (a1 HB.out _) | exact (a1 HB.out _).drew | exact (a2 HB.out _ _) | exact (a2 HB.out _ _).drew)⟩
theorem text_any (t : Tm) : Wf t → (marksOf t).length ≤ 11 → TextI t := by
  induction t with
  | step l h => exact fun wf _ => text_step l h wf
  | one a h ih =>
    intro wf hn
    have hl : (marksOf a).length ≤ 11 := by simp only [marksOf, List.length_append, List.length_singleton] at hn; omega
    exact text_one a h wf (textT_le wf.1 rfl hl) (ih wf.1 hl)
  | two k a b iha ihb =>
    intro wf hn
    have h2 : (marksOf a).length ≤ 11 ∧ (marksOf b).length ≤ 11 := by simp only [marksOf, List.length_append, List.length_singleton] at hn; omega
    have ha := iha wf.2.1 h2.1
    have hb := ihb wf.2.2 h2.2
    have la := textT_le wf.2.1 rfl h2.1
    have lb := textT_le wf.2.2 rfl h2.2
    rcases wf.1 with rfl | rfl
    · exact text_two1 a b wf la lb ha hb
    · exact text_two2 a b wf la lb ha hb

/-- The text of what is a term. -/
noncomputable def textV (xs : List Mk) : List UInt8 := @dite _ (∃ t, TIs xs t) (Classical.propDecidable _) (fun h => textT (Classical.choose h)) (fun _ => [])
theorem TIs.uniq {xs : List Mk} {s t : Tm} (h : TIs xs s) (g : TIs xs t) : s = t := by
  have h1 := runM_marks s h.1 []
  have h2 := runM_marks t g.1 []
  rw [List.nil_append, h.2.1] at h1
  rw [List.nil_append, g.2.1] at h2
  rw [h1] at h2
  simpa [runM_nil] using h2
theorem textV_of {xs : List Mk} {t : Tm} (h : TIs xs t) : textV xs = textT t := by
  have h0 : ∃ t, TIs xs t := ⟨t, h⟩
  unfold textV
  rw [dif_pos h0]
  rw [(Classical.choose_spec h0).uniq h]
theorem textV_no {xs : List Mk} (h : ¬ TOk xs) : textV xs = [] := by
  unfold textV
  exact dif_neg h
theorem textV_len (xs : List Mk) : (textV xs).length ≤ 75 := by
  by_cases h : TOk xs
  · obtain ⟨t, ht⟩ := h
    rw [textV_of ht]
    exact textT_le ht.1 rfl (by rw [ht.2.1]; exact ht.2.2)
  · rw [textV_no h]; simp

theorem iTermText_any (A : Option Addr) (n c : Nat) (xs : List Mk) (w : World) (h : MarksAt w A n xs) (hn : n ≤ 1048576) :
    Calls Tryd.prog 8 #[.slice A n c] w (Str w (textV xs)) := by
  go_enter Tryd.func8, Tryd.ntmps8
  go_wp2_with (fail)
  refine kBuild (iBuild_any A n c xs _ h hn) ?_ ?_
  · intro w1 hx hb1
    go_wp2
    go_ret
    exact ⟨_, rfl, by rw [textV_no hx.out], hb1⟩
  · intro w1 x a hx hb1 hp
    have HP := Lib.hid hp
    clear hp
    go_wp2_with (fail)
    refine kStr (n := 75) (text_any x hx.out.1 (by rw [hx.out.2.1]; exact hx.out.2.2) a _ HP.out) (textT_le hx.out.1 rfl (by rw [hx.out.2.1]; exact hx.out.2.2)) ?_
    intro S w2 hS hz hb2
    go_wp2
    go_ret
    exact ⟨_, rfl, by rw [textV_of hx.out, hS.out], on0 hb1 hb2⟩

theorem sTermText_any (A : Option Addr) (n c : Nat) (xs : List Mk) (w : World) (h : MarksAt w A n xs) (hc : n ≤ c) (hn : n ≤ 1048576) :
    Calls Tryd.prog 9 #[.slice A n c] w (Str w (textV xs)) := by
  have HM := Lib.hid h
  go_enter Tryd.func9, Tryd.ntmps9
  go_wp2_with (fail)
  refine kB (sTermOk_any A n c xs _ h hn) ?_ ?_
  · intro w1 hx hb1
    obtain ⟨t, ht⟩ := hx.out
    have HT := Lib.hid ht
    have HL := Lib.hid (show n ≤ 11 by rw [← HM.out.len]; exact HT.out.2.2)
    have HE := Lib.hid (show textV xs = textT t from textV_of ht)
    rw [HE.out]
    have HM1 := Lib.hid (show MarksAt w1 A n (marksOf t) by rw [HT.out.2.1]; exact HM.out.below hb1)
    clear ht h
    go_wp2_with (fail)
    refine kStr (n := 75) (l11Text_any t HT.out.1 A n c _ HM1.out hc HL.out) (textT_le HT.out.1 HM1.out.len HL.out) ?_
    intro S w2 hS hz hb2
    go_wp2
    go_ret
    exact ⟨_, rfl, by rw [HE.out]; exact hS.out, on0 hb1 hb2⟩
  · intro w1 hx hb1
    go_wp2
    go_ret
    exact ⟨_, rfl, by rw [textV_no hx.out], hb1⟩

end Go.Proofs.YtcmicmenkbgfmaaDoor
