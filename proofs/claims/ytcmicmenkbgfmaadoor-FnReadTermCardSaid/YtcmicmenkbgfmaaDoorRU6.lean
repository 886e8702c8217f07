/- impl.ReadTerm, and that a text was read through; brackets round a term's text. -/
import Derived.Test.YtcmicmenkbgfmaaDoorRU5
set_option linter.unusedSimpArgs false
namespace Go.Proofs.YtcmicmenkbgfmaaDoor
open Go.RowKit

/-- A text can be read through, somehow. -/
def DerV (s : List UInt8) : Prop := s.length ≤ 120 → s ≠ [] → ∃ xs l' f', RI .thens [] s true xs l' f'
theorem readV_text {s : List UInt8} {xs : List Mk} (hD : DerV s) (h : RdOk s xs) : (readV s).1 = xs ∧ (readV s).2 = true := by
  obtain ⟨ys, l', f', d⟩ := hD (by have := h.len.1; omega) h.len.2
  have h1 := (readP_of d xs h).1
  exact readV_ok h (fun zs hz => by rw [(readP_of d zs hz).1, h1])
theorem tree_eq {t u : Tm} (w : Wf t) (v : Wf u) (h : marksOf u = marksOf t) : u = t := by
  have h1 := runM_marks t w []
  have h2 := runM_marks u v []
  rw [List.nil_append] at h1 h2
  rw [h, h1] at h2
  have h3 := congrArg (Option.map (List.getLast?)) h2
  simp [runM_nil] at h3
  exact h3.symm
theorem no_brack {t : Tm} (w : Wf t) (hl : (textT t).length ≤ 75) (hD : DerV (40 :: (textT t ++ [41]))) : ∀ ys, ¬ RdOk (40 :: (textT t ++ [41])) ys := fun ys h => by
  obtain ⟨xs, l', f', d⟩ := hD (by simp; omega) (by simp)
  have h1 := (readP_of d ys h).1
  have d2 : RI .thens [] ((40 :: (textT t ++ [41])) ++ []) true xs l' f' := by simpa using d
  have h2 := ((((Rd_text w).1.br).b.t [] xs l' f' ⟨⟨⟨fun c h => (by cases h), by simp⟩, by simp⟩, by simp⟩ d2).stopT (by simp)).1
  obtain ⟨u, ⟨v, e, -⟩, hu⟩ := h
  obtain rfl := tree_eq w v (by rw [e, h1, h2])
  have h3 := congrArg List.length hu
  simp at h3
  omega
theorem kNewMBD {Pr : Program} {f : FuncId} {args : Array Value} {w : World} {R : Ending → World → Prop} {xs : List Mk} {b : Bool} {D : Prop} (h : Calls Pr f args w (fun e w' => NewMB w xs b e w' ∧ D))
    (h1 : ∀ A c w', OwnM w' w.heap.size A xs.length c xs → Hid D → Below w.heap.size w w' → R (.returned (.tuple #[.slice A xs.length c, .bool b])) w') : Calls Pr f args w R :=
  h.mono fun e w' ⟨⟨A, c, he, hi, hb⟩, hd⟩ => by subst he; exact h1 A c w' hi (Lib.hid hd) hb

set_option maxRecDepth 100000 in
set_option maxHeartbeats 4000000 in
theorem iReadTermD_any (s : ByteArray) (w : World) (hg : GV w) : Calls Tryd.prog 12 #[.string s] w (fun e w' => NewMB w (readV s.data.toList).1 (readV s.data.toList).2 e w' ∧ DerV s.data.toList) := by
  by_cases h0 : s.size = 0
  · obtain rfl : s = ⟨#[]⟩ := text_eq' (List.eq_nil_of_length_eq_zero (by rw [sz_list]; exact h0))
    have HR := Lib.hid (readV_no (s := (ByteArray.mk #[]).data.toList) (fun ys h => h.len.2 rfl))
    have HD := Lib.hid (show DerV (ByteArray.mk #[]).data.toList from fun _ h => absurd rfl h)
    clear h0
    go_enter Tryd.func12, Tryd.ntmps12
    go_wp2
    refine bodyPost_ret (v := .tuple #[.slice none 0 0, .bool false]) (by simp [results, Tryd.results12, go_sem]) rfl ⟨retNo HR.out rfl (Below.refl _ _), HD.out⟩
  · have HNE := Lib.hid (show s.data.toList ≠ [] from fun e => h0 (by rw [← sz_list, e]; rfl))
    have hq := neq_list (S := s) (T := ⟨#[]⟩) (fun e => h0 (by rw [e]; rfl))
    have hq0 : (s.toList == []) = false := by simpa using hq
    clear h0
    by_cases h1 : s.size ≤ 120
    rotate_left
    · have HR := Lib.hid (readV_no (s := s.data.toList) (fun ys h => by have := h.len.1; rw [sz_list] at this; omega))
      have HD := Lib.hid (show DerV s.data.toList from fun h _ => by rw [sz_list] at h; omega)
      go_enter Tryd.func12, Tryd.ntmps12
      go_wp2
      refine bodyPost_ret (v := .tuple #[.slice none 0 0, .bool false]) (by simp [results, Tryd.results12, go_sem]) rfl ⟨retNo HR.out rfl (Below.refl _ _), HD.out⟩
    have hA : Below w.heap.size w (w.alloc (.cells #[.string s, .int .i64 0, .bool true] 51)) := (Below.refl _ _).alloc (Nat.le_refl _) _
    have HT := Lib.hid (show TR (w.alloc (.cells #[.string s, .int .i64 0, .bool true] 51)) w.heap.size s 0 true from ⟨by simp [go_sem], by simp [go_sem], by simp [go_sem], by simp [go_sem], by simp [go_sem]⟩)
    have HG := Lib.hid (hg.below hA)
    clear hg
    go_enter Tryd.func12, Tryd.ntmps12
    go_wp2_with (fail)
    refine kPV ((reader_all 121).go w.heap.size s 0 true _ h1 (Nat.zero_le _) (by omega) HT.out HG.out) ?_
    intro A c xs i f w2 hown hbd hri hm
    have HB2 := Lib.hid (hA.grown hm.gr hA.size (fun k hk => by have h2 : w.heap.size = k := Option.some.inj hk; omega))
    have HM2 := Lib.hid hm
    have HO2 := Lib.hid (own_base hown hA.size)
    have HD := Lib.hid (show DerV s.data.toList from fun _ _ => ⟨xs, _, f, by rw [List.drop_zero] at hri; exact hri.out⟩)
    have HP := Lib.hid (readP_of (by rw [List.drop_zero] at hri; exact hri.out))
    have hxl : xs.length ≤ 241 := by omega
    have e2 := HM2.out.tr.c2
    clear hown hm hri hbd
    cases f with
    | false =>
      have HR := Lib.hid (readV_no (s := s.data.toList) (fun ys h => by have := (HP.out ys h).2.2; cases this))
      go_wp2
      refine bodyPost_ret (v := .tuple #[.slice none 0 0, .bool false]) (by simp [results, Tryd.results12, go_sem]) rfl ⟨retNo HR.out rfl HB2.out, HD.out⟩
    | true =>
      obtain ⟨n, HLN⟩ : ∃ q, Hid (xs.length = q) := ⟨_, rfl⟩
      rw [HLN.out] at HO2 hxl ⊢
      go_wp2_with (fail)
      refine kStr (n := 75) (iTermText_any A n c xs _ (OwnM.at_ HO2.out) (by omega)) (textV_len xs) ?_
      intro S w3 hS hz hb3
      have HB3 := Lib.hid (HB2.out.trans (hb3.mono HB2.out.size))
      have HO3 := Lib.hid (own_below HO2.out hb3)
      clear hb3
      by_cases he : S = s
      · have HOK := Lib.hid (rdOk_text (xs := xs) HNE.out (by rw [← he, hS.out]))
        have HR := Lib.hid (readV_ok HOK.out (fun ys h => (HP.out ys h).1))
        have HSE := Lib.hid he.symm
        clear he
        obtain rfl := HSE.out
        go_wp2
        refine bodyPost_ret (v := .tuple #[.slice A n c, .bool true]) (by simp [results, Tryd.results12, go_sem]) rfl ?_
        rw [HR.out.1, HR.out.2]
        exact ⟨⟨A, c, by rw [HLN.out], by rw [HLN.out]; exact HO3.out, HB3.out⟩, HD.out⟩
      · have hne := neq_list he
        have HR := Lib.hid (readV_no (s := s.data.toList) (fun ys h => by
          obtain ⟨rfl, -, -⟩ := HP.out ys h
          exact he (text_eq' (hS.out.trans (rdOk_textV h)))))
        clear he
        go_wp2
        refine bodyPost_ret (v := .tuple #[.slice none 0 0, .bool false]) (by simp [results, Tryd.results12, go_sem]) rfl ⟨retNo HR.out rfl HB3.out, HD.out⟩

end Go.Proofs.YtcmicmenkbgfmaaDoor
