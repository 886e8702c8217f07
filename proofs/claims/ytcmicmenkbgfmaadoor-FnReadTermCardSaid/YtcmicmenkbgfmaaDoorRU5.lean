/- impl.ReadTerm. -/
import Derived.Test.YtcmicmenkbgfmaaDoorRU4
import Derived.Test.YtcmicmenkbgfmaaDoorRT5
set_option linter.unusedSimpArgs false
namespace Go.Proofs.YtcmicmenkbgfmaaDoor
open Go.RowKit

theorem readV_no {s : List UInt8} (h : ∀ ys, ¬ RdOk s ys) : (readV s).1 = [] ∧ (readV s).2 = false := readV_eq (.inr ⟨rfl, rfl, h⟩)
theorem readV_ok {s : List UInt8} {xs : List Mk} (h : RdOk s xs) (h1 : ∀ ys, RdOk s ys → ys = xs) : (readV s).1 = xs ∧ (readV s).2 = true := readV_eq (.inl ⟨rfl, h, h1⟩)
theorem text_eq' {S T : ByteArray} (h : S.data.toList = T.data.toList) : S = T := ByteArray.ext (Array.toList_inj.1 h)
theorem neq_list {S T : ByteArray} (h : S ≠ T) : (S.toList == T.toList) = false := by
  rw [ByteArray.toList_eq, ByteArray.toList_eq]
  simpa using fun e => h (text_eq' e)
theorem rdOk_text {s : List UInt8} {xs : List Mk} (hs : s ≠ []) (h : textV xs = s) : RdOk s xs := by
  by_cases ht : TOk xs
  · obtain ⟨t, ht⟩ := ht
    exact ⟨t, ht, by rw [← textV_of ht]; exact h⟩
  · rw [textV_no ht] at h
    exact absurd h.symm hs
theorem rdOk_textV {s : List UInt8} {xs : List Mk} (h : RdOk s xs) : textV xs = s := by
  obtain ⟨t, ht, rfl⟩ := h
  exact textV_of ht
theorem retNo {w w' : World} {l : List Mk × Bool} {e : Ending} (h : l.1 = [] ∧ l.2 = false) (he : e = .returned (.tuple #[.slice none 0 0, .bool false])) (hb : Below w.heap.size w w') : NewMB w l.1 l.2 e w' := by
  rw [h.1, h.2]
  exact ⟨none, 0, he, OwnM.nil _ _, hb⟩

set_option maxRecDepth 100000 in
set_option maxHeartbeats 4000000 in
theorem iReadTerm_any (s : ByteArray) (w : World) (hg : GV w) : Calls Tryd.prog 12 #[.string s] w (NewMB w (readV s.data.toList).1 (readV s.data.toList).2) := by
  by_cases h0 : s.size = 0
  · obtain rfl : s = ⟨#[]⟩ := text_eq' (List.eq_nil_of_length_eq_zero (by rw [sz_list]; exact h0))
    have HR := Lib.hid (readV_no (s := (ByteArray.mk #[]).data.toList) (fun ys h => h.len.2 rfl))
    clear h0
    go_enter Tryd.func12, Tryd.ntmps12
    go_wp2
    refine bodyPost_ret (v := .tuple #[.slice none 0 0, .bool false]) (by simp [results, Tryd.results12, go_sem]) rfl (retNo HR.out rfl (Below.refl _ _))
  · have HNE := Lib.hid (show s.data.toList ≠ [] from fun e => h0 (by rw [← sz_list, e]; rfl))
    have hq := neq_list (S := s) (T := ⟨#[]⟩) (fun e => h0 (by rw [e]; rfl))
    have hq0 : (s.toList == []) = false := by simpa using hq
    clear h0
    by_cases h1 : s.size ≤ 120
    rotate_left
    · have HR := Lib.hid (readV_no (s := s.data.toList) (fun ys h => by have := h.len.1; rw [sz_list] at this; omega))
      go_enter Tryd.func12, Tryd.ntmps12
      go_wp2
      refine bodyPost_ret (v := .tuple #[.slice none 0 0, .bool false]) (by simp [results, Tryd.results12, go_sem]) rfl (retNo HR.out rfl (Below.refl _ _))
    have hA : Below w.heap.size w (w.alloc (.cells #[.string s, .int .i64 0, .bool true] 51)) := (Below.refl _ _).alloc (Nat.le_refl _) _
    have HT := Lib.hid (show TR (w.alloc (.cells #[.string s, .int .i64 0, .bool true] 51)) w.heap.size s 0 true from ⟨by simp [go_sem], by simp [go_sem], by simp [go_sem], by simp [go_sem], by simp [go_sem]⟩)
    have HG := Lib.hid (hg.below hA)
    clear hg
    go_enter Tryd.func12, Tryd.ntmps12
    go_wp2_with (fail)
    refine kPV ((reader_all 121).go w.heap.size s 0 true _ h1 (Nat.zero_le _) (by omega) HT.out HG.out) ?_
    intro A c xs i f w2 hown hbd hri hm
    have HB2 := Lib.hid (hA.grown hm.gr hA.size (fun k hk => by have h2 : w.heap.size = k := Option.some.inj hk; omega))
    have HM2 := Lib.hid hm
    have HO2 := Lib.hid (own_base hown hA.size)
    have HP := Lib.hid (readP_of (by rw [List.drop_zero] at hri; exact hri.out))
    have hxl : xs.length ≤ 241 := by omega
    have e2 := HM2.out.tr.c2
    clear hown hm hri hbd
    cases f with
    | false =>
      have HR := Lib.hid (readV_no (s := s.data.toList) (fun ys h => by have := (HP.out ys h).2.2; cases this))
      go_wp2
      refine bodyPost_ret (v := .tuple #[.slice none 0 0, .bool false]) (by simp [results, Tryd.results12, go_sem]) rfl (retNo HR.out rfl HB2.out)
    | true =>
      obtain ⟨n, HLN⟩ : ∃ q, Hid (xs.length = q) := ⟨_, rfl⟩
      rw [HLN.out] at HO2 hxl ⊢
      go_wp2_with (fail)
      refine kStr (n := 75) (iTermText_any A n c xs _ (OwnM.at_ HO2.out) (by omega)) (textV_len xs) ?_
      intro S w3 hS hz hb3
      have HB3 := Lib.hid (HB2.out.trans (hb3.mono HB2.out.size))
      have HO3 := Lib.hid (own_below HO2.out hb3)
      clear hb3
      by_cases he : S = s
      · have HOK := Lib.hid (rdOk_text (xs := xs) HNE.out (by rw [← he, hS.out]))
        have HR := Lib.hid (readV_ok HOK.out (fun ys h => (HP.out ys h).1))
        have HSE := Lib.hid he.symm
        clear he
        obtain rfl := HSE.out
        go_wp2
        refine bodyPost_ret (v := .tuple #[.slice A n c, .bool true]) (by simp [results, Tryd.results12, go_sem]) rfl ?_
        rw [HR.out.1, HR.out.2]
        exact ⟨A, c, by rw [HLN.out], by rw [HLN.out]; exact HO3.out, HB3.out⟩
      · have hne := neq_list he
        have HR := Lib.hid (readV_no (s := s.data.toList) (fun ys h => by
          obtain ⟨rfl, -, -⟩ := HP.out ys h
          exact he (text_eq' (hS.out.trans (rdOk_textV h)))))
        clear he
        go_wp2
        refine bodyPost_ret (v := .tuple #[.slice none 0 0, .bool false]) (by simp [results, Tryd.results12, go_sem]) rfl (retNo HR.out rfl HB3.out)

end Go.Proofs.YtcmicmenkbgfmaaDoor
