/- spec.ReadTerm. -/
import Derived.Test.YtcmicmenkbgfmaaDoorRS4
import Derived.Test.YtcmicmenkbgfmaaDoorRU5
set_option linter.unusedSimpArgs false
namespace Go.Proofs.YtcmicmenkbgfmaaDoor
open Go.RowKit

theorem retNoS {w w' : World} {l : List Mk × Bool} {e : Ending} {b c : Nat} (h : l.1 = [] ∧ l.2 = false) (he : e = .returned (.tuple #[.slice (some ⟨b, 0, none⟩) 0 c, .bool false])) (ho : OwnM w' w.heap.size (some ⟨b, 0, none⟩) 0 c []) (hb : Below w.heap.size w w') : NewMB w l.1 l.2 e w' := by
  rw [h.1, h.2]
  exact ⟨_, c, he, ho, hb⟩
set_option maxRecDepth 100000 in
set_option maxHeartbeats 4000000 in
theorem sReadTerm_any (s : ByteArray) (w : World) : Calls Tryd.prog 14 #[.string s] w (NewMB w (readV s.data.toList).1 (readV s.data.toList).2) := by
  by_cases h1 : s.size ≤ 120
  rotate_left
  · have HR := Lib.hid (readV_no (s := s.data.toList) (fun ys h => by have := h.len.1; rw [sz_list] at this; omega))
    have hI : (120 : Int) < (s.size : Int) := by omega
    go_enter Tryd.func14, Tryd.ntmps14
    go_wp2
    refine bodyPost_ret (v := .tuple #[.slice (some ⟨w.heap.size, 0, none⟩) 0 0, .bool false]) (by simp [results, Tryd.results14, go_sem]) rfl (retNoS HR.out rfl (own_empty w _ (Nat.le_refl _)) ((Below.refl _ _).alloc (Nat.le_refl _) _))
  go_enter Tryd.func14, Tryd.ntmps14
  go_wp2_with (fail)
  refine kSV ((sreader_all 121).go s 0 _ h1 (Nat.zero_le _) (by omega)) ?_
  intro A c xs z w2 hown hfar hb
  have HO := Lib.hid hown
  have HB := Lib.hid hb
  have hz2 := hb.size
  clear hown hb
  obtain ⟨n, HLN⟩ : ∃ q, Hid (xs.length = q) := ⟨_, rfl⟩
  have HF := Lib.hid hfar.out
  rw [HLN.out] at HO ⊢
  rcases HF.out with ⟨j, rfl, hbd, hri⟩ | ⟨rfl, hbd, a, l, hri⟩
  rotate_left
  · have HR := Lib.hid (readV_no (s := s.data.toList) (fun ys h => by
      have h2 := (readP_of (by rw [List.drop_zero] at hri; exact hri) ys h).2.2
      cases h2))
    have hne : ((-1 : Int) != (s.size : Int)) = true := by simp <;> omega
    have hne2 : ((-1 : Int) == (s.size : Int)) = false := by simp <;> omega
    clear hri hbd hfar
    go_wp2
    refine bodyPost_ret (v := .tuple #[.slice (some ⟨w2.heap.size, 0, none⟩) 0 0, .bool false]) (by simp [results, Tryd.results14, go_sem]) rfl (retNoS HR.out rfl (own_empty w2 _ hz2) (HB.out.alloc hz2 _))
  · obtain ⟨b0, b1, b2, b3⟩ := hbd
    have HP := Lib.hid (readP_of (by rw [List.drop_zero] at hri; exact hri))
    rw [HLN.out] at b2 b3
    clear hri hfar HF
    by_cases hj : j = s.size
    rotate_left
    · have HR := Lib.hid (readV_no (s := s.data.toList) (fun ys h => by
        have h2 := (HP.out ys h).2.1
        have h3 := congrArg List.length h2
        rw [List.length_drop, sz_list] at h3
        simp at h3
        omega))
      have hne : ((j : Int) != (s.size : Int)) = true := by simp <;> omega
      have hne2 : ((j : Int) == (s.size : Int)) = false := by simp <;> omega
      clear hj
      go_wp2
      refine bodyPost_ret (v := .tuple #[.slice (some ⟨w2.heap.size, 0, none⟩) 0 0, .bool false]) (by simp [results, Tryd.results14, go_sem]) rfl (retNoS HR.out rfl (own_empty w2 _ hz2) (HB.out.alloc hz2 _))
    · obtain rfl := hj
      have HM := Lib.hid (OwnM.at_ HO.out)
      have HC := Lib.hid (OwnM.cap HO.out)
      go_wp2_with (fail)
      refine kB (sTermOk_any A n c xs _ HM.out (by omega)) ?_ ?_
      rotate_left
      · intro w3 hno hb3
        have HR := Lib.hid (readV_no (s := s.data.toList) (fun ys h => by
          obtain ⟨rfl, -, -⟩ := HP.out ys h
          obtain ⟨t, ht, -⟩ := h
          exact hno.out ⟨t, ht⟩))
        have HB3 := Lib.hid (HB.out.trans (hb3.mono hz2))
        have hz3 := HB3.out.size
        clear hno hb3
        go_wp2
        refine bodyPost_ret (v := .tuple #[.slice (some ⟨w3.heap.size, 0, none⟩) 0 0, .bool false]) (by simp [results, Tryd.results14, go_sem]) rfl (retNoS HR.out rfl (own_empty w3 _ hz3) (HB3.out.alloc hz3 _))
      · intro w3 hyes hb3
        obtain ⟨t, ht⟩ := hyes.out
        have HT := Lib.hid ht
        have HB3 := Lib.hid (HB.out.trans (hb3.mono hz2))
        have hz3 := HB3.out.size
        have HO3 := Lib.hid (own_below HO.out hb3)
        have hn11 : n ≤ 11 := by rw [← HLN.out]; exact HT.out.2.2
        have HM3 := Lib.hid (show MarksAt w3 A n (marksOf t) by rw [HT.out.2.1]; exact OwnM.at_ HO3.out)
        clear hyes hb3 ht
        go_wp2_with (fail)
        refine kStr (n := 75) (l11Text_any t HT.out.1 A n c _ HM3.out HC.out hn11) (textT_le HT.out.1 HM3.out.len hn11) ?_
        intro S w4 hS hz hb4
        have HB4 := Lib.hid (HB3.out.trans (hb4.mono hz3))
        have hz4 := HB4.out.size
        have HO4 := Lib.hid (own_below HO3.out hb4)
        clear hb4
        by_cases he : S = s
        · have HOK := Lib.hid (show RdOk s.data.toList xs from ⟨t, HT.out, by rw [← he, hS.out]⟩)
          have HR := Lib.hid (readV_ok HOK.out (fun ys h => (HP.out ys h).1))
          have HSE := Lib.hid he.symm
          clear he
          obtain rfl := HSE.out
          go_wp2
          refine bodyPost_ret (v := .tuple #[.slice A n c, .bool true]) (by simp [results, Tryd.results14, go_sem]) rfl ?_
          rw [HR.out.1, HR.out.2]
          exact ⟨A, c, by rw [HLN.out], by rw [HLN.out]; exact HO4.out, HB4.out⟩
        · have hne := neq_list he
          have HR := Lib.hid (readV_no (s := s.data.toList) (fun ys h => by
            obtain ⟨rfl, -, -⟩ := HP.out ys h
            exact he (text_eq' (hS.out.trans (by rw [← textV_of HT.out]; exact rdOk_textV h)))))
          clear he
          go_wp2
          refine bodyPost_ret (v := .tuple #[.slice (some ⟨w4.heap.size, 0, none⟩) 0 0, .bool false]) (by simp [results, Tryd.results14, go_sem]) rfl (retNoS HR.out rfl (own_empty w4 _ hz4) (HB4.out.alloc hz4 _))

end Go.Proofs.YtcmicmenkbgfmaaDoor
