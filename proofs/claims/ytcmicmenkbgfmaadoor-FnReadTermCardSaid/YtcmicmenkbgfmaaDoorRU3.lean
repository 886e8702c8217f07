/- (*termReader).boths and thens: from the level below. -/
import Derived.Test.YtcmicmenkbgfmaaDoorRU2
import Derived.Test.YtcmicmenkbgfmaaDoorOA
import Derived.Test.YtcmicmenkbgfmaaDoorM9
set_option linter.unusedSimpArgs false
namespace Go.Proofs.YtcmicmenkbgfmaaDoor
open Go.RowKit

/-- What a reading call leaves. -/
def PV (K : Lv) (R : Nat) (s : ByteArray) (i : Nat) (f : Bool) (w : World) (e : Ending) (w' : World) : Prop :=
  ∃ (A : Option Addr) (c : Nat) (xs : List Mk) (i' : Nat) (f' : Bool), e = .returned (.slice A xs.length c) ∧ OwnM w' w.heap.size A xs.length c xs ∧ (i ≤ i' ∧ i' ≤ s.size ∧ 1 ≤ xs.length ∧ xs.length ≤ 2 * (i' - i) + 1) ∧ RI K [] (s.data.toList.drop i) f xs (s.data.toList.drop i') f' ∧ MvR R s i' f' w w'
theorem kPV {Pr : Program} {fn : FuncId} {args : Array Value} {w : World} {Q : Ending → World → Prop} {K : Lv} {R i : Nat} {s : ByteArray} {f : Bool} (h : Calls Pr fn args w (PV K R s i f w))
    (h1 : ∀ A c xs i' f' w', OwnM w' w.heap.size A xs.length c xs → (i ≤ i' ∧ i' ≤ s.size ∧ 1 ≤ xs.length ∧ xs.length ≤ 2 * (i' - i) + 1) → Hid (RI K [] (s.data.toList.drop i) f xs (s.data.toList.drop i') f') → MvR R s i' f' w w' → Q (.returned (.slice A xs.length c)) w') : Calls Pr fn args w Q :=
  h.mono fun e w' ⟨A, c, xs, i', f', he, h2, h3, h4, h5⟩ => by subst he; exact h1 A c xs i' f' w' h2 h3 (Lib.hid h4) h5
def PAt (K : Lv) (fn : FuncId) (N : Nat) : Prop := ∀ (R : Nat) (s : ByteArray) (i : Nat) (f : Bool) (w : World), s.size ≤ 120 → i ≤ s.size → s.size - i < N → TR w R s i f → GV w → Calls Tryd.prog fn #[.pointer (some ⟨R, 0, none⟩)] w (PV K R s i f w)
theorem PAt.go {K : Lv} {fn : FuncId} {N : Nat} (h : PAt K fn N) (R : Nat) (s : ByteArray) (i : Nat) (f : Bool) (w : World) (h1 : s.size ≤ 120) (h2 : i ≤ s.size) (h3 : s.size - i < N) (h4 : TR w R s i f) (h5 : GV w) : Calls Tryd.prog fn #[.pointer (some ⟨R, 0, none⟩)] w (PV K R s i f w) := h R s i f w h1 h2 h3 h4 h5
theorem MvR.blk {w w1 w2 : World} {R i : Nat} {s : ByteArray} {f : Bool} {base : Nat} {e : TypeId} {size : Nat} {v : Value} {n : Nat} {xs : List Value} (h : MvR R s i f w w1) (hR : R < w.heap.size) (ho : w1.ownsRow base e size v n xs) (hb : w.heap.size ≤ base) (hg : w1.grownBy w2 v.ownBlock) : MvR R s i f w w2 :=
  h.grown hg (fun g e => by have := (ho.lt g e).1; omega) hR

set_option maxRecDepth 100000 in
set_option maxHeartbeats 4000000 in
theorem boths_of (N : Nat) (hW : PAt .within 55 N) : PAt .boths 46 N := by
  intro R s i0 f0 w hs hi0 hN ht hg
  have HW := Lib.hid hW
  have HG := Lib.hid hg
  have HT := Lib.hid ht
  have hR := ht.lt
  clear hW hg ht
  go_enter Tryd.func46, Tryd.ntmps46
  go_wp2_with (fail)
  refine kPV (HW.out.go R s i0 f0 _ hs hi0 hN HT.out HG.out) ?_
  intro A c xs i f w1 hown hbd hri hm
  have HO1 := Lib.hid hown
  have HM1 := Lib.hid hm
  clear hown hm
  go_wp2_with (fail)
  go_loopw [3] (fun o wr => ∃ (A : Option Addr) (c : Nat) (xs : List Mk) (i : Nat) (f : Bool), o = .slice A xs.length c ∧ OwnM wr w.heap.size A xs.length c xs ∧ (i0 ≤ i ∧ i ≤ s.size ∧ 1 ≤ xs.length ∧ xs.length ≤ 2 * (i - i0) + 1) ∧ (∀ ys l' f', RI .tB xs (s.data.toList.drop i) f ys l' f' → RI .boths [] (s.data.toList.drop i0) f0 ys l' f') ∧ MvR R s i f w wr) (fun _ wr => s.size - posOf wr R)
  case atStart => exact ⟨A, c, xs, i, f, rfl, HO1.out, hbd, fun ys l' f' h => RI.boths hri.out h, HM1.out⟩
  case round =>
    obtain ⟨wo, rfl⟩ : ∃ wo : World, wo = wr := ⟨_, rfl⟩
    clear hri HO1 HM1 hbd
    obtain ⟨A, c, xs, i, f, rfl, hown, hbd, hk, hm⟩ := hrel
    have HO := Lib.hid hown
    have HM := Lib.hid hm
    have HK := Lib.hid hk
    obtain ⟨b0, b1, b2, b3⟩ := hbd
    clear hown hm hk
    obtain ⟨n, HLN⟩ : ∃ q, Hid (xs.length = q) := ⟨_, rfl⟩
    rw [HLN.out] at HO b2 b3 ⊢
    go_wp2_with (fail)
    refine kTk (take_any R s i f 38 38 rfl _ hs HM.out.tr) ?_ ?_
    · intro hlt hd w2 hm2
      have HM2 := Lib.hid (HM.out.trans hm2)
      have HO2 := Lib.hid (own_mvR HO.out hR hm2)
      have HG2 := Lib.hid (HG.out.mv HT.out HM2.out)
      clear hm2 HO
      go_wp2_with (fail)
      refine kPV (HW.out.go R s (i + 1) f _ hs (by omega) (by omega) HM2.out.tr HG2.out) ?_
      intro A2 c2 ys i2 f2 w3 hown3 hbd3 hri3 hm3
      have HM3 := Lib.hid (HM2.out.trans hm3)
      have HO3 := Lib.hid (own_mvR HO2.out hR hm3)
      have HY3 := Lib.hid (OwnM.at_ hown3)
      obtain ⟨d0, d1, d2, d3⟩ := hbd3
      have hz2 := HM2.out.size
      have hz3 := HM3.out.size
      clear hown3 hm3 HO2 HG2
      obtain ⟨m, HLM⟩ : ∃ q, Hid (ys.length = q) := ⟨_, rfl⟩
      rw [HLM.out] at HY3 d2 d3 ⊢
      obtain ⟨g1, o1, rfl⟩ := HY3.out.some (by omega)
      go_wp2_with (first
        | (at_builtin; refine wpl_appX rowM rfl _ _ (by rfl) w.heap.size _ n (v3 xs) (by rfl) HO3.out (some ⟨g1, o1, none⟩) m c2 (v3 ys) (by rfl) (fun e => by cases e) (by rw [v3_len, HLM.out]) (fun ad e => by cases e; exact HY3.out.news) (v3_one _) (n + m) rfl (v3 (xs ++ ys)) (v3_append _ _).symm (by omega) hz3 ?_
           intro A4 c4 w4 hown4 hgrow4 hat4
           have HM4 := Lib.hid (HM3.out.blk hR HO3.out (Nat.le_refl _) hgrow4)
           have HO4 := Lib.hid hown4
           have hz4 := HM4.out.size
           clear hown4 hgrow4 hat4)
        | (at_builtin; refine wpl_appX rowM rfl _ _ (by rfl) w.heap.size _ (n + m) (v3 (xs ++ ys)) (by rfl) (HO4.out.alloc _) (some ⟨w4.heap.size, 0, none⟩) 1 1 (v3 [(2, 0, 0)]) (by rfl) (fun e => by cases e) rfl (fun ad e => by cases e; exact cell3_at (by simp) _ _) (v3_one _) (n + m + 1) rfl (v3 (xs ++ ys ++ [(2, 0, 0)])) (v3_append _ _).symm (by omega) (by simp; omega) ?_
           intro A5 c5 w5 hown5 hgrow5 hat5
           have HM5 := Lib.hid ((HM4.out.below ((Below.refl _ _).alloc (Nat.le_refl _) _)).blk hR (HO4.out.alloc _) (Nat.le_refl _) hgrow5)
           have HO5 := Lib.hid hown5
           clear hown5 hgrow5 hat5)
        | fail)
      go_wp2
      go_roundw
      case rel =>
        have hl : (xs ++ ys ++ [((2 : Int), (0 : Int), (0 : Int))]).length = n + m + 1 := by rw [List.length_append, List.length_append, HLN.out, HLM.out]; rfl
        refine ⟨A5, c5, xs ++ ys ++ [(2, 0, 0)], i2, f2, by rw [hl], by rw [hl]; exact HO5.out, ?_, ?_, HM5.out⟩
        · rw [hl]; omega
        · intro zs l' f' h
          exact HK.out _ _ _ (by rw [hd.out]; exact RI.tBmore hri3.out h)
      case measure =>
        rw [HM5.out.pos, HM.out.pos]; omega
    · intro hne w2 hm2
      go_wp2
      go_ret
      exact ⟨A, c, xs, i, f, by rw [HLN.out]; rfl, by rw [HLN.out]; exact own_mvR HO.out hR hm2, by rw [HLN.out]; exact ⟨b0, b1, b2, b3⟩, HK.out _ _ _ (RI.tBstop hne.out), HM.out.trans hm2⟩

set_option maxRecDepth 100000 in
set_option maxHeartbeats 4000000 in
theorem thens_of (N : Nat) (hW : PAt .boths 46 N) : PAt .thens 28 N := by
  intro R s i0 f0 w hs hi0 hN ht hg
  have HW := Lib.hid hW
  have HG := Lib.hid hg
  have HT := Lib.hid ht
  have hR := ht.lt
  clear hW hg ht
  go_enter Tryd.func28, Tryd.ntmps28
  go_wp2_with (fail)
  refine kPV (HW.out.go R s i0 f0 _ hs hi0 hN HT.out HG.out) ?_
  intro A c xs i f w1 hown hbd hri hm
  have HO1 := Lib.hid hown
  have HM1 := Lib.hid hm
  clear hown hm
  go_wp2_with (fail)
  go_loopw [3] (fun o wr => ∃ (A : Option Addr) (c : Nat) (xs : List Mk) (i : Nat) (f : Bool), o = .slice A xs.length c ∧ OwnM wr w.heap.size A xs.length c xs ∧ (i0 ≤ i ∧ i ≤ s.size ∧ 1 ≤ xs.length ∧ xs.length ≤ 2 * (i - i0) + 1) ∧ (∀ ys l' f', RI .tT xs (s.data.toList.drop i) f ys l' f' → RI .thens [] (s.data.toList.drop i0) f0 ys l' f') ∧ MvR R s i f w wr) (fun _ wr => s.size - posOf wr R)
  case atStart => exact ⟨A, c, xs, i, f, rfl, HO1.out, hbd, fun ys l' f' h => RI.thens hri.out h, HM1.out⟩
  case round =>
    obtain ⟨wo, rfl⟩ : ∃ wo : World, wo = wr := ⟨_, rfl⟩
    clear hri HO1 HM1 hbd
    obtain ⟨A, c, xs, i, f, rfl, hown, hbd, hk, hm⟩ := hrel
    have HO := Lib.hid hown
    have HM := Lib.hid hm
    have HK := Lib.hid hk
    obtain ⟨b0, b1, b2, b3⟩ := hbd
    clear hown hm hk
    obtain ⟨n, HLN⟩ : ∃ q, Hid (xs.length = q) := ⟨_, rfl⟩
    rw [HLN.out] at HO b2 b3 ⊢
    go_wp2_with (fail)
    refine kTk (take_any R s i f 59 59 rfl _ hs HM.out.tr) ?_ ?_
    · intro hlt hd w2 hm2
      have HM2 := Lib.hid (HM.out.trans hm2)
      have HO2 := Lib.hid (own_mvR HO.out hR hm2)
      have HG2 := Lib.hid (HG.out.mv HT.out HM2.out)
      clear hm2 HO
      go_wp2_with (fail)
      refine kPV (HW.out.go R s (i + 1) f _ hs (by omega) (by omega) HM2.out.tr HG2.out) ?_
      intro A2 c2 ys i2 f2 w3 hown3 hbd3 hri3 hm3
      have HM3 := Lib.hid (HM2.out.trans hm3)
      have HO3 := Lib.hid (own_mvR HO2.out hR hm3)
      have HY3 := Lib.hid (OwnM.at_ hown3)
      obtain ⟨d0, d1, d2, d3⟩ := hbd3
      have hz2 := HM2.out.size
      have hz3 := HM3.out.size
      clear hown3 hm3 HO2 HG2
      obtain ⟨m, HLM⟩ : ∃ q, Hid (ys.length = q) := ⟨_, rfl⟩
      rw [HLM.out] at HY3 d2 d3 ⊢
      obtain ⟨g1, o1, rfl⟩ := HY3.out.some (by omega)
      go_wp2_with (first
        | (at_builtin; refine wpl_appX rowM rfl _ _ (by rfl) w.heap.size _ n (v3 xs) (by rfl) HO3.out (some ⟨g1, o1, none⟩) m c2 (v3 ys) (by rfl) (fun e => by cases e) (by rw [v3_len, HLM.out]) (fun ad e => by cases e; exact HY3.out.news) (v3_one _) (n + m) rfl (v3 (xs ++ ys)) (v3_append _ _).symm (by omega) hz3 ?_
           intro A4 c4 w4 hown4 hgrow4 hat4
           have HM4 := Lib.hid (HM3.out.blk hR HO3.out (Nat.le_refl _) hgrow4)
           have HO4 := Lib.hid hown4
           have hz4 := HM4.out.size
           clear hown4 hgrow4 hat4)
        | (at_builtin; refine wpl_appX rowM rfl _ _ (by rfl) w.heap.size _ (n + m) (v3 (xs ++ ys)) (by rfl) (HO4.out.alloc _) (some ⟨w4.heap.size, 0, none⟩) 1 1 (v3 [(1, 0, 0)]) (by rfl) (fun e => by cases e) rfl (fun ad e => by cases e; exact cell3_at (by simp) _ _) (v3_one _) (n + m + 1) rfl (v3 (xs ++ ys ++ [(1, 0, 0)])) (v3_append _ _).symm (by omega) (by simp; omega) ?_
           intro A5 c5 w5 hown5 hgrow5 hat5
           have HM5 := Lib.hid ((HM4.out.below ((Below.refl _ _).alloc (Nat.le_refl _) _)).blk hR (HO4.out.alloc _) (Nat.le_refl _) hgrow5)
           have HO5 := Lib.hid hown5
           clear hown5 hgrow5 hat5)
        | fail)
      go_wp2
      go_roundw
      case rel =>
        have hl : (xs ++ ys ++ [((1 : Int), (0 : Int), (0 : Int))]).length = n + m + 1 := by rw [List.length_append, List.length_append, HLN.out, HLM.out]; rfl
        refine ⟨A5, c5, xs ++ ys ++ [(1, 0, 0)], i2, f2, by rw [hl], by rw [hl]; exact HO5.out, ?_, ?_, HM5.out⟩
        · rw [hl]; omega
        · intro zs l' f' h
          exact HK.out _ _ _ (by rw [hd.out]; exact RI.tTmore hri3.out h)
      case measure =>
        rw [HM5.out.pos, HM.out.pos]; omega
    · intro hne w2 hm2
      go_wp2
      go_ret
      exact ⟨A, c, xs, i, f, by rw [HLN.out]; rfl, by rw [HLN.out]; exact own_mvR HO.out hR hm2, by rw [HLN.out]; exact ⟨b0, b1, b2, b3⟩, HK.out _ _ _ (RI.tTstop hne.out), HM.out.trans hm2⟩

end Go.Proofs.YtcmicmenkbgfmaaDoor
