/- Draws of orders: l20Shuffle, DrawOrderOk; hasInt. -/
import Derived.Test.YtenhchfbmmlmmaaDR1
namespace Go.Proofs.Ytenhchfbmmlmmaa
open Go.RowKit

theorem rowI : RowTy Try.prog 23 3 (.int .i64 0) 1 8 := ⟨Try.underlying23, by kernel_rfl, rfl, by decide, by decide⟩

/-- A call that moves the reader and makes a row of n ints. -/
def MvI (R : Nat) (B : Int) (n : Nat) (w : World) (e : Ending) (w' : World) : Prop :=
  ∃ (A : Option Addr) (c : Nat) (xs : List Int), e = .returned (.slice A n c) ∧ w'.ownsRow w.heap.size 3 1 (.slice A n c) n (vI xs) ∧ xs.length = n ∧ Mv R B w w'
theorem kMvI {Pr : Program} {f : FuncId} {args : Array Value} {w : World} {K : Ending → World → Prop} {R n : Nat} {B : Int} (h : Calls Pr f args w (MvI R B n w))
    (h1 : ∀ A c xs w', w'.ownsRow w.heap.size 3 1 (.slice A n c) n (vI xs) → xs.length = n → Mv R B w w' → K (.returned (.slice A n c)) w') : Calls Pr f args w K :=
  h.mono fun e w' ⟨A, c, xs, he, ho, hl, hm⟩ => by subst he; exact h1 A c xs w' ho hl hm

theorem vI_app (xs ys : List Int) : vI (xs ++ ys) = vI xs ++ vI ys := by simp [vI]
theorem ownI_at {w : World} {base : Nat} {A : Option Addr} {n c : Nat} {xs : List Int} (h : w.ownsRow base 3 1 (.slice A n c) n (vI xs)) : IntsAt w A n xs := by
  obtain ⟨A', c', e, _, hi, _⟩ := own_ints h
  cases e; exact hi
theorem ownI_take {w : World} {base : Nat} {A : Option Addr} {n c k : Nat} {xs : List Int} (h : w.ownsRow base 3 1 (.slice A n c) n (vI xs)) (hk : k ≤ n) : IntsAt w A k (xs.take k) := (ownI_at h).cut hk
theorem IntsAt.part {w : World} {g n k : Nat} {xs : List Int} {c : Nat} (h : IntsAt w (some ⟨g, 0, none⟩) n xs) (hk : k ≤ n) (hc : n ≤ c) : IntsAt w (if c = k then some ⟨g, 0, none⟩ else some ⟨g, k, none⟩) (n - k) (xs.drop k) := by
  have hl := h.len
  refine ⟨by simp [hl], fun hn => ?_⟩
  rw [if_neg (by omega)]
  obtain ⟨b, off, e, hcell⟩ := h.cells (by omega)
  cases e
  refine ⟨g, k, rfl, fun j hj => ?_⟩
  have := hcell (k + j) (by omega)
  rw [Nat.zero_add] at this
  rw [this]
  simp [List.getD]
theorem IntsAt.newsO {w : World} {A : Option Addr} {a : Addr} {n : Nat} {xs : List Int} (h : IntsAt w A n xs) (ha : A = some a) : ∀ j u, (vI xs)[j]? = some u → w.cell? (a.add j) = some u := by
  intro j u hu
  have hl := h.len
  have hj : j < xs.length := by
    rcases Nat.lt_or_ge j xs.length with h1 | h1
    · exact h1
    · rw [vI, List.getElem?_eq_none (by simpa using h1)] at hu; cases hu
  obtain ⟨b, off, e, _⟩ := h.cells (by omega)
  rw [e] at ha
  cases ha
  subst e
  exact h.news j u hu

/-- An older row stands while a newer one grows. -/
theorem own_kept {w w' : World} {base : Nat} {e : TypeId} {size : Nat} {v : Value} {n : Nat} {xs : List Value} {row : Option Nat} {N : Nat} (h : w.ownsRow base e size v n xs) (hN : ∀ k, v.ownBlock = some k → k < N) (hg : w.grownBy w' row) (hr : ∀ g, row = some g → N ≤ g) : w'.ownsRow base e size v n xs := by
  refine h.kept hg ?_
  cases hv : v.ownBlock with
  | none => exact .inl rfl
  | some k =>
    refine .inr fun e => ?_
    have h1 := hN k hv
    have h2 := hr k e.symm
    omega

theorem own_cellsD {w : World} {base : Nat} {e : TypeId} {size : Nat} {A : Option Addr} {n c : Nat} {xs : List Value} (h : w.ownsRow base e size (.slice A n c) n xs) (hn : 0 < n) : ∃ g, A = some ⟨g, 0, none⟩ ∧ base ≤ g ∧ g < w.heap.size := by
  obtain ⟨g, cap, e, h1, h2⟩ := h.form hn
  cases e
  exact ⟨g, rfl, h1, h2⟩

set_option maxRecDepth 100000 in
set_option maxHeartbeats 2000000 in
theorem shuffle_any (R n : Nat) (B : Int) (w : World) (h : Rd w R B) (hB : B ≤ 900000000) (hn : n ≤ 1000) :
    Calls Try.prog 21 #[.pointer (some ⟨R, 0, none⟩), .int .i64 (n : Int)] w (MvI R (B + (n : Int)) n w) := by
  have HR := Lib.hid h
  have hR := h.lt
  clear h
  go_enter Try.func21, Try.ntmps21
  go_wp2
  go_loopw [5, 6] (fun o i wr => ∃ (k g cv : Nat) (xs : List Int), k ≤ n ∧ i = .int .i64 k ∧ o = .slice (some ⟨g, 0, none⟩) k cv ∧ xs.length = k ∧ wr.ownsRow w.heap.size 3 1 (.slice (some ⟨g, 0, none⟩) k cv) k (vI xs) ∧ Mv R (B + (k : Int)) w wr) (fun _ i _ => n - (intOf i).toNat)
  case atStart => exact ⟨0, w.heap.size, 0, [], Nat.zero_le _, rfl, rfl, rfl, own_lit w w.heap.size _ 1 #[] 0 (Nat.le_refl _) (by decide) rfl, grown_of_below ((Below.refl _ _).alloc (Nat.le_refl _) _) _, (HR.out.alloc _).mono (by omega)⟩
  case round =>
    obtain ⟨wo, rfl⟩ : ∃ wo : World, wo = wr := ⟨_, rfl⟩
    obtain ⟨k, g, cv, xs, hk, rfl, rfl, hxl, hown, hmv⟩ := hrel
    have HO := Lib.hid hown
    have HM := Lib.hid hmv
    have hcv : k ≤ cv := by obtain ⟨_, _, e, hcv, _⟩ := own_cells hown; cases e; exact hcv
    clear hown hmv
    by_cases hlt : k < n
    · go_wp2_with (fail)
      refine kPick (pick_any R (B + (k : Int)) ((k : Int) + 1) _ HM.out.2 (by omega)) ?_
      intro x w1 hx _ hm1 hs1
      obtain ⟨hx0, hx1⟩ := hx (by omega)
      obtain ⟨p, rfl⟩ := Int.eq_ofNat_of_zero_le hx0
      have hpk : p ≤ k := by omega
      have HO1 := Lib.hid (own_mv HO.out hR hm1)
      have HM1 := Lib.hid (show Mv R (B + (k : Int) + 1) w w1 from ⟨grown_tr HM.out.1 hm1.1, hm1.2⟩)
      have hgl : g < w1.heap.size := (HO1.out.lt g rfl).2
      clear hm1 hx0 hx1 hx hs1
      have HT1 := Lib.hid (ownI_take HO1.out hpk)
      have hw1 : w.heap.size ≤ w1.heap.size := HM1.out.1.size
      obtain ⟨Ad, hif⟩ : ∃ Ad, (if cv = p then some (⟨g, 0, none⟩ : Addr) else some ⟨g, p, none⟩) = some Ad := by split <;> exact ⟨_, rfl⟩
      go_wp2_with (first
        | (at_builtin; refine wpl_app0 rowI rfl _ _ (by rfl) w1.heap.size _ 0 [] (by rfl) (own_lit w1 w1.heap.size _ 1 #[] 0 (Nat.le_refl _) (by decide) rfl) ⟨g, 0, none⟩ p cv (vI (xs.take p)) (by rfl) (by simp [vI]; omega) (IntsAt.newsO (HT1.out.below ((Below.refl _ _).alloc (Nat.le_refl _) _)) rfl) (vI_one _) (by omega) (by simp) ?_; intro v2 w2 hown2 hgrow2 _
           have HM2 := Lib.hid ((HM1.out.alloc _).grown hgrow2 (fun k hk => by cases hk; exact hw1) hR)
           have HO2 := Lib.hid (own_kept (HO1.out.alloc _) (fun k hk => (HO1.out.lt k hk).2) hgrow2 (fun k hk => by cases hk; exact Nat.le_refl _))
           rw [Nat.zero_add, List.nil_append] at hown2
           have HN2 := Lib.hid hown2
           have hw2 : w1.heap.size ≤ w2.heap.size := by have := hgrow2.size; simp at this; omega
           clear hown2 hgrow2)
        | (at_builtin; refine wpl_app rowI rfl _ _ (by rfl) w1.heap.size _ p (vI (xs.take p)) (by rfl) (HN2.out.alloc _) ⟨w2.heap.size, 0, none⟩ 1 1 (vI [(k : Int)]) (by rfl) rfl (cell_one_at (by simp) _ _) (vI_one _) (by decide) (by omega) (by simp; omega) ?_; intro g3 cap3 w3 hown3 hgrow3 _ _
           have HM3 := Lib.hid ((HM2.out.alloc _).grown hgrow3 (fun k hk => Nat.le_trans hw1 (HN2.out.lt k hk).1) hR)
           have HO3 := Lib.hid (own_kept (HO2.out.alloc _) (fun k hk => (HO1.out.lt k hk).2) hgrow3 (fun k hk => (HN2.out.lt k hk).1))
           have HN3 := Lib.hid hown3
           have hw3 : w1.heap.size ≤ w3.heap.size := by have := hgrow3.size; simp at this; omega
           clear hown3 hgrow3
           have HT3 := Lib.hid ((ownI_at HO3.out).part hpk hcv)
           rw [hif] at HT3)
        | (at_builtin; refine wpl_app0 rowI rfl _ _ (by rfl) w1.heap.size _ (p + 1) (vI (xs.take p) ++ vI [(k : Int)]) (by rfl) HN3.out Ad (k - p) (cv - p) (vI (xs.drop p)) (by rfl) (by simp [vI]; omega) (IntsAt.newsO HT3.out rfl) (vI_one _) (by omega) hw3 ?_; intro v4 w4 hown4 hgrow4 _
           have HM4 := Lib.hid (HM3.out.grown hgrow4 (fun k hk => Nat.le_trans hw1 (HN3.out.lt k hk).1) hR)))
      obtain ⟨g4, cap4, rfl, hg4, hl4⟩ := hown4.form (by omega)
      go_wp2
      go_roundw
      case rel =>
        have e1 : p + 1 + (k - p) = k + 1 := by omega
        rw [e1] at hown4
        rw [← vI_app, ← vI_app] at hown4
        refine ⟨k + 1, g4, cap4, xs.take p ++ [(k : Int)] ++ xs.drop p, by omega, by go_num, by rw [e1], by simp; omega, own_base hown4 hw1, HM4.out.mono (by omega)⟩
      case measure => simp [intOf]; omega
    · obtain rfl : k = n := by omega
      go_wp2
      go_ret
      exact ⟨some ⟨g, 0, none⟩, cv, xs, rfl, HO.out, hxl, HM.out⟩


end Go.Proofs.Ytenhchfbmmlmmaa
