/- A step of a term given: plain facts; both GivenTerm. -/
import Derived.Test.YtookhelfbnhadaaM8
import Derived.Test.YtookhelfbnhadaaO2
namespace Go.Proofs.Ytookhelfbnhadaa
open Go.RowKit

/-- Mark j is the step that is asked for, and may last so. -/
def hitG (xs : List Mk) (s l : Int) (j : Nat) : Prop := (xs.getD j (0, 0, 0)).1 = 0 ∧ (stepsIn (xs.take j) : Int) = s ∧ InR l (xs.getD j (0, 0, 0)).2.1 (xs.getD j (0, 0, 0)).2.2
theorem hitG_iff (xs : List Mk) (s l : Int) (j : Nat) : hitG xs s l j ↔ ((xs.getD j (0, 0, 0)).1 = 0 ∧ (stepsIn (xs.take j) : Int) = s ∧ InR l (xs.getD j (0, 0, 0)).2.1 (xs.getD j (0, 0, 0)).2.2) := Iff.rfl
noncomputable def chgG (xs : List Mk) (s l : Int) (j : Nat) : Mk := @ite _ (hitG xs s l j) (Classical.propDecidable _) (0, l, l) (xs.getD j (0, 0, 0))
noncomputable def outG (xs : List Mk) (s l : Int) (k : Nat) : List Mk := (List.range k).map (chgG xs s l)
def anyG (xs : List Mk) (s l : Int) (k : Nat) : Prop := ∃ j, j < k ∧ hitG xs s l j
theorem outG_len (xs : List Mk) (s l : Int) (k : Nat) : (outG xs s l k).length = k := by simp [outG]
theorem outG_succ (xs : List Mk) (s l : Int) (k : Nat) : outG xs s l (k + 1) = outG xs s l k ++ [chgG xs s l k] := by simp [outG, List.range_succ]
theorem chgG_hit {xs : List Mk} {s l : Int} {j : Nat} (h : hitG xs s l j) : chgG xs s l j = (0, l, l) := by unfold chgG; rw [if_pos h]
theorem chgG_not {xs : List Mk} {s l : Int} {j : Nat} (h : ¬ hitG xs s l j) : chgG xs s l j = xs.getD j (0, 0, 0) := by unfold chgG; rw [if_neg h]
theorem anyG_zero (xs : List Mk) (s l : Int) : ¬ anyG xs s l 0 := by rintro ⟨j, hj, _⟩; omega
theorem anyG_hit {xs : List Mk} {s l : Int} {k : Nat} (h : hitG xs s l k) : anyG xs s l (k + 1) := ⟨k, by omega, h⟩
theorem anyG_not {xs : List Mk} {s l : Int} {k : Nat} (h : ¬ hitG xs s l k) : anyG xs s l (k + 1) ↔ anyG xs s l k := by
  constructor
  · rintro ⟨j, hj, hh⟩
    rcases Nat.lt_or_ge j k with h1 | h1
    · exact ⟨j, h1, hh⟩
    · obtain rfl : j = k := by omega
      exact absurd hh h
  · rintro ⟨j, hj, hh⟩; exact ⟨j, by omega, hh⟩
theorem stepsIn_mono (xs : List Mk) {i j : Nat} (h : i ≤ j) : stepsIn (xs.take i) ≤ stepsIn (xs.take j) := by
  have e : xs.take i = (xs.take j).take i := by rw [List.take_take]; congr 1; omega
  rw [e]
  exact (List.take_sublist i (xs.take j)).countP_le
theorem step_lt {xs : List Mk} {i j : Nat} (h : i < j) (hi : i < xs.length) (h0 : (xs.getD i (0, 0, 0)).1 = 0) : stepsIn (xs.take i) < stepsIn (xs.take j) := by
  have h1 := stepsIn_take_succ hi
  rw [if_pos h0] at h1
  have h2 := stepsIn_mono xs (i := i + 1) (j := j) (by omega)
  omega
/-- All marks as they were but one. -/
theorem outG_set {xs : List Mk} {s l : Int} {k : Nat} (hk : k < xs.length) (h : hitG xs s l k) : outG xs s l xs.length = xs.set k (0, l, l) := by
  apply List.ext_getElem (by simp [outG])
  intro i h1 h2
  have hi : i < xs.length := by simpa [outG] using h1
  have e1 : (outG xs s l xs.length)[i] = chgG xs s l i := by simp [outG]
  rw [e1, List.getElem_set]
  by_cases hik : k = i
  · subst hik; rw [if_pos rfl, chgG_hit h]
  · rw [if_neg hik, chgG_not]
    · simp [List.getD, hi]
    · rintro ⟨h0, h3, _⟩
      obtain ⟨g0, g3, _⟩ := h
      rcases Nat.lt_or_ge i k with h4 | h4
      · have := step_lt h4 hi h0; omega
      · have := step_lt (show k < i by omega) hk g0; omega
/-- No further mark can be hit behind a step of that number. -/
theorem noG {xs : List Mk} {s l : Int} {k : Nat} (hk : k < xs.length) (h0 : (xs.getD k (0, 0, 0)).1 = 0) (hs : (stepsIn (xs.take k) : Int) = s) (hn : ¬ hitG xs s l k) (n : Nat) (_ : n ≤ xs.length) : ¬ anyG xs s l n := by
  rintro ⟨j, hj, hh⟩
  obtain ⟨g0, g3, _⟩ := id hh
  rcases Nat.lt_trichotomy j k with h4 | h4 | h4
  · have := step_lt h4 (by omega) g0; omega
  · subst h4; exact hn hh
  · have := step_lt h4 hk h0; omega

noncomputable def GivP (xs : List Mk) (s l : Int) : Prop := TOk xs ∧ anyG xs s l xs.length
noncomputable def GivF (xs : List Mk) (s l : Int) : List Mk := @ite _ (GivP xs s l) (Classical.propDecidable _) (outG xs s l xs.length) []
theorem givF_pos {xs : List Mk} {s l : Int} (h : GivP xs s l) : GivF xs s l = outG xs s l xs.length := by unfold GivF; rw [if_pos h]
theorem givF_neg {xs : List Mk} {s l : Int} (h : ¬ GivP xs s l) : GivF xs s l = [] := by unfold GivF; rw [if_neg h]

theorem givF_len (xs : List Mk) (s l : Int) : (GivF xs s l).length ≤ xs.length := by
  by_cases h : GivP xs s l
  · rw [givF_pos h, outG_len]; exact Nat.le_refl _
  · rw [givF_neg h]; exact Nat.zero_le _

/-- A block of three cells just laid. -/
theorem cell3_at {w : World} {q : Nat} (hq : w.heap.size = q) (x : Mk) (t : TypeId) : ∀ j u, (v3 [x])[j]? = some u → (w.alloc (.cells #[.int .i64 x.1, .int .i64 x.2.1, .int .i64 x.2.2] t)).cell? ((⟨q, 0, none⟩ : Addr).add j) = some u := by
  subst hq
  intro j u hu
  rw [addr_add, Nat.zero_add, World.cell?_alloc_new]
  have e : v3 [x] = [.int .i64 x.1, .int .i64 x.2.1, .int .i64 x.2.2] := rfl
  rw [e] at hu
  match j with
  | 0 => simpa using hu
  | 1 => simpa using hu
  | 2 => simpa using hu
  | j + 3 => simp at hu
theorem MarksAt.news {w : World} {a : Addr} {n : Nat} {xs : List Mk} (h : MarksAt w (Option.some a) n xs) : ∀ j u, (v3 xs)[j]? = Option.some u → w.cell? (a.add j) = Option.some u := by
  intro j u hu
  have hl := h.len
  have hj : j < xs.length * 3 := by
    rcases Nat.lt_or_ge j (xs.length * 3) with h1 | h1
    · exact h1
    · rw [List.getElem?_eq_none (by rw [v3_len]; exact h1)] at hu; cases hu
  obtain ⟨b, off, e, hc⟩ := h.cells (by omega)
  cases e
  exact v3_of (fun j hj => hc j (by omega)) j u hu
theorem own_set3 {w : World} {base g n cap k : Nat} {xs : List Mk} (h : OwnM w base (some ⟨g, 0, none⟩) n cap xs) (hk : k < n) (y : Mk) :
    OwnM (((w.setCell ⟨g, k * 3, none⟩ (.int .i64 y.1)).setCell ⟨g, k * 3 + 1, none⟩ (.int .i64 y.2.1)).setCell ⟨g, k * 3 + 2, none⟩ (.int .i64 y.2.2)) base (some ⟨g, 0, none⟩) n cap (xs.set k y) := by
  have hl := h.len
  have hkx : k < xs.length := by omega
  have h1 := own_set (own_set (own_set h (k * 3) (.int .i64 y.1)) (k * 3 + 1) (.int .i64 y.2.1)) (k * 3 + 2) (.int .i64 y.2.2)
  have h2 := set3 (xs.drop (k + 1)) (xs.take k) xs[k] y
  rw [← List.drop_eq_getElem_cons hkx, List.take_append_drop, show (xs.take k).length = k by simp; omega] at h2
  rw [h2] at h1
  rwa [List.set_eq_take_append_cons_drop, if_pos hkx]
theorem OwnM.nil (w : World) (base : Nat) : OwnM w base none 0 0 [] := World.ownsRow_nil _ _ _ _
theorem OwnM.empty (w : World) (base : Nat) (hb : base ≤ w.heap.size) : OwnM (w.alloc (.cells #[] 27)) base (some ⟨w.heap.size, 0, none⟩) 0 0 [] := own_lit w base _ 3 #[] 0 hb (by decide) rfl

theorem own_app {w wo W wB : World} {B0 : Nat} {e : TypeId} {size : Nat} {v : Value} {n : Nat} {xs : List Value} (hb : Below B0 w wo) (hW : Below wo.heap.size wo W) (hown : wo.ownsRow B0 e size v n xs) (hgrow : W.grownBy wB v.ownBlock) (hB : B0 ≤ wo.heap.size) : Below B0 w wB :=
  (hb.trans (hW.mono hB)).grown hgrow (Nat.le_trans hB hW.size) (fun k hk => (hown.lt k hk).1)

set_option maxRecDepth 100000 in
set_option maxHeartbeats 2000000 in
theorem sGivenTerm_any (A : Option Addr) (n c : Nat) (xs : List Mk) (s l : Int) (w : World) (h : MarksAt w A n xs) (hn : n ≤ 1048576) :
    Calls Try.prog 26 #[.slice A n c, .int .i64 s, .int .i64 l] w (NewMB w (GivF xs s l) (B (GivP xs s l))) := by
  have HL := Lib.hid h.len
  by_cases hT : TOk xs
  rotate_left
  · have hP : ¬ GivP xs s l := fun hh => hT hh.1
    rw [givF_neg hP, B_false hP]
    have HT := Lib.hid hT
    clear hT hP
    go_enter Try.func26, Try.ntmps26
    go_wp2_with (fail)
    refine kB (sTermOk_any A n c xs _ h hn) (fun _ hne _ => absurd hne.out HT.out) ?_
    intro w1 hp hb1
    go_wp2
    refine bodyPost_ret (v := .tuple #[.slice (some ⟨w1.heap.size, 0, none⟩) 0 0, .bool false]) (by simp [results, Try.results26, go_sem]) rfl ⟨_, _, rfl, OwnM.empty w1 _ hb1.size, hb1.alloc hb1.size _⟩
  · have h11 := hT.len
    rw [HL.out] at h11
    have HT := Lib.hid hT
    clear hT
    go_enter Try.func26, Try.ntmps26
    go_wp2_with (fail)
    refine kB (sTermOk_any A n c xs _ h hn) ?_ (fun _ hne _ => absurd HT.out hne.out)
    intro w1 _ hb1
    have HB1 := Lib.hid hb1
    clear hb1
    go_wp2
    go_loopw [8, 9, 10, 11] (fun o t g i wr => ∃ (k : Nat) (Av : Option Addr) (cv : Nat), k ≤ n ∧ i = .int .i64 k ∧ t = .int .i64 (stepsIn (xs.take k) : Int) ∧ g = .bool (B (anyG xs s l k)) ∧ o = .slice Av k cv ∧ OwnM wr w.heap.size Av k cv (outG xs s l k) ∧ Below w.heap.size w wr) (fun _ _ _ i _ => n - (intOf i).toNat)
    case atStart => exact ⟨0, _, _, Nat.zero_le _, rfl, rfl, by rw [B_false (anyG_zero _ _ _)], rfl, OwnM.empty w1 _ HB1.out.size, HB1.out.alloc HB1.out.size _⟩
    case round =>
      obtain ⟨wo, rfl⟩ : ∃ wo : World, wo = wr := ⟨_, rfl⟩
      obtain ⟨k, Av, cv, hk, rfl, rfl, rfl, rfl, hown, hb⟩ := hrel
      have HOWN := Lib.hid hown
      have HB := Lib.hid hb
      clear hown hb
      by_cases hlt : k < n
      · obtain ⟨b, off, rfl, c0, c1, c2⟩ := (h.below HB.out).at_ hlt
        have hs := Lib.hid (stepsIn_take_succ (xs := xs) (k := k) (by rw [HL.out]; exact hlt))
        have hle := stepsIn_le (xs.take k)
        rw [List.length_take] at hle
        have HH := Lib.hid (hitG_iff xs s l k)
        have HS := Lib.hid (outG_succ xs s l k)
        have HCH := Lib.hid (fun hh => chgG_hit (xs := xs) (s := s) (l := l) (j := k) hh)
        have HCN := Lib.hid (fun hh => chgG_not (xs := xs) (s := s) (l := l) (j := k) hh)
        have HAH := Lib.hid (fun hh => anyG_hit (xs := xs) (s := s) (l := l) (k := k) hh)
        have HAN := Lib.hid (fun hh => anyG_not (xs := xs) (s := s) (l := l) (k := k) hh)
        obtain ⟨o, HO⟩ : ∃ q, Hid (outG xs s l k = q) := ⟨_, rfl⟩
        obtain ⟨q, HQ⟩ : ∃ q, Hid (stepsIn (xs.take k) = q) := ⟨_, rfl⟩
        obtain ⟨g, HG⟩ : ∃ q, Hid (B (anyG xs s l k) = q) := ⟨_, rfl⟩
        rw [HQ.out] at hle HH ⊢
        rw [HG.out]
        rw [HO.out] at HOWN HS
        obtain ⟨x, HX⟩ : ∃ q, Hid (xs.getD k (0, 0, 0) = q) := ⟨_, rfl⟩
        rw [HX.out] at c0 c1 c2 HH HCN
        obtain ⟨x0, x1, x2⟩ := x
        simp only at c0 c1 c2 HH
        by_cases h0 : x0 = 0
        · subst h0
          by_cases hqs : (q : Int) = s
          · go_wp2_with (fail)
            refine kS (l1In_any l x1 x2 _) ?_ ?_ <;> intro hin
            · have hit := Lib.hid (HH.out.2 ⟨trivial, hqs, hin.out⟩)
              go_wp2_with (at_builtin; refine wpl_app rowM rfl _ _ (by rfl) w.heap.size _ k (v3 o) (by rfl) (own_below HOWN.out (by repeat (first | exact Below.refl _ _ | refine Below.alloc ?_ (by simp) _ | refine Below.setCell ?_ (by simp) _ | apply Below.drew))) ⟨wo.heap.size + 1, 0, none⟩ 1 1 (v3 [(0, l, l)]) (by rfl) rfl (cell3_at (by simp) _ _) (v3_one _) (by decide) (by omega) (by have := HB.out.size; simp; omega) ?_; intro g' cap' wB hownB hgrow hat hltB)
              go_wp2
              go_roundw
              case rel =>
                refine ⟨k + 1, _, _, by omega, by go_num, ?_, ?_, rfl, ?_, own_app HB.out (by repeat (first | exact Below.refl _ _ | refine Below.alloc ?_ (by simp) _)) HOWN.out hgrow HB.out.size⟩
                · rw [hs.out, HX.out, HQ.out]; simp; try omega
                · rw [B_true (HAH.out hit.out)]
                · rw [HS.out, HCH.out hit.out]; show World.ownsRow _ _ _ _ _ _ (v3 _); rw [v3_append]; exact hownB
              case measure => simp [intOf]; omega
            · have hit := Lib.hid (fun hh => hin.out (HH.out.1 hh).2.2)
              go_wp2_with (at_builtin; refine wpl_app rowM rfl _ _ (by rfl) w.heap.size _ k (v3 o) (by rfl) (own_below HOWN.out (by repeat (first | exact Below.refl _ _ | refine Below.alloc ?_ (by simp) _ | refine Below.setCell ?_ (by simp) _ | apply Below.drew))) ⟨wo.heap.size + 1, 0, none⟩ 1 1 (v3 [(0, x1, x2)]) (by rfl) rfl (cell3_at (by simp) _ _) (v3_one _) (by decide) (by omega) (by have := HB.out.size; simp; omega) ?_; intro g' cap' wB hownB hgrow hat hltB)
              go_wp2
              go_roundw
              case rel =>
                refine ⟨k + 1, _, _, by omega, by go_num, ?_, ?_, rfl, ?_, own_app HB.out (by repeat (first | exact Below.refl _ _ | refine Below.alloc ?_ (by simp) _)) HOWN.out hgrow HB.out.size⟩
                · rw [hs.out, HX.out, HQ.out]; simp; try omega
                · rw [B_congr (HAN.out hit.out), HG.out]
                · rw [HS.out, HCN.out hit.out]; show World.ownsRow _ _ _ _ _ _ (v3 _); rw [v3_append]; exact hownB
              case measure => simp [intOf]; omega
          · have hit := Lib.hid (fun hh => hqs (HH.out.1 hh).2.1)
            have q0 : ((q : Int) == s) = false := by simpa using hqs
            clear hqs
            go_wp2_with (at_builtin; refine wpl_app rowM rfl _ _ (by rfl) w.heap.size _ k (v3 o) (by rfl) (own_below HOWN.out (by repeat (first | exact Below.refl _ _ | refine Below.alloc ?_ (by simp) _ | refine Below.setCell ?_ (by simp) _ | apply Below.drew))) ⟨wo.heap.size + 1, 0, none⟩ 1 1 (v3 [(0, x1, x2)]) (by rfl) rfl (cell3_at (by simp) _ _) (v3_one _) (by decide) (by omega) (by have := HB.out.size; simp; omega) ?_; intro g' cap' wB hownB hgrow hat hltB)
            go_wp2
            go_roundw
            case rel =>
              refine ⟨k + 1, _, _, by omega, by go_num, ?_, ?_, rfl, ?_, own_app HB.out (by repeat (first | exact Below.refl _ _ | refine Below.alloc ?_ (by simp) _)) HOWN.out hgrow HB.out.size⟩
              · rw [hs.out, HX.out, HQ.out]; simp; try omega
              · rw [B_congr (HAN.out hit.out), HG.out]
              · rw [HS.out, HCN.out hit.out]; show World.ownsRow _ _ _ _ _ _ (v3 _); rw [v3_append]; exact hownB
            case measure => simp [intOf]; omega
        · have hit := Lib.hid (fun hh => h0 (HH.out.1 hh).1)
          have q0 : (x0 == 0) = false := by simpa using h0
          have HN := Lib.hid h0
          clear h0
          go_wp2_with (at_builtin; refine wpl_app rowM rfl _ _ (by rfl) w.heap.size _ k (v3 o) (by rfl) (own_below HOWN.out (by repeat (first | exact Below.refl _ _ | refine Below.alloc ?_ (by simp) _ | refine Below.setCell ?_ (by simp) _ | apply Below.drew))) ⟨wo.heap.size + 1, 0, none⟩ 1 1 (v3 [(x0, x1, x2)]) (by rfl) rfl (cell3_at (by simp) _ _) (v3_one _) (by decide) (by omega) (by have := HB.out.size; simp; omega) ?_; intro g' cap' wB hownB hgrow hat hltB)
          go_wp2
          go_roundw
          case rel =>
            refine ⟨k + 1, _, _, by omega, by go_num, ?_, ?_, rfl, ?_, own_app HB.out (by repeat (first | exact Below.refl _ _ | refine Below.alloc ?_ (by simp) _)) HOWN.out hgrow HB.out.size⟩
            · rw [hs.out, HX.out, HQ.out]; simp [HN.out]
            · rw [B_congr (HAN.out hit.out), HG.out]
            · rw [HS.out, HCN.out hit.out]; show World.ownsRow _ _ _ _ _ _ (v3 _); rw [v3_append]; exact hownB
          case measure => simp [intOf]; omega
      · obtain rfl : k = n := by omega
        have hlen := HL.out
        by_cases hany : anyG xs s l k
        · have hP : GivP xs s l := ⟨HT.out, by rw [hlen]; exact hany⟩
          have HP := Lib.hid hP
          have HF := Lib.hid (givF_pos hP)
          rw [B_true hany]
          clear hP hany
          go_wp2
          refine bodyPost_ret (v := .tuple #[.slice Av k cv, .bool true]) (by simp [results, Try.results26, go_sem]) rfl ⟨Av, cv, by rw [HF.out, B_true HP.out, outG_len, hlen], by rw [HF.out, outG_len, hlen]; exact HOWN.out, HB.out⟩
        · have hP : ¬ GivP xs s l := fun hh => hany (by have := hh.2; rwa [hlen] at this)
          have HP := Lib.hid hP
          have HF := Lib.hid (givF_neg hP)
          rw [B_false hany]
          clear hP hany
          go_wp2
          refine bodyPost_ret (v := .tuple #[.slice (some ⟨wo.heap.size, 0, none⟩) 0 0, .bool false]) (by simp [results, Try.results26, go_sem]) rfl ⟨some ⟨wo.heap.size, 0, none⟩, 0, by rw [HF.out, B_false HP.out]; rfl, by rw [HF.out]; exact OwnM.empty wo _ HB.out.size, HB.out.alloc HB.out.size _⟩

set_option maxRecDepth 100000 in
set_option maxHeartbeats 2000000 in
theorem iGivenTerm_any (A : Option Addr) (n c : Nat) (xs : List Mk) (s l : Int) (w : World) (h : MarksAt w A n xs) (hn : n ≤ 1048576) (hs1 : s ≤ 9223372036854775807) :
    Calls Try.prog 25 #[.slice A n c, .int .i64 s, .int .i64 l] w (NewMB w (GivF xs s l) (B (GivP xs s l))) := by
  have HL := Lib.hid h.len
  by_cases hT : TOk xs
  rotate_left
  · have hP : ¬ GivP xs s l := fun hh => hT hh.1
    rw [givF_neg hP, B_false hP]
    have HT := Lib.hid hT
    clear hT hP
    go_enter Try.func25, Try.ntmps25
    go_wp2_with (fail)
    refine kB (iTermOk_any A n c xs _ h hn) (fun _ hne _ => absurd hne.out HT.out) ?_
    intro w1 hp hb1
    go_wp2
    refine bodyPost_ret (v := .tuple #[.slice none 0 0, .bool false]) (by simp [results, Try.results25, go_sem]) rfl ⟨_, _, rfl, OwnM.nil w1 _, hb1⟩
  · have h11 := hT.len
    rw [HL.out] at h11
    have hn0 : 0 < n := by obtain ⟨x, hx⟩ := hT; have := marks_pos x; rw [hx.2.1, HL.out] at this; exact this
    have HT := Lib.hid hT
    clear hT
    obtain ⟨b, off, rfl⟩ := h.some hn0
    by_cases hs0 : s < 0
    · have hP : ¬ GivP xs s l := by rintro ⟨_, j, _, _, h3, _⟩; omega
      rw [givF_neg hP, B_false hP]
      clear hP
      go_enter Try.func25, Try.ntmps25
      go_wp2_with (fail)
      refine kB (iTermOk_any _ n c xs _ h hn) ?_ (fun _ hne _ => absurd HT.out hne.out)
      intro w1 _ hb1
      go_wp2
      refine bodyPost_ret (v := .tuple #[.slice none 0 0, .bool false]) (by simp [results, Try.results25, go_sem]) rfl ⟨_, _, rfl, OwnM.nil w1 _, hb1⟩
    · go_enter Try.func25, Try.ntmps25
      go_wp2_with (fail)
      refine kB (iTermOk_any _ n c xs _ h hn) ?_ (fun _ hne _ => absurd HT.out hne.out)
      intro w1 _ hb1
      have HB1 := Lib.hid hb1
      have HM1 := Lib.hid (h.below hb1)
      clear hb1
      go_wp2_with (at_builtin; refine wpl_app rowM rfl _ _ (by rfl) w.heap.size _ 0 (v3 []) (by rfl) (OwnM.nil w1 _) ⟨b, off, none⟩ n c (v3 xs) (by rfl) (by rw [v3_len, HL.out]) HM1.out.news (v3_one _) (by omega) (by omega) HB1.out.size ?_; intro g cap w2 hown hgrow hat hlt2)
      go_wp2
      have HO2 := Lib.hid hown
      have HB2 := Lib.hid (HB1.out.grown hgrow HB1.out.size (fun k hk => by cases hk))
      clear hown hgrow hat hlt2
      go_loopw [1, 22] (fun t i wr => ∃ (k : Nat), k ≤ n ∧ i = .int .i64 k ∧ t = .int .i64 (s - (stepsIn (xs.take k) : Int)) ∧ (stepsIn (xs.take k) : Int) ≤ s ∧ ¬ anyG xs s l k ∧ Below w2.heap.size w2 wr) (fun _ i _ => n - (intOf i).toNat)
      case atStart => exact ⟨0, Nat.zero_le _, rfl, by simp [stepsIn], by simp [stepsIn]; omega, anyG_zero _ _ _, Below.refl _ _⟩
      case round =>
        obtain ⟨wo, rfl⟩ : ∃ wo : World, wo = wr := ⟨_, rfl⟩
        obtain ⟨k, hk, rfl, rfl, hsk, hany, hb⟩ := hrel
        have HB := Lib.hid hb
        have HANY := Lib.hid hany
        clear hb hany
        have hown : OwnM wo w.heap.size (some ⟨g, 0, none⟩) (0 + n) cap xs := by
          have := own_below HO2.out HB.out
          rwa [show v3 [] ++ v3 xs = v3 xs from List.nil_append _] at this
        rw [Nat.zero_add] at hown
        have HO := Lib.hid hown
        have HBw := Lib.hid (HB2.out.trans (HB.out.mono HB2.out.size))
        clear hown
        by_cases hlt : k < n
        · obtain ⟨b', off', e', c0, c1, c2⟩ := HO.out.at_.at_ hlt
          cases e'
          rw [Nat.zero_add] at c0 c1 c2
          have hgl : g < wo.heap.size := (HO.out.lt g rfl).2
          have f0 := HO.out.frozenAt (k * 3)
          have f1 := HO.out.frozenAt (k * 3 + 1)
          have f2 := HO.out.frozenAt (k * 3 + 2)
          have hkx : k < xs.length := by rw [HL.out]; exact hlt
          have HKX := Lib.hid hkx
          clear hkx
          have hs := Lib.hid (stepsIn_take_succ (xs := xs) (k := k) HKX.out)
          have hle := stepsIn_le (xs.take k)
          rw [List.length_take] at hle
          have HH := Lib.hid (hitG_iff xs s l k)
          have HAN := Lib.hid (fun hh => anyG_not (xs := xs) (s := s) (l := l) (k := k) hh)
          have HNO := Lib.hid (fun h0 h1 h2 => noG (xs := xs) (s := s) (l := l) HKX.out h0 h1 h2 xs.length (Nat.le_refl _))
          obtain ⟨q, HQ⟩ : ∃ q, Hid (stepsIn (xs.take k) = q) := ⟨_, rfl⟩
          rw [HQ.out] at hle HH hsk HNO ⊢
          obtain ⟨x, HX⟩ : ∃ q, Hid (xs.getD k (0, 0, 0) = q) := ⟨_, rfl⟩
          rw [HX.out] at c0 c1 c2 HH HNO
          obtain ⟨x0, x1, x2⟩ := x
          simp only at c0 c1 c2 HH
          by_cases h0 : x0 = 0
          · subst h0
            by_cases hqs : s - (q : Int) = 0
            · rw [hqs]
              go_wp2_with (fail)
              refine kS (in_any l x1 x2 _) ?_ ?_ <;> intro hin
              · have hit : hitG xs s l k := HH.out.2 ⟨trivial, by omega, hin.out⟩
                have hP : GivP xs s l := ⟨HT.out, k, HKX.out, hit⟩
                have HP := Lib.hid hP
                have HF := Lib.hid ((givF_pos hP).trans (outG_set HKX.out hit))
                clear hP hit
                go_wp2
                have hlen := HL.out
                have hbg := (HO.out.lt g rfl).1
                refine bodyPost_ret (v := .tuple #[.slice (some ⟨g, 0, none⟩) n cap, .bool true]) (by simp [results, Try.results25, go_sem]) rfl ⟨some ⟨g, 0, none⟩, cap, by rw [HF.out, B_true HP.out, List.length_set, hlen], ?_, (((HBw.out.setCell hbg _).setCell hbg _).setCell hbg _).alloc (by have := HBw.out.size; simpa [World.setCell] using this) _⟩
                rw [HF.out, List.length_set, hlen]
                exact (own_set3 HO.out hlt (0, l, l)).alloc _
              · have hP : ¬ GivP xs s l := fun hh => HNO.out trivial (by omega) (fun hx => hin.out (HH.out.1 hx).2.2) hh.2
                have HP := Lib.hid hP
                have HF := Lib.hid (givF_neg hP)
                clear hP
                go_wp2
                refine bodyPost_ret (v := .tuple #[.slice none 0 0, .bool false]) (by simp [results, Try.results25, go_sem]) rfl ⟨none, 0, by rw [HF.out, B_false HP.out]; rfl, by rw [HF.out]; exact OwnM.nil _ _, HBw.out.alloc HBw.out.size _⟩
            · have q0 : (s - (q : Int) == 0) = false := by simpa using hqs
              go_wp2
              go_roundw
              case rel => exact ⟨k + 1, by omega, by go_num, by rw [hs.out, HX.out, HQ.out]; go_num, by rw [hs.out, HX.out, HQ.out]; simp; omega, by rw [HAN.out (fun hh => hqs (by have := (HH.out.1 hh).2.1; omega))]; exact HANY.out, HB.out.alloc HB.out.size _⟩
              case measure => simp [intOf]; omega
          · have q0 : (x0 != 0) = true := by simpa using h0
            have HN := Lib.hid h0
            clear h0
            go_wp2
            go_roundw
            case rel => exact ⟨k + 1, by omega, by go_num, by rw [hs.out, HX.out, HQ.out]; simp [HN.out], by rw [hs.out, HX.out, HQ.out]; simp [HN.out]; omega, by rw [HAN.out (fun hh => HN.out (HH.out.1 hh).1)]; exact HANY.out, HB.out.alloc HB.out.size _⟩
            case measure => simp [intOf]; omega
        · obtain rfl : k = n := by omega
          have hP : ¬ GivP xs s l := fun hh => HANY.out (by have := hh.2; rwa [HL.out] at this)
          have HP := Lib.hid hP
          have HF := Lib.hid (givF_neg hP)
          clear hP
          go_wp2
          refine bodyPost_ret (v := .tuple #[.slice none 0 0, .bool false]) (by simp [results, Try.results25, go_sem]) rfl ⟨none, 0, by rw [HF.out, B_false HP.out]; rfl, by rw [HF.out]; exact OwnM.nil _ _, HBw.out⟩

end Go.Proofs.Ytookhelfbnhadaa
