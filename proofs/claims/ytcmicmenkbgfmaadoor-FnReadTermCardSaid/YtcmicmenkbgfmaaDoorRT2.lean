/- Texts of terms in memory: strings that a call makes; spec.l1Number, l11Binds, l11Held, l11Text, TermText. -/
import Derived.Test.YtcmicmenkbgfmaaDoorRT1
import Derived.Test.YtcmicmenkbgfmaaDoorM7
import Derived.Laws.IdiomStrings
import Derived.Laws.Concat
import Derived.Deep.RegionHeldLaw
set_option linter.unusedSimpArgs false
namespace Go.Proofs.YtcmicmenkbgfmaaDoor
open Go.RowKit

/-- A call that gives a text and makes memory. -/
def Str (w : World) (l : List UInt8) (e : Ending) (w' : World) : Prop := ∃ S : ByteArray, e = .returned (.string S) ∧ S.data.toList = l ∧ Below w.heap.size w w'
theorem size_list (S : ByteArray) : S.size = S.data.toList.length := by rw [Array.length_toList]; rfl
theorem kStr {Pr : Program} {f : FuncId} {args : Array Value} {w : World} {K : Ending → World → Prop} {l : List UInt8} {n : Nat} (h : Calls Pr f args w (Str w l)) (hl : l.length ≤ n)
    (h1 : ∀ (S : ByteArray) w', Hid (S.data.toList = l) → S.size ≤ n → Below w.heap.size w w' → K (.returned (.string S)) w') : Calls Pr f args w K :=
  h.mono fun e w' ⟨S, he, hs, hb⟩ => by subst he; exact h1 S w' (Lib.hid hs) (by rw [size_list, hs]; exact hl) hb
theorem cat_list (S T : ByteArray) : (S ++ T).data.toList = S.data.toList ++ T.data.toList := by simp [ByteArray.data_append]
theorem ret_s {S : ByteArray} {l : List UInt8} (h : S.data.toList = l) : ∃ S', Ending.returned (.string S) = .returned (.string S') ∧ S'.data.toList = l := ⟨S, rfl, h⟩

theorem back1 (W : World) (b : Nat) (c : UInt8) (h : W.cell? ⟨b, 0, none⟩ = some (.int .u8 (c.toNat : Int))) :
    (convert 22 9 (.slice (some ⟨b, 0, none⟩) 1 1)).run Tryd.prog W = .ok (.string ⟨#[c]⟩) W :=
  run_convert_bytes_back W 22 9 5 ⟨b, 0, none⟩ 1 [c] Tryd.underlying22 Tryd.underlying5 Tryd.underlying9 (fun j hj => by
    obtain rfl : j = 0 := by simpa using hj
    simpa [Addr.add] using h)
theorem backOf {W wx : World} {x : Int} {T : TypeId} (c : UInt8) (hc : (c.toNat : Int) = x) (hb : Below ((W.alloc (.cells #[.int .u8 x] T)).drew).heap.size ((W.alloc (.cells #[.int .u8 x] T)).drew) wx) :
    (convert 22 9 (.slice (some ⟨W.heap.size, 0, none⟩) 1 1)).run Tryd.prog wx = .ok (.string ⟨#[c]⟩) wx :=
  back1 wx W.heap.size c (keep hb (by rw [hc]; simp [go_sem]))
set_option maxRecDepth 100000 in
theorem l1Number_low (k : Nat) (hk : k < 10) (w : World) : Calls Tryd.prog 40 #[.int .i64 (k : Int)] w (Str w [UInt8.ofNat (48 + k)]) := by
  have hc : (UInt8.ofNat (48 + k)).toNat = 48 + k := by simp; omega
  have hback := back1 (w.alloc (.cells #[.int .u8 (48 + (k : Int))] 5)) w.heap.size (UInt8.ofNat (48 + k)) (by rw [hc]; simp [go_sem])
  have hk0 : (k : Int) < 10 := by omega
  go_enter Tryd.func40, Tryd.ntmps40
  go_wp2
  go_ret
  exact ⟨_, rfl, rfl, (Below.refl _ _).alloc (Nat.le_refl _) _⟩
set_option maxRecDepth 100000 in
theorem l1Number_high (k : Nat) (hk : k < 10) (w : World) : Calls Tryd.prog 40 #[.int .i64 (10 + (k : Int))] w (Str w [49, UInt8.ofNat (48 + k)]) := by
  have hc0 : (UInt8.ofNat (48 + k)).toNat = 48 + k := by simp; omega
  obtain ⟨c, hcc⟩ : ∃ q, UInt8.ofNat (48 + k) = q := ⟨_, rfl⟩
  rw [hcc] at hc0 ⊢
  have HC := Lib.hid (show (c.toNat : Int) = 48 + (k : Int) by rw [hc0]; omega)
  have hq : (10 + (k : Int)).tdiv 10 = 1 := by rw [Int.tdiv_eq_ediv_of_nonneg (by omega)]; omega
  have hr : (10 + (k : Int)).tmod 10 = (k : Int) := by rw [Int.tmod_eq_emod_of_nonneg (by omega)]; omega
  have hback := fun W : World => back1 (W.alloc (.cells #[.int .u8 (48 + (k : Int))] 5)) W.heap.size c (by rw [HC.out]; simp [go_sem])
  have hbackD := fun W : World => back1 (W.alloc (.cells #[.int .u8 (48 + (k : Int))] 5)).drew W.heap.size c (by rw [HC.out]; simp [go_sem])
  have hw1 : IntKind.i64.wrap 1 = 1 := by decide
  have hw2 : IntKind.i64.wrap (48 + (k : Int)) = 48 + (k : Int) := IntWalk.i64_in _ (by omega)
  have hw3 : IntKind.u8.wrap (48 + (k : Int)) = 48 + (k : Int) := by simp [IntKind.wrap, IntKind.bits, IntKind.signed]; omega
  have h10 : 10 ≤ 10 + (k : Int) := by omega
  clear hk hcc hc0
  go_enter Tryd.func40, Tryd.ntmps40
  go_wp2_with (fail)
  go_region_held_law (fun _ => True)
    (first | trivial)
    (first | (go_at_call 40; with_reducible refine kStr (n := 2) (l1Number_low 1 (by decide) _) (by decide) ?_; intro S wx hS hz hb; first | (have hcv := backOf c HC.out hb) | skip))
  all_goals
    go_wp2
    go_ret
    refine ⟨_, rfl, by rw [cat_list, hS.out]; rfl, ?_⟩
    first
      | exact (((Below.refl w.heap.size w).drew).trans hb).alloc (Nat.le_trans (Nat.le_refl _) hb.size) _
      | exact (((Below.refl w.heap.size w).alloc (Nat.le_refl _) _).drew).trans (hb.mono (by simp))
theorem l1Number_any (n : Int) (h0 : 0 ≤ n) (h1 : n ≤ 19) (w : World) : Calls Tryd.prog 40 #[.int .i64 n] w (Str w (dec n)) := by
  obtain ⟨k, hk, rfl⟩ := dec_cases h0 h1
  by_cases h : k < 10
  · have h2 := l1Number_low k h w
    have e : dec (k : Int) = [UInt8.ofNat (48 + k)] := by unfold dec; rw [if_pos (by omega)]; simp
    rwa [e]
  · obtain ⟨j, rfl⟩ : ∃ j, k = 10 + j := ⟨k - 10, by omega⟩
    have h2 := l1Number_high j (by omega) w
    have e : dec ((10 + j : Nat) : Int) = [49, UInt8.ofNat (48 + j)] := by
      unfold dec
      rw [if_neg (by omega), Int.toNat_natCast]
      have e1 : (10 + j) / 10 = 1 := by omega
      have e2 : (10 + j) % 10 = j := by omega
      rw [e1, e2]; rfl
    rw [e]
    exact h2

theorem textT_le {t : Tm} {n : Nat} (w : Wf t) (h : (marksOf t).length = n) (hn : n ≤ 11) : (textT t).length ≤ 75 := by
  have := textT_len w; omega
theorem brT_le {t : Tm} {n : Nat} (c : Bool) (w : Wf t) (h : (marksOf t).length = n) (hn : n ≤ 11) : (brT c (textT t)).length ≤ 77 := by
  have := textT_le w h hn
  have := brT_len c (textT t); omega

theorem l11Binds_any (t : Tm) (wf : Wf t) (A : Option Addr) (n c : Nat) (w : World) (h : MarksAt w A n (marksOf t)) (hn : n ≤ 11) :
    Calls Tryd.prog 52 #[.slice A n c] w (Same w (.int .i64 (bindsT t : Int))) := by
  have hl := h.len
  have hp := marks_pos t
  obtain ⟨k, rfl⟩ : ∃ k, n = k + 1 := ⟨n - 1, by omega⟩
  have hm := marks_last t
  rw [hl, Nat.add_sub_cancel] at hm
  obtain ⟨b, off, rfl, c0, c1, c2⟩ := h.at_ (k := k) (by omega)
  rw [hm] at c0 c1 c2
  clear hl hp hm h
  cases t with
  | step l u =>
    simp only [markT] at c0 c1 c2
    go_enter Tryd.func52, Tryd.ntmps52
    go_wp2
    go_ret
    exact ⟨rfl, rfl⟩
  | one a u =>
    simp only [markT] at c0 c1 c2
    go_enter Tryd.func52, Tryd.ntmps52
    go_wp2
    go_ret
    exact ⟨rfl, rfl⟩
  | two q a d =>
    simp only [markT] at c0 c1 c2
    rcases wf.1 with rfl | rfl
    · go_enter Tryd.func52, Tryd.ntmps52
      go_wp2
      go_ret
      exact ⟨rfl, rfl⟩
    · go_enter Tryd.func52, Tryd.ntmps52
      go_wp2
      go_ret
      exact ⟨rfl, rfl⟩

def TextAt (t : Tm) : Prop := ∀ (A : Option Addr) (n c : Nat) (w : World), MarksAt w A n (marksOf t) → n ≤ c → n ≤ 11 → Calls Tryd.prog 26 #[.slice A n c] w (Str w (textT t))
theorem l11Held_any (t : Tm) (wf : Wf t) (hT : TextAt t) (A : Option Addr) (n c k : Nat) (w : World) (h : MarksAt w A n (marksOf t)) (hc : n ≤ c) (hn : n ≤ 11) :
    Calls Tryd.prog 41 #[.slice A n c, .int .i64 (k : Int)] w (Str w (brT (decide (bindsT t < k)) (textT t))) := by
  have hle := textT_le wf h.len hn
  by_cases hq : bindsT t < k
  · rw [decide_eq_true hq]
    have hq' : (bindsT t : Int) < (k : Int) := by omega
    go_enter Tryd.func41, Tryd.ntmps41
    go_wp2_with (fail)
    refine kV (l11Binds_any t wf A n c _ h hn) ?_
    go_wp2_with (fail)
    refine kStr (n := 75) (hT A n c _ h hc hn) hle ?_
    intro S w1 hS hz hb
    go_wp2
    go_ret
    exact ⟨_, rfl, by rw [cat_list, cat_list, hS.out]; simp [brT], hb⟩
  · rw [decide_eq_false hq]
    have hq' : ¬ (bindsT t : Int) < (k : Int) := by omega
    go_enter Tryd.func41, Tryd.ntmps41
    go_wp2_with (fail)
    refine kV (l11Binds_any t wf A n c _ h hn) ?_
    go_wp2_with (fail)
    refine kStr (n := 75) (hT A n c _ h hc hn) hle ?_
    intro S w1 hS hz hb
    go_wp2
    go_ret
    exact ⟨_, rfl, by rw [hS.out]; rfl, hb⟩

end Go.Proofs.YtcmicmenkbgfmaaDoor
