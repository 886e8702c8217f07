/- Cases: rows of rows of bounds; sizes, copies, equality. -/
import Derived.Test.YtopfhlopicjemaaP2
namespace Go.Proofs.Ytopfhlopicjemaa
open Go.RowKit

/-- A row of rows of bounds. -/
structure BndssAt (w : World) (A : Option Addr) (n : Nat) (ls : List (List Bd)) : Prop where
  len : ls.length = n
  cells : 0 < n → ∃ b off, A = some ⟨b, off, none⟩ ∧ ∀ j, j < n → ∃ A' c', w.cell? ⟨b, off + j, none⟩ = some (.slice A' (ls.getD j []).length c') ∧ (ls.getD j []).length ≤ 9223372036854775807 ∧ BndsAt w A' (ls.getD j []).length (ls.getD j [])

section
variable {w w' : World} {A : Option Addr} {n : Nat} {ls : List (List Bd)}
theorem BndssAt.keep (h : BndssAt w A n ls) (hk : ∀ p v, w.cell? p = some v → w'.cell? p = some v) : BndssAt w' A n ls :=
  ⟨h.len, fun hn => by
    obtain ⟨b, off, e, hc⟩ := h.cells hn
    refine ⟨b, off, e, fun j hj => ?_⟩
    obtain ⟨A', c', h1, h2, h3⟩ := hc j hj
    exact ⟨A', c', hk _ _ h1, h2, h3.keep hk⟩⟩
theorem BndssAt.below (h : BndssAt w A n ls) (hb : Below w.heap.size w w') : BndssAt w' A n ls := h.keep fun p v hv => by rw [hb.cell (cell_lt hv)]; exact hv
theorem BndssAt.drewN (h : BndssAt w A n ls) (m : Nat) : BndssAt (w.drewN m) A n ls := h.keep fun _ _ hv => hv
theorem BndssAt.cut (h : BndssAt w A n ls) {k : Nat} (hk : k ≤ n) : BndssAt w A k (ls.take k) :=
  ⟨by rw [List.length_take, h.len]; omega, fun hn => by
    obtain ⟨b, off, e, hc⟩ := h.cells (by omega)
    refine ⟨b, off, e, fun j hj => ?_⟩
    rw [show (ls.take k).getD j [] = ls.getD j [] by simp [List.getD, hj]]
    exact hc j (by omega)⟩
end

def Short (ls : List (List Bd)) (k : Nat) : Prop := ∀ j, j < k → (ls.getD j []).length ≤ 1048576
theorem szBoundSS_any (A : Option Addr) (n c : Nat) (ls : List (List Bd)) (left : Int) (w : World) (h : BndssAt w A n ls) (hn : n ≤ 9223372036854775807) (hl : 0 ≤ left ∧ left ≤ 1048576) :
    Calls Try.prog 68 #[.slice A n c, .int .i64 left] w (SzOk w (n ≤ 1048576 ∧ Short ls n)) := by
  obtain ⟨hl0, hl1⟩ := hl
  by_cases hle : (n : Int) ≤ left
  · go_enter Try.func68, Try.ntmps68
    go_wp2
    go_loop [1, 5] (fun l i => ∃ (k : Nat) (q : Int), k ≤ n ∧ i = .int .i64 k ∧ l = .int .i64 q ∧ 0 ≤ q ∧ q ≤ 1048576 ∧ Short ls k) (fun _ i => n - (intOf i).toNat)
    case atStart => exact ⟨0, _, Nat.zero_le _, rfl, rfl, by omega, by omega, fun j hj => by omega⟩
    case round =>
      obtain ⟨k, q, hk, rfl, rfl, hq0, hq1, hsh⟩ := hrel
      have HS := Lib.hid hsh
      clear hsh
      by_cases hlt : k < n
      · obtain ⟨b, off, rfl, hc⟩ := h.cells (by omega)
        obtain ⟨A', c', hc0, hlen, -⟩ := hc k hlt
        clear hc
        have hsz := szI_bd (left := q) (n := (ls.getD k []).length) ⟨hq0, hq1⟩
        obtain ⟨hs0, hs1⟩ := hsz
        obtain ⟨m, HM⟩ : ∃ m, Hid ((ls.getD k []).length = m) := ⟨_, rfl⟩
        rw [HM.out] at hc0 hlen hs0 hs1
        by_cases hpos : 0 ≤ szI q m
        · have HP := Lib.hid (szI_le hpos)
          go_wp2_with (fail)
          refine kV (szBoundS_any A' m c' q _ hlen ⟨hq0, hq1⟩) ?_
          go_wp2
          go_round
          case rel =>
            refine ⟨k + 1, _, by omega, by go_num, rfl, hpos, hs1, fun j hj => ?_⟩
            rcases Nat.lt_or_ge j k with h1 | h1
            · exact HS.out j h1
            · obtain rfl : j = k := by omega
              have := HP.out; rw [HM.out]; omega
          case measure => simp [intOf]; omega
        · go_wp2_with (fail)
          refine kV (szBoundS_any A' m c' q _ hlen ⟨hq0, hq1⟩) ?_
          go_wp2
          go_ret
          exact ⟨_, rfl, fun h => by omega, by omega, by omega, Below.refl _ _⟩
      · go_wp2
        go_ret
        obtain rfl : k = n := by omega
        exact ⟨_, rfl, fun _ => ⟨by omega, HS.out⟩, by omega, by omega, Below.refl _ _⟩
  · go_enter Try.func68, Try.ntmps68
    go_wp2
    go_ret
    exact ⟨_, rfl, fun h => by omega, by omega, by omega, Below.refl _ _⟩

/-- P holds of every world that agrees with w from block B0 on. -/
def From (B0 : Nat) (w : World) (P : World → Prop) : Prop := ∀ w', (∀ k, B0 ≤ k → k < w.heap.size → w'.heap[k]? = w.heap[k]?) → P w'
theorem From.self {B0 : Nat} {w : World} {P : World → Prop} (h : From B0 w P) : P w := h w fun _ _ _ => rfl
def NewBndss (w : World) (n : Nat) (ls : List (List Bd)) (e : Ending) (w' : World) : Prop :=
  ∃ A c, e = .returned (.slice A n c) ∧ n ≤ c ∧ From w.heap.size w' (fun u => BndssAt u A n ls) ∧ Below w.heap.size w w'
theorem infoBoundSS : (Try.prog.info? 46).map (fun i => (i.zero, i.size, i.bytes)) = some (some (.slice none 0 0), 1, 24) := by kernel_rfl
theorem toBoundSS_any (A : Option Addr) (n c : Nat) (ls : List (List Bd)) (w : World) (h : BndssAt w A n ls) (hn : n ≤ 1048576) (hs : Short ls n) :
    Calls Try.prog 70 #[.slice A n c] w (NewBndss w n ls) := by
  have HL := Lib.hid h.len
  have HSh := Lib.hid hs
  clear hs
  have hmk := makeRows (P := Try.prog) 49 46 _ 1 24 Try.underlying49 infoBoundSS n (by omega) (by omega)
  obtain ⟨arr0, hs0, hmk⟩ := hmk
  have HS0 := Lib.hid hs0
  clear hs0
  go_enter Try.func70, Try.ntmps70
  go_wp2
  go_loopw [4] (fun i wr => ∃ (k : Nat) (arr : Array Value), k ≤ n ∧ i = .int .i64 k ∧ Blk wr w.heap.size 46 arr ∧ arr.size = n ∧ Below w.heap.size w wr ∧ ∀ j, j < k → ∃ A' c', arr[j]? = some (.slice A' (ls.getD j []).length c') ∧ BndsAt wr A' (ls.getD j []).length (ls.getD j []) ∧ ∀ a, A' = some a → w.heap.size < a.block) (fun i _ => n - (intOf i).toNat)
  case atStart => exact ⟨0, arr0, Nat.zero_le _, rfl, Blk.new _ _ _, by rw [HS0.out]; omega, (Below.refl _ _).alloc (Nat.le_refl _) _, fun j hj => by omega⟩
  case round =>
    obtain ⟨k, arr, hk, rfl, hblk, hsz, hb, harr⟩ := hrel
    have HA := Lib.hid harr
    have HS := Lib.hid hsz
    have HK := Lib.hid hblk
    have HB := Lib.hid hb
    clear harr hsz hblk hb hmk
    by_cases hlt : k < n
    · obtain ⟨b, off, rfl, hc⟩ := (h.below HB.out).cells (by omega)
      obtain ⟨A', c', hc0, -, hrow⟩ := hc k hlt
      have hshort := HSh.out k hlt
      obtain ⟨m, HM⟩ : ∃ m, Hid ((ls.getD k []).length = m) := ⟨_, rfl⟩
      obtain ⟨l, HLk⟩ : ∃ l, Hid (ls.getD k [] = l) := ⟨_, rfl⟩
      rw [HM.out] at hc0 hrow hshort
      rw [HLk.out] at hrow
      have HR := Lib.hid hrow
      clear hc hrow
      go_wp2_with (fail)
      refine kNewBndsAt (toBoundS_any A' m c' l _ HR.out hshort) ?_
      intro A2 c2 w2 hc2 hrow2 hb2 hf2
      have HK2 := Lib.hid (HK.out.below hb2 HK.out.lt)
      have hgl := HK.out.lt
      obtain ⟨v0, d0⟩ := HK2.out.cell_at (i := k) (by rw [HS.out]; exact hlt)
      have f0 := HK2.out.frozen k
      have HB2 := Lib.hid (HB.out.trans (hb2.mono HB.out.size))
      have HR2 := Lib.hid hrow2
      have HF2 := Lib.hid hf2
      have HBB := Lib.hid hb2
      clear hb2 hrow2 hf2
      go_wp2
      go_roundw
      case rel =>
        refine ⟨k + 1, _, by omega, by go_num, HK2.out.set_ _ _, by simp [HS.out], HB2.out.setCell (Nat.le_refl _) _, fun j hj => ?_⟩
        rcases Nat.lt_or_ge j k with h1 | h1
        · obtain ⟨A3, c3, g1, g2, g3⟩ := HA.out j h1
          exact ⟨A3, c3, by rw [Array.getElem?_setIfInBounds_ne (by omega)]; exact g1, (g2.below HBB.out).setCell (by intro a ha e; have := g3 a ha; simp at e; omega) _, g3⟩
        · obtain rfl : j = k := by omega
          have hne : ∀ a, A2 = some a → w.heap.size < a.block := fun a ha => by have := HF2.out a ha; omega
          refine ⟨A2, c2, ?_, ?_, hne⟩
          · rw [HM.out]; simp [HS.out, hlt]
          · rw [HM.out, HLk.out]; exact HR2.out.setCell (by intro a ha e; have := hne a ha; simp at e; omega) _
      case measure => simp [intOf]; omega
    · go_wp2
      go_ret
      obtain rfl : k = n := by omega
      have hgl := HK.out.lt
      refine ⟨some ⟨w.heap.size, 0, none⟩, k, rfl, Nat.le_refl _, fun u hu => ⟨HL.out, fun _ => ⟨w.heap.size, 0, rfl, fun j hj => ?_⟩⟩, HB.out⟩
      obtain ⟨A3, c3, g1, g2, g3⟩ := HA.out j hj
      have hku : Blk u w.heap.size 46 arr := (hu _ (Nat.le_refl _) hgl).trans HK.out
      refine ⟨A3, c3, by rw [hku.cell, Nat.zero_add]; exact g1, by have := HSh.out j hj; omega, ?_⟩
      by_cases h0 : 0 < (ls.getD j []).length
      · refine g2.keepB fun a ha => hu _ (by have := g3 a ha; omega) ?_
        obtain ⟨b, off, e, hc⟩ := g2.cells h0
        rw [e] at ha; injection ha with ha; subst ha
        exact cell_lt (hc 0 h0).1
      · exact ⟨by omega, fun h => absurd h h0⟩

theorem eqBoundSS_any (A A' : Option Addr) (n c c' : Nat) (ls : List (List Bd)) (w : World) (h : BndssAt w A n ls) (h' : BndssAt w A' n ls) (hn : n ≤ 1048576) (hs : Short ls n) :
    Calls Try.prog 72 #[.slice A n c, .slice A' n c'] w (Bl w (.bool true)) := by
  have HSh := Lib.hid hs
  clear hs
  go_enter Try.func72, Try.ntmps72
  go_wp2
  go_loopw [5] (fun i wr => ∃ k : Nat, k ≤ n ∧ i = .int .i64 k ∧ Below w.heap.size w wr) (fun i _ => n - (intOf i).toNat)
  case atStart => exact ⟨0, Nat.zero_le _, rfl, Below.refl _ _⟩
  case round =>
    obtain ⟨k, hk, rfl, hb⟩ := hrel
    have HB := Lib.hid hb
    clear hb
    by_cases hlt : k < n
    · obtain ⟨b, off, rfl, hc⟩ := (h.below HB.out).cells (by omega)
      obtain ⟨b', off', rfl, hc'⟩ := (h'.below HB.out).cells (by omega)
      obtain ⟨A1, c1, e1, -, hr1⟩ := hc k hlt
      obtain ⟨A2, c2, e2, -, hr2⟩ := hc' k hlt
      have hshort := HSh.out k hlt
      obtain ⟨m, HM⟩ : ∃ m, Hid ((ls.getD k []).length = m) := ⟨_, rfl⟩
      obtain ⟨l, HLk⟩ : ∃ l, Hid (ls.getD k [] = l) := ⟨_, rfl⟩
      rw [HM.out] at e1 e2 hr1 hr2 hshort
      rw [HLk.out] at hr1 hr2
      have HR1 := Lib.hid (hr1.drewN 1)
      have HR2 := Lib.hid (hr2.drewN 1)
      clear hc hc' hr1 hr2
      go_wp2
      go_region_held3 (fun w' => w'.cell? ⟨b, off + k, none⟩ = some (.slice A1 m c1) ∧ w'.cell? ⟨b', off' + k, none⟩ = some (.slice A2 m c2))
        (first | exact ⟨e1, e2⟩ | exact ⟨keep hbA e1, keep hbA e2⟩)
        ((go_at_call 92; refine kB (eqBoundS_any A1 A2 m c1 m c2 l l _ HR1.out HR2.out (by omega)) ?_ (fun _ hne _ => absurd rfl hne.out); intro wA _ hbA))
      have HA := Lib.hid (HB.out.trans ((Below.drew (Below.refl wr.heap.size wr)).trans (hbA.mono (Nat.le_refl _)) |>.mono HB.out.size))
      clear hbA
      go_wp2
      go_roundw
      case rel => exact ⟨k + 1, by omega, by go_num, HA.out⟩
      case measure => simp [intOf]; omega
    · go_wp2
      go_ret
      exact ⟨rfl, HB.out⟩

end Go.Proofs.Ytopfhlopicjemaa
