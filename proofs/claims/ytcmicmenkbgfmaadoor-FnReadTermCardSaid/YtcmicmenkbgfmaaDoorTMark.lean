/- Rows of Marks (3 numbers each): the predicate, copies, equality, sizes. -/
import Derived.Test.YtcmicmenkbgfmaaDoorB1
namespace Go.Proofs.YtcmicmenkbgfmaaDoor
open Go.RowKit

structure MarksAt (w : World) (A : Option Addr) (n : Nat) (xs : List (Int × Int × Int)) : Prop where
  len : xs.length = n
  cells : 0 < n → ∃ b off, A = some ⟨b, off, none⟩ ∧ ∀ j, j < n → w.cell? ⟨b, off + j * 3, none⟩ = some (.int .i64 (xs.getD j (0, 0, 0)).1) ∧ w.cell? ⟨b, off + j * 3 + 1, none⟩ = some (.int .i64 (xs.getD j (0, 0, 0)).2.1) ∧ w.cell? ⟨b, off + j * 3 + 2, none⟩ = some (.int .i64 (xs.getD j (0, 0, 0)).2.2)

section
variable {w w' : World} {A : Option Addr} {n : Nat} {xs : List (Int × Int × Int)}
theorem MarksAt.keep (h : MarksAt w A n xs) (hk : ∀ p v, w.cell? p = some v → w'.cell? p = some v) : MarksAt w' A n xs :=
  ⟨h.len, fun hn => by obtain ⟨b, off, e, hc⟩ := h.cells hn; exact ⟨b, off, e, fun j hj => ⟨hk _ _ (hc j hj).1, hk _ _ (hc j hj).2.1, hk _ _ (hc j hj).2.2⟩⟩⟩
theorem MarksAt.below (h : MarksAt w A n xs) (hb : Below w.heap.size w w') : MarksAt w' A n xs := h.keep fun p v hv => by rw [hb.cell (cell_lt hv)]; exact hv
theorem MarksAt.drewN (h : MarksAt w A n xs) (m : Nat) : MarksAt (w.drewN m) A n xs := ⟨h.len, h.cells⟩
theorem MarksAt.setCell (h : MarksAt w A n xs) {q : Addr} (hne : ∀ a, A = some a → a.block ≠ q.block) (v : Value) : MarksAt (w.setCell q v) A n xs :=
  ⟨h.len, fun hn => by
    obtain ⟨b, off, e, hc⟩ := h.cells hn
    exact ⟨b, off, e, fun j hj => ⟨(World.cell?_setCell_other _ _ _ _ (fun e2 => hne _ e (by rw [e2]))).trans (hc j hj).1, (World.cell?_setCell_other _ _ _ _ (fun e2 => hne _ e (by rw [e2]))).trans (hc j hj).2.1, (World.cell?_setCell_other _ _ _ _ (fun e2 => hne _ e (by rw [e2]))).trans (hc j hj).2.2⟩⟩⟩
theorem MarksAt.keepB (h : MarksAt w A n xs) (hA : ∀ a, A = some a → w'.heap[a.block]? = w.heap[a.block]?) : MarksAt w' A n xs :=
  ⟨h.len, fun hn => by
    obtain ⟨b, off, e, hc⟩ := h.cells hn
    exact ⟨b, off, e, fun j hj => ⟨(cell_blk (b := b) (hA _ e) _).trans (hc j hj).1, (cell_blk (b := b) (hA _ e) _).trans (hc j hj).2.1, (cell_blk (b := b) (hA _ e) _).trans (hc j hj).2.2⟩⟩⟩
theorem MarksAt.cut (h : MarksAt w A n xs) {k : Nat} (hk : k ≤ n) : MarksAt w A k (xs.take k) :=
  ⟨by rw [List.length_take, h.len]; omega, fun hn => by
    obtain ⟨b, off, e, hc⟩ := h.cells (by omega)
    refine ⟨b, off, e, fun j hj => ?_⟩
    rw [show (xs.take k).getD j (0, 0, 0) = xs.getD j (0, 0, 0) by simp [List.getD, hj]]
    exact hc j (by omega)⟩
end

/-- A call that makes a row of Marks in new memory. -/
def NewMarksAt (w : World) (n : Nat) (xs : List (Int × Int × Int)) (e : Ending) (w' : World) : Prop :=
  ∃ A c, e = .returned (.slice A n c) ∧ n ≤ c ∧ MarksAt w' A n xs ∧ Below w.heap.size w w' ∧ ∀ a, A = some a → w.heap.size ≤ a.block
theorem kNewMarksAt {Pr : Program} {f : FuncId} {args : Array Value} {w : World} {R : Ending → World → Prop} {n : Nat} {xs : List (Int × Int × Int)} (h : Calls Pr f args w (NewMarksAt w n xs))
    (h1 : ∀ A c w', n ≤ c → MarksAt w' A n xs → Below w.heap.size w w' → (∀ a, A = some a → w.heap.size ≤ a.block) → R (.returned (.slice A n c)) w') : Calls Pr f args w R :=
  h.mono fun e w' ⟨A, c, he, hc, hi, hb, hf⟩ => by subst he; exact h1 A c w' hc hi hb hf

theorem eqUptoMarksAt {xs ys : List (Int × Int × Int)} {k : Nat} (h1 : xs.length = k) (h2 : ys.length = k) (h : ∀ j, j < k → xs.getD j (0, 0, 0) = ys.getD j (0, 0, 0)) : xs = ys := by
  apply List.ext_getElem (by omega)
  intro i h3 h4
  have := h i (by omega)
  simpa [List.getD, h3, h4] using this

theorem szMarkS_any (A : Option Addr) (n c : Nat) (left : Int) (w : World) (hn : n ≤ 9223372036854775807) (hl : 0 ≤ left ∧ left ≤ 1048576) :
    Calls Tryd.prog 19 #[.slice A n c, .int .i64 left] w (Same w (.int .i64 (szI left n))) := by
  obtain ⟨hl0, hl1⟩ := hl
  by_cases hle : (n : Int) ≤ left
  · go_enter Tryd.func19, Tryd.ntmps19
    go_wp2
    go_ret
    exact ⟨ret_i (by rw [szI, if_pos hle]), rfl⟩
  · go_enter Tryd.func19, Tryd.ntmps19
    go_wp2
    go_ret
    exact ⟨ret_i (by rw [szI, if_neg (by omega)]), rfl⟩

theorem toMark_any (x : Int × Int × Int) (w : World) :
    Calls Tryd.prog 32 #[.agg #[.int .i64 x.1, .int .i64 x.2.1, .int .i64 x.2.2]] w (Bl w (.agg #[.int .i64 x.1, .int .i64 x.2.1, .int .i64 x.2.2])) := by
  obtain ⟨x0, x1, x2⟩ := x
  go_enter Tryd.func32, Tryd.ntmps32
  go_wp2
  refine bodyPost_ret (v := .agg #[.int .i64 x0, .int .i64 x1, .int .i64 x2]) (by simp [results, Tryd.results32, go_sem]) rfl ⟨rfl, ?_⟩
  exact ((((Below.refl w.heap.size w).alloc (Nat.le_refl _) _).alloc (by simp) _).alloc (by simp; omega) _)

theorem infoMark : (Tryd.prog.info? 54).map (fun i => (i.zero, i.size, i.bytes)) = some (some (.agg #[.int .i64 0, .int .i64 0, .int .i64 0]), 3, 24) := by kernel_rfl
theorem toMarkS_any (A : Option Addr) (n c : Nat) (xs : List (Int × Int × Int)) (w : World) (h : MarksAt w A n xs) (hn : n ≤ 1048576) :
    Calls Tryd.prog 20 #[.slice A n c] w (NewMarksAt w n xs) := by
  have HL := Lib.hid h.len
  have hmk := makeRows (P := Tryd.prog) 23 54 _ 3 24 Tryd.underlying23 infoMark n (by omega) (by omega)
  obtain ⟨arr0, hs0, hmk⟩ := hmk
  have HS0 := Lib.hid hs0
  clear hs0
  go_enter Tryd.func20, Tryd.ntmps20
  go_wp2
  go_loopw [4] (fun i wr => ∃ (k : Nat) (arr : Array Value), k ≤ n ∧ i = .int .i64 k ∧ Blk wr w.heap.size 54 arr ∧ arr.size = n * 3 ∧ Below w.heap.size w wr ∧ ∀ j, j < k → arr[j * 3]? = some (.int .i64 (xs.getD j (0, 0, 0)).1) ∧ arr[j * 3 + 1]? = some (.int .i64 (xs.getD j (0, 0, 0)).2.1) ∧ arr[j * 3 + 2]? = some (.int .i64 (xs.getD j (0, 0, 0)).2.2)) (fun i _ => n - (intOf i).toNat)
  case atStart => exact ⟨0, arr0, Nat.zero_le _, rfl, Blk.new _ _ _, HS0.out, (Below.refl _ _).alloc (Nat.le_refl _) _, fun j hj => by omega⟩
  case round =>
    obtain ⟨k, arr, hk, rfl, hblk, hs, hb, harr⟩ := hrel
    have HA := Lib.hid harr
    have HS := Lib.hid hs
    have HK := Lib.hid hblk
    have HB := Lib.hid hb
    clear harr hs hblk hb hmk
    by_cases hlt : k < n
    · obtain ⟨b, off, rfl, hc⟩ := (h.below HB.out).cells (by omega)
      obtain ⟨c0, c1, c2⟩ := hc k hlt
      clear hc
      obtain ⟨x, HX⟩ : ∃ q, Hid (xs.getD k (0, 0, 0) = q) := ⟨_, rfl⟩
      rw [HX.out] at c0 c1 c2
      go_wp2_with (fail)
      refine kBV (toMark_any x _) ?_
      intro w2 hb2
      have HK2 := Lib.hid (HK.out.below hb2 HK.out.lt)
      have d0 := HK2.out.cell_at (i := k * 3) (by rw [HS.out]; omega)
      obtain ⟨v0, d0⟩ := d0
      have f0 := HK2.out.frozen (k * 3)
      have d1 := HK2.out.cell_at (i := k * 3 + 1) (by rw [HS.out]; omega)
      obtain ⟨v1, d1⟩ := d1
      have f1 := HK2.out.frozen (k * 3 + 1)
      have d2 := HK2.out.cell_at (i := k * 3 + 2) (by rw [HS.out]; omega)
      obtain ⟨v2, d2⟩ := d2
      have f2 := HK2.out.frozen (k * 3 + 2)
      have HB2 := Lib.hid (HB.out.trans (hb2.mono HB.out.size))
      clear hb2
      go_wp2
      go_roundw
      case rel =>
        refine ⟨k + 1, _, by omega, by go_num, (((HK2.out).set_ _ _).set_ _ _).set_ _ _, by simp [HS.out], (((HB2.out).setCell (Nat.le_refl _) _).setCell (Nat.le_refl _) _).setCell (Nat.le_refl _) _, fun j hj => ?_⟩
        rcases Nat.lt_or_ge j k with h1 | h1
        · obtain ⟨g0, g1, g2⟩ := HA.out j h1
          refine ⟨?_, ?_, ?_⟩
          all_goals
            (repeat rw [Array.getElem?_setIfInBounds_ne (by omega)])
            assumption
        · obtain rfl : j = k := by omega
          rw [HX.out]
          have hsz : arr.size = n * 3 := HS.out
          refine ⟨?_, ?_, ?_⟩
          all_goals simp only [Array.getElem?_setIfInBounds, Array.size_setIfInBounds]; simp; omega
      case measure => simp [intOf]; omega
    · go_wp2
      go_ret
      obtain rfl : k = n := by omega
      refine ⟨some ⟨w.heap.size, 0, none⟩, k, rfl, Nat.le_refl _, ⟨HL.out, fun _ => ⟨w.heap.size, 0, rfl, fun j hj => ?_⟩⟩, HB.out, ?_⟩
      · obtain ⟨g0, g1, g2⟩ := HA.out j hj
        refine ⟨?_, ?_, ?_⟩
        all_goals (rw [HK.out.cell, Nat.zero_add]; assumption)
      · rintro a ⟨rfl⟩; exact Nat.le_refl _

theorem eqMark_any (x y : Int × Int × Int) (w : World) :
    Calls Tryd.prog 30 #[.agg #[.int .i64 x.1, .int .i64 x.2.1, .int .i64 x.2.2], .agg #[.int .i64 y.1, .int .i64 y.2.1, .int .i64 y.2.2]] w (Bl w (.bool (B (x = y)))) := by
  obtain ⟨x0, x1, x2⟩ := x
  obtain ⟨y0, y1, y2⟩ := y
  have hB0 : Below w.heap.size w ((w.alloc (.cells #[.int .i64 x0, .int .i64 x1, .int .i64 x2] 54)).alloc (.cells #[.int .i64 y0, .int .i64 y1, .int .i64 y2] 54)) := ((Below.refl w.heap.size w).alloc (Nat.le_refl _) _).alloc (by simp) _
  by_cases h0 : x0 = y0
  · subst h0
    by_cases h1 : x1 = y1
    · subst h1
      by_cases h2 : x2 = y2
      · subst h2
        go_enter Tryd.func30, Tryd.ntmps30
        go_wp2
        go_ret
        exact ⟨ret_b (B_true (by simp)).symm, hB0⟩
      · have hne : (x2 != y2) = true := by simpa using h2
        have HN := Lib.hid h2
        clear h2
        go_enter Tryd.func30, Tryd.ntmps30
        go_wp2
        go_ret
        exact ⟨ret_b (B_false (fun hh => HN.out (by simp at hh; simp [hh]))).symm, hB0⟩
    · have hne : (x1 != y1) = true := by simpa using h1
      have HN := Lib.hid h1
      clear h1
      go_enter Tryd.func30, Tryd.ntmps30
      go_wp2
      go_ret
      exact ⟨ret_b (B_false (fun hh => HN.out (by simp at hh; simp [hh]))).symm, hB0⟩
  · have hne : (x0 != y0) = true := by simpa using h0
    have HN := Lib.hid h0
    clear h0
    go_enter Tryd.func30, Tryd.ntmps30
    go_wp2
    go_ret
    exact ⟨ret_b (B_false (fun hh => HN.out (by simp at hh; simp [hh]))).symm, hB0⟩

theorem eqMarkS_any (A A' : Option Addr) (n c n' c' : Nat) (xs ys : List (Int × Int × Int)) (w : World) (h : MarksAt w A n xs) (h' : MarksAt w A' n' ys) (hn : n ≤ 4611686018427387904) :
    Calls Tryd.prog 15 #[.slice A n c, .slice A' n' c'] w (Bl w (.bool (B (xs = ys)))) := by
  by_cases hnn : n = n'
  · subst hnn
    have HL := Lib.hid h.len
    have HL' := Lib.hid h'.len
    go_enter Tryd.func15, Tryd.ntmps15
    go_wp2
    go_loopw [5] (fun i wr => ∃ k : Nat, k ≤ n ∧ i = .int .i64 k ∧ Below w.heap.size w wr ∧ ∀ j, j < k → xs.getD j (0, 0, 0) = ys.getD j (0, 0, 0)) (fun i _ => n - (intOf i).toNat)
    case atStart => exact ⟨0, Nat.zero_le _, rfl, Below.refl _ _, fun j hj => by omega⟩
    case round =>
      obtain ⟨k, hk, rfl, hb, hnf⟩ := hrel
      have HN := Lib.hid hnf
      have HB := Lib.hid hb
      clear hnf hb
      by_cases hlt : k < n
      · obtain ⟨b, off, rfl, hc⟩ := (h.below HB.out).cells (by omega)
        obtain ⟨b', off', rfl, hc'⟩ := (h'.below HB.out).cells (by omega)
        obtain ⟨c0, c1, c2⟩ := hc k hlt
        obtain ⟨d0, d1, d2⟩ := hc' k hlt
        clear hc hc'
        obtain ⟨x, HX⟩ : ∃ q, Hid (xs.getD k (0, 0, 0) = q) := ⟨_, rfl⟩
        obtain ⟨y, HY⟩ : ∃ q, Hid (ys.getD k (0, 0, 0) = q) := ⟨_, rfl⟩
        rw [HX.out] at c0 c1 c2
        rw [HY.out] at d0 d1 d2
        go_wp2
        go_region_held3 (fun w' => w'.cell? ⟨b, off + k * 3, none⟩ = some (.int .i64 x.1) ∧ w'.cell? ⟨b, off + k * 3 + 1, none⟩ = some (.int .i64 x.2.1) ∧ w'.cell? ⟨b, off + k * 3 + 2, none⟩ = some (.int .i64 x.2.2) ∧ w'.cell? ⟨b', off' + k * 3, none⟩ = some (.int .i64 y.1) ∧ w'.cell? ⟨b', off' + k * 3 + 1, none⟩ = some (.int .i64 y.2.1) ∧ w'.cell? ⟨b', off' + k * 3 + 2, none⟩ = some (.int .i64 y.2.2))
          (first | exact ⟨c0, c1, c2, d0, d1, d2⟩ | exact ⟨keep hbA c0, keep hbA c1, keep hbA c2, keep hbA d0, keep hbA d1, keep hbA d2⟩)
          ((go_at_call 30; refine kBV (eqMark_any x y _) ?_; intro wA hbA))
        have HA := Lib.hid (HB.out.trans ((Below.drew (Below.refl wr.heap.size wr)).trans (hbA.mono (Nat.le_refl _)) |>.mono HB.out.size))
        clear hbA
        by_cases hxy : x = y
        · rw [B_true hxy]
          have HXY := Lib.hid hxy
          clear hxy
          go_wp2
          go_roundw
          case rel =>
            refine ⟨k + 1, by omega, by go_num, HA.out, fun j hj => ?_⟩
            rcases Nat.lt_or_ge j k with h1 | h1
            · exact HN.out j h1
            · obtain rfl : j = k := by omega
              rw [HX.out, HY.out]; exact HXY.out
          case measure => simp [intOf]; omega
        · rw [B_false hxy]
          have HXY := Lib.hid hxy
          clear hxy
          go_wp2
          go_ret
          exact ⟨ret_b (B_false (fun hh => HXY.out (by rw [← HX.out, ← HY.out, hh]))).symm, HA.out⟩
      · go_wp2
        go_ret
        obtain rfl : k = n := by omega
        exact ⟨ret_b (B_true (eqUptoMarksAt HL.out HL'.out HN.out)).symm, HB.out⟩
  · have hne : ((n : Int) != (n' : Int)) = true := by simp; omega
    have HL := Lib.hid h.len
    have HL' := Lib.hid h'.len
    go_enter Tryd.func15, Tryd.ntmps15
    go_wp2
    go_ret
    exact ⟨ret_b (B_false (fun hh => hnn (by rw [← HL.out, ← HL'.out, hh]))).symm, Below.refl _ _⟩

section
open Go.ChangeShapes Go.WideShapes Go.ChangeAt
set_option maxRecDepth 100000 in
theorem openMarkS {H : Type} {enc : TypeId × Value → H} {w : World} {base : Nat} {spare : Nat → Bool} {held : Bool} {fuel : Nat} {v : Value} {x : DataW H × List MemPlace}
    (hf : DataW.trod enc Tryd.prog w base spare held fuel 35 [v] = some x) : ∃ A n c xs, v = .slice A n c ∧ n ≤ 9223372036854775807 ∧ MarksAt w A n xs := by
  rcases fields_of_trod Tryd.underlying35 Tryd.underlying61 (by kernel_rfl) (by kernel_rfl) hf with h0 | ⟨a, len, cap, hcs, hl, hm, hc⟩
  · obtain rfl : v = .slice none 0 0 := by simpa using h0
    exact ⟨none, 0, 0, [], rfl, by omega, rfl, fun h => by omega⟩
  · obtain rfl : v = .slice (some a) len cap := by simpa using hcs
    have hq : ∀ i, i < len → ∃ x : Int × Int × Int, w.cell? (a.add (i * 3 + 0)) = some (.int .i64 x.1) ∧ w.cell? (a.add (i * 3 + 1)) = some (.int .i64 x.2.1) ∧ w.cell? (a.add (i * 3 + 2)) = some (.int .i64 x.2.2) := by
      intro i hi
      obtain ⟨n, hf⟩ := hc i hi
      obtain ⟨v0, y0, c0, t0⟩ := hf 0 _ rfl
      obtain ⟨a0, e0, -, -⟩ := DataW.trod_int Tryd.underlying3 t0
      obtain rfl : v0 = .int .i64 a0 := by simpa using e0
      obtain ⟨v1, y1, c1, t1⟩ := hf 1 _ rfl
      obtain ⟨a1, e1, -, -⟩ := DataW.trod_int Tryd.underlying3 t1
      obtain rfl : v1 = .int .i64 a1 := by simpa using e1
      obtain ⟨v2, y2, c2, t2⟩ := hf 2 _ rfl
      obtain ⟨a2, e2, -, -⟩ := DataW.trod_int Tryd.underlying3 t2
      obtain rfl : v2 = .int .i64 a2 := by simpa using e2
      exact ⟨(a0, a1, a2), c0, c1, c2⟩
    obtain ⟨f, hf⟩ : ∃ f : Nat → Int × Int × Int, ∀ i, i < len → w.cell? (a.add (i * 3 + 0)) = some (.int .i64 (f i).1) ∧ w.cell? (a.add (i * 3 + 1)) = some (.int .i64 (f i).2.1) ∧ w.cell? (a.add (i * 3 + 2)) = some (.int .i64 (f i).2.2) :=
      ⟨fun i => if h : i < len then (hq i h).choose else (0, 0, 0), fun i hi => by simp only [hi, dif_pos]; exact (hq i hi).choose_spec⟩
    refine ⟨some a, len, cap, (List.range len).map f, rfl, by unfold maxLen at hm; omega, by simp, fun hn => ?_⟩
    obtain ⟨b, off, spot⟩ := a
    have hs : spot = none := by have := (hf 0 hn).1; simpa [Addr.add] using World.cell?_spot this
    subst hs
    refine ⟨b, off, rfl, fun j hj => ?_⟩
    obtain ⟨c0, c1, c2⟩ := hf j hj
    have hg : ((List.range len).map f).getD j (0, 0, 0) = f j := by simp [List.getD, hj]
    rw [hg]
    rw [add_at] at c0 c1 c2
    exact ⟨c0, c1, c2⟩
end

end Go.Proofs.YtcmicmenkbgfmaaDoor
