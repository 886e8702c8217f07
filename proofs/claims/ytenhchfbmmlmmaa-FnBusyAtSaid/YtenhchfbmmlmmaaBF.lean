/- Begins by an order: spec.l10Free, spec.l10Begins, spec.BeginsBy (as far as draws need them: the begins are small). -/
import Derived.Test.YtenhchfbmmlmmaaBS
import Derived.Test.YtenhchfbmmlmmaaOZ
import Derived.BigRegion
set_option linter.unusedSimpArgs false
namespace Go.Proofs.Ytenhchfbmmlmmaa
open Go.RowKit

/-- All that has begun has ended at t. -/
def Ended (xs bs : List Int) (n : Nat) (t : Int) : Prop := ∀ k, k < n → 0 ≤ bs.getD k 0 → bs.getD k 0 + xs.getD k 0 ≤ t
def FreeV (w : World) (xs bs : List Int) (n : Nat) (t : Int) (e : Ending) (w' : World) : Prop := ∃ b : Bool, e = .returned (.bool b) ∧ Below w.heap.size w w' ∧ (Ended xs bs n t → b = true)
set_option maxRecDepth 100000 in
set_option maxHeartbeats 4000000 in
theorem l10Free_any (A : Option Addr) (n c : Nat) (xs : List Int) (A' : Option Addr) (n' c' : Nat) (h : Int) (D : Option Addr) (d : Nat) (bs : List Int) (j : Nat) (t : Int) (w : World)
    (hx : IntsAt w A n xs) (hb : IntsAt w D n bs) (hn : n ≤ 6) (hxs : AllIn xs 1 20) (hbs : ∀ k, k < n → -1 ≤ bs.getD k 0 ∧ bs.getD k 0 ≤ 200) (hj : j < n) (ht : 0 ≤ t ∧ t ≤ 400) (hh : 1 ≤ h ∧ h ≤ 3) :
    Calls Try.prog 35 #[.agg #[.slice A n c, .slice A' n' c'], .int .i64 h, .slice D n d, .int .i64 (j : Int), .int .i64 t] w (FreeV w xs bs n t) := by
  have HL := Lib.hid hx.len
  obtain ⟨ht0, ht1⟩ := ht
  obtain ⟨hh0, hh1⟩ := hh
  obtain ⟨w0, HW0⟩ : ∃ q, Hid (w.alloc (.cells #[.slice A n c, .slice A' n' c'] 25) = q) := ⟨_, rfl⟩
  have hA0 : Below w.heap.size w w0 := HW0.out ▸ (Below.refl w.heap.size w).alloc (Nat.le_refl _) _
  have s0 : w0.cell? ⟨w.heap.size, 0, none⟩ = some (.slice A n c) := HW0.out ▸ by simp [go_sem]
  have HB0 := Lib.hid hA0
  have HX := Lib.hid (hx.below hA0)
  have HB := Lib.hid (hb.below hA0)
  have HXS := Lib.hid hxs
  have HBS := Lib.hid hbs
  clear hA0 hx hb hxs hbs
  go_enter Try.func35, Try.ntmps35
  go_wp2_with (fail)
  rw [HW0.out]
  obtain ⟨sb, HSB⟩ : ∃ q, Hid (w.heap.size = q) := ⟨_, rfl⟩
  rw [HSB.out] at s0 HB0 ⊢
  go_loopw [11] (fun i wr => ∃ (y : Int) (m : Nat), t ≤ y ∧ y ≤ t + 20 ∧ i = .int .i64 y ∧ wr = w0.drewN m) (fun i _ => (t + 20 - intOf i).toNat)
  case atStart => exact ⟨t, 0, by omega, by omega, rfl, rfl⟩
  case round =>
    obtain ⟨y, m, hy0, hy1, rfl, rfl⟩ := hrel
    obtain ⟨b, off, rfl, hc⟩ := HX.out.cells (by omega)
    have cj := hc j hj
    have hjI : (j : Int) < (n : Int) := by omega
    have HC := Lib.hid hc
    obtain ⟨hx0, hx1⟩ := allIn_at HXS.out (k := j) (by rw [HL.out]; exact hj)
    obtain ⟨xj, HXJ⟩ : ∃ q, Hid (xs.getD j 0 = q) := ⟨_, rfl⟩
    rw [HXJ.out] at cj hx0 hx1
    clear hc
    by_cases hyx : y < t + xj
    · go_wp2_with (fail)
      go_loopw [12, 13] (fun s i wr => ∃ (k : Nat) (z : Int) (m : Nat), k ≤ n ∧ i = .int .i64 k ∧ s = .int .i64 z ∧ 0 ≤ z ∧ z ≤ k ∧ (Ended xs bs n t → z = 0) ∧ wr = w0.drewN m) (fun _ i _ => n - (intOf i).toNat)
      case atStart => exact ⟨0, 0, m, Nat.zero_le _, rfl, rfl, by omega, by omega, fun _ => rfl, rfl⟩
      case round =>
        obtain ⟨k, z, m1, hk, rfl, rfl, hz0, hz1, hz, rfl⟩ := hrel
        have HZ := Lib.hid hz
        clear hz
        by_cases hkn : k < n
        · have ck := HC.out k hkn
          obtain ⟨b', off', rfl, hc'⟩ := HB.out.cells (by omega)
          have dk := hc' k hkn
          have hkI : (k : Int) < (n : Int) := by omega
          obtain ⟨hu0, hu1⟩ := allIn_at HXS.out (k := k) (by rw [HL.out]; exact hkn)
          obtain ⟨hv0, hv1⟩ := HBS.out k hkn
          have HE := Lib.hid (fun h : Ended xs bs n t => h k hkn)
          obtain ⟨u, HU⟩ : ∃ q, Hid (xs.getD k 0 = q) := ⟨_, rfl⟩
          obtain ⟨v, HV⟩ : ∃ q, Hid (bs.getD k 0 = q) := ⟨_, rfl⟩
          rw [HU.out] at ck hu0 hu1 HE
          rw [HV.out] at dk hv0 hv1 HE
          clear hc'
          by_cases h1 : 0 ≤ v
          · by_cases h2 : v ≤ y
            · by_cases h3 : y < v + u
              · have hd1 : decide (0 ≤ v) = true := by simpa using h1
                have HNE := Lib.hid (show ¬ Ended xs bs n t from fun h => by have := HE.out h h1; omega)
                go_wp2
                go_quiet (fail)
                go_wp2
                go_roundw
                case rel => exact ⟨k + 1, z + 1, _, by omega, by go_num, rfl, by omega, by omega, fun h => absurd h HNE.out, rfl⟩
                case measure => simp [intOf]; omega
              · go_wp2
                go_quiet (fail)
                go_wp2
                go_roundw
                case rel => exact ⟨k + 1, z, _, by omega, by go_num, rfl, by omega, by omega, HZ.out, rfl⟩
                case measure => simp [intOf]; omega
            · have hd : decide (v ≤ y) = false := by simpa using h2
              go_wp2
              go_quiet (fail)
              go_wp2
              go_roundw
              case rel => exact ⟨k + 1, z, _, by omega, by go_num, rfl, by omega, by omega, HZ.out, rfl⟩
              case measure => simp [intOf]; omega
          · have hd : decide (0 ≤ v) = false := by simpa using h1
            go_wp2
            go_quiet (fail)
            go_wp2
            go_roundw
            case rel => exact ⟨k + 1, z, _, by omega, by go_num, rfl, by omega, by omega, HZ.out, rfl⟩
            case measure => simp [intOf]; omega
        · by_cases hzh : h ≤ z
          · go_wp2
            go_ret
            exact ⟨false, rfl, by rw [HSB.out]; exact below_drewN HB0.out _, fun he => by have := HZ.out he; omega⟩
          · go_wp2
            go_roundw
            case rel => exact ⟨y + 1, m1, by omega, by omega, by go_num, rfl⟩
            case measure => simp [intOf]; omega
    · go_wp2
      go_ret
      exact ⟨true, rfl, by rw [HSB.out]; exact below_drewN HB0.out _, fun _ => rfl⟩

/-- Begins so far: what has begun has ended at E. -/
def Inv (xs bs : List Int) (n : Nat) (E : Int) : Prop := ∀ k, k < n → -1 ≤ bs.getD k 0 ∧ (0 ≤ bs.getD k 0 → bs.getD k 0 + xs.getD k 0 ≤ E)
theorem Inv.mono {xs bs : List Int} {n : Nat} {E E' : Int} (h : Inv xs bs n E) (hE : E ≤ E') : Inv xs bs n E' := fun k hk => ⟨(h k hk).1, fun h0 => by have := (h k hk).2 h0; omega⟩
theorem Inv.set {xs bs : List Int} {n j : Nat} {E t : Int} (h : Inv xs bs n E) (hl : bs.length = n) (hj : j < n) (hx : 1 ≤ xs.getD j 0 ∧ xs.getD j 0 ≤ 20) (ht : 0 ≤ t ∧ t ≤ E) : Inv xs (bs.set j t) n (E + 20) := fun k hk => by
  by_cases e : j = k
  · subst e
    rw [show (bs.set j t).getD j 0 = t by simp [List.getD, hl, hj]]
    exact ⟨by omega, fun _ => by omega⟩
  · rw [show (bs.set j t).getD k 0 = bs.getD k 0 by simp [List.getD, e]]
    have := h k hk
    exact ⟨this.1, fun h0 => by have := this.2 h0; omega⟩
def BgV (w : World) (n : Nat) (e : Ending) (w' : World) : Prop := ∃ (g cv : Nat) (bs : List Int), e = .returned (.slice (some ⟨g, 0, none⟩) n cv) ∧ OwnZ w' w.heap.size (some ⟨g, 0, none⟩) n cv bs ∧ (∀ k, k < n → -1 ≤ bs.getD k 0 ∧ bs.getD k 0 ≤ 120) ∧ Below w.heap.size w w'
set_option maxRecDepth 100000 in
set_option maxHeartbeats 8000000 in
theorem l10Begins_any (A : Option Addr) (n c : Nat) (xs : List Int) (A' : Option Addr) (c' : Nat) (ys : List Int) (h : Int) (D : Option Addr) (d : Nat) (os : List Int) (w : World)
    (hx : IntsAt w A n xs) (hy : IntsAt w A' n ys) (ho : IntsAt w D n os) (hn : n ≤ 6) (hP : PrjOk xs ys) (hO : ∀ k, k < n → 0 ≤ os.getD k 0 ∧ os.getD k 0 < n) (hh : 1 ≤ h ∧ h ≤ 3) :
    Calls Try.prog 30 #[.agg #[.slice A n c, .slice A' n c'], .int .i64 h, .slice D n d] w (BgV w n) := by
  have HLX := Lib.hid hx.len
  have HLY := Lib.hid hy.len
  obtain ⟨w0, HW0⟩ : ∃ q, Hid (w.alloc (.cells #[.slice A n c, .slice A' n c'] 25) = q) := ⟨_, rfl⟩
  have hA0 : Below w.heap.size w w0 := HW0.out ▸ (Below.refl w.heap.size w).alloc (Nat.le_refl _) _
  have s0 : w0.cell? ⟨w.heap.size, 0, none⟩ = some (.slice A n c) := HW0.out ▸ by simp [go_sem]
  have s1 : w0.cell? ⟨w.heap.size, 1, none⟩ = some (.slice A' n c') := HW0.out ▸ by simp [go_sem]
  have HX := Lib.hid (hx.below hA0)
  have HY := Lib.hid (hy.below hA0)
  have HOS := Lib.hid (ho.below hA0)
  have HPR := Lib.hid hP
  have HOR := Lib.hid hO
  have HH := Lib.hid hh
  have HB0 := Lib.hid hA0
  clear hx hy ho hP hO hh hA0
  go_enter Try.func30, Try.ntmps30
  go_wp2_with (fail)
  rw [HW0.out]
  obtain ⟨sb, HSB⟩ : ∃ q, Hid (w.heap.size = q) := ⟨_, rfl⟩
  rw [HSB.out] at s0 s1 HB0 ⊢
  have hz0 : w0.heap.size = sb + 1 := by rw [← HW0.out, World.size_alloc, HSB.out]
  obtain ⟨B0, HB9⟩ : ∃ q, Hid (sb + 1 = q) := ⟨_, rfl⟩
  have HBB := Lib.hid (hz0.trans HB9.out)
  have hsB : sb < B0 := by have := HB9.out; omega
  rw [HB9.out]
  clear hz0
  have HS := Lib.hid (fun (W : World) (hb : Below B0 w0 W) => And.intro ((hb.cell (p := ⟨sb, 0, none⟩) hsB).trans s0) ((hb.cell (p := ⟨sb, 1, none⟩) hsB).trans s1))
  have HXX := Lib.hid (fun (W : World) (hb : Below B0 w0 W) => And.intro (HX.out.below (show Below w0.heap.size w0 W from HBB.out.symm ▸ hb)) (And.intro (HY.out.below (show Below w0.heap.size w0 W from HBB.out.symm ▸ hb)) (HOS.out.below (show Below w0.heap.size w0 W from HBB.out.symm ▸ hb))))
  clear s0 s1
  go_loopw [7, 8] (fun r i wr => ∃ (k gb cv : Nat), k ≤ n ∧ i = .int .i64 k ∧ r = .slice (some ⟨gb, 0, none⟩) k cv ∧ OwnZ wr B0 (some ⟨gb, 0, none⟩) k cv (List.replicate k (-1)) ∧ Below B0 w0 wr) (fun _ i _ => n - (intOf i).toNat)
  case atStart => exact ⟨0, B0, 0, Nat.zero_le _, rfl, rfl, own_litZ HBB.out B0 3 1 #[] 0 (Nat.le_of_eq HBB.out.symm) (by decide) rfl, HBB.out ▸ (Below.refl _ _).alloc (Nat.le_refl _) _⟩
  case round =>
    obtain ⟨wo, rfl⟩ : ∃ wo : World, wo = wr := ⟨_, rfl⟩
    obtain ⟨k, gb, cv, hk, rfl, rfl, hown, hb⟩ := hrel
    have HO := Lib.hid hown
    have HB := Lib.hid hb
    have hbB : B0 ≤ wo.heap.size := by have := hb.size; have := HBB.out; omega
    clear hown hb
    by_cases hkn : k < n
    · go_wp2_with (first
        | (at_builtin; refine wpl_app rowZ rfl _ _ (by rfl) B0 _ k (vI (List.replicate k (-1))) (by rfl) (HO.out.alloc _) ⟨wo.heap.size, 0, none⟩ 1 1 (vI [-1]) (by rfl) rfl (cell_one_at (by simp) _ _) (vI_one _) (by decide) (by omega) (by simp; omega) ?_
           intro g' cap' wB hownB hgrow hat hltB
           have HOB := Lib.hid hownB
           have HBN := Lib.hid ((HB.out.alloc hbB (.cells #[.int .i64 (-1)] 3)).grown hgrow (by simp; omega) (fun j hj => (HO.out.lt j hj).1))
           clear hownB hgrow hat))
      go_roundw
      case rel =>
        refine ⟨k + 1, g', cap', by omega, by go_num, rfl, ?_, HBN.out⟩
        show World.ownsRow _ _ _ _ _ _ (vI _)
        rw [List.replicate_succ', vI_appZ]
        exact HOB.out
      case measure => simp [intOf]; omega
    · obtain rfl : k = n := by omega
      have HI0 := Lib.hid (show Inv xs (List.replicate k (-1)) k (20 * ((0 : Nat) : Int)) from fun j hj => by
        rw [show (List.replicate k (-1 : Int)).getD j 0 = -1 by simp [List.getD, hj]]
        exact ⟨Int.le_refl _, fun h0 => absurd h0 (by decide)⟩)
      clear hkn
      go_wp2_with (fail)
      go_loopw [9] (fun i wr => ∃ (s : Nat) (bs : List Int), s ≤ k ∧ i = .int .i64 s ∧ OwnZ wr B0 (some ⟨gb, 0, none⟩) k cv bs ∧ Inv xs bs k (20 * (s : Int)) ∧ Below B0 w0 wr) (fun i _ => k - (intOf i).toNat)
      case atStart => exact ⟨0, _, Nat.zero_le _, rfl, HO.out, HI0.out, HB.out⟩
      case round =>
        obtain ⟨wp, rfl⟩ : ∃ wp : World, wp = wr := ⟨_, rfl⟩
        obtain ⟨s, bs1, hs, rfl, hown, hinv, hb⟩ := hrel
        have HO1 := Lib.hid hown
        have HI1 := Lib.hid hinv
        have HB1 := Lib.hid hb
        clear hown hinv hb HO HI0 HB
        by_cases hsn : s < k
        · have hs6 : (s : Int) ≤ 5 := by omega
          go_wp2_with (fail)
          go_loopw [10] (fun i wr => ∃ (q : Nat) (bs : List Int), q ≤ k ∧ i = .int .i64 q ∧ OwnZ wr B0 (some ⟨gb, 0, none⟩) k cv bs ∧ Inv xs bs k (20 * (s : Int)) ∧ Below B0 w0 wr) (fun i _ => k - (intOf i).toNat)
          case atStart => exact ⟨0, bs1, Nat.zero_le _, rfl, HO1.out, HI1.out, HB1.out⟩
          case round =>
            obtain ⟨wq, rfl⟩ : ∃ wq : World, wq = wr := ⟨_, rfl⟩
            obtain ⟨q, bs, hq, rfl, hown, hinv, hb⟩ := hrel
            have HO2 := Lib.hid hown
            have HI2 := Lib.hid hinv
            have HB2 := Lib.hid hb
            clear hown hinv hb HO1 HI1 HB1
            by_cases hqk : q < k
            · obtain ⟨o1, o2⟩ := HOR.out q hqk
              obtain ⟨hxr, hyr, hor⟩ := HXX.out _ HB2.out
              obtain ⟨ob, oo, rfl, hoc⟩ := hor.cells (by omega)
              have co := hoc q hqk
              have hqI : (q : Int) < (k : Int) := by omega
              have HXR := Lib.hid hxr
              have HYR := Lib.hid hyr
              clear hoc hxr hyr hor
              obtain ⟨jI, HJI⟩ : ∃ z, Hid (os.getD q 0 = z) := ⟨_, rfl⟩
              rw [HJI.out] at co o1 o2
              obtain ⟨j, rfl⟩ := Int.eq_ofNat_of_zero_le o1
              have hjk : j < k := by omega
              obtain ⟨b9, off9, e9, hd9⟩ := (OwnZ.at_ HO2.out).cells (by omega)
              cases e9
              have dj := hd9 j hjk
              rw [Nat.zero_add] at dj
              have HDC := Lib.hid hd9
              have hgl := (HO2.out.lt gb rfl).2
              clear hd9
              obtain ⟨v, HV⟩ : ∃ z, Hid (bs.getD j 0 = z) := ⟨_, rfl⟩
              rw [HV.out] at dj
              obtain ⟨bm, HBM⟩ : ∃ z, Hid (decide (v < 0) = z) := ⟨_, rfl⟩
              have hbm := HBM.out
              obtain ⟨t0, t1⟩ := HS.out _ HB2.out
              go_wp2_with (fail)
              go_loopw [12, 13, 14] (fun tv bv i wr => ∃ (z : Nat) (t : Int) (b : Bool) (mm : Nat), z ≤ j ∧ i = .int .i64 z ∧ tv = .int .i64 t ∧ bv = .bool b ∧ 0 ≤ t ∧ t ≤ 20 * (s : Int) + 20 ∧ (b = true → t ≤ 20 * (s : Int)) ∧ wr = wq.drewN mm) (fun _ _ i _ => j - (intOf i).toNat)
              case atStart => exact ⟨0, 0, bm, 0, Nat.zero_le _, rfl, rfl, by first | rfl | rw [hbm], by omega, by omega, fun _ => by omega, rfl⟩
              case round =>
                obtain ⟨z, t, b, mm, hz, rfl, rfl, rfl, ht0, ht1, htb, rfl⟩ := hrel
                have HTB := Lib.hid htb
                clear htb
                by_cases hzj : z < j
                · have hzk : z < k := by omega
                  have hzI : (z : Int) < (k : Int) := by omega
                  have hzjI : (z : Int) < (j : Int) := by omega
                  have hjI : (j : Int) < (k : Int) := by omega
                  obtain ⟨yb, yo, rfl, hyc⟩ := HYR.out.cells (by omega)
                  have cy := hyc j hjk
                  obtain ⟨xb, xo, rfl, hxc⟩ := HXR.out.cells (by omega)
                  have cx := hxc z hzk
                  have du := HDC.out z hzk
                  rw [Nat.zero_add] at du
                  obtain ⟨hy0, hy1⟩ := HPR.out.2.1 j (by rw [HLY.out]; exact hjk)
                  obtain ⟨hx0, hx1⟩ := allIn_at HPR.out.1 (k := z) (by rw [HLX.out]; exact hzk)
                  obtain ⟨hu0, hu1⟩ := HI2.out z hzk
                  have hy2 : ys.getD j 0 ≤ 63 := by
                    have h1 : j = 0 ∨ j = 1 ∨ j = 2 ∨ j = 3 ∨ j = 4 ∨ j = 5 := by omega
                    have h2 : (2 : Int) ^ (min j 20) ≤ 64 := by rcases h1 with h1 | h1 | h1 | h1 | h1 | h1 <;> rw [h1] <;> decide
                    omega
                  obtain ⟨y, HYY⟩ : ∃ q, Hid (ys.getD j 0 = q) := ⟨_, rfl⟩
                  obtain ⟨x, HXX2⟩ : ∃ q, Hid (xs.getD z 0 = q) := ⟨_, rfl⟩
                  obtain ⟨u, HUU⟩ : ∃ q, Hid (bs.getD z 0 = q) := ⟨_, rfl⟩
                  rw [HYY.out] at cy hy0 hy2
                  rw [HXX2.out] at cx hx0 hx1 hu1
                  rw [HUU.out] at du hu0 hu1
                  clear hyc hxc hy1
                  have hu2 : u ≤ 200 := by
                    rcases Int.lt_or_le u 0 with h3 | h3
                    · omega
                    · have := hu1 h3; omega
                  cases b with
                  | false =>
                    go_wp2_with (fail)
                    · go_region
                      go_wp2
                      go_roundw
                      case rel => exact ⟨z + 1, if t < u + x then u + x else t, false, _, by omega, by go_num, rfl, rfl, by omega, by omega, (fun e => by cases e), by first | rfl | exact dd _ _ _⟩
                      case measure => simp [intOf]; omega
                    · go_roundw
                      case rel => exact ⟨z + 1, t, false, mm, by omega, by go_num, rfl, rfl, by omega, by omega, (fun e => by cases e), rfl⟩
                      case measure => simp [intOf]; omega
                  | true =>
                    have hts := HTB.out rfl
                    by_cases hu : 0 ≤ u
                    · have hux := hu1 hu
                      have hd : decide (0 ≤ u) = true := by simpa using hu
                      clear hu1
                      go_wp2_with (fail)
                      · go_region
                        go_wp2
                        go_roundw
                        case rel => exact ⟨z + 1, if t < u + x then u + x else t, true, _, by omega, by go_num, rfl, rfl, by omega, by omega, fun _ => by omega, by first | rfl | exact dd _ _ _⟩
                        case measure => simp [intOf]; omega
                      · go_roundw
                        case rel => exact ⟨z + 1, t, true, mm, by omega, by go_num, rfl, rfl, by omega, by omega, fun _ => hts, rfl⟩
                        case measure => simp [intOf]; omega
                    · have hd : decide (0 ≤ u) = false := by simpa using hu
                      clear hu1
                      go_wp2_with (fail)
                      · go_region
                        go_wp2
                        go_roundw
                        case rel => exact ⟨z + 1, if t < u + x then u + x else t, false, _, by omega, by go_num, rfl, rfl, by omega, by omega, (fun e => by cases e), by first | rfl | exact dd _ _ _⟩
                        case measure => simp [intOf]; omega
                      · go_roundw
                        case rel => exact ⟨z + 1, t, true, mm, by omega, by go_num, rfl, rfl, by omega, by omega, fun _ => hts, rfl⟩
                        case measure => simp [intOf]; omega
                · obtain rfl : z = j := by omega
                  cases b with
                  | false =>
                    go_wp2
                    go_roundw
                    case rel => exact ⟨q + 1, bs, by omega, by go_num, own_drewN HO2.out mm, HI2.out, below_drewN HB2.out mm⟩
                    case measure => simp [intOf]; omega
                  | true =>
                    have hts := HTB.out rfl
                    have HOm := Lib.hid (show OwnZ (wq.drewN mm) B0 (some ⟨gb, 0, none⟩) k cv bs from own_drewN HO2.out mm)
                    have HBm := Lib.hid (show Below B0 w0 (wq.drewN mm) from below_drewN HB2.out mm)
                    obtain ⟨wm, HWM⟩ : ∃ w : World, Hid (wq.drewN mm = w) := ⟨_, rfl⟩
                    rw [HWM.out] at HOm HBm
                    go_wp2_with (fail)
                    rw [HWM.out]
                    go_loopw [12] (fun i wr => ∃ t : Int, i = .int .i64 t ∧ 0 ≤ t ∧ t ≤ 20 * (s : Int) ∧ OwnZ wr B0 (some ⟨gb, 0, none⟩) k cv bs ∧ Below B0 w0 wr) (fun i _ => (20 * (s : Int) + 1 - intOf i).toNat)
                    case atStart => exact ⟨t, rfl, ht0, hts, HOm.out, HBm.out⟩
                    case round =>
                      obtain ⟨wf, rfl⟩ : ∃ wf : World, wf = wr := ⟨_, rfl⟩
                      obtain ⟨t, rfl, ht0, hts, hown, hb⟩ := hrel
                      have HO3 := Lib.hid hown
                      have HB3 := Lib.hid hb
                      obtain ⟨u0, u1⟩ := HS.out _ hb
                      obtain ⟨hxr, hyr, hor⟩ := HXX.out _ hb
                      have HXF := Lib.hid hxr
                      obtain ⟨hh0, hh1⟩ := HH.out
                      have hgl3 := (hown.lt gb rfl).2
                      have hgB3 := (hown.lt gb rfl).1
                      obtain ⟨b8, off8, e8, hd8⟩ := (OwnZ.at_ hown).cells (by omega)
                      cases e8
                      have d8 := hd8 z hjk
                      rw [Nat.zero_add] at d8
                      have f8 := hown.frozenAt z
                      have hcv := OwnZ.cap hown
                      have hzI : (z : Int) < (k : Int) := by omega
                      clear hown hb hxr hyr hor hd8 HOm HBm
                      go_wp2_with (fail)
                      refine (l10Free_any A k c xs A' k c' h (some ⟨gb, 0, none⟩) cv bs z t _ HXF.out (OwnZ.at_ HO3.out) hn HPR.out.1 (fun i hi => by
                        have h1 := HI2.out i hi
                        have h2 := (allIn_at HPR.out.1 (k := i) (by rw [HLX.out]; exact hi)).1
                        refine ⟨h1.1, ?_⟩
                        rcases Int.lt_or_le (bs.getD i 0) 0 with h3 | h3
                        · omega
                        · have := h1.2 h3; omega) hjk ⟨ht0, by omega⟩ ⟨hh0, hh1⟩).mono ?_
                      rintro e w5 ⟨fr, rfl, hb5, hfr⟩
                      have HFR := Lib.hid hfr
                      have HB5 := Lib.hid (HB3.out.trans (hb5.mono (by have := HB3.out.size; have := HBB.out; omega)))
                      have HO5 := Lib.hid (own_below HO3.out hb5)
                      have d8 := keep hb5 d8
                      have f8' := (hb5.frozen (p := ⟨gb, z, none⟩) hgl3).trans f8
                      clear hb5 hfr
                      cases fr with
                      | true =>
                        have HSET := Lib.hid (show OwnZ (w5.setCell ⟨gb, z, none⟩ (.int .i64 t)) B0 (some ⟨gb, 0, none⟩) k cv (bs.set z t) from by
                          have h1 := own_setZ HO5.out z (.int .i64 t)
                          show World.ownsRow _ _ _ _ _ _ (vI _)
                          rw [show vI (bs.set z t) = (vI bs).set z (.int .i64 t) by simp [vI, List.map_set]]
                          exact h1)
                        have hxz := allIn_at HPR.out.1 (k := z) (by rw [HLX.out]; exact hjk)
                        have HIN := Lib.hid (HI2.out.set (OwnZ.len HO2.out) hjk hxz ⟨ht0, hts⟩)
                        clear hxz
                        go_wp2
                        go_roundw
                        case rel => exact ⟨s + 1, _, by omega, by go_num, HSET.out, HIN.out.mono (by push_cast; omega), HB5.out.setCell hgB3 _⟩
                        case measure => simp [intOf]; omega
                      | false =>
                        have hlt : t < 20 * (s : Int) := by
                          rcases Int.lt_or_le t (20 * (s : Int)) with h3 | h3
                          · exact h3
                          · exact absurd (HFR.out (fun i hi h0 => by have := (HI2.out i hi).2 h0; omega)) (by decide)
                        go_wp2
                        go_roundw
                        case rel => exact ⟨t + 1, by go_num, by omega, by omega, HO5.out, HB5.out⟩
                        case measure => simp [intOf]; omega
            · obtain rfl : q = k := by omega
              go_wp2
              go_roundw
              case rel => exact ⟨s + 1, bs, by omega, by go_num, HO2.out, HI2.out.mono (by omega), HB2.out⟩
              case measure => simp [intOf]; omega
        · obtain rfl : s = k := by omega
          go_wp2
          go_ret
          exact ⟨gb, cv, bs1, rfl, by rw [HSB.out]; exact own_base HO1.out (by omega), fun j hj => by
            have h1 := HI1.out j hj
            have h2 := (allIn_at HPR.out.1 (k := j) (by rw [HLX.out]; exact hj)).1
            refine ⟨h1.1, ?_⟩
            rcases Int.lt_or_le (bs1.getD j 0) 0 with h3 | h3
            · omega
            · have := h1.2 h3; omega, by rw [HSB.out]; exact HB0.out.trans (HB1.out.mono (by omega))⟩

end Go.Proofs.Ytenhchfbmmlmmaa
