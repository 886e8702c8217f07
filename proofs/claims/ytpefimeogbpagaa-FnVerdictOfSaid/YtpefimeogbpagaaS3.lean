/- States after happenings, by the program: lastTime, StateNew, StateAfter. -/
import Derived.Test.YtpefimeogbpagaaH2
import Derived.Test.YtpefimeogbpagaaS1
namespace Go.Proofs.Ytpefimeogbpagaa
open Go.RowKit

/-- The state in which the first point alone is done. -/
def Ds0 (p : Nat) : List Int := 0 :: List.replicate (p - 1) (-1)
def DsA (p : Nat) (hs : List Hp) : List Int := hs.foldl (fun ds h => ds.set h.1.toNat h.2) (Ds0 p)
theorem Ds0_len {p : Nat} (h : 1 ≤ p) : (Ds0 p).length = p := by simp [Ds0]; omega
theorem DsA_snoc (p : Nat) (hs : List Hp) (h : Hp) : DsA p (hs ++ [h]) = (DsA p hs).set h.1.toNat h.2 := by simp [DsA]
theorem DsA_len {p : Nat} (h : 1 ≤ p) (hs : List Hp) : (DsA p hs).length = p := by
  have : ∀ (l : List Hp) (ds : List Int), (l.foldl (fun ds h => ds.set h.1.toNat h.2) ds).length = ds.length := by
    intro l
    induction l with
    | nil => intro ds; rfl
    | cons x l ih => intro ds; rw [List.foldl_cons, ih]; simp
  unfold DsA
  rw [this, Ds0_len h]
theorem DsA_take {p : Nat} {hs : List Hp} {k : Nat} (hk : k < hs.length) : DsA p (hs.take (k + 1)) = (DsA p (hs.take k)).set (hs.getD k (0, 0)).1.toNat (hs.getD k (0, 0)).2 := by
  rw [List.take_succ_eq_append_getElem hk, DsA_snoc, show hs[k] = hs.getD k (0, 0) by simp [List.getD, hk]]
theorem Ds0_of {p : Nat} (hp : 1 ≤ p) {xs : List Int} (hl : xs.length = p) (h0 : xs.getD 0 0 = 0) (h1 : ∀ j, 1 ≤ j → j < p → xs.getD j 0 = -1) : xs = Ds0 p := by
  refine eq_of_upto hl (Ds0_len hp) fun j hj => ?_
  rcases Nat.eq_zero_or_pos j with rfl | hj0
  · rw [h0]; rfl
  · rw [h1 j hj0 hj]
    obtain ⟨i, rfl⟩ : ∃ i, j = i + 1 := ⟨j - 1, by omega⟩
    have hi : i < p - 1 := by omega
    simp [Ds0, List.getD, hi]
theorem getD_set {xs : List Int} {i j : Nat} {v : Int} (hi : i < xs.length) : (xs.set i v).getD j 0 = if i = j then v else xs.getD j 0 := by
  by_cases e : i = j
  · subst e; simp [List.getD, hi]
  · simp [List.getD, e]

/-- Times after happenings may be asked of. -/
def SaOk (p : Int) (bs : List Bd) (hs : List Hp) (now : Int) : Prop := HrdOk p bs hs ∧ InR now (lastT hs hs.length) 2000
/-- A state of its own, and whether it could be made. -/
def StV (w : World) (now : Int) (ds : List Int) (b : Bool) (e : Ending) (w' : World) : Prop :=
  ∃ A n c, e = .returned (.tuple #[.agg #[.int .i64 now, .slice A n c], .bool b]) ∧ OwnZ w' w.heap.size A n c ds ∧ Below w.heap.size w w'
/-- What StateAfter leaves. -/
def SaV (w : World) (p : Int) (bs : List Bd) (hs : List Hp) (now : Int) (e : Ending) (w' : World) : Prop :=
  (SaOk p bs hs now ∧ StV w now (DsA p.toNat hs) true e w') ∨ (¬ SaOk p bs hs now ∧ StV w 0 [] false e w')
theorem HL.inP {P : Nat} {hs : List Hp} (h : HL (P : Int) hs) (hP : 1 ≤ P ∧ P ≤ 6) {k : Nat} (hk : k < hs.length) : 1 ≤ (hs.getD k (0, 0)).1 ∧ (hs.getD k (0, 0)).1 < (P : Int) := by
  obtain ⟨⟨h1, h2⟩, -⟩ := h k hk
  rw [IntWalk.wrap64_in _ (by omega)] at h2
  omega

theorem lastTime_any (D : Option Addr) (m d : Nat) (hs : List Hp) (w : World) (g : HapsAt w D m hs) (hm : m ≤ 1048576) :
    Calls Try.prog 18 #[.slice D m d] w (Same w (.int .i64 (lastT hs m))) := by
  by_cases h0 : m = 0
  · subst h0
    go_enter Try.func18, Try.ntmps18
    go_wp2
    go_ret
    exact ⟨rfl, rfl⟩
  · obtain ⟨k, rfl⟩ : ∃ k, m = k + 1 := ⟨m - 1, by omega⟩
    obtain ⟨b, off, rfl, hc⟩ := g.cells (by omega)
    obtain ⟨-, c1⟩ := hc k (by omega)
    have HLT := Lib.hid (show lastT hs (k + 1) = (hs.getD k (0, 0)).2 by unfold lastT; rw [if_neg (by omega), Nat.add_sub_cancel])
    obtain ⟨t, HT⟩ : ∃ q, Hid ((hs.getD k (0, 0)).2 = q) := ⟨_, rfl⟩
    rw [HT.out] at c1 HLT
    clear hc g
    have hk1 : ((k + 1 : Nat) : Int) - 1 = (k : Int) := by omega
    go_enter Try.func18, Try.ntmps18
    go_wp2
    go_ret
    exact ⟨ret_i HLT.out.symm, rfl⟩

def SnV (w : World) (p : Int) (bs : List Bd) (e : Ending) (w' : World) : Prop :=
  (FitsP p bs ∧ StV w 0 (Ds0 p.toNat) true e w') ∨ (¬ FitsP p bs ∧ StV w 0 [] false e w')
set_option maxRecDepth 100000 in
set_option maxHeartbeats 2000000 in
theorem StateNew_any (p : Int) (A : Option Addr) (n c : Nat) (bs : List Bd) (w : World) (h : BndsAt w A n bs) :
    Calls Try.prog 19 #[.agg #[.int .i64 p, .slice A n c]] w (SnV w p bs) := by
  have hB0 : Below w.heap.size w ((w.alloc (.cells #[.int .i64 p, .slice A n c] 25)).alloc (.cells #[.int .i64 0, .slice none 0 0] 31)) := ((Below.refl w.heap.size w).alloc (Nat.le_refl _) _).alloc (by simp) _
  have HH := Lib.hid (h.below hB0)
  clear h
  go_enter Try.func19, Try.ntmps19
  go_wp2_with (fail)
  refine kB (iFitsOk_any p A n c bs _ HH.out) ?_ ?_
  · intro w1 hf hb1
    obtain ⟨P, rfl, hP1, hP6⟩ := hf.out.1.nat
    have hB1 : Below w.heap.size w w1 := hB0.trans (hb1.mono hB0.size)
    have e0 : w1.cell? ⟨w.heap.size, 0, none⟩ = some (.int .i64 (P : Int)) := keep hb1 (by simp [go_sem])
    have r0 : w1.cell? ⟨w.heap.size + 1, 0, none⟩ = some (.int .i64 0) := keep hb1 (by simp [go_sem])
    have r1 : w1.cell? ⟨w.heap.size + 1, 1, none⟩ = some (.slice none 0 0) := keep hb1 (by simp [go_sem])
    have q0 : w1.frozen? ⟨w.heap.size + 1, 0, none⟩ = false := ((bcell hb1).2 _ _ (by simp)).trans (by simp [go_sem])
    have q1 : w1.frozen? ⟨w.heap.size + 1, 1, none⟩ = false := ((bcell hb1).2 _ _ (by simp)).trans (by simp [go_sem])
    have hsw : w.heap.size + 1 < w1.heap.size := cell_lt r0
    clear hb1
    have hmk2 := makeInts (P := Try.prog) (t := 29) Try.underlying29 infoInt P (by omega)
    have HO0 := Lib.hid (show OwnZ (w1.alloc (.cells (Array.replicate P (.int .i64 0)) 3)) w1.heap.size (some ⟨w1.heap.size, 0, none⟩) P P (List.replicate P 0) from by
      have := own_lit w1 w1.heap.size 3 1 (Array.replicate P (.int .i64 0)) P (Nat.le_refl _) (by unfold maxLen; omega) (by simp)
      rwa [Array.toList_replicate, show List.replicate P (Value.int .i64 0) = vI (List.replicate P 0) by simp [vI]] at this)
    have HB1 := Lib.hid hB1
    have HE0 := Lib.hid e0
    have HR := Lib.hid (And.intro r0 (And.intro r1 (And.intro q0 q1)))
    clear hB1 q0 q1 r0 r1
    go_wp2
    go_loopw [5] (fun i wr => ∃ (k : Nat) (xs : List Int), 1 ≤ k ∧ k ≤ P ∧ i = .int .i64 k ∧ OwnZ wr w1.heap.size (some ⟨w1.heap.size, 0, none⟩) P P xs ∧ xs.getD 0 0 = 0 ∧ (∀ j, 1 ≤ j → j < k → xs.getD j 0 = -1) ∧ wr.cell? ⟨w1.heap.size + 1, 0, none⟩ = some (.int .i64 0) ∧ wr.cell? ⟨w1.heap.size + 1, 1, none⟩ = some (.slice (some ⟨w1.heap.size, 0, none⟩) P P) ∧ Below w1.heap.size w1 wr) (fun i _ => P - (intOf i).toNat)
    case atStart =>
      refine ⟨1, List.replicate P 0, Nat.le_refl _, hP1, rfl, HO0.out.alloc _, ?_, fun j h1 h2 => by omega, by simp [go_sem], by simp [go_sem], ((Below.refl _ _).alloc (Nat.le_refl _) _).alloc (by simp) _⟩
      have : 0 < P := by omega
      simp [List.getD, this]
    case round =>
      obtain ⟨wo, rfl⟩ : ∃ wo : World, wo = wr := ⟨_, rfl⟩
      obtain ⟨k, xs, hk1, hk, rfl, hown, hx0, hx1, s0, s1, hb⟩ := hrel
      have HO := Lib.hid hown
      have HX0 := Lib.hid hx0
      have HX1 := Lib.hid hx1
      have HB := Lib.hid hb
      have e0' : wo.cell? ⟨w.heap.size, 0, none⟩ = some (.int .i64 (P : Int)) := (hb.cell (p := ⟨w.heap.size, 0, none⟩) (by simp; omega)).trans HE0.out
      have hxl := hown.len
      have HXL := Lib.hid hxl
      have hol := (hown.lt _ rfl).2
      clear hx0 hx1 hb hxl e0 hmk2
      by_cases hkp : k < P
      · obtain ⟨b', off', e', hd⟩ := (OwnZ.at_ hown).cells (by omega)
        cases e'
        have d0 := hd k hkp
        rw [Nat.zero_add] at d0
        have f0 := hown.frozenAt k
        clear hd hown
        go_wp2
        go_roundw
        case rel =>
          have h1 := own_setZ HO.out k (.int .i64 (-1))
          refine ⟨k + 1, xs.set k (-1), by omega, by omega, by go_num, by show World.ownsRow _ _ _ _ _ _ (vI _); rw [show vI (xs.set k (-1)) = (vI xs).set k (.int .i64 (-1)) by simp [vI, List.map_set]]; exact h1, ?_, fun j hj1 hj2 => ?_, ?_, ?_, HB.out.setCell (Nat.le_refl _) _⟩
          · rw [getD_set (by rw [HXL.out]; exact hkp), if_neg (by omega)]; exact HX0.out
          · rw [getD_set (by rw [HXL.out]; exact hkp)]
            split
            · rfl
            · exact HX1.out j hj1 (by omega)
          · rw [World.cell?_setCell_far _ _ _ _ (by simp)]; exact s0
          · rw [World.cell?_setCell_far _ _ _ _ (by simp)]; exact s1
        case measure => simp [intOf]; omega
      · obtain rfl : k = P := by omega
        obtain ⟨r0, r1, q0, q1⟩ := HR.out
        have r0' := keep HB.out r0
        have r1' := keep HB.out r1
        have q0' := (HB.out.frozen (p := ⟨w.heap.size + 1, 0, none⟩) hsw).trans q0
        have q1' := (HB.out.frozen (p := ⟨w.heap.size + 1, 1, none⟩) hsw).trans q1
        clear r0 r1 q0 q1
        have HDS := Lib.hid (Ds0_of hP1 HXL.out HX0.out HX1.out)
        go_wp2_with (fail)
        refine bodyPost_ret (v := .tuple #[.agg #[.int .i64 0, .slice (some ⟨w1.heap.size, 0, none⟩) k k], .bool true]) (by simp [results, Try.results19, go_sem, r0', r1']) rfl (.inl ⟨hf.out, _, _, _, rfl, ?_, ?_⟩)
        · show World.ownsRow _ _ _ _ _ _ (vI (Ds0 k))
          rw [← HDS.out]
          exact own_base (own_setOldZ (own_setOldZ HO.out hsw 0 _) hsw 1 _) HB1.out.size
        · exact ((HB1.out.trans (HB.out.mono HB1.out.size)).setCell (by simp) _).setCell (by simp) _
  · intro w1 hf hb1
    have r0 : w1.cell? ⟨w.heap.size + 1, 0, none⟩ = some (.int .i64 0) := keep hb1 (by simp [go_sem])
    have r1 : w1.cell? ⟨w.heap.size + 1, 1, none⟩ = some (.slice none 0 0) := keep hb1 (by simp [go_sem])
    have q0 : w1.frozen? ⟨w.heap.size + 1, 0, none⟩ = false := ((bcell hb1).2 _ _ (by simp)).trans (by simp [go_sem])
    have q1 : w1.frozen? ⟨w.heap.size + 1, 1, none⟩ = false := ((bcell hb1).2 _ _ (by simp)).trans (by simp [go_sem])
    go_wp2_with (fail)
    refine bodyPost_ret (v := .tuple #[.agg #[.int .i64 0, .slice none 0 0], .bool false]) (by simp [results, Try.results19, go_sem, r0, r1]) rfl (.inr ⟨hf.out, _, _, _, rfl, OwnZ.nil _ _, ?_⟩)
    exact ((hB0.trans (hb1.mono hB0.size)).setCell (by simp) _).setCell (by simp) _

end Go.Proofs.Ytpefimeogbpagaa
