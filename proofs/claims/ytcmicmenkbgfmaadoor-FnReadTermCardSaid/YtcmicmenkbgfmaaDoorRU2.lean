/- (*termReader).take and number. -/
import Derived.Test.YtcmicmenkbgfmaaDoorRU1
import Derived.Test.YtcmicmenkbgfmaaDoorSI
import Derived.Deep.RegionHeldLaw
set_option linter.unusedSimpArgs false
namespace Go.Proofs.YtcmicmenkbgfmaaDoor
open Go.RowKit

/-- What take leaves. -/
def TkV (R : Nat) (s : ByteArray) (c : UInt8) (i : Nat) (f : Bool) (w : World) (e : Ending) (w' : World) : Prop :=
  (i < s.size ∧ s.data.toList.drop i = c :: s.data.toList.drop (i + 1) ∧ e = .returned (.bool true) ∧ MvR R s (i + 1) f w w') ∨ ((s.data.toList.drop i).head? ≠ some c ∧ e = .returned (.bool false) ∧ MvR R s i f w w')
theorem kTk {Pr : Program} {fn : FuncId} {args : Array Value} {w : World} {K : Ending → World → Prop} {R i : Nat} {s : ByteArray} {c : UInt8} {f : Bool} (h : Calls Pr fn args w (TkV R s c i f w))
    (h1 : i < s.size → Hid (s.data.toList.drop i = c :: s.data.toList.drop (i + 1)) → ∀ w', MvR R s (i + 1) f w w' → K (.returned (.bool true)) w')
    (h0 : Hid ((s.data.toList.drop i).head? ≠ some c) → ∀ w', MvR R s i f w w' → K (.returned (.bool false)) w') : Calls Pr fn args w K :=
  h.mono fun e w' hv => by
    rcases hv with ⟨a, b, rfl, m⟩ | ⟨a, rfl, m⟩
    · exact h1 a (Lib.hid b) w' m
    · exact h0 (Lib.hid a) w' m

set_option maxRecDepth 100000 in
theorem take_any (R : Nat) (s : ByteArray) (i : Nat) (f : Bool) (c : UInt8) (q : Int) (hq : (c.toNat : Int) = q) (w : World) (hs : s.size ≤ 120) (h : TR w R s i f) :
    Calls Tryd.prog 47 #[.pointer (some ⟨R, 0, none⟩), .int .u8 q] w (TkV R s c i f w) := by
  have HM := Lib.hid (MvR.rf h)
  have HS := Lib.hid (fun (m : Nat) => (MvR.rf h).drewN m)
  obtain ⟨c0, c1, -, z1, -⟩ := h
  by_cases hi : i < s.size
  · have hidx := run_at (Pr := Tryd.prog) 9 s i hi Tryd.underlying9
    have HD := Lib.hid (drop_bt hi)
    have HH := Lib.hid (head_bt hi)
    have hiI : (i : Int) < (s.size : Int) := by omega
    have HQ := Lib.hid (u8_eq (a := btA s i) (b := c))
    rw [hq] at HQ
    obtain ⟨b, HB⟩ : ∃ x, Hid (((btA s i).toNat : Int) = x) := ⟨_, rfl⟩
    rw [HB.out] at HQ hidx
    clear hq
    by_cases hc : b = q
    · have hb : (b == q) = true := by simpa using hc
      have HC := Lib.hid (HQ.out.1 hc)
      clear hc
      go_enter Tryd.func47, Tryd.ntmps47
      go_wp2
      go_quiet (fail)
      go_wp2
      go_ret
      refine .inl ⟨hi, by rw [HD.out, HC.out], rfl, ?_⟩
      have h2 := (HS.out nq).setAt (i + 1)
      rw [show ((i + 1 : Nat) : Int) = (i : Int) + 1 by omega] at h2
      exact h2
    · have hb : (b == q) = false := by simpa using hc
      have HC := Lib.hid (show ¬ btA s i = c from fun e => hc (HQ.out.2 e))
      clear hc
      go_enter Tryd.func47, Tryd.ntmps47
      go_wp2
      go_quiet (fail)
      go_wp2
      go_ret
      exact .inr ⟨by rw [HH.out]; exact fun e => HC.out (Option.some.inj e), rfl, HS.out nq⟩
  · have hd : decide ((i : Int) < (s.size : Int)) = false := by simpa using hi
    have hd2 : decide (i < s.size) = false := by simpa using hi
    have HN := Lib.hid (head_none hi c)
    clear hi hq
    go_enter Tryd.func47, Tryd.ntmps47
    go_wp2
    go_quiet (fail)
    go_wp2
    go_ret
    exact .inr ⟨HN.out, rfl, HS.out nq⟩

/-- A call that reads a number. -/
def NumV (R : Nat) (s : ByteArray) (i : Nat) (f : Bool) (w : World) (e : Ending) (w' : World) : Prop :=
  ∃ (n : Int) (i' : Nat) (g : Bool), e = .returned (.int .i64 n) ∧ (i ≤ i' ∧ i' ≤ s.size) ∧ Num (s.data.toList.drop i) n g (s.data.toList.drop i') ∧ MvR R s i' (f && g) w w'
theorem kNum {Pr : Program} {fn : FuncId} {args : Array Value} {w : World} {Q : Ending → World → Prop} {R i : Nat} {s : ByteArray} {f : Bool} (h : Calls Pr fn args w (NumV R s i f w))
    (h1 : ∀ n i' g w', i ≤ i' → i' ≤ s.size → Hid (Num (s.data.toList.drop i) n g (s.data.toList.drop i')) → MvR R s i' (f && g) w w' → Q (.returned (.int .i64 n)) w') : Calls Pr fn args w Q :=
  h.mono fun e w' ⟨n, i', g, he, h2, h3, h4⟩ => by subst he; exact h1 n i' g w' h2.1 h2.2 (Lib.hid h3) h4
theorem kAtoi {Pr : Program} {fn : FuncId} {args : Array Value} {w : World} {Q : Ending → World → Prop} {s : ByteArray} (h : Calls Pr fn args w (AtoiV s w))
    (h1 : ∀ n v w', Hid ((v = .nilIface ∧ Lib.atoiAll s.data.toList = .ok n) ∨ ((∃ T a, v = .iface T (.pointer (some a))) ∧ ∀ m, Lib.atoiAll s.data.toList ≠ .ok m)) → Below w.heap.size w w' → Q (.returned (.tuple #[.int .i64 n, v])) w') : Calls Pr fn args w Q :=
  h.mono fun e w' ⟨n, v, he, h2, h3⟩ => by subst he; exact h1 n v w' (Lib.hid h2) h3
theorem atoi_of (s : ByteArray) (hs : s.size ≤ 120) (w : World) (h : GV w) : Calls Tryd.prog 65 #[.string s] w (AtoiV s w) := by
  obtain ⟨e1, e2, h1, g1, h2, g2⟩ := h
  exact atoi_any s hs w e1 e2 h1 g1 h2 g2
def posOf (w : World) (R : Nat) : Nat := match w.cell? ⟨R, 1, none⟩ with | some (.int _ x) => x.toNat | _ => 0
theorem TR.pos {w : World} {R i : Nat} {s : ByteArray} {f : Bool} (h : TR w R s i f) : posOf w R = i := by unfold posOf; rw [h.c1]; simp
theorem MvR.pos {w w' : World} {R i : Nat} {s : ByteArray} {f : Bool} (h : MvR R s i f w w') : posOf w' R = i := h.2.pos
theorem ext_list (s : ByteArray) (i j : Nat) : (s.extract i j).data.toList = (s.data.toList.drop i).take (j - i) := by simp [ByteArray.data_extract]

set_option maxRecDepth 100000 in
set_option maxHeartbeats 2000000 in
theorem number_any (R : Nat) (s : ByteArray) (i0 : Nat) (f : Bool) (w : World) (hs : s.size ≤ 120) (hi0 : i0 ≤ s.size) (h : TR w R s i0 f) (hg : GV w) :
    Calls Tryd.prog 59 #[.pointer (some ⟨R, 0, none⟩)] w (NumV R s i0 f w) := by
  have HG := Lib.hid hg
  have HT := Lib.hid h
  have HM0 := Lib.hid (MvR.rf h)
  obtain ⟨c0, c1, c2, z1, z2⟩ := h
  clear hg
  go_enter Tryd.func59, Tryd.ntmps59
  go_wp2_with (fail)
  go_loopw [] (fun wr => ∃ j : Nat, Digs s i0 j ∧ MvR R s j f w wr) (fun wr => s.size - posOf wr R)
  case atStart => exact ⟨i0, Digs.start hi0, HM0.out⟩
  case round =>
    obtain ⟨wo, rfl⟩ : ∃ wo : World, wo = wr := ⟨_, rfl⟩
    obtain ⟨j, hdg, hm⟩ := hrel
    have HDG := Lib.hid hdg
    have HM := Lib.hid hm
    have HS := Lib.hid (fun (m : Nat) => hm.drewN m)
    have hj0 := hdg.1
    have hj1 := hdg.2.1
    clear c0 c1 c2 z1 z2 hdg
    obtain ⟨c0, c1, c2, z1, z2⟩ := hm.tr
    clear hm
    by_cases hj : j < s.size
    · have hidx := run_at (Pr := Tryd.prog) 9 s j hj Tryd.underlying9
      have hjI : (j : Int) < (s.size : Int) := by omega
      have HDI := Lib.hid (isDig_iff (btA s j))
      have hb255 : (btA s j).toNat < 256 := UInt8.toNat_lt _
      obtain ⟨b, HB⟩ : ∃ x, Hid (((btA s j).toNat : Int) = x) := ⟨_, rfl⟩
      have hb0 : 0 ≤ b ∧ b ≤ 255 := by have := HB.out; omega
      rw [HB.out] at HDI hidx
      obtain ⟨hb1, hb2⟩ := hb0
      have hwr : IntKind.i64.wrap b = b := IntWalk.i64_in _ (by omega)
      clear hb255
      by_cases hd : 48 ≤ b ∧ b ≤ 57
      · have HIN := Lib.hid (fun W : World => (by have h1 := in_any b 48 57 W; rw [B_true (show InR b 48 57 from hd)] at h1; exact h1 : Calls Tryd.prog 34 #[.int .i64 b, .int .i64 48, .int .i64 57] W (Same W (.bool true))))
        have HDD := Lib.hid (HDG.out.next hj (HDI.out.2 hd))
        clear hd
        go_wp2
        go_quiet ((go_at_call 34; exact qS (HIN.out _)))
        go_wp2
        go_roundw
        case rel =>
          have h2 := (HS.out nq).setAt (j + 1)
          rw [show ((j + 1 : Nat) : Int) = (j : Int) + 1 by omega] at h2
          exact ⟨j + 1, HDD.out, h2⟩
        case measure =>
          have h2 := (HS.out nq).setAt (j + 1)
          rw [show ((j + 1 : Nat) : Int) = (j : Int) + 1 by omega] at h2
          rw [h2.pos, HM.out.pos]; omega
      · have HIN2 := Lib.hid (fun W : World => (by have h1 := in_any b 48 57 W; rw [B_false (show ¬ InR b 48 57 from hd)] at h1; exact h1 : Calls Tryd.prog 34 #[.int .i64 b, .int .i64 48, .int .i64 57] W (Same W (.bool false))))
        have HNO := Lib.hid (show ¬ j < s.size ∨ ¬ isDig (btA s j) from .inr (fun h => hd (HDI.out.1 h)))
        clear hd
        go_wp2
        go_quiet ((go_at_call 34; exact qS (HIN2.out _)))
        obtain ⟨w2, HW2⟩ : ∃ q, Hid (wo.drewN nq = q) := ⟨_, rfl⟩
        have HM2 := Lib.hid (HS.out nq)
        rw [HW2.out] at HM2 ⊢
        clear c0 c1 c2 z1 z2
        obtain ⟨d0, d1, d2, y1, y2⟩ := HM2.out.tr
        have hjI0 : (i0 : Int) ≤ (j : Int) := by omega
        have hjI1 : (j : Int) ≤ (s.size : Int) := by omega
        have hiI0 : (0 : Int) ≤ (i0 : Int) := by omega
        obtain ⟨X, HX⟩ : ∃ q, Hid (s.extract i0 j = q) := ⟨_, rfl⟩
        have hsl : ∀ W : World, (Instr.slice 9 (.string s) (some (.int .i64 (i0 : Int))) (some (.int .i64 (j : Int))) none).run Tryd.prog W = .ok (.string X) W := fun W => by
          have h2 := run_slice_string (P := Tryd.prog) W 9 s .i64 .i64 (i0 : Int) (j : Int) Tryd.underlying9 hiI0 hjI0 hjI1
          rw [Int.toNat_natCast, Int.toNat_natCast, HX.out] at h2
          exact h2
        have HXL := Lib.hid (show X.data.toList = (s.data.toList.drop i0).take (j - i0) by rw [← HX.out]; exact ext_list s i0 j)
        have HXS := Lib.hid (show X.size ≤ 120 by rw [← sz_list, HXL.out, List.length_take, List.length_drop, sz_list]; omega)
        have HG2 := Lib.hid (HG.out.mv HT.out HM2.out)
        have HAT := Lib.hid (fun (W : World) (hb : Below w2.heap.size w2 W) => atoi_of X HXS.out W (HG2.out.below hb))
        have HNM := Lib.hid (fun (n : Int) (g : Bool) (hv : ∀ q : Nat, q < 20 → (s.data.toList.drop i0).take (j - i0) = dec (q : Int) → n = q ∧ g = true) => num_of HDG.out HNO.out hv)
        clear HW2 HS HM HM0 HG2 hjI0 hjI1 hiI0
        go_wp2_with (fail)
        go_region_held_law (fun w' => w'.cell? ⟨R, 0, none⟩ = some (.string s) ∧ w'.cell? ⟨R, 1, none⟩ = some (.int .i64 (j : Int)))
          (first | exact ⟨d0, d1⟩)
          (first
            | (go_at_call 65; refine kAtoi (HAT.out _ (by first | exact Below.refl _ _ | exact (Below.refl _ _).drew)) ?_
               intro n v w3 hv hb
               have d0 := keep hb d0
               have d1 := keep hb d1))
        have HM3 := Lib.hid (show MvR R s j f w w3 from by first | exact HM2.out.below hb | exact (HM2.out.drewN 1).below hb)
        have e2 := HM3.out.tr.c2
        have q2 := HM3.out.tr.z2
        clear d0 d1 d2 y1 y2 hb hsl HAT
        have HV := Lib.hid hv.out
        rcases hv.out with ⟨rfl, hn⟩ | ⟨⟨T, a, rfl⟩, hn⟩
        · have HOK := Lib.hid (HNM.out n true (fun q hq e => by rw [HXL.out, e, atoi_dec q hq] at hn; exact ⟨(Lib.NumEnd.ok.inj hn).symm, rfl⟩))
          clear hn hv HV
          cases f with
          | true =>
            go_wp2
            go_ret
            exact ⟨n, j, true, rfl, ⟨hj0, hj1⟩, HOK.out, HM3.out.setFine true⟩
          | false =>
            go_wp2
            go_ret
            exact ⟨n, j, true, rfl, ⟨hj0, hj1⟩, HOK.out, HM3.out.setFine false⟩
        · have HOK := Lib.hid (HNM.out n false (fun q hq e => absurd (by rw [HXL.out, e]; exact atoi_dec q hq) (hn (q : Int))))
          clear hn hv HV
          cases f with
          | true =>
            go_wp2
            go_ret
            exact ⟨n, j, false, rfl, ⟨hj0, hj1⟩, HOK.out, HM3.out.setFine false⟩
          | false =>
            go_wp2
            go_ret
            exact ⟨n, j, false, rfl, ⟨hj0, hj1⟩, HOK.out, HM3.out.setFine false⟩
    · have hd : decide ((j : Int) < (s.size : Int)) = false := by simpa using hj
      have hd2 : decide (j < s.size) = false := by simpa using hj
      have HNO := Lib.hid (show ¬ j < s.size ∨ ¬ isDig (btA s j) from .inl hj)
      clear hj
      go_wp2
      go_quiet (fail)
      obtain ⟨w2, HW2⟩ : ∃ q, Hid (wo.drewN nq = q) := ⟨_, rfl⟩
      have HM2 := Lib.hid (HS.out nq)
      rw [HW2.out] at HM2 ⊢
      clear c0 c1 c2 z1 z2
      obtain ⟨d0, d1, d2, y1, y2⟩ := HM2.out.tr
      have hjI0 : (i0 : Int) ≤ (j : Int) := by omega
      have hjI1 : (j : Int) ≤ (s.size : Int) := by omega
      have hiI0 : (0 : Int) ≤ (i0 : Int) := by omega
      obtain ⟨X, HX⟩ : ∃ q, Hid (s.extract i0 j = q) := ⟨_, rfl⟩
      have hsl : ∀ W : World, (Instr.slice 9 (.string s) (some (.int .i64 (i0 : Int))) (some (.int .i64 (j : Int))) none).run Tryd.prog W = .ok (.string X) W := fun W => by
        have h2 := run_slice_string (P := Tryd.prog) W 9 s .i64 .i64 (i0 : Int) (j : Int) Tryd.underlying9 hiI0 hjI0 hjI1
        rw [Int.toNat_natCast, Int.toNat_natCast, HX.out] at h2
        exact h2
      have HXL := Lib.hid (show X.data.toList = (s.data.toList.drop i0).take (j - i0) by rw [← HX.out]; exact ext_list s i0 j)
      have HXS := Lib.hid (show X.size ≤ 120 by rw [← sz_list, HXL.out, List.length_take, List.length_drop, sz_list]; omega)
      have HG2 := Lib.hid (HG.out.mv HT.out HM2.out)
      have HAT := Lib.hid (fun (W : World) (hb : Below w2.heap.size w2 W) => atoi_of X HXS.out W (HG2.out.below hb))
      have HNM := Lib.hid (fun (n : Int) (g : Bool) (hv : ∀ q : Nat, q < 20 → (s.data.toList.drop i0).take (j - i0) = dec (q : Int) → n = q ∧ g = true) => num_of HDG.out HNO.out hv)
      clear HW2 HS HM HM0 HG2 hjI0 hjI1 hiI0
      go_wp2_with (fail)
      go_region_held_law (fun w' => w'.cell? ⟨R, 0, none⟩ = some (.string s) ∧ w'.cell? ⟨R, 1, none⟩ = some (.int .i64 (j : Int)))
        (first | exact ⟨d0, d1⟩)
        (first
          | (go_at_call 65; refine kAtoi (HAT.out _ (by first | exact Below.refl _ _ | exact (Below.refl _ _).drew)) ?_
             intro n v w3 hv hb
             have d0 := keep hb d0
             have d1 := keep hb d1))
      have HM3 := Lib.hid (show MvR R s j f w w3 from by first | exact HM2.out.below hb | exact (HM2.out.drewN 1).below hb)
      have e2 := HM3.out.tr.c2
      have q2 := HM3.out.tr.z2
      clear d0 d1 d2 y1 y2 hb hsl HAT
      have HV := Lib.hid hv.out
      rcases hv.out with ⟨rfl, hn⟩ | ⟨⟨T, a, rfl⟩, hn⟩
      · have HOK := Lib.hid (HNM.out n true (fun q hq e => by rw [HXL.out, e, atoi_dec q hq] at hn; exact ⟨(Lib.NumEnd.ok.inj hn).symm, rfl⟩))
        clear hn hv HV
        cases f with
        | true =>
          go_wp2
          go_ret
          exact ⟨n, j, true, rfl, ⟨hj0, hj1⟩, HOK.out, HM3.out.setFine true⟩
        | false =>
          go_wp2
          go_ret
          exact ⟨n, j, true, rfl, ⟨hj0, hj1⟩, HOK.out, HM3.out.setFine false⟩
      · have HOK := Lib.hid (HNM.out n false (fun q hq e => absurd (by rw [HXL.out, e]; exact atoi_dec q hq) (hn (q : Int))))
        clear hn hv HV
        cases f with
        | true =>
          go_wp2
          go_ret
          exact ⟨n, j, false, rfl, ⟨hj0, hj1⟩, HOK.out, HM3.out.setFine false⟩
        | false =>
          go_wp2
          go_ret
          exact ⟨n, j, false, rfl, ⟨hj0, hj1⟩, HOK.out, HM3.out.setFine false⟩

end Go.Proofs.YtcmicmenkbgfmaaDoor
