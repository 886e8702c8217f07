/- What the listed variables give the walks: the library's two errors hold what errors are; a text that came in. -/
import Derived.Test.YtcmicmenkbgfmaaDoorRU1
import Derived.Stop.LaidErr
import Derived.LaidMore
import Derived.ChangeMaps5
namespace Go.Proofs.YtcmicmenkbgfmaaDoor
open Go.ChangeShapes Go.WideShapes Go.ChangeAt Go.RowKit

theorem gES : Tryd.prog.globalNamed "strconv.ErrSyntax" = some 3 := by kernel_rfl
theorem gESType : (Tryd.prog.globals[3]?).map (·.type) = some 96 := by kernel_rfl
theorem gER : Tryd.prog.globalNamed "strconv.ErrRange" = some 4 := by kernel_rfl
theorem gERType : (Tryd.prog.globals[4]?).map (·.type) = some 96 := by kernel_rfl
theorem cellsStr : Tryd.prog.cellsOf 127 = 1 := by kernel_rfl
theorem cellsText : Tryd.prog.cellsOf 9 = 1 := by kernel_rfl
theorem rowErr {nm : String} (hn : nm = String.append (String.ofList [Char.ofNat 42]) "errors.errorString") (u : TypeId) (h : Tryd.prog.typeName? 3 u = some nm) : u = 125 :=
  typeName_ptr_named (nm := "errors.errorString") (by kernel_rfl) (by kernel_rfl) (by decide) u (by rw [h, hn]; exact congrArg some (by decide))
theorem gv_of_laid {W : World} (h : laidMetH Tryd.prog Rows.fnExactReadTermRow.laid W) : GV W := by
  rw [MakeChecks.laidMetH_plain _ _ _ (by kernel_rfl)] at h
  have h3 := h.tail.tail.tail
  obtain ⟨a0, s0, hv0, -, -, -⟩ := laid_sentinel h3 gER gERType Tryd.underlying96 (rowErr (by decide)) Tryd.underlying125 Tryd.underlying127 rfl rfl Tryd.underlying9 cellsStr cellsText
  obtain ⟨a1, s1, hv1, -, -, -⟩ := laid_sentinel h3.tail gES gESType Tryd.underlying96 (rowErr (by decide)) Tryd.underlying125 Tryd.underlying127 rfl rfl Tryd.underlying9 cellsStr cellsText
  exact ⟨_, _, by have h0 := World.var?_cell gES hv1 0; simpa using h0, Or.inr ⟨_, _, rfl⟩, by have h0 := World.var?_cell gER hv0 0; simpa using h0, Or.inr ⟨_, _, rfl⟩⟩

set_option maxRecDepth 100000 in
theorem open_text {H : Type} {enc : TypeId × Value → H} {w : World} {base b0 : Nat} {spare : Nat → Bool} {held : Bool} {r : Go.Reach} {v : Value} {d : DataW H} {p : List MemPlace}
    (hv : Value.okWide Tryd.prog w r b0 9 v) (h : DataW.Trod enc Tryd.prog w base spare held 9 v d p) :
    ∃ s : ByteArray, v = .string s ∧ s.size ≤ 9223372036854775807 := by
  obtain ⟨s, rfl, -, -, hs⟩ := Go.ChangeMaps.open_string Tryd.underlying9 hv h
  exact ⟨s, rfl, by unfold maxLen at hs; omega⟩

end Go.Proofs.YtcmicmenkbgfmaaDoor
