import Derived.Test.YtpbkdcfjlbdgfaaDoorQ4
import Derived.Test.YtpbkdcfjlbdgfaaDoorN14
import Derived.Test.YtpbkdcfjlbdgfaaDoorCards
import Derived.Test.YtpbkdcfjlbdgfaaDoorTie
import Derived.JoinedCond
import Derived.ProofKit
import Derived.Deep.DeepHandedRow
import Derived.Deep.DeepWitnessRowRef
import Derived.Stop.LaidErr
import Derived.Lib.LaidIn
set_option linter.unusedVariables false
set_option linter.unusedSimpArgs false
namespace Go.Proofs.YtpbkdcfjlbdgfaaDoor
open Go Go.Ev
open Go.ChangeShapes Go.WideShapes Go.ChangeAt Go.RowKit
open Go.ChangeMaps (open_string shut_string)
set_option maxRecDepth 100000
namespace NumNumbers
theorem own : ownKnob Tryd.prog.godebug = none := by kernel_rfl
theorem gTab : Tryd.prog.globalNamed "internal/strconv.uint64pow10" = some 6 := by kernel_rfl
theorem gTabType : (Tryd.prog.globals[6]?).map (·.type) = some 230 := by kernel_rfl
def GN (w : World) : Prop := Pow10 w ∧ ErrR w
noncomputable def HN : Hd GN := ⟨fun b => some b = Tryd.prog.globalNamed "internal/strconv.uint64pow10" ∨ some b = Tryd.prog.globalNamed "strconv.ErrRange", fun b => some b = Tryd.prog.globalNamed "internal/strconv.uint64pow10" ∨ some b = Tryd.prog.globalNamed "strconv.ErrRange", fun _ h => h, fun w w' h hb => by
  refine ⟨HP.st w w' h.1 fun b e => hb b (.inl e), ?_⟩
  obtain ⟨_, tp, p, h⟩ := h
  refine ⟨tp, p, ?_⟩
  unfold World.var? at h ⊢
  cases e : Tryd.prog.globalNamed "strconv.ErrRange" with
  | none => rw [e] at h; cases h
  | some g => rw [e] at h; simp only [Option.bind_some] at h ⊢; rw [hb g (.inr (by rw [e]))]; exact h⟩
theorem HN_lt {W : World} (h : GN W) {b : Nat} (hb : HN b) : b < W.heap.size := by
  rcases hb with hb | hb
  · exact HP_lt h.1 hb
  · obtain ⟨_, tp, p, h⟩ := h
    unfold World.var? at h
    rw [← hb] at h
    simp only [Option.bind_some] at h
    split at h
    · rename_i e
      exact (Array.getElem?_eq_some_iff.1 e).1
    · cases h
theorem size_eq (s : ByteArray) : s.data.toList.length = s.size := by rw [Array.length_toList]; rfl
theorem starE : "*" ++ "errors.errorString" = "*errors.errorString" := by decide
theorem rowE (u : TypeId) (h : Tryd.prog.typeName? 3 u = some "*errors.errorString") : u = 226 :=
  typeName_ptr_named (nm := "errors.errorString") (by rw [starE]; kernel_rfl) (by kernel_rfl) (by decide) u (by rw [starE]; exact h)
theorem gn {W : World} (h : laidMetH Tryd.prog Rows.numNumbersUptoRow.laid W) : GN W := by
  have h2 : laidMet Tryd.prog [("internal/strconv.uint64pow10", Rows.laid_internal_strconv_uint64pow10), ("strconv.ErrRange", Rows.laid_strconv_ErrRange), ("strconv.ErrSyntax", Rows.laid_strconv_ErrSyntax)] W := laidMet.tail (laidMet.tail h)
  refine ⟨Lib.tabIs_of_head (n := 20) (e := 64) gTab gTabType (by kernel_rfl) (by kernel_rfl) (by kernel_rfl) (by kernel_rfl) h2, ?_⟩
  obtain ⟨a, s, h3, _⟩ := laid_sentinel (g := 3) (ti := 47) (tp := 226) (te := 228) (ts := 9) (laidMet.tail h2) (by kernel_rfl) (by kernel_rfl) Tryd.underlying47 rowE Tryd.underlying226 Tryd.underlying228 rfl rfl Tryd.underlying9 (by kernel_rfl) (by kernel_rfl)
  exact ⟨_, _, h3⟩
end NumNumbers
end Go.Proofs.YtpbkdcfjlbdgfaaDoor
