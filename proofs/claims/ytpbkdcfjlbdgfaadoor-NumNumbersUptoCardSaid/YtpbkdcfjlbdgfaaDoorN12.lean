import Derived.Test.YtpbkdcfjlbdgfaaDoorN9
import Derived.SliceStrings
import Derived.Lib.LaidTab
set_option linter.unusedVariables false
set_option linter.unusedSimpArgs false
namespace Go.Proofs.YtpbkdcfjlbdgfaaDoor
open Go Go.Ev
set_option maxRecDepth 100000
theorem rdStr {c : Rdr} {a : Addr} : ∀ {l : List (List UInt8)} {k : Nat}, (∀ i, i < l.length → c (a.add (k + i)) (.string ⟨(l.getD i []).toArray⟩)) → RdRows c a 1 k (strRows l)
  | [], k, h => by simp [strRows, RdRows]
  | s :: l, k, h => by
    have h0 := h 0 (by simp)
    have hr : RdRows c a 1 (k + 1) (strRows l) := rdStr fun i hi => by
      have := h (i + 1) (by simp; omega)
      rw [show k + 1 + i = k + (i + 1) by omega]
      simpa using this
    have e : strRows (s :: l) = [.v (.string ⟨s.toArray⟩)] :: strRows l := rfl
    rw [e]
    simp only [RdRows, RdCells, Rd]
    exact ⟨rfl, ⟨⟨_, by simpa using h0, rfl, rfl⟩, trivial⟩, hr⟩
theorem rdQ4 {c : Rdr} {a : Addr} : ∀ {l : List Q4} {k : Nat}, (∀ i, i < l.length → RdCells c a (k + i * 4) (q4Row (l.getD i (0, 0, 0, 0)))) → RdRows c a 4 k (q4Rows l)
  | [], k, h => by simp [q4Rows, RdRows]
  | s :: l, k, h => by
    have h0 := h 0 (by simp)
    have hr : RdRows c a 4 (k + 4) (q4Rows l) := rdQ4 fun i hi => by
      have := h (i + 1) (by simp; omega)
      rw [show k + 4 + i * 4 = k + (i + 1) * 4 by omega]
      simpa using this
    have e : q4Rows (s :: l) = q4Row s :: q4Rows l := rfl
    rw [e]
    simp only [RdRows]
    exact ⟨rfl, by simpa using h0, hr⟩
/-- A laid table's block holds its integers and nothing else. -/
theorem tab_only {P : Program} {W : World} {name : String} {k : IntKind} {zs : List Int} {g : Nat} (h : Lib.TabIs P W name k zs) (hg : P.globalNamed name = some g) {a : Addr} {u : Value} (ha : W.cell? a = some u) (hb : a.block = g) : ∃ z, u = .int k z := by
  unfold Lib.TabIs World.var? at h
  rw [hg] at h
  simp only [Option.bind_some] at h
  unfold World.cell? at ha
  rw [hb] at ha
  split at h
  · rename_i cs t f e
    rw [e] at ha
    simp only [Option.some.injEq] at h
    subst h
    simp only at ha
    split at ha
    · cases ha
    · have hm := Array.mem_of_getElem? ha
      simp only [List.mem_toArray, List.mem_map] at hm
      obtain ⟨z, _, rfl⟩ := hm
      exact ⟨z, rfl⟩
  · cases h
theorem gP10 : Tryd.prog.globalNamed "internal/strconv.uint64pow10" = some (Tryd.prog.globalNamed "internal/strconv.uint64pow10").get! := by kernel_rfl
/-- The table is hidden. -/
noncomputable def HP : Hd Pow10 := ⟨fun b => some b = Tryd.prog.globalNamed "internal/strconv.uint64pow10", fun b => some b = Tryd.prog.globalNamed "internal/strconv.uint64pow10", fun _ h => h, fun w w' h hb => by
  unfold Pow10 Lib.TabIs World.var? at h ⊢
  cases e : Tryd.prog.globalNamed "internal/strconv.uint64pow10" with
  | none => rw [e] at h; cases h
  | some g => rw [e] at h; simp only [Option.bind_some] at h ⊢; rw [hb g (by rw [e])]; exact h⟩
theorem HP_no {W : World} (h : Pow10 W) {a : Addr} {u : Value} (ha : W.cell? a = some u) (hu : ∀ z, u ≠ .int .u64 z) : ¬ HP a.block := fun hb => by
  obtain ⟨z, e⟩ := tab_only h hb.symm ha rfl
  exact hu z e
theorem HP_lt {W : World} (h : Pow10 W) {b : Nat} (hb : HP b) : b < W.heap.size := by
  have hb' : some b = Tryd.prog.globalNamed "internal/strconv.uint64pow10" := hb
  unfold Pow10 Lib.TabIs World.var? at h
  rw [← hb'] at h
  simp only [Option.bind_some] at h
  split at h
  · rename_i e
    exact (Array.getElem?_eq_some_iff.1 e).1
  · cases h
end Go.Proofs.YtpbkdcfjlbdgfaaDoor
