/- (*strings.Builder).copyCheck: its first cell holds its own address. -/
import Derived.Test.YtpbkdcfjlbdgfaaDoorEvW
import Derived.Test.YtpbkdcfjlbdgfaaDoorProg
import Derived.Lib.Strings
import Derived.Lib.Slices
import Derived.Lib.Walk
import Derived.Lib.Builder
import Derived.Lib.UnsafeStr
import Derived.WalkKit
import Derived.Laws.Externs
set_option linter.unusedVariables false
set_option linter.unusedSimpArgs false
namespace Go.Proofs.YtpbkdcfjlbdgfaaDoor
open Go Go.Ev Go.RowKit
/-- The types that are Builders: the library's, and structs that are one. -/
def bldT (t : Nat) : Bool := t == 70
  || t == 72
  || t == 99
theorem szB : (Tryd.prog.info? 70).map (·.size) = some 2 := by kernel_rfl
theorem ubB : Tryd.prog.underlying 67 = some (.pointer 70) := by kernel_rfl
theorem ubU : Tryd.prog.underlying 149 = some .unsafePointer := by kernel_rfl
theorem lies0 : liesAt Tryd.prog Tryd.prog.depth 70 (2 / Tryd.prog.cellsOf 70) 0 70 1 = true := by kernel_rfl
theorem lies1 : liesAt Tryd.prog Tryd.prog.depth 72 (2 / Tryd.prog.cellsOf 72) 0 70 1 = true := by kernel_rfl
theorem lies3 : liesAt Tryd.prog Tryd.prog.depth 99 (2 / Tryd.prog.cellsOf 99) 0 70 1 = true := by kernel_rfl
set_option maxRecDepth 100000 in
theorem lies (t : Nat) (h : bldT t = true) : liesAt Tryd.prog Tryd.prog.depth t (2 / Tryd.prog.cellsOf t) 0 70 1 = true := by
  by_cases e0 : t = 70
  · subst e0; exact lies0
  by_cases e1 : t = 72
  · subst e1; exact lies1
  by_cases e3 : t = 99
  · subst e3; exact lies3
  exfalso; simp only [bldT, Bool.or_eq_true, beq_iff_eq] at h; omega
set_option maxHeartbeats 1000000 in
set_option maxRecDepth 100000 in
theorem cc_used (b : Nat) (w : World) (h0 : w.cell? ⟨b, 0, none⟩ = some (.pointer (some ⟨b, 0, none⟩))) :
    Calls Tryd.prog 94 #[.pointer (some ⟨b, 0, none⟩)] w fun e w' => e = .returned (.tuple #[]) ∧ w' = w := by
  obtain ⟨j, hj, _⟩ := Option.map_eq_some_iff.1 szB
  go_enter Tryd.func94, Tryd.ntmps94
  go_wp2
  rw [Lib.run_neq_ptr_same w _ ubB hj]
  go_wp2
  go_end0
  exact ⟨rfl, rfl⟩
set_option maxHeartbeats 1000000 in
set_option maxRecDepth 100000 in
theorem cc_fresh (t b : Nat) (ht : bldT t = true) (w : World) (h0 : w.cell? ⟨b, 0, none⟩ = some (.pointer none)) (hsh : w.shape? b = some (t, 2)) (hfz : w.frozen? ⟨b, 0, none⟩ = false) :
    Calls Tryd.prog 94 #[.pointer (some ⟨b, 0, none⟩)] w fun e w' => e = .returned (.tuple #[]) ∧ w' = w.setCell ⟨b, 0, none⟩ (.pointer (some ⟨b, 0, none⟩)) := by
  obtain ⟨j, hj, hjs⟩ := Option.map_eq_some_iff.1 szB
  go_enter Tryd.func94, Tryd.ntmps94
  go_wp2
  rw [Lib.run_to_unsafe w ⟨b, 0, none⟩ ubB ubU hj (by rw [hjs]; decide) hsh (Nat.zero_lt_succ 1)]
  simp only [Result.andThen]
  rw [Oper.upon_value]
  go_wp2
  rw [run_callFunc_extern Tryd.func136 (by kernel_rfl) (by kernel_rfl) (by kernel_rfl) (e := Extern.AbiNoEscape.same) (by kernel_rfl)]
  rw [Lib.run_noEscape]
  simp only [Result.andThen]
  rw [Oper.upon_value]
  go_wp2
  rw [Lib.run_from_unsafe w ⟨b, 0, none⟩ ubU ubB hj hsh (lies t ht)]
  simp only [Result.andThen]
  rw [Oper.upon_value]
  go_wp2
  go_end0
  exact ⟨rfl, rfl⟩
theorem cc_at {t u b : Nat} {p v : Value} {bs : List UInt8} (ht : bldT t = true) {w : World} (h : BldAt w t u b p v bs) :
    Calls Tryd.prog 94 #[.pointer (some ⟨b, 0, none⟩)] w fun e w' => e = .returned (.tuple #[]) ∧ BldTo w w' t u b v bs ∧ BldAt w' t u b (.pointer (some ⟨b, 0, none⟩)) v bs := by
  have hc : w.cell? ⟨b, 0, none⟩ = some p := by rw [Lib.cell_of_heap h.blk]; rfl
  rcases h.ptr with rfl | rfl
  · have hu := h.used rfl
    refine (cc_fresh t b ht w hc (by simp [World.shape?, h.blk]) (Lib.frozen_of_heap h.blk 0)).mono ?_
    rintro e w' ⟨rfl, rfl⟩
    refine ⟨rfl, hu, ?_⟩
    have hlt : b < w.heap.size := (Array.getElem?_eq_some_iff.1 h.blk).1
    obtain ⟨p', v', k, _⟩ := hu.is
    have hb : (w.setCell ⟨b, 0, none⟩ (.pointer (some ⟨b, 0, none⟩))).heap[b]? = some (.cells #[.pointer (some ⟨b, 0, none⟩), v] t (0, 0)) := by
      simp [World.setCell, Array.getElem?_modify, h.blk]
    have := k.blk
    rw [hb] at this
    simp only [Option.some.injEq, Obj.cells.injEq] at this
    obtain ⟨h1, _⟩ := this
    have h2 : v' = v := by simpa using (congrArg (fun a : Array Value => a.getD 1 undef) h1).symm
    subst h2
    exact ⟨hb, .inr rfl, k.own, k.ne⟩
  · refine (cc_used b w hc).mono ?_
    rintro e w' ⟨rfl, rfl⟩
    exact ⟨rfl, ⟨rfl, rfl, rfl, Nat.le_refl _, fun _ _ _ _ => rfl, ⟨_, v, h, .inl rfl⟩⟩, h⟩
end Go.Proofs.YtpbkdcfjlbdgfaaDoor
