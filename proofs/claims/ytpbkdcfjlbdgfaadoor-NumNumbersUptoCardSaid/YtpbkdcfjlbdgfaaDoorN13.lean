import Derived.Test.YtpbkdcfjlbdgfaaDoorN12
import Derived.Test.YtpbkdcfjlbdgfaaDoorEvR
import Derived.Test.YtpbkdcfjlbdgfaaDoorRows
import Derived.WalkKit
import Derived.Deep.Slices
import Derived.Deep.Fields
import Derived.ChangeSame
set_option linter.unusedVariables false
set_option linter.unusedSimpArgs false
namespace Go.Proofs.YtpbkdcfjlbdgfaaDoor
open Go Go.Ev
open Go.ChangeShapes Go.WideShapes Go.ChangeAt Go.RowKit
set_option maxRecDepth 100000
variable {H : Type} {enc : TypeId × Value → H}
theorem bulk_app : ∀ a b : List (DataW H), Rows.uptoBulkAll (a ++ b) = Rows.uptoBulkAll a + Rows.uptoBulkAll b
  | [], b => by simp [Rows.uptoBulkAll]
  | x :: r, b => by rw [List.cons_append, Rows.uptoBulkAll, Rows.uptoBulkAll, bulk_app r b]; omega
theorem bulk_strs : ∀ l : List ByteArray, (l.map fun s => s.data.toList.length + 1).sum = Rows.uptoBulkAll (strs l : List (DataW H))
  | [] => by simp [strs, Rows.uptoBulkAll]
  | s :: r => by
    have := bulk_strs r
    simp only [strs, List.map_cons, List.sum_cons, Rows.uptoBulkAll, Rows.uptoBulk] at this ⊢
    omega
theorem arr_eta (b : ByteArray) : (⟨b.data.toList.toArray⟩ : ByteArray) = b := by cases b; simp
theorem okWide_spot {P : Program} {w : World} {r : Reach} {b : Nat} {t e : TypeId} {a : Addr} {len cap : Nat} (ht : P.underlying t = some (.slice e)) (h : Value.okWide P w r b t (.slice (some a) len cap)) : a.spot = none := by
  simp only [Value.okWide, ht, Cell.okWide, Cell.ok, World.has] at h
  simp_all
theorem openStr {b0 : Nat} {W : World} {c : Rdr} {t e : TypeId} {v : Value} {d : DataW H} {p : List MemPlace} {m : Nat → Value} (hc : ∀ a u, W.cell? a = some u → (∀ z, u ≠ .int .u64 z) → c a u)
    (ht : Tryd.prog.underlying t = some (.slice e)) (he : Tryd.prog.underlying e = some .string) (h1 : Tryd.prog.cellsOf e = 1)
    (hv : Value.okWide Tryd.prog W .any b0 t v) (h : DataW.Trod enc Tryd.prog W 0 (fun _ => true) true t v d p) :
    ∃ l : List (List UInt8), Cn m 0 c (.d (.sl (strRows l))) v ∧ (l.map fun s => s.length + 1).sum + 1 ≤ Rows.uptoBulk d := by
  obtain ⟨a0, len, cap, rfl⟩ := okWide_slice ht hv
  obtain ⟨fuel, hf⟩ := h
  rcases open_strings ht he h1 hf with ⟨hcs, hx⟩ | ⟨a, len', cap', ss, hcs, _, hl, hm, hz, hx, hcell, hws⟩
  · simp [Value.cells] at hcs
    obtain ⟨rfl, rfl, rfl⟩ := hcs
    simp only [Prod.mk.injEq] at hx
    obtain ⟨rfl, rfl⟩ := hx
    exact ⟨[], by simp [Cn, Rd, strRows], by simp [Rows.uptoBulk]⟩
  · simp [Value.cells] at hcs
    obtain ⟨rfl, rfl, rfl⟩ := hcs
    simp only [Prod.mk.injEq] at hx
    obtain ⟨rfl, rfl⟩ := hx
    simp only [if_true] at hz
    have hM : maxLen = 9223372036854775807 := by decide
    refine ⟨(ss.take len).map fun s => s.data.toList, ?_, ?_⟩
    · simp only [Cn, Rd]
      refine ⟨some a, cap, by rw [strRows_len]; simp; omega, by rw [strRows_len]; simp; omega, by rw [strRows_len]; simp; omega, .inr ⟨a, 1, rfl, okWide_spot ht hv, rdStr fun i hi => ?_⟩⟩
      simp only [List.length_map, List.length_take] at hi
      rw [Nat.zero_add]
      refine hc _ _ ?_ (fun z e => by cases e)
      rw [hcell i (by omega)]
      congr 2
      simp [List.getD_eq_getElem?_getD, List.getElem?_map, List.getElem?_take_of_lt (show i < len by omega), List.getElem?_eq_getElem (show i < ss.length by omega)]
    · have := bulk_strs (H := H) (ss.take len)
      simp only [Rows.uptoBulk, List.map_map, Function.comp_def]
      omega
end Go.Proofs.YtpbkdcfjlbdgfaaDoor
