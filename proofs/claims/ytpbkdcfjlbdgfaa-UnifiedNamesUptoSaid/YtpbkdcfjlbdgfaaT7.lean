import Derived.Test.YtpbkdcfjlbdgfaaT5
import Derived.Test.YtpbkdcfjlbdgfaaT6
set_option linter.unusedVariables false
set_option linter.unusedSimpArgs false
namespace Go.Proofs.Ytpbkdcfjlbdgfaa
open Go Go.Ev
set_option maxRecDepth 100000
theorem hx_b (c : UInt8) : -1 ≤ hx c ∧ hx c < 16 := by
  refine ⟨Lib.indexByte_ge _ _, ?_⟩
  unfold hx
  have : ∀ l : List UInt8, Lib.indexByte l c < l.length := by
    intro l
    induction l with
    | nil => simp [Lib.indexByte]
    | cons b l ih =>
      simp only [Lib.indexByte, List.length_cons]
      have := Lib.indexByte_ge l c
      split
      · omega
      · split <;> omega
  exact this _
theorem oct_tab : ∀ a b : Fin 16, IntKind.u8.wrap (IntKind.i64.wrap ((BitVec.ofInt IntKind.i64.bits (IntKind.i64.wrap ((a.val : Int) * 2 ^ min 4 IntKind.i64.bits)) ||| BitVec.ofInt IntKind.i64.bits (b.val : Int)).toNat)) = IntKind.u8.wrap (16 * (a.val : Int) + (b.val : Int)) := by decide +kernel
theorem octV_eq (a b : UInt8) (ha : 0 ≤ hx a) (hb : 0 ≤ hx b) : octV a b = IntKind.u8.wrap (16 * hx a + hx b) := by
  have h1 := hx_b a
  have h2 := hx_b b
  have := oct_tab ⟨(hx a).toNat, by omega⟩ ⟨(hx b).toNat, by omega⟩
  have e1 : (((hx a).toNat : Nat) : Int) = hx a := by omega
  have e2 : (((hx b).toNat : Nat) : Int) = hx b := by omega
  simp only [e1, e2] at this
  exact this
theorem drop_cons (q : List UInt8) (i : Nat) (h : i < q.length) : q.drop i = q.getD i 0 :: q.drop (i + 1) := by
  rw [List.drop_eq_getElem_cons h]
  simp [List.getD_eq_getElem?_getD, List.getElem?_eq_getElem h]
/-- The value of two digits, as the reference reckons it. -/
def octR (a b : UInt8) : Int := IntKind.u8.wrap (16 * hx a + hx b)
theorem octR_eq (a b : UInt8) (ha : 0 ≤ hx a) (hb : 0 ≤ hx b) : octR a b = octV a b := (octV_eq a b ha hb).symm
def okR (q : List UInt8) (i : Nat) : Prop := ((((((q.getD i 0).toNat : Nat) : Int) = 92 ∧ (i : Int) + 2 < (q.length : Int)) ∧ 0 ≤ hx (q.getD (i + 1) 0)) ∧ 0 ≤ hx (q.getD (i + 2) 0)) ∧ plainB (octR (q.getD (i + 1) 0) (q.getD (i + 2) 0)) = false
section
variable {q out : List UInt8} {i : Nat} (hi : (i : Int) < (q.length : Int))
include hi
theorem at_end (hu : unq (q.drop i) out = unqL q) (h : ((q.getD i 0).toNat : Int) = 34) : unqL q = some (out, q.drop (i + 1)) := by
  rw [← hu, drop_cons q i (by omega), (u8_eq _ 34 (by omega)).1 h]
  exact unq_end _ _
theorem at_plain (hu : unq (q.drop i) out = unqL q) (h : ¬ ((q.getD i 0).toNat : Int) = 34) (hp : plainB (q.getD i 0).toNat = true) : unq (q.drop (i + 1)) (out ++ [q.getD i 0]) = unqL q := by
  rw [← hu, drop_cons q i (by omega), unq_plain _ _ (fun e => h ((u8_eq _ 34 (by omega)).2 e)) hp]
theorem oct2_at : oct2 (q.drop (i + 1)) = if (i : Int) + 2 < (q.length : Int) then (octV (q.getD (i + 1) 0) (q.getD (i + 2) 0), okO (q.getD (i + 1) 0) (q.getD (i + 2) 0)) else (0, false) := by
  by_cases h : (i : Int) + 2 < (q.length : Int)
  · rw [if_pos h, drop_cons q (i + 1) (by omega), drop_cons q (i + 1 + 1) (by omega)]
    rfl
  · rw [if_neg h]
    have : (q.drop (i + 1)).length ≤ 1 := by simp; omega
    match q.drop (i + 1), this with
    | [], _ => rfl
    | [_], _ => rfl
    | _ :: _ :: _, h => simp at h
theorem at_oct (hu : unq (q.drop i) out = unqL q) (h : ¬ ((q.getD i 0).toNat : Int) = 34) (hp : plainB (q.getD i 0).toNat = false) (hk : okR q i) :
    unq (q.drop (i + 3)) (out ++ [UInt8.ofNat (octR (q.getD (i + 1) 0) (q.getD (i + 2) 0)).toNat]) = unqL q ∧ ((UInt8.ofNat (octR (q.getD (i + 1) 0) (q.getD (i + 2) 0)).toNat).toNat : Int) = octR (q.getD (i + 1) 0) (q.getD (i + 2) 0) := by
  obtain ⟨⟨⟨⟨h1, h2⟩, h3⟩, h4⟩, h5⟩ := hk
  have ho := oct2_at hi
  rw [if_pos h2] at ho
  have he := octR_eq _ _ h3 h4
  have hok : (oct2 (q.drop (i + 1))).2 = true := by
    rw [ho]
    simp only [okO, Bool.and_eq_true, decide_eq_true_eq, Bool.not_eq_true']
    exact ⟨⟨h3, h4⟩, by rw [← he]; exact h5⟩
  obtain ⟨k1, k2, k3⟩ := unq_oct (q.drop (i + 1)) out hok
  rw [ho, List.drop_drop] at k2
  rw [ho] at k3
  rw [he]
  refine ⟨?_, k3⟩
  rw [← hu, drop_cons q i (by omega), (u8_eq _ 92 (by omega)).1 h1]
  exact k2.symm
theorem at_bad (hu : unq (q.drop i) out = unqL q) (h : ¬ ((q.getD i 0).toNat : Int) = 34) (hp : plainB (q.getD i 0).toNat = false) (hk : ¬ okR q i) : unqL q = none := by
  rw [← hu, drop_cons q i (by omega)]
  refine unq_bad _ _ (fun e => h ((u8_eq _ 34 (by omega)).2 e)) hp fun e => ?_
  rw [oct2_at hi]
  split
  · rename_i h2
    cases hc : okO (q.getD (i + 1) 0) (q.getD (i + 2) 0) with
    | false => rfl
    | true =>
      exfalso
      refine hk ?_
      simp only [okO, Bool.and_eq_true, decide_eq_true_eq, Bool.not_eq_true'] at hc
      exact ⟨⟨⟨⟨(u8_eq _ 92 (by omega)).2 e, h2⟩, hc.1.1⟩, hc.1.2⟩, by rw [octR_eq _ _ hc.1.1 hc.1.2]; exact hc.2⟩
  · rfl
end
end Go.Proofs.Ytpbkdcfjlbdgfaa
