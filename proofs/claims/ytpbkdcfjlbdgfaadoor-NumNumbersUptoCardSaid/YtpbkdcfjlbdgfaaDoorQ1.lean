import Derived.Test.YtpbkdcfjlbdgfaaDoorN1
import Derived.Test.YtpbkdcfjlbdgfaaDoorD3
import Derived.Test.YtpbkdcfjlbdgfaaDoorSa
import Derived.Lib.AtoiErrMem
set_option linter.unusedVariables false
set_option linter.unusedSimpArgs false
namespace Go.Proofs.YtpbkdcfjlbdgfaaDoor
open Go Go.Ev
set_option maxRecDepth 100000
variable {G : World → Prop}
/-- Digits. -/
def dig (c : UInt8) : Bool := decide (48 ≤ (c.toNat : Int)) && decide ((c.toNat : Int) ≤ 57)
def valT (l : List UInt8) : Nat := l.foldl (fun n c => n * 10 + (c.toNat - 48)) 0
theorem val_app (l : List UInt8) (c : UInt8) : valT (l ++ [c]) = valT l * 10 + (c.toNat - 48) := by simp [valT]
theorem val_snoc {l : List UInt8} {i : Nat} (h : i < l.length) : valT (l.take (i + 1)) = valT (l.take i) * 10 + ((l.getD i 0).toNat - 48) := by
  rw [List.take_succ_eq_append_getElem h, val_app]
  simp [List.getD_eq_getElem?_getD, List.getElem?_eq_getElem h]
theorem all_take {l : List UInt8} {i : Nat} (h : i < l.length) : (l.take (i + 1)).all dig = ((l.take i).all dig && dig (l.getD i 0)) := by
  rw [List.take_succ_eq_append_getElem h, List.all_append]
  simp [List.getD_eq_getElem?_getD, List.getElem?_eq_getElem h]
theorem not_all {l : List UInt8} {i : Nat} (h : i < l.length) (hd : dig (l.getD i 0) = false) : l.all dig = false := by
  rw [List.all_eq_false]
  exact ⟨l.getD i 0, by simp [List.getD_eq_getElem?_getD, List.getElem?_eq_getElem h], by rw [hd]; decide⟩
/-- Numbers are read. -/
def badP (l : List UInt8) : Prop := l = [] ∨ (1 < l.length ∧ l.getD 0 0 = 48)
instance (l : List UInt8) : Decidable (badP l) := by unfold badP; infer_instance
def parseS (l : List UInt8) : Int × Int := if badP l then (0, 3) else if l.all dig = false then (0, 3) else if 2147483647 < valT l then (0, 2) else (valT l, 0)
def CParse : Contract := pureC fun args => match args with
  | [.d (.v (.string s))] => some (s.size ≤ 1099511627776, .tup [.d (.v (.int .i64 (parseS s.data.toList).1)), .d (.v (.int .i64 (parseS s.data.toList).2))])
  | _ => none
def valA (a : Nat) (l : List UInt8) : Nat := l.foldl (fun n c => n * 10 + (c.toNat - 48)) a
theorem valA_le : ∀ (l : List UInt8) (a : Nat), a ≤ valA a l
  | [], a => Nat.le_refl _
  | c :: l, a => Nat.le_trans (by omega) (valA_le l (a * 10 + (c.toNat - 48)))
theorem dig_nat {c : UInt8} (h : dig c = true) : 48 ≤ c.toNat ∧ c.toNat ≤ 57 := by
  simp only [dig, Bool.and_eq_true, decide_eq_true_eq] at h; omega
theorem pu10 : ∀ (l : List UInt8) (a : Nat), l.all dig = true → a < 18446744073709551616 → Lib.parseUint10 a l = if 18446744073709551616 ≤ valA a l then .range else .ok (valA a l)
  | [], a, _, ha => by simp only [Lib.parseUint10, valA, List.foldl_nil]; exact (if_neg (Nat.not_le.2 ha)).symm
  | c :: l, a, h, ha => by
    simp only [List.all_cons, Bool.and_eq_true] at h
    obtain ⟨h1, h2⟩ := dig_nat h.1
    have hle := valA_le l (a * 10 + (c.toNat - 48))
    have e : valA a (c :: l) = valA (a * 10 + (c.toNat - 48)) l := rfl
    rw [Lib.parseUint10, if_pos ⟨h1, h2⟩, e]
    by_cases k1 : 1844674407370955162 ≤ a
    · rw [if_pos k1, if_pos (by omega)]
    · rw [if_neg k1]
      by_cases k2 : 18446744073709551616 ≤ a * 10 + (c.toNat - 48)
      · rw [if_pos k2, if_pos (by omega)]
      · rw [if_neg k2, pu10 l _ h.2 (by omega)]
theorem atoi_dig {l : List UInt8} (hne : l ≠ []) (h : l.all dig = true) : Lib.atoiAll l = if 9223372036854775808 ≤ valT l then .range else .ok (valT l) := by
  cases l with
  | nil => exact absurd rfl hne
  | cons c r =>
    have hd := dig_nat (List.all_eq_true.1 h c (by simp))
    have hp := pu10 (c :: r) 0 h (by omega)
    have e : valA 0 (c :: r) = valT (c :: r) := rfl
    rw [e] at hp
    simp only [Lib.atoiAll]
    rw [if_neg (by omega), Lib.parseMag, if_neg (by simp), hp]
    by_cases k : 18446744073709551616 ≤ valT (c :: r)
    · rw [if_pos k, if_pos (by omega)]
    · rw [if_neg k]
      simp only
      by_cases k2 : 9223372036854775808 ≤ valT (c :: r)
      · rw [if_pos ⟨by omega, k2⟩, if_pos k2]
      · rw [if_neg (by omega), if_neg (by omega), if_neg k2, if_neg (by omega)]
theorem sat_dig {l : List UInt8} (h : l.all dig = true) : Lib.atoiSat l = 9223372036854775807 := by
  unfold Lib.atoiSat
  cases l with
  | nil => simp
  | cons c r =>
    have hd := dig_nat (List.all_eq_true.1 h c (by simp))
    simp only [List.head?_cons, Option.map_some, Option.some.injEq]
    rw [if_neg (by omega)]
/-- What strconv.Atoi reads beside its tables. -/
def ErrR (w : World) : Prop := ∃ tp p, w.var? Tryd.prog "strconv.ErrRange" = some #[.iface tp p]
def CAtoi : Contract := pureC fun args => match args with
  | [.d (.v (.string s))] => some (s.size ≤ 1099511627776 ∧ s.data.toList ≠ [] ∧ s.data.toList.all dig = true, .tup [.d (.v (.int .i64 (if 9223372036854775808 ≤ valT s.data.toList then 9223372036854775807 else valT s.data.toList))), .d (if 9223372036854775808 ≤ valT s.data.toList then .ifc 177 (.pt []) else .v .nilIface)])
  | _ => none
theorem sAtoi (hG : ∀ w, G w → ErrR w) : Sound G Tryd.prog 78 CAtoi := by
  refine sound_lib2 ⟨Tryd.f78, by kernel_rfl, by kernel_rfl, by kernel_rfl⟩ fun args p x h hp => ?_
  split at h <;> simp only [Option.some.injEq, Prod.mk.injEq, reduceCtorEq] at h
  obtain ⟨rfl, rfl⟩ := h
  rename_i s
  obtain ⟨h1, h2, h3⟩ := hp
  intro w hw m c vs hc hv
  match vs, hv with
  | [a], hv =>
    simp only [CnL, and_true] at hv
    rw [of_v hv]
    have hA := atoi_dig h2 h3
    by_cases k : 9223372036854775808 ≤ valT s.data.toList
    · rw [if_pos k] at hA
      obtain ⟨tp, p, he⟩ := hG w hw
      refine (Tryd.strconv_Atoi_range_var s (by omega) hA tp p w he).mono ?_
      rintro e w' ⟨N, rfl, _, _, hB⟩
      refine ⟨⟨_, rfl, fun m n c => ?_⟩, hB⟩
      rw [if_pos k, if_pos k, sat_dig h3]
      simp [Cn, CnL, Rd, RdCells, Value.oneCell']
    · rw [if_neg k] at hA
      refine (Tryd.strconv_Atoi_ok s (by omega) _ hA w).mono ?_
      rintro e w' ⟨rfl, hB⟩
      refine ⟨⟨_, rfl, fun m n c => ?_⟩, ?_⟩
      · rw [if_neg k, if_neg k]
        simp [Cn, CnL, Rd, Value.oneCell']
      · rcases hB with rfl | ⟨t, rfl⟩
        · exact RowKit.Below.refl _ _
        · exact Lib.bytesWorld_below w _ t
  | [], hv => simp [CnL] at hv
  | _ :: _ :: _, hv => simp [CnL] at hv
end Go.Proofs.YtpbkdcfjlbdgfaaDoor
