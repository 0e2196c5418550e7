import Derived.Test.YtpbkdcfjlbdgfaaDoorN2
import Derived.Test.YtpbkdcfjlbdgfaaDoorEvWs
set_option linter.unusedVariables false
set_option linter.unusedSimpArgs false
namespace Go.Proofs.YtpbkdcfjlbdgfaaDoor
open Go Go.Ev
set_option maxRecDepth 100000
variable {G : World → Prop}
def cntB (n : Int) : Bool := decide (0 ≤ n) && decide (n ≤ 2147483647)
def CCount : Contract := pureC fun args => match args with
  | [.d (.v (.int .i64 n))] => some (True, .d (.v (.bool (cntB n))))
  | _ => none
theorem s93 : Sound G Tryd.prog 93 CCount := by
  refine sd93 (T := tabT []) tab_nil (pureC_lawful _) (pure_hX fun args p x K h hp hk => ?_)
  split at h <;> simp only [Option.some.injEq, Prod.mk.injEq, reduceCtorEq] at h
  obtain ⟨rfl, rfl⟩ := h
  refine ⟨Nat.le_of_ble_eq_true rfl, ?_⟩
  simp -dsimp -implicitDefEqProofs only [S93, R93, ↓Ev.xStp_eq, ↓Ev.P, Ev.Q, eq_self, forall_eq_or_imp, implies_true, forall_const, forall_eq, ↓reduceIte, reduceIte, Nat.reduceEqDiff, Nat.reduceAdd, reduceCtorEq, Nat.reduceSub, Int.reduceToNat, Int.reduceLE, Int.reduceLT, Int.reduceNeg, Nat.reduceBEq, Nat.reduceMul, Nat.reduceLeDiff, Nat.reduceMod, UInt8.reduceOfNat, Nat.reduceLT, Int.reduceEq, Int.reduceAdd, Int.reduceSub, Int.reduceMul]
  exact hk
theorem s95 : Sound G Tryd.prog 95 CCount := by
  refine sd95 (T := tabT []) tab_nil (pureC_lawful _) (pure_hX fun args p x K h hp hk => ?_)
  split at h <;> simp only [Option.some.injEq, Prod.mk.injEq, reduceCtorEq] at h
  obtain ⟨rfl, rfl⟩ := h
  refine ⟨Nat.le_of_ble_eq_true rfl, ?_⟩
  simp -dsimp -implicitDefEqProofs only [S95, R95, ↓Ev.xStp_eq, ↓Ev.P, Ev.Q, eq_self, forall_eq_or_imp, implies_true, forall_const, forall_eq, ↓reduceIte, reduceIte, Nat.reduceEqDiff, Nat.reduceAdd, reduceCtorEq, Nat.reduceSub, Int.reduceToNat, Int.reduceLE, Int.reduceLT, Int.reduceNeg, Nat.reduceBEq, Nat.reduceMul, Nat.reduceLeDiff, Nat.reduceMod, UInt8.reduceOfNat, Nat.reduceLT, Int.reduceEq, Int.reduceAdd, Int.reduceSub, Int.reduceMul]
  exact hk
/-- A range. -/
def spanT (at_ n : Int) : List UInt8 := if n = 1 then Lib.itoa (at_ + 1) else Lib.itoa (at_ + 1) ++ [44] ++ Lib.itoa (at_ + n)
def CSpan : Contract := pureC fun args => match args with
  | [.d (.v (.int .i64 a)), .d (.v (.int .i64 n))] => some ((0 ≤ a ∧ a ≤ 4294967296) ∧ (0 ≤ n ∧ n ≤ 4294967296), .d (.v (str (spanT a n))))
  | _ => none
theorem span_len {a n : Int} (h : (0 ≤ a ∧ a ≤ 4294967296) ∧ (0 ≤ n ∧ n ≤ 4294967296)) : (spanT a n).length ≤ 43 := by
  have h1 := itoa_len (n := a + 1) (by omega)
  have h2 := itoa_len (n := a + n) (by omega)
  unfold spanT
  split
  · omega
  · simp only [List.length_append, List.length_cons, List.length_nil]; omega
theorem s42 (hG : ∀ w, G w → Pow10 w) : Sound G Tryd.prog 42 CSpan := by
  refine sd42 (T := tabT [(32, CItoa)]) (tab_cons (s32 hG) tab_nil) (pureC_lawful _) (pure_hX fun args p x K h hp hk => ?_)
  split at h <;> simp only [Option.some.injEq, Prod.mk.injEq, reduceCtorEq] at h
  obtain ⟨rfl, rfl⟩ := h
  refine ⟨Nat.le_of_ble_eq_true rfl, ?_⟩
  rename_i a n
  have h1 := itoa_len (n := a + 1) (by omega)
  have h2 := itoa_len (n := a + n) (by omega)
  simp -dsimp -implicitDefEqProofs only [S42, R42, CItoa, List.length_append, ↓Ev.xStp_eq, ↓Ev.P, Ev.Q, eq_self, forall_eq_or_imp, implies_true, forall_const, forall_eq, ↓reduceIte, reduceIte, Nat.reduceEqDiff, Nat.reduceAdd, reduceCtorEq, Nat.reduceSub, Int.reduceToNat, Int.reduceLE, Int.reduceLT, Int.reduceNeg, Nat.reduceBEq, Nat.reduceMul, Nat.reduceLeDiff, Nat.reduceMod, UInt8.reduceOfNat, Nat.reduceLT, Int.reduceEq, Int.reduceAdd, Int.reduceSub, Int.reduceMul]
  by_cases hn : n = 1
  · rw [spanT, if_pos hn] at hk
    repeat' (first | with_reducible assumption | refine And.intro ?_ ?_ | intro _)
    all_goals first | omega | exact hk
  · rw [spanT, if_neg hn] at hk
    repeat' (first | with_reducible assumption | refine And.intro ?_ ?_ | intro _)
    all_goals first | omega | exact hk
theorem s60 : Sound G Tryd.prog 60 CSpan := by
  refine sd60 (T := tabT [(33, CItoa)]) (tab_cons s33 tab_nil) (pureC_lawful _) (pure_hX fun args p x K h hp hk => ?_)
  split at h <;> simp only [Option.some.injEq, Prod.mk.injEq, reduceCtorEq] at h
  obtain ⟨rfl, rfl⟩ := h
  refine ⟨Nat.le_of_ble_eq_true rfl, ?_⟩
  rename_i a n
  have h1 := itoa_len (n := a + 1) (by omega)
  have h2 := itoa_len (n := a + n) (by omega)
  simp -dsimp -implicitDefEqProofs only [S60, R60, CItoa, List.length_append, ↓Ev.xStp_eq, ↓Ev.P, Ev.Q, eq_self, forall_eq_or_imp, implies_true, forall_const, forall_eq, ↓reduceIte, reduceIte, Nat.reduceEqDiff, Nat.reduceAdd, reduceCtorEq, Nat.reduceSub, Int.reduceToNat, Int.reduceLE, Int.reduceLT, Int.reduceNeg, Nat.reduceBEq, Nat.reduceMul, Nat.reduceLeDiff, Nat.reduceMod, UInt8.reduceOfNat, Nat.reduceLT, Int.reduceEq, Int.reduceAdd, Int.reduceSub, Int.reduceMul]
  by_cases hn : n = 1
  · rw [spanT, if_pos hn] at hk
    repeat' (first | with_reducible assumption | refine And.intro ?_ ?_ | intro _)
    all_goals first | omega | exact hk
  · rw [spanT, if_neg hn] at hk
    repeat' (first | with_reducible assumption | refine And.intro ?_ ?_ | intro _)
    all_goals first | omega | exact hk
/-- The line that says that a line feed is missing. -/
abbrev markT : List UInt8 := [92, 32, 78, 111, 32, 110, 101, 119, 108, 105, 110, 101, 32, 97, 116, 32, 101, 110, 100, 32, 111, 102, 32, 102, 105, 108, 101, 10]
def lineT (ahead s : List UInt8) : List UInt8 := if (bareS s).2 then ahead ++ s else ahead ++ s ++ [10] ++ markT
def CLine : Contract := pureC fun args => match args with
  | [.d (.v (.string a)), .d (.v (.string s))] => some (a.size ≤ 1099511627776 ∧ s.size ≤ 1099511627776, .d (.v (str (lineT a.data.toList s.data.toList))))
  | _ => none
theorem s68 : Sound G Tryd.prog 68 CLine := by
  refine sd68 (T := tabT [(61, CBare)]) (tab_cons s61 tab_nil) (pureC_lawful _) (pure_hX fun args p x K h hp hk => ?_)
  split at h <;> simp only [Option.some.injEq, Prod.mk.injEq, reduceCtorEq] at h
  obtain ⟨rfl, rfl⟩ := h
  refine ⟨Nat.le_of_ble_eq_true rfl, ?_⟩
  rename_i a s
  obtain ⟨a, rfl⟩ := ex_str a
  obtain ⟨s, rfl⟩ := ex_str s
  simp only [sem_str] at hk hp
  simp -dsimp -implicitDefEqProofs only [S68, R68, CBare, List.length_append, ↓Ev.xStp_eq, ↓Ev.P, Ev.Q, eq_self, forall_eq_or_imp, implies_true, forall_const, forall_eq, ↓reduceIte, reduceIte, Nat.reduceEqDiff, Nat.reduceAdd, reduceCtorEq, Nat.reduceSub, Int.reduceToNat, Int.reduceLE, Int.reduceLT, Int.reduceNeg, Nat.reduceBEq, Nat.reduceMul, Nat.reduceLeDiff, Nat.reduceMod, UInt8.reduceOfNat, Nat.reduceLT, Int.reduceEq, Int.reduceAdd, Int.reduceSub, Int.reduceMul]
  cases hb : (bareS s).2
  · rw [lineT, hb, if_neg (by decide)] at hk
    repeat' (first | with_reducible assumption | refine And.intro ?_ ?_ | intro _)
    all_goals first | omega | exact hk | contradiction
  · rw [lineT, hb, if_pos rfl] at hk
    repeat' (first | with_reducible assumption | refine And.intro ?_ ?_ | intro _)
    all_goals first | omega | exact hk | contradiction
end Go.Proofs.YtpbkdcfjlbdgfaaDoor
