import Derived.Test.YtpbkdcfjlbdgfaaT2
set_option linter.unusedVariables false
set_option linter.unusedSimpArgs false
namespace Go.Proofs.Ytpbkdcfjlbdgfaa
open Go Go.Ev
set_option maxRecDepth 100000
def plainB (c : Int) : Bool := decide (32 ≤ c) && decide (c ≤ 126) && !decide (c = 34) && !decide (c = 92)
def C14 : Contract := pureC fun args => match args with
  | [.d (.v (.int .u8 c))] => some (True, .d (.v (.bool (plainB c))))
  | _ => none
theorem s14 : Sound Try.prog 14 C14 := by
  refine sd14 (T := tabT []) tab_nil (pureC_lawful _) (pure_hX fun args p x K h hp hk => ?_)
  split at h <;> simp only [Option.some.injEq, Prod.mk.injEq, reduceCtorEq] at h
  obtain ⟨rfl, rfl⟩ := h
  refine ⟨Nat.le_of_ble_eq_true rfl, ?_⟩
  simp -dsimp -implicitDefEqProofs only [S14, R14, ↓Ev.xStp_eq, ↓Ev.P, Ev.Q, eq_self, forall_eq_or_imp, implies_true, forall_const, forall_eq, ↓reduceIte, reduceIte, Nat.reduceEqDiff, Nat.reduceAdd, reduceCtorEq, Nat.reduceSub, Int.reduceToNat, Int.reduceLE, Int.reduceLT, Int.reduceNeg, Nat.reduceBEq, Nat.reduceMul, Nat.reduceLeDiff, Nat.reduceMod, UInt8.reduceOfNat, Nat.reduceLT, Int.reduceEq, Int.reduceAdd, Int.reduceSub, Int.reduceMul]
  exact hk
theorem s16 : Sound Try.prog 16 C14 := by
  refine sd16 (T := tabT []) tab_nil (pureC_lawful _) (pure_hX fun args p x K h hp hk => ?_)
  split at h <;> simp only [Option.some.injEq, Prod.mk.injEq, reduceCtorEq] at h
  obtain ⟨rfl, rfl⟩ := h
  refine ⟨Nat.le_of_ble_eq_true rfl, ?_⟩
  simp -dsimp -implicitDefEqProofs only [S16, R16, ↓Ev.xStp_eq, ↓Ev.P, Ev.Q, eq_self, forall_eq_or_imp, implies_true, forall_const, forall_eq, ↓reduceIte, reduceIte, Nat.reduceEqDiff, Nat.reduceAdd, reduceCtorEq, Nat.reduceSub, Int.reduceToNat, Int.reduceLE, Int.reduceLT, Int.reduceNeg, Nat.reduceBEq, Nat.reduceMul, Nat.reduceLeDiff, Nat.reduceMod, UInt8.reduceOfNat, Nat.reduceLT, Int.reduceEq, Int.reduceAdd, Int.reduceSub, Int.reduceMul]
  exact hk
def hasPre (s p : ByteArray) : Bool := decide ((p.size : Int) ≤ (s.size : Int)) && decide (s.extract 0 p.size = p)
def C27 : Contract := pureC fun args => match args with
  | [.d (.v (.string s)), .d (.v (.string p))] => some (True, .d (.v (.bool (hasPre s p))))
  | _ => none
theorem s27 : Sound Try.prog 27 C27 := by
  refine sd27 (T := tabT []) tab_nil (pureC_lawful _) (pure_hX fun args p x K h hp hk => ?_)
  split at h <;> simp only [Option.some.injEq, Prod.mk.injEq, reduceCtorEq] at h
  obtain ⟨rfl, rfl⟩ := h
  refine ⟨Nat.le_of_ble_eq_true rfl, ?_⟩
  simp -dsimp -implicitDefEqProofs only [S27, R27, ↓Ev.xStp_eq, ↓Ev.P, Ev.Q, eq_self, forall_eq_or_imp, implies_true, forall_const, forall_eq, ↓reduceIte, reduceIte, Nat.reduceEqDiff, Nat.reduceAdd, reduceCtorEq, Nat.reduceSub, Int.reduceToNat, Int.reduceLE, Int.reduceLT, Int.reduceNeg, Nat.reduceBEq, Nat.reduceMul, Nat.reduceLeDiff, Nat.reduceMod, UInt8.reduceOfNat, Nat.reduceLT, Int.reduceEq, Int.reduceAdd, Int.reduceSub, Int.reduceMul]
  exact ⟨fun h => by omega, hk⟩
theorem s21 : Sound Try.prog 21 C27 := by
  refine sd21 (T := tabT [(27, C27)]) (tab_cons s27 tab_nil) (pureC_lawful _) (pure_hX fun args p x K h hp hk => ?_)
  split at h <;> simp only [Option.some.injEq, Prod.mk.injEq, reduceCtorEq] at h
  obtain ⟨rfl, rfl⟩ := h
  refine ⟨Nat.le_of_ble_eq_true rfl, ?_⟩
  simp -dsimp -implicitDefEqProofs only [S21, R21, C27, ↓Ev.xStp_eq, ↓Ev.P, Ev.Q, eq_self, forall_eq_or_imp, implies_true, forall_const, forall_eq, ↓reduceIte, reduceIte, Nat.reduceEqDiff, Nat.reduceAdd, reduceCtorEq, Nat.reduceSub, Int.reduceToNat, Int.reduceLE, Int.reduceLT, Int.reduceNeg, Nat.reduceBEq, Nat.reduceMul, Nat.reduceLeDiff, Nat.reduceMod, UInt8.reduceOfNat, Nat.reduceLT, Int.reduceEq, Int.reduceAdd, Int.reduceSub, Int.reduceMul]
  exact hk
def C24 : Contract := pureC fun args => match args with
  | [.d (.v (.string s)), .d (.v (.string p))] => some (True, .tup [.d (.v (.string (if hasPre s p then s.extract p.size s.size else s))), .d (.v (.bool (hasPre s p)))])
  | _ => none
theorem s24 : Sound Try.prog 24 C24 := by
  refine sd24 (T := tabT [(27, C27)]) (tab_cons s27 tab_nil) (pureC_lawful _) (pure_hX fun args p x K h hp hk => ?_)
  split at h <;> simp only [Option.some.injEq, Prod.mk.injEq, reduceCtorEq] at h
  obtain ⟨rfl, rfl⟩ := h
  rename_i s q
  refine ⟨Nat.le_of_ble_eq_true rfl, ?_⟩
  simp -dsimp -implicitDefEqProofs only [S24, R24, C27, ↓Ev.xStp_eq, ↓Ev.P, Ev.Q, eq_self, forall_eq_or_imp, implies_true, forall_const, forall_eq, ↓reduceIte, reduceIte, Nat.reduceEqDiff, Nat.reduceAdd, reduceCtorEq, Nat.reduceSub, Int.reduceToNat, Int.reduceLE, Int.reduceLT, Int.reduceNeg, Nat.reduceBEq, Nat.reduceMul, Nat.reduceLeDiff, Nat.reduceMod, UInt8.reduceOfNat, Nat.reduceLT, Int.reduceEq, Int.reduceAdd, Int.reduceSub, Int.reduceMul]
  refine ⟨fun h => ?_, fun h => ?_⟩
  · have h' : hasPre s q = false := by simpa using h
    rw [h'] at hk; exact hk
  · have h' : hasPre s q = true := by simpa using h
    rw [h'] at hk
    have hs : ∀ s p, hasPre s p = true → p.size ≤ s.size := fun s p h => by simp only [hasPre, Bool.and_eq_true, decide_eq_true_eq] at h; omega
    have := hs _ _ h'
    exact ⟨by omega, hk⟩
theorem s13 : Sound Try.prog 13 C24 := by
  refine sd13 (T := tabT [(24, C24)]) (tab_cons s24 tab_nil) (pureC_lawful _) (pure_hX fun args p x K h hp hk => ?_)
  split at h <;> simp only [Option.some.injEq, Prod.mk.injEq, reduceCtorEq] at h
  obtain ⟨rfl, rfl⟩ := h
  refine ⟨Nat.le_of_ble_eq_true rfl, ?_⟩
  simp -dsimp -implicitDefEqProofs only [S13, R13, C24, ↓Ev.xStp_eq, ↓Ev.P, Ev.Q, eq_self, forall_eq_or_imp, implies_true, forall_const, forall_eq, ↓reduceIte, reduceIte, Nat.reduceEqDiff, Nat.reduceAdd, reduceCtorEq, Nat.reduceSub, Int.reduceToNat, Int.reduceLE, Int.reduceLT, Int.reduceNeg, Nat.reduceBEq, Nat.reduceMul, Nat.reduceLeDiff, Nat.reduceMod, UInt8.reduceOfNat, Nat.reduceLT, Int.reduceEq, Int.reduceAdd, Int.reduceSub, Int.reduceMul]
  exact hk
end Go.Proofs.Ytpbkdcfjlbdgfaa
