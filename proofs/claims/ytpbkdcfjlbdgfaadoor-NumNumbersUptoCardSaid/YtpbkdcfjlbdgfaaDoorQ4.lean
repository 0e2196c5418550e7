import Derived.Test.YtpbkdcfjlbdgfaaDoorQ3
set_option linter.unusedVariables false
set_option linter.unusedSimpArgs false
namespace Go.Proofs.YtpbkdcfjlbdgfaaDoor
open Go Go.Ev
set_option maxRecDepth 100000
variable {G : World → Prop}
def CLawN : Contract := pureC fun args => match args with
  | [.d (.v (.int .i64 n)), .d (.v (.string s))] => some ((-9223372036854775808 ≤ n ∧ n ≤ 9223372036854775807) ∧ s.size ≤ 1099511627776, .d (.v (.bool true)))
  | _ => none
theorem s9 (hG : ∀ w, G w → Pow10 w) (hE : ∀ w, G w → ErrR w) : Sound G Tryd.prog 9 CLawN := by
  refine sd9 (T := tabT [(30, CParse), (31, CParse), (32, CItoa), (33, CItoa)]) (tab_cons (s30 hE) (tab_cons s31 (tab_cons (s32 hG) (tab_cons s33 tab_nil)))) (pureC_lawful _) (pure_hX fun args p x K h hp hk => ?_)
  split at h <;> simp only [Option.some.injEq, Prod.mk.injEq, reduceCtorEq] at h
  obtain ⟨rfl, rfl⟩ := h
  refine ⟨Nat.le_of_ble_eq_true rfl, ?_⟩
  rename_i n s
  obtain ⟨l, rfl⟩ := ex_str s
  simp only [sem_str] at hk hp
  simp -dsimp -implicitDefEqProofs only [S9, R9, CParse, CItoa, ↓Ev.xStp_eq, ↓Ev.P, Ev.Q, eq_self, forall_eq_or_imp, implies_true, forall_const, forall_eq, ↓reduceIte, reduceIte, Nat.reduceEqDiff, Nat.reduceAdd, reduceCtorEq, Nat.reduceSub, Int.reduceToNat, Int.reduceLE, Int.reduceLT, Int.reduceNeg, Nat.reduceBEq, Nat.reduceMul, Nat.reduceLeDiff, Nat.reduceMod, UInt8.reduceOfNat, Nat.reduceLT, Int.reduceEq, Int.reduceAdd, Int.reduceSub, Int.reduceMul]
  repeat' (first | with_reducible assumption | refine And.intro ?_ ?_ | intro _)
  all_goals first | omega | exact hk | skip
end Go.Proofs.YtpbkdcfjlbdgfaaDoor
