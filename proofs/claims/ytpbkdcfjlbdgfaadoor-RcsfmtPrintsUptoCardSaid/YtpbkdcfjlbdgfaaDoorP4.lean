import Derived.Test.YtpbkdcfjlbdgfaaDoorP3
set_option linter.unusedVariables false
set_option linter.unusedSimpArgs false
namespace Go.Proofs.YtpbkdcfjlbdgfaaDoor
open Go Go.Ev
set_option maxRecDepth 100000
variable {G : World → Prop}
def CLawR : Contract := pureC fun args => match args with
  | [.d (.sl rows), .d (.sl a), .d (.sl b)] => (unQ4 rows).bind fun l => (unStr a).bind fun x => (unStr b).map fun y =>
      ((l.length ≤ 1099511627776 ∧ x.length ≤ 1099511627776 ∧ y.length ≤ 1099511627776) ∧ y.flatten.length ≤ 70368744177664 ∧ (chk l x.length y.length = 0 → (rcsT l y).length ≤ 70368744177664),
        .d (.v (.bool true)))
  | _ => none
set_option maxHeartbeats 1000000 in
theorem s4 (hG : ∀ w, G w → Pow10 w) : Sound G Tryd.prog 4 CLawR := by
  refine sd4 (T := tabT [(16, CRcs), (17, CRcs), (15, CSame)]) (tab_cons (s16 hG) (tab_cons s17 (tab_cons s15 tab_nil))) (pureC_lawful _) (pure_hX fun args p x K h hp hk => ?_)
  split at h <;> simp only [Option.bind_eq_some_iff, Option.map_eq_some_iff, Prod.mk.injEq, reduceCtorEq] at h
  obtain ⟨l, hl, a, ha, b, hb, rfl, rfl⟩ := h
  rw [unQ4_eq hl, unStr_eq ha, unStr_eq hb] at *
  obtain ⟨⟨h1, h2, h3⟩, h4, h6⟩ := hp
  refine ⟨Nat.le_of_ble_eq_true rfl, ?_⟩
  simp -dsimp (maxSteps := 100000) only [S4, R4, CRcs, CSame, unQ4_rows, unStr_rows, strRows_len, q4Rows_len, strRows_all, q4Rows_all, Ev.St.giveC, ↓Ev.ffI, ↓Ev.ttI, ↓Ev.tfI, ↓Ev.ftI, ↓Ev.P, Ev.Q, eq_self, forall_eq_or_imp, implies_true, forall_const, forall_eq, ↓reduceIte, reduceIte, Nat.reduceEqDiff, Nat.reduceAdd, reduceCtorEq, Nat.reduceSub, Int.reduceToNat, Int.reduceLE, Int.reduceLT, Int.reduceNeg, Nat.reduceBEq, Nat.reduceMul, Nat.reduceLeDiff, Nat.reduceMod, UInt8.reduceOfNat, Nat.reduceLT, Int.reduceEq, Int.reduceAdd, Int.reduceSub, Int.reduceMul]
  repeat' (first | with_reducible assumption | refine And.intro ?_ ?_ | intro _ | (rw [Ev.xStp_eq]; simp -dsimp (maxSteps := 100000) only [CRcs, CSame, unQ4_rows, unStr_rows, strRows_len, q4Rows_len, strRows_all, q4Rows_all, Ev.St.giveC, ↓Ev.ffI, ↓Ev.ttI, ↓Ev.tfI, ↓Ev.ftI, ↓Ev.P, Ev.Q, eq_self, forall_eq_or_imp, implies_true, forall_const, forall_eq, ↓reduceIte, reduceIte, Nat.reduceEqDiff, Nat.reduceAdd, reduceCtorEq, Nat.reduceSub, Int.reduceToNat, Int.reduceLE, Int.reduceLT, Int.reduceNeg, Nat.reduceBEq, Nat.reduceMul, Nat.reduceLeDiff, Nat.reduceMod, UInt8.reduceOfNat, Nat.reduceLT, Int.reduceEq, Int.reduceAdd, Int.reduceSub, Int.reduceMul]))
  all_goals try omega
end Go.Proofs.YtpbkdcfjlbdgfaaDoor
