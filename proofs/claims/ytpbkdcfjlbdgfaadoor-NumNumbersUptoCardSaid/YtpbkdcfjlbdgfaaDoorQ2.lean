import Derived.Test.YtpbkdcfjlbdgfaaDoorQ1
set_option linter.unusedVariables false
set_option linter.unusedSimpArgs false
namespace Go.Proofs.YtpbkdcfjlbdgfaaDoor
open Go Go.Ev
set_option maxRecDepth 100000
variable {G : World → Prop}
def capN (n : Nat) : Nat := if 2147483648 < n then 2147483648 else n
theorem cap_step (n d : Nat) : capN (n * 10 + d) = if 2147483648 < capN n * 10 + d then 2147483648 else capN n * 10 + d := by
  unfold capN; (repeat' split) <;> first | rfl | omega
theorem cap_le (n : Nat) : capN n ≤ 2147483648 := by unfold capN; split <;> omega
theorem u8s (c : Nat) (h : 48 ≤ c ∧ c ≤ 57) : IntKind.u8.wrap ((c : Int) - 48) = ((c - 48 : Nat) : Int) := by
  simp only [IntKind.wrap, IntKind.bits, IntKind.signed]
  simp
  omega
theorem i64n (c : Nat) (h : c ≤ 1000) : IntKind.i64.wrap (c : Int) = (c : Int) := wrap64 _ (by omega) (by omega)
theorem bad_head {l : List UInt8} (h : badP l) : (decide ((l.length : Int) = 0) || (decide (1 < (l.length : Int)) && decide (((l.getD 0 0).toNat : Int) = 48))) = true := by
  rcases h with rfl | ⟨h1, h2⟩
  · rfl
  · rw [h2]; simp; right; omega
theorem bad_not {l : List UInt8} (h : ¬ badP l) : (0 < l.length) ∧ ¬ (1 < (l.length : Int) ∧ ((l.getD 0 0).toNat : Int) = 48) := by
  refine ⟨?_, fun ⟨h1, h2⟩ => h (.inr ⟨by omega, UInt8.toNat_inj.1 (by show _ = 48; omega)⟩)⟩
  cases l with
  | nil => exact absurd (.inl rfl) h
  | cons => simp
set_option maxHeartbeats 1000000 in
theorem s31 : Sound G Tryd.prog 31 CParse := by
  refine sd31 (T := tabT []) tab_nil (pureC_lawful _) (pure_hX fun args p x K h hp hk => ?_)
  split at h <;> simp only [Option.some.injEq, Prod.mk.injEq, reduceCtorEq] at h
  obtain ⟨rfl, rfl⟩ := h
  refine ⟨Nat.le_of_ble_eq_true rfl, ?_⟩
  rename_i s
  obtain ⟨l, rfl⟩ := ex_str s
  simp only [sem_str] at hk hp
  by_cases hb : badP l
  · rw [show parseS l = (0, 3) by rw [parseS, if_pos hb]] at hk
    simp -dsimp -implicitDefEqProofs only [S31, R31, ↓Ev.xStp_eq, ↓Ev.P, Ev.Q, eq_self, forall_eq_or_imp, implies_true, forall_const, forall_eq, ↓reduceIte, reduceIte, Nat.reduceEqDiff, Nat.reduceAdd, reduceCtorEq, Nat.reduceSub, Int.reduceToNat, Int.reduceLE, Int.reduceLT, Int.reduceNeg, Nat.reduceBEq, Nat.reduceMul, Nat.reduceLeDiff, Nat.reduceMod, UInt8.reduceOfNat, Nat.reduceLT, Int.reduceEq, Int.reduceAdd, Int.reduceSub, Int.reduceMul]
    have hh := bad_head hb
    simp only [Bool.or_eq_true, Bool.and_eq_true, decide_eq_true_eq] at hh
    refine ⟨by omega, by omega, fun _ => hk, fun h => ?_⟩
    omega
  · obtain ⟨h1, h2⟩ := bad_not hb
    simp -dsimp -implicitDefEqProofs only [S31, R31, ↓Ev.xStp_eq, ↓Ev.P, Ev.Q, eq_self, forall_eq_or_imp, implies_true, forall_const, forall_eq, ↓reduceIte, reduceIte, Nat.reduceEqDiff, Nat.reduceAdd, reduceCtorEq, Nat.reduceSub, Int.reduceToNat, Int.reduceLE, Int.reduceLT, Int.reduceNeg, Nat.reduceBEq, Nat.reduceMul, Nat.reduceLeDiff, Nat.reduceMod, UInt8.reduceOfNat, Nat.reduceLT, Int.reduceEq, Int.reduceAdd, Int.reduceSub, Int.reduceMul]
    refine ⟨by omega, by omega, fun h => by omega, fun _ => ?_⟩
    refine xLoop_intro (fun k st => ∃ i : Nat, i ≤ l.length ∧ k = l.length - i ∧ (l.take i).all dig = true ∧
      st = ⟨[(0, .d (.v (.string ⟨l.toArray⟩))), (4, .d (.v (.int .i64 (capN (valT (l.take i)))))), (5, .d (.v (.int .i64 i)))], 0, []⟩) l.length [] ?_ ?_ ?_
    · simp -dsimp -implicitDefEqProofs only [↓Ev.xStp_eq, ↓Ev.P, Ev.Q, eq_self, forall_eq_or_imp, implies_true, forall_const, forall_eq, ↓reduceIte, reduceIte, Nat.reduceEqDiff, Nat.reduceAdd, reduceCtorEq, Nat.reduceSub, Int.reduceToNat, Int.reduceLE, Int.reduceLT, Int.reduceNeg, Nat.reduceBEq, Nat.reduceMul, Nat.reduceLeDiff, Nat.reduceMod, UInt8.reduceOfNat, Nat.reduceLT, Int.reduceEq, Int.reduceAdd, Int.reduceSub, Int.reduceMul]
    · simp -dsimp -implicitDefEqProofs only [↓Ev.xStp_eq, ↓Ev.P, Ev.Q, eq_self, forall_eq_or_imp, implies_true, forall_const, forall_eq, ↓reduceIte, reduceIte, Nat.reduceEqDiff, Nat.reduceAdd, reduceCtorEq, Nat.reduceSub, Int.reduceToNat, Int.reduceLE, Int.reduceLT, Int.reduceNeg, Nat.reduceBEq, Nat.reduceMul, Nat.reduceLeDiff, Nat.reduceMod, UInt8.reduceOfNat, Nat.reduceLT, Int.reduceEq, Int.reduceAdd, Int.reduceSub, Int.reduceMul]
      exact ⟨0, by omega, by omega, rfl, rfl⟩
    · rintro k st ⟨i, hi, hk2, hall, rfl⟩
      by_cases hil : i < l.length
      · have hi3 : (i : Int) < l.length := by omega
        have hcl := cap_le (valT (l.take i))
        by_cases hd : dig (l.getD i 0) = true
        · obtain ⟨d1, d2⟩ := dig_nat hd
          have d3 : ¬ ((l.getD i 0).toNat : Int) < 48 := by omega
          have d4 : ¬ (57 : Int) < ((l.getD i 0).toNat : Int) := by omega
          have hu := u8s _ ⟨d1, d2⟩
          have hc := i64n ((l.getD i 0).toNat - 48) (by omega)
          simp -dsimp -implicitDefEqProofs only [hi3, d3, d4, hu, hc, ↓Ev.xStp_eq, ↓Ev.P, Ev.Q, eq_self, forall_eq_or_imp, implies_true, forall_const, forall_eq, ↓reduceIte, reduceIte, Nat.reduceEqDiff, Nat.reduceAdd, reduceCtorEq, Nat.reduceSub, Int.reduceToNat, Int.reduceLE, Int.reduceLT, Int.reduceNeg, Nat.reduceBEq, Nat.reduceMul, Nat.reduceLeDiff, Nat.reduceMod, UInt8.reduceOfNat, Nat.reduceLT, Int.reduceEq, Int.reduceAdd, Int.reduceSub, Int.reduceMul]
          repeat' (first | with_reducible assumption | refine And.intro ?_ ?_ | intro _)
          all_goals try omega
          refine xAgain_intro (l.length - (i + 1)) [] (by omega) (by simp -dsimp -implicitDefEqProofs only [↓Ev.xStp_eq, ↓Ev.P, Ev.Q, eq_self, forall_eq_or_imp, implies_true, forall_const, forall_eq, ↓reduceIte, reduceIte, Nat.reduceEqDiff, Nat.reduceAdd, reduceCtorEq, Nat.reduceSub, Int.reduceToNat, Int.reduceLE, Int.reduceLT, Int.reduceNeg, Nat.reduceBEq, Nat.reduceMul, Nat.reduceLeDiff, Nat.reduceMod, UInt8.reduceOfNat, Nat.reduceLT, Int.reduceEq, Int.reduceAdd, Int.reduceSub, Int.reduceMul]) ⟨i + 1, by omega, rfl, by rw [all_take hil, hall, hd]; rfl, ?_⟩
          rw [val_snoc hil, cap_step]
          simp -dsimp -implicitDefEqProofs only [↓Ev.xStp_eq, ↓Ev.P, Ev.Q, eq_self, forall_eq_or_imp, implies_true, forall_const, forall_eq, ↓reduceIte, reduceIte, Nat.reduceEqDiff, Nat.reduceAdd, reduceCtorEq, Nat.reduceSub, Int.reduceToNat, Int.reduceLE, Int.reduceLT, Int.reduceNeg, Nat.reduceBEq, Nat.reduceMul, Nat.reduceLeDiff, Nat.reduceMod, UInt8.reduceOfNat, Nat.reduceLT, Int.reduceEq, Int.reduceAdd, Int.reduceSub, Int.reduceMul]
          simp
          split <;> split <;> omega
        · simp only [Bool.not_eq_true] at hd
          have hna := not_all hil hd
          rw [show parseS l = (0, 3) by rw [parseS, if_neg hb, if_pos hna]] at hk
          have hd2 : ((l.getD i 0).toNat : Int) < 48 ∨ (57 : Int) < ((l.getD i 0).toNat : Int) := by
            simp only [dig, Bool.and_eq_false_iff, decide_eq_false_iff_not] at hd; omega
          simp -dsimp -implicitDefEqProofs only [hi3, ↓Ev.xStp_eq, ↓Ev.P, Ev.Q, eq_self, forall_eq_or_imp, implies_true, forall_const, forall_eq, ↓reduceIte, reduceIte, Nat.reduceEqDiff, Nat.reduceAdd, reduceCtorEq, Nat.reduceSub, Int.reduceToNat, Int.reduceLE, Int.reduceLT, Int.reduceNeg, Nat.reduceBEq, Nat.reduceMul, Nat.reduceLeDiff, Nat.reduceMod, UInt8.reduceOfNat, Nat.reduceLT, Int.reduceEq, Int.reduceAdd, Int.reduceSub, Int.reduceMul]
          repeat' (first | with_reducible assumption | refine And.intro ?_ ?_ | intro _)
          all_goals first | omega | exact hk | skip
      · have hi3 : ¬ (i : Int) < l.length := by omega
        obtain rfl : i = l.length := by omega
        rw [List.take_length] at hall
        rw [show parseS l = if 2147483647 < valT l then (0, 2) else ((valT l : Int), 0) by rw [parseS, if_neg hb, if_neg (by rw [hall]; decide)]] at hk
        simp -dsimp -implicitDefEqProofs only [hi3, List.take_length, ↓Ev.xStp_eq, ↓Ev.P, Ev.Q, eq_self, forall_eq_or_imp, implies_true, forall_const, forall_eq, ↓reduceIte, reduceIte, Nat.reduceEqDiff, Nat.reduceAdd, reduceCtorEq, Nat.reduceSub, Int.reduceToNat, Int.reduceLE, Int.reduceLT, Int.reduceNeg, Nat.reduceBEq, Nat.reduceMul, Nat.reduceLeDiff, Nat.reduceMod, UInt8.reduceOfNat, Nat.reduceLT, Int.reduceEq, Int.reduceAdd, Int.reduceSub, Int.reduceMul]
        refine ⟨fun h => ?_, fun h => ?_⟩
        · rw [if_pos (by unfold capN at h; split at h <;> omega)] at hk; exact hk
        · have hv : valT l ≤ 2147483647 := by unfold capN at h; split at h <;> omega
          rw [if_neg (by omega)] at hk
          rw [show capN (valT l) = valT l by unfold capN; rw [if_neg (by omega)]]
          exact hk
end Go.Proofs.YtpbkdcfjlbdgfaaDoor
