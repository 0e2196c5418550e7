import Derived.Test.YtpbkdcfjlbdgfaaDoorN4
set_option linter.unusedVariables false
set_option linter.unusedSimpArgs false
namespace Go.Proofs.YtpbkdcfjlbdgfaaDoor
open Go Go.Ev
set_option maxRecDepth 100000
variable {G : World → Prop}
theorem bad_sum {A AN B BN : Int} (h : (((cntB A = false ∨ cntB AN = false) ∨ cntB B = false) ∨ cntB BN = false) ∨ AN + BN = 0) : badC (A, AN, B, BN) := by
  by_cases k : (((cntB A = false ∨ cntB AN = false) ∨ cntB B = false) ∨ cntB BN = false)
  · rcases k with ((k | k) | k) | k
    · exact .inl (.inl (.inl (.inl k)))
    · exact .inl (.inl (.inl (.inr k)))
    · exact .inl (.inl (.inr k))
    · exact .inl (.inr k)
  · have h2 : AN + BN = 0 := h.elim (fun e => absurd e k) id
    have h3 := cnt_in (n := AN) fun e => k (.inl (.inl (.inr e)))
    have h4 := cnt_in (n := BN) fun e => k (.inr e)
    exact .inr ⟨by simp only; omega, by simp only; omega⟩
theorem s46 : Sound G Tryd.prog 46 CCheck := by
  refine sd46 (T := tabT [(95, CCount)]) (tab_cons s95 tab_nil) (pureC_lawful _) (pure_hX fun args p x K h hp hk => ?_)
  split at h <;> simp only [Option.map_eq_some_iff, Prod.mk.injEq, reduceCtorEq] at h
  obtain ⟨l, hl, rfl, rfl⟩ := h
  rw [unQ4_eq hl] at *
  refine ⟨Nat.le_of_ble_eq_true rfl, ?_⟩
  rename_i n m
  obtain ⟨hl1, hn, hm⟩ := hp
  have hn0 : ¬ n < 0 := by omega
  have hm0 : ¬ m < 0 := by omega
  simp -dsimp -implicitDefEqProofs only [S46, R46, q4Rows_len, hn0, hm0, ↓Ev.xStp_eq, ↓Ev.P, Ev.Q, eq_self, forall_eq_or_imp, implies_true, forall_const, forall_eq, ↓reduceIte, reduceIte, Nat.reduceEqDiff, Nat.reduceAdd, reduceCtorEq, Nat.reduceSub, Int.reduceToNat, Int.reduceLE, Int.reduceLT, Int.reduceNeg, Nat.reduceBEq, Nat.reduceMul, Nat.reduceLeDiff, Nat.reduceMod, UInt8.reduceOfNat, Nat.reduceLT, Int.reduceEq, Int.reduceAdd, Int.reduceSub, Int.reduceMul]
  refine xLoop_intro (fun k st => ∃ (i : Nat) (a b : Int), i ≤ l.length ∧ k = l.length - i ∧ chkL (decide (i = 0)) a b (l.drop i) = chkL true 0 0 l ∧ (0 ≤ a ∧ a ≤ 4294967294) ∧ (0 ≤ b ∧ b ≤ 4294967294) ∧
      st = ⟨[(0, .d (.sl (q4Rows l))), (1, .d (.v (.int .i64 n))), (2, .d (.v (.int .i64 m))), (7, .d (.v (.int .i64 a))), (8, .d (.v (.int .i64 b))), (9, .d (.v (.int .i64 i)))], 0, []⟩) l.length [] ?_ ?_ ?_
  · simp -dsimp -implicitDefEqProofs only [↓Ev.xStp_eq, ↓Ev.P, Ev.Q, eq_self, forall_eq_or_imp, implies_true, forall_const, forall_eq, ↓reduceIte, reduceIte, Nat.reduceEqDiff, Nat.reduceAdd, reduceCtorEq, Nat.reduceSub, Int.reduceToNat, Int.reduceLE, Int.reduceLT, Int.reduceNeg, Nat.reduceBEq, Nat.reduceMul, Nat.reduceLeDiff, Nat.reduceMod, UInt8.reduceOfNat, Nat.reduceLT, Int.reduceEq, Int.reduceAdd, Int.reduceSub, Int.reduceMul]
  · simp -dsimp -implicitDefEqProofs only [↓Ev.xStp_eq, ↓Ev.P, Ev.Q, eq_self, forall_eq_or_imp, implies_true, forall_const, forall_eq, ↓reduceIte, reduceIte, Nat.reduceEqDiff, Nat.reduceAdd, reduceCtorEq, Nat.reduceSub, Int.reduceToNat, Int.reduceLE, Int.reduceLT, Int.reduceNeg, Nat.reduceBEq, Nat.reduceMul, Nat.reduceLeDiff, Nat.reduceMod, UInt8.reduceOfNat, Nat.reduceLT, Int.reduceEq, Int.reduceAdd, Int.reduceSub, Int.reduceMul]
    exact ⟨0, 0, 0, by omega, by omega, rfl, by omega, by omega, rfl⟩
  · rintro k st ⟨i, a, b, hi, hk2, hc, ha, hb, rfl⟩
    by_cases hil : i < l.length
    · have hg := q4Rows_get hil
      have hd := q4_drop hil
      generalize l.getD i (0, 0, 0, 0) = c at hg hd
      obtain ⟨A, AN, B, BN⟩ := c
      have hi3 : (i : Int) < l.length := by omega
      simp -dsimp -implicitDefEqProofs only [hi3, q4Rows_len, ↓Ev.P, Ev.Q, eq_self, forall_eq_or_imp, implies_true, forall_const, forall_eq, ↓reduceIte, reduceIte, Nat.reduceEqDiff, Nat.reduceAdd, reduceCtorEq, Nat.reduceSub, Int.reduceToNat, Int.reduceLE, Int.reduceLT, Int.reduceNeg, Nat.reduceBEq, Nat.reduceMul, Nat.reduceLeDiff, Nat.reduceMod, UInt8.reduceOfNat, Nat.reduceLT, Int.reduceEq, Int.reduceAdd, Int.reduceSub, Int.reduceMul]
      repeat' (first | with_reducible assumption | refine And.intro ?_ ?_ | intro _ | (rw [Ev.xStp_eq]; simp -dsimp -implicitDefEqProofs only [hg, hi3, q4Rows_len, q4Row, CCount, ↓Ev.P, Ev.Q, eq_self, forall_eq_or_imp, implies_true, forall_const, forall_eq, ↓reduceIte, reduceIte, Nat.reduceEqDiff, Nat.reduceAdd, reduceCtorEq, Nat.reduceSub, Int.reduceToNat, Int.reduceLE, Int.reduceLT, Int.reduceNeg, Nat.reduceBEq, Nat.reduceMul, Nat.reduceLeDiff, Nat.reduceMod, UInt8.reduceOfNat, Nat.reduceLT, Int.reduceEq, Int.reduceAdd, Int.reduceSub, Int.reduceMul]))
      all_goals try omega
      all_goals try (have hq := cnt4 (by assumption); omega)
      all_goals try (have hq := cnt4 ⟨by assumption, trivial⟩; omega)
      · rename_i h
        rw [hd, chkL_bad (bad_sum h)] at hc
        rw [chk_none hc.symm] at hk; exact hk
      · rename_i h h2
        have hq := cnt4 h
        have hg4 := good4 (AN := AN) (BN := BN) ⟨h.1, by have := h.2; omega⟩
        rw [hd, chkL_out hg4 ?_] at hc
        · rw [chk_none hc.symm] at hk; exact hk
        · rcases h2 with (h2 | h2) | h2
          · exact .inr h2
          · exact .inl (.inl (by simp only; omega))
          · exact .inl (.inr ⟨by simp; omega, by simp only; omega⟩)
      · rename_i h h2
        have hq := cnt4 h
        have hg4 := good4 (AN := AN) (BN := BN) ⟨h.1, by have := h.2; omega⟩
        refine xAgain_intro (l.length - (i + 1)) [] (by omega) (by simp -dsimp -implicitDefEqProofs only [↓Ev.xStp_eq, ↓Ev.P, Ev.Q, eq_self, forall_eq_or_imp, implies_true, forall_const, forall_eq, ↓reduceIte, reduceIte, Nat.reduceEqDiff, Nat.reduceAdd, reduceCtorEq, Nat.reduceSub, Int.reduceToNat, Int.reduceLE, Int.reduceLT, Int.reduceNeg, Nat.reduceBEq, Nat.reduceMul, Nat.reduceLeDiff, Nat.reduceMod, UInt8.reduceOfNat, Nat.reduceLT, Int.reduceEq, Int.reduceAdd, Int.reduceSub, Int.reduceMul]) ⟨i + 1, A + AN, B + BN, by omega, rfl, ?_, by omega, by omega, ?_⟩
        · rw [← hc, hd, chkL_in hg4 ?_]
          · simp
          · rintro ((k | k) | k)
            · simp only at k; omega
            · obtain ⟨k1, k2⟩ := k
              simp only [decide_eq_false_iff_not] at k1 k2
              exact h2.2.elim (fun e => e (by omega)) fun e => e (by omega)
            · exact k h2.1.1
        · simp -dsimp -implicitDefEqProofs only [↓Ev.xStp_eq, ↓Ev.P, Ev.Q, eq_self, forall_eq_or_imp, implies_true, forall_const, forall_eq, ↓reduceIte, reduceIte, Nat.reduceEqDiff, Nat.reduceAdd, reduceCtorEq, Nat.reduceSub, Int.reduceToNat, Int.reduceLE, Int.reduceLT, Int.reduceNeg, Nat.reduceBEq, Nat.reduceMul, Nat.reduceLeDiff, Nat.reduceMod, UInt8.reduceOfNat, Nat.reduceLT, Int.reduceEq, Int.reduceAdd, Int.reduceSub, Int.reduceMul]
          rfl
    · have hi3 : ¬ (i : Int) < l.length := by omega
      simp -dsimp -implicitDefEqProofs only [hi3, q4Rows_len, ↓Ev.P, Ev.Q, eq_self, forall_eq_or_imp, implies_true, forall_const, forall_eq, ↓reduceIte, reduceIte, Nat.reduceEqDiff, Nat.reduceAdd, reduceCtorEq, Nat.reduceSub, Int.reduceToNat, Int.reduceLE, Int.reduceLT, Int.reduceNeg, Nat.reduceBEq, Nat.reduceMul, Nat.reduceLeDiff, Nat.reduceMod, UInt8.reduceOfNat, Nat.reduceLT, Int.reduceEq, Int.reduceAdd, Int.reduceSub, Int.reduceMul]
      repeat' (first | with_reducible assumption | refine And.intro ?_ ?_ | intro _ | (rw [Ev.xStp_eq]; simp -dsimp -implicitDefEqProofs only [hi3, q4Rows_len, ↓Ev.P, Ev.Q, eq_self, forall_eq_or_imp, implies_true, forall_const, forall_eq, ↓reduceIte, reduceIte, Nat.reduceEqDiff, Nat.reduceAdd, reduceCtorEq, Nat.reduceSub, Int.reduceToNat, Int.reduceLE, Int.reduceLT, Int.reduceNeg, Nat.reduceBEq, Nat.reduceMul, Nat.reduceLeDiff, Nat.reduceMod, UInt8.reduceOfNat, Nat.reduceLT, Int.reduceEq, Int.reduceAdd, Int.reduceSub, Int.reduceMul]))
      all_goals try omega
      all_goals
        rename_i h
        rw [List.drop_of_length_le (by omega), chkL] at hc
        rw [chk_some hc.symm] at hk
      · rw [if_pos h] at hk; exact hk
      · rw [if_neg (by rintro ((k | k) | k); exact h.1.1 k; exact h.1.2 k; exact k h.2)] at hk; exact hk
end Go.Proofs.YtpbkdcfjlbdgfaaDoor
