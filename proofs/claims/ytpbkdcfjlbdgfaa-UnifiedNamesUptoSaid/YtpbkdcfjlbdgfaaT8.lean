import Derived.Test.YtpbkdcfjlbdgfaaT7
set_option linter.unusedVariables false
set_option linter.unusedSimpArgs false
namespace Go.Proofs.Ytpbkdcfjlbdgfaa
open Go Go.Ev
set_option maxRecDepth 100000
set_option maxHeartbeats 2000000 in
theorem s6 : Sound Try.prog 6 C5 := by
  refine sd6 (T := tabT [(16, C14), (17, C17)]) (tab_cons s16 (tab_cons s17 tab_nil)) (pureC_lawful _) (pure_hX fun args p x K h hp hk => ?_)
  split at h <;> simp only [Option.some.injEq, Prod.mk.injEq, reduceCtorEq] at h
  obtain ⟨rfl, rfl⟩ := h
  refine ⟨Nat.le_of_ble_eq_true rfl, ?_⟩
  rename_i s
  obtain ⟨q, rfl⟩ := ex_str s
  simp only [sem_str] at hk hp
  have bad : unqL q = none → K (.ret (.tup [.d (.v (.string ⟨#[]⟩)), .d (.v (.string ⟨#[]⟩)), .d (.v (.int .i64 3))])) ⟨0, []⟩ := fun e => by rw [e] at hk; exact hk
  have good : ∀ o m, unqL q = some (o, m) → K (.ret (.tup [.d (.v (.string ⟨o.toArray⟩)), .d (.v (.string ⟨m.toArray⟩)), .d (.v (.int .i64 0))])) ⟨0, []⟩ := fun o m e => by
    rw [e] at hk; exact hk
  have hq : q.length ≤ 1099511627776 := hp
  simp -dsimp -implicitDefEqProofs only [S6, R6, C14, C17, ↓Ev.xStp_eq, ↓Ev.P, Ev.Q, eq_self, forall_eq_or_imp, implies_true, forall_const, forall_eq, ↓reduceIte, reduceIte, Nat.reduceEqDiff, Nat.reduceAdd, reduceCtorEq, Nat.reduceSub, Int.reduceToNat, Int.reduceLE, Int.reduceLT, Int.reduceNeg, Nat.reduceBEq, Nat.reduceMul, Nat.reduceLeDiff, Nat.reduceMod, UInt8.reduceOfNat, Nat.reduceLT, Int.reduceEq, Int.reduceAdd, Int.reduceSub, Int.reduceMul]
  have q34 : ∀ (i : Nat), ((((q.getD i 0).toNat : Nat) : Int) = 34) ↔ q.getD i 0 = 34 := fun i => u8_eq _ 34 (by omega)
  repeat' (first | refine And.intro ?_ ?_ | intro _)
  all_goals try omega
  · rename_i h
    refine bad ?_
    cases q with
    | nil => rfl
    | cons c r =>
      have : c ≠ 34 := fun e => by
        rcases h with h | h
        · simp only [List.length_cons] at h; omega
        · exact h ((q34 0).2 e)
      unfold unqL; split <;> simp_all
  rename_i h
  have h0 : unqL q = unq (q.drop 1) [] := by
    cases q with
    | nil => exact absurd rfl h.1
    | cons c r =>
      have : c = 34 := by have := (q34 0).1 (by simpa using h.2); simpa using this
      subst this; rfl
  have h1 : 1 ≤ q.length := by omega
  refine xLoop_intro (fun n st => ∃ (i : Nat) (out : List UInt8), n = q.length - i ∧ 1 ≤ i ∧ i ≤ q.length ∧ out.length ≤ i ∧ unq (q.drop i) out = unqL q ∧
      st = ⟨[(0, .d (.v (.string ⟨q.toArray⟩))), (5, .own 0), (6, .d (.v (.int .i64 i)))], 1, [(0, .row 5 1 (byteRows out))]⟩) (q.length - 1) [0] ?_ ?_ ?_
  · simp -dsimp -implicitDefEqProofs only [↓Ev.xStp_eq, ↓Ev.P, Ev.Q, eq_self, forall_eq_or_imp, implies_true, forall_const, forall_eq, ↓reduceIte, reduceIte, Nat.reduceEqDiff, Nat.reduceAdd, reduceCtorEq, Nat.reduceSub, Int.reduceToNat, Int.reduceLE, Int.reduceLT, Int.reduceNeg, Nat.reduceBEq, Nat.reduceMul, Nat.reduceLeDiff, Nat.reduceMod, UInt8.reduceOfNat, Nat.reduceLT, Int.reduceEq, Int.reduceAdd, Int.reduceSub, Int.reduceMul]
  · simp -dsimp -implicitDefEqProofs only [↓Ev.xStp_eq, ↓Ev.P, Ev.Q, eq_self, forall_eq_or_imp, implies_true, forall_const, forall_eq, ↓reduceIte, reduceIte, Nat.reduceEqDiff, Nat.reduceAdd, reduceCtorEq, Nat.reduceSub, Int.reduceToNat, Int.reduceLE, Int.reduceLT, Int.reduceNeg, Nat.reduceBEq, Nat.reduceMul, Nat.reduceLeDiff, Nat.reduceMod, UInt8.reduceOfNat, Nat.reduceLT, Int.reduceEq, Int.reduceAdd, Int.reduceSub, Int.reduceMul]
    exact ⟨1, [], rfl, by omega, h1, by simp, h0.symm, rfl⟩
  · rintro n st ⟨i, out, hn, hi1, hi2, ho, hu, rfl⟩
    have nb : ∀ x : UInt8, ∃ d : UInt8, (x.toNat : Int) = d.toNat := fun x => ⟨x, rfl⟩
    simp -dsimp -implicitDefEqProofs only [↓Ev.P, Ev.Q, eq_self, forall_eq_or_imp, implies_true, forall_const, forall_eq, ↓reduceIte, reduceIte, Nat.reduceEqDiff, Nat.reduceAdd, reduceCtorEq, Nat.reduceSub, Int.reduceToNat, Int.reduceLE, Int.reduceLT, Int.reduceNeg, Nat.reduceBEq, Nat.reduceMul, Nat.reduceLeDiff, Nat.reduceMod, UInt8.reduceOfNat, Nat.reduceLT, Int.reduceEq, Int.reduceAdd, Int.reduceSub, Int.reduceMul]
    have b1 := hx_b (q.getD (i + 1) 0)
    have b2 := hx_b (q.getD (i + 2) 0)
    repeat' (first | exact nb _ | refine And.intro ?_ ?_ | intro _ | (rw [Ev.xStp_eq]; simp -dsimp -implicitDefEqProofs only [↓Ev.P, Ev.Q, eq_self, forall_eq_or_imp, implies_true, forall_const, forall_eq, ↓reduceIte, reduceIte, Nat.reduceEqDiff, Nat.reduceAdd, reduceCtorEq, Nat.reduceSub, Int.reduceToNat, Int.reduceLE, Int.reduceLT, Int.reduceNeg, Nat.reduceBEq, Nat.reduceMul, Nat.reduceLeDiff, Nat.reduceMod, UInt8.reduceOfNat, Nat.reduceLT, Int.reduceEq, Int.reduceAdd, Int.reduceSub, Int.reduceMul]))
    all_goals try omega
    · rename_i hl h
      exact good _ _ (at_end hl hu h)
    · rename_i hl h hp
      refine xAgain_intro (q.length - (i + 1)) [2] (by omega) (by simp -dsimp -implicitDefEqProofs only [↓Ev.xStp_eq, ↓Ev.P, Ev.Q, eq_self, forall_eq_or_imp, implies_true, forall_const, forall_eq, ↓reduceIte, reduceIte, Nat.reduceEqDiff, Nat.reduceAdd, reduceCtorEq, Nat.reduceSub, Int.reduceToNat, Int.reduceLE, Int.reduceLT, Int.reduceNeg, Nat.reduceBEq, Nat.reduceMul, Nat.reduceLeDiff, Nat.reduceMod, UInt8.reduceOfNat, Nat.reduceLT, Int.reduceEq, Int.reduceAdd, Int.reduceSub, Int.reduceMul]) ⟨i + 1, out ++ [q.getD i 0], rfl, by omega, by omega, by simp; omega, at_plain hl hu h hp, ?_⟩
      simp -dsimp -implicitDefEqProofs only [↓Ev.xStp_eq, ↓Ev.P, Ev.Q, eq_self, forall_eq_or_imp, implies_true, forall_const, forall_eq, ↓reduceIte, reduceIte, Nat.reduceEqDiff, Nat.reduceAdd, reduceCtorEq, Nat.reduceSub, Int.reduceToNat, Int.reduceLE, Int.reduceLT, Int.reduceNeg, Nat.reduceBEq, Nat.reduceMul, Nat.reduceLeDiff, Nat.reduceMod, UInt8.reduceOfNat, Nat.reduceLT, Int.reduceEq, Int.reduceAdd, Int.reduceSub, Int.reduceMul]
      simp [byteRows]
    · rename_i hl h hp hk
      obtain ⟨k1, k2⟩ := at_oct hl hu h hp hk
      obtain ⟨⟨⟨⟨_, h2⟩, _⟩, _⟩, _⟩ := hk
      refine xAgain_intro (q.length - (i + 3)) [2] (by omega) (by simp -dsimp -implicitDefEqProofs only [↓Ev.xStp_eq, ↓Ev.P, Ev.Q, eq_self, forall_eq_or_imp, implies_true, forall_const, forall_eq, ↓reduceIte, reduceIte, Nat.reduceEqDiff, Nat.reduceAdd, reduceCtorEq, Nat.reduceSub, Int.reduceToNat, Int.reduceLE, Int.reduceLT, Int.reduceNeg, Nat.reduceBEq, Nat.reduceMul, Nat.reduceLeDiff, Nat.reduceMod, UInt8.reduceOfNat, Nat.reduceLT, Int.reduceEq, Int.reduceAdd, Int.reduceSub, Int.reduceMul]) ⟨i + 3, _, rfl, by omega, by omega, ?_, k1, ?_⟩
      · simp; omega
      · simp -dsimp -implicitDefEqProofs only [↓Ev.xStp_eq, ↓Ev.P, Ev.Q, eq_self, forall_eq_or_imp, implies_true, forall_const, forall_eq, ↓reduceIte, reduceIte, Nat.reduceEqDiff, Nat.reduceAdd, reduceCtorEq, Nat.reduceSub, Int.reduceToNat, Int.reduceLE, Int.reduceLT, Int.reduceNeg, Nat.reduceBEq, Nat.reduceMul, Nat.reduceLeDiff, Nat.reduceMod, UInt8.reduceOfNat, Nat.reduceLT, Int.reduceEq, Int.reduceAdd, Int.reduceSub, Int.reduceMul]
        simp only [byteRows, List.map_append, List.map_cons, List.map_nil, k2]
        simp only [octR]
        rfl
    · rename_i hl h hp hk
      refine bad (at_bad hl hu h hp fun h => ?_)
      obtain ⟨⟨⟨⟨h1, h2⟩, h3⟩, h4⟩, h5⟩ := h
      rcases hk with (((hk | hk) | hk) | hk) | hk
      · exact hk h1
      · exact hk h2
      · exact hk h3
      · exact hk h4
      · rw [octR] at h5; rw [h5] at hk; cases hk
    · refine bad ?_
      rw [← hu, List.drop_of_length_le (by omega), unq]
end Go.Proofs.Ytpbkdcfjlbdgfaa
