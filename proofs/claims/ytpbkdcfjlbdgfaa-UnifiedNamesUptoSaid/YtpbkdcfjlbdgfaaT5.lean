import Derived.Test.YtpbkdcfjlbdgfaaT3
set_option linter.unusedVariables false
set_option linter.unusedSimpArgs false
namespace Go.Proofs.Ytpbkdcfjlbdgfaa
open Go Go.Ev
set_option maxRecDepth 100000
theorem s5 : Sound Try.prog 5 C5 := by
  refine sd5 (T := tabT [(13, C24), (14, C14), (15, C15)]) (tab_cons s13 (tab_cons s14 (tab_cons s15 tab_nil))) (pureC_lawful _) (pure_hX fun args p x K h hp hk => ?_)
  split at h <;> simp only [Option.some.injEq, Prod.mk.injEq, reduceCtorEq] at h
  obtain ⟨rfl, rfl⟩ := h
  refine ⟨Nat.le_of_ble_eq_true rfl, ?_⟩
  rename_i s
  obtain ⟨l, rfl⟩ := ex_str s
  simp only [sem_str] at hk hp
  have hpre := pre34 l
  have bad : unqL l = none → K (.ret (.tup [.d (.v (.string ⟨#[]⟩)), .d (.v (.string ⟨#[]⟩)), .d (.v (.int .i64 3))])) ⟨0, []⟩ := fun e => by rw [e] at hk; exact hk
  match l, hpre with
  | [], hpre =>
    simp -dsimp -implicitDefEqProofs only [S5, R5, C24, C14, C15, hpre, ↓Ev.xStp_eq, ↓Ev.P, Ev.Q, eq_self, forall_eq_or_imp, implies_true, forall_const, forall_eq, ↓reduceIte, reduceIte, Nat.reduceEqDiff, Nat.reduceAdd, reduceCtorEq, Nat.reduceSub, Int.reduceToNat, Int.reduceLE, Int.reduceLT, Int.reduceNeg, Nat.reduceBEq, Nat.reduceMul, Nat.reduceLeDiff, Nat.reduceMod, UInt8.reduceOfNat, Nat.reduceLT, Int.reduceEq, Int.reduceAdd, Int.reduceSub, Int.reduceMul]
    exact bad rfl
  | c :: r, hpre =>
    by_cases hc : c = 34
    case neg =>
      have hpre : hasPre ⟨(c :: r).toArray⟩ ⟨[34].toArray⟩ = false := by rw [hpre]; simp [hc]
      simp -dsimp -implicitDefEqProofs only [S5, R5, C24, C14, C15, hpre, ↓Ev.xStp_eq, ↓Ev.P, Ev.Q, eq_self, forall_eq_or_imp, implies_true, forall_const, forall_eq, ↓reduceIte, reduceIte, Nat.reduceEqDiff, Nat.reduceAdd, reduceCtorEq, Nat.reduceSub, Int.reduceToNat, Int.reduceLE, Int.reduceLT, Int.reduceNeg, Nat.reduceBEq, Nat.reduceMul, Nat.reduceLeDiff, Nat.reduceMod, UInt8.reduceOfNat, Nat.reduceLT, Int.reduceEq, Int.reduceAdd, Int.reduceSub, Int.reduceMul]
      refine bad ?_
      unfold unqL
      split
      · simp_all
      · rfl
    subst hc
    have hpre : hasPre ⟨((34 : UInt8) :: r).toArray⟩ ⟨[34].toArray⟩ = true := by rw [hpre]; simp
    simp -dsimp -implicitDefEqProofs only [S5, R5, C24, C14, C15, hpre, ↓Ev.xStp_eq, ↓Ev.P, Ev.Q, eq_self, forall_eq_or_imp, implies_true, forall_const, forall_eq, ↓reduceIte, reduceIte, Nat.reduceEqDiff, Nat.reduceAdd, reduceCtorEq, Nat.reduceSub, Int.reduceToNat, Int.reduceLE, Int.reduceLT, Int.reduceNeg, Nat.reduceBEq, Nat.reduceMul, Nat.reduceLeDiff, Nat.reduceMod, UInt8.reduceOfNat, Nat.reduceLT, Int.reduceEq, Int.reduceAdd, Int.reduceSub, Int.reduceMul]
    have good : ∀ o m, unq r [] = some (o, m) → K (.ret (.tup [.d (.v (.string ⟨o.toArray⟩)), .d (.v (.string ⟨m.toArray⟩)), .d (.v (.int .i64 0))])) ⟨0, []⟩ := fun o m e => by
      rw [unqL, e] at hk; exact hk
    have hr : r.length ≤ 1099511627776 := by simp only [List.length_cons] at hp; omega
    refine xLoop_intro (fun n st => ∃ (l out : List UInt8), n = l.length ∧ l.length + out.length ≤ r.length ∧ unq l out = unq r [] ∧
      st = ⟨[(5, .d (.v (.string ⟨l.toArray⟩))), (7, .own 0)], 1, [(0, .row 5 1 (byteRows out))]⟩) r.length [0] ?_ ?_ ?_
    · simp -dsimp -implicitDefEqProofs only [↓Ev.xStp_eq, ↓Ev.P, Ev.Q, eq_self, forall_eq_or_imp, implies_true, forall_const, forall_eq, ↓reduceIte, reduceIte, Nat.reduceEqDiff, Nat.reduceAdd, reduceCtorEq, Nat.reduceSub, Int.reduceToNat, Int.reduceLE, Int.reduceLT, Int.reduceNeg, Nat.reduceBEq, Nat.reduceMul, Nat.reduceLeDiff, Nat.reduceMod, UInt8.reduceOfNat, Nat.reduceLT, Int.reduceEq, Int.reduceAdd, Int.reduceSub, Int.reduceMul]
    · simp -dsimp -implicitDefEqProofs only [↓Ev.xStp_eq, ↓Ev.P, Ev.Q, eq_self, forall_eq_or_imp, implies_true, forall_const, forall_eq, ↓reduceIte, reduceIte, Nat.reduceEqDiff, Nat.reduceAdd, reduceCtorEq, Nat.reduceSub, Int.reduceToNat, Int.reduceLE, Int.reduceLT, Int.reduceNeg, Nat.reduceBEq, Nat.reduceMul, Nat.reduceLeDiff, Nat.reduceMod, UInt8.reduceOfNat, Nat.reduceLT, Int.reduceEq, Int.reduceAdd, Int.reduceSub, Int.reduceMul]
      exact ⟨r, [], rfl, by simp, rfl, rfl⟩
    · rintro n st ⟨l, out, hn, hlen, hu, rfl⟩
      cases l with
      | nil =>
        have hb := bad (by rw [unqL, ← hu, unq])
        simp -dsimp -implicitDefEqProofs only [↓Ev.xStp_eq, ↓Ev.P, Ev.Q, eq_self, forall_eq_or_imp, implies_true, forall_const, forall_eq, ↓reduceIte, reduceIte, Nat.reduceEqDiff, Nat.reduceAdd, reduceCtorEq, Nat.reduceSub, Int.reduceToNat, Int.reduceLE, Int.reduceLT, Int.reduceNeg, Nat.reduceBEq, Nat.reduceMul, Nat.reduceLeDiff, Nat.reduceMod, UInt8.reduceOfNat, Nat.reduceLT, Int.reduceEq, Int.reduceAdd, Int.reduceSub, Int.reduceMul]
        exact hb
      | cons d m =>
        have h34' : ((d.toNat : Int) = 34) ↔ d = 34 := u8_eq d 34 (by omega)
        have h92' : ((d.toNat : Int) = 92) ↔ d = 92 := u8_eq d 92 (by omega)
        simp only [List.length_cons] at hlen hn
        simp -dsimp -implicitDefEqProofs only [↓Ev.xStp_eq, ↓Ev.P, Ev.Q, eq_self, forall_eq_or_imp, implies_true, forall_const, forall_eq, ↓reduceIte, reduceIte, Nat.reduceEqDiff, Nat.reduceAdd, reduceCtorEq, Nat.reduceSub, Int.reduceToNat, Int.reduceLE, Int.reduceLT, Int.reduceNeg, Nat.reduceBEq, Nat.reduceMul, Nat.reduceLeDiff, Nat.reduceMod, UInt8.reduceOfNat, Nat.reduceLT, Int.reduceEq, Int.reduceAdd, Int.reduceSub, Int.reduceMul]
        repeat' (first | refine And.intro ?_ ?_ | intro _)
        all_goals try omega
        · rename_i h
          exact good _ _ (by rw [← hu, h34'.1 h, unq_end])
        · rename_i h hp
          refine xAgain_intro m.length [2] (by omega) (by simp -dsimp -implicitDefEqProofs only [↓Ev.xStp_eq, ↓Ev.P, Ev.Q, eq_self, forall_eq_or_imp, implies_true, forall_const, forall_eq, ↓reduceIte, reduceIte, Nat.reduceEqDiff, Nat.reduceAdd, reduceCtorEq, Nat.reduceSub, Int.reduceToNat, Int.reduceLE, Int.reduceLT, Int.reduceNeg, Nat.reduceBEq, Nat.reduceMul, Nat.reduceLeDiff, Nat.reduceMod, UInt8.reduceOfNat, Nat.reduceLT, Int.reduceEq, Int.reduceAdd, Int.reduceSub, Int.reduceMul]) ⟨m, out ++ [d], rfl, by simp; omega, by rw [← hu, unq_plain _ _ (fun e => h (h34'.2 e)) hp], ?_⟩
          simp -dsimp -implicitDefEqProofs only [↓Ev.xStp_eq, ↓Ev.P, Ev.Q, eq_self, forall_eq_or_imp, implies_true, forall_const, forall_eq, ↓reduceIte, reduceIte, Nat.reduceEqDiff, Nat.reduceAdd, reduceCtorEq, Nat.reduceSub, Int.reduceToNat, Int.reduceLE, Int.reduceLT, Int.reduceNeg, Nat.reduceBEq, Nat.reduceMul, Nat.reduceLeDiff, Nat.reduceMod, UInt8.reduceOfNat, Nat.reduceLT, Int.reduceEq, Int.reduceAdd, Int.reduceSub, Int.reduceMul]
          simp [byteRows]
        · rename_i h hp hb
          refine bad ?_
          rw [unqL, ← hu]
          refine unq_bad _ _ (fun e => h (h34'.2 e)) hp fun e => ?_
          rcases hb with hb | hb
          · exact absurd (h92'.2 e) hb
          · exact hb
        all_goals
          rename_i h hp hb
          obtain ⟨h1, h2⟩ := hb
          have := h92'.1 h1
          subst this
          obtain ⟨k1, k2, k3⟩ := unq_oct m out h2
        · omega
        · refine xAgain_intro (m.drop 2).length [2] (by simp; omega) (by simp -dsimp -implicitDefEqProofs only [↓Ev.xStp_eq, ↓Ev.P, Ev.Q, eq_self, forall_eq_or_imp, implies_true, forall_const, forall_eq, ↓reduceIte, reduceIte, Nat.reduceEqDiff, Nat.reduceAdd, reduceCtorEq, Nat.reduceSub, Int.reduceToNat, Int.reduceLE, Int.reduceLT, Int.reduceNeg, Nat.reduceBEq, Nat.reduceMul, Nat.reduceLeDiff, Nat.reduceMod, UInt8.reduceOfNat, Nat.reduceLT, Int.reduceEq, Int.reduceAdd, Int.reduceSub, Int.reduceMul]) ⟨m.drop 2, _, rfl, ?_, by rw [← hu, k2], ?_⟩
          · simp; omega
          · simp -dsimp -implicitDefEqProofs only [↓Ev.xStp_eq, ↓Ev.P, Ev.Q, eq_self, forall_eq_or_imp, implies_true, forall_const, forall_eq, ↓reduceIte, reduceIte, Nat.reduceEqDiff, Nat.reduceAdd, reduceCtorEq, Nat.reduceSub, Int.reduceToNat, Int.reduceLE, Int.reduceLT, Int.reduceNeg, Nat.reduceBEq, Nat.reduceMul, Nat.reduceLeDiff, Nat.reduceMod, UInt8.reduceOfNat, Nat.reduceLT, Int.reduceEq, Int.reduceAdd, Int.reduceSub, Int.reduceMul]
            simp only [byteRows, List.map_append, List.map_cons, List.map_nil, k3]
end Go.Proofs.Ytpbkdcfjlbdgfaa
