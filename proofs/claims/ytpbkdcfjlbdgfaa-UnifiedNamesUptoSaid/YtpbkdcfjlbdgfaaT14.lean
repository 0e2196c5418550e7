import Derived.Test.YtpbkdcfjlbdgfaaT13
set_option linter.unusedVariables false
set_option linter.unusedSimpArgs false
namespace Go.Proofs.Ytpbkdcfjlbdgfaa
open Go Go.Ev
set_option maxRecDepth 100000
def C9 : Contract := pureC fun args => match args with
  | [.d (.v (.string s))] => some (s.size ≤ 1099511627776, .tup [.d (.v (str (namedS s.data.toList).1)), .d (.v (.int .i64 (namedS s.data.toList).2))])
  | _ => none
theorem unqS_1 (o : Option (List UInt8 × List UInt8)) : ∃ b c, unqS o = .tup [.d (.v (.string ⟨((o.map (·.1)).getD []).toArray⟩)), .d (.v (.string b)), .d (.v (.int .i64 c))] := by
  cases o with
  | none => exact ⟨_, _, rfl⟩
  | some z => exact ⟨_, _, rfl⟩
theorem dec0 {q : List UInt8} (h : q = nowh) : decS q = [] := by unfold decS; rw [if_pos h]
def st34 (l : List UInt8) : Bool := match l with | c :: _ => decide (c = 34) | [] => false
theorem dec1 {q : List UInt8} (h : ¬ q = nowh) (h2 : st34 q = true) : decS q = ((unqL q).map (·.1)).getD [] := by
  cases q with
  | nil => cases h2
  | cons c r =>
    have : c = 34 := by simpa [st34] using h2
    subst this
    unfold decS
    rw [if_neg h]
    rfl
theorem dec2 {q : List UInt8} (h : ¬ q = nowh) (h2 : st34 q = false) : decS q = q := by
  unfold decS
  rw [if_neg h]
  split
  · simp [st34] at h2
  · rfl
theorem st34_iff (q : List UInt8) : st34 q = true ↔ 0 < (q.length : Int) ∧ (((q.getD 0 0).toNat : Nat) : Int) = 34 := by
  cases q with
  | nil => simp [st34]
  | cons c r =>
    have := u8_eq c 34 (by omega)
    simp only [st34, decide_eq_true_eq, List.length_cons, List.getD_cons_zero]
    constructor
    · intro h; exact ⟨by omega, this.2 h⟩
    · intro h; exact this.1 h.2
theorem nm_bad {q m : List UInt8} (h : decS q = m) (h2 : 64 < (m.length : Int) ∨ ¬ nameS m = q) : namedS q = ([], 253) := by
  subst h
  rw [namedS, if_pos]
  rcases h2 with h | h
  · exact .inl (by omega)
  · exact .inr h
theorem nm_good {q m : List UInt8} (h : decS q = m) (h2 : ¬ 64 < (m.length : Int) ∧ nameS m = q) : namedS q = (m, 0) := by
  subst h
  rw [namedS, if_neg]
  rintro (h | h)
  · exact h2.1 (by omega)
  · exact h h2.2
theorem s9 : Sound Try.prog 9 C9 := by
  refine sd9 (T := tabT [(5, C5), (11, C11), (21, C27)]) (tab_cons s5 (tab_cons s11 (tab_cons s21 tab_nil))) (pureC_lawful _) (pure_hX fun args p x K h hp hk => ?_)
  split at h <;> simp only [Option.some.injEq, Prod.mk.injEq, reduceCtorEq] at h
  obtain ⟨rfl, rfl⟩ := h
  refine ⟨Nat.le_of_ble_eq_true rfl, ?_⟩
  rename_i s
  obtain ⟨q, rfl⟩ := ex_str s
  simp only [sem_str] at hk hp
  have hpre : hasPre ⟨q.toArray⟩ ⟨[34].toArray⟩ = st34 q := pre34 q
  obtain ⟨b, c, hu⟩ := unqS_1 (unqL q)
  have hl := decS_len q
  simp -dsimp -implicitDefEqProofs only [S9, R9, C5, C11, C27, hpre, hu, ↓Ev.xStp_eq, ↓Ev.P, Ev.Q, eq_self, forall_eq_or_imp, implies_true, forall_const, forall_eq, ↓reduceIte, reduceIte, Nat.reduceEqDiff, Nat.reduceAdd, reduceCtorEq, Nat.reduceSub, Int.reduceToNat, Int.reduceLE, Int.reduceLT, Int.reduceNeg, Nat.reduceBEq, Nat.reduceMul, Nat.reduceLeDiff, Nat.reduceMod, UInt8.reduceOfNat, Nat.reduceLT, Int.reduceEq, Int.reduceAdd, Int.reduceSub, Int.reduceMul]
  repeat' (first | with_reducible assumption | refine And.intro ?_ ?_ | intro _)
  · rename_i h0 h
    rw [nm_bad (dec0 h0) (.inr h)] at hk; exact hk
  · rename_i h0 h
    rw [nm_good (dec0 h0) ⟨by simp, h⟩] at hk; exact hk
  · rename_i h0 h1 h
    rw [dec1 h0 h1] at hl; omega
  · rename_i h0 h1 h
    rw [nm_bad (dec1 h0 h1) h] at hk; exact hk
  · rename_i h0 h1 h
    rw [nm_good (dec1 h0 h1) h] at hk; exact hk
  · rename_i h0 h1 h
    rw [nm_bad (dec2 h0 h1) h] at hk; exact hk
  · rename_i h0 h1 h
    rw [nm_good (dec2 h0 h1) h] at hk; exact hk
theorem s22 : Sound Try.prog 22 C9 := by
  refine sd22 (T := tabT [(6, C5), (23, C11)]) (tab_cons s6 (tab_cons s23 tab_nil)) (pureC_lawful _) (pure_hX fun args p x K h hp hk => ?_)
  split at h <;> simp only [Option.some.injEq, Prod.mk.injEq, reduceCtorEq] at h
  obtain ⟨rfl, rfl⟩ := h
  refine ⟨Nat.le_of_ble_eq_true rfl, ?_⟩
  rename_i s
  obtain ⟨q, rfl⟩ := ex_str s
  simp only [sem_str] at hk hp
  have hl := decS_len q
  by_cases h0 : q = nowh
  · subst h0
    have hq : unqL nowh = none := rfl
    simp -dsimp -implicitDefEqProofs only [S22, R22, C5, C11, hq, unqS, ↓Ev.xStp_eq, ↓Ev.P, Ev.Q, eq_self, forall_eq_or_imp, implies_true, forall_const, forall_eq, ↓reduceIte, reduceIte, Nat.reduceEqDiff, Nat.reduceAdd, reduceCtorEq, Nat.reduceSub, Int.reduceToNat, Int.reduceLE, Int.reduceLT, Int.reduceNeg, Nat.reduceBEq, Nat.reduceMul, Nat.reduceLeDiff, Nat.reduceMod, UInt8.reduceOfNat, Nat.reduceLT, Int.reduceEq, Int.reduceAdd, Int.reduceSub, Int.reduceMul]
    repeat' (first | with_reducible assumption | refine And.intro ?_ ?_ | intro _)
    · rename_i h; exact absurd h.2 (by decide)
    · rename_i h; exact absurd rfl h
    · rw [nm_good (m := []) (dec0 rfl) ⟨by simp, rfl⟩] at hk; exact hk
  · by_cases h1 : st34 q = true
    · have h1' := (st34_iff q).1 h1
      cases hq : unqL q with
      | none =>
        obtain ⟨m, rfl⟩ : ∃ m, q = 34 :: m := by
          cases q with
          | nil => cases h1
          | cons c r => have : c = 34 := by simpa [st34] using h1
                        exact ⟨r, by rw [this]⟩
        have hb := nm_bad rfl (.inr (named_bad hq rfl))
        simp -dsimp -implicitDefEqProofs only [S22, R22, C5, C11, hq, h0, h1', unqS, ↓Ev.xStp_eq, ↓Ev.P, Ev.Q, eq_self, forall_eq_or_imp, implies_true, forall_const, forall_eq, ↓reduceIte, reduceIte, Nat.reduceEqDiff, Nat.reduceAdd, reduceCtorEq, Nat.reduceSub, Int.reduceToNat, Int.reduceLE, Int.reduceLT, Int.reduceNeg, Nat.reduceBEq, Nat.reduceMul, Nat.reduceLeDiff, Nat.reduceMod, UInt8.reduceOfNat, Nat.reduceLT, Int.reduceEq, Int.reduceAdd, Int.reduceSub, Int.reduceMul]
        rw [hb] at hk
        repeat' (first | with_reducible assumption | refine And.intro ?_ ?_ | intro _)
        · simp only [List.length_cons] at hp; omega
        · simp only [List.length_cons] at hp; omega
        · rename_i h _
          exact h.elim (fun h => absurd (by omega) h) (fun h => absurd rfl h)
      | some z =>
        obtain ⟨o, r⟩ := z
        have hd : decS q = o := by rw [dec1 h0 h1, hq]; rfl
        simp -dsimp -implicitDefEqProofs only [S22, R22, C5, C11, hq, h0, h1', unqS, ↓Ev.xStp_eq, ↓Ev.P, Ev.Q, eq_self, forall_eq_or_imp, implies_true, forall_const, forall_eq, ↓reduceIte, reduceIte, Nat.reduceEqDiff, Nat.reduceAdd, reduceCtorEq, Nat.reduceSub, Int.reduceToNat, Int.reduceLE, Int.reduceLT, Int.reduceNeg, Nat.reduceBEq, Nat.reduceMul, Nat.reduceLeDiff, Nat.reduceMod, UInt8.reduceOfNat, Nat.reduceLT, Int.reduceEq, Int.reduceAdd, Int.reduceSub, Int.reduceMul]
        repeat' (first | with_reducible assumption | refine And.intro ?_ ?_ | intro _)
        · rename_i h
          rw [nm_bad hd (.inr (named_more hq h))] at hk; exact hk
        · rw [hd] at hl; omega
        · rename_i h
          rw [nm_bad hd h] at hk; exact hk
        · rename_i h
          rw [nm_good hd h] at hk; exact hk
    · have h1' : st34 q = false := by simpa using h1
      have h2 : ¬ (0 < (q.length : Int) ∧ (((q.getD 0 0).toNat : Nat) : Int) = 34) := fun h => h1 ((st34_iff q).2 h)
      have h3 : ¬ 0 < (q.length : Int) ∨ ¬ (((q.getD 0 0).toNat : Nat) : Int) = 34 := by
        by_cases h : 0 < (q.length : Int)
        · exact .inr fun e => h2 ⟨h, e⟩
        · exact .inl h
      have hd := dec2 h0 h1'
      simp -dsimp -implicitDefEqProofs only [S22, R22, C5, C11, h0, h2, h3, unqS, ↓Ev.xStp_eq, ↓Ev.P, Ev.Q, eq_self, forall_eq_or_imp, implies_true, forall_const, forall_eq, ↓reduceIte, reduceIte, Nat.reduceEqDiff, Nat.reduceAdd, reduceCtorEq, Nat.reduceSub, Int.reduceToNat, Int.reduceLE, Int.reduceLT, Int.reduceNeg, Nat.reduceBEq, Nat.reduceMul, Nat.reduceLeDiff, Nat.reduceMod, UInt8.reduceOfNat, Nat.reduceLT, Int.reduceEq, Int.reduceAdd, Int.reduceSub, Int.reduceMul]
      repeat' (first | with_reducible assumption | refine And.intro ?_ ?_ | intro _)
      · rename_i h
        rw [nm_bad hd h] at hk; exact hk
      · rename_i h
        rw [nm_good hd h] at hk; exact hk
theorem s10 : Sound Try.prog 10 C9 := by
  refine sd10 (T := tabT [(22, C9)]) (tab_cons s22 tab_nil) (pureC_lawful _) (pure_hX fun args p x K h hp hk => ?_)
  split at h <;> simp only [Option.some.injEq, Prod.mk.injEq, reduceCtorEq] at h
  obtain ⟨rfl, rfl⟩ := h
  refine ⟨Nat.le_of_ble_eq_true rfl, ?_⟩
  simp -dsimp -implicitDefEqProofs only [S10, R10, C9, ↓Ev.xStp_eq, ↓Ev.P, Ev.Q, eq_self, forall_eq_or_imp, implies_true, forall_const, forall_eq, ↓reduceIte, reduceIte, Nat.reduceEqDiff, Nat.reduceAdd, reduceCtorEq, Nat.reduceSub, Int.reduceToNat, Int.reduceLE, Int.reduceLT, Int.reduceNeg, Nat.reduceBEq, Nat.reduceMul, Nat.reduceLeDiff, Nat.reduceMod, UInt8.reduceOfNat, Nat.reduceLT, Int.reduceEq, Int.reduceAdd, Int.reduceSub, Int.reduceMul]
  exact ⟨hp, hk⟩
end Go.Proofs.Ytpbkdcfjlbdgfaa
