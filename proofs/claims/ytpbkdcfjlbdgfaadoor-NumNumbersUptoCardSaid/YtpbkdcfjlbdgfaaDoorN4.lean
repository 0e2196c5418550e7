import Derived.Test.YtpbkdcfjlbdgfaaDoorN3
set_option linter.unusedVariables false
set_option linter.unusedSimpArgs false
namespace Go.Proofs.YtpbkdcfjlbdgfaaDoor
open Go Go.Ev
set_option maxRecDepth 100000
variable {G : World → Prop}
abbrev Q4 := Int × Int × Int × Int
/-- What is wrong with one change by itself. -/
def badC (c : Q4) : Prop := ((((cntB c.1 = false ∨ cntB c.2.1 = false) ∨ cntB c.2.2.1 = false) ∨ cntB c.2.2.2 = false) ∨ (c.2.1 = 0 ∧ c.2.2.2 = 0))
def outC (f : Bool) (a b : Int) (c : Q4) : Prop := (c.1 - a < 0 ∨ (f = false ∧ c.1 - a = 0)) ∨ ¬ c.1 - a = c.2.2.1 - b
instance (c : Q4) : Decidable (badC c) := by unfold badC; infer_instance
instance (f : Bool) (a b : Int) (c : Q4) : Decidable (outC f a b c) := by unfold outC; infer_instance
def chkL : Bool → Int → Int → List Q4 → Option (Int × Int)
  | _, a, b, [] => some (a, b)
  | f, a, b, c :: r => if badC c then none else if outC f a b c then none else chkL false (c.1 + c.2.1) (c.2.2.1 + c.2.2.2) r
def chk (l : List Q4) (n m : Int) : Int := match chkL true 0 0 l with
  | none => 50
  | some (a, b) => if (n < a ∨ m < b) ∨ ¬ n - a = m - b then 50 else 0
theorem chk_none {l : List Q4} {n m : Int} (h : chkL true 0 0 l = none) : chk l n m = 50 := by rw [chk, h]
theorem chk_some {l : List Q4} {n m a b : Int} (h : chkL true 0 0 l = some (a, b)) : chk l n m = if (n < a ∨ m < b) ∨ ¬ n - a = m - b then 50 else 0 := by rw [chk, h]
theorem q4_drop {l : List Q4} {i : Nat} (h : i < l.length) : l.drop i = l.getD i (0, 0, 0, 0) :: l.drop (i + 1) := by
  rw [List.drop_eq_getElem_cons h]; simp [List.getD_eq_getElem?_getD, List.getElem?_eq_getElem h]
theorem cnt_in {n : Int} (h : ¬ cntB n = false) : 0 ≤ n ∧ n ≤ 2147483647 := by simpa [cntB] using h
theorem okC {c : Q4} (h : ¬ badC c) : (0 ≤ c.1 ∧ c.1 ≤ 2147483647) ∧ (0 ≤ c.2.1 ∧ c.2.1 ≤ 2147483647) ∧ (0 ≤ c.2.2.1 ∧ c.2.2.1 ≤ 2147483647) ∧ (0 ≤ c.2.2.2 ∧ c.2.2.2 ≤ 2147483647) ∧ ¬ (c.2.1 = 0 ∧ c.2.2.2 = 0) :=
  ⟨cnt_in fun e => h (.inl (.inl (.inl (.inl e)))), cnt_in fun e => h (.inl (.inl (.inl (.inr e)))), cnt_in fun e => h (.inl (.inl (.inr e))), cnt_in fun e => h (.inl (.inr e)), fun e => h (.inr e)⟩
theorem cnt4 {A AN B BN : Int} {Z : Prop} (h : (((cntB A = true ∧ cntB AN = true) ∧ cntB B = true) ∧ cntB BN = true) ∧ Z) : (0 ≤ A ∧ A ≤ 2147483647) ∧ (0 ≤ AN ∧ AN ≤ 2147483647) ∧ (0 ≤ B ∧ B ≤ 2147483647) ∧ (0 ≤ BN ∧ BN ≤ 2147483647) := by
  have k : ∀ n, cntB n = true → 0 ≤ n ∧ n ≤ 2147483647 := fun n h => by simpa [cntB] using h
  exact ⟨k _ h.1.1.1.1, k _ h.1.1.1.2, k _ h.1.1.2, k _ h.1.2⟩
theorem good4 {A AN B BN : Int} (h : (((cntB A = true ∧ cntB AN = true) ∧ cntB B = true) ∧ cntB BN = true) ∧ (¬ AN = 0 ∨ ¬ BN = 0)) : ¬ badC (A, AN, B, BN) := by
  rintro ((((e | e) | e) | e) | e)
  · rw [h.1.1.1.1] at e; cases e
  · rw [h.1.1.1.2] at e; cases e
  · rw [h.1.1.2] at e; cases e
  · rw [h.1.2] at e; cases e
  · exact h.2.elim (fun k => k e.1) fun k => k e.2
theorem chkL_bad {f : Bool} {a b : Int} {c : Q4} {r : List Q4} (h : badC c) : chkL f a b (c :: r) = none := by rw [chkL, if_pos h]
theorem chkL_out {f : Bool} {a b : Int} {c : Q4} {r : List Q4} (h : ¬ badC c) (h2 : outC f a b c) : chkL f a b (c :: r) = none := by rw [chkL, if_neg h, if_pos h2]
theorem chkL_in {f : Bool} {a b : Int} {c : Q4} {r : List Q4} (h : ¬ badC c) (h2 : ¬ outC f a b c) : chkL f a b (c :: r) = chkL false (c.1 + c.2.1) (c.2.2.1 + c.2.2.2) r := by rw [chkL, if_neg h, if_neg h2]
def CCheck : Contract := pureC fun args => match args with
  | [.d (.sl rows), .d (.v (.int .i64 n)), .d (.v (.int .i64 m))] => (unQ4 rows).map fun l => (l.length ≤ 1099511627776 ∧ (0 ≤ n ∧ n ≤ 1099511627776) ∧ (0 ≤ m ∧ m ≤ 1099511627776), .d (.v (.int .i64 (chk l n m))))
  | _ => none
theorem s41 : Sound G Tryd.prog 41 CCheck := by
  refine sd41 (T := tabT [(93, CCount)]) (tab_cons s93 tab_nil) (pureC_lawful _) (pure_hX fun args p x K h hp hk => ?_)
  split at h <;> simp only [Option.map_eq_some_iff, Prod.mk.injEq, reduceCtorEq] at h
  obtain ⟨l, hl, rfl, rfl⟩ := h
  rw [unQ4_eq hl] at *
  refine ⟨Nat.le_of_ble_eq_true rfl, ?_⟩
  rename_i n m
  obtain ⟨hl1, hn, hm⟩ := hp
  simp -dsimp -implicitDefEqProofs only [S41, R41, q4Rows_len, ↓Ev.xStp_eq, ↓Ev.P, Ev.Q, eq_self, forall_eq_or_imp, implies_true, forall_const, forall_eq, ↓reduceIte, reduceIte, Nat.reduceEqDiff, Nat.reduceAdd, reduceCtorEq, Nat.reduceSub, Int.reduceToNat, Int.reduceLE, Int.reduceLT, Int.reduceNeg, Nat.reduceBEq, Nat.reduceMul, Nat.reduceLeDiff, Nat.reduceMod, UInt8.reduceOfNat, Nat.reduceLT, Int.reduceEq, Int.reduceAdd, Int.reduceSub, Int.reduceMul]
  refine xLoop_intro (fun k st => ∃ (i : Nat) (a b : Int), i ≤ l.length ∧ k = l.length - i ∧ chkL (decide (i = 0)) a b (l.drop i) = chkL true 0 0 l ∧ (0 ≤ a ∧ a ≤ 4294967294) ∧ (0 ≤ b ∧ b ≤ 4294967294) ∧
      st = ⟨[(1, .d (.v (.int .i64 n))), (2, .d (.v (.int .i64 m))), (7, .d (.v (.int .i64 a))), (8, .d (.v (.int .i64 b))), (12, .d (.sl (q4Rows l))), (13, .d (.v (.int .i64 l.length))), (14, .d (.v (.int .i64 i)))], 0, []⟩) l.length [] ?_ ?_ ?_
  · simp -dsimp -implicitDefEqProofs only [↓Ev.xStp_eq, ↓Ev.P, Ev.Q, eq_self, forall_eq_or_imp, implies_true, forall_const, forall_eq, ↓reduceIte, reduceIte, Nat.reduceEqDiff, Nat.reduceAdd, reduceCtorEq, Nat.reduceSub, Int.reduceToNat, Int.reduceLE, Int.reduceLT, Int.reduceNeg, Nat.reduceBEq, Nat.reduceMul, Nat.reduceLeDiff, Nat.reduceMod, UInt8.reduceOfNat, Nat.reduceLT, Int.reduceEq, Int.reduceAdd, Int.reduceSub, Int.reduceMul]
  · simp -dsimp -implicitDefEqProofs only [↓Ev.xStp_eq, ↓Ev.P, Ev.Q, eq_self, forall_eq_or_imp, implies_true, forall_const, forall_eq, ↓reduceIte, reduceIte, Nat.reduceEqDiff, Nat.reduceAdd, reduceCtorEq, Nat.reduceSub, Int.reduceToNat, Int.reduceLE, Int.reduceLT, Int.reduceNeg, Nat.reduceBEq, Nat.reduceMul, Nat.reduceLeDiff, Nat.reduceMod, UInt8.reduceOfNat, Nat.reduceLT, Int.reduceEq, Int.reduceAdd, Int.reduceSub, Int.reduceMul]
    exact ⟨0, 0, 0, by omega, by omega, rfl, by omega, by omega, rfl⟩
  · rintro k st ⟨i, a, b, hi, hk2, hc, ha, hb, rfl⟩
    by_cases hil : i < l.length
    · have hg := q4Rows_get hil
      have hd := q4_drop hil
      generalize l.getD i (0, 0, 0, 0) = c at hg hd
      obtain ⟨A, AN, B, BN⟩ := c
      have hi3 : (i : Int) < l.length := by omega
      simp -dsimp -implicitDefEqProofs only [hi3, ↓Ev.P, Ev.Q, eq_self, forall_eq_or_imp, implies_true, forall_const, forall_eq, ↓reduceIte, reduceIte, Nat.reduceEqDiff, Nat.reduceAdd, reduceCtorEq, Nat.reduceSub, Int.reduceToNat, Int.reduceLE, Int.reduceLT, Int.reduceNeg, Nat.reduceBEq, Nat.reduceMul, Nat.reduceLeDiff, Nat.reduceMod, UInt8.reduceOfNat, Nat.reduceLT, Int.reduceEq, Int.reduceAdd, Int.reduceSub, Int.reduceMul]
      repeat' (first | with_reducible assumption | refine And.intro ?_ ?_ | intro _ | (rw [Ev.xStp_eq]; simp -dsimp -implicitDefEqProofs only [hg, q4Row, CCount, ↓Ev.P, Ev.Q, eq_self, forall_eq_or_imp, implies_true, forall_const, forall_eq, ↓reduceIte, reduceIte, Nat.reduceEqDiff, Nat.reduceAdd, reduceCtorEq, Nat.reduceSub, Int.reduceToNat, Int.reduceLE, Int.reduceLT, Int.reduceNeg, Nat.reduceBEq, Nat.reduceMul, Nat.reduceLeDiff, Nat.reduceMod, UInt8.reduceOfNat, Nat.reduceLT, Int.reduceEq, Int.reduceAdd, Int.reduceSub, Int.reduceMul]))
      all_goals try omega
      all_goals try (have hq := cnt4 (by assumption); omega)
      · rename_i h
        rw [hd, chkL_bad (show badC (A, AN, B, BN) from h)] at hc
        rw [chk_none hc.symm] at hk; exact hk
      · rename_i h h2
        rw [hd, chkL_out (good4 h) ?_] at hc
        · rw [chk_none hc.symm] at hk; exact hk
        · rcases h2 with (h2 | h2) | h2
          · exact .inl (.inl h2)
          · exact .inl (.inr ⟨by simp; omega, h2.2⟩)
          · exact .inr h2
      · rename_i h h2
        have hq := cnt4 h
        refine xAgain_intro (l.length - (i + 1)) [] (by omega) (by simp -dsimp -implicitDefEqProofs only [↓Ev.xStp_eq, ↓Ev.P, Ev.Q, eq_self, forall_eq_or_imp, implies_true, forall_const, forall_eq, ↓reduceIte, reduceIte, Nat.reduceEqDiff, Nat.reduceAdd, reduceCtorEq, Nat.reduceSub, Int.reduceToNat, Int.reduceLE, Int.reduceLT, Int.reduceNeg, Nat.reduceBEq, Nat.reduceMul, Nat.reduceLeDiff, Nat.reduceMod, UInt8.reduceOfNat, Nat.reduceLT, Int.reduceEq, Int.reduceAdd, Int.reduceSub, Int.reduceMul]) ⟨i + 1, A + AN, B + BN, by omega, rfl, ?_, by omega, by omega, ?_⟩
        · rw [← hc, hd, chkL_in (good4 h) ?_]
          · simp
          · rintro ((k | k) | k)
            · exact h2.1.1 k
            · obtain ⟨k1, k2⟩ := k
              simp only [decide_eq_false_iff_not] at k1
              exact h2.1.2.elim (fun e => e (by omega)) fun e => e k2
            · exact k h2.2
        · simp -dsimp -implicitDefEqProofs only [↓Ev.xStp_eq, ↓Ev.P, Ev.Q, eq_self, forall_eq_or_imp, implies_true, forall_const, forall_eq, ↓reduceIte, reduceIte, Nat.reduceEqDiff, Nat.reduceAdd, reduceCtorEq, Nat.reduceSub, Int.reduceToNat, Int.reduceLE, Int.reduceLT, Int.reduceNeg, Nat.reduceBEq, Nat.reduceMul, Nat.reduceLeDiff, Nat.reduceMod, UInt8.reduceOfNat, Nat.reduceLT, Int.reduceEq, Int.reduceAdd, Int.reduceSub, Int.reduceMul]
          rfl
    · have hi3 : ¬ (i : Int) < l.length := by omega
      simp -dsimp -implicitDefEqProofs only [hi3, ↓Ev.P, Ev.Q, eq_self, forall_eq_or_imp, implies_true, forall_const, forall_eq, ↓reduceIte, reduceIte, Nat.reduceEqDiff, Nat.reduceAdd, reduceCtorEq, Nat.reduceSub, Int.reduceToNat, Int.reduceLE, Int.reduceLT, Int.reduceNeg, Nat.reduceBEq, Nat.reduceMul, Nat.reduceLeDiff, Nat.reduceMod, UInt8.reduceOfNat, Nat.reduceLT, Int.reduceEq, Int.reduceAdd, Int.reduceSub, Int.reduceMul]
      repeat' (first | with_reducible assumption | refine And.intro ?_ ?_ | intro _ | (rw [Ev.xStp_eq]; simp -dsimp -implicitDefEqProofs only [↓Ev.P, Ev.Q, eq_self, forall_eq_or_imp, implies_true, forall_const, forall_eq, ↓reduceIte, reduceIte, Nat.reduceEqDiff, Nat.reduceAdd, reduceCtorEq, Nat.reduceSub, Int.reduceToNat, Int.reduceLE, Int.reduceLT, Int.reduceNeg, Nat.reduceBEq, Nat.reduceMul, Nat.reduceLeDiff, Nat.reduceMod, UInt8.reduceOfNat, Nat.reduceLT, Int.reduceEq, Int.reduceAdd, Int.reduceSub, Int.reduceMul]))
      all_goals try omega
      all_goals
        rename_i h
        rw [List.drop_of_length_le (by omega), chkL] at hc
        rw [chk_some hc.symm] at hk
      · rw [if_pos h] at hk; exact hk
      · rw [if_neg (by rintro ((k | k) | k); exact h.1.1 k; exact h.1.2 k; exact k h.2)] at hk; exact hk
end Go.Proofs.YtpbkdcfjlbdgfaaDoor
