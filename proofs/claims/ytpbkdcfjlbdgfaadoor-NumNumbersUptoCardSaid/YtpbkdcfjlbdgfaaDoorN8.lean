import Derived.Test.YtpbkdcfjlbdgfaaDoorN7
set_option linter.unusedVariables false
set_option linter.unusedSimpArgs false
namespace Go.Proofs.YtpbkdcfjlbdgfaaDoor
open Go Go.Ev
set_option maxRecDepth 100000
variable {G : World → Prop}
def chT (a b : List (List UInt8)) (c : Q4) : List UInt8 := changeT c.1.toNat c.2.1.toNat c.2.2.1.toNat c.2.2.2.toNat a b
def prntT (l : List Q4) (a b : List (List UInt8)) : List UInt8 := l.flatMap (chT a b)
theorem prnt_snoc {l : List Q4} {i : Nat} (a b : List (List UInt8)) (h : i < l.length) : prntT (l.take (i + 1)) a b = prntT (l.take i) a b ++ chT a b (l.getD i (0, 0, 0, 0)) := by
  rw [prntT, List.take_succ_eq_append_getElem h, List.flatMap_append]
  simp [prntT, List.getD_eq_getElem?_getD, List.getElem?_eq_getElem h]
theorem prnt_le (l : List Q4) (a b : List (List UInt8)) (i : Nat) : (prntT (l.take i) a b).length ≤ (prntT l a b).length := by
  conv => rhs; rw [← List.take_append_drop i l, prntT, List.flatMap_append, List.length_append]
  exact Nat.le_add_right _ _
/-- What holds of a change of a right script. -/
def okQ (x y : Int) (c : Q4) : Prop := ((0 ≤ c.1 ∧ c.1 ≤ 2147483647) ∧ (0 ≤ c.2.1 ∧ c.2.1 ≤ 2147483647) ∧ (0 ≤ c.2.2.1 ∧ c.2.2.1 ≤ 2147483647) ∧ (0 ≤ c.2.2.2 ∧ c.2.2.2 ≤ 2147483647) ∧ ¬ (c.2.1 = 0 ∧ c.2.2.2 = 0)) ∧ c.1 + c.2.1 ≤ x ∧ c.2.2.1 + c.2.2.2 ≤ y
theorem chkL_all : ∀ {l : List Q4} {f : Bool} {a b x y : Int}, chkL f a b l = some (x, y) → (∀ c ∈ l, okQ x y c) ∧ a ≤ x ∧ b ≤ y
  | [], f, a, b, x, y, h => by
    rw [chkL] at h
    cases h
    exact ⟨(fun c hc => by cases hc), Int.le_refl _, Int.le_refl _⟩
  | c :: r, f, a, b, x, y, h => by
    rw [chkL] at h
    split at h
    · cases h
    · rename_i h1
      split at h
      · cases h
      · rename_i h2
        obtain ⟨k1, k2, k3⟩ := chkL_all h
        have ho := okC h1
        have h3 : ¬ c.1 - a < 0 := fun e => h2 (.inl (.inl e))
        have h4 : c.1 - a = c.2.2.1 - b := Decidable.not_not.1 fun e => h2 (.inr e)
        refine ⟨fun z hz => ?_, by omega, by omega⟩
        rcases List.mem_cons.1 hz with rfl | hz
        · exact ⟨ho, k2, k3⟩
        · exact k1 z hz
theorem chk_all {l : List Q4} {n m : Int} (h : chk l n m = 0) : ∀ c ∈ l, okQ n m c := by
  unfold chk at h
  split at h
  · cases h
  · rename_i a b e
    split at h
    · cases h
    · rename_i k
      obtain ⟨k1, _, _⟩ := chkL_all e
      intro c hc
      obtain ⟨q1, q2, q3⟩ := k1 c hc
      have r1 : ¬ n < a := fun e => k (.inl (.inl e))
      have r2 : ¬ m < b := fun e => k (.inl (.inr e))
      exact ⟨q1, by omega, by omega⟩
theorem chk_zero (l : List Q4) (n m : Int) : chk l n m = 0 ∨ chk l n m = 50 := by
  unfold chk
  split
  · exact .inr rfl
  · split
    · exact .inr rfl
    · exact .inl rfl
theorem q4_mem {l : List Q4} {i : Nat} (h : i < l.length) : l.getD i (0, 0, 0, 0) ∈ l := by simp [List.getD_eq_getElem?_getD, List.getElem?_eq_getElem h]
def CPrint : Contract := pureC fun args => match args with
  | [.d (.sl rows), .d (.sl a), .d (.sl b)] => (unQ4 rows).bind fun l => (unStr a).bind fun x => (unStr b).map fun y =>
      ((l.length ≤ 1099511627776 ∧ x.length ≤ 1099511627776 ∧ y.length ≤ 1099511627776) ∧ ((∀ s ∈ x, s.length ≤ 1099511627776) ∧ (∀ s ∈ y, s.length ≤ 1099511627776)) ∧ (chk l x.length y.length = 0 → (prntT l x y).length ≤ 70368744177664),
        .tup [.d (.v (str (if chk l x.length y.length = 0 then prntT l x y else []))), .d (.v (.int .i64 (chk l x.length y.length)))])
  | _ => none
set_option maxHeartbeats 1000000 in
theorem s14 : Sound G Tryd.prog 14 CPrint := by
  refine sd14 (T := tabT [(46, CCheck), (47, C47)]) (tab_cons s46 (tab_cons s47 tab_nil)) (pureC_lawful _) (pure_hX fun args p x K h hp hk => ?_)
  split at h <;> simp only [Option.bind_eq_some_iff, Option.map_eq_some_iff, Prod.mk.injEq, reduceCtorEq] at h
  obtain ⟨l, hl, a, ha, b, hb, rfl, rfl⟩ := h
  rw [unQ4_eq hl, unStr_eq ha, unStr_eq hb] at *
  obtain ⟨⟨h1, h2, h3⟩, ⟨h4, h5⟩, h6⟩ := hp
  refine ⟨Nat.le_of_ble_eq_true rfl, ?_⟩
  rcases chk_zero l a.length b.length with hz | hz
  · have hall := chk_all hz
    have hlen := h6 hz
    rw [if_pos hz, hz] at hk
    simp -dsimp -implicitDefEqProofs only [S14, R14, CCheck, unQ4_rows, strRows_len, hz, ↓Ev.xStp_eq, ↓Ev.P, Ev.Q, eq_self, forall_eq_or_imp, implies_true, forall_const, forall_eq, ↓reduceIte, reduceIte, Nat.reduceEqDiff, Nat.reduceAdd, reduceCtorEq, Nat.reduceSub, Int.reduceToNat, Int.reduceLE, Int.reduceLT, Int.reduceNeg, Nat.reduceBEq, Nat.reduceMul, Nat.reduceLeDiff, Nat.reduceMod, UInt8.reduceOfNat, Nat.reduceLT, Int.reduceEq, Int.reduceAdd, Int.reduceSub, Int.reduceMul]
    refine ⟨by omega, ?_⟩
    refine xLoop_intro (fun k st => ∃ i : Nat, i ≤ l.length ∧ k = l.length - i ∧
      st = ⟨[(0, .d (.sl (q4Rows l))), (1, .d (.sl (strRows a))), (2, .d (.sl (strRows b))), (9, .d (.v (.string ⟨(prntT (l.take i) a b).toArray⟩))), (10, .d (.v (.int .i64 i)))], 0, []⟩) l.length [] ?_ ?_ ?_
    · simp -dsimp -implicitDefEqProofs only [↓Ev.xStp_eq, ↓Ev.P, Ev.Q, eq_self, forall_eq_or_imp, implies_true, forall_const, forall_eq, ↓reduceIte, reduceIte, Nat.reduceEqDiff, Nat.reduceAdd, reduceCtorEq, Nat.reduceSub, Int.reduceToNat, Int.reduceLE, Int.reduceLT, Int.reduceNeg, Nat.reduceBEq, Nat.reduceMul, Nat.reduceLeDiff, Nat.reduceMod, UInt8.reduceOfNat, Nat.reduceLT, Int.reduceEq, Int.reduceAdd, Int.reduceSub, Int.reduceMul]
    · simp -dsimp -implicitDefEqProofs only [↓Ev.xStp_eq, ↓Ev.P, Ev.Q, eq_self, forall_eq_or_imp, implies_true, forall_const, forall_eq, ↓reduceIte, reduceIte, Nat.reduceEqDiff, Nat.reduceAdd, reduceCtorEq, Nat.reduceSub, Int.reduceToNat, Int.reduceLE, Int.reduceLT, Int.reduceNeg, Nat.reduceBEq, Nat.reduceMul, Nat.reduceLeDiff, Nat.reduceMod, UInt8.reduceOfNat, Nat.reduceLT, Int.reduceEq, Int.reduceAdd, Int.reduceSub, Int.reduceMul]
      exact ⟨0, by omega, by omega, by simp [prntT]⟩
    · rintro k st ⟨i, hi, hk2, rfl⟩
      by_cases hil : i < l.length
      · have hi3 : (i : Int) < l.length := by omega
        have hg := q4Rows_get hil
        have hsn := prnt_snoc a b hil
        have hle := prnt_le l a b (i + 1)
        obtain ⟨⟨b1, b2, b3, b4, b5⟩, b6, b7⟩ := hall _ (q4_mem hil)
        rw [hsn, List.length_append] at hle
        generalize l.getD i (0, 0, 0, 0) = c at hg hsn hle b1 b2 b3 b4 b5 b6 b7
        obtain ⟨A, AN, B, BN⟩ := c
        have hrl : (restT A.toNat AN.toNat B.toNat BN.toNat a b).length ≤ (chT a b (A, AN, B, BN)).length := by
          unfold chT changeT
          simp only [List.length_append]; omega
        simp only at b1 b2 b3 b4 b5 b6 b7
        rw [show chT a b (A, AN, B, BN) = changeT A.toNat AN.toNat B.toNat BN.toNat a b from rfl] at hle hsn hrl
        simp -dsimp -implicitDefEqProofs only [hg, hi3, q4Rows_len, q4Row, C47, unStr_rows, List.length_append, Ev.St.giveC, ↓Ev.xStp_eq, ↓Ev.P, Ev.Q, eq_self, forall_eq_or_imp, implies_true, forall_const, forall_eq, ↓reduceIte, reduceIte, Nat.reduceEqDiff, Nat.reduceAdd, reduceCtorEq, Nat.reduceSub, Int.reduceToNat, Int.reduceLE, Int.reduceLT, Int.reduceNeg, Nat.reduceBEq, Nat.reduceMul, Nat.reduceLeDiff, Nat.reduceMod, UInt8.reduceOfNat, Nat.reduceLT, Int.reduceEq, Int.reduceAdd, Int.reduceSub, Int.reduceMul]
        repeat' (first | with_reducible assumption | refine And.intro ?_ ?_ | intro _)
        all_goals try omega
        refine xAgain_intro (l.length - (i + 1)) [] (by omega) (by simp -dsimp -implicitDefEqProofs only [↓Ev.xStp_eq, ↓Ev.P, Ev.Q, eq_self, forall_eq_or_imp, implies_true, forall_const, forall_eq, ↓reduceIte, reduceIte, Nat.reduceEqDiff, Nat.reduceAdd, reduceCtorEq, Nat.reduceSub, Int.reduceToNat, Int.reduceLE, Int.reduceLT, Int.reduceNeg, Nat.reduceBEq, Nat.reduceMul, Nat.reduceLeDiff, Nat.reduceMod, UInt8.reduceOfNat, Nat.reduceLT, Int.reduceEq, Int.reduceAdd, Int.reduceSub, Int.reduceMul]) ⟨i + 1, by omega, rfl, ?_⟩
        rw [hsn]
        simp -dsimp -implicitDefEqProofs only [↓Ev.xStp_eq, ↓Ev.P, Ev.Q, eq_self, forall_eq_or_imp, implies_true, forall_const, forall_eq, ↓reduceIte, reduceIte, Nat.reduceEqDiff, Nat.reduceAdd, reduceCtorEq, Nat.reduceSub, Int.reduceToNat, Int.reduceLE, Int.reduceLT, Int.reduceNeg, Nat.reduceBEq, Nat.reduceMul, Nat.reduceLeDiff, Nat.reduceMod, UInt8.reduceOfNat, Nat.reduceLT, Int.reduceEq, Int.reduceAdd, Int.reduceSub, Int.reduceMul]
        rfl
      · have hi3 : ¬ (i : Int) < l.length := by omega
        simp -dsimp -implicitDefEqProofs only [hi3, q4Rows_len, ↓Ev.xStp_eq, ↓Ev.P, Ev.Q, eq_self, forall_eq_or_imp, implies_true, forall_const, forall_eq, ↓reduceIte, reduceIte, Nat.reduceEqDiff, Nat.reduceAdd, reduceCtorEq, Nat.reduceSub, Int.reduceToNat, Int.reduceLE, Int.reduceLT, Int.reduceNeg, Nat.reduceBEq, Nat.reduceMul, Nat.reduceLeDiff, Nat.reduceMod, UInt8.reduceOfNat, Nat.reduceLT, Int.reduceEq, Int.reduceAdd, Int.reduceSub, Int.reduceMul]
        rw [List.take_of_length_le (by omega)]
        exact hk
  · have hz' : ¬ (50 : Int) = 0 := by omega
    rw [if_neg (by rw [hz]; exact hz'), hz] at hk
    simp -dsimp -implicitDefEqProofs only [S14, R14, CCheck, unQ4_rows, strRows_len, hz, hz', ↓Ev.xStp_eq, ↓Ev.P, Ev.Q, eq_self, forall_eq_or_imp, implies_true, forall_const, forall_eq, ↓reduceIte, reduceIte, Nat.reduceEqDiff, Nat.reduceAdd, reduceCtorEq, Nat.reduceSub, Int.reduceToNat, Int.reduceLE, Int.reduceLT, Int.reduceNeg, Nat.reduceBEq, Nat.reduceMul, Nat.reduceLeDiff, Nat.reduceMod, UInt8.reduceOfNat, Nat.reduceLT, Int.reduceEq, Int.reduceAdd, Int.reduceSub, Int.reduceMul]
    exact ⟨by omega, hk⟩
end Go.Proofs.YtpbkdcfjlbdgfaaDoor
