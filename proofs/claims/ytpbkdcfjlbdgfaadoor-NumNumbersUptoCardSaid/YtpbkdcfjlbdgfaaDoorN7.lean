import Derived.Test.YtpbkdcfjlbdgfaaDoorN6
set_option linter.unusedVariables false
set_option linter.unusedSimpArgs false
namespace Go.Proofs.YtpbkdcfjlbdgfaaDoor
open Go Go.Ev
set_option maxRecDepth 100000
variable {G : World → Prop}
/-- Some lines from a place on. -/
def part (l : List (List UInt8)) (x n : Nat) : List (List UInt8) := (l.drop x).take n
def headT (A AN B BN : Nat) : List UInt8 := if AN = 0 then Lib.itoa A ++ [97] ++ spanT B BN else if BN = 0 then spanT A AN ++ [100] ++ Lib.itoa B else spanT A AN ++ [99] ++ spanT B BN
def restT (A AN B BN : Nat) (a b : List (List UInt8)) : List UInt8 := [10] ++ allT [60, 32] (part a A AN) ++ (if 0 < AN ∧ 0 < BN then [45, 45, 45, 10] else []) ++ allT [62, 32] (part b B BN)
def changeT (A AN B BN : Nat) (a b : List (List UInt8)) : List UInt8 := headT A AN B BN ++ restT A AN B BN a b
theorem part_snoc (s : List UInt8) (l : List (List UInt8)) (x j : Nat) (h : x + j < l.length) : allT s (part l x (j + 1)) = allT s (part l x j) ++ lineT s (l.getD (x + j) []) := by
  have := all_snoc s (l.drop x) j (by simp; omega)
  rw [part, this, part]
  congr 2
  simp [List.getD_eq_getElem?_getD]
theorem part_le (s : List UInt8) (l : List (List UInt8)) (x j n : Nat) (h : j ≤ n) : (allT s (part l x j)).length ≤ (allT s (part l x n)).length := by
  have := all_le s (part l x n) j
  rwa [part, List.take_take, Nat.min_eq_left h] at this
def C47 : Contract := pureC fun args => match args with
  | [.agg [.d (.v (.int .i64 A)), .d (.v (.int .i64 AN)), .d (.v (.int .i64 B)), .d (.v (.int .i64 BN))], .d (.sl a), .d (.sl b)] => (unStr a).bind fun x => (unStr b).map fun y =>
      (((0 ≤ A ∧ A ≤ 2147483647) ∧ (0 ≤ AN ∧ AN ≤ 2147483647) ∧ (0 ≤ B ∧ B ≤ 2147483647) ∧ (0 ≤ BN ∧ BN ≤ 2147483647)) ∧ (A + AN ≤ x.length ∧ B + BN ≤ y.length) ∧ ((∀ s ∈ x, s.length ≤ 1099511627776) ∧ (∀ s ∈ y, s.length ≤ 1099511627776)) ∧ (restT A.toNat AN.toNat B.toNat BN.toNat x y).length ≤ 1125899906842624,
        .d (.v (str (changeT A.toNat AN.toNat B.toNat BN.toNat x y))))
  | _ => none
theorem mem_get {l : List (List UInt8)} {i : Nat} (h : i < l.length) : l.getD i [] ∈ l := by simp [List.getD_eq_getElem?_getD, List.getElem?_eq_getElem h]
set_option maxHeartbeats 1000000 in
theorem chg_rest {T : FuncId → Contract} (hT : T 68 = CLine) (A AN B BN : Nat) (hA : A ≤ 2147483647) (hAN : AN ≤ 2147483647) (hB : B ≤ 2147483647) (hBN : BN ≤ 2147483647) (a b : List (List UInt8)) (ha : A + AN ≤ a.length) (hb : B + BN ≤ b.length) (hla : ∀ s ∈ a, s.length ≤ 1099511627776) (hlb : ∀ s ∈ b, s.length ≤ 1099511627776)
    (hd : List UInt8) (hhd : hd.length ≤ 1000) (hlen : (restT A AN B BN a b).length ≤ 1125899906842624) (K : Out → Store → Prop) (hk : K (.ret (.d (.v (str (hd ++ restT A AN B BN a b))))) ⟨0, []⟩) :
    ∀ sl : List (Nat × SV), lk sl 1 = some (.d (.sl (strRows a))) → lk sl 2 = some (.d (.sl (strRows b))) → lk sl 3 = some (.ptr 0 0) → lk sl 7 = some (.d (.v (.string ⟨hd.toArray⟩))) →
    xv T 0 S47r3 ⟨sl, 1, [(0, .cells 74 [.d (.v (.int .i64 A)), .d (.v (.int .i64 AN)), .d (.v (.int .i64 B)), .d (.v (.int .i64 BN))])]⟩ (retK R47 0 [] K) (panK 0 [] K) := by
  intro sl q1 q2 q3 q7
  unfold restT at hlen
  simp only [List.length_append, List.length_cons, List.length_nil] at hlen
  simp -dsimp -implicitDefEqProofs only [S47r3, S47_3, S47r4, S47_4, S47r5, S47_5, S47r6, S47_6, S47r7, S47_7, S47r8, q1, q2, q3, q7, List.length_append, ↓Ev.xStp_eq, ↓Ev.P, Ev.Q, eq_self, forall_eq_or_imp, implies_true, forall_const, forall_eq, ↓reduceIte, reduceIte, Nat.reduceEqDiff, Nat.reduceAdd, reduceCtorEq, Nat.reduceSub, Int.reduceToNat, Int.reduceLE, Int.reduceLT, Int.reduceNeg, Nat.reduceBEq, Nat.reduceMul, Nat.reduceLeDiff, Nat.reduceMod, UInt8.reduceOfNat, Nat.reduceLT, Int.reduceEq, Int.reduceAdd, Int.reduceSub, Int.reduceMul]
  refine ⟨by omega, ?_⟩
  refine xLoop_intro (fun k st => ∃ j : Nat, j ≤ AN ∧ k = AN - j ∧
      st = ⟨[(1, .d (.sl (strRows a))), (2, .d (.sl (strRows b))), (3, .ptr 0 0), (7, .d (.v (.string ⟨(hd ++ [10] ++ allT [60, 32] (part a A j)).toArray⟩))), (8, .d (.v (.int .i64 (A + j : Nat))))], 1, [(0, .cells 74 [.d (.v (.int .i64 A)), .d (.v (.int .i64 AN)), .d (.v (.int .i64 B)), .d (.v (.int .i64 BN))])]⟩) AN [0] ?_ ?_ ?_
  · simp -dsimp -implicitDefEqProofs only [↓Ev.xStp_eq, ↓Ev.P, Ev.Q, eq_self, forall_eq_or_imp, implies_true, forall_const, forall_eq, ↓reduceIte, reduceIte, Nat.reduceEqDiff, Nat.reduceAdd, reduceCtorEq, Nat.reduceSub, Int.reduceToNat, Int.reduceLE, Int.reduceLT, Int.reduceNeg, Nat.reduceBEq, Nat.reduceMul, Nat.reduceLeDiff, Nat.reduceMod, UInt8.reduceOfNat, Nat.reduceLT, Int.reduceEq, Int.reduceAdd, Int.reduceSub, Int.reduceMul]
  · simp -dsimp -implicitDefEqProofs only [↓Ev.xStp_eq, ↓Ev.P, Ev.Q, eq_self, forall_eq_or_imp, implies_true, forall_const, forall_eq, ↓reduceIte, reduceIte, Nat.reduceEqDiff, Nat.reduceAdd, reduceCtorEq, Nat.reduceSub, Int.reduceToNat, Int.reduceLE, Int.reduceLT, Int.reduceNeg, Nat.reduceBEq, Nat.reduceMul, Nat.reduceLeDiff, Nat.reduceMod, UInt8.reduceOfNat, Nat.reduceLT, Int.reduceEq, Int.reduceAdd, Int.reduceSub, Int.reduceMul]
    exact ⟨0, by omega, by omega, by simp [part, allT]⟩
  · rintro k st ⟨j, hj, hk2, rfl⟩
    by_cases hjl : j < AN
    · have hi3 : ((A + j : Nat) : Int) < (A : Int) + (AN : Int) := by omega
      have hin : A + j < a.length := by omega
      have hx := hla _ (mem_get hin)
      have hg := strRows_get hin
      have hsn := part_snoc [60, 32] a A j hin
      have hle := part_le [60, 32] a A (j + 1) AN (by omega)
      rw [hsn, List.length_append] at hle
      simp -dsimp -implicitDefEqProofs only [hT, hg, hi3, CLine, List.length_append, ↓Ev.xStp_eq, ↓Ev.P, Ev.Q, eq_self, forall_eq_or_imp, implies_true, forall_const, forall_eq, ↓reduceIte, reduceIte, Nat.reduceEqDiff, Nat.reduceAdd, reduceCtorEq, Nat.reduceSub, Int.reduceToNat, Int.reduceLE, Int.reduceLT, Int.reduceNeg, Nat.reduceBEq, Nat.reduceMul, Nat.reduceLeDiff, Nat.reduceMod, UInt8.reduceOfNat, Nat.reduceLT, Int.reduceEq, Int.reduceAdd, Int.reduceSub, Int.reduceMul]
      repeat' (first | with_reducible assumption | refine And.intro ?_ ?_ | intro _)
      all_goals try omega
      refine xAgain_intro (AN - (j + 1)) [0] (by omega) (by simp -dsimp -implicitDefEqProofs only [↓Ev.xStp_eq, ↓Ev.P, Ev.Q, eq_self, forall_eq_or_imp, implies_true, forall_const, forall_eq, ↓reduceIte, reduceIte, Nat.reduceEqDiff, Nat.reduceAdd, reduceCtorEq, Nat.reduceSub, Int.reduceToNat, Int.reduceLE, Int.reduceLT, Int.reduceNeg, Nat.reduceBEq, Nat.reduceMul, Nat.reduceLeDiff, Nat.reduceMod, UInt8.reduceOfNat, Nat.reduceLT, Int.reduceEq, Int.reduceAdd, Int.reduceSub, Int.reduceMul]) ⟨j + 1, by omega, rfl, ?_⟩
      rw [hsn]
      simp -dsimp -implicitDefEqProofs only [↓Ev.xStp_eq, ↓Ev.P, Ev.Q, eq_self, forall_eq_or_imp, implies_true, forall_const, forall_eq, ↓reduceIte, reduceIte, Nat.reduceEqDiff, Nat.reduceAdd, reduceCtorEq, Nat.reduceSub, Int.reduceToNat, Int.reduceLE, Int.reduceLT, Int.reduceNeg, Nat.reduceBEq, Nat.reduceMul, Nat.reduceLeDiff, Nat.reduceMod, UInt8.reduceOfNat, Nat.reduceLT, Int.reduceEq, Int.reduceAdd, Int.reduceSub, Int.reduceMul]
      simp [Nat.add_assoc]
      omega
    · have hi3 : ¬ ((A + j : Nat) : Int) < (A : Int) + (AN : Int) := by omega
      obtain rfl : j = AN := by omega
      simp -dsimp -implicitDefEqProofs only [hi3, List.length_append, ↓Ev.xStp_eq, ↓Ev.P, Ev.Q, eq_self, forall_eq_or_imp, implies_true, forall_const, forall_eq, ↓reduceIte, reduceIte, Nat.reduceEqDiff, Nat.reduceAdd, reduceCtorEq, Nat.reduceSub, Int.reduceToNat, Int.reduceLE, Int.reduceLT, Int.reduceNeg, Nat.reduceBEq, Nat.reduceMul, Nat.reduceLeDiff, Nat.reduceMod, UInt8.reduceOfNat, Nat.reduceLT, Int.reduceEq, Int.reduceAdd, Int.reduceSub, Int.reduceMul]
      repeat' (first | with_reducible assumption | refine And.intro ?_ ?_ | intro _)
      all_goals try omega
      all_goals
        rename_i hc
        refine xLoop_intro (fun k st => ∃ i : Nat, i ≤ BN ∧ k = BN - i ∧
          st = ⟨[(2, .d (.sl (strRows b))), (3, .ptr 0 0), (7, .d (.v (.string ⟨(hd ++ [10] ++ allT [60, 32] (part a A j) ++ (if 0 < j ∧ 0 < BN then [45, 45, 45, 10] else []) ++ allT [62, 32] (part b B i)).toArray⟩))), (9, .d (.v (.int .i64 (B + i : Nat))))], 1, [(0, .cells 74 [.d (.v (.int .i64 A)), .d (.v (.int .i64 j)), .d (.v (.int .i64 B)), .d (.v (.int .i64 BN))])]⟩) BN [0] ?_ ?_ ?_
        · simp -dsimp -implicitDefEqProofs only [↓Ev.xStp_eq, ↓Ev.P, Ev.Q, eq_self, forall_eq_or_imp, implies_true, forall_const, forall_eq, ↓reduceIte, reduceIte, Nat.reduceEqDiff, Nat.reduceAdd, reduceCtorEq, Nat.reduceSub, Int.reduceToNat, Int.reduceLE, Int.reduceLT, Int.reduceNeg, Nat.reduceBEq, Nat.reduceMul, Nat.reduceLeDiff, Nat.reduceMod, UInt8.reduceOfNat, Nat.reduceLT, Int.reduceEq, Int.reduceAdd, Int.reduceSub, Int.reduceMul]
        · simp -dsimp -implicitDefEqProofs only [↓Ev.xStp_eq, ↓Ev.P, Ev.Q, eq_self, forall_eq_or_imp, implies_true, forall_const, forall_eq, ↓reduceIte, reduceIte, Nat.reduceEqDiff, Nat.reduceAdd, reduceCtorEq, Nat.reduceSub, Int.reduceToNat, Int.reduceLE, Int.reduceLT, Int.reduceNeg, Nat.reduceBEq, Nat.reduceMul, Nat.reduceLeDiff, Nat.reduceMod, UInt8.reduceOfNat, Nat.reduceLT, Int.reduceEq, Int.reduceAdd, Int.reduceSub, Int.reduceMul]
          refine ⟨0, by omega, by omega, ?_⟩
          first | rw [if_pos (by omega)] | rw [if_neg (by omega)]
          simp [part, allT]
        · rintro k st ⟨i, hi, hk3, rfl⟩
          clear hi3
          by_cases hil : i < BN
          · have hi3 : ((B + i : Nat) : Int) < (B : Int) + (BN : Int) := by omega
            have hin : B + i < b.length := by omega
            have hx := hlb _ (mem_get hin)
            have hg := strRows_get hin
            have hsn := part_snoc [62, 32] b B i hin
            have hle := part_le [62, 32] b B (i + 1) BN (by omega)
            rw [hsn, List.length_append] at hle
            simp -dsimp -implicitDefEqProofs only [hT, hg, hi3, CLine, List.length_append, ↓Ev.xStp_eq, ↓Ev.P, Ev.Q, eq_self, forall_eq_or_imp, implies_true, forall_const, forall_eq, ↓reduceIte, reduceIte, Nat.reduceEqDiff, Nat.reduceAdd, reduceCtorEq, Nat.reduceSub, Int.reduceToNat, Int.reduceLE, Int.reduceLT, Int.reduceNeg, Nat.reduceBEq, Nat.reduceMul, Nat.reduceLeDiff, Nat.reduceMod, UInt8.reduceOfNat, Nat.reduceLT, Int.reduceEq, Int.reduceAdd, Int.reduceSub, Int.reduceMul]
            repeat' (first | with_reducible assumption | refine And.intro ?_ ?_ | intro _)
            all_goals try omega
            refine xAgain_intro (BN - (i + 1)) [0] (by omega) (by simp -dsimp -implicitDefEqProofs only [↓Ev.xStp_eq, ↓Ev.P, Ev.Q, eq_self, forall_eq_or_imp, implies_true, forall_const, forall_eq, ↓reduceIte, reduceIte, Nat.reduceEqDiff, Nat.reduceAdd, reduceCtorEq, Nat.reduceSub, Int.reduceToNat, Int.reduceLE, Int.reduceLT, Int.reduceNeg, Nat.reduceBEq, Nat.reduceMul, Nat.reduceLeDiff, Nat.reduceMod, UInt8.reduceOfNat, Nat.reduceLT, Int.reduceEq, Int.reduceAdd, Int.reduceSub, Int.reduceMul]) ⟨i + 1, by omega, rfl, ?_⟩
            rw [hsn]
            simp -dsimp -implicitDefEqProofs only [↓Ev.xStp_eq, ↓Ev.P, Ev.Q, eq_self, forall_eq_or_imp, implies_true, forall_const, forall_eq, ↓reduceIte, reduceIte, Nat.reduceEqDiff, Nat.reduceAdd, reduceCtorEq, Nat.reduceSub, Int.reduceToNat, Int.reduceLE, Int.reduceLT, Int.reduceNeg, Nat.reduceBEq, Nat.reduceMul, Nat.reduceLeDiff, Nat.reduceMod, UInt8.reduceOfNat, Nat.reduceLT, Int.reduceEq, Int.reduceAdd, Int.reduceSub, Int.reduceMul]
            simp [Nat.add_assoc]
            omega
          · have hi3 : ¬ ((B + i : Nat) : Int) < (B : Int) + (BN : Int) := by omega
            obtain rfl : i = BN := by omega
            simp -dsimp -implicitDefEqProofs only [hi3, R47, ↓Ev.xStp_eq, ↓Ev.P, Ev.Q, eq_self, forall_eq_or_imp, implies_true, forall_const, forall_eq, ↓reduceIte, reduceIte, Nat.reduceEqDiff, Nat.reduceAdd, reduceCtorEq, Nat.reduceSub, Int.reduceToNat, Int.reduceLE, Int.reduceLT, Int.reduceNeg, Nat.reduceBEq, Nat.reduceMul, Nat.reduceLeDiff, Nat.reduceMod, UInt8.reduceOfNat, Nat.reduceLT, Int.reduceEq, Int.reduceAdd, Int.reduceSub, Int.reduceMul]
            unfold restT at hk
            simp only [sem_str] at hk
            rw [show hd ++ ([10] ++ allT [60, 32] (part a A j) ++ (if 0 < j ∧ 0 < i then [45, 45, 45, 10] else []) ++ allT [62, 32] (part b B i)) = hd ++ [10] ++ allT [60, 32] (part a A j) ++ (if 0 < j ∧ 0 < i then [45, 45, 45, 10] else []) ++ allT [62, 32] (part b B i) by simp] at hk
            exact ⟨by omega, hk⟩
theorem head_len {A AN B BN : Nat} (hA : A ≤ 2147483647) (hAN : AN ≤ 2147483647) (hB : B ≤ 2147483647) (hBN : BN ≤ 2147483647) : (headT A AN B BN).length ≤ 90 := by
  have h1 := span_len (a := A) (n := AN) (by omega)
  have h2 := span_len (a := B) (n := BN) (by omega)
  have h3 := itoa_len (n := A) (by omega)
  have h4 := itoa_len (n := B) (by omega)
  unfold headT
  split
  · simp only [List.length_append, List.length_cons, List.length_nil]; omega
  · split <;> simp only [List.length_append, List.length_cons, List.length_nil] <;> omega
set_option maxHeartbeats 1000000 in
theorem s47 : Sound G Tryd.prog 47 C47 := by
  refine sd47 (T := tabT [(33, CItoa), (60, CSpan), (68, CLine)]) (tab_cons s33 (tab_cons s60 (tab_cons s68 tab_nil))) (pureC_lawful _) (pure_hX fun args p x K h hp hk => ?_)
  split at h <;> simp only [Option.bind_eq_some_iff, Option.map_eq_some_iff, Prod.mk.injEq, reduceCtorEq] at h
  obtain ⟨a, ha, b, hb, rfl, rfl⟩ := h
  rename_i A AN B BN _ _
  rw [unStr_eq ha, unStr_eq hb] at *
  obtain ⟨⟨hA, hAN, hB, hBN⟩, ⟨h1, h2⟩, ⟨h3, h4⟩, h5⟩ := hp
  obtain ⟨A, rfl⟩ := Int.eq_ofNat_of_zero_le hA.1
  obtain ⟨AN, rfl⟩ := Int.eq_ofNat_of_zero_le hAN.1
  obtain ⟨B, rfl⟩ := Int.eq_ofNat_of_zero_le hB.1
  obtain ⟨BN, rfl⟩ := Int.eq_ofNat_of_zero_le hBN.1
  simp only [Int.toNat_natCast] at h5 hk
  refine ⟨Nat.le_of_ble_eq_true rfl, ?_⟩
  have hhl := head_len (A := A) (AN := AN) (B := B) (BN := BN) (by omega) (by omega) (by omega) (by omega)
  have rest := chg_rest (T := tabT [(33, CItoa), (60, CSpan), (68, CLine)]) rfl A AN B BN (by omega) (by omega) (by omega) (by omega) a b (by omega) (by omega) h3 h4 (headT A AN B BN) (by omega) h5 K hk
  have g1 := span_len (a := A) (n := AN) (by omega)
  have g2 := span_len (a := B) (n := BN) (by omega)
  have g3 := itoa_len (n := A) (by omega)
  have g4 := itoa_len (n := B) (by omega)
  by_cases hz : AN = 0
  · rw [show headT A AN B BN = Lib.itoa A ++ [97] ++ spanT B BN by rw [headT, if_pos hz]] at rest
    subst hz
    simp -dsimp -implicitDefEqProofs only [S47, S47_0, S47r1, S47_1, S47r2, S47_2, CItoa, CSpan, List.length_append, ↓Ev.xStp_eq, ↓Ev.P, Ev.Q, eq_self, forall_eq_or_imp, implies_true, forall_const, forall_eq, ↓reduceIte, reduceIte, Nat.reduceEqDiff, Nat.reduceAdd, reduceCtorEq, Nat.reduceSub, Int.reduceToNat, Int.reduceLE, Int.reduceLT, Int.reduceNeg, Nat.reduceBEq, Nat.reduceMul, Nat.reduceLeDiff, Nat.reduceMod, UInt8.reduceOfNat, Nat.reduceLT, Int.reduceEq, Int.reduceAdd, Int.reduceSub, Int.reduceMul]
    repeat' (first | with_reducible assumption | refine And.intro ?_ ?_ | intro _)
    all_goals first | omega | skip
    exact rest _ rfl rfl rfl rfl
  · by_cases hz2 : BN = 0
    · rw [show headT A AN B BN = spanT A AN ++ [100] ++ Lib.itoa B by rw [headT, if_neg hz, if_pos hz2]] at rest
      subst hz2
      have hz' : ¬ (AN : Int) = 0 := by omega
      simp -dsimp -implicitDefEqProofs only [S47, S47_0, S47r1, S47_1, S47r2, S47_2, CItoa, CSpan, hz', List.length_append, ↓Ev.xStp_eq, ↓Ev.P, Ev.Q, eq_self, forall_eq_or_imp, implies_true, forall_const, forall_eq, ↓reduceIte, reduceIte, Nat.reduceEqDiff, Nat.reduceAdd, reduceCtorEq, Nat.reduceSub, Int.reduceToNat, Int.reduceLE, Int.reduceLT, Int.reduceNeg, Nat.reduceBEq, Nat.reduceMul, Nat.reduceLeDiff, Nat.reduceMod, UInt8.reduceOfNat, Nat.reduceLT, Int.reduceEq, Int.reduceAdd, Int.reduceSub, Int.reduceMul]
      repeat' (first | with_reducible assumption | refine And.intro ?_ ?_ | intro _)
      all_goals first | omega | skip
      skip
      exact rest _ rfl rfl rfl rfl
    · rw [show headT A AN B BN = spanT A AN ++ [99] ++ spanT B BN by rw [headT, if_neg hz, if_neg hz2]] at rest
      have hz' : ¬ (AN : Int) = 0 := by omega
      have hz2' : ¬ (BN : Int) = 0 := by omega
      simp -dsimp -implicitDefEqProofs only [S47, S47_0, S47r1, S47_1, S47r2, S47_2, CItoa, CSpan, hz', hz2', List.length_append, ↓Ev.xStp_eq, ↓Ev.P, Ev.Q, eq_self, forall_eq_or_imp, implies_true, forall_const, forall_eq, ↓reduceIte, reduceIte, Nat.reduceEqDiff, Nat.reduceAdd, reduceCtorEq, Nat.reduceSub, Int.reduceToNat, Int.reduceLE, Int.reduceLT, Int.reduceNeg, Nat.reduceBEq, Nat.reduceMul, Nat.reduceLeDiff, Nat.reduceMod, UInt8.reduceOfNat, Nat.reduceLT, Int.reduceEq, Int.reduceAdd, Int.reduceSub, Int.reduceMul]
      repeat' (first | with_reducible assumption | refine And.intro ?_ ?_ | intro _)
      all_goals first | omega | skip
      skip
      exact rest _ rfl rfl rfl rfl
end Go.Proofs.YtpbkdcfjlbdgfaaDoor
