/- NumBack: what was written is read again, for every input; the form of up to 1048576 values. Part 4 of 4. -/
import Derived.SliceStrings
import Derived.Lib.LaidTab
import Derived.Below
import Derived.ChangeSame
import Derived.ProofKit
import Derived.OpenShut
import Derived.Test.YtpbkdcfjlbdgfaaDoorRows
import Derived.WalkKit
import Derived.Deep.Slices
import Derived.Deep.Fields
import Derived.Test.YtpbkdcfjlbdgfaaDoorCards
import Derived.Test.YtpbkdcfjlbdgfaaDoorTie
import Derived.JoinedCond
import Derived.Deep.DeepHandedRow
import Derived.Deep.DeepWitnessRowRef
import Derived.Stop.LaidErr
import Derived.Lib.LaidIn
import Derived.Test.YtpbkdcfjlbdgfaaDoorNumBackM1
import Derived.Test.YtpbkdcfjlbdgfaaDoorNumBackM2
import Derived.Test.YtpbkdcfjlbdgfaaDoorNumBackM3
set_option linter.unusedVariables false
set_option linter.unusedSimpArgs false
namespace Go.Proofs.YtpbkdcfjlbdgfaaDoor
open Go Go.Ev
set_option maxRecDepth 100000
variable {G : World → Prop}
/-- Some lines from a place on. -/
def part (l : List (List UInt8)) (x n : Nat) : List (List UInt8) := (l.drop x).take n
def headT (A AN B BN : Nat) : List UInt8 := if AN = 0 then Lib.itoa A ++ [97] ++ spanT B BN else if BN = 0 then spanT A AN ++ [100] ++ Lib.itoa B else spanT A AN ++ [99] ++ spanT B BN
def restT (A AN B BN : Nat) (a b : List (List UInt8)) : List UInt8 := [10] ++ allT [60, 32] (part a A AN) ++ (if 0 < AN ∧ 0 < BN then [45, 45, 45, 10] else []) ++ allT [62, 32] (part b B BN)
def changeT (A AN B BN : Nat) (a b : List (List UInt8)) : List UInt8 := headT A AN B BN ++ restT A AN B BN a b
theorem part_snoc (s : List UInt8) (l : List (List UInt8)) (x j : Nat) (h : x + j < l.length) : allT s (part l x (j + 1)) = allT s (part l x j) ++ lineT s (l.getD (x + j) []) := by
  have := all_snoc s (l.drop x) j (by simp; omega)
  rw [part, this, part]
  congr 2
  simp [List.getD_eq_getElem?_getD]
theorem part_le (s : List UInt8) (l : List (List UInt8)) (x j n : Nat) (h : j ≤ n) : (allT s (part l x j)).length ≤ (allT s (part l x n)).length := by
  have := all_le s (part l x n) j
  rwa [part, List.take_take, Nat.min_eq_left h] at this
def C47 : Contract := pureC fun args => match args with
  | [.agg [.d (.v (.int .i64 A)), .d (.v (.int .i64 AN)), .d (.v (.int .i64 B)), .d (.v (.int .i64 BN))], .d (.sl a), .d (.sl b)] => (unStr a).bind fun x => (unStr b).map fun y =>
      (((0 ≤ A ∧ A ≤ 2147483647) ∧ (0 ≤ AN ∧ AN ≤ 2147483647) ∧ (0 ≤ B ∧ B ≤ 2147483647) ∧ (0 ≤ BN ∧ BN ≤ 2147483647)) ∧ (A + AN ≤ x.length ∧ B + BN ≤ y.length) ∧ ((∀ s ∈ x, s.length ≤ 1099511627776) ∧ (∀ s ∈ y, s.length ≤ 1099511627776)) ∧ (restT A.toNat AN.toNat B.toNat BN.toNat x y).length ≤ 1125899906842624,
        .d (.v (str (changeT A.toNat AN.toNat B.toNat BN.toNat x y))))
  | _ => none
theorem mem_get {l : List (List UInt8)} {i : Nat} (h : i < l.length) : l.getD i [] ∈ l := by simp [List.getD_eq_getElem?_getD, List.getElem?_eq_getElem h]
set_option maxHeartbeats 1000000 in
theorem chg_rest {T : FuncId → Contract} (hT : T 68 = CLine) (A AN B BN : Nat) (hA : A ≤ 2147483647) (hAN : AN ≤ 2147483647) (hB : B ≤ 2147483647) (hBN : BN ≤ 2147483647) (a b : List (List UInt8)) (ha : A + AN ≤ a.length) (hb : B + BN ≤ b.length) (hla : ∀ s ∈ a, s.length ≤ 1099511627776) (hlb : ∀ s ∈ b, s.length ≤ 1099511627776)
    (hd : List UInt8) (hhd : hd.length ≤ 1000) (hlen : (restT A AN B BN a b).length ≤ 1125899906842624) (K : Out → Store → Prop) (hk : K (.ret (.d (.v (str (hd ++ restT A AN B BN a b))))) ⟨0, []⟩) :
    ∀ sl : List (Nat × SV), lk sl 1 = some (.d (.sl (strRows a))) → lk sl 2 = some (.d (.sl (strRows b))) → lk sl 3 = some (.ptr 0 0) → lk sl 7 = some (.d (.v (.string ⟨hd.toArray⟩))) →
    xv T 0 S47r3 ⟨sl, 1, [(0, .cells 74 [.d (.v (.int .i64 A)), .d (.v (.int .i64 AN)), .d (.v (.int .i64 B)), .d (.v (.int .i64 BN))])]⟩ (retK R47 0 [] K) (panK 0 [] K) := by
  intro sl q1 q2 q3 q7
  unfold restT at hlen
  simp only [List.length_append, List.length_cons, List.length_nil] at hlen
  simp -dsimp -implicitDefEqProofs only [S47r3, S47_3, S47r4, S47_4, S47r5, S47_5, S47r6, S47_6, S47r7, S47_7, S47r8, q1, q2, q3, q7, List.length_append, ↓Ev.xStp_eq, ↓Ev.P, Ev.Q, eq_self, forall_eq_or_imp, implies_true, forall_const, forall_eq, ↓reduceIte, reduceIte, Nat.reduceEqDiff, Nat.reduceAdd, reduceCtorEq, Nat.reduceSub, Int.reduceToNat, Int.reduceLE, Int.reduceLT, Int.reduceNeg, Nat.reduceBEq, Nat.reduceMul, Nat.reduceLeDiff, Nat.reduceMod, UInt8.reduceOfNat, Nat.reduceLT, Int.reduceEq, Int.reduceAdd, Int.reduceSub, Int.reduceMul]
  refine ⟨by omega, ?_⟩
  refine xLoop_intro (fun k st => ∃ j : Nat, j ≤ AN ∧ k = AN - j ∧
      st = ⟨[(1, .d (.sl (strRows a))), (2, .d (.sl (strRows b))), (3, .ptr 0 0), (7, .d (.v (.string ⟨(hd ++ [10] ++ allT [60, 32] (part a A j)).toArray⟩))), (8, .d (.v (.int .i64 (A + j : Nat))))], 1, [(0, .cells 74 [.d (.v (.int .i64 A)), .d (.v (.int .i64 AN)), .d (.v (.int .i64 B)), .d (.v (.int .i64 BN))])]⟩) AN [0] ?_ ?_ ?_
  · simp -dsimp -implicitDefEqProofs only [↓Ev.xStp_eq, ↓Ev.P, Ev.Q, eq_self, forall_eq_or_imp, implies_true, forall_const, forall_eq, ↓reduceIte, reduceIte, Nat.reduceEqDiff, Nat.reduceAdd, reduceCtorEq, Nat.reduceSub, Int.reduceToNat, Int.reduceLE, Int.reduceLT, Int.reduceNeg, Nat.reduceBEq, Nat.reduceMul, Nat.reduceLeDiff, Nat.reduceMod, UInt8.reduceOfNat, Nat.reduceLT, Int.reduceEq, Int.reduceAdd, Int.reduceSub, Int.reduceMul]
  · simp -dsimp -implicitDefEqProofs only [↓Ev.xStp_eq, ↓Ev.P, Ev.Q, eq_self, forall_eq_or_imp, implies_true, forall_const, forall_eq, ↓reduceIte, reduceIte, Nat.reduceEqDiff, Nat.reduceAdd, reduceCtorEq, Nat.reduceSub, Int.reduceToNat, Int.reduceLE, Int.reduceLT, Int.reduceNeg, Nat.reduceBEq, Nat.reduceMul, Nat.reduceLeDiff, Nat.reduceMod, UInt8.reduceOfNat, Nat.reduceLT, Int.reduceEq, Int.reduceAdd, Int.reduceSub, Int.reduceMul]
    exact ⟨0, by omega, by omega, by simp [part, allT]⟩
  · rintro k st ⟨j, hj, hk2, rfl⟩
    by_cases hjl : j < AN
    · have hi3 : ((A + j : Nat) : Int) < (A : Int) + (AN : Int) := by omega
      have hin : A + j < a.length := by omega
      have hx := hla _ (mem_get hin)
      have hg := strRows_get hin
      have hsn := part_snoc [60, 32] a A j hin
      have hle := part_le [60, 32] a A (j + 1) AN (by omega)
      rw [hsn, List.length_append] at hle
      simp -dsimp -implicitDefEqProofs only [hT, hg, hi3, CLine, List.length_append, ↓Ev.xStp_eq, ↓Ev.P, Ev.Q, eq_self, forall_eq_or_imp, implies_true, forall_const, forall_eq, ↓reduceIte, reduceIte, Nat.reduceEqDiff, Nat.reduceAdd, reduceCtorEq, Nat.reduceSub, Int.reduceToNat, Int.reduceLE, Int.reduceLT, Int.reduceNeg, Nat.reduceBEq, Nat.reduceMul, Nat.reduceLeDiff, Nat.reduceMod, UInt8.reduceOfNat, Nat.reduceLT, Int.reduceEq, Int.reduceAdd, Int.reduceSub, Int.reduceMul]
      repeat' (first | with_reducible assumption | refine And.intro ?_ ?_ | intro _)
      all_goals try omega
      refine xAgain_intro (AN - (j + 1)) [0] (by omega) (by simp -dsimp -implicitDefEqProofs only [↓Ev.xStp_eq, ↓Ev.P, Ev.Q, eq_self, forall_eq_or_imp, implies_true, forall_const, forall_eq, ↓reduceIte, reduceIte, Nat.reduceEqDiff, Nat.reduceAdd, reduceCtorEq, Nat.reduceSub, Int.reduceToNat, Int.reduceLE, Int.reduceLT, Int.reduceNeg, Nat.reduceBEq, Nat.reduceMul, Nat.reduceLeDiff, Nat.reduceMod, UInt8.reduceOfNat, Nat.reduceLT, Int.reduceEq, Int.reduceAdd, Int.reduceSub, Int.reduceMul]) ⟨j + 1, by omega, rfl, ?_⟩
      rw [hsn]
      simp -dsimp -implicitDefEqProofs only [↓Ev.xStp_eq, ↓Ev.P, Ev.Q, eq_self, forall_eq_or_imp, implies_true, forall_const, forall_eq, ↓reduceIte, reduceIte, Nat.reduceEqDiff, Nat.reduceAdd, reduceCtorEq, Nat.reduceSub, Int.reduceToNat, Int.reduceLE, Int.reduceLT, Int.reduceNeg, Nat.reduceBEq, Nat.reduceMul, Nat.reduceLeDiff, Nat.reduceMod, UInt8.reduceOfNat, Nat.reduceLT, Int.reduceEq, Int.reduceAdd, Int.reduceSub, Int.reduceMul]
      simp [Nat.add_assoc]
      omega
    · have hi3 : ¬ ((A + j : Nat) : Int) < (A : Int) + (AN : Int) := by omega
      obtain rfl : j = AN := by omega
      simp -dsimp -implicitDefEqProofs only [hi3, List.length_append, ↓Ev.xStp_eq, ↓Ev.P, Ev.Q, eq_self, forall_eq_or_imp, implies_true, forall_const, forall_eq, ↓reduceIte, reduceIte, Nat.reduceEqDiff, Nat.reduceAdd, reduceCtorEq, Nat.reduceSub, Int.reduceToNat, Int.reduceLE, Int.reduceLT, Int.reduceNeg, Nat.reduceBEq, Nat.reduceMul, Nat.reduceLeDiff, Nat.reduceMod, UInt8.reduceOfNat, Nat.reduceLT, Int.reduceEq, Int.reduceAdd, Int.reduceSub, Int.reduceMul]
      repeat' (first | with_reducible assumption | refine And.intro ?_ ?_ | intro _)
      all_goals try omega
      all_goals
        rename_i hc
        refine xLoop_intro (fun k st => ∃ i : Nat, i ≤ BN ∧ k = BN - i ∧
          st = ⟨[(2, .d (.sl (strRows b))), (3, .ptr 0 0), (7, .d (.v (.string ⟨(hd ++ [10] ++ allT [60, 32] (part a A j) ++ (if 0 < j ∧ 0 < BN then [45, 45, 45, 10] else []) ++ allT [62, 32] (part b B i)).toArray⟩))), (9, .d (.v (.int .i64 (B + i : Nat))))], 1, [(0, .cells 74 [.d (.v (.int .i64 A)), .d (.v (.int .i64 j)), .d (.v (.int .i64 B)), .d (.v (.int .i64 BN))])]⟩) BN [0] ?_ ?_ ?_
        · simp -dsimp -implicitDefEqProofs only [↓Ev.xStp_eq, ↓Ev.P, Ev.Q, eq_self, forall_eq_or_imp, implies_true, forall_const, forall_eq, ↓reduceIte, reduceIte, Nat.reduceEqDiff, Nat.reduceAdd, reduceCtorEq, Nat.reduceSub, Int.reduceToNat, Int.reduceLE, Int.reduceLT, Int.reduceNeg, Nat.reduceBEq, Nat.reduceMul, Nat.reduceLeDiff, Nat.reduceMod, UInt8.reduceOfNat, Nat.reduceLT, Int.reduceEq, Int.reduceAdd, Int.reduceSub, Int.reduceMul]
        · simp -dsimp -implicitDefEqProofs only [↓Ev.xStp_eq, ↓Ev.P, Ev.Q, eq_self, forall_eq_or_imp, implies_true, forall_const, forall_eq, ↓reduceIte, reduceIte, Nat.reduceEqDiff, Nat.reduceAdd, reduceCtorEq, Nat.reduceSub, Int.reduceToNat, Int.reduceLE, Int.reduceLT, Int.reduceNeg, Nat.reduceBEq, Nat.reduceMul, Nat.reduceLeDiff, Nat.reduceMod, UInt8.reduceOfNat, Nat.reduceLT, Int.reduceEq, Int.reduceAdd, Int.reduceSub, Int.reduceMul]
          refine ⟨0, by omega, by omega, ?_⟩
          first | rw [if_pos (by omega)] | rw [if_neg (by omega)]
          simp [part, allT]
        · rintro k st ⟨i, hi, hk3, rfl⟩
          clear hi3
          by_cases hil : i < BN
          · have hi3 : ((B + i : Nat) : Int) < (B : Int) + (BN : Int) := by omega
            have hin : B + i < b.length := by omega
            have hx := hlb _ (mem_get hin)
            have hg := strRows_get hin
            have hsn := part_snoc [62, 32] b B i hin
            have hle := part_le [62, 32] b B (i + 1) BN (by omega)
            rw [hsn, List.length_append] at hle
            simp -dsimp -implicitDefEqProofs only [hT, hg, hi3, CLine, List.length_append, ↓Ev.xStp_eq, ↓Ev.P, Ev.Q, eq_self, forall_eq_or_imp, implies_true, forall_const, forall_eq, ↓reduceIte, reduceIte, Nat.reduceEqDiff, Nat.reduceAdd, reduceCtorEq, Nat.reduceSub, Int.reduceToNat, Int.reduceLE, Int.reduceLT, Int.reduceNeg, Nat.reduceBEq, Nat.reduceMul, Nat.reduceLeDiff, Nat.reduceMod, UInt8.reduceOfNat, Nat.reduceLT, Int.reduceEq, Int.reduceAdd, Int.reduceSub, Int.reduceMul]
            repeat' (first | with_reducible assumption | refine And.intro ?_ ?_ | intro _)
            all_goals try omega
            refine xAgain_intro (BN - (i + 1)) [0] (by omega) (by simp -dsimp -implicitDefEqProofs only [↓Ev.xStp_eq, ↓Ev.P, Ev.Q, eq_self, forall_eq_or_imp, implies_true, forall_const, forall_eq, ↓reduceIte, reduceIte, Nat.reduceEqDiff, Nat.reduceAdd, reduceCtorEq, Nat.reduceSub, Int.reduceToNat, Int.reduceLE, Int.reduceLT, Int.reduceNeg, Nat.reduceBEq, Nat.reduceMul, Nat.reduceLeDiff, Nat.reduceMod, UInt8.reduceOfNat, Nat.reduceLT, Int.reduceEq, Int.reduceAdd, Int.reduceSub, Int.reduceMul]) ⟨i + 1, by omega, rfl, ?_⟩
            rw [hsn]
            simp -dsimp -implicitDefEqProofs only [↓Ev.xStp_eq, ↓Ev.P, Ev.Q, eq_self, forall_eq_or_imp, implies_true, forall_const, forall_eq, ↓reduceIte, reduceIte, Nat.reduceEqDiff, Nat.reduceAdd, reduceCtorEq, Nat.reduceSub, Int.reduceToNat, Int.reduceLE, Int.reduceLT, Int.reduceNeg, Nat.reduceBEq, Nat.reduceMul, Nat.reduceLeDiff, Nat.reduceMod, UInt8.reduceOfNat, Nat.reduceLT, Int.reduceEq, Int.reduceAdd, Int.reduceSub, Int.reduceMul]
            simp [Nat.add_assoc]
            omega
          · have hi3 : ¬ ((B + i : Nat) : Int) < (B : Int) + (BN : Int) := by omega
            obtain rfl : i = BN := by omega
            simp -dsimp -implicitDefEqProofs only [hi3, R47, ↓Ev.xStp_eq, ↓Ev.P, Ev.Q, eq_self, forall_eq_or_imp, implies_true, forall_const, forall_eq, ↓reduceIte, reduceIte, Nat.reduceEqDiff, Nat.reduceAdd, reduceCtorEq, Nat.reduceSub, Int.reduceToNat, Int.reduceLE, Int.reduceLT, Int.reduceNeg, Nat.reduceBEq, Nat.reduceMul, Nat.reduceLeDiff, Nat.reduceMod, UInt8.reduceOfNat, Nat.reduceLT, Int.reduceEq, Int.reduceAdd, Int.reduceSub, Int.reduceMul]
            unfold restT at hk
            simp only [sem_str] at hk
            rw [show hd ++ ([10] ++ allT [60, 32] (part a A j) ++ (if 0 < j ∧ 0 < i then [45, 45, 45, 10] else []) ++ allT [62, 32] (part b B i)) = hd ++ [10] ++ allT [60, 32] (part a A j) ++ (if 0 < j ∧ 0 < i then [45, 45, 45, 10] else []) ++ allT [62, 32] (part b B i) by simp] at hk
            exact ⟨by omega, hk⟩
theorem head_len {A AN B BN : Nat} (hA : A ≤ 2147483647) (hAN : AN ≤ 2147483647) (hB : B ≤ 2147483647) (hBN : BN ≤ 2147483647) : (headT A AN B BN).length ≤ 90 := by
  have h1 := span_len (a := A) (n := AN) (by omega)
  have h2 := span_len (a := B) (n := BN) (by omega)
  have h3 := itoa_len (n := A) (by omega)
  have h4 := itoa_len (n := B) (by omega)
  unfold headT
  split
  · simp only [List.length_append, List.length_cons, List.length_nil]; omega
  · split <;> simp only [List.length_append, List.length_cons, List.length_nil] <;> omega
set_option maxHeartbeats 1000000 in
theorem s47 : Sound G Tryd.prog 47 C47 := by
  refine sd47 (T := tabT [(33, CItoa), (60, CSpan), (68, CLine)]) (tab_cons s33 (tab_cons s60 (tab_cons s68 tab_nil))) (pureC_lawful _) (pure_hX fun args p x K h hp hk => ?_)
  split at h <;> simp only [Option.bind_eq_some_iff, Option.map_eq_some_iff, Prod.mk.injEq, reduceCtorEq] at h
  obtain ⟨a, ha, b, hb, rfl, rfl⟩ := h
  rename_i A AN B BN _ _
  rw [unStr_eq ha, unStr_eq hb] at *
  obtain ⟨⟨hA, hAN, hB, hBN⟩, ⟨h1, h2⟩, ⟨h3, h4⟩, h5⟩ := hp
  obtain ⟨A, rfl⟩ := Int.eq_ofNat_of_zero_le hA.1
  obtain ⟨AN, rfl⟩ := Int.eq_ofNat_of_zero_le hAN.1
  obtain ⟨B, rfl⟩ := Int.eq_ofNat_of_zero_le hB.1
  obtain ⟨BN, rfl⟩ := Int.eq_ofNat_of_zero_le hBN.1
  simp only [Int.toNat_natCast] at h5 hk
  refine ⟨Nat.le_of_ble_eq_true rfl, ?_⟩
  have hhl := head_len (A := A) (AN := AN) (B := B) (BN := BN) (by omega) (by omega) (by omega) (by omega)
  have rest := chg_rest (T := tabT [(33, CItoa), (60, CSpan), (68, CLine)]) rfl A AN B BN (by omega) (by omega) (by omega) (by omega) a b (by omega) (by omega) h3 h4 (headT A AN B BN) (by omega) h5 K hk
  have g1 := span_len (a := A) (n := AN) (by omega)
  have g2 := span_len (a := B) (n := BN) (by omega)
  have g3 := itoa_len (n := A) (by omega)
  have g4 := itoa_len (n := B) (by omega)
  by_cases hz : AN = 0
  · rw [show headT A AN B BN = Lib.itoa A ++ [97] ++ spanT B BN by rw [headT, if_pos hz]] at rest
    subst hz
    simp -dsimp -implicitDefEqProofs only [S47, S47_0, S47r1, S47_1, S47r2, S47_2, CItoa, CSpan, List.length_append, ↓Ev.xStp_eq, ↓Ev.P, Ev.Q, eq_self, forall_eq_or_imp, implies_true, forall_const, forall_eq, ↓reduceIte, reduceIte, Nat.reduceEqDiff, Nat.reduceAdd, reduceCtorEq, Nat.reduceSub, Int.reduceToNat, Int.reduceLE, Int.reduceLT, Int.reduceNeg, Nat.reduceBEq, Nat.reduceMul, Nat.reduceLeDiff, Nat.reduceMod, UInt8.reduceOfNat, Nat.reduceLT, Int.reduceEq, Int.reduceAdd, Int.reduceSub, Int.reduceMul]
    repeat' (first | with_reducible assumption | refine And.intro ?_ ?_ | intro _)
    all_goals first | omega | skip
    exact rest _ rfl rfl rfl rfl
  · by_cases hz2 : BN = 0
    · rw [show headT A AN B BN = spanT A AN ++ [100] ++ Lib.itoa B by rw [headT, if_neg hz, if_pos hz2]] at rest
      subst hz2
      have hz' : ¬ (AN : Int) = 0 := by omega
      simp -dsimp -implicitDefEqProofs only [S47, S47_0, S47r1, S47_1, S47r2, S47_2, CItoa, CSpan, hz', List.length_append, ↓Ev.xStp_eq, ↓Ev.P, Ev.Q, eq_self, forall_eq_or_imp, implies_true, forall_const, forall_eq, ↓reduceIte, reduceIte, Nat.reduceEqDiff, Nat.reduceAdd, reduceCtorEq, Nat.reduceSub, Int.reduceToNat, Int.reduceLE, Int.reduceLT, Int.reduceNeg, Nat.reduceBEq, Nat.reduceMul, Nat.reduceLeDiff, Nat.reduceMod, UInt8.reduceOfNat, Nat.reduceLT, Int.reduceEq, Int.reduceAdd, Int.reduceSub, Int.reduceMul]
      repeat' (first | with_reducible assumption | refine And.intro ?_ ?_ | intro _)
      all_goals first | omega | skip
      skip
      exact rest _ rfl rfl rfl rfl
    · rw [show headT A AN B BN = spanT A AN ++ [99] ++ spanT B BN by rw [headT, if_neg hz, if_neg hz2]] at rest
      have hz' : ¬ (AN : Int) = 0 := by omega
      have hz2' : ¬ (BN : Int) = 0 := by omega
      simp -dsimp -implicitDefEqProofs only [S47, S47_0, S47r1, S47_1, S47r2, S47_2, CItoa, CSpan, hz', hz2', List.length_append, ↓Ev.xStp_eq, ↓Ev.P, Ev.Q, eq_self, forall_eq_or_imp, implies_true, forall_const, forall_eq, ↓reduceIte, reduceIte, Nat.reduceEqDiff, Nat.reduceAdd, reduceCtorEq, Nat.reduceSub, Int.reduceToNat, Int.reduceLE, Int.reduceLT, Int.reduceNeg, Nat.reduceBEq, Nat.reduceMul, Nat.reduceLeDiff, Nat.reduceMod, UInt8.reduceOfNat, Nat.reduceLT, Int.reduceEq, Int.reduceAdd, Int.reduceSub, Int.reduceMul]
      repeat' (first | with_reducible assumption | refine And.intro ?_ ?_ | intro _)
      all_goals first | omega | skip
      skip
      exact rest _ rfl rfl rfl rfl
end Go.Proofs.YtpbkdcfjlbdgfaaDoor
set_option linter.unusedVariables false
set_option linter.unusedSimpArgs false
namespace Go.Proofs.YtpbkdcfjlbdgfaaDoor
open Go Go.Ev
set_option maxRecDepth 100000
variable {G : World → Prop}
def chT (a b : List (List UInt8)) (c : Q4) : List UInt8 := changeT c.1.toNat c.2.1.toNat c.2.2.1.toNat c.2.2.2.toNat a b
def prntT (l : List Q4) (a b : List (List UInt8)) : List UInt8 := l.flatMap (chT a b)
theorem prnt_snoc {l : List Q4} {i : Nat} (a b : List (List UInt8)) (h : i < l.length) : prntT (l.take (i + 1)) a b = prntT (l.take i) a b ++ chT a b (l.getD i (0, 0, 0, 0)) := by
  rw [prntT, List.take_succ_eq_append_getElem h, List.flatMap_append]
  simp [prntT, List.getD_eq_getElem?_getD, List.getElem?_eq_getElem h]
theorem prnt_le (l : List Q4) (a b : List (List UInt8)) (i : Nat) : (prntT (l.take i) a b).length ≤ (prntT l a b).length := by
  conv => rhs; rw [← List.take_append_drop i l, prntT, List.flatMap_append, List.length_append]
  exact Nat.le_add_right _ _
/-- What holds of a change of a right script. -/
def okQ (x y : Int) (c : Q4) : Prop := ((0 ≤ c.1 ∧ c.1 ≤ 2147483647) ∧ (0 ≤ c.2.1 ∧ c.2.1 ≤ 2147483647) ∧ (0 ≤ c.2.2.1 ∧ c.2.2.1 ≤ 2147483647) ∧ (0 ≤ c.2.2.2 ∧ c.2.2.2 ≤ 2147483647) ∧ ¬ (c.2.1 = 0 ∧ c.2.2.2 = 0)) ∧ c.1 + c.2.1 ≤ x ∧ c.2.2.1 + c.2.2.2 ≤ y
theorem chkL_all : ∀ {l : List Q4} {f : Bool} {a b x y : Int}, chkL f a b l = some (x, y) → (∀ c ∈ l, okQ x y c) ∧ a ≤ x ∧ b ≤ y
  | [], f, a, b, x, y, h => by
    rw [chkL] at h
    cases h
    exact ⟨(fun c hc => by cases hc), Int.le_refl _, Int.le_refl _⟩
  | c :: r, f, a, b, x, y, h => by
    rw [chkL] at h
    split at h
    · cases h
    · rename_i h1
      split at h
      · cases h
      · rename_i h2
        obtain ⟨k1, k2, k3⟩ := chkL_all h
        have ho := okC h1
        have h3 : ¬ c.1 - a < 0 := fun e => h2 (.inl (.inl e))
        have h4 : c.1 - a = c.2.2.1 - b := Decidable.not_not.1 fun e => h2 (.inr e)
        refine ⟨fun z hz => ?_, by omega, by omega⟩
        rcases List.mem_cons.1 hz with rfl | hz
        · exact ⟨ho, k2, k3⟩
        · exact k1 z hz
theorem chk_all {l : List Q4} {n m : Int} (h : chk l n m = 0) : ∀ c ∈ l, okQ n m c := by
  unfold chk at h
  split at h
  · cases h
  · rename_i a b e
    split at h
    · cases h
    · rename_i k
      obtain ⟨k1, _, _⟩ := chkL_all e
      intro c hc
      obtain ⟨q1, q2, q3⟩ := k1 c hc
      have r1 : ¬ n < a := fun e => k (.inl (.inl e))
      have r2 : ¬ m < b := fun e => k (.inl (.inr e))
      exact ⟨q1, by omega, by omega⟩
theorem chk_zero (l : List Q4) (n m : Int) : chk l n m = 0 ∨ chk l n m = 50 := by
  unfold chk
  split
  · exact .inr rfl
  · split
    · exact .inr rfl
    · exact .inl rfl
theorem q4_mem {l : List Q4} {i : Nat} (h : i < l.length) : l.getD i (0, 0, 0, 0) ∈ l := by simp [List.getD_eq_getElem?_getD, List.getElem?_eq_getElem h]
def CPrint : Contract := pureC fun args => match args with
  | [.d (.sl rows), .d (.sl a), .d (.sl b)] => (unQ4 rows).bind fun l => (unStr a).bind fun x => (unStr b).map fun y =>
      ((l.length ≤ 1099511627776 ∧ x.length ≤ 1099511627776 ∧ y.length ≤ 1099511627776) ∧ ((∀ s ∈ x, s.length ≤ 1099511627776) ∧ (∀ s ∈ y, s.length ≤ 1099511627776)) ∧ (chk l x.length y.length = 0 → (prntT l x y).length ≤ 70368744177664),
        .tup [.d (.v (str (if chk l x.length y.length = 0 then prntT l x y else []))), .d (.v (.int .i64 (chk l x.length y.length)))])
  | _ => none
set_option maxHeartbeats 1000000 in
theorem s14 : Sound G Tryd.prog 14 CPrint := by
  refine sd14 (T := tabT [(46, CCheck), (47, C47)]) (tab_cons s46 (tab_cons s47 tab_nil)) (pureC_lawful _) (pure_hX fun args p x K h hp hk => ?_)
  split at h <;> simp only [Option.bind_eq_some_iff, Option.map_eq_some_iff, Prod.mk.injEq, reduceCtorEq] at h
  obtain ⟨l, hl, a, ha, b, hb, rfl, rfl⟩ := h
  rw [unQ4_eq hl, unStr_eq ha, unStr_eq hb] at *
  obtain ⟨⟨h1, h2, h3⟩, ⟨h4, h5⟩, h6⟩ := hp
  refine ⟨Nat.le_of_ble_eq_true rfl, ?_⟩
  rcases chk_zero l a.length b.length with hz | hz
  · have hall := chk_all hz
    have hlen := h6 hz
    rw [if_pos hz, hz] at hk
    simp -dsimp -implicitDefEqProofs only [S14, R14, CCheck, unQ4_rows, strRows_len, hz, ↓Ev.xStp_eq, ↓Ev.P, Ev.Q, eq_self, forall_eq_or_imp, implies_true, forall_const, forall_eq, ↓reduceIte, reduceIte, Nat.reduceEqDiff, Nat.reduceAdd, reduceCtorEq, Nat.reduceSub, Int.reduceToNat, Int.reduceLE, Int.reduceLT, Int.reduceNeg, Nat.reduceBEq, Nat.reduceMul, Nat.reduceLeDiff, Nat.reduceMod, UInt8.reduceOfNat, Nat.reduceLT, Int.reduceEq, Int.reduceAdd, Int.reduceSub, Int.reduceMul]
    refine ⟨by omega, ?_⟩
    refine xLoop_intro (fun k st => ∃ i : Nat, i ≤ l.length ∧ k = l.length - i ∧
      st = ⟨[(0, .d (.sl (q4Rows l))), (1, .d (.sl (strRows a))), (2, .d (.sl (strRows b))), (9, .d (.v (.string ⟨(prntT (l.take i) a b).toArray⟩))), (10, .d (.v (.int .i64 i)))], 0, []⟩) l.length [] ?_ ?_ ?_
    · simp -dsimp -implicitDefEqProofs only [↓Ev.xStp_eq, ↓Ev.P, Ev.Q, eq_self, forall_eq_or_imp, implies_true, forall_const, forall_eq, ↓reduceIte, reduceIte, Nat.reduceEqDiff, Nat.reduceAdd, reduceCtorEq, Nat.reduceSub, Int.reduceToNat, Int.reduceLE, Int.reduceLT, Int.reduceNeg, Nat.reduceBEq, Nat.reduceMul, Nat.reduceLeDiff, Nat.reduceMod, UInt8.reduceOfNat, Nat.reduceLT, Int.reduceEq, Int.reduceAdd, Int.reduceSub, Int.reduceMul]
    · simp -dsimp -implicitDefEqProofs only [↓Ev.xStp_eq, ↓Ev.P, Ev.Q, eq_self, forall_eq_or_imp, implies_true, forall_const, forall_eq, ↓reduceIte, reduceIte, Nat.reduceEqDiff, Nat.reduceAdd, reduceCtorEq, Nat.reduceSub, Int.reduceToNat, Int.reduceLE, Int.reduceLT, Int.reduceNeg, Nat.reduceBEq, Nat.reduceMul, Nat.reduceLeDiff, Nat.reduceMod, UInt8.reduceOfNat, Nat.reduceLT, Int.reduceEq, Int.reduceAdd, Int.reduceSub, Int.reduceMul]
      exact ⟨0, by omega, by omega, by simp [prntT]⟩
    · rintro k st ⟨i, hi, hk2, rfl⟩
      by_cases hil : i < l.length
      · have hi3 : (i : Int) < l.length := by omega
        have hg := q4Rows_get hil
        have hsn := prnt_snoc a b hil
        have hle := prnt_le l a b (i + 1)
        obtain ⟨⟨b1, b2, b3, b4, b5⟩, b6, b7⟩ := hall _ (q4_mem hil)
        rw [hsn, List.length_append] at hle
        generalize l.getD i (0, 0, 0, 0) = c at hg hsn hle b1 b2 b3 b4 b5 b6 b7
        obtain ⟨A, AN, B, BN⟩ := c
        have hrl : (restT A.toNat AN.toNat B.toNat BN.toNat a b).length ≤ (chT a b (A, AN, B, BN)).length := by
          unfold chT changeT
          simp only [List.length_append]; omega
        simp only at b1 b2 b3 b4 b5 b6 b7
        rw [show chT a b (A, AN, B, BN) = changeT A.toNat AN.toNat B.toNat BN.toNat a b from rfl] at hle hsn hrl
        simp -dsimp -implicitDefEqProofs only [hg, hi3, q4Rows_len, q4Row, C47, unStr_rows, List.length_append, Ev.St.giveC, ↓Ev.xStp_eq, ↓Ev.P, Ev.Q, eq_self, forall_eq_or_imp, implies_true, forall_const, forall_eq, ↓reduceIte, reduceIte, Nat.reduceEqDiff, Nat.reduceAdd, reduceCtorEq, Nat.reduceSub, Int.reduceToNat, Int.reduceLE, Int.reduceLT, Int.reduceNeg, Nat.reduceBEq, Nat.reduceMul, Nat.reduceLeDiff, Nat.reduceMod, UInt8.reduceOfNat, Nat.reduceLT, Int.reduceEq, Int.reduceAdd, Int.reduceSub, Int.reduceMul]
        repeat' (first | with_reducible assumption | refine And.intro ?_ ?_ | intro _)
        all_goals try omega
        refine xAgain_intro (l.length - (i + 1)) [] (by omega) (by simp -dsimp -implicitDefEqProofs only [↓Ev.xStp_eq, ↓Ev.P, Ev.Q, eq_self, forall_eq_or_imp, implies_true, forall_const, forall_eq, ↓reduceIte, reduceIte, Nat.reduceEqDiff, Nat.reduceAdd, reduceCtorEq, Nat.reduceSub, Int.reduceToNat, Int.reduceLE, Int.reduceLT, Int.reduceNeg, Nat.reduceBEq, Nat.reduceMul, Nat.reduceLeDiff, Nat.reduceMod, UInt8.reduceOfNat, Nat.reduceLT, Int.reduceEq, Int.reduceAdd, Int.reduceSub, Int.reduceMul]) ⟨i + 1, by omega, rfl, ?_⟩
        rw [hsn]
        simp -dsimp -implicitDefEqProofs only [↓Ev.xStp_eq, ↓Ev.P, Ev.Q, eq_self, forall_eq_or_imp, implies_true, forall_const, forall_eq, ↓reduceIte, reduceIte, Nat.reduceEqDiff, Nat.reduceAdd, reduceCtorEq, Nat.reduceSub, Int.reduceToNat, Int.reduceLE, Int.reduceLT, Int.reduceNeg, Nat.reduceBEq, Nat.reduceMul, Nat.reduceLeDiff, Nat.reduceMod, UInt8.reduceOfNat, Nat.reduceLT, Int.reduceEq, Int.reduceAdd, Int.reduceSub, Int.reduceMul]
        rfl
      · have hi3 : ¬ (i : Int) < l.length := by omega
        simp -dsimp -implicitDefEqProofs only [hi3, q4Rows_len, ↓Ev.xStp_eq, ↓Ev.P, Ev.Q, eq_self, forall_eq_or_imp, implies_true, forall_const, forall_eq, ↓reduceIte, reduceIte, Nat.reduceEqDiff, Nat.reduceAdd, reduceCtorEq, Nat.reduceSub, Int.reduceToNat, Int.reduceLE, Int.reduceLT, Int.reduceNeg, Nat.reduceBEq, Nat.reduceMul, Nat.reduceLeDiff, Nat.reduceMod, UInt8.reduceOfNat, Nat.reduceLT, Int.reduceEq, Int.reduceAdd, Int.reduceSub, Int.reduceMul]
        rw [List.take_of_length_le (by omega)]
        exact hk
  · have hz' : ¬ (50 : Int) = 0 := by omega
    rw [if_neg (by rw [hz]; exact hz'), hz] at hk
    simp -dsimp -implicitDefEqProofs only [S14, R14, CCheck, unQ4_rows, strRows_len, hz, hz', ↓Ev.xStp_eq, ↓Ev.P, Ev.Q, eq_self, forall_eq_or_imp, implies_true, forall_const, forall_eq, ↓reduceIte, reduceIte, Nat.reduceEqDiff, Nat.reduceAdd, reduceCtorEq, Nat.reduceSub, Int.reduceToNat, Int.reduceLE, Int.reduceLT, Int.reduceNeg, Nat.reduceBEq, Nat.reduceMul, Nat.reduceLeDiff, Nat.reduceMod, UInt8.reduceOfNat, Nat.reduceLT, Int.reduceEq, Int.reduceAdd, Int.reduceSub, Int.reduceMul]
    exact ⟨by omega, hk⟩
end Go.Proofs.YtpbkdcfjlbdgfaaDoor
set_option linter.unusedVariables false
set_option linter.unusedSimpArgs false
namespace Go.Proofs.YtpbkdcfjlbdgfaaDoor
open Go Go.Ev
set_option maxRecDepth 100000
variable {G : World → Prop}
theorem part_rows (a : List (List UInt8)) (A AN : Nat) : ((strRows a).take (A + AN)).drop A = strRows (part a A AN) := by
  rw [strRows_sub, List.drop_take, Nat.add_sub_cancel_left, part]
theorem allT_nil (s : List UInt8) : allT s [] = [] := rfl
theorem part_zero (a : List (List UInt8)) (A : Nat) : part a A 0 = [] := by simp [part]
theorem mem_part {a : List (List UInt8)} {A AN : Nat} {x : List UInt8} (h : x ∈ part a A AN) : x ∈ a := List.mem_of_mem_drop (List.mem_of_mem_take h)
theorem part_len (a : List (List UInt8)) (A AN : Nat) : (part a A AN).length ≤ AN := by unfold part; simp; omega
theorem cons_ne (a b : UInt8) (h : a ≠ b) : ([a] = [b]) = False := by simp [h]
set_option maxHeartbeats 4000000 in
theorem s13 (hG : ∀ w, G w → Pow10 w) : Sound G Tryd.prog 13 CPrint := by
  refine sd13 (T := tabT [(41, CCheck), (42, CSpan), (32, CItoa), (43, bldC gWS), (44, bldC gAll), (45, strC 5)]) (tab_cons s41 (tab_cons (s42 hG) (tab_cons (s32 hG) (tab_cons sWS (tab_cons s44 (tab_cons sST tab_nil)))))) (pureC_lawful _) (pure_hX fun args p x K h hp hk => ?_)
  split at h <;> simp only [Option.bind_eq_some_iff, Option.map_eq_some_iff, Prod.mk.injEq, reduceCtorEq] at h
  obtain ⟨l, hl, a, ha, b, hb, rfl, rfl⟩ := h
  rw [unQ4_eq hl, unStr_eq ha, unStr_eq hb] at *
  obtain ⟨⟨h1, h2, h3⟩, ⟨h4, h5⟩, h6⟩ := hp
  refine ⟨Nat.le_of_ble_eq_true rfl, ?_⟩
  rcases chk_zero l a.length b.length with hz | hz
  · have hall := chk_all hz
    have hlen := h6 hz
    rw [if_pos hz, hz] at hk
    simp -dsimp (maxSteps := 2000000) only [S13, S13_0, S13r1, S13_1, S13r2, S13_2, S13r3, S13_3, S13r4, S13_4, S13r5, R13, CCheck, unQ4_rows, strRows_len, q4Rows_len, hz, ↓Ev.ffI, ↓Ev.ttI, ↓Ev.tfI, ↓Ev.ftI, ↓Ev.xStp_eq, ↓Ev.P, Ev.Q, eq_self, forall_eq_or_imp, implies_true, forall_const, forall_eq, ↓reduceIte, reduceIte, Nat.reduceEqDiff, Nat.reduceAdd, reduceCtorEq, Nat.reduceSub, Int.reduceToNat, Int.reduceLE, Int.reduceLT, Int.reduceNeg, Nat.reduceBEq, Nat.reduceMul, Nat.reduceLeDiff, Nat.reduceMod, UInt8.reduceOfNat, Nat.reduceLT, Int.reduceEq, Int.reduceAdd, Int.reduceSub, Int.reduceMul]
    refine ⟨by omega, ?_⟩
    refine xLoop_intro (fun k st => ∃ i : Nat, i ≤ l.length ∧ k = l.length - i ∧
      st = ⟨[(1, .d (.sl (strRows a))), (2, .d (.sl (strRows b))), (9, .ptr 0 0), (24, .d (.sl (q4Rows l))), (25, .d (.v (.int .i64 l.length))), (26, .d (.v (.int .i64 i)))], 1, [(0, .bld 72 5 (prntT (l.take i) a b))]⟩) l.length [0] ?_ ?_ ?_
    · simp -dsimp (maxSteps := 2000000) only [↓Ev.ffI, ↓Ev.ttI, ↓Ev.tfI, ↓Ev.ftI, ↓Ev.xStp_eq, ↓Ev.P, Ev.Q, eq_self, forall_eq_or_imp, implies_true, forall_const, forall_eq, ↓reduceIte, reduceIte, Nat.reduceEqDiff, Nat.reduceAdd, reduceCtorEq, Nat.reduceSub, Int.reduceToNat, Int.reduceLE, Int.reduceLT, Int.reduceNeg, Nat.reduceBEq, Nat.reduceMul, Nat.reduceLeDiff, Nat.reduceMod, UInt8.reduceOfNat, Nat.reduceLT, Int.reduceEq, Int.reduceAdd, Int.reduceSub, Int.reduceMul]
    · simp -dsimp (maxSteps := 2000000) only [↓Ev.ffI, ↓Ev.ttI, ↓Ev.tfI, ↓Ev.ftI, ↓Ev.xStp_eq, ↓Ev.P, Ev.Q, eq_self, forall_eq_or_imp, implies_true, forall_const, forall_eq, ↓reduceIte, reduceIte, Nat.reduceEqDiff, Nat.reduceAdd, reduceCtorEq, Nat.reduceSub, Int.reduceToNat, Int.reduceLE, Int.reduceLT, Int.reduceNeg, Nat.reduceBEq, Nat.reduceMul, Nat.reduceLeDiff, Nat.reduceMod, UInt8.reduceOfNat, Nat.reduceLT, Int.reduceEq, Int.reduceAdd, Int.reduceSub, Int.reduceMul]
      exact ⟨0, by omega, by omega, by simp [prntT]⟩
    · rintro k st ⟨i, hi, hk2, rfl⟩
      by_cases hil : i < l.length
      · have hi3 : (i : Int) < l.length := by omega
        have hg := q4Rows_get hil
        have hsn := prnt_snoc a b hil
        have hle := prnt_le l a b (i + 1)
        obtain ⟨⟨b1, b2, b3, b4, b5⟩, b6, b7⟩ := hall _ (q4_mem hil)
        rw [hsn, List.length_append] at hle
        generalize l.getD i (0, 0, 0, 0) = c at hg hsn hle b1 b2 b3 b4 b5 b6 b7
        obtain ⟨A, AN, B, BN⟩ := c
        simp only at b1 b2 b3 b4 b5 b6 b7
        rw [show chT a b (A, AN, B, BN) = changeT A.toNat AN.toNat B.toNat BN.toNat a b from rfl] at hle hsn
        obtain ⟨A, rfl⟩ := Int.eq_ofNat_of_zero_le b1.1
        obtain ⟨AN, rfl⟩ := Int.eq_ofNat_of_zero_le b2.1
        obtain ⟨B, rfl⟩ := Int.eq_ofNat_of_zero_le b3.1
        obtain ⟨BN, rfl⟩ := Int.eq_ofNat_of_zero_le b4.1
        simp only [Int.toNat_natCast] at hle hsn
        have rA : List.drop A (List.take ((A : Int) + (AN : Int)).toNat (strRows a)) = strRows (part a A AN) := by
          rw [show ((A : Int) + (AN : Int)).toNat = A + AN by omega, part_rows]
        have rB : List.drop B (List.take ((B : Int) + (BN : Int)).toNat (strRows b)) = strRows (part b B BN) := by
          rw [show ((B : Int) + (BN : Int)).toNat = B + BN by omega, part_rows]
        have pA := part_len a A AN
        have pB := part_len b B BN
        have mA : ∀ x ∈ part a A AN, x.length ≤ 1099511627776 := fun x hx => h4 x (mem_part hx)
        have mB : ∀ x ∈ part b B BN, x.length ≤ 1099511627776 := fun x hx => h5 x (mem_part hx)
        unfold changeT headT restT at hle hsn
        by_cases hzA : AN = 0
        · subst hzA
          have hzB : ¬ BN = 0 := by omega
          have hzB' : ¬ (BN : Int) = 0 := by omega
          have v1 : (([97] : List UInt8) = [99]) = False := by decide
          rw [if_pos rfl, if_neg (by omega : ¬ (0 < 0 ∧ 0 < BN))] at hle hsn
          simp only [List.length_append, List.length_cons, List.length_nil, List.append_nil] at hle
          simp only [Int.natCast_zero, part_zero] at rA
          simp -dsimp -implicitDefEqProofs only [hg, hi3, q4Row, CItoa, CSpan, gWS, gAll, bldT, unStr_rows, strRows_len, strRows_all, rA, rB, part_rows, allT_nil, hzB', v1, part_zero, List.length_append, Ev.St.giveC, ↓Ev.ffI, ↓Ev.ttI, ↓Ev.tfI, ↓Ev.ftI, ↓Ev.P, Ev.Q, eq_self, forall_eq_or_imp, implies_true, forall_const, forall_eq, ↓reduceIte, reduceIte, Nat.reduceEqDiff, Nat.reduceAdd, reduceCtorEq, Nat.reduceSub, Int.reduceToNat, Int.reduceLE, Int.reduceLT, Int.reduceNeg, Nat.reduceBEq, Nat.reduceMul, Nat.reduceLeDiff, Nat.reduceMod, UInt8.reduceOfNat, Nat.reduceLT, Int.reduceEq, Int.reduceAdd, Int.reduceSub, Int.reduceMul]
          repeat' (first | with_reducible assumption | refine And.intro ?_ ?_ | intro _ | (rw [Ev.xStp_eq]; simp -dsimp -implicitDefEqProofs only [hg, hi3, q4Row, CItoa, CSpan, gWS, gAll, bldT, unStr_rows, strRows_len, strRows_all, rA, rB, part_rows, allT_nil, hzB', v1, part_zero, List.length_append, Ev.St.giveC, ↓Ev.ffI, ↓Ev.ttI, ↓Ev.tfI, ↓Ev.ftI, ↓Ev.P, Ev.Q, eq_self, forall_eq_or_imp, implies_true, forall_const, forall_eq, ↓reduceIte, reduceIte, Nat.reduceEqDiff, Nat.reduceAdd, reduceCtorEq, Nat.reduceSub, Int.reduceToNat, Int.reduceLE, Int.reduceLT, Int.reduceNeg, Nat.reduceBEq, Nat.reduceMul, Nat.reduceLeDiff, Nat.reduceMod, UInt8.reduceOfNat, Nat.reduceLT, Int.reduceEq, Int.reduceAdd, Int.reduceSub, Int.reduceMul]))
          all_goals try omega
          refine xAgain_intro (l.length - (i + 1)) [0] (by omega) (by simp -dsimp -implicitDefEqProofs only [↓Ev.xStp_eq, ↓Ev.P, Ev.Q, eq_self, forall_eq_or_imp, implies_true, forall_const, forall_eq, ↓reduceIte, reduceIte, Nat.reduceEqDiff, Nat.reduceAdd, reduceCtorEq, Nat.reduceSub, Int.reduceToNat, Int.reduceLE, Int.reduceLT, Int.reduceNeg, Nat.reduceBEq, Nat.reduceMul, Nat.reduceLeDiff, Nat.reduceMod, UInt8.reduceOfNat, Nat.reduceLT, Int.reduceEq, Int.reduceAdd, Int.reduceSub, Int.reduceMul]) ⟨i + 1, by omega, rfl, ?_⟩
          rw [hsn]
          simp -dsimp -implicitDefEqProofs only [↓Ev.xStp_eq, ↓Ev.P, Ev.Q, eq_self, forall_eq_or_imp, implies_true, forall_const, forall_eq, ↓reduceIte, reduceIte, Nat.reduceEqDiff, Nat.reduceAdd, reduceCtorEq, Nat.reduceSub, Int.reduceToNat, Int.reduceLE, Int.reduceLT, Int.reduceNeg, Nat.reduceBEq, Nat.reduceMul, Nat.reduceLeDiff, Nat.reduceMod, UInt8.reduceOfNat, Nat.reduceLT, Int.reduceEq, Int.reduceAdd, Int.reduceSub, Int.reduceMul]
          simp [Nat.add_assoc, allT, part_zero]
        · by_cases hzB : BN = 0
          · subst hzB
            have hzA' : ¬ (AN : Int) = 0 := by omega
            have v1 : (([100] : List UInt8) = [99]) = False := by decide
            rw [if_neg hzA, if_pos rfl, if_neg (by omega : ¬ (0 < AN ∧ 0 < 0))] at hle hsn
            simp only [List.length_append, List.length_cons, List.length_nil, List.append_nil] at hle
            simp only [Int.natCast_zero, part_zero] at rB
            simp -dsimp -implicitDefEqProofs only [hg, hi3, q4Row, CItoa, CSpan, gWS, gAll, bldT, unStr_rows, strRows_len, strRows_all, rA, rB, part_rows, allT_nil, hzA', v1, part_zero, List.length_append, Ev.St.giveC, ↓Ev.ffI, ↓Ev.ttI, ↓Ev.tfI, ↓Ev.ftI, ↓Ev.P, Ev.Q, eq_self, forall_eq_or_imp, implies_true, forall_const, forall_eq, ↓reduceIte, reduceIte, Nat.reduceEqDiff, Nat.reduceAdd, reduceCtorEq, Nat.reduceSub, Int.reduceToNat, Int.reduceLE, Int.reduceLT, Int.reduceNeg, Nat.reduceBEq, Nat.reduceMul, Nat.reduceLeDiff, Nat.reduceMod, UInt8.reduceOfNat, Nat.reduceLT, Int.reduceEq, Int.reduceAdd, Int.reduceSub, Int.reduceMul]
            repeat' (first | with_reducible assumption | refine And.intro ?_ ?_ | intro _ | (rw [Ev.xStp_eq]; simp -dsimp -implicitDefEqProofs only [hg, hi3, q4Row, CItoa, CSpan, gWS, gAll, bldT, unStr_rows, strRows_len, strRows_all, rA, rB, part_rows, allT_nil, hzA', v1, part_zero, List.length_append, Ev.St.giveC, ↓Ev.ffI, ↓Ev.ttI, ↓Ev.tfI, ↓Ev.ftI, ↓Ev.P, Ev.Q, eq_self, forall_eq_or_imp, implies_true, forall_const, forall_eq, ↓reduceIte, reduceIte, Nat.reduceEqDiff, Nat.reduceAdd, reduceCtorEq, Nat.reduceSub, Int.reduceToNat, Int.reduceLE, Int.reduceLT, Int.reduceNeg, Nat.reduceBEq, Nat.reduceMul, Nat.reduceLeDiff, Nat.reduceMod, UInt8.reduceOfNat, Nat.reduceLT, Int.reduceEq, Int.reduceAdd, Int.reduceSub, Int.reduceMul]))
            all_goals try omega
            refine xAgain_intro (l.length - (i + 1)) [0] (by omega) (by simp -dsimp -implicitDefEqProofs only [↓Ev.xStp_eq, ↓Ev.P, Ev.Q, eq_self, forall_eq_or_imp, implies_true, forall_const, forall_eq, ↓reduceIte, reduceIte, Nat.reduceEqDiff, Nat.reduceAdd, reduceCtorEq, Nat.reduceSub, Int.reduceToNat, Int.reduceLE, Int.reduceLT, Int.reduceNeg, Nat.reduceBEq, Nat.reduceMul, Nat.reduceLeDiff, Nat.reduceMod, UInt8.reduceOfNat, Nat.reduceLT, Int.reduceEq, Int.reduceAdd, Int.reduceSub, Int.reduceMul]) ⟨i + 1, by omega, rfl, ?_⟩
            rw [hsn]
            simp -dsimp -implicitDefEqProofs only [↓Ev.xStp_eq, ↓Ev.P, Ev.Q, eq_self, forall_eq_or_imp, implies_true, forall_const, forall_eq, ↓reduceIte, reduceIte, Nat.reduceEqDiff, Nat.reduceAdd, reduceCtorEq, Nat.reduceSub, Int.reduceToNat, Int.reduceLE, Int.reduceLT, Int.reduceNeg, Nat.reduceBEq, Nat.reduceMul, Nat.reduceLeDiff, Nat.reduceMod, UInt8.reduceOfNat, Nat.reduceLT, Int.reduceEq, Int.reduceAdd, Int.reduceSub, Int.reduceMul]
            simp [Nat.add_assoc, allT, part_zero]
          · have hzA' : ¬ (AN : Int) = 0 := by omega
            have hzB' : ¬ (BN : Int) = 0 := by omega
            have v1 : (([99] : List UInt8) = [99]) = True := by decide
            rw [if_neg hzA, if_neg hzB, if_pos (by omega : (0 < AN ∧ 0 < BN))] at hle hsn
            simp only [List.length_append, List.length_cons, List.length_nil, List.append_nil] at hle
            simp -dsimp -implicitDefEqProofs only [hg, hi3, q4Row, CItoa, CSpan, gWS, gAll, bldT, unStr_rows, strRows_len, strRows_all, rA, rB, part_rows, allT_nil, hzA', hzB', v1, List.length_append, Ev.St.giveC, ↓Ev.ffI, ↓Ev.ttI, ↓Ev.tfI, ↓Ev.ftI, ↓Ev.P, Ev.Q, eq_self, forall_eq_or_imp, implies_true, forall_const, forall_eq, ↓reduceIte, reduceIte, Nat.reduceEqDiff, Nat.reduceAdd, reduceCtorEq, Nat.reduceSub, Int.reduceToNat, Int.reduceLE, Int.reduceLT, Int.reduceNeg, Nat.reduceBEq, Nat.reduceMul, Nat.reduceLeDiff, Nat.reduceMod, UInt8.reduceOfNat, Nat.reduceLT, Int.reduceEq, Int.reduceAdd, Int.reduceSub, Int.reduceMul]
            repeat' (first | with_reducible assumption | refine And.intro ?_ ?_ | intro _ | (rw [Ev.xStp_eq]; simp -dsimp -implicitDefEqProofs only [hg, hi3, q4Row, CItoa, CSpan, gWS, gAll, bldT, unStr_rows, strRows_len, strRows_all, rA, rB, part_rows, allT_nil, hzA', hzB', v1, List.length_append, Ev.St.giveC, ↓Ev.ffI, ↓Ev.ttI, ↓Ev.tfI, ↓Ev.ftI, ↓Ev.P, Ev.Q, eq_self, forall_eq_or_imp, implies_true, forall_const, forall_eq, ↓reduceIte, reduceIte, Nat.reduceEqDiff, Nat.reduceAdd, reduceCtorEq, Nat.reduceSub, Int.reduceToNat, Int.reduceLE, Int.reduceLT, Int.reduceNeg, Nat.reduceBEq, Nat.reduceMul, Nat.reduceLeDiff, Nat.reduceMod, UInt8.reduceOfNat, Nat.reduceLT, Int.reduceEq, Int.reduceAdd, Int.reduceSub, Int.reduceMul]))
            all_goals try omega
            refine xAgain_intro (l.length - (i + 1)) [0] (by omega) (by simp -dsimp -implicitDefEqProofs only [↓Ev.xStp_eq, ↓Ev.P, Ev.Q, eq_self, forall_eq_or_imp, implies_true, forall_const, forall_eq, ↓reduceIte, reduceIte, Nat.reduceEqDiff, Nat.reduceAdd, reduceCtorEq, Nat.reduceSub, Int.reduceToNat, Int.reduceLE, Int.reduceLT, Int.reduceNeg, Nat.reduceBEq, Nat.reduceMul, Nat.reduceLeDiff, Nat.reduceMod, UInt8.reduceOfNat, Nat.reduceLT, Int.reduceEq, Int.reduceAdd, Int.reduceSub, Int.reduceMul]) ⟨i + 1, by omega, rfl, ?_⟩
            rw [hsn]
            simp -dsimp -implicitDefEqProofs only [↓Ev.xStp_eq, ↓Ev.P, Ev.Q, eq_self, forall_eq_or_imp, implies_true, forall_const, forall_eq, ↓reduceIte, reduceIte, Nat.reduceEqDiff, Nat.reduceAdd, reduceCtorEq, Nat.reduceSub, Int.reduceToNat, Int.reduceLE, Int.reduceLT, Int.reduceNeg, Nat.reduceBEq, Nat.reduceMul, Nat.reduceLeDiff, Nat.reduceMod, UInt8.reduceOfNat, Nat.reduceLT, Int.reduceEq, Int.reduceAdd, Int.reduceSub, Int.reduceMul]
            simp [Nat.add_assoc, allT, part_zero]
      · have hi3 : ¬ (i : Int) < l.length := by omega
        simp -dsimp (maxSteps := 2000000) only [hi3, ↓Ev.ffI, ↓Ev.ttI, ↓Ev.tfI, ↓Ev.ftI, ↓Ev.xStp_eq, ↓Ev.P, Ev.Q, eq_self, forall_eq_or_imp, implies_true, forall_const, forall_eq, ↓reduceIte, reduceIte, Nat.reduceEqDiff, Nat.reduceAdd, reduceCtorEq, Nat.reduceSub, Int.reduceToNat, Int.reduceLE, Int.reduceLT, Int.reduceNeg, Nat.reduceBEq, Nat.reduceMul, Nat.reduceLeDiff, Nat.reduceMod, UInt8.reduceOfNat, Nat.reduceLT, Int.reduceEq, Int.reduceAdd, Int.reduceSub, Int.reduceMul]
        rw [List.take_of_length_le (by omega)]
        exact hk
  · have hz' : ¬ (50 : Int) = 0 := by omega
    rw [if_neg (by rw [hz]; exact hz'), hz] at hk
    simp -dsimp (maxSteps := 2000000) only [S13, S13_0, S13r1, S13_1, S13r2, S13_2, S13r3, S13_3, S13r4, S13_4, S13r5, R13, CCheck, unQ4_rows, strRows_len, hz, hz', ↓Ev.ffI, ↓Ev.ttI, ↓Ev.tfI, ↓Ev.ftI, ↓Ev.xStp_eq, ↓Ev.P, Ev.Q, eq_self, forall_eq_or_imp, implies_true, forall_const, forall_eq, ↓reduceIte, reduceIte, Nat.reduceEqDiff, Nat.reduceAdd, reduceCtorEq, Nat.reduceSub, Int.reduceToNat, Int.reduceLE, Int.reduceLT, Int.reduceNeg, Nat.reduceBEq, Nat.reduceMul, Nat.reduceLeDiff, Nat.reduceMod, UInt8.reduceOfNat, Nat.reduceLT, Int.reduceEq, Int.reduceAdd, Int.reduceSub, Int.reduceMul]
    exact ⟨by omega, hk⟩
end Go.Proofs.YtpbkdcfjlbdgfaaDoor
set_option linter.unusedVariables false
set_option linter.unusedSimpArgs false
namespace Go.Proofs.YtpbkdcfjlbdgfaaDoor
open Go Go.Ev
set_option maxRecDepth 100000
theorem rdStr {c : Rdr} {a : Addr} : ∀ {l : List (List UInt8)} {k : Nat}, (∀ i, i < l.length → c (a.add (k + i)) (.string ⟨(l.getD i []).toArray⟩)) → RdRows c a 1 k (strRows l)
  | [], k, h => by simp [strRows, RdRows]
  | s :: l, k, h => by
    have h0 := h 0 (by simp)
    have hr : RdRows c a 1 (k + 1) (strRows l) := rdStr fun i hi => by
      have := h (i + 1) (by simp; omega)
      rw [show k + 1 + i = k + (i + 1) by omega]
      simpa using this
    have e : strRows (s :: l) = [.v (.string ⟨s.toArray⟩)] :: strRows l := rfl
    rw [e]
    simp only [RdRows, RdCells, Rd]
    exact ⟨rfl, ⟨⟨_, by simpa using h0, rfl, rfl⟩, trivial⟩, hr⟩
theorem rdQ4 {c : Rdr} {a : Addr} : ∀ {l : List Q4} {k : Nat}, (∀ i, i < l.length → RdCells c a (k + i * 4) (q4Row (l.getD i (0, 0, 0, 0)))) → RdRows c a 4 k (q4Rows l)
  | [], k, h => by simp [q4Rows, RdRows]
  | s :: l, k, h => by
    have h0 := h 0 (by simp)
    have hr : RdRows c a 4 (k + 4) (q4Rows l) := rdQ4 fun i hi => by
      have := h (i + 1) (by simp; omega)
      rw [show k + 4 + i * 4 = k + (i + 1) * 4 by omega]
      simpa using this
    have e : q4Rows (s :: l) = q4Row s :: q4Rows l := rfl
    rw [e]
    simp only [RdRows]
    exact ⟨rfl, by simpa using h0, hr⟩
/-- A laid table's block holds its integers and nothing else. -/
theorem tab_only {P : Program} {W : World} {name : String} {k : IntKind} {zs : List Int} {g : Nat} (h : Lib.TabIs P W name k zs) (hg : P.globalNamed name = some g) {a : Addr} {u : Value} (ha : W.cell? a = some u) (hb : a.block = g) : ∃ z, u = .int k z := by
  unfold Lib.TabIs World.var? at h
  rw [hg] at h
  simp only [Option.bind_some] at h
  unfold World.cell? at ha
  rw [hb] at ha
  split at h
  · rename_i cs t f e
    rw [e] at ha
    simp only [Option.some.injEq] at h
    subst h
    simp only at ha
    split at ha
    · cases ha
    · have hm := Array.mem_of_getElem? ha
      simp only [List.mem_toArray, List.mem_map] at hm
      obtain ⟨z, _, rfl⟩ := hm
      exact ⟨z, rfl⟩
  · cases h
theorem gP10 : Tryd.prog.globalNamed "internal/strconv.uint64pow10" = some (Tryd.prog.globalNamed "internal/strconv.uint64pow10").get! := by kernel_rfl
/-- The table is hidden. -/
noncomputable def HP : Hd Pow10 := ⟨fun b => some b = Tryd.prog.globalNamed "internal/strconv.uint64pow10", fun b => some b = Tryd.prog.globalNamed "internal/strconv.uint64pow10", fun _ h => h, fun w w' h hb => by
  unfold Pow10 Lib.TabIs World.var? at h ⊢
  cases e : Tryd.prog.globalNamed "internal/strconv.uint64pow10" with
  | none => rw [e] at h; cases h
  | some g => rw [e] at h; simp only [Option.bind_some] at h ⊢; rw [hb g (by rw [e])]; exact h⟩
theorem HP_no {W : World} (h : Pow10 W) {a : Addr} {u : Value} (ha : W.cell? a = some u) (hu : ∀ z, u ≠ .int .u64 z) : ¬ HP a.block := fun hb => by
  obtain ⟨z, e⟩ := tab_only h hb.symm ha rfl
  exact hu z e
theorem HP_lt {W : World} (h : Pow10 W) {b : Nat} (hb : HP b) : b < W.heap.size := by
  have hb' : some b = Tryd.prog.globalNamed "internal/strconv.uint64pow10" := hb
  unfold Pow10 Lib.TabIs World.var? at h
  rw [← hb'] at h
  simp only [Option.bind_some] at h
  split at h
  · rename_i e
    exact (Array.getElem?_eq_some_iff.1 e).1
  · cases h
end Go.Proofs.YtpbkdcfjlbdgfaaDoor
/- From a law's contract to its row: what a call leaves lies below the heap's end as it lay. -/
set_option linter.unusedVariables false
set_option linter.unusedSimpArgs false
namespace Go.Ev
open Go Go.RowKit Go.WideShapes Go.ChangeShapes

theorem law_calls {G : World → Prop} (H : Hd G) {P : Program} {f : FuncId} {C : Contract} (h : Sound G P f C) {args : List SV} {vs : List Value} {W : World} (hg : G W) (hh : ∀ b, H b → b < W.heap.size) (hw : C.wp args ⟨0, []⟩ fun out s => out = .ret (.d (.v (.bool true))))
    (hvs : CnL (fun _ => undef) 0 (fun a u => W.cell? a = some u ∧ ¬ H a.block) args vs) : Calls P f vs.toArray W fun e W' => e = .returned (.bool true) ∧ Below W.heap.size W W' := by
  obtain ⟨_, hc⟩ := h.2 H W (fun _ => undef) (fun _ _ => False) ⟨0, []⟩ args vs _ hw (SOk.empty hh hg _ _)
    (CnL_mono (Nat.le_refl _) (fun _ _ => rfl) (fun a u hau => ⟨hau.1, fun ⟨_, _, h1, _⟩ => by simp [lk] at h1, hau.2⟩) _ _ hvs)
  refine hc.mono ?_
  rintro e W' ⟨m', B', s', out, rfl, hO, hS, hout⟩
  cases e with
  | returned v =>
    simp only [OutOk, Cn, Rd] at hout
    refine ⟨by rw [hout.1], ⟨hS.os, hS.tape, hS.output, hS.size, fun k hk => hS.block k hk fun ⟨_, _, h1, _⟩ => by simp [lk] at h1⟩⟩
  | _ => exact hout.elim

/-- Nothing is hidden, nothing is laid. -/
def noH : Hd (fun _ => True) := ⟨fun _ => False, fun _ => False, fun _ h => h, fun _ _ _ _ => trivial⟩
section
variable {H : Type} {enc : TypeId × Value → H} {P : Program}
theorem post_of_below {f : Func} {s : ChangeSpec} {apart fresh handsOn again : Bool} {W W' : World} {args : Array Value} {v : Value} {ds gs : List (DataW H)} {before pa pv : List MemPlace}
    (hW : DataW.Whole enc P f.params.toList s.vars apart W args.toList ds gs before)
    (hres : ∀ (b : Nat) (sp : Nat → Bool) (hd : Bool), DataW.TrodAll enc P W' b sp hd f.resultTypes.toList (v.resultList f.resultTypes.size) (s.fn H (ds ++ gs)).results [])
    (hargs : ∀ sp : Nat → Bool, (∀ p ∈ before, sp p.block = true) → DataW.TrodAll enc P W' 0 sp true f.params.toList args.toList (s.fn H (ds ++ gs)).args pa)
    (hvars : ∀ sp : Nat → Bool, (∀ p ∈ before, sp p.block = true) → DataW.TrodVars enc P W' sp s.vars (s.fn H (ds ++ gs)).vars pv)
    (hps : before = pa ++ pv) (hb : Below W.heap.size W W')
    (hok : ∀ (j : Nat) (t : TypeId) (r : Value), f.resultTypes[j]? = some t → (v.resultList f.resultTypes.size)[j]? = some r → Value.okWide P W' .any 0 t r) :
    s.post enc P f apart fresh handsOn again W args v W' := by
  have hlt : ∀ p ∈ before, p.block < W.heap.size := fun p hp => hW.lt p hp
  have hold : ∀ p ∈ before, (fun b => decide (b < W.heap.size)) p.block = true := fun p hp => by simpa using hlt p hp
  refine ⟨ds, gs, before, [], pa, pv, hW, hres _ _ _, hargs _ hold, hvars _ hold, World.keptBut_mono (fun p hp => ⟨hp, ?_⟩) (hb.frame (· ∈ before)), fun _ => ?_⟩
  · rw [hps, List.mem_append] at hp
    exact Or.inr hp
  · obtain ⟨_, _, _, _, _, hz, hn⟩ := hW
    refine ⟨hok, _, _, ([] ++ pa) ++ pv, ⟨[] ++ pa, pv, trodAll_append (hargs _ (fun _ _ => rfl)) (hres _ _ _), hvars _ (fun _ _ => rfl), rfl, ?_, ?_⟩, ?_⟩
    · intro b off hp
      have hin : MemPlace.cell b off ∈ before := by rw [hps]; simpa using hp
      rw [hb.frozen (hlt _ hin)]
      exact hz b off hin
    · intro ha
      have := hn ha
      rw [hps] at this
      simpa using this
    · intro p hp _
      rw [hps]
      simpa using hp
end
end Go.Ev
set_option linter.unusedVariables false
set_option linter.unusedSimpArgs false
namespace Go.Proofs.YtpbkdcfjlbdgfaaDoor
open Go Go.Ev
open Go.ChangeShapes Go.WideShapes Go.ChangeAt Go.RowKit
set_option maxRecDepth 100000
variable {H : Type} {enc : TypeId × Value → H}
theorem bulk_app : ∀ a b : List (DataW H), Rows.uptoBulkAll (a ++ b) = Rows.uptoBulkAll a + Rows.uptoBulkAll b
  | [], b => by simp [Rows.uptoBulkAll]
  | x :: r, b => by rw [List.cons_append, Rows.uptoBulkAll, Rows.uptoBulkAll, bulk_app r b]; omega
theorem bulk_strs : ∀ l : List ByteArray, (l.map fun s => s.data.toList.length + 1).sum = Rows.uptoBulkAll (strs l : List (DataW H))
  | [] => by simp [strs, Rows.uptoBulkAll]
  | s :: r => by
    have := bulk_strs r
    simp only [strs, List.map_cons, List.sum_cons, Rows.uptoBulkAll, Rows.uptoBulk] at this ⊢
    omega
theorem arr_eta (b : ByteArray) : (⟨b.data.toList.toArray⟩ : ByteArray) = b := by cases b; simp
theorem okWide_spot {P : Program} {w : World} {r : Reach} {b : Nat} {t e : TypeId} {a : Addr} {len cap : Nat} (ht : P.underlying t = some (.slice e)) (h : Value.okWide P w r b t (.slice (some a) len cap)) : a.spot = none := by
  simp only [Value.okWide, ht, Cell.okWide, Cell.ok, World.has] at h
  simp_all
theorem openStr {b0 : Nat} {W : World} {c : Rdr} {t e : TypeId} {v : Value} {d : DataW H} {p : List MemPlace} {m : Nat → Value} (hc : ∀ a u, W.cell? a = some u → (∀ z, u ≠ .int .u64 z) → c a u)
    (ht : Tryd.prog.underlying t = some (.slice e)) (he : Tryd.prog.underlying e = some .string) (h1 : Tryd.prog.cellsOf e = 1)
    (hv : Value.okWide Tryd.prog W .any b0 t v) (h : DataW.Trod enc Tryd.prog W 0 (fun _ => true) true t v d p) :
    ∃ l : List (List UInt8), Cn m 0 c (.d (.sl (strRows l))) v ∧ (l.map fun s => s.length + 1).sum + 1 ≤ Rows.uptoBulk d := by
  obtain ⟨a0, len, cap, rfl⟩ := okWide_slice ht hv
  obtain ⟨fuel, hf⟩ := h
  rcases open_strings ht he h1 hf with ⟨hcs, hx⟩ | ⟨a, len', cap', ss, hcs, _, hl, hm, hz, hx, hcell, hws⟩
  · simp [Value.cells] at hcs
    obtain ⟨rfl, rfl, rfl⟩ := hcs
    simp only [Prod.mk.injEq] at hx
    obtain ⟨rfl, rfl⟩ := hx
    exact ⟨[], by simp [Cn, Rd, strRows], by simp [Rows.uptoBulk]⟩
  · simp [Value.cells] at hcs
    obtain ⟨rfl, rfl, rfl⟩ := hcs
    simp only [Prod.mk.injEq] at hx
    obtain ⟨rfl, rfl⟩ := hx
    simp only [if_true] at hz
    have hM : maxLen = 9223372036854775807 := by decide
    refine ⟨(ss.take len).map fun s => s.data.toList, ?_, ?_⟩
    · simp only [Cn, Rd]
      refine ⟨some a, cap, by rw [strRows_len]; simp; omega, by rw [strRows_len]; simp; omega, by rw [strRows_len]; simp; omega, .inr ⟨a, 1, rfl, okWide_spot ht hv, rdStr fun i hi => ?_⟩⟩
      simp only [List.length_map, List.length_take] at hi
      rw [Nat.zero_add]
      refine hc _ _ ?_ (fun z e => by cases e)
      rw [hcell i (by omega)]
      congr 2
      simp [List.getD_eq_getElem?_getD, List.getElem?_map, List.getElem?_take_of_lt (show i < len by omega), List.getElem?_eq_getElem (show i < ss.length by omega)]
    · have := bulk_strs (H := H) (ss.take len)
      simp only [Rows.uptoBulk, List.map_map, Function.comp_def]
      omega
end Go.Proofs.YtpbkdcfjlbdgfaaDoor
set_option linter.unusedVariables false
set_option linter.unusedSimpArgs false
namespace Go.Proofs.YtpbkdcfjlbdgfaaDoor
open Go Go.Ev
open Go.ChangeShapes Go.WideShapes Go.ChangeAt Go.RowKit
set_option maxRecDepth 100000
variable {H : Type} {enc : TypeId × Value → H}
theorem cells_q4 {c : Rdr} {W : World} {a : Addr} {k : Nat} {q : Q4} (hc : ∀ a u, W.cell? a = some u → (∀ z, u ≠ .int .u64 z) → c a u)
    (h0 : W.cell? (a.add k) = some (.int .i64 q.1)) (h1 : W.cell? (a.add (k + 1)) = some (.int .i64 q.2.1)) (h2 : W.cell? (a.add (k + 2)) = some (.int .i64 q.2.2.1)) (h3 : W.cell? (a.add (k + 3)) = some (.int .i64 q.2.2.2)) : RdCells c a k (q4Row q) := by
  simp only [q4Row, RdCells, Rd]
  exact ⟨⟨_, hc _ _ h0 (fun z e => by cases e), rfl, rfl⟩, ⟨_, hc _ _ h1 (fun z e => by cases e), rfl, rfl⟩, ⟨_, hc _ _ h2 (fun z e => by cases e), rfl, rfl⟩, ⟨_, hc _ _ h3 (fun z e => by cases e), rfl, rfl⟩, trivial⟩
open Go.Deep in
theorem openQ4 {b0 : Nat} {W : World} {c : Rdr} {t e : TypeId} {f0 f1 f2 f3 : Field} {v : Value} {d : DataW H} {p : List MemPlace} {m : Nat → Value} (hc : ∀ a u, W.cell? a = some u → (∀ z, u ≠ .int .u64 z) → c a u)
    (ht : Tryd.prog.underlying t = some (.slice e)) (he : Tryd.prog.underlying e = some (.struct #[f0, f1, f2, f3])) (hone : oneCellFields Tryd.prog #[f0, f1, f2, f3] = true) (h1 : Tryd.prog.cellsOf e = 4)
    (k0 : Tryd.prog.underlying f0.type = some (.int .i64)) (k1 : Tryd.prog.underlying f1.type = some (.int .i64)) (k2 : Tryd.prog.underlying f2.type = some (.int .i64)) (k3 : Tryd.prog.underlying f3.type = some (.int .i64))
    (hv : Value.okWide Tryd.prog W .any b0 t v) (h : DataW.Trod enc Tryd.prog W 0 (fun _ => true) true t v d p) :
    ∃ l : List Q4, Cn m 0 c (.d (.sl (q4Rows l))) v ∧ l.length + 1 ≤ Rows.uptoBulk d := by
  obtain ⟨a0, len, cap, rfl⟩ := okWide_slice ht hv
  obtain ⟨fuel, hf⟩ := h
  have hM : maxLen = 9223372036854775807 := by decide
  rcases open_slice ht hf with ⟨hcs, hx⟩ | ⟨a, len', cap', mm, n, D, Pl, hcs, _, hl, hm, hz, hx, hi⟩
  · simp [Value.cells] at hcs
    obtain ⟨rfl, rfl, rfl⟩ := hcs
    simp only [Prod.mk.injEq] at hx
    obtain ⟨rfl, rfl⟩ := hx
    exact ⟨[], by simp [Cn, Rd, q4Rows], by simp [Rows.uptoBulk]⟩
  · simp [Value.cells] at hcs
    obtain ⟨rfl, rfl, rfl⟩ := hcs
    simp only [Prod.mk.injEq] at hx
    obtain ⟨rfl, rfl⟩ := hx
    simp only [if_true] at hz
    subst hz
    have each : ∀ i, ∃ q : Q4, i < len → RdCells c a (i * 4) (q4Row q) := fun i => by
      by_cases him : i < len
      · obtain ⟨cs, hcc, htt⟩ := hi i (by omega)
        rw [h1] at hcc
        obtain ⟨ys, n', hn', hy, hlen, hyl, hff⟩ := DataW.trod_struct he htt
        obtain ⟨_, hcl, hat⟩ := World.cells?_some hcc
        have one : ∀ (j : Nat) (f : Field), (#[f0, f1, f2, f3])[j]? = some f → j < 4 → Tryd.prog.underlying f.type = some (.int .i64) → ∃ z, W.cell? (a.add (i * 4 + j)) = some (.int .i64 z) := fun j f hj hj4 hu => by
          obtain ⟨ho, hk⟩ := hone_of hone j f hj
          have h2 := hff j f hj
          rw [ho, hk, List.drop_eq_getElem_cons (by omega)] at h2
          have hys : ys[j]? = some (ys[j]'(by simp at hyl; omega)) := List.getElem?_eq_getElem _
          obtain ⟨z, hz, _, _⟩ := DataW.trod_int hu (h2.trans hys)
          simp only [List.take_succ_cons, List.take_zero, List.cons.injEq, and_true] at hz
          refine ⟨z, ?_⟩
          rw [← Go.Deep.add_add, hat j hj4, ← hz]
          exact List.getElem?_eq_getElem (by omega)
        obtain ⟨z0, e0⟩ := one 0 f0 rfl (by omega) k0
        obtain ⟨z1, e1⟩ := one 1 f1 rfl (by omega) k1
        obtain ⟨z2, e2⟩ := one 2 f2 rfl (by omega) k2
        obtain ⟨z3, e3⟩ := one 3 f3 rfl (by omega) k3
        exact ⟨(z0, z1, z2, z3), fun _ => cells_q4 hc e0 e1 e2 e3⟩
      · exact ⟨(0, 0, 0, 0), fun h => absurd h him⟩
    refine ⟨(List.range len).map fun i => Classical.choose (each i), ?_, ?_⟩
    · simp only [Cn, Rd]
      refine ⟨some a, mm, by rw [q4Rows_len]; simp, by rw [q4Rows_len]; simp; omega, by rw [q4Rows_len]; simp; omega, .inr ⟨a, 4, rfl, okWide_spot ht hv, rdQ4 fun i hi => ?_⟩⟩
      simp only [List.length_map, List.length_range] at hi
      rw [Nat.zero_add]
      have := Classical.choose_spec (each i) hi
      simpa [List.getD_eq_getElem?_getD, List.getElem?_map, List.getElem?_range hi] using this
    · have hbl : ∀ l : List (DataW H), l.length ≤ Rows.uptoBulkAll l := by
        intro l
        induction l with
        | nil => simp
        | cons x r ih =>
          have : 1 ≤ Rows.uptoBulk x := by
            cases x with
            | lit y => cases y <;> simp [Rows.uptoBulk]
            | _ => simp [Rows.uptoBulk]
          simp only [Rows.uptoBulkAll, List.length_cons]; omega
      have := hbl ((List.range len).map D)
      simp only [List.length_map, List.length_range] at this ⊢
      simp only [Rows.uptoBulk]
      omega
end Go.Proofs.YtpbkdcfjlbdgfaaDoor
set_option linter.unusedVariables false
set_option linter.unusedSimpArgs false
namespace Go.Proofs.YtpbkdcfjlbdgfaaDoor
open Go Go.Ev
open Go.ChangeShapes Go.WideShapes Go.ChangeAt Go.RowKit
open Go.ChangeMaps (open_string shut_string)
set_option maxRecDepth 100000
namespace NumNumbers
theorem own : ownKnob Tryd.prog.godebug = none := by kernel_rfl
theorem gTab : Tryd.prog.globalNamed "internal/strconv.uint64pow10" = some 6 := by kernel_rfl
theorem gTabType : (Tryd.prog.globals[6]?).map (·.type) = some 230 := by kernel_rfl
def GN (w : World) : Prop := Pow10 w ∧ ErrR w
noncomputable def HN : Hd GN := ⟨fun b => some b = Tryd.prog.globalNamed "internal/strconv.uint64pow10" ∨ some b = Tryd.prog.globalNamed "strconv.ErrRange", fun b => some b = Tryd.prog.globalNamed "internal/strconv.uint64pow10" ∨ some b = Tryd.prog.globalNamed "strconv.ErrRange", fun _ h => h, fun w w' h hb => by
  refine ⟨HP.st w w' h.1 fun b e => hb b (.inl e), ?_⟩
  obtain ⟨_, tp, p, h⟩ := h
  refine ⟨tp, p, ?_⟩
  unfold World.var? at h ⊢
  cases e : Tryd.prog.globalNamed "strconv.ErrRange" with
  | none => rw [e] at h; cases h
  | some g => rw [e] at h; simp only [Option.bind_some] at h ⊢; rw [hb g (.inr (by rw [e]))]; exact h⟩
theorem HN_lt {W : World} (h : GN W) {b : Nat} (hb : HN b) : b < W.heap.size := by
  rcases hb with hb | hb
  · exact HP_lt h.1 hb
  · obtain ⟨_, tp, p, h⟩ := h
    unfold World.var? at h
    rw [← hb] at h
    simp only [Option.bind_some] at h
    split at h
    · rename_i e
      exact (Array.getElem?_eq_some_iff.1 e).1
    · cases h
theorem size_eq (s : ByteArray) : s.data.toList.length = s.size := by rw [Array.length_toList]; rfl
theorem starE : "*" ++ "errors.errorString" = "*errors.errorString" := by decide
theorem rowE (u : TypeId) (h : Tryd.prog.typeName? 3 u = some "*errors.errorString") : u = 226 :=
  typeName_ptr_named (nm := "errors.errorString") (by rw [starE]; kernel_rfl) (by kernel_rfl) (by decide) u (by rw [starE]; exact h)
theorem gn {W : World} (h : laidMetH Tryd.prog Rows.numNumbersUptoRow.laid W) : GN W := by
  have h2 : laidMet Tryd.prog [("internal/strconv.uint64pow10", Rows.laid_internal_strconv_uint64pow10), ("strconv.ErrRange", Rows.laid_strconv_ErrRange), ("strconv.ErrSyntax", Rows.laid_strconv_ErrSyntax)] W := laidMet.tail (laidMet.tail h)
  refine ⟨Lib.tabIs_of_head (n := 20) (e := 64) gTab gTabType (by kernel_rfl) (by kernel_rfl) (by kernel_rfl) (by kernel_rfl) h2, ?_⟩
  obtain ⟨a, s, h3, _⟩ := laid_sentinel (g := 3) (ti := 47) (tp := 226) (te := 228) (ts := 9) (laidMet.tail h2) (by kernel_rfl) (by kernel_rfl) Tryd.underlying47 rowE Tryd.underlying226 Tryd.underlying228 rfl rfl Tryd.underlying9 (by kernel_rfl) (by kernel_rfl)
  exact ⟨_, _, h3⟩
end NumNumbers
end Go.Proofs.YtpbkdcfjlbdgfaaDoor
set_option linter.unusedVariables false
set_option linter.unusedSimpArgs false
namespace Go.Proofs.YtpbkdcfjlbdgfaaDoor
open Go Go.Ev
set_option maxRecDepth 100000
namespace LaidN
def vals : DataW Unit → Array Value
  | .agg l => (l.map fun x => match x with | .lit (.int k z) => Value.int k z | _ => undef).toArray
  | _ => #[]
def text : DataW Unit → ByteArray
  | .iface _ (.ptr (.agg [.lit (.string s)])) => ⟨s.toArray⟩
  | _ => ⟨#[]⟩
noncomputable def low (os : Os) : Nat := (World.holding Tryd.prog os ⟨#[], #[], []⟩).heap.size
noncomputable def laidWorld (os : Os) : World :=
  let w0 := World.holding Tryd.prog os ⟨#[.cells #[.string (text Rows.laid_strconv_ErrRange)] 228, .cells #[.string (text Rows.laid_strconv_ErrSyntax)] 228], #[], []⟩
  let put (h : Array Obj) (g : Nat) (cs : Array Value) : Array Obj := h.modify g fun
    | .cells _ t frozen => .cells cs t frozen
    | o => o
  let h1 := put w0.heap 6 (vals Rows.laid_internal_strconv_uint64pow10)
  let h2 := put h1 7 (vals Rows.laid_math_bits_deBruijn32tab)
  let h3 := put h2 8 (vals Rows.laid_math_bits_deBruijn64tab)
  let h4 := put h3 3 #[.iface 226 (.pointer (some ⟨low os, 0, none⟩))]
  let h5 := put h4 2 #[.iface 226 (.pointer (some ⟨low os + 1, 0, none⟩))]
  { w0 with heap := h5 }
end LaidN
end Go.Proofs.YtpbkdcfjlbdgfaaDoor
set_option linter.unusedVariables false
set_option linter.unusedSimpArgs false
namespace Go.Proofs.YtpbkdcfjlbdgfaaDoor
open Go Go.Ev
open Go.ChangeShapes Go.WideShapes Go.ChangeAt Go.RowKit
open Go.ChangeMaps (open_string shut_string)
set_option maxRecDepth 100000
namespace NumBack
open NumNumbers (GN HN HN_lt size_eq gn own)
theorem contract (H : Type) (enc : TypeId × Value → H) (W : World) (base : Nat) (args : Array Value) (ds gs : List (DataW H)) (before : List MemPlace)
    (hval : ∀ (j : Nat) t v, Tryd.f11.params[j]? = some t → args[j]? = some v → Value.okWide Tryd.prog W .any base t v)
    (hW : DataW.Whole enc Tryd.prog Tryd.f11.params.toList Rows.numBackSpec.vars false W args.toList ds gs before) (hk : Rows.uptoSmall H (ds ++ gs) = true) (hP : GN W) :
    Calls Tryd.prog 11 args W fun e W' => ∃ v, e = .returned v ∧ Rows.numBackSpec.post enc Tryd.prog Tryd.f11 false true false false W args v W' := by
  have hW' := hW
  obtain ⟨p, q, hA0, hV, rfl, hfz, hnd⟩ := hW
  have hA : DataW.TrodAll enc Tryd.prog W 0 (fun _ => true) true Tryd.f11.params.toList args.toList ds p := hA0
  rw [Tryd.params11] at hA hval
  obtain ⟨v0, vs0, d0, ds0, p0, q0, hargs0, rfl, rfl, h0, r0⟩ := trodAll_cons hA
  obtain ⟨v1, vs1, d1, ds1, p1, q1, hargs1, rfl, rfl, h1, r1⟩ := trodAll_cons r0
  obtain ⟨v2, vs2, d2, ds2, p2, q2, hargs2, rfl, rfl, h2, r2⟩ := trodAll_cons r1
  obtain ⟨rfl, rfl, rfl⟩ := trodAll_nil r2
  obtain rfl : args = #[v0, v1, v2] := by cases args; simp_all
  obtain ⟨rfl, rfl⟩ := trodVars_none hV
  have u3 : Tryd.prog.underlying 3 = some (.int .i64) := Tryd.underlying3
  have u9 : Tryd.prog.underlying 9 = some .string := Tryd.underlying9
  obtain ⟨x0, rfl, rfl, rfl, hm0⟩ := open_int u3 (hval 0 3 v0 rfl rfl) h0
  obtain ⟨x1, rfl, rfl, rfl, hm1⟩ := open_string u9 (hval 1 9 v1 rfl rfl) h1
  obtain ⟨x2, rfl, rfl, rfl, hm2⟩ := open_string u9 (hval 2 9 v2 rfl rfl) h2
  clear hA0
  simp only [List.append_nil] at hW'
  have hb : Rows.uptoBulkAll [DataW.lit (H := H) (.int .i64 x0), DataW.lit (H := H) (.string x1.data.toList), DataW.lit (H := H) (.string x2.data.toList)] ≤ 1048576 := of_decide_eq_true hk
  simp only [Rows.uptoBulkAll, Rows.uptoBulk, size_eq] at hb
  have hn0 : -9223372036854775808 ≤ x0 ∧ x0 ≤ 9223372036854775807 := by
    have e1 : IntKind.i64.min = -9223372036854775808 := by decide
    have e2 : IntKind.i64.max = 9223372036854775807 := by decide
    have hm := hm0
    simp [Lit.wf, e1, e2] at hm
    exact hm
  refine (law_calls HN (s11 (G := GN) (fun w h => h.1) (fun w h => h.2)) (args := [.d (.v (.int .i64 x0)), .d (.v (.string x1)), .d (.v (.string x2))]) (vs := [.int .i64 x0, .string x1, .string x2]) (W := W) hP (fun b hb => HN_lt hP hb) ⟨rfl, by refine ⟨?_, ?_⟩ <;> omega, rfl⟩ (by simp [CnL, Cn, Rd, Value.oneCell'])).mono fun e W' ⟨he, hg⟩ => ?_
  subst he
  have u4 : Tryd.prog.underlying 4 = some .bool := by kernel_rfl
  exact ⟨_, rfl, post_of_below (pa := []) (pv := []) hW' (fun _ _ _ => (trodAll_cons_mk (shut_bool u4 _) trodAll_mk0)) (fun _ _ => trodAll_cons_mk (shut_int u3 hm0) (trodAll_cons_mk (shut_string u9 hm1) (trodAll_cons_mk (shut_string u9 hm2) trodAll_mk0))) (fun _ _ => rfl) rfl
    hg (ok_one (by kernel_rfl) rfl (okWide_bool_mk u4 _))⟩
abbrev wargs : Array Value := #[.int .i64 0, .string .empty, .string .empty]
theorem laid_met (os : Os) : laidMet Tryd.prog Rows.numBackUptoRow.laid ((LaidN.laidWorld os).forCall (fun _ _ => 0) ⟨#[], wargs, []⟩).memory :=
  laidMet_of_run' 8 (by kernel_rfl) (by kernel_rfl)
theorem reads (os : Os) {H : Type} (enc : TypeId × Value → H) : ∃ places, DataW.whole enc Tryd.prog ((LaidN.laidWorld os).forCall (fun _ _ => 0) ⟨#[], wargs, []⟩).memory Tryd.f11.params.toList Rows.numBackSpec.vars false wargs.toList 8 = some ([.lit (.int .i64 0), .lit (.string []), .lit (.string [])], [], places) :=
  ⟨[], by kernel_rfl⟩
theorem liftedUpto (os : Os) (started : os.Started) (H : Type) (enc : TypeId × Value → H) (F : Stop.Interp) :
    ReturnsInHanded {} Tryd.checked os 11 .any ((Rows.OpenSpec.upto Rows.numBackSpec).preRow enc Tryd.prog Tryd.f11 Rows.numBackUptoRow.domain false Rows.numBackUptoRow.laid) (((Rows.OpenSpec.upto Rows.numBackSpec).at F).post enc Tryd.prog Tryd.f11 false true false false) := by
  obtain ⟨places, hx⟩ := reads os enc
  refine returnsInHanded_of_row (C := Tryd.checked) (s := Rows.OpenSpec.upto Rows.numBackSpec) own started (by kernel_rfl) Tryd.func11
    (witness_row_atRef (enc := enc) (C := Tryd.checked) false (LaidN.laidWorld os) wargs rfl (by kernel_rfl) (by kernel_rfl) (by kernel_rfl)
      (OpenSpec.preRow_of_cond 8 hx (by kernel_rfl) (fun k hk => by cases hk; kernel_rfl) (by kernel_rfl) (laid_met os))) ?_
  intro W base args ds gs before hval hW _ hcond _ hL _ _
  exact contract H enc W base args ds gs before hval hW (hcond _ rfl) (gn hL)
theorem saidUpto : Rows.NumBackUptoSaid :=
  OpenClaim.holds_of_cond 11 Tryd.f11 rfl rfl rfl rfl rfl rfl rfl ⟨rfl, rfl, rfl, rfl, rfl⟩ rfl rfl rfl rfl rfl (by kernel_rfl) Tryd.func11 (by kernel_rfl)
    (of_decide_eq_true (by kernel_rfl)) (by unfold Func.isWrapper; first | (rw [if_pos (by decide +kernel)]; kernel_rfl) | (rw [if_neg (by decide +kernel)]; exact ⟨rfl, rfl⟩))
    (fun os started H enc _ F => by rw [OpenClaim.pre_eq_preRow]; exact liftedUpto os started H enc F)
theorem plain (f : FuncId) (fn : Func) (hf : Tryd.pinned.checked.prog.funcNamed "redline/redlinelaw01.NumBack" = some f) (hfn : Tryd.pinned.checked.prog.funcs[f]? = some fn) :
    true = Tryd.pinned.checked.prog.looks [] ∧ ∀ (j : Nat) t, fn.params[j]? = some t → Tryd.pinned.checked.prog.wantsStandIn t = false := by
  obtain rfl : f = 11 := Option.some.inj ((show Tryd.prog.funcNamed "redline/redlinelaw01.NumBack" = some 11 by kernel_rfl).symm.trans hf) |>.symm
  obtain rfl : fn = Tryd.f11 := (Option.some.inj (Tryd.func11.symm.trans hfn)).symm
  refine ⟨by kernel_rfl, fun j t ht => ?_⟩
  have hall : (Tryd.f11.params.toList.all fun u => !Tryd.prog.wantsStandIn u) = true := by kernel_rfl
  have hm : t ∈ Tryd.f11.params.toList := by simpa using Array.mem_of_getElem? ht
  exact (show Tryd.prog.wantsStandIn t = false by simpa using List.all_eq_true.1 hall t hm)
theorem cardUpto : Rows.NumBackUptoCardSaid :=
  Claim7.holds_tied_plain_at .later [] _ _ _ _ saidUpto (fun _ h => by cases h) (by kernel_rfl) (fun _ h => by cases h) numBackUpto_row_tie rfl ⟨rfl, rfl⟩ (by kernel_rfl) rfl plain (by kernel_rfl)
end NumBack
end Go.Proofs.YtpbkdcfjlbdgfaaDoor
