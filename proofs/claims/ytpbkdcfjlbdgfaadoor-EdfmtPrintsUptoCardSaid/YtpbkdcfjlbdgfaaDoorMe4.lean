/- Edit scripts are written as commands of an editor. Part 4 of 4. -/
import Derived.Test.YtpbkdcfjlbdgfaaDoorProg
import Derived.SliceStrings
import Derived.Lib.LaidTab
import Derived.Below
import Derived.ChangeSame
import Derived.ProofKit
import Derived.OpenShut
import Derived.Test.YtpbkdcfjlbdgfaaDoorRows
import Derived.WalkKit
import Derived.Deep.Slices
import Derived.Deep.Fields
import Derived.JoinedCond
import Derived.Test.YtpbkdcfjlbdgfaaDoorCards
import Derived.Test.YtpbkdcfjlbdgfaaDoorTie
import Derived.Deep.DeepHandedRow
import Derived.Stop.LaidErr
import Derived.Test.YtpbkdcfjlbdgfaaDoorMe1
import Derived.Test.YtpbkdcfjlbdgfaaDoorMe2
import Derived.Test.YtpbkdcfjlbdgfaaDoorMe3
set_option linter.unusedVariables false
set_option linter.unusedSimpArgs false
namespace Go.Proofs.YtpbkdcfjlbdgfaaDoor
open Go Go.Ev
set_option maxRecDepth 100000
variable {G : World → Prop}
def rcsA (A AN : Int) : List UInt8 := if 0 < AN then [100] ++ Lib.itoa (A + 1) ++ [32] ++ Lib.itoa AN ++ [10] else []
def rcsB (A AN B BN : Int) (b : List (List UInt8)) : List UInt8 := if 0 < BN then [97] ++ Lib.itoa (A + AN) ++ [32] ++ Lib.itoa BN ++ [10] ++ (part b B.toNat BN.toNat).flatten else []
/-- A change in the form of archives. -/
def rcsC (b : List (List UInt8)) (c : Q4) : List UInt8 := rcsA c.1 c.2.1 ++ rcsB c.1 c.2.1 c.2.2.1 c.2.2.2 b
def rcsT (l : List Q4) (b : List (List UInt8)) : List UInt8 := l.flatMap (rcsC b)
theorem rcs_snoc {l : List Q4} {i : Nat} (b : List (List UInt8)) (h : i < l.length) : rcsT (l.take (i + 1)) b = rcsT (l.take i) b ++ rcsC b (l.getD i (0, 0, 0, 0)) := by
  rw [rcsT, List.take_succ_eq_append_getElem h, List.flatMap_append]
  simp [rcsT, List.getD_eq_getElem?_getD, List.getElem?_eq_getElem h]
theorem rcs_le (l : List Q4) (b : List (List UInt8)) (i : Nat) : (rcsT (l.take i) b).length ≤ (rcsT l b).length := by
  conv => rhs; rw [← List.take_append_drop i l, rcsT, List.flatMap_append, List.length_append]
  exact Nat.le_add_right _ _
def CRcs : Contract := pureC fun args => match args with
  | [.d (.sl rows), .d (.sl a), .d (.sl b)] => (unQ4 rows).bind fun l => (unStr a).bind fun x => (unStr b).map fun y =>
      ((l.length ≤ 1099511627776 ∧ x.length ≤ 1099511627776 ∧ y.length ≤ 1099511627776) ∧ y.flatten.length ≤ 70368744177664 ∧ (chk l x.length y.length = 0 → (rcsT l y).length ≤ 70368744177664),
        .tup [.d (.v (str (if chk l x.length y.length = 0 then rcsT l y else []))), .d (.v (.int .i64 (chk l x.length y.length)))])
  | _ => none
theorem part_flat (b : List (List UInt8)) (x n : Nat) : (part b x n).flatten.length ≤ b.flatten.length := by
  unfold part
  conv => rhs; rw [← List.take_append_drop x b, List.flatten_append, List.length_append]
  exact Nat.le_trans (flat_le _ _) (Nat.le_add_left _ _)
set_option maxHeartbeats 1000000 in
theorem s17 : Sound G Tryd.prog 17 CRcs := by
  refine sd17 (T := tabT [(46, CCheck), (33, CItoa), (49, CJoin)]) (tab_cons s46 (tab_cons s33 (tab_cons s49 tab_nil))) (pureC_lawful _) (pure_hX fun args p x K h hp hk => ?_)
  split at h <;> simp only [Option.bind_eq_some_iff, Option.map_eq_some_iff, Prod.mk.injEq, reduceCtorEq] at h
  obtain ⟨l, hl, a, ha, b, hb, rfl, rfl⟩ := h
  rw [unQ4_eq hl, unStr_eq ha, unStr_eq hb] at *
  obtain ⟨⟨h1, h2, h3⟩, h4, h6⟩ := hp
  refine ⟨Nat.le_of_ble_eq_true rfl, ?_⟩
  rcases chk_zero l a.length b.length with hz | hz
  · have hall := chk_all hz
    have hlen := h6 hz
    rw [if_pos hz, hz] at hk
    simp -dsimp -implicitDefEqProofs only [S17, S17_0, S17r1, S17_1, S17r2, S17_2, S17r3, S17_3, S17r4, S17_4, S17r5, S17_5, S17r6, R17, CCheck, unQ4_rows, strRows_len, q4Rows_len, hz, ↓Ev.xStp_eq, ↓Ev.P, Ev.Q, eq_self, forall_eq_or_imp, implies_true, forall_const, forall_eq, ↓reduceIte, reduceIte, Nat.reduceEqDiff, Nat.reduceAdd, reduceCtorEq, Nat.reduceSub, Int.reduceToNat, Int.reduceLE, Int.reduceLT, Int.reduceNeg, Nat.reduceBEq, Nat.reduceMul, Nat.reduceLeDiff, Nat.reduceMod, UInt8.reduceOfNat, Nat.reduceLT, Int.reduceEq, Int.reduceAdd, Int.reduceSub, Int.reduceMul]
    refine ⟨by omega, ?_⟩
    refine xLoop_intro (fun k st => ∃ i : Nat, i ≤ l.length ∧ k = l.length - i ∧
      st = ⟨[(0, .d (.sl (q4Rows l))), (2, .d (.sl (strRows b))), (9, .d (.v (.string ⟨(rcsT (l.take i) b).toArray⟩))), (10, .d (.v (.int .i64 i)))], 0, []⟩) l.length [] ?_ ?_ ?_
    · simp -dsimp -implicitDefEqProofs only [↓Ev.xStp_eq, ↓Ev.P, Ev.Q, eq_self, forall_eq_or_imp, implies_true, forall_const, forall_eq, ↓reduceIte, reduceIte, Nat.reduceEqDiff, Nat.reduceAdd, reduceCtorEq, Nat.reduceSub, Int.reduceToNat, Int.reduceLE, Int.reduceLT, Int.reduceNeg, Nat.reduceBEq, Nat.reduceMul, Nat.reduceLeDiff, Nat.reduceMod, UInt8.reduceOfNat, Nat.reduceLT, Int.reduceEq, Int.reduceAdd, Int.reduceSub, Int.reduceMul]
    · simp -dsimp -implicitDefEqProofs only [↓Ev.xStp_eq, ↓Ev.P, Ev.Q, eq_self, forall_eq_or_imp, implies_true, forall_const, forall_eq, ↓reduceIte, reduceIte, Nat.reduceEqDiff, Nat.reduceAdd, reduceCtorEq, Nat.reduceSub, Int.reduceToNat, Int.reduceLE, Int.reduceLT, Int.reduceNeg, Nat.reduceBEq, Nat.reduceMul, Nat.reduceLeDiff, Nat.reduceMod, UInt8.reduceOfNat, Nat.reduceLT, Int.reduceEq, Int.reduceAdd, Int.reduceSub, Int.reduceMul]
      exact ⟨0, by omega, by omega, by simp [rcsT]⟩
    · rintro k st ⟨i, hi, hk2, rfl⟩
      by_cases hil : i < l.length
      · have hi3 : (i : Int) < l.length := by omega
        have hg := q4Rows_get hil
        have hsn := rcs_snoc b hil
        have hle := rcs_le l b (i + 1)
        obtain ⟨⟨b1, b2, b3, b4, b5⟩, b6, b7⟩ := hall _ (q4_mem hil)
        rw [hsn, List.length_append] at hle
        generalize l.getD i (0, 0, 0, 0) = c at hg hsn hle b1 b2 b3 b4 b5 b6 b7
        obtain ⟨A, AN, B, BN⟩ := c
        simp only at b1 b2 b3 b4 b5 b6 b7
        unfold rcsC at hle hsn
        simp only [List.length_append] at hle hsn
        obtain ⟨B, rfl⟩ := Int.eq_ofNat_of_zero_le b3.1
        obtain ⟨BN, rfl⟩ := Int.eq_ofNat_of_zero_le b4.1
        have rB : List.drop B (List.take ((B : Int) + (BN : Int)).toNat (strRows b)) = strRows (part b B BN) := by
          rw [show ((B : Int) + (BN : Int)).toNat = B + BN by omega, part_rows]
        have pB := part_len b B BN
        have pF := part_flat b B BN
        have g1 := itoa_len (n := A + 1) (by omega)
        have g2 := itoa_len (n := AN) (by omega)
        have g3 := itoa_len (n := A + AN) (by omega)
        have g4 := itoa_len (n := (BN : Int)) (by omega)
        by_cases hzA : 0 < AN
        · rw [rcsA, if_pos hzA] at hle hsn
          by_cases hzB : (0 : Int) < BN
          · rw [rcsB, if_pos hzB] at hle hsn
            simp only [List.length_append, List.length_cons, List.length_nil, Int.toNat_natCast] at hle
            simp -dsimp -implicitDefEqProofs only [hg, hi3, q4Row, q4Rows_len, CItoa, CJoin, unStr_rows, strRows_len, strRows_all, rB, part_rows, hzA, hzB, List.length_append, Ev.St.giveC, ↓Ev.P, Ev.Q, eq_self, forall_eq_or_imp, implies_true, forall_const, forall_eq, ↓reduceIte, reduceIte, Nat.reduceEqDiff, Nat.reduceAdd, reduceCtorEq, Nat.reduceSub, Int.reduceToNat, Int.reduceLE, Int.reduceLT, Int.reduceNeg, Nat.reduceBEq, Nat.reduceMul, Nat.reduceLeDiff, Nat.reduceMod, UInt8.reduceOfNat, Nat.reduceLT, Int.reduceEq, Int.reduceAdd, Int.reduceSub, Int.reduceMul]
            repeat' (first | with_reducible assumption | refine And.intro ?_ ?_ | intro _ | (rw [Ev.xStp_eq]; simp -dsimp -implicitDefEqProofs only [hg, hi3, q4Row, q4Rows_len, CItoa, CJoin, unStr_rows, strRows_len, strRows_all, rB, part_rows, hzA, hzB, List.length_append, Ev.St.giveC, ↓Ev.P, Ev.Q, eq_self, forall_eq_or_imp, implies_true, forall_const, forall_eq, ↓reduceIte, reduceIte, Nat.reduceEqDiff, Nat.reduceAdd, reduceCtorEq, Nat.reduceSub, Int.reduceToNat, Int.reduceLE, Int.reduceLT, Int.reduceNeg, Nat.reduceBEq, Nat.reduceMul, Nat.reduceLeDiff, Nat.reduceMod, UInt8.reduceOfNat, Nat.reduceLT, Int.reduceEq, Int.reduceAdd, Int.reduceSub, Int.reduceMul]))
            all_goals try omega
            refine xAgain_intro (l.length - (i + 1)) [] (by omega) (by simp -dsimp -implicitDefEqProofs only [↓Ev.xStp_eq, ↓Ev.P, Ev.Q, eq_self, forall_eq_or_imp, implies_true, forall_const, forall_eq, ↓reduceIte, reduceIte, Nat.reduceEqDiff, Nat.reduceAdd, reduceCtorEq, Nat.reduceSub, Int.reduceToNat, Int.reduceLE, Int.reduceLT, Int.reduceNeg, Nat.reduceBEq, Nat.reduceMul, Nat.reduceLeDiff, Nat.reduceMod, UInt8.reduceOfNat, Nat.reduceLT, Int.reduceEq, Int.reduceAdd, Int.reduceSub, Int.reduceMul]) ⟨i + 1, by omega, rfl, ?_⟩
            rw [hsn]
            simp -dsimp -implicitDefEqProofs only [↓Ev.xStp_eq, ↓Ev.P, Ev.Q, eq_self, forall_eq_or_imp, implies_true, forall_const, forall_eq, ↓reduceIte, reduceIte, Nat.reduceEqDiff, Nat.reduceAdd, reduceCtorEq, Nat.reduceSub, Int.reduceToNat, Int.reduceLE, Int.reduceLT, Int.reduceNeg, Nat.reduceBEq, Nat.reduceMul, Nat.reduceLeDiff, Nat.reduceMod, UInt8.reduceOfNat, Nat.reduceLT, Int.reduceEq, Int.reduceAdd, Int.reduceSub, Int.reduceMul]
            simp [Nat.add_assoc]
          · rw [rcsB, if_neg hzB] at hle hsn
            simp only [List.length_append, List.length_cons, List.length_nil, Int.toNat_natCast] at hle
            simp -dsimp -implicitDefEqProofs only [hg, hi3, q4Row, q4Rows_len, CItoa, CJoin, unStr_rows, strRows_len, strRows_all, rB, part_rows, hzA, hzB, List.length_append, Ev.St.giveC, ↓Ev.P, Ev.Q, eq_self, forall_eq_or_imp, implies_true, forall_const, forall_eq, ↓reduceIte, reduceIte, Nat.reduceEqDiff, Nat.reduceAdd, reduceCtorEq, Nat.reduceSub, Int.reduceToNat, Int.reduceLE, Int.reduceLT, Int.reduceNeg, Nat.reduceBEq, Nat.reduceMul, Nat.reduceLeDiff, Nat.reduceMod, UInt8.reduceOfNat, Nat.reduceLT, Int.reduceEq, Int.reduceAdd, Int.reduceSub, Int.reduceMul]
            repeat' (first | with_reducible assumption | refine And.intro ?_ ?_ | intro _ | (rw [Ev.xStp_eq]; simp -dsimp -implicitDefEqProofs only [hg, hi3, q4Row, q4Rows_len, CItoa, CJoin, unStr_rows, strRows_len, strRows_all, rB, part_rows, hzA, hzB, List.length_append, Ev.St.giveC, ↓Ev.P, Ev.Q, eq_self, forall_eq_or_imp, implies_true, forall_const, forall_eq, ↓reduceIte, reduceIte, Nat.reduceEqDiff, Nat.reduceAdd, reduceCtorEq, Nat.reduceSub, Int.reduceToNat, Int.reduceLE, Int.reduceLT, Int.reduceNeg, Nat.reduceBEq, Nat.reduceMul, Nat.reduceLeDiff, Nat.reduceMod, UInt8.reduceOfNat, Nat.reduceLT, Int.reduceEq, Int.reduceAdd, Int.reduceSub, Int.reduceMul]))
            all_goals try omega
            refine xAgain_intro (l.length - (i + 1)) [] (by omega) (by simp -dsimp -implicitDefEqProofs only [↓Ev.xStp_eq, ↓Ev.P, Ev.Q, eq_self, forall_eq_or_imp, implies_true, forall_const, forall_eq, ↓reduceIte, reduceIte, Nat.reduceEqDiff, Nat.reduceAdd, reduceCtorEq, Nat.reduceSub, Int.reduceToNat, Int.reduceLE, Int.reduceLT, Int.reduceNeg, Nat.reduceBEq, Nat.reduceMul, Nat.reduceLeDiff, Nat.reduceMod, UInt8.reduceOfNat, Nat.reduceLT, Int.reduceEq, Int.reduceAdd, Int.reduceSub, Int.reduceMul]) ⟨i + 1, by omega, rfl, ?_⟩
            rw [hsn]
            simp -dsimp -implicitDefEqProofs only [↓Ev.xStp_eq, ↓Ev.P, Ev.Q, eq_self, forall_eq_or_imp, implies_true, forall_const, forall_eq, ↓reduceIte, reduceIte, Nat.reduceEqDiff, Nat.reduceAdd, reduceCtorEq, Nat.reduceSub, Int.reduceToNat, Int.reduceLE, Int.reduceLT, Int.reduceNeg, Nat.reduceBEq, Nat.reduceMul, Nat.reduceLeDiff, Nat.reduceMod, UInt8.reduceOfNat, Nat.reduceLT, Int.reduceEq, Int.reduceAdd, Int.reduceSub, Int.reduceMul]
            simp [Nat.add_assoc]
        · rw [rcsA, if_neg hzA] at hle hsn
          by_cases hzB : (0 : Int) < BN
          · rw [rcsB, if_pos hzB] at hle hsn
            simp only [List.length_append, List.length_cons, List.length_nil, Int.toNat_natCast] at hle
            simp -dsimp -implicitDefEqProofs only [hg, hi3, q4Row, q4Rows_len, CItoa, CJoin, unStr_rows, strRows_len, strRows_all, rB, part_rows, hzA, hzB, List.length_append, Ev.St.giveC, ↓Ev.P, Ev.Q, eq_self, forall_eq_or_imp, implies_true, forall_const, forall_eq, ↓reduceIte, reduceIte, Nat.reduceEqDiff, Nat.reduceAdd, reduceCtorEq, Nat.reduceSub, Int.reduceToNat, Int.reduceLE, Int.reduceLT, Int.reduceNeg, Nat.reduceBEq, Nat.reduceMul, Nat.reduceLeDiff, Nat.reduceMod, UInt8.reduceOfNat, Nat.reduceLT, Int.reduceEq, Int.reduceAdd, Int.reduceSub, Int.reduceMul]
            repeat' (first | with_reducible assumption | refine And.intro ?_ ?_ | intro _ | (rw [Ev.xStp_eq]; simp -dsimp -implicitDefEqProofs only [hg, hi3, q4Row, q4Rows_len, CItoa, CJoin, unStr_rows, strRows_len, strRows_all, rB, part_rows, hzA, hzB, List.length_append, Ev.St.giveC, ↓Ev.P, Ev.Q, eq_self, forall_eq_or_imp, implies_true, forall_const, forall_eq, ↓reduceIte, reduceIte, Nat.reduceEqDiff, Nat.reduceAdd, reduceCtorEq, Nat.reduceSub, Int.reduceToNat, Int.reduceLE, Int.reduceLT, Int.reduceNeg, Nat.reduceBEq, Nat.reduceMul, Nat.reduceLeDiff, Nat.reduceMod, UInt8.reduceOfNat, Nat.reduceLT, Int.reduceEq, Int.reduceAdd, Int.reduceSub, Int.reduceMul]))
            all_goals try omega
            refine xAgain_intro (l.length - (i + 1)) [] (by omega) (by simp -dsimp -implicitDefEqProofs only [↓Ev.xStp_eq, ↓Ev.P, Ev.Q, eq_self, forall_eq_or_imp, implies_true, forall_const, forall_eq, ↓reduceIte, reduceIte, Nat.reduceEqDiff, Nat.reduceAdd, reduceCtorEq, Nat.reduceSub, Int.reduceToNat, Int.reduceLE, Int.reduceLT, Int.reduceNeg, Nat.reduceBEq, Nat.reduceMul, Nat.reduceLeDiff, Nat.reduceMod, UInt8.reduceOfNat, Nat.reduceLT, Int.reduceEq, Int.reduceAdd, Int.reduceSub, Int.reduceMul]) ⟨i + 1, by omega, rfl, ?_⟩
            rw [hsn]
            simp -dsimp -implicitDefEqProofs only [↓Ev.xStp_eq, ↓Ev.P, Ev.Q, eq_self, forall_eq_or_imp, implies_true, forall_const, forall_eq, ↓reduceIte, reduceIte, Nat.reduceEqDiff, Nat.reduceAdd, reduceCtorEq, Nat.reduceSub, Int.reduceToNat, Int.reduceLE, Int.reduceLT, Int.reduceNeg, Nat.reduceBEq, Nat.reduceMul, Nat.reduceLeDiff, Nat.reduceMod, UInt8.reduceOfNat, Nat.reduceLT, Int.reduceEq, Int.reduceAdd, Int.reduceSub, Int.reduceMul]
            simp [Nat.add_assoc]
          · omega
      · have hi3 : ¬ (i : Int) < l.length := by omega
        simp -dsimp -implicitDefEqProofs only [hi3, q4Rows_len, ↓Ev.xStp_eq, ↓Ev.P, Ev.Q, eq_self, forall_eq_or_imp, implies_true, forall_const, forall_eq, ↓reduceIte, reduceIte, Nat.reduceEqDiff, Nat.reduceAdd, reduceCtorEq, Nat.reduceSub, Int.reduceToNat, Int.reduceLE, Int.reduceLT, Int.reduceNeg, Nat.reduceBEq, Nat.reduceMul, Nat.reduceLeDiff, Nat.reduceMod, UInt8.reduceOfNat, Nat.reduceLT, Int.reduceEq, Int.reduceAdd, Int.reduceSub, Int.reduceMul]
        rw [List.take_of_length_le (by omega)]
        exact hk
  · have hz' : ¬ (50 : Int) = 0 := by omega
    rw [if_neg (by rw [hz]; exact hz'), hz] at hk
    simp -dsimp -implicitDefEqProofs only [S17, S17_0, S17r1, S17_1, S17r2, S17_2, S17r3, S17_3, S17r4, S17_4, S17r5, S17_5, S17r6, R17, CCheck, unQ4_rows, strRows_len, q4Rows_len, hz, hz', ↓Ev.xStp_eq, ↓Ev.P, Ev.Q, eq_self, forall_eq_or_imp, implies_true, forall_const, forall_eq, ↓reduceIte, reduceIte, Nat.reduceEqDiff, Nat.reduceAdd, reduceCtorEq, Nat.reduceSub, Int.reduceToNat, Int.reduceLE, Int.reduceLT, Int.reduceNeg, Nat.reduceBEq, Nat.reduceMul, Nat.reduceLeDiff, Nat.reduceMod, UInt8.reduceOfNat, Nat.reduceLT, Int.reduceEq, Int.reduceAdd, Int.reduceSub, Int.reduceMul]
    exact ⟨by omega, hk⟩
end Go.Proofs.YtpbkdcfjlbdgfaaDoor
set_option linter.unusedVariables false
set_option linter.unusedSimpArgs false
namespace Go.Proofs.YtpbkdcfjlbdgfaaDoor
open Go Go.Ev
set_option maxRecDepth 100000
variable {G : World → Prop}
set_option maxHeartbeats 1000000 in
theorem s16 (hG : ∀ w, G w → Pow10 w) : Sound G Tryd.prog 16 CRcs := by
  refine sd16 (T := tabT [(41, CCheck), (32, CItoa), (48, CJoin), (43, bldC gWS), (45, strC 5)]) (tab_cons s41 (tab_cons (s32 hG) (tab_cons s48 (tab_cons sWS (tab_cons sST tab_nil))))) (pureC_lawful _) (pure_hX fun args p x K h hp hk => ?_)
  split at h <;> simp only [Option.bind_eq_some_iff, Option.map_eq_some_iff, Prod.mk.injEq, reduceCtorEq] at h
  obtain ⟨l, hl, a, ha, b, hb, rfl, rfl⟩ := h
  rw [unQ4_eq hl, unStr_eq ha, unStr_eq hb] at *
  obtain ⟨⟨h1, h2, h3⟩, h4, h6⟩ := hp
  refine ⟨Nat.le_of_ble_eq_true rfl, ?_⟩
  rcases chk_zero l a.length b.length with hz | hz
  · have hall := chk_all hz
    have hlen := h6 hz
    rw [if_pos hz, hz] at hk
    simp -dsimp -implicitDefEqProofs only [S16, S16_0, S16r1, S16_1, S16r2, S16_2, S16r3, S16_3, S16r4, S16_4, S16r5, R16, CCheck, unQ4_rows, strRows_len, q4Rows_len, hz, ↓Ev.xStp_eq, ↓Ev.P, Ev.Q, eq_self, forall_eq_or_imp, implies_true, forall_const, forall_eq, ↓reduceIte, reduceIte, Nat.reduceEqDiff, Nat.reduceAdd, reduceCtorEq, Nat.reduceSub, Int.reduceToNat, Int.reduceLE, Int.reduceLT, Int.reduceNeg, Nat.reduceBEq, Nat.reduceMul, Nat.reduceLeDiff, Nat.reduceMod, UInt8.reduceOfNat, Nat.reduceLT, Int.reduceEq, Int.reduceAdd, Int.reduceSub, Int.reduceMul]
    refine ⟨by omega, ?_⟩
    refine xLoop_intro (fun k st => ∃ i : Nat, i ≤ l.length ∧ k = l.length - i ∧
      st = ⟨[(2, .d (.sl (strRows b))), (9, .ptr 0 0), (21, .d (.sl (q4Rows l))), (22, .d (.v (.int .i64 l.length))), (23, .d (.v (.int .i64 i)))], 1, [(0, .bld 70 5 (rcsT (l.take i) b))]⟩) l.length [0] ?_ ?_ ?_
    · simp -dsimp -implicitDefEqProofs only [↓Ev.xStp_eq, ↓Ev.P, Ev.Q, eq_self, forall_eq_or_imp, implies_true, forall_const, forall_eq, ↓reduceIte, reduceIte, Nat.reduceEqDiff, Nat.reduceAdd, reduceCtorEq, Nat.reduceSub, Int.reduceToNat, Int.reduceLE, Int.reduceLT, Int.reduceNeg, Nat.reduceBEq, Nat.reduceMul, Nat.reduceLeDiff, Nat.reduceMod, UInt8.reduceOfNat, Nat.reduceLT, Int.reduceEq, Int.reduceAdd, Int.reduceSub, Int.reduceMul]
    · simp -dsimp -implicitDefEqProofs only [↓Ev.xStp_eq, ↓Ev.P, Ev.Q, eq_self, forall_eq_or_imp, implies_true, forall_const, forall_eq, ↓reduceIte, reduceIte, Nat.reduceEqDiff, Nat.reduceAdd, reduceCtorEq, Nat.reduceSub, Int.reduceToNat, Int.reduceLE, Int.reduceLT, Int.reduceNeg, Nat.reduceBEq, Nat.reduceMul, Nat.reduceLeDiff, Nat.reduceMod, UInt8.reduceOfNat, Nat.reduceLT, Int.reduceEq, Int.reduceAdd, Int.reduceSub, Int.reduceMul]
      exact ⟨0, by omega, by omega, by simp [rcsT]⟩
    · rintro k st ⟨i, hi, hk2, rfl⟩
      by_cases hil : i < l.length
      · have hi3 : (i : Int) < l.length := by omega
        have hg := q4Rows_get hil
        have hsn := rcs_snoc b hil
        have hle := rcs_le l b (i + 1)
        obtain ⟨⟨b1, b2, b3, b4, b5⟩, b6, b7⟩ := hall _ (q4_mem hil)
        rw [hsn, List.length_append] at hle
        generalize l.getD i (0, 0, 0, 0) = c at hg hsn hle b1 b2 b3 b4 b5 b6 b7
        obtain ⟨A, AN, B, BN⟩ := c
        simp only at b1 b2 b3 b4 b5 b6 b7
        unfold rcsC at hle hsn
        simp only [List.length_append] at hle hsn
        obtain ⟨B, rfl⟩ := Int.eq_ofNat_of_zero_le b3.1
        obtain ⟨BN, rfl⟩ := Int.eq_ofNat_of_zero_le b4.1
        have rB : List.drop B (List.take ((B : Int) + (BN : Int)).toNat (strRows b)) = strRows (part b B BN) := by
          rw [show ((B : Int) + (BN : Int)).toNat = B + BN by omega, part_rows]
        have pB := part_len b B BN
        have pF := part_flat b B BN
        have g1 := itoa_len (n := A + 1) (by omega)
        have g2 := itoa_len (n := AN) (by omega)
        have g3 := itoa_len (n := A + AN) (by omega)
        have g4 := itoa_len (n := (BN : Int)) (by omega)
        by_cases hzA : 0 < AN
        · rw [rcsA, if_pos hzA] at hle hsn
          by_cases hzB : (0 : Int) < BN
          · rw [rcsB, if_pos hzB] at hle hsn
            simp only [List.length_append, List.length_cons, List.length_nil, Int.toNat_natCast] at hle
            simp -dsimp -implicitDefEqProofs only [hg, hi3, q4Row, q4Rows_len, CItoa, CJoin, gWS, bldT, unStr_rows, strRows_len, strRows_all, rB, part_rows, hzA, hzB, List.length_append, Ev.St.giveC, ↓Ev.P, Ev.Q, eq_self, forall_eq_or_imp, implies_true, forall_const, forall_eq, ↓reduceIte, reduceIte, Nat.reduceEqDiff, Nat.reduceAdd, reduceCtorEq, Nat.reduceSub, Int.reduceToNat, Int.reduceLE, Int.reduceLT, Int.reduceNeg, Nat.reduceBEq, Nat.reduceMul, Nat.reduceLeDiff, Nat.reduceMod, UInt8.reduceOfNat, Nat.reduceLT, Int.reduceEq, Int.reduceAdd, Int.reduceSub, Int.reduceMul]
            repeat' (first | with_reducible assumption | refine And.intro ?_ ?_ | intro _ | (rw [Ev.xStp_eq]; simp -dsimp -implicitDefEqProofs only [hg, hi3, q4Row, q4Rows_len, CItoa, CJoin, gWS, bldT, unStr_rows, strRows_len, strRows_all, rB, part_rows, hzA, hzB, List.length_append, Ev.St.giveC, ↓Ev.P, Ev.Q, eq_self, forall_eq_or_imp, implies_true, forall_const, forall_eq, ↓reduceIte, reduceIte, Nat.reduceEqDiff, Nat.reduceAdd, reduceCtorEq, Nat.reduceSub, Int.reduceToNat, Int.reduceLE, Int.reduceLT, Int.reduceNeg, Nat.reduceBEq, Nat.reduceMul, Nat.reduceLeDiff, Nat.reduceMod, UInt8.reduceOfNat, Nat.reduceLT, Int.reduceEq, Int.reduceAdd, Int.reduceSub, Int.reduceMul]))
            all_goals try omega
            refine xAgain_intro (l.length - (i + 1)) [0] (by omega) (by simp -dsimp -implicitDefEqProofs only [↓Ev.xStp_eq, ↓Ev.P, Ev.Q, eq_self, forall_eq_or_imp, implies_true, forall_const, forall_eq, ↓reduceIte, reduceIte, Nat.reduceEqDiff, Nat.reduceAdd, reduceCtorEq, Nat.reduceSub, Int.reduceToNat, Int.reduceLE, Int.reduceLT, Int.reduceNeg, Nat.reduceBEq, Nat.reduceMul, Nat.reduceLeDiff, Nat.reduceMod, UInt8.reduceOfNat, Nat.reduceLT, Int.reduceEq, Int.reduceAdd, Int.reduceSub, Int.reduceMul]) ⟨i + 1, by omega, rfl, ?_⟩
            rw [hsn]
            simp -dsimp -implicitDefEqProofs only [↓Ev.xStp_eq, ↓Ev.P, Ev.Q, eq_self, forall_eq_or_imp, implies_true, forall_const, forall_eq, ↓reduceIte, reduceIte, Nat.reduceEqDiff, Nat.reduceAdd, reduceCtorEq, Nat.reduceSub, Int.reduceToNat, Int.reduceLE, Int.reduceLT, Int.reduceNeg, Nat.reduceBEq, Nat.reduceMul, Nat.reduceLeDiff, Nat.reduceMod, UInt8.reduceOfNat, Nat.reduceLT, Int.reduceEq, Int.reduceAdd, Int.reduceSub, Int.reduceMul]
            simp [Nat.add_assoc]
          · rw [rcsB, if_neg hzB] at hle hsn
            simp only [List.length_append, List.length_cons, List.length_nil, Int.toNat_natCast] at hle
            simp -dsimp -implicitDefEqProofs only [hg, hi3, q4Row, q4Rows_len, CItoa, CJoin, gWS, bldT, unStr_rows, strRows_len, strRows_all, rB, part_rows, hzA, hzB, List.length_append, Ev.St.giveC, ↓Ev.P, Ev.Q, eq_self, forall_eq_or_imp, implies_true, forall_const, forall_eq, ↓reduceIte, reduceIte, Nat.reduceEqDiff, Nat.reduceAdd, reduceCtorEq, Nat.reduceSub, Int.reduceToNat, Int.reduceLE, Int.reduceLT, Int.reduceNeg, Nat.reduceBEq, Nat.reduceMul, Nat.reduceLeDiff, Nat.reduceMod, UInt8.reduceOfNat, Nat.reduceLT, Int.reduceEq, Int.reduceAdd, Int.reduceSub, Int.reduceMul]
            repeat' (first | with_reducible assumption | refine And.intro ?_ ?_ | intro _ | (rw [Ev.xStp_eq]; simp -dsimp -implicitDefEqProofs only [hg, hi3, q4Row, q4Rows_len, CItoa, CJoin, gWS, bldT, unStr_rows, strRows_len, strRows_all, rB, part_rows, hzA, hzB, List.length_append, Ev.St.giveC, ↓Ev.P, Ev.Q, eq_self, forall_eq_or_imp, implies_true, forall_const, forall_eq, ↓reduceIte, reduceIte, Nat.reduceEqDiff, Nat.reduceAdd, reduceCtorEq, Nat.reduceSub, Int.reduceToNat, Int.reduceLE, Int.reduceLT, Int.reduceNeg, Nat.reduceBEq, Nat.reduceMul, Nat.reduceLeDiff, Nat.reduceMod, UInt8.reduceOfNat, Nat.reduceLT, Int.reduceEq, Int.reduceAdd, Int.reduceSub, Int.reduceMul]))
            all_goals try omega
            refine xAgain_intro (l.length - (i + 1)) [0] (by omega) (by simp -dsimp -implicitDefEqProofs only [↓Ev.xStp_eq, ↓Ev.P, Ev.Q, eq_self, forall_eq_or_imp, implies_true, forall_const, forall_eq, ↓reduceIte, reduceIte, Nat.reduceEqDiff, Nat.reduceAdd, reduceCtorEq, Nat.reduceSub, Int.reduceToNat, Int.reduceLE, Int.reduceLT, Int.reduceNeg, Nat.reduceBEq, Nat.reduceMul, Nat.reduceLeDiff, Nat.reduceMod, UInt8.reduceOfNat, Nat.reduceLT, Int.reduceEq, Int.reduceAdd, Int.reduceSub, Int.reduceMul]) ⟨i + 1, by omega, rfl, ?_⟩
            rw [hsn]
            simp -dsimp -implicitDefEqProofs only [↓Ev.xStp_eq, ↓Ev.P, Ev.Q, eq_self, forall_eq_or_imp, implies_true, forall_const, forall_eq, ↓reduceIte, reduceIte, Nat.reduceEqDiff, Nat.reduceAdd, reduceCtorEq, Nat.reduceSub, Int.reduceToNat, Int.reduceLE, Int.reduceLT, Int.reduceNeg, Nat.reduceBEq, Nat.reduceMul, Nat.reduceLeDiff, Nat.reduceMod, UInt8.reduceOfNat, Nat.reduceLT, Int.reduceEq, Int.reduceAdd, Int.reduceSub, Int.reduceMul]
            simp [Nat.add_assoc]
        · rw [rcsA, if_neg hzA] at hle hsn
          by_cases hzB : (0 : Int) < BN
          · rw [rcsB, if_pos hzB] at hle hsn
            simp only [List.length_append, List.length_cons, List.length_nil, Int.toNat_natCast] at hle
            simp -dsimp -implicitDefEqProofs only [hg, hi3, q4Row, q4Rows_len, CItoa, CJoin, gWS, bldT, unStr_rows, strRows_len, strRows_all, rB, part_rows, hzA, hzB, List.length_append, Ev.St.giveC, ↓Ev.P, Ev.Q, eq_self, forall_eq_or_imp, implies_true, forall_const, forall_eq, ↓reduceIte, reduceIte, Nat.reduceEqDiff, Nat.reduceAdd, reduceCtorEq, Nat.reduceSub, Int.reduceToNat, Int.reduceLE, Int.reduceLT, Int.reduceNeg, Nat.reduceBEq, Nat.reduceMul, Nat.reduceLeDiff, Nat.reduceMod, UInt8.reduceOfNat, Nat.reduceLT, Int.reduceEq, Int.reduceAdd, Int.reduceSub, Int.reduceMul]
            repeat' (first | with_reducible assumption | refine And.intro ?_ ?_ | intro _ | (rw [Ev.xStp_eq]; simp -dsimp -implicitDefEqProofs only [hg, hi3, q4Row, q4Rows_len, CItoa, CJoin, gWS, bldT, unStr_rows, strRows_len, strRows_all, rB, part_rows, hzA, hzB, List.length_append, Ev.St.giveC, ↓Ev.P, Ev.Q, eq_self, forall_eq_or_imp, implies_true, forall_const, forall_eq, ↓reduceIte, reduceIte, Nat.reduceEqDiff, Nat.reduceAdd, reduceCtorEq, Nat.reduceSub, Int.reduceToNat, Int.reduceLE, Int.reduceLT, Int.reduceNeg, Nat.reduceBEq, Nat.reduceMul, Nat.reduceLeDiff, Nat.reduceMod, UInt8.reduceOfNat, Nat.reduceLT, Int.reduceEq, Int.reduceAdd, Int.reduceSub, Int.reduceMul]))
            all_goals try omega
            refine xAgain_intro (l.length - (i + 1)) [0] (by omega) (by simp -dsimp -implicitDefEqProofs only [↓Ev.xStp_eq, ↓Ev.P, Ev.Q, eq_self, forall_eq_or_imp, implies_true, forall_const, forall_eq, ↓reduceIte, reduceIte, Nat.reduceEqDiff, Nat.reduceAdd, reduceCtorEq, Nat.reduceSub, Int.reduceToNat, Int.reduceLE, Int.reduceLT, Int.reduceNeg, Nat.reduceBEq, Nat.reduceMul, Nat.reduceLeDiff, Nat.reduceMod, UInt8.reduceOfNat, Nat.reduceLT, Int.reduceEq, Int.reduceAdd, Int.reduceSub, Int.reduceMul]) ⟨i + 1, by omega, rfl, ?_⟩
            rw [hsn]
            simp -dsimp -implicitDefEqProofs only [↓Ev.xStp_eq, ↓Ev.P, Ev.Q, eq_self, forall_eq_or_imp, implies_true, forall_const, forall_eq, ↓reduceIte, reduceIte, Nat.reduceEqDiff, Nat.reduceAdd, reduceCtorEq, Nat.reduceSub, Int.reduceToNat, Int.reduceLE, Int.reduceLT, Int.reduceNeg, Nat.reduceBEq, Nat.reduceMul, Nat.reduceLeDiff, Nat.reduceMod, UInt8.reduceOfNat, Nat.reduceLT, Int.reduceEq, Int.reduceAdd, Int.reduceSub, Int.reduceMul]
            simp [Nat.add_assoc]
          · omega
      · have hi3 : ¬ (i : Int) < l.length := by omega
        simp -dsimp -implicitDefEqProofs only [hi3, q4Rows_len, ↓Ev.xStp_eq, ↓Ev.P, Ev.Q, eq_self, forall_eq_or_imp, implies_true, forall_const, forall_eq, ↓reduceIte, reduceIte, Nat.reduceEqDiff, Nat.reduceAdd, reduceCtorEq, Nat.reduceSub, Int.reduceToNat, Int.reduceLE, Int.reduceLT, Int.reduceNeg, Nat.reduceBEq, Nat.reduceMul, Nat.reduceLeDiff, Nat.reduceMod, UInt8.reduceOfNat, Nat.reduceLT, Int.reduceEq, Int.reduceAdd, Int.reduceSub, Int.reduceMul]
        rw [List.take_of_length_le (by omega)]
        exact hk
  · have hz' : ¬ (50 : Int) = 0 := by omega
    rw [if_neg (by rw [hz]; exact hz'), hz] at hk
    simp -dsimp -implicitDefEqProofs only [S16, S16_0, S16r1, S16_1, S16r2, S16_2, S16r3, S16_3, S16r4, S16_4, S16r5, R16, CCheck, unQ4_rows, strRows_len, q4Rows_len, hz, hz', ↓Ev.xStp_eq, ↓Ev.P, Ev.Q, eq_self, forall_eq_or_imp, implies_true, forall_const, forall_eq, ↓reduceIte, reduceIte, Nat.reduceEqDiff, Nat.reduceAdd, reduceCtorEq, Nat.reduceSub, Int.reduceToNat, Int.reduceLE, Int.reduceLT, Int.reduceNeg, Nat.reduceBEq, Nat.reduceMul, Nat.reduceLeDiff, Nat.reduceMod, UInt8.reduceOfNat, Nat.reduceLT, Int.reduceEq, Int.reduceAdd, Int.reduceSub, Int.reduceMul]
    exact ⟨by omega, hk⟩
end Go.Proofs.YtpbkdcfjlbdgfaaDoor
/- The compiled code of functions, by program (gen.py): each theorem says that the loaded program compiles to it. -/
set_option linter.unusedVariables false
namespace Go.Proofs.YtpbkdcfjlbdgfaaDoor
open Go Go.Ev
set_option maxRecDepth 100000

/-! 6: redline/redlinelaw13.EdfmtPrints -/
def A6 : Ann := ⟨fun r i => if r = 4 ∧ i = 11 then 1 else if r = 4 ∧ i = 16 then 1 else 0, fun _ => none, fun r => if r = 1 then some (false, [0, 1, 2]) else if r = 2 then some (false, [0, 1, 2, 7, 8]) else if r = 3 then some (false, [0, 1, 2, 7, 8, 9, 10]) else if r = 4 then some (false, [1, 2, 7, 8, 9, 10, 11, 12]) else none, fun _ => []⟩
def S6 : SCode :=
  (.seq (.ops [⟨none, (some 6), .mv 6 (.k (Value.bool false)), false⟩])
  (.seq (.seq (.keep [0, 1, 2]) (.ops [⟨none, (some 13), .bs 13 9 1 [], false⟩,
    ⟨none, (some 14), .mv 14 (.s 1), false⟩,
    ⟨none, (some 15), .ap 15 9 1 16 (.s 13) (.s 14), false⟩,
    ⟨none, (some 16), .bs 16 9 1 [], false⟩,
    ⟨none, (some 17), .mv 17 (.s 2), false⟩,
    ⟨none, (some 18), .ap 18 9 1 16 (.s 16) (.s 17), false⟩,
    ⟨none, (some 7), .mv 7 (.s 15), false⟩,
    ⟨none, (some 8), .mv 8 (.s 18), false⟩]))
  (.seq (.seq (.keep [0, 1, 2, 7, 8]) (.ops [⟨none, (some 20), .bs 20 74 4 [], false⟩,
    ⟨none, (some 21), .mv 21 (.s 0), false⟩,
    ⟨none, (some 22), .ap 22 74 4 32 (.s 20) (.s 21), false⟩,
    ⟨none, (some 23), .mv 23 (.s 7), false⟩,
    ⟨none, (some 24), .mv 24 (.s 8), false⟩,
    ⟨none, (some 25), .call (some 25) 20 false [(.s 22), (.s 23), (.s 24)], false⟩,
    ⟨none, (some 19), .mv 19 (.s 25), false⟩,
    ⟨none, (some 26), .ex 26 (.s 19) 0, false⟩,
    ⟨none, (some 27), .ex 27 (.s 19) 1, false⟩,
    ⟨none, (some 9), .mv 9 (.s 26), true⟩,
    ⟨none, (some 10), .mv 10 (.s 27), false⟩]))
  (.seq (.seq (.keep [0, 1, 2, 7, 8, 9, 10]) (.ops [⟨none, (some 29), .mv 29 (.s 0), false⟩,
    ⟨none, (some 30), .mv 30 (.s 1), false⟩,
    ⟨none, (some 31), .mv 31 (.s 2), false⟩,
    ⟨none, (some 32), .call (some 32) 21 false [(.s 29), (.s 30), (.s 31)], false⟩,
    ⟨none, (some 28), .mv 28 (.s 32), false⟩,
    ⟨none, (some 33), .ex 33 (.s 28) 0, false⟩,
    ⟨none, (some 34), .ex 34 (.s 28) 1, false⟩,
    ⟨none, (some 11), .mv 11 (.s 33), false⟩,
    ⟨none, (some 12), .mv 12 (.s 34), false⟩]))
  (.seq (.seq (.keep [1, 2, 7, 8, 9, 10, 11, 12]) (.ops [⟨none, (some 35), .mv 35 (.s 9), false⟩,
    ⟨none, (some 36), .mv 36 (.s 11), false⟩,
    ⟨none, (some 37), .bin 37 .eql (.s 35) (.s 36), false⟩,
    ⟨none, (some 38), .mv 38 (.s 37), false⟩,
    ⟨(some (38, true)), (some 39), .mv 39 (.s 10), false⟩,
    ⟨(some (38, true)), (some 40), .mv 40 (.s 12), false⟩,
    ⟨(some (38, true)), (some 41), .bin 41 .eql (.s 39) (.s 40), false⟩,
    ⟨none, (some 42), .pk 42 (.s 38) (.s 41) (.k (Value.bool false)), false⟩,
    ⟨none, (some 43), .mv 43 (.s 42), false⟩,
    ⟨(some (43, true)), (some 44), .mv 44 (.s 1), true⟩,
    ⟨(some (43, true)), (some 45), .mv 45 (.s 7), false⟩,
    ⟨(some (43, true)), (some 46), .call (some 46) 15 true [(.s 44), (.s 45)], false⟩,
    ⟨none, (some 47), .pk 47 (.s 43) (.s 46) (.k (Value.bool false)), false⟩,
    ⟨none, (some 48), .mv 48 (.s 47), false⟩,
    ⟨(some (48, true)), (some 49), .mv 49 (.s 2), false⟩,
    ⟨(some (48, true)), (some 50), .mv 50 (.s 8), false⟩,
    ⟨(some (48, true)), (some 51), .call (some 51) 15 true [(.s 49), (.s 50)], false⟩,
    ⟨none, (some 52), .pk 52 (.s 48) (.s 51) (.k (Value.bool false)), false⟩,
    ⟨none, (some 6), .mv 6 (.s 52), false⟩]))
  .ret)))))
theorem cc6 : (Tryd.f6.body).bind (cc Tryd.prog Tryd.f6.ntmps A6) = some S6 := by kernel_rfl
def R6 : List RR := [.sl 6]
theorem cr6 : Tryd.f6.results.toList.map (crr Tryd.prog) = R6.map some := by kernel_rfl
theorem nm6 : (Tryd.f6.name == "runtime.NumGoroutine") = false := by kernel_rfl
theorem fn6 : Tryd.prog.funcs[6]? = some Tryd.f6 := by kernel_rfl
theorem bd6 : ∃ b, Tryd.f6.body = some b ∧ cc Tryd.prog Tryd.f6.ntmps A6 b = some S6 := Option.bind_eq_some_iff.1 cc6
theorem sd6 {G : World → Prop} {T : FuncId → Contract} {C : Contract} (hT : ∀ f, Sound G Tryd.prog f (T f)) (hl : C.lawful) (hC : ∀ args st K, C.wp args st K → args.length ≤ 53 ∧ ∃ os op, xv T st.n S6 (st0 args st) (retK R6 st.n os K) (panK st.n op K)) (hit : SoundIt G Tryd.prog 6 C.it := by exact SoundIt.none) : Sound G Tryd.prog 6 C := by
  obtain ⟨b, hb, hc⟩ := bd6
  rw [xv_eq] at hC
  exact sound_of_ev mo fn6 hb nm6 hc cr6 hT hl hit hC

/-! 20: redline/edfmt.Print -/
def A20 : Ann := ⟨fun r i => if r = 4 ∧ i = 0 then 7 else 0, fun _ => none, fun r => if r = 1 then some (false, [0, 1, 5, 6, 7]) else if r = 3 then some (false, [8]) else if r = 7 then some (false, [5, 9, 11]) else if r = 8 then some (false, [9, 11, 12]) else if r = 10 then some (false, [9, 11, 12]) else if r = 11 then some (false, [9, 11]) else if r = 12 then some (false, [9, 11, 12]) else if r = 13 then some (false, [9, 11, 12]) else if r = 15 then some (false, [5, 9]) else if r = 17 then some (false, [5, 9, 13]) else if r = 20 then some (false, [9]) else none, fun r => if r = 7 then [5, 6, 7, 9] else []⟩
def S20 : SCode :=
  (.seq (.ops [⟨none, (some 5), .bx 5 23 1 (.s 2), false⟩,
    ⟨none, (some 6), .mv 6 (.k (Value.string ⟨#[]⟩)), false⟩,
    ⟨none, (some 7), .mv 7 (.k (Value.int .i64 0)), false⟩])
  (.seq (.seq (.seq (.keep [0, 1, 5, 6, 7]) (.ops [⟨none, (some 16), .mv 16 (.s 0), false⟩,
    ⟨none, (some 17), .mv 17 (.s 1), false⟩,
    ⟨none, (some 18), .len 18 (.s 17), false⟩,
    ⟨none, (some 19), .ld 19 false 1 (.s 5), false⟩,
    ⟨none, (some 20), .len 20 (.s 19), false⟩,
    ⟨none, (some 21), .call (some 21) 41 false [(.s 16), (.s 18), (.s 20)], false⟩,
    ⟨none, (some 8), .mv 8 (.s 21), false⟩]))
  (.seq (.ops [⟨none, (some 22), .mv 22 (.s 8), false⟩,
    ⟨none, (some 23), .bin 23 .neq (.s 22) (.k (Value.int .i64 0)), false⟩])
  (.cond (.s 23) (.seq (.seq (.keep [8]) (.ops [⟨none, (some 24), .mv 24 (.s 8), false⟩,
    ⟨none, (some 6), .mv 6 (.k (Value.string ⟨#[]⟩)), false⟩,
    ⟨none, (some 7), .mv 7 (.s 24), false⟩]))
  .ret) .skip)))
  (.seq (.ops [⟨none, (some 9), .alb 9 70 5, false⟩])
  (.seq (.seq (.ops [⟨none, (some 25), .mv 25 (.s 0), false⟩,
    ⟨none, (some 26), .call (some 26) 55 false [(.s 25)], false⟩])
  (.block 0 (.each (.s 26) [27, 28] [5, 6, 7, 9] (.ops [⟨none, (some 11), .al 11 74 [(Value.int .i64 0), (Value.int .i64 0), (Value.int .i64 0), (Value.int .i64 0)], false⟩,
    ⟨none, none, .st true 4 (.s 11) (.s 28), false⟩]) (.block 1 (.seq (.seq (.keep [5, 9, 11]) (.ops [⟨none, (some 29), .ld 29 false 1 (.s 5), false⟩,
    ⟨none, (some 30), .fa 30 2 (.s 11), false⟩,
    ⟨none, (some 31), .ld 31 false 1 (.s 30), false⟩,
    ⟨none, (some 32), .fa 32 2 (.s 11), false⟩,
    ⟨none, (some 33), .ld 33 false 1 (.s 32), false⟩,
    ⟨none, (some 34), .fa 34 3 (.s 11), false⟩,
    ⟨none, (some 35), .ld 35 false 1 (.s 34), false⟩,
    ⟨none, (some 36), .binc 36 .add (.s 33) (.s 35), false⟩,
    ⟨none, (some 37), .slr 37 1 (.s 29) (some (.s 31)) (some (.s 36)), false⟩,
    ⟨none, (some 12), .mv 12 (.s 37), true⟩]))
  (.block 2 (.seq (.seq (.keep [9, 11, 12]) (.ops [⟨none, (some 48), .fa 48 3 (.s 11), false⟩,
    ⟨none, (some 49), .ld 49 false 1 (.s 48), false⟩,
    ⟨none, (some 50), .bin 50 .eql (.s 49) (.k (Value.int .i64 0)), false⟩,
    ⟨none, (some 47), .mv 47 (.s 50), false⟩]))
  (.cond (.s 47) (.seq (.keep [9, 11]) (.ops [⟨none, (some 51), .fa 51 0 (.s 11), false⟩,
    ⟨none, (some 52), .ld 52 false 1 (.s 51), false⟩,
    ⟨none, (some 53), .fa 53 1 (.s 11), false⟩,
    ⟨none, (some 54), .ld 54 false 1 (.s 53), false⟩,
    ⟨none, (some 55), .call (some 55) 56 false [(.s 52), (.s 54)], false⟩,
    ⟨none, (some 56), .bin 56 .add (.s 55) (.k (Value.string ⟨#[100, 10]⟩)), false⟩,
    ⟨none, (some 57), .call (some 57) 43 false [(.s 9), (.s 56)], false⟩])) (.seq (.seq (.keep [9, 11, 12]) (.ops [⟨none, (some 59), .fa 59 1 (.s 11), false⟩,
    ⟨none, (some 60), .ld 60 false 1 (.s 59), false⟩,
    ⟨none, (some 61), .bin 61 .eql (.s 60) (.k (Value.int .i64 0)), false⟩,
    ⟨none, (some 58), .mv 58 (.s 61), false⟩]))
  (.cond (.s 58) (.seq (.seq (.keep [9, 11, 12]) (.ops [⟨none, (some 62), .fa 62 0 (.s 11), false⟩,
    ⟨none, (some 63), .ld 63 false 1 (.s 62), false⟩,
    ⟨none, (some 64), .call (some 64) 32 false [(.s 63)], false⟩,
    ⟨none, (some 65), .bin 65 .add (.s 64) (.k (Value.string ⟨#[97, 10]⟩)), false⟩,
    ⟨none, (some 66), .call (some 66) 43 false [(.s 9), (.s 65)], false⟩]))
  (.ops [⟨none, (some 67), .mv 67 (.s 12), false⟩,
    ⟨none, (some 68), .call (some 68) 57 false [(.s 9), (.s 67)], false⟩])) (.seq (.seq (.keep [9, 11, 12]) (.ops [⟨none, (some 38), .fa 38 0 (.s 11), false⟩,
    ⟨none, (some 39), .ld 39 false 1 (.s 38), false⟩,
    ⟨none, (some 40), .fa 40 1 (.s 11), false⟩,
    ⟨none, (some 41), .ld 41 false 1 (.s 40), false⟩,
    ⟨none, (some 42), .call (some 42) 56 false [(.s 39), (.s 41)], false⟩,
    ⟨none, (some 43), .bin 43 .add (.s 42) (.k (Value.string ⟨#[99, 10]⟩)), false⟩,
    ⟨none, (some 44), .call (some 44) 43 false [(.s 9), (.s 43)], false⟩]))
  (.ops [⟨none, (some 45), .mv 45 (.s 12), false⟩,
    ⟨none, (some 46), .call (some 46) 57 false [(.s 9), (.s 45)], false⟩]))))))))))))
  (.seq (.seq (.seq (.keep [5, 9]) (.ops [⟨none, (some 69), .ld 69 false 1 (.s 5), false⟩,
    ⟨none, (some 70), .len 70 (.s 69), false⟩,
    ⟨none, (some 13), .mv 13 (.s 70), false⟩]))
  (.seq (.ops [⟨none, (some 71), .mv 71 (.s 13), false⟩,
    ⟨none, (some 72), .bin 72 .gtr (.s 71) (.k (Value.int .i64 0)), false⟩])
  (.cond (.s 72) (.seq (.seq (.keep [5, 9, 13]) (.ops [⟨none, (some 74), .ld 74 false 1 (.s 5), false⟩,
    ⟨none, (some 75), .mv 75 (.s 13), false⟩,
    ⟨none, (some 76), .binc 76 .sub (.s 75) (.k (Value.int .i64 1)), false⟩,
    ⟨none, (some 77), .ia 77 1 (.s 74) (.s 76), false⟩,
    ⟨none, (some 78), .ld 78 false 1 (.s 77), false⟩,
    ⟨none, (some 79), .call (some 79) 58 false [(.s 78)], false⟩,
    ⟨none, (some 73), .mv 73 (.s 79), false⟩,
    ⟨none, (some 80), .ex 80 (.s 73) 0, false⟩,
    ⟨none, (some 81), .ex 81 (.s 73) 1, false⟩,
    ⟨none, (some 14), .mv 14 (.s 80), true⟩,
    ⟨none, (some 15), .mv 15 (.s 81), false⟩]))
  (.seq (.ops [⟨none, (some 82), .mv 82 (.s 15), false⟩,
    ⟨none, (some 83), .not 83 (.s 82), false⟩])
  (.cond (.s 83) (.ops [⟨none, (some 84), .call (some 84) 43 false [(.s 9), (.k (Value.string ⟨#[92, 32, 78, 111, 32, 110, 101, 119, 108, 105, 110, 101, 32, 97, 116, 32, 101, 110, 100, 32, 111, 102, 32, 102, 105, 108, 101, 10]⟩))], false⟩]) .skip))) .skip)))
  (.seq (.seq (.keep [9]) (.ops [⟨none, (some 85), .call (some 85) 45 false [(.s 9)], false⟩,
    ⟨none, (some 6), .mv 6 (.s 85), false⟩,
    ⟨none, (some 7), .mv 7 (.k (Value.int .i64 0)), false⟩]))
  .ret))))))
theorem cc20 : (Tryd.f20.body).bind (cc Tryd.prog Tryd.f20.ntmps A20) = some S20 := by kernel_rfl
def R20 : List RR := [.sl 6, .sl 7]
theorem cr20 : Tryd.f20.results.toList.map (crr Tryd.prog) = R20.map some := by kernel_rfl
theorem nm20 : (Tryd.f20.name == "runtime.NumGoroutine") = false := by kernel_rfl
theorem fn20 : Tryd.prog.funcs[20]? = some Tryd.f20 := by kernel_rfl
theorem bd20 : ∃ b, Tryd.f20.body = some b ∧ cc Tryd.prog Tryd.f20.ntmps A20 b = some S20 := Option.bind_eq_some_iff.1 cc20
theorem sd20 {G : World → Prop} {T : FuncId → Contract} {C : Contract} (hT : ∀ f, Sound G Tryd.prog f (T f)) (hl : C.lawful) (hC : ∀ args st K, C.wp args st K → args.length ≤ 86 ∧ ∃ os op, xv T st.n S20 (st0 args st) (retK R20 st.n os K) (panK st.n op K)) (hit : SoundIt G Tryd.prog 20 C.it := by exact SoundIt.none) : Sound G Tryd.prog 20 C := by
  obtain ⟨b, hb, hc⟩ := bd20
  rw [xv_eq] at hC
  exact sound_of_ev mo fn20 hb nm20 hc cr20 hT hl hit hC

/-! 21: redline/redlineref13.Print -/
def A21 : Ann := ⟨fun r i => if r = 9 ∧ i = 16 then 1 else if r = 11 ∧ i = 14 then 1 else 0, fun r => if r = 11 then some ([], [(0, true), (1, true), (6, true), (7, true), (9, true), (11, true), (2, true), (8, true), (10, true), (12, true), (13, true), (14, true), (3, false), (4, true), (5, true), (15, false), (16, true), (17, true)]) else if r = 9 then some ([], [(0, true), (1, true), (3, true), (8, true), (9, true), (11, true), (13, true), (2, true), (4, true), (10, true), (12, true), (14, true), (15, true), (16, true), (5, false), (6, true), (7, true), (17, false), (18, true), (19, true)]) else none, fun r => if r = 1 then some (false, [0, 1, 2]) else if r = 3 then some (false, [8]) else if r = 5 then some (false, [0, 2, 9]) else if r = 7 then some (false, [0, 2, 9, 10]) else if r = 8 then some (false, [0, 2, 9, 10]) else if r = 9 then some (false, [0, 2, 9, 10, 11]) else if r = 10 then some (false, [0, 2, 9, 10, 11]) else if r = 11 then some (false, [0, 2, 9, 10, 11]) else if r = 12 then some (false, [0, 2, 9, 10, 11]) else if r = 13 then some (false, [0, 2, 9, 10, 11]) else if r = 14 then some (false, [2, 9]) else if r = 15 then some (false, [2, 9]) else if r = 17 then some (false, [9]) else if r = 18 then some (false, [9]) else none, fun r => if r = 6 then [0, 2, 9, 10] else []⟩
def S21 : SCode :=
  (.seq (.ops [⟨none, (some 6), .mv 6 (.k (Value.string ⟨#[]⟩)), false⟩,
    ⟨none, (some 7), .mv 7 (.k (Value.int .i64 0)), false⟩])
  (.seq (.seq (.keep [0, 1, 2]) (.ops [⟨none, (some 14), .mv 14 (.s 0), false⟩,
    ⟨none, (some 15), .mv 15 (.s 1), false⟩,
    ⟨none, (some 16), .len 16 (.s 15), false⟩,
    ⟨none, (some 17), .mv 17 (.s 2), false⟩,
    ⟨none, (some 18), .len 18 (.s 17), false⟩,
    ⟨none, (some 19), .call (some 19) 46 false [(.s 14), (.s 16), (.s 18)], false⟩,
    ⟨none, (some 8), .mv 8 (.s 19), false⟩]))
  (.seq (.seq (.ops [⟨none, (some 20), .mv 20 (.s 8), false⟩,
    ⟨none, (some 21), .bin 21 .neq (.s 20) (.k (Value.int .i64 0)), false⟩])
  (.cond (.s 21) (.seq (.seq (.keep [8]) (.ops [⟨none, (some 22), .mv 22 (.s 8), false⟩,
    ⟨none, (some 6), .mv 6 (.k (Value.string ⟨#[]⟩)), false⟩,
    ⟨none, (some 7), .mv 7 (.s 22), false⟩]))
  .ret) .skip))
  (.seq (.ops [⟨none, (some 9), .mv 9 (.k (Value.string ⟨#[]⟩)), false⟩])
  (.seq (.seq (.seq (.keep [0, 2, 9]) (.ops [⟨none, (some 23), .mv 23 (.s 0), false⟩,
    ⟨none, (some 24), .len 24 (.s 23), false⟩,
    ⟨none, (some 25), .binc 25 .sub (.s 24) (.k (Value.int .i64 1)), false⟩,
    ⟨none, (some 10), .mv 10 (.s 25), false⟩]))
  (.block 0 (.loop [0, 2, 9, 10] (.seq (.seq (.ops [⟨none, (some 26), .mv 26 (.s 10), false⟩,
    ⟨none, (some 27), .bin 27 .geq (.s 26) (.k (Value.int .i64 0)), false⟩])
  (.cond (.s 27) .skip (.exit 0)))
  (.seq (.block 1 (.seq (.seq (.keep [0, 2, 9, 10]) (.ops [⟨none, (some 30), .mv 30 (.s 0), false⟩,
    ⟨none, (some 31), .mv 31 (.s 10), false⟩,
    ⟨none, (some 32), .ia 32 4 (.s 30) (.s 31), false⟩,
    ⟨none, (some 33), .ld 33 true 4 (.s 32), false⟩,
    ⟨none, (some 11), .al 11 74 [(Value.int .i64 0), (Value.int .i64 0), (Value.int .i64 0), (Value.int .i64 0)], false⟩,
    ⟨none, none, .st true 4 (.s 11) (.s 33), false⟩]))
  (.block 2 (.seq (.seq (.keep [0, 2, 9, 10, 11]) (.ops [⟨none, (some 54), .fa 54 1 (.s 11), false⟩,
    ⟨none, (some 55), .ld 55 false 1 (.s 54), false⟩,
    ⟨none, (some 56), .bin 56 .eql (.s 55) (.k (Value.int .i64 0)), false⟩,
    ⟨none, (some 53), .mv 53 (.s 56), false⟩]))
  (.cond (.s 53) (.seq (.keep [0, 2, 9, 10, 11]) (.dr [] [(0, true, ⟨none, (some 57), .mv 57 (.s 9), false⟩),
    (1, true, ⟨none, (some 58), .fa 58 0 (.s 11), false⟩),
    (6, true, ⟨none, (some 63), .mv 63 (.s 2), false⟩),
    (7, true, ⟨none, (some 64), .fa 64 2 (.s 11), false⟩),
    (9, true, ⟨none, (some 66), .fa 66 2 (.s 11), true⟩),
    (11, true, ⟨none, (some 68), .fa 68 3 (.s 11), false⟩),
    (2, true, ⟨none, (some 59), .ld 59 false 1 (.s 58), false⟩),
    (8, true, ⟨none, (some 65), .ld 65 false 1 (.s 64), false⟩),
    (10, true, ⟨none, (some 67), .ld 67 false 1 (.s 66), false⟩),
    (12, true, ⟨none, (some 69), .ld 69 false 1 (.s 68), false⟩),
    (13, true, ⟨none, (some 70), .binc 70 .add (.s 67) (.s 69), false⟩),
    (14, true, ⟨none, (some 71), .slp 71 1 (.s 63) (some (.s 65)) (some (.s 70)), false⟩),
    (3, false, ⟨none, (some 60), .call (some 60) 33 false [(.s 59)], false⟩),
    (4, true, ⟨none, (some 61), .bin 61 .add (.s 57) (.s 60), false⟩),
    (5, true, ⟨none, (some 62), .bin 62 .add (.s 61) (.k (Value.string ⟨#[97, 10]⟩)), false⟩),
    (15, false, ⟨none, (some 72), .call (some 72) 59 false [(.s 71)], false⟩),
    (16, true, ⟨none, (some 73), .bin 73 .add (.s 62) (.s 72), false⟩),
    (17, true, ⟨none, (some 9), .mv 9 (.s 73), false⟩)])) (.seq (.seq (.keep [0, 2, 9, 10, 11]) (.ops [⟨none, (some 75), .fa 75 3 (.s 11), false⟩,
    ⟨none, (some 76), .ld 76 false 1 (.s 75), false⟩,
    ⟨none, (some 77), .bin 77 .eql (.s 76) (.k (Value.int .i64 0)), false⟩,
    ⟨none, (some 74), .mv 74 (.s 77), false⟩]))
  (.cond (.s 74) (.seq (.keep [0, 2, 9, 10, 11]) (.ops [⟨none, (some 78), .mv 78 (.s 9), false⟩,
    ⟨none, (some 79), .fa 79 0 (.s 11), false⟩,
    ⟨none, (some 80), .ld 80 false 1 (.s 79), false⟩,
    ⟨none, (some 81), .fa 81 1 (.s 11), false⟩,
    ⟨none, (some 82), .ld 82 false 1 (.s 81), false⟩,
    ⟨none, (some 83), .call (some 83) 60 false [(.s 80), (.s 82)], false⟩,
    ⟨none, (some 84), .bin 84 .add (.s 78) (.s 83), false⟩,
    ⟨none, (some 85), .bin 85 .add (.s 84) (.k (Value.string ⟨#[100, 10]⟩)), false⟩,
    ⟨none, (some 9), .mv 9 (.s 85), false⟩])) (.seq (.keep [0, 2, 9, 10, 11]) (.dr [] [(0, true, ⟨none, (some 34), .mv 34 (.s 9), false⟩),
    (1, true, ⟨none, (some 35), .fa 35 0 (.s 11), false⟩),
    (3, true, ⟨none, (some 37), .fa 37 1 (.s 11), false⟩),
    (8, true, ⟨none, (some 42), .mv 42 (.s 2), false⟩),
    (9, true, ⟨none, (some 43), .fa 43 2 (.s 11), true⟩),
    (11, true, ⟨none, (some 45), .fa 45 2 (.s 11), false⟩),
    (13, true, ⟨none, (some 47), .fa 47 3 (.s 11), false⟩),
    (2, true, ⟨none, (some 36), .ld 36 false 1 (.s 35), false⟩),
    (4, true, ⟨none, (some 38), .ld 38 false 1 (.s 37), false⟩),
    (10, true, ⟨none, (some 44), .ld 44 false 1 (.s 43), false⟩),
    (12, true, ⟨none, (some 46), .ld 46 false 1 (.s 45), false⟩),
    (14, true, ⟨none, (some 48), .ld 48 false 1 (.s 47), false⟩),
    (15, true, ⟨none, (some 49), .binc 49 .add (.s 46) (.s 48), false⟩),
    (16, true, ⟨none, (some 50), .slp 50 1 (.s 42) (some (.s 44)) (some (.s 49)), false⟩),
    (5, false, ⟨none, (some 39), .call (some 39) 60 false [(.s 36), (.s 38)], false⟩),
    (6, true, ⟨none, (some 40), .bin 40 .add (.s 34) (.s 39), false⟩),
    (7, true, ⟨none, (some 41), .bin 41 .add (.s 40) (.k (Value.string ⟨#[99, 10]⟩)), false⟩),
    (17, false, ⟨none, (some 51), .call (some 51) 59 false [(.s 50)], false⟩),
    (18, true, ⟨none, (some 52), .bin 52 .add (.s 41) (.s 51), false⟩),
    (19, true, ⟨none, (some 9), .mv 9 (.s 52), true⟩)])))))))))
  (.seq (.keep [0, 2, 9, 10]) (.ops [⟨none, (some 28), .mv 28 (.s 10), false⟩,
    ⟨none, (some 29), .binc 29 .sub (.s 28) (.k (Value.int .i64 1)), false⟩,
    ⟨none, (some 10), .mv 10 (.s 29), false⟩])))))))
  (.seq (.seq (.seq (.keep [2, 9]) (.ops [⟨none, (some 86), .mv 86 (.s 2), false⟩,
    ⟨none, (some 87), .len 87 (.s 86), false⟩,
    ⟨none, (some 88), .bin 88 .gtr (.s 87) (.k (Value.int .i64 0)), false⟩]))
  (.cond (.s 88) (.seq (.seq (.keep [2, 9]) (.ops [⟨none, (some 90), .mv 90 (.s 2), false⟩,
    ⟨none, (some 91), .mv 91 (.s 2), false⟩,
    ⟨none, (some 92), .len 92 (.s 91), false⟩,
    ⟨none, (some 93), .binc 93 .sub (.s 92) (.k (Value.int .i64 1)), false⟩,
    ⟨none, (some 94), .ia 94 1 (.s 90) (.s 93), false⟩,
    ⟨none, (some 95), .ld 95 false 1 (.s 94), false⟩,
    ⟨none, (some 96), .call (some 96) 61 false [(.s 95)], false⟩,
    ⟨none, (some 89), .mv 89 (.s 96), false⟩,
    ⟨none, (some 97), .ex 97 (.s 89) 0, false⟩,
    ⟨none, (some 98), .ex 98 (.s 89) 1, true⟩,
    ⟨none, (some 12), .mv 12 (.s 97), false⟩,
    ⟨none, (some 13), .mv 13 (.s 98), false⟩]))
  (.seq (.ops [⟨none, (some 99), .mv 99 (.s 13), false⟩,
    ⟨none, (some 100), .not 100 (.s 99), false⟩])
  (.cond (.s 100) (.seq (.keep [9]) (.ops [⟨none, (some 101), .mv 101 (.s 9), false⟩,
    ⟨none, (some 102), .bin 102 .add (.s 101) (.k (Value.string ⟨#[92, 32, 78, 111, 32, 110, 101, 119, 108, 105, 110, 101, 32, 97, 116, 32, 101, 110, 100, 32, 111, 102, 32, 102, 105, 108, 101, 10]⟩)), false⟩,
    ⟨none, (some 9), .mv 9 (.s 102), false⟩])) .skip))) .skip))
  (.seq (.seq (.keep [9]) (.ops [⟨none, (some 103), .mv 103 (.s 9), false⟩,
    ⟨none, (some 6), .mv 6 (.s 103), false⟩,
    ⟨none, (some 7), .mv 7 (.k (Value.int .i64 0)), false⟩]))
  .ret)))))))
theorem cc21 : (Tryd.f21.body).bind (cc Tryd.prog Tryd.f21.ntmps A21) = some S21 := by kernel_rfl
def R21 : List RR := [.sl 6, .sl 7]
theorem cr21 : Tryd.f21.results.toList.map (crr Tryd.prog) = R21.map some := by kernel_rfl
theorem nm21 : (Tryd.f21.name == "runtime.NumGoroutine") = false := by kernel_rfl
theorem fn21 : Tryd.prog.funcs[21]? = some Tryd.f21 := by kernel_rfl
theorem bd21 : ∃ b, Tryd.f21.body = some b ∧ cc Tryd.prog Tryd.f21.ntmps A21 b = some S21 := Option.bind_eq_some_iff.1 cc21
theorem sd21 {G : World → Prop} {T : FuncId → Contract} {C : Contract} (hT : ∀ f, Sound G Tryd.prog f (T f)) (hl : C.lawful) (hC : ∀ args st K, C.wp args st K → args.length ≤ 104 ∧ ∃ os op, xv T st.n S21 (st0 args st) (retK R21 st.n os K) (panK st.n op K)) (hit : SoundIt G Tryd.prog 21 C.it := by exact SoundIt.none) : Sound G Tryd.prog 21 C := by
  obtain ⟨b, hb, hc⟩ := bd21
  rw [xv_eq] at hC
  exact sound_of_ev mo fn21 hb nm21 hc cr21 hT hl hit hC

/-! 59: redline/redlineref13.text -/
def A59 : Ann := ⟨fun _ _ => 0, fun _ => none, fun r => if r = 4 then some (false, [0, 3, 4, 5]) else if r = 5 then some (false, [0, 3, 4, 5]) else if r = 6 then some (false, [0, 3, 4, 5]) else if r = 8 then some (false, [0, 3, 5, 6]) else if r = 11 then some (false, [0, 3, 5]) else if r = 13 then some (false, [0, 3, 4, 5, 6]) else if r = 15 then some (false, [3]) else none, fun r => if r = 4 then [0, 3, 4, 5] else []⟩
def S59 : SCode :=
  (.seq (.ops [⟨none, (some 2), .mv 2 (.k (Value.string ⟨#[]⟩)), false⟩])
  (.seq (.ops [⟨none, (some 3), .mv 3 (.k (Value.string ⟨#[]⟩)), false⟩])
  (.seq (.ops [⟨none, (some 4), .mv 4 (.k (Value.bool true)), false⟩])
  (.seq (.seq (.ops [⟨none, (some 5), .mv 5 (.k (Value.int .i64 0)), false⟩])
  (.block 0 (.loop [0, 3, 4, 5] (.seq (.seq (.seq (.keep [0, 3, 4, 5]) (.ops [⟨none, (some 8), .mv 8 (.s 5), false⟩,
    ⟨none, (some 9), .mv 9 (.s 0), false⟩,
    ⟨none, (some 10), .len 10 (.s 9), false⟩,
    ⟨none, (some 11), .bin 11 .lss (.s 8) (.s 10), false⟩]))
  (.cond (.s 11) .skip (.exit 0)))
  (.seq (.block 1 (.seq (.seq (.keep [0, 3, 4, 5]) (.ops [⟨none, (some 15), .mv 15 (.s 0), false⟩,
    ⟨none, (some 16), .mv 16 (.s 5), false⟩,
    ⟨none, (some 17), .ia 17 1 (.s 15) (.s 16), false⟩,
    ⟨none, (some 18), .ld 18 false 1 (.s 17), false⟩,
    ⟨none, (some 19), .call (some 19) 61 false [(.s 18)], false⟩,
    ⟨none, (some 14), .mv 14 (.s 19), false⟩,
    ⟨none, (some 20), .ex 20 (.s 14) 0, false⟩,
    ⟨none, (some 21), .ex 21 (.s 14) 1, false⟩,
    ⟨none, (some 6), .mv 6 (.s 20), false⟩,
    ⟨none, (some 7), .mv 7 (.s 21), true⟩]))
  (.seq (.seq (.ops [⟨none, (some 22), .mv 22 (.s 4), false⟩,
    ⟨none, (some 23), .not 23 (.s 22), false⟩])
  (.cond (.s 23) (.seq (.seq (.keep [0, 3, 5, 6]) (.ops [⟨none, (some 24), .mv 24 (.s 3), false⟩,
    ⟨none, (some 25), .bin 25 .add (.s 24) (.k (Value.string ⟨#[97, 10]⟩)), false⟩,
    ⟨none, (some 3), .mv 3 (.s 25), false⟩]))
  (.ops [⟨none, (some 4), .mv 4 (.k (Value.bool true)), false⟩])) .skip))
  (.seq (.ops [⟨none, (some 26), .mv 26 (.s 6), false⟩,
    ⟨none, (some 27), .bin 27 .eql (.s 26) (.k (Value.string ⟨#[46]⟩)), false⟩])
  (.cond (.s 27) (.seq (.seq (.keep [0, 3, 5]) (.ops [⟨none, (some 28), .mv 28 (.s 3), false⟩,
    ⟨none, (some 29), .bin 29 .add (.s 28) (.k (Value.string ⟨#[46, 46, 10, 46, 10, 115, 47, 46, 47, 47, 10]⟩)), false⟩,
    ⟨none, (some 3), .mv 3 (.s 29), false⟩]))
  (.ops [⟨none, (some 4), .mv 4 (.k (Value.bool false)), false⟩])) (.seq (.keep [0, 3, 4, 5, 6]) (.ops [⟨none, (some 30), .mv 30 (.s 3), false⟩,
    ⟨none, (some 31), .mv 31 (.s 6), false⟩,
    ⟨none, (some 32), .bin 32 .add (.s 30) (.s 31), false⟩,
    ⟨none, (some 33), .bin 33 .add (.s 32) (.k (Value.string ⟨#[10]⟩)), false⟩,
    ⟨none, (some 3), .mv 3 (.s 33), false⟩])))))))
  (.seq (.keep [0, 3, 4, 5]) (.ops [⟨none, (some 12), .mv 12 (.s 5), false⟩,
    ⟨none, (some 13), .binc 13 .add (.s 12) (.k (Value.int .i64 1)), false⟩,
    ⟨none, (some 5), .mv 5 (.s 13), false⟩])))))))
  (.seq (.seq (.ops [⟨none, (some 34), .mv 34 (.s 4), false⟩])
  (.cond (.s 34) (.seq (.keep [3]) (.ops [⟨none, (some 35), .mv 35 (.s 3), false⟩,
    ⟨none, (some 36), .bin 36 .add (.s 35) (.k (Value.string ⟨#[46, 10]⟩)), false⟩,
    ⟨none, (some 3), .mv 3 (.s 36), false⟩])) .skip))
  (.seq (.ops [⟨none, (some 37), .mv 37 (.s 3), false⟩,
    ⟨none, (some 2), .mv 2 (.s 37), false⟩])
  .ret))))))
theorem cc59 : (Tryd.f59.body).bind (cc Tryd.prog Tryd.f59.ntmps A59) = some S59 := by kernel_rfl
def R59 : List RR := [.sl 2]
theorem cr59 : Tryd.f59.results.toList.map (crr Tryd.prog) = R59.map some := by kernel_rfl
theorem nm59 : (Tryd.f59.name == "runtime.NumGoroutine") = false := by kernel_rfl
theorem fn59 : Tryd.prog.funcs[59]? = some Tryd.f59 := by kernel_rfl
theorem bd59 : ∃ b, Tryd.f59.body = some b ∧ cc Tryd.prog Tryd.f59.ntmps A59 b = some S59 := Option.bind_eq_some_iff.1 cc59
theorem sd59 {G : World → Prop} {T : FuncId → Contract} {C : Contract} (hT : ∀ f, Sound G Tryd.prog f (T f)) (hl : C.lawful) (hC : ∀ args st K, C.wp args st K → args.length ≤ 38 ∧ ∃ os op, xv T st.n S59 (st0 args st) (retK R59 st.n os K) (panK st.n op K)) (hit : SoundIt G Tryd.prog 59 C.it := by exact SoundIt.none) : Sound G Tryd.prog 59 C := by
  obtain ⟨b, hb, hc⟩ := bd59
  rw [xv_eq] at hC
  exact sound_of_ev mo fn59 hb nm59 hc cr59 hT hl hit hC

/-! 57: redline/edfmt.put -/
def A57 : Ann := ⟨fun _ _ => 0, fun _ => none, fun r => if r = 1 then some (false, [0, 1, 4]) else if r = 3 then some (false, [0, 4, 9, 10, 11]) else if r = 6 then some (false, [0, 6, 9, 10, 11]) else if r = 7 then some (false, [0, 7, 9, 10, 11]) else if r = 10 then some (false, [0, 4, 7, 9, 10, 11]) else none, fun r => if r = 2 then [0, 4, 9, 10, 11] else []⟩
def S57 : SCode :=
  (.seq (.ops [⟨none, (some 4), .mv 4 (.k (Value.bool false)), false⟩])
  (.seq (.seq (.seq (.keep [0, 1, 4]) (.ops [⟨none, (some 9), .mv 9 (.s 1), false⟩,
    ⟨none, (some 10), .len 10 (.s 9), false⟩,
    ⟨none, (some 11), .mv 11 (.k (Value.int .i64 0)), false⟩]))
  (.block 0 (.loop [0, 4, 9, 10, 11] (.seq (.ops [⟨none, (some 12), .bin 12 .lss (.s 11) (.s 10), false⟩])
  (.seq (.cond (.s 12) .skip (.exit 0))
  (.seq (.block 1 (.seq (.seq (.keep [0, 4, 9, 10, 11]) (.ops [⟨none, (some 13), .ia 13 1 (.s 9) (.s 11), false⟩,
    ⟨none, (some 14), .ld 14 false 1 (.s 13), false⟩,
    ⟨none, (some 6), .mv 6 (.s 14), false⟩]))
  (.seq (.seq (.ops [⟨none, (some 15), .mv 15 (.s 4), false⟩])
  (.cond (.s 15) (.ops [⟨none, (some 16), .mv 16 (.s 0), false⟩,
    ⟨none, (some 17), .call (some 17) 43 false [(.s 16), (.k (Value.string ⟨#[97, 10]⟩))], false⟩]) .skip))
  (.seq (.seq (.keep [0, 6, 9, 10, 11]) (.ops [⟨none, (some 19), .mv 19 (.s 6), false⟩,
    ⟨none, (some 20), .call (some 20) 58 false [(.s 19)], false⟩,
    ⟨none, (some 18), .mv 18 (.s 20), false⟩,
    ⟨none, (some 21), .ex 21 (.s 18) 0, false⟩,
    ⟨none, (some 22), .ex 22 (.s 18) 1, false⟩,
    ⟨none, (some 7), .mv 7 (.s 21), false⟩,
    ⟨none, (some 8), .mv 8 (.s 22), false⟩]))
  (.seq (.seq (.keep [0, 7, 9, 10, 11]) (.ops [⟨none, (some 23), .mv 23 (.s 7), false⟩,
    ⟨none, (some 24), .bin 24 .eql (.s 23) (.k (Value.string ⟨#[46]⟩)), false⟩,
    ⟨none, (some 4), .mv 4 (.s 24), false⟩]))
  (.seq (.ops [⟨none, (some 25), .mv 25 (.s 4), false⟩])
  (.cond (.s 25) (.ops [⟨none, (some 26), .mv 26 (.s 0), false⟩,
    ⟨none, (some 27), .call (some 27) 43 false [(.s 26), (.k (Value.string ⟨#[46, 46, 10, 46, 10, 115, 47, 46, 47, 47, 10]⟩))], false⟩]) (.seq (.keep [0, 4, 7, 9, 10, 11]) (.ops [⟨none, (some 28), .mv 28 (.s 0), false⟩,
    ⟨none, (some 29), .mv 29 (.s 7), false⟩,
    ⟨none, (some 30), .bin 30 .add (.s 29) (.k (Value.string ⟨#[10]⟩)), false⟩,
    ⟨none, (some 31), .call (some 31) 43 false [(.s 28), (.s 30)], false⟩])))))))))
  (.ops [⟨none, (some 32), .binc 32 .add (.s 11) (.k (Value.int .i64 1)), false⟩,
    ⟨none, (some 11), .mv 11 (.s 32), false⟩])))))))
  (.seq (.ops [⟨none, (some 33), .mv 33 (.s 4), false⟩,
    ⟨none, (some 34), .not 34 (.s 33), false⟩])
  (.cond (.s 34) (.ops [⟨none, (some 35), .mv 35 (.s 0), false⟩,
    ⟨none, (some 36), .call (some 36) 43 false [(.s 35), (.k (Value.string ⟨#[46, 10]⟩))], false⟩]) .skip))))
theorem cc57 : (Tryd.f57.body).bind (cc Tryd.prog Tryd.f57.ntmps A57) = some S57 := by kernel_rfl
def R57 : List RR := []
theorem cr57 : Tryd.f57.results.toList.map (crr Tryd.prog) = R57.map some := by kernel_rfl
theorem nm57 : (Tryd.f57.name == "runtime.NumGoroutine") = false := by kernel_rfl
theorem fn57 : Tryd.prog.funcs[57]? = some Tryd.f57 := by kernel_rfl
theorem bd57 : ∃ b, Tryd.f57.body = some b ∧ cc Tryd.prog Tryd.f57.ntmps A57 b = some S57 := Option.bind_eq_some_iff.1 cc57
theorem sd57 {G : World → Prop} {T : FuncId → Contract} {C : Contract} (hT : ∀ f, Sound G Tryd.prog f (T f)) (hl : C.lawful) (hC : ∀ args st K, C.wp args st K → args.length ≤ 37 ∧ ∃ os op, xv T st.n S57 (st0 args st) (retK R57 st.n os K) (panK st.n op K)) (hit : SoundIt G Tryd.prog 57 C.it := by exact SoundIt.none) : Sound G Tryd.prog 57 C := by
  obtain ⟨b, hb, hc⟩ := bd57
  rw [xv_eq] at hC
  exact sound_of_ev mo fn57 hb nm57 hc cr57 hT hl hit hC

/-! 56: redline/edfmt.span -/
def A56 : Ann := ⟨fun _ _ => 0, fun _ => none, fun r => if r = 2 then some (false, [0]) else if r = 3 then some (false, [0, 1]) else none, fun _ => []⟩
def S56 : SCode :=
  (.seq (.ops [⟨none, (some 4), .mv 4 (.k (Value.string ⟨#[]⟩)), false⟩])
  (.seq (.seq (.ops [⟨none, (some 5), .mv 5 (.s 1), false⟩,
    ⟨none, (some 6), .bin 6 .eql (.s 5) (.k (Value.int .i64 1)), false⟩])
  (.cond (.s 6) (.seq (.seq (.keep [0]) (.ops [⟨none, (some 7), .mv 7 (.s 0), false⟩,
    ⟨none, (some 8), .binc 8 .add (.s 7) (.k (Value.int .i64 1)), false⟩,
    ⟨none, (some 9), .call (some 9) 32 false [(.s 8)], false⟩,
    ⟨none, (some 4), .mv 4 (.s 9), false⟩]))
  .ret) .skip))
  (.seq (.seq (.keep [0, 1]) (.ops [⟨none, (some 10), .mv 10 (.s 0), false⟩,
    ⟨none, (some 11), .binc 11 .add (.s 10) (.k (Value.int .i64 1)), false⟩,
    ⟨none, (some 12), .call (some 12) 32 false [(.s 11)], false⟩,
    ⟨none, (some 13), .bin 13 .add (.s 12) (.k (Value.string ⟨#[44]⟩)), false⟩,
    ⟨none, (some 14), .mv 14 (.s 0), false⟩,
    ⟨none, (some 15), .mv 15 (.s 1), false⟩,
    ⟨none, (some 16), .binc 16 .add (.s 14) (.s 15), false⟩,
    ⟨none, (some 17), .call (some 17) 32 false [(.s 16)], false⟩,
    ⟨none, (some 18), .bin 18 .add (.s 13) (.s 17), false⟩,
    ⟨none, (some 4), .mv 4 (.s 18), true⟩]))
  .ret)))
theorem cc56 : (Tryd.f56.body).bind (cc Tryd.prog Tryd.f56.ntmps A56) = some S56 := by kernel_rfl
def R56 : List RR := [.sl 4]
theorem cr56 : Tryd.f56.results.toList.map (crr Tryd.prog) = R56.map some := by kernel_rfl
theorem nm56 : (Tryd.f56.name == "runtime.NumGoroutine") = false := by kernel_rfl
theorem fn56 : Tryd.prog.funcs[56]? = some Tryd.f56 := by kernel_rfl
theorem bd56 : ∃ b, Tryd.f56.body = some b ∧ cc Tryd.prog Tryd.f56.ntmps A56 b = some S56 := Option.bind_eq_some_iff.1 cc56
theorem sd56 {G : World → Prop} {T : FuncId → Contract} {C : Contract} (hT : ∀ f, Sound G Tryd.prog f (T f)) (hl : C.lawful) (hC : ∀ args st K, C.wp args st K → args.length ≤ 19 ∧ ∃ os op, xv T st.n S56 (st0 args st) (retK R56 st.n os K) (panK st.n op K)) (hit : SoundIt G Tryd.prog 56 C.it := by exact SoundIt.none) : Sound G Tryd.prog 56 C := by
  obtain ⟨b, hb, hc⟩ := bd56
  rw [xv_eq] at hC
  exact sound_of_ev mo fn56 hb nm56 hc cr56 hT hl hit hC

/-! 55: slices.Backward[[]redline/api.Change,redline/api.Change] -/
def A55 : Ann := ⟨fun _ _ => 0, fun _ => none, fun _ => none, fun _ => []⟩
def S55 : SCode :=
  (.seq (.ops [⟨none, (some 1), .bx 1 22 1 (.s 0), false⟩,
    ⟨none, (some 2), .mv 2 (.k Value.nilFunc), false⟩])
  (.seq (.ops [⟨none, (some 3), .mf 3 106 [(.s 1)], false⟩,
    ⟨none, (some 2), .mv 2 (.s 3), false⟩])
  .ret))
theorem cc55 : (Tryd.f55.body).bind (cc Tryd.prog Tryd.f55.ntmps A55) = some S55 := by kernel_rfl
def R55 : List RR := [.sl 2]
theorem cr55 : Tryd.f55.results.toList.map (crr Tryd.prog) = R55.map some := by kernel_rfl
theorem nm55 : (Tryd.f55.name == "runtime.NumGoroutine") = false := by kernel_rfl
theorem fn55 : Tryd.prog.funcs[55]? = some Tryd.f55 := by kernel_rfl
theorem bd55 : ∃ b, Tryd.f55.body = some b ∧ cc Tryd.prog Tryd.f55.ntmps A55 b = some S55 := Option.bind_eq_some_iff.1 cc55
theorem sd55 {G : World → Prop} {T : FuncId → Contract} {C : Contract} (hT : ∀ f, Sound G Tryd.prog f (T f)) (hl : C.lawful) (hC : ∀ args st K, C.wp args st K → args.length ≤ 4 ∧ ∃ os op, xv T st.n S55 (st0 args st) (retK R55 st.n os K) (panK st.n op K)) (hit : SoundIt G Tryd.prog 55 C.it := by exact SoundIt.none) : Sound G Tryd.prog 55 C := by
  obtain ⟨b, hb, hc⟩ := bd55
  rw [xv_eq] at hC
  exact sound_of_ev mo fn55 hb nm55 hc cr55 hT hl hit hC

/-! 106: slices.Backward[[]redline/api.Change,redline/api.Change]$1 -/
def A106 : Ann := ⟨fun _ _ => 0, fun _ => none, fun r => if r = 2 then some (false, [0, 1, 3]) else if r = 3 then some (false, [0, 1, 3]) else none, fun r => if r = 1 then [0, 1, 3] else []⟩
def S106 : SCode :=
  (.seq (.ops [⟨none, (some 4), .ld 4 false 1 (.s 1), false⟩,
    ⟨none, (some 5), .len 5 (.s 4), false⟩,
    ⟨none, (some 6), .binc 6 .sub (.s 5) (.k (Value.int .i64 1)), false⟩,
    ⟨none, (some 3), .mv 3 (.s 6), false⟩])
  (.block 0 (.loop [0, 1, 3] (.seq (.seq (.ops [⟨none, (some 7), .mv 7 (.s 3), false⟩,
    ⟨none, (some 8), .bin 8 .geq (.s 7) (.k (Value.int .i64 0)), false⟩])
  (.cond (.s 8) .skip (.exit 0)))
  (.seq (.block 1 (.seq (.seq (.keep [0, 1, 3]) (.ops [⟨none, (some 11), .mv 11 (.s 0), false⟩,
    ⟨none, (some 12), .mv 12 (.s 3), false⟩,
    ⟨none, (some 13), .ld 13 false 1 (.s 1), false⟩,
    ⟨none, (some 14), .mv 14 (.s 3), false⟩,
    ⟨none, (some 15), .ia 15 4 (.s 13) (.s 14), false⟩,
    ⟨none, (some 16), .ld 16 true 4 (.s 15), false⟩,
    ⟨none, (some 17), .callv (some 17) false (.s 11) [(.s 12), (.s 16)], false⟩,
    ⟨none, (some 18), .not 18 (.s 17), false⟩]))
  (.cond (.s 18) .ret .skip)))
  (.seq (.keep [0, 1, 3]) (.ops [⟨none, (some 9), .mv 9 (.s 3), false⟩,
    ⟨none, (some 10), .binc 10 .sub (.s 9) (.k (Value.int .i64 1)), false⟩,
    ⟨none, (some 3), .mv 3 (.s 10), false⟩])))))))
theorem cc106 : (Tryd.f106.body).bind (cc Tryd.prog Tryd.f106.ntmps A106) = some S106 := by kernel_rfl
def R106 : List RR := []
theorem cr106 : Tryd.f106.results.toList.map (crr Tryd.prog) = R106.map some := by kernel_rfl
theorem nm106 : (Tryd.f106.name == "runtime.NumGoroutine") = false := by kernel_rfl
theorem fn106 : Tryd.prog.funcs[106]? = some Tryd.f106 := by kernel_rfl
theorem bd106 : ∃ b, Tryd.f106.body = some b ∧ cc Tryd.prog Tryd.f106.ntmps A106 b = some S106 := Option.bind_eq_some_iff.1 cc106
theorem sd106 {G : World → Prop} {T : FuncId → Contract} {C : Contract} (hT : ∀ f, Sound G Tryd.prog f (T f)) (hl : C.lawful) (hC : ∀ args st K, C.wp args st K → args.length ≤ 19 ∧ ∃ os op, xv T st.n S106 (st0 args st) (retK R106 st.n os K) (panK st.n op K)) (hit : SoundIt G Tryd.prog 106 C.it := by exact SoundIt.none) : Sound G Tryd.prog 106 C := by
  obtain ⟨b, hb, hc⟩ := bd106
  rw [xv_eq] at hC
  exact sound_of_ev mo fn106 hb nm106 hc cr106 hT hl hit hC

end Go.Proofs.YtpbkdcfjlbdgfaaDoor
/- Iterators: functions that call yield, and neither write nor lay memory. -/
set_option linter.unusedVariables false
set_option linter.unusedSimpArgs false
namespace Go.Ev
open Go

/-- How an operation is looked at: a call of yield; a move that may be one of yield; others. -/
inductive ItK where
  | y (d : Option Nat) (t : Nat) (rs : List Rv)
  | m (d t : Nat)
  | p
def itK : SOp → ItK
  | .callv d _ (.s t) rs => .y d t rs
  | .mv d (.s t) => .m d t
  | _ => .p
def niO : Option Nat → List Nat → Prop
  | some k, yl => k ∉ yl
  | none, _ => True
theorem niO_ok {d : Option Nat} {yl : List Nat} (h : niO d yl) : ∀ k, d = some k → k ∉ yl := by
  rintro k rfl; exact h
/-- yl: slots that hold yield; md: so many rounds are done, or no more is wanted. -/
def itOps (T : FuncId → Contract) (xs : List (List SV)) : List GOp → List Nat → St → Option Nat → (List Nat → St → Option Nat → Prop) → Prop
  | [], yl, st, md, K => K yl st md
  | ⟨some _, _, _, _⟩ :: _, _, _, _, _ => False
  | ⟨none, d', s, _⟩ :: r, yl, st, md, K => match itK s with
    | .y d t rs => (t ∈ yl ∧ niO d yl) ∧ need md fun k => need xs[k]? fun x => (rs.map fun r => r.get st) = x ∧
        itOps T xs r yl (st.putO d (.d (.v (.bool true)))) (some (k + 1)) K ∧ itOps T xs r yl (st.putO d (.d (.v (.bool false)))) none K
    | .m d t => if t ∈ yl then itOps T xs r (d :: yl) (st.put d .any) md K else d ∉ yl ∧ itOps T xs r yl (st.put d (st.get t)) md K
    | .p => (isTk s = true ∧ niO d' yl) ∧ xStep T s st (fun st' => itOps T xs r yl st' md K) noP
abbrev IKs := Ex → List Nat → St → Option Nat → Prop
def itThen (K2 : List Nat → St → Option Nat → Prop) (K : IKs) : IKs
  | .normal, yl, st, md => K2 yl st md
  | e, yl, st, md => K e yl st md
def itBlk (id : Nat) (K : IKs) : IKs
  | .exit j, yl, st, md => if j = id then K .normal yl st md else K (.exit j) yl st md
  | e, yl, st, md => K e yl st md
@[irreducible] def itAgain (I : Nat → St → Option Nat → Prop) (ks yl0 : List Nat) (n : Nat) (yl : List Nat) (st : PSt I) (md : Option Nat) : Prop := (∀ t ∈ yl0, t ∈ yl) ∧ ∃ k, k < n ∧ I k (St.keep ks st) md
@[irreducible] def itLoop (body : List Nat → St → Option Nat → IKs → Prop) (ks yl : List Nat) (K : IKs) (st : PSt (body, K)) (md : Option Nat) : Prop :=
  ∃ (I : Nat → St → Option Nat → Prop) (n : Nat), I n (St.keep ks st) md ∧ ∀ n st md, I n st md → body yl st md (itThen (itAgain I ks yl n) K)
def itv (T : FuncId → Contract) (xs : List (List SV)) : SCode → List Nat → St → Option Nat → IKs → Prop
  | .skip, yl, st, md, K => K .normal yl st md
  | .ops l, yl, st, md, K => itOps T xs l yl st md (K .normal)
  | .keep ks, yl, st, md, K => K .normal yl (st.keep ks) md
  | .seq a b, yl, st, md, K => itv T xs a yl st md (itThen (fun yl' st' md' => itv T xs b yl' st' md' K) K)
  | .cond c t e, yl, st, md, K => match c.get st with
    | .d (.v (.bool b)) => (b = true → itv T xs t yl st md K) ∧ (b = false → itv T xs e yl st md K)
    | _ => False
  | .block id b, yl, st, md, K => itv T xs b yl st md (itBlk id K)
  | .loop ks b, yl, st, md, K => itLoop (itv T xs b) ks yl K st md
  | .exit id, yl, st, md, K => K (.exit id) yl st md
  | .ret, yl, st, md, K => K .ret yl st md
  | _, _, _, _, _ => False
@[congr] theorem itOps_congr {T : FuncId → Contract} {xs : List (List SV)} {l : List GOp} {yl yl' : List Nat} {st st' : St} {md md' : Option Nat} {K : List Nat → St → Option Nat → Prop} (h1 : yl = yl') (h2 : st = st') (h3 : md = md') : itOps T xs l yl st md K = itOps T xs l yl' st' md' K := by rw [h1, h2, h3]
@[congr] theorem itv_congr {T : FuncId → Contract} {xs : List (List SV)} {s : SCode} {yl yl' : List Nat} {st st' : St} {md md' : Option Nat} {K : IKs} (h1 : yl = yl') (h2 : st = st') (h3 : md = md') : itv T xs s yl st md K = itv T xs s yl' st' md' K := by rw [h1, h2, h3]
@[congr] theorem itThen_congr {K2 : List Nat → St → Option Nat → Prop} {K : IKs} {e : Ex} {yl yl' : List Nat} {st st' : St} {md md' : Option Nat} (h1 : yl = yl') (h2 : st = st') (h3 : md = md') : itThen K2 K e yl st md = itThen K2 K e yl' st' md' := by rw [h1, h2, h3]
@[congr] theorem itBlk_congr {id : Nat} {K : IKs} {e : Ex} {yl yl' : List Nat} {st st' : St} {md md' : Option Nat} (h1 : yl = yl') (h2 : st = st') (h3 : md = md') : itBlk id K e yl st md = itBlk id K e yl' st' md' := by rw [h1, h2, h3]
@[congr] theorem itLoop_congr {body : List Nat → St → Option Nat → IKs → Prop} {ks yl yl' : List Nat} {st st' : St} {md md' : Option Nat} {K : IKs} (h1 : yl = yl') (h2 : st = st') (h3 : md = md') : itLoop body ks yl K st md = itLoop body ks yl' K st' md' := by rw [h1, h2, h3]
@[congr] theorem itAgain_congr {I : Nat → St → Option Nat → Prop} {ks yl0 : List Nat} {n : Nat} {yl yl' : List Nat} {st st' : St} {md md' : Option Nat} (h1 : yl = yl') (h2 : st = st') (h3 : md = md') : itAgain I ks yl0 n yl st md = itAgain I ks yl0 n yl' st' md' := by rw [h1, h2, h3]
theorem itLoop_intro {body : List Nat → St → Option Nat → IKs → Prop} {ks yl : List Nat} {st : St} {md : Option Nat} {K : IKs} (I : Nat → St → Option Nat → Prop) (n : Nat) (h1 : I n (st.keep ks) md)
    (h2 : ∀ n st md, I n st md → body yl st md (itThen (itAgain I ks yl n) K)) : itLoop body ks yl K st md := by unfold itLoop; exact ⟨I, n, h1, h2⟩
theorem itAgain_intro {I : Nat → St → Option Nat → Prop} {ks yl0 : List Nat} {n : Nat} {yl : List Nat} {st : St} {md : Option Nat} (k : Nat) (h0 : ∀ t ∈ yl0, t ∈ yl) (h1 : k < n) (h2 : I k (st.keep ks) md) : itAgain I ks yl0 n yl st md := by
  unfold itAgain; exact ⟨h0, k, h1, h2⟩
theorem itKs : (∀ (K2 : List Nat → St → Option Nat → Prop) (K : IKs) yl st md, itThen K2 K .normal yl st md = K2 yl st md) ∧ (∀ (K2 : List Nat → St → Option Nat → Prop) (K : IKs) i yl st md, itThen K2 K (.exit i) yl st md = K (.exit i) yl st md) ∧ (∀ (K2 : List Nat → St → Option Nat → Prop) (K : IKs) yl st md, itThen K2 K .ret yl st md = K .ret yl st md) ∧
    (∀ id (K : IKs) yl st md, itBlk id K .normal yl st md = K .normal yl st md) ∧ (∀ id (K : IKs) yl st md, itBlk id K .ret yl st md = K .ret yl st md) ∧ (∀ id j (K : IKs) yl st md, itBlk id K (.exit j) yl st md = if j = id then K .normal yl st md else K (.exit j) yl st md) :=
  ⟨fun _ _ _ _ _ => rfl, fun _ _ _ _ _ _ => rfl, fun _ _ _ _ _ => rfl, fun _ _ _ _ _ => rfl, fun _ _ _ _ _ => rfl, fun _ _ _ _ _ _ => rfl⟩

section
variable {P : Program} {T : FuncId → Contract} {N l : Nat} {xs : List (List SV)} {S : Nat → Prop} {w : World} {J : Nat → World → Prop} {Jx : World → Prop}

/-- What stays readable. -/
def rdS (S : Nat → Prop) (w : World) : Rdr := fun a u => w.cell? a = some u ∧ S a.block
def WJ (J : Nat → World → Prop) (Jx : World → Prop) : Option Nat → World → Prop
  | some k, W => J k W
  | none, W => Jx W
structure IS (S : Nat → Prop) (w : World) (N l : Nat) (a : Act) (yl : List Nat) (st : St) : Prop where
  size : a.tmps.size = N
  defers : a.defers = []
  slots : SlOk (fun _ => undef) 0 (rdS S w) a st
  ob : st.ob = []
  n : st.n = 0
  yl : ∀ t ∈ yl, a.tmps.getD t undef = .func (.yield l) #[] #[]
structure Env (P : Program) (S : Nat → Prop) (w : World) (l : Nat) (xs : List (List SV)) (J : Nat → World → Prop) (Jx : World → Prop) : Prop where
  kept : ∀ md W, WJ J Jx md W → ∀ b, S b → b < w.heap.size → W.heap[b]? = w.heap[b]?
  yield : ∀ k W x ys, J k W → xs[k]? = some x → CnL (fun _ => undef) 0 (rdS S w) x ys → YieldAt Fence.wide 0 P l ys.toArray W fun e W' => (e = .returned (.bool true) ∧ J (k + 1) W') ∨ (e = .returned (.bool false) ∧ Jx W')
def LiftI (S : Nat → Prop) (w : World) (N l : Nat) (J : Nat → World → Prop) (Jx : World → Prop) (K : IKs) : Exit → Act → World → Prop
  | .normal, a, W => ∃ yl st md, K .normal yl st md ∧ IS S w N l a yl st ∧ WJ J Jx md W
  | .exit id, a, W => ∃ yl st md, K (.exit id) yl st md ∧ IS S w N l a yl st ∧ WJ J Jx md W
  | .ret, a, W => ∃ yl st md, K .ret yl st md ∧ IS S w N l a yl st ∧ WJ J Jx md W
  | _, _, _ => False

/-- Everything but what stays is hidden. -/
def hS (S : Nat → Prop) (n : Nat) (W : World) : Hd (fun _ => True) := ⟨fun b => b < W.heap.size ∧ ¬ (S b ∧ b < n), fun _ => False, fun _ h => h.elim, fun _ _ _ _ => trivial, 0⟩
theorem IS.sat {a : Act} {yl : List Nat} {st : St} {W : World} (h : IS S w N l a yl st) (hk : ∀ b, S b → b < w.heap.size → W.heap[b]? = w.heap[b]?) : Sat (hS S w.heap.size W) N W (fun _ => undef) (fun _ _ => False) a st := by
  refine ⟨h.size, by rw [h.defers]; exact Marks.nil _ _ _ _, fun k => ?_, ?_⟩
  · rw [h.n, h.ob]
    refine Cn_mono (Nat.le_refl _) (fun _ _ => rfl) (fun a u hu => ?_) _ _ (h.slots k)
    have hl := cell_lt hu.1
    refine ⟨by rw [World.cell?_of_block (hk _ hu.2 hl)]; exact hu.1, fun ⟨o, x, h1, _⟩ => by simp [lk] at h1, fun hh => hh.2 ⟨hu.2, hl⟩⟩
  · show SOk _ _ _ _ ⟨st.n, st.ob⟩
    rw [h.n, h.ob]
    exact SOk.empty (H := hS S w.heap.size W) (fun b hb => hb.1) trivial _ _
theorem vw_rdS {W : World} (hk : ∀ b, S b → b < w.heap.size → W.heap[b]? = w.heap[b]?) (a : Addr) (u : Value) (h : vw (hS S w.heap.size W) W (fun _ _ => False) [] a u) : rdS S w a u := by
  have hl := cell_lt h.1
  have : S a.block ∧ a.block < w.heap.size := Classical.byContradiction fun hn => h.2.2 ⟨hl, hn⟩
  exact ⟨by rw [← World.cell?_of_block (hk _ this.1 this.2)]; exact h.1, this.1⟩
theorem IS.put {a : Act} {yl : List Nat} {st : St} (h : IS S w N l a yl st) {d : Nat} (hd : d < N) (hy : d ∉ yl) {x : SV} {v : Value} (hx : Cn (fun _ => undef) 0 (rdS S w) x v) : IS S w N l (a.put (some d) v) yl (st.put d x) :=
  ⟨by simp [Act.put, h.size], h.defers, h.slots.put (by rw [h.size]; exact hd) hx, h.ob, h.n, fun t ht => by
    rw [getD_put _ _ _ _ (by rw [h.size]; exact hd)]
    rw [if_neg (fun (e : d = t) => hy (e ▸ ht))]; exact h.yl t ht⟩
theorem IS.putO {a : Act} {yl : List Nat} {st : St} (h : IS S w N l a yl st) {d : Option Nat} (hd : ∀ k, d = some k → k < N) (hy : ∀ k, d = some k → k ∉ yl) {x : SV} {v : Value} (hx : Cn (fun _ => undef) 0 (rdS S w) x v) : IS S w N l (a.put d v) yl (st.putO d x) := by
  cases d with
  | none => exact h
  | some d => exact h.put (hd d rfl) (hy d rfl) hx
theorem IS.keep {a : Act} {yl : List Nat} {st : St} (h : IS S w N l a yl st) {ks : List Nat} : IS S w N l a yl (st.keep ks) := by
  refine ⟨h.size, h.defers, fun k => ?_, h.ob, h.n, h.yl⟩
  have key : ∀ ks : List Nat, Cn (fun _ => undef) 0 (rdS S w) ((lk (ks.map fun k => (k, st.get k)) k).getD .any) (a.tmps.getD k undef) := by
    intro ks
    induction ks with
    | nil => simp [lk, Cn]
    | cons j r ih =>
      simp only [List.map_cons, lk_cons]
      by_cases e : j = k
      · subst e
        simp only [if_true, Option.getD_some]
        exact h.slots j
      · simp only [e, if_false]; exact ih
  exact key ks
theorem LiftI.notOut {K : IKs} : ¬ LetsOut (LiftI S w N l J Jx K) := fun ⟨_, _, h⟩ => h

theorem cop_callv {an : Nat} {o : Oper} {d : Option Nat} {lend : Bool} {x : Rv} {rs : List Rv} (h : cop P N an o = some (.callv d lend x rs)) : ∃ c, o.op = .call c ∧ copCall P N an c o.dst = some (.callv d lend x rs) := by
  unfold cop at h
  split at h
  all_goals first
    | exact ⟨_, by assumption, h⟩
    | (exfalso
       repeat' (first
         | (simp only [Option.ite_none_right_eq_some, Option.bind_eq_some_iff, Option.map_eq_some_iff, reduceCtorEq, and_false, exists_false, Option.some.injEq] at h; done)
         | (simp only [Option.ite_none_right_eq_some, Option.bind_eq_some_iff, Option.map_eq_some_iff] at h)
         | (obtain ⟨_, h⟩ := h)
         | split at h
         | cases h))
theorem copCall_callv {an : Nat} {c : Call} {d dst : Option Nat} {lend : Bool} {x : Rv} {rs : List Rv} (h : copCall P N an c dst = some (.callv d lend x rs)) : ∃ t, c.callee = .value (.tmp t) ∧ x = .s t ∧ d = dst ∧ (∀ k, d = some k → k < N) ∧ c.args.toList.map opn = rs.map some := by
  unfold copCall at h
  split at h
  all_goals first
    | (rename_i t ec
       obtain ⟨hd, h⟩ := Option.ite_none_right_eq_some.1 h
       obtain ⟨q, hq, hs⟩ := Option.map_eq_some_iff.1 h
       simp only [SOp.callv.injEq] at hs
       obtain ⟨hs1, hs2, hs3, hs4⟩ := hs
       subst hs1 hs3 hs4
       exact ⟨t, ec, rfl, rfl, fun k hk => by rw [hk] at hd; simpa using hd, mapM_some hq⟩)
    | (exfalso
       repeat' (first
         | (simp only [Option.ite_none_right_eq_some, Option.bind_eq_some_iff, Option.map_eq_some_iff, reduceCtorEq, and_false, exists_false, Option.some.injEq] at h; done)
         | (simp only [Option.ite_none_right_eq_some, Option.bind_eq_some_iff, Option.map_eq_some_iff] at h)
         | (obtain ⟨_, h⟩ := h)
         | split at h
         | cases h))
theorem opn_s {x : Operand} {t : Nat} (h : opn x = some (.s t)) : x = .tmp t := by
  unfold opn at h
  repeat' (first | (simp at h; done) | split at h)
  all_goals first | (simp at h; subst h; rfl) | (simp at h)
theorem cop_mv {an : Nat} {o : Oper} {d t : Nat} (h : cop P N an o = some (.mv d (.s t))) : o.dst = some d ∧ d < N ∧ ∀ (a : Act) (W : World), (execOp a.eval o).run P W = .ok (.value (a.tmps.getD t undef)) W := by
  unfold cop at h
  split at h
  case h_1 | h_2 =>
    rename_i x d' e1 e2
    obtain ⟨hd, h⟩ := Option.ite_none_right_eq_some.1 h
    split at h
    · obtain ⟨_, h⟩ := Option.ite_none_right_eq_some.1 h
      obtain ⟨_, _, h⟩ := Option.map_eq_some_iff.1 h
      cases h
    · obtain ⟨r, hr, h⟩ := Option.map_eq_some_iff.1 h
      simp only [SOp.mv.injEq] at h
      obtain ⟨rfl, rfl⟩ := h
      have := opn_s hr
      subst this
      exact ⟨e2, hd, fun a W => by simp [execOp, e1, Act.eval]⟩
  case h_26 =>
    rename_i c e
    exfalso
    unfold copCall at h
    repeat' (first
         | (simp only [Option.ite_none_right_eq_some, Option.bind_eq_some_iff, Option.map_eq_some_iff, reduceCtorEq, and_false, exists_false, Option.some.injEq] at h; done)
         | (simp only [Option.ite_none_right_eq_some, Option.bind_eq_some_iff, Option.map_eq_some_iff] at h)
         | (obtain ⟨_, h⟩ := h)
         | split at h
         | cases h)
  all_goals
      (exfalso
       repeat' (first
         | (simp only [Option.ite_none_right_eq_some, Option.bind_eq_some_iff, Option.map_eq_some_iff, reduceCtorEq, and_false, exists_false, Option.some.injEq] at h; done)
         | (simp only [Option.ite_none_right_eq_some, Option.bind_eq_some_iff, Option.map_eq_some_iff] at h)
         | (obtain ⟨_, h⟩ := h)
         | split at h
         | cases h))
theorem itOps_ok (he : Env P S w l xs J Jx) {an : Nat → Nat} {ops : Array Oper} (hnd : noDefer ops = true) {K : IKs} : ∀ (r : List Oper) (i : Nat) (gs : List GOp) (a : Act) (W : World) (yl : List Nat) (st : St) (md : Option Nat),
    cops P N an ops r i = some gs → (∀ j o, r[j]? = some o → ops[i + j]? = some o) → IS S w N l a yl st → WJ J Jx md W → itOps T xs gs yl st md (K .normal) →
    wpOpsIn Fence.wide 0 P ops (LiftI S w N l J Jx K) (List.range' i r.length) a W
  | [], i, gs, a, W, yl, st, md, hc, _, h, hJ, hK => by
    simp only [cops, Option.some.injEq] at hc; subst hc
    exact ⟨yl, st, md, hK, h, hJ⟩
  | o :: r, i, gs, a, W, yl, st, md, hc, hl, h, hJ, hK => by
    simp only [cops] at hc
    obtain ⟨g, hg, hc⟩ := Option.bind_eq_some_iff.1 hc
    obtain ⟨gs', hgs, rfl⟩ := Option.map_eq_some_iff.1 hc
    obtain ⟨h1, h2, h3, h4⟩ := gop_ok hg
    have ho : ops[i]? = some o := hl 0 o rfl
    have hl' : ∀ j o', r[j]? = some o' → ops[i + 1 + j]? = some o' := fun j o' hj => by
      have := hl (j + 1) o' (by simpa using hj)
      rwa [show i + (j + 1) = i + 1 + j by omega] at this
    simp only [List.length_cons, List.range'_succ, wpOpsIn, ho]
    obtain ⟨gg, gd', s, gb⟩ := g
    cases gg with
    | some p => exact hK.elim
    | none =>
      simp only [itOps] at hK
      rw [wanted_none h1]
      simp only [if_true]
      have ih := itOps_ok he (an := an) hnd (K := K) r (i + 1) gs'
      have hk := he.kept md W hJ
      have hsat := h.sat hk
      have hkx : ∀ x v, Cn (fun _ => undef) st.n (vw (hS S w.heap.size W) W (fun _ _ => False) st.ob) x v → Cn (fun _ => undef) 0 (rdS S w) x v := fun x v hx => by
        rw [h.n, h.ob] at hx
        exact Cn_mono (Nat.le_refl _) (fun _ _ => rfl) (vw_rdS hk) _ _ hx
      simp only at h2 h3 h4
      split at hK
      · -- yield
        rename_i d t rs es
        obtain ⟨⟨y1, y2⟩, hK⟩ := hK
        replace y2 := niO_ok y2
        obtain ⟨k, rfl, hK⟩ := need_ex hK
        replace hK : need xs[k]? fun x => _ := hK
        obtain ⟨x, ex, hK⟩ := need_ex hK
        obtain ⟨hx, kt, kf⟩ := hK
        obtain ⟨lend, rfl⟩ : ∃ lend, s = .callv d lend (.s t) rs := by
          unfold itK at es
          split at es <;> cases es
          exact ⟨_, rfl⟩
        obtain ⟨c, e0, hcc⟩ := cop_callv h2
        obtain ⟨t', e1, e2, rfl, e3, e4⟩ := copCall_callv hcc
        simp only [Rv.s.injEq] at e2; subst e2
        obtain ⟨args, ea⟩ : ∃ args, args = c.args.toList.map a.eval := ⟨_, rfl⟩
        have hargs : CnL (fun _ => undef) 0 (rdS S w) x args := by
          have := getL_ok hsat (xs := c.args.toList) e4
          rw [hx, ← ea, h.n, h.ob] at this
          exact CnL_mono (Nat.le_refl _) (fun _ _ => rfl) (vw_rdS hk) _ _ this
        obtain ⟨f, tmps, assign, body, hy, hr⟩ := he.yield k W x args hJ ex hargs
        have hrun : (execOp a.eval o).run P W = .ok (.round l f tmps assign body) W := by
          obtain ⟨cc, ca, ct⟩ := c
          simp only at e1 ea
          subst e1
          have hyl := h.yl t y1
          have : (a.eval (.tmp t)) = .func (.yield l) #[] #[] := hyl
          have hy2 : (Instr.yield l (ca.map a.eval)).run P W = .ok (.round l f tmps assign body) W := by
            rw [show ca.map a.eval = args.toArray by rw [ea]; apply Array.ext'; simp]; exact hy
          simp only [execOp, e0, resolve, this, Deferred.ofValue, invoke, Sem.run_bind, Sem.run_pure, Result.andThen_ok]
          simpa using hy2
        refine ⟨fun f _ => trivial, ?_⟩
        rw [Oper.semAt_plain Fence.wide a.eval o (noDefer_ok hnd i o ho), hrun, Oper.uponIn_round]
        refine ⟨fun hh => by simp [Fence.wide] at hh, hr.mono ?_⟩
        rintro e W' (⟨rfl, hJ'⟩ | ⟨rfl, hJ'⟩)
        · exact ih _ W' yl _ (some (k + 1)) hgs hl' (h.putO e3 y2 (Cn_dv rfl)) hJ' kt
        · exact ih _ W' yl _ none hgs hl' (h.putO e3 y2 (Cn_dv rfl)) hJ' kf
      · -- a move
        rename_i d t es
        obtain rfl : s = .mv d (.s t) := by
          unfold itK at es
          split at es <;> cases es
          rfl
        obtain ⟨m1, m2, m3⟩ := cop_mv h2
        refine opIn_of_op (.inl rfl) (noDefer_ok hnd i o ho) ?_
        unfold Oper.wp
        rw [m3, Oper.upon_value, m1]
        split at hK
        · rename_i hyt
          refine ih _ W (d :: yl) _ md hgs hl' ⟨by simp [Act.put, h.size], h.defers, h.slots.put (by rw [h.size]; exact m2) (by simp [Cn]), h.ob, h.n, fun t' ht' => ?_⟩ hJ hK
          rw [getD_put _ _ _ _ (by rw [h.size]; exact m2)]
          by_cases e : d = t'
          · rw [if_pos e]; exact h.yl t hyt
          · rw [if_neg e]
            exact h.yl t' ((List.mem_cons.1 ht').resolve_left fun hh => e hh.symm)
        · exact ih _ W yl _ md hgs hl' (h.put m2 hK.1 (h.slots t)) hJ hK.2
      · obtain ⟨⟨p1, p2⟩, hK⟩ := hK
        replace p2 := niO_ok p2
        rw [xStep_eq] at hK
        obtain ⟨d, q1, q2, x, v, q3, q4, q5⟩ := take_ok h2 hsat (xo := []) (tkC_ok p1 (by unfold tkC; split <;> trivial)) hK (XB := fun _ => False) (fun b hb => hb.elim)
        refine opIn_of_op (.inl rfl) (noDefer_ok hnd i o ho) ?_
        unfold Oper.wp
        rw [q5 W (fun _ _ _ => rfl), Oper.upon_value, q1]
        exact ih _ W yl _ md hgs hl' (h.put q2 (p2 d (h3.trans q1)) (hkx _ _ q4)) hJ q3

theorem itv_ok (he : Env P S w l xs J Jx) {A : Ann} : ∀ (c : Code) (s : SCode), cc P N A c = some s → flat c = true → ∀ (K : IKs) (a : Act) (W : World) (yl : List Nat) (st : St) (md : Option Nat),
    IS S w N l a yl st → WJ J Jx md W → itv T xs s yl st md K → c.wpIn Fence.wide 0 P (LiftI S w N l J Jx K) a W
  | .skip, s, hc, hfl, K, a, W, yl, st, md, h, hJ, hK => by
    simp only [cc, Option.some.injEq] at hc; subst hc
    exact wpIn_skip ⟨yl, st, md, hK, h, hJ⟩
  | .region id ops false, s, hc, hfl, K, a, W, yl, st, md, h, hJ, hK => by
    simp only [cc] at hc
    obtain ⟨hnd, hc⟩ := Option.ite_none_right_eq_some.1 hc
    obtain ⟨gs, hg, rfl⟩ := Option.map_eq_some_iff.1 hc
    have go : ∀ st, IS S w N l a yl st → itOps T xs gs yl st md (K .normal) → (Code.region id ops false).wpIn Fence.wide 0 P (LiftI S w N l J Jx K) a W := fun st h hK => by
      refine wpIn_region ?_
      have := itOps_ok he hnd ops.toList 0 gs a W yl st md hg (fun j o hj => by simpa using hj) h hJ hK
      rwa [Array.length_toList, ← List.range_eq_range'] at this
    unfold cutAt at hK
    split at hK
    · exact hK.elim
    · exact go _ h.keep hK
    · exact go _ h hK
  | .region id ops true, s, hc, hfl, K, a, W, yl, st, md, h, hJ, hK => by
    simp only [cc] at hc
    obtain ⟨p, hp, hc⟩ := Option.bind_eq_some_iff.1 hc
    obtain ⟨h1, hc⟩ := Option.ite_none_right_eq_some.1 hc
    obtain ⟨gs, hg, rfl⟩ := Option.map_eq_some_iff.1 hc
    unfold cutAt at hK
    split at hK <;> exact hK.elim
  | .seq x y, s, hc, hfl, K, a, W, yl, st, md, h, hJ, hK => by
    simp only [cc] at hc
    obtain ⟨sx, hx, hc⟩ := Option.bind_eq_some_iff.1 hc
    obtain ⟨sy, hy, rfl⟩ := Option.map_eq_some_iff.1 hc
    simp only [flat, Bool.and_eq_true] at hfl
    simp only [itv] at hK
    refine wpIn_seq (wpIn_mono (itv_ok he x sx hx hfl.1 _ a W yl st md h hJ hK) ?_)
    intro e a' W' hl
    cases e with
    | normal => obtain ⟨yl', st', md', k1, k2, k3⟩ := hl; exact itv_ok he y sy hy hfl.2 K a' W' yl' st' md' k2 k3 k1
    | exit id => exact hl
    | goto l => exact hl
    | ret => exact hl
    | panic ch => exact hl
    | outgrown => exact hl
  | .cond c x y, s, hc, hfl, K, a, W, yl, st, md, h, hJ, hK => by
    simp only [cc] at hc
    obtain ⟨r, hr, hc⟩ := Option.bind_eq_some_iff.1 hc
    obtain ⟨sx, hx, hc⟩ := Option.bind_eq_some_iff.1 hc
    obtain ⟨sy, hy, rfl⟩ := Option.map_eq_some_iff.1 hc
    simp only [flat, Bool.and_eq_true] at hfl
    simp only [itv] at hK
    have h1 := get_ok (h.sat (he.kept md W hJ)) hr
    split at hK
    · rename_i b e
      rw [e] at h1
      exact wpIn_cond_split (of_v h1) (fun hb => itv_ok he x sx hx hfl.1 K a W yl st md h hJ (hK.1 hb)) (fun hb => itv_ok he y sy hy hfl.2 K a W yl st md h hJ (hK.2 hb))
    · exact hK.elim
  | .block id x, s, hc, hfl, K, a, W, yl, st, md, h, hJ, hK => by
    simp only [cc] at hc
    obtain ⟨sx, hx, rfl⟩ := Option.map_eq_some_iff.1 hc
    simp only [itv] at hK
    refine wpIn_block (wpIn_mono (itv_ok he x sx hx hfl _ a W yl st md h hJ hK) ?_)
    intro e a' W' hl
    cases e with
    | normal => exact hl
    | exit j =>
      obtain ⟨yl', st', md', k1, k2⟩ := hl
      simp only [Exit.inBlock]
      simp only [itBlk] at k1
      by_cases e : j = id
      · simp only [e, if_true] at k1 ⊢; exact ⟨yl', st', md', k1, k2⟩
      · simp only [e, if_false] at k1 ⊢; exact ⟨yl', st', md', k1, k2⟩
    | goto l => exact hl
    | ret => exact hl
    | panic ch => exact hl
    | outgrown => exact hl
  | .loop x, s, hc, hfl, K, a, W, yl, st, md, h, hJ, hK => by
    simp only [cc] at hc
    obtain ⟨sx, hx, rfl⟩ := Option.map_eq_some_iff.1 hc
    simp only [itv] at hK
    unfold itLoop at hK
    obtain ⟨I, n, h0, hr⟩ := hK
    refine wpIn_loop_I (I := fun n a W => ∃ st md, I n st md ∧ IS S w N l a yl st ∧ WJ J Jx md W) ?_ (n := n) ⟨_, md, h0, h.keep, hJ⟩
    rintro n a W ⟨st, md, k1, k2, k3⟩
    refine wpIn_mono (itv_ok he x sx hx hfl _ a W yl st md k2 k3 (hr n st md k1)) ?_
    intro e a' W' hl
    cases e with
    | normal =>
      obtain ⟨yl', st', md', q1, q2, q3⟩ := hl
      simp only [itThen] at q1
      unfold itAgain at q1
      obtain ⟨r1, k, r2, r3⟩ := q1
      have q4 := q2.keep (ks := A.lp ((firstReg x).getD 0))
      exact ⟨k, r2, _, md', r3, ⟨q4.size, q4.defers, q4.slots, q4.ob, q4.n, fun t ht => q4.yl t (r1 t ht)⟩, q3⟩
    | exit id => exact hl
    | goto l => exact hl
    | ret => exact hl
    | panic ch => exact hl
    | outgrown => exact hl
  | .exit id, s, hc, hfl, K, a, W, yl, st, md, h, hJ, hK => by
    simp only [cc, Option.some.injEq] at hc; subst hc
    exact wpIn_exit ⟨yl, st, md, hK, h, hJ⟩
  | .ret, s, hc, hfl, K, a, W, yl, st, md, h, hJ, hK => by
    simp only [cc, Option.some.injEq] at hc; subst hc
    exact wpIn_ret ⟨yl, st, md, hK, h, hJ⟩
  | .rangeFunc _ _ _ _, s, hc, hfl, K, a, W, yl, st, md, h, hJ, hK => by simp [flat] at hfl
  | .scope _, s, hc, hfl, K, a, W, yl, st, md, h, hJ, hK => by simp [flat] at hfl
  | .label _, s, hc, hfl, K, a, W, yl, st, md, h, hJ, hK => by
    simp only [cc, Option.some.injEq] at hc; subst hc
    exact wpIn_label ⟨yl, st, md, hK, h, hJ⟩
  | .goto _, s, hc, hfl, K, a, W, yl, st, md, h, hJ, hK => by
    simp only [cc, Option.some.injEq] at hc; subst hc
    exact hK.elim
  | .refuse _, s, hc, _, _, _, _, _, _, _, _, _, _ => by simp [cc] at hc
end

def itEnd (n : Nat) : IKs
  | .exit _, _, _, _ => False
  | _, _, _, md => md = some n ∨ md = none
/-- AN ITERATOR, by its compiled code. -/
theorem soundIt_of_itv {G : World → Prop} {P : Program} {T : FuncId → Contract} {f : FuncId} {fn : Func} {body : Code} {s : SCode} (hf : P.funcs[f]? = some fn) (hb : fn.body = some body) (hn : (fn.name == "runtime.NumGoroutine") = false)
    {A : Ann} (hc : cc P fn.ntmps A body = some s) (hfl : flat body = true) (hr : fn.results = #[]) {it : List D → Option (Prop × List (List SV))}
    (h : ∀ cs p xs, it cs = some (p, xs) → p → cs.length + 1 ≤ fn.ntmps ∧ itv T xs s [0] ⟨slots0 (.any :: cs.map .d) 0, 0, []⟩ (some 0) (itEnd xs.length)) : SoundIt G P f it := by
  intro S w cs vs p xs l J Jx hit hp hcs hJk hJxk _ _ hy hJ0
  obtain ⟨hlen, hv⟩ := h cs p xs hit hp
  refine ⟨⟨fn, hf, by rw [hb]; rfl, hn⟩, ?_⟩
  have hvl := RdL_length hcs
  refine callsIn_of_wp hf hb trivial ?_
  have he : Env P S w l xs J Jx := ⟨fun md W hW => by
    cases md with
    | none => exact hJxk W hW
    | some k => exact (hJk k W hW).2, hy⟩
  refine wpIn_mono (itv_ok he body s hc hfl (itEnd xs.length) _ w [0] _ (some 0) ?_ hJ0 hv) ?_
  · have hsz : (#[Value.func (.yield l) #[] #[]] ++ vs.toArray).size = cs.length + 1 := by simp [hvl, Nat.add_comm]
    refine ⟨by simp [hvl]; omega, rfl, fun k => ?_, rfl, rfl, fun t ht => ?_⟩
    · have hC : CnL (fun _ => undef) 0 (rdS S w) (.any :: cs.map .d) (Value.func (.yield l) #[] #[] :: vs) := by
        simp only [CnL]; exact ⟨trivial, CnL_of_RdL hcs⟩
      simp only [St.get, slots0_lk, Nat.zero_le, if_true, Nat.sub_zero]
      cases e : (SV.any :: cs.map SV.d)[k]? with
      | none => simp [Cn]
      | some x =>
        obtain ⟨v, hv, hx⟩ := CnL_get hC e
        have hk : k < vs.length + 1 := by have := (List.getElem?_eq_some_iff.1 hv).1; simpa using this
        have : (#[Value.func (.yield l) #[] #[]] ++ vs.toArray ++ Array.replicate (fn.ntmps - (#[Value.func (.yield l) #[] #[]] ++ vs.toArray).size) undef).getD k undef = v := by
          rw [Array.getD_eq_getD_getElem?, Array.getElem?_append_left (by rw [hsz]; omega)]
          have : (#[Value.func (.yield l) #[] #[]] ++ vs.toArray) = (Value.func (.yield l) #[] #[] :: vs).toArray := by apply Array.ext'; simp
          rw [this]; simp [hv]
        rw [this]; exact hx
    · simp only [List.mem_singleton] at ht; subst ht
      rw [Array.getD_eq_getD_getElem?, Array.getElem?_append_left (by rw [hsz]; omega), Array.getElem?_append_left (by simp)]
      rfl
  · have fin : ∀ (a : Act) (W : World) (yl : List Nat) (st : St) (md : Option Nat), (md = some xs.length ∨ md = none) → IS S w fn.ntmps l a yl st → WJ J Jx md W →
        a.defers = [] ∧ ∃ v, (results fn a.tmps).run P W = .ok v W ∧ ((∃ v', Ending.returned v = .returned v') ∧ (J xs.length W ∨ Jx W)) := by
      intro a W yl st md h1 h2 h3
      refine ⟨h2.defers, .tuple #[], by rw [results_eq, hr]; simp [Sem.run_bind, Sem.run_pure], ⟨_, rfl⟩, ?_⟩
      rcases h1 with rfl | rfl
      · exact .inl h3
      · exact .inr h3
    intro e a W hl
    cases e with
    | normal => obtain ⟨yl, st, md, k1, k2, k3⟩ := hl; exact fin a W yl st md k1 k2 k3
    | ret => obtain ⟨yl, st, md, k1, k2, k3⟩ := hl; exact fin a W yl st md k1 k2 k3
    | exit id => obtain ⟨yl, st, md, k1, k2, k3⟩ := hl; exact k1.elim
    | goto l => exact hl.elim
    | panic ch => exact hl.elim
    | outgrown => exact hl.elim
end Go.Ev
set_option linter.unusedVariables false
set_option linter.unusedSimpArgs false
namespace Go.Proofs.YtpbkdcfjlbdgfaaDoor
open Go Go.Ev
set_option maxRecDepth 100000
variable {G : World → Prop}
/-- A line of text among commands: behind a dot a new command begins. -/
abbrev dotT : List UInt8 := [46, 46, 10, 46, 10, 115, 47, 46, 47, 47, 10]
def edOne (e : Bool) (s : List UInt8) : List UInt8 := (if e = true then [97, 10] else []) ++ (if (bareS s).1 = [46] then dotT else (bareS s).1 ++ [10])
def edF (acc : List UInt8 × Bool) (s : List UInt8) : List UInt8 × Bool := (acc.1 ++ edOne acc.2 s, decide ((bareS s).1 = [46]))
def edS (l : List (List UInt8)) : List UInt8 × Bool := l.foldl edF ([], false)
def edPut (l : List (List UInt8)) : List UInt8 := (edS l).1 ++ (if (edS l).2 = true then [] else [46, 10])
theorem edS_snoc {l : List (List UInt8)} {i : Nat} (h : i < l.length) : edS (l.take (i + 1)) = edF (edS (l.take i)) (l.getD i []) := by
  rw [edS, List.take_succ_eq_append_getElem h, List.foldl_append]
  simp [edS, List.getD_eq_getElem?_getD, List.getElem?_eq_getElem h]
theorem edFold_le : ∀ (r : List (List UInt8)) (a : List UInt8 × Bool), a.1.length ≤ (r.foldl edF a).1.length
  | [], a => Nat.le_refl _
  | s :: r, a => by
    refine Nat.le_trans ?_ (edFold_le r _)
    simp [edF]
theorem edS_le (l : List (List UInt8)) (i : Nat) : (edS (l.take i)).1.length ≤ (edS l).1.length := by
  conv => rhs; rw [← List.take_append_drop i l, edS, List.foldl_append]
  exact edFold_le _ _
theorem edPut_le (l : List (List UInt8)) : (edS l).1.length ≤ (edPut l).length := by unfold edPut; simp
def CPutR : Contract := pureC fun args => match args with
  | [.d (.sl rows)] => (unStr rows).map fun l => (l.length ≤ 1099511627776 ∧ (edPut l).length ≤ 1125899906842624 ∧ ∀ x ∈ l, x.length ≤ 1099511627776, .d (.v (str (edPut l))))
  | _ => none
set_option maxHeartbeats 1000000 in
theorem s59 : Sound G Tryd.prog 59 CPutR := by
  refine sd59 (T := tabT [(61, CBare)]) (tab_cons s61 tab_nil) (pureC_lawful _) (pure_hX fun args p x K h hp hk => ?_)
  split at h <;> simp only [Option.map_eq_some_iff, Prod.mk.injEq, reduceCtorEq] at h
  obtain ⟨l, hl, rfl, rfl⟩ := h
  rw [unStr_eq hl] at *
  obtain ⟨h1, h2, hlx⟩ := hp
  have h3 := edPut_le l
  refine ⟨Nat.le_of_ble_eq_true rfl, ?_⟩
  simp -dsimp -implicitDefEqProofs only [S59, R59, ↓Ev.xStp_eq, ↓Ev.P, Ev.Q, eq_self, forall_eq_or_imp, implies_true, forall_const, forall_eq, ↓reduceIte, reduceIte, Nat.reduceEqDiff, Nat.reduceAdd, reduceCtorEq, Nat.reduceSub, Int.reduceToNat, Int.reduceLE, Int.reduceLT, Int.reduceNeg, Nat.reduceBEq, Nat.reduceMul, Nat.reduceLeDiff, Nat.reduceMod, UInt8.reduceOfNat, Nat.reduceLT, Int.reduceEq, Int.reduceAdd, Int.reduceSub, Int.reduceMul]
  refine xLoop_intro (fun k st => ∃ i : Nat, i ≤ l.length ∧ k = l.length - i ∧
      st = ⟨[(0, .d (.sl (strRows l))), (3, .d (.v (.string ⟨(edS (l.take i)).1.toArray⟩))), (4, .d (.v (.bool (!(edS (l.take i)).2)))), (5, .d (.v (.int .i64 i)))], 0, []⟩) l.length [] ?_ ?_ ?_
  · simp -dsimp -implicitDefEqProofs only [↓Ev.xStp_eq, ↓Ev.P, Ev.Q, eq_self, forall_eq_or_imp, implies_true, forall_const, forall_eq, ↓reduceIte, reduceIte, Nat.reduceEqDiff, Nat.reduceAdd, reduceCtorEq, Nat.reduceSub, Int.reduceToNat, Int.reduceLE, Int.reduceLT, Int.reduceNeg, Nat.reduceBEq, Nat.reduceMul, Nat.reduceLeDiff, Nat.reduceMod, UInt8.reduceOfNat, Nat.reduceLT, Int.reduceEq, Int.reduceAdd, Int.reduceSub, Int.reduceMul]
  · simp -dsimp -implicitDefEqProofs only [↓Ev.xStp_eq, ↓Ev.P, Ev.Q, eq_self, forall_eq_or_imp, implies_true, forall_const, forall_eq, ↓reduceIte, reduceIte, Nat.reduceEqDiff, Nat.reduceAdd, reduceCtorEq, Nat.reduceSub, Int.reduceToNat, Int.reduceLE, Int.reduceLT, Int.reduceNeg, Nat.reduceBEq, Nat.reduceMul, Nat.reduceLeDiff, Nat.reduceMod, UInt8.reduceOfNat, Nat.reduceLT, Int.reduceEq, Int.reduceAdd, Int.reduceSub, Int.reduceMul]
    exact ⟨0, by omega, by omega, by simp [edS]⟩
  · rintro k st ⟨i, hi, hk2, rfl⟩
    by_cases hil : i < l.length
    · have hi3 : (i : Int) < l.length := by omega
      have hx := hlx (l.getD i []) (by simp [List.getD_eq_getElem?_getD, List.getElem?_eq_getElem hil])
      have hg := strRows_get hil
      have hsn := edS_snoc hil
      have hle := edS_le l (i + 1)
      rw [hsn] at hle
      generalize l.getD i [] = x at hg hsn hle hx
      generalize edS (l.take i) = acc at hsn hle ⊢
      obtain ⟨t, e⟩ := acc
      simp only [edF, edOne, List.length_append] at hle
      rcases hbx : bareS x with ⟨y, f⟩
      rw [hbx] at hle
      simp only at hle
      by_cases hy : y = [46]
      · cases e <;>
        · simp only [hy, if_true, List.length_cons, List.length_nil, Bool.false_eq_true, if_false] at hle
          simp -dsimp -implicitDefEqProofs only [hg, hi3, hbx, hy, strRows_len, CBare, List.length_append, ↓Ev.xStp_eq, ↓Ev.P, Ev.Q, eq_self, forall_eq_or_imp, implies_true, forall_const, forall_eq, ↓reduceIte, reduceIte, Nat.reduceEqDiff, Nat.reduceAdd, reduceCtorEq, Nat.reduceSub, Int.reduceToNat, Int.reduceLE, Int.reduceLT, Int.reduceNeg, Nat.reduceBEq, Nat.reduceMul, Nat.reduceLeDiff, Nat.reduceMod, UInt8.reduceOfNat, Nat.reduceLT, Int.reduceEq, Int.reduceAdd, Int.reduceSub, Int.reduceMul]
          repeat' (first | with_reducible assumption | refine And.intro ?_ ?_ | intro _)
          all_goals try omega
          refine xAgain_intro (l.length - (i + 1)) [] (by omega) (by simp -dsimp -implicitDefEqProofs only [↓Ev.xStp_eq, ↓Ev.P, Ev.Q, eq_self, forall_eq_or_imp, implies_true, forall_const, forall_eq, ↓reduceIte, reduceIte, Nat.reduceEqDiff, Nat.reduceAdd, reduceCtorEq, Nat.reduceSub, Int.reduceToNat, Int.reduceLE, Int.reduceLT, Int.reduceNeg, Nat.reduceBEq, Nat.reduceMul, Nat.reduceLeDiff, Nat.reduceMod, UInt8.reduceOfNat, Nat.reduceLT, Int.reduceEq, Int.reduceAdd, Int.reduceSub, Int.reduceMul]) ⟨i + 1, by omega, rfl, ?_⟩
          rw [hsn]
          simp -dsimp -implicitDefEqProofs only [↓Ev.xStp_eq, ↓Ev.P, Ev.Q, eq_self, forall_eq_or_imp, implies_true, forall_const, forall_eq, ↓reduceIte, reduceIte, Nat.reduceEqDiff, Nat.reduceAdd, reduceCtorEq, Nat.reduceSub, Int.reduceToNat, Int.reduceLE, Int.reduceLT, Int.reduceNeg, Nat.reduceBEq, Nat.reduceMul, Nat.reduceLeDiff, Nat.reduceMod, UInt8.reduceOfNat, Nat.reduceLT, Int.reduceEq, Int.reduceAdd, Int.reduceSub, Int.reduceMul]
          simp [edF, edOne, hbx, hy]
      · cases e <;>
        · simp only [hy, if_true, List.length_cons, List.length_nil, Bool.false_eq_true, if_false, List.length_append] at hle
          simp -dsimp -implicitDefEqProofs only [hg, hi3, hbx, hy, strRows_len, CBare, List.length_append, ↓Ev.xStp_eq, ↓Ev.P, Ev.Q, eq_self, forall_eq_or_imp, implies_true, forall_const, forall_eq, ↓reduceIte, reduceIte, Nat.reduceEqDiff, Nat.reduceAdd, reduceCtorEq, Nat.reduceSub, Int.reduceToNat, Int.reduceLE, Int.reduceLT, Int.reduceNeg, Nat.reduceBEq, Nat.reduceMul, Nat.reduceLeDiff, Nat.reduceMod, UInt8.reduceOfNat, Nat.reduceLT, Int.reduceEq, Int.reduceAdd, Int.reduceSub, Int.reduceMul]
          repeat' (first | with_reducible assumption | refine And.intro ?_ ?_ | intro _)
          all_goals try omega
          refine xAgain_intro (l.length - (i + 1)) [] (by omega) (by simp -dsimp -implicitDefEqProofs only [↓Ev.xStp_eq, ↓Ev.P, Ev.Q, eq_self, forall_eq_or_imp, implies_true, forall_const, forall_eq, ↓reduceIte, reduceIte, Nat.reduceEqDiff, Nat.reduceAdd, reduceCtorEq, Nat.reduceSub, Int.reduceToNat, Int.reduceLE, Int.reduceLT, Int.reduceNeg, Nat.reduceBEq, Nat.reduceMul, Nat.reduceLeDiff, Nat.reduceMod, UInt8.reduceOfNat, Nat.reduceLT, Int.reduceEq, Int.reduceAdd, Int.reduceSub, Int.reduceMul]) ⟨i + 1, by omega, rfl, ?_⟩
          rw [hsn]
          simp -dsimp -implicitDefEqProofs only [↓Ev.xStp_eq, ↓Ev.P, Ev.Q, eq_self, forall_eq_or_imp, implies_true, forall_const, forall_eq, ↓reduceIte, reduceIte, Nat.reduceEqDiff, Nat.reduceAdd, reduceCtorEq, Nat.reduceSub, Int.reduceToNat, Int.reduceLE, Int.reduceLT, Int.reduceNeg, Nat.reduceBEq, Nat.reduceMul, Nat.reduceLeDiff, Nat.reduceMod, UInt8.reduceOfNat, Nat.reduceLT, Int.reduceEq, Int.reduceAdd, Int.reduceSub, Int.reduceMul]
          simp [edF, edOne, hbx, hy]
    · have hi3 : ¬ (i : Int) < l.length := by omega
      rw [List.take_of_length_le (by omega)]
      unfold edPut at hk h2
      cases he : (edS l).2 <;> rw [he] at hk h2 <;> simp only [Bool.false_eq_true, if_false, if_true, List.length_append, List.length_cons, List.length_nil] at hk h2
      · simp -dsimp -implicitDefEqProofs only [hi3, he, strRows_len, List.length_append, ↓Ev.xStp_eq, ↓Ev.P, Ev.Q, eq_self, forall_eq_or_imp, implies_true, forall_const, forall_eq, ↓reduceIte, reduceIte, Nat.reduceEqDiff, Nat.reduceAdd, reduceCtorEq, Nat.reduceSub, Int.reduceToNat, Int.reduceLE, Int.reduceLT, Int.reduceNeg, Nat.reduceBEq, Nat.reduceMul, Nat.reduceLeDiff, Nat.reduceMod, UInt8.reduceOfNat, Nat.reduceLT, Int.reduceEq, Int.reduceAdd, Int.reduceSub, Int.reduceMul]
        exact ⟨by omega, hk⟩
      · simp -dsimp -implicitDefEqProofs only [hi3, he, strRows_len, List.length_append, ↓Ev.xStp_eq, ↓Ev.P, Ev.Q, eq_self, forall_eq_or_imp, implies_true, forall_const, forall_eq, ↓reduceIte, reduceIte, Nat.reduceEqDiff, Nat.reduceAdd, reduceCtorEq, Nat.reduceSub, Int.reduceToNat, Int.reduceLE, Int.reduceLT, Int.reduceNeg, Nat.reduceBEq, Nat.reduceMul, Nat.reduceLeDiff, Nat.reduceMod, UInt8.reduceOfNat, Nat.reduceLT, Int.reduceEq, Int.reduceAdd, Int.reduceSub, Int.reduceMul]
        rw [List.append_nil] at hk
        exact hk
def gPut : List SV → Nat → Nat → List UInt8 → Option (Prop × SV × List UInt8)
  | [.d (.sl rows)], t, u, bs => (unStr rows).bind fun l => if bldT t = true ∧ u = 5 then
      some ((bs.length + (edPut l).length ≤ 140737488355328) ∧ l.length ≤ 1099511627776 ∧ ∀ x ∈ l, x.length ≤ 1099511627776, .tup [], bs ++ edPut l) else none
  | _, _, _, _ => none
set_option maxHeartbeats 1000000 in
theorem s57 : Sound G Tryd.prog 57 (bldC gPut) := by
  refine sd57 (T := tabT [(58, CBare), (43, bldC gWS)]) (tab_cons s58 (tab_cons sWS tab_nil)) (bldC_lawful _) (bld_hX fun zs t u bs p x bs' K hg hp hk => ?_)
  unfold gPut at hg
  split at hg
  · obtain ⟨l, hl, hg2⟩ := Option.bind_eq_some_iff.1 hg
    obtain ⟨⟨ht, rfl⟩, hg3⟩ := Option.ite_none_right_eq_some.1 hg2
    simp only [Option.some.injEq, Prod.mk.injEq] at hg3
    obtain ⟨rfl, rfl, rfl⟩ := hg3
    rw [unStr_eq hl] at *
    refine ⟨Nat.le_of_ble_eq_true rfl, ?_⟩
    obtain ⟨hp1, hl1, hlx⟩ := hp
    have h3 := edPut_le l
    simp -dsimp -implicitDefEqProofs only [S57, R57, strRows_len, ↓Ev.xStp_eq, ↓Ev.P, Ev.Q, eq_self, forall_eq_or_imp, implies_true, forall_const, forall_eq, ↓reduceIte, reduceIte, Nat.reduceEqDiff, Nat.reduceAdd, reduceCtorEq, Nat.reduceSub, Int.reduceToNat, Int.reduceLE, Int.reduceLT, Int.reduceNeg, Nat.reduceBEq, Nat.reduceMul, Nat.reduceLeDiff, Nat.reduceMod, UInt8.reduceOfNat, Nat.reduceLT, Int.reduceEq, Int.reduceAdd, Int.reduceSub, Int.reduceMul]
    refine xLoop_intro (fun k st => ∃ (i : Nat), i ≤ l.length ∧ k = l.length - i ∧
      st = ⟨[(0, .ptr 0 0), (4, .d (.v (.bool (edS (l.take i)).2))), (9, .d (.sl (strRows l))), (10, .d (.v (.int .i64 l.length))), (11, .d (.v (.int .i64 i)))], 1, [(0, .bld t 5 (bs ++ (edS (l.take i)).1))]⟩) l.length [0] ?_ ?_ ?_
    · simp -dsimp -implicitDefEqProofs only [↓Ev.xStp_eq, ↓Ev.P, Ev.Q, eq_self, forall_eq_or_imp, implies_true, forall_const, forall_eq, ↓reduceIte, reduceIte, Nat.reduceEqDiff, Nat.reduceAdd, reduceCtorEq, Nat.reduceSub, Int.reduceToNat, Int.reduceLE, Int.reduceLT, Int.reduceNeg, Nat.reduceBEq, Nat.reduceMul, Nat.reduceLeDiff, Nat.reduceMod, UInt8.reduceOfNat, Nat.reduceLT, Int.reduceEq, Int.reduceAdd, Int.reduceSub, Int.reduceMul]
    · simp -dsimp -implicitDefEqProofs only [↓Ev.xStp_eq, ↓Ev.P, Ev.Q, eq_self, forall_eq_or_imp, implies_true, forall_const, forall_eq, ↓reduceIte, reduceIte, Nat.reduceEqDiff, Nat.reduceAdd, reduceCtorEq, Nat.reduceSub, Int.reduceToNat, Int.reduceLE, Int.reduceLT, Int.reduceNeg, Nat.reduceBEq, Nat.reduceMul, Nat.reduceLeDiff, Nat.reduceMod, UInt8.reduceOfNat, Nat.reduceLT, Int.reduceEq, Int.reduceAdd, Int.reduceSub, Int.reduceMul]
      exact ⟨0, by omega, by omega, by simp [edS]⟩
    · rintro k st ⟨i, hi, hk2, rfl⟩
      by_cases hil : i < l.length
      · have hi3 : (i : Int) < l.length := by omega
        have hx := hlx (l.getD i []) (by simp [List.getD_eq_getElem?_getD, List.getElem?_eq_getElem hil])
        have hg := strRows_get hil
        have hsn := edS_snoc hil
        have hle := edS_le l (i + 1)
        rw [hsn] at hle
        have hb := bare_split (l.getD i [])
        generalize l.getD i [] = x at hg hsn hle hx hb
        generalize edS (l.take i) = acc at hsn hle ⊢
        obtain ⟨tt, e⟩ := acc
        simp only [edF, edOne, List.length_append] at hle
        rcases hbx : bareS x with ⟨y, f⟩
        rw [hbx] at hle hb
        simp only at hle hb
        by_cases hy : y = [46]
        · cases e <;>
          · simp only [hy, if_true, List.length_cons, List.length_nil, Bool.false_eq_true, if_false] at hle
            simp -dsimp -implicitDefEqProofs only [hg, hi3, hbx, hy, ht, gWS, CBare, List.length_append, ↓Ev.xStp_eq, ↓Ev.P, Ev.Q, eq_self, forall_eq_or_imp, implies_true, forall_const, forall_eq, ↓reduceIte, reduceIte, Nat.reduceEqDiff, Nat.reduceAdd, reduceCtorEq, Nat.reduceSub, Int.reduceToNat, Int.reduceLE, Int.reduceLT, Int.reduceNeg, Nat.reduceBEq, Nat.reduceMul, Nat.reduceLeDiff, Nat.reduceMod, UInt8.reduceOfNat, Nat.reduceLT, Int.reduceEq, Int.reduceAdd, Int.reduceSub, Int.reduceMul]
            repeat' (first | with_reducible assumption | refine And.intro ?_ ?_ | intro _)
            all_goals try omega
            refine xAgain_intro (l.length - (i + 1)) [0] (by omega) (by simp -dsimp -implicitDefEqProofs only [↓Ev.xStp_eq, ↓Ev.P, Ev.Q, eq_self, forall_eq_or_imp, implies_true, forall_const, forall_eq, ↓reduceIte, reduceIte, Nat.reduceEqDiff, Nat.reduceAdd, reduceCtorEq, Nat.reduceSub, Int.reduceToNat, Int.reduceLE, Int.reduceLT, Int.reduceNeg, Nat.reduceBEq, Nat.reduceMul, Nat.reduceLeDiff, Nat.reduceMod, UInt8.reduceOfNat, Nat.reduceLT, Int.reduceEq, Int.reduceAdd, Int.reduceSub, Int.reduceMul]) ⟨i + 1, by omega, rfl, ?_⟩
            rw [hsn]
            simp -dsimp -implicitDefEqProofs only [↓Ev.xStp_eq, ↓Ev.P, Ev.Q, eq_self, forall_eq_or_imp, implies_true, forall_const, forall_eq, ↓reduceIte, reduceIte, Nat.reduceEqDiff, Nat.reduceAdd, reduceCtorEq, Nat.reduceSub, Int.reduceToNat, Int.reduceLE, Int.reduceLT, Int.reduceNeg, Nat.reduceBEq, Nat.reduceMul, Nat.reduceLeDiff, Nat.reduceMod, UInt8.reduceOfNat, Nat.reduceLT, Int.reduceEq, Int.reduceAdd, Int.reduceSub, Int.reduceMul]
            simp [edF, edOne, hbx, hy]
        · cases e <;>
          · simp only [hy, if_true, List.length_cons, List.length_nil, Bool.false_eq_true, if_false, List.length_append] at hle
            simp -dsimp -implicitDefEqProofs only [hg, hi3, hbx, hy, ht, gWS, CBare, List.length_append, ↓Ev.xStp_eq, ↓Ev.P, Ev.Q, eq_self, forall_eq_or_imp, implies_true, forall_const, forall_eq, ↓reduceIte, reduceIte, Nat.reduceEqDiff, Nat.reduceAdd, reduceCtorEq, Nat.reduceSub, Int.reduceToNat, Int.reduceLE, Int.reduceLT, Int.reduceNeg, Nat.reduceBEq, Nat.reduceMul, Nat.reduceLeDiff, Nat.reduceMod, UInt8.reduceOfNat, Nat.reduceLT, Int.reduceEq, Int.reduceAdd, Int.reduceSub, Int.reduceMul]
            repeat' (first | with_reducible assumption | refine And.intro ?_ ?_ | intro _)
            all_goals try omega
            refine xAgain_intro (l.length - (i + 1)) [0] (by omega) (by simp -dsimp -implicitDefEqProofs only [↓Ev.xStp_eq, ↓Ev.P, Ev.Q, eq_self, forall_eq_or_imp, implies_true, forall_const, forall_eq, ↓reduceIte, reduceIte, Nat.reduceEqDiff, Nat.reduceAdd, reduceCtorEq, Nat.reduceSub, Int.reduceToNat, Int.reduceLE, Int.reduceLT, Int.reduceNeg, Nat.reduceBEq, Nat.reduceMul, Nat.reduceLeDiff, Nat.reduceMod, UInt8.reduceOfNat, Nat.reduceLT, Int.reduceEq, Int.reduceAdd, Int.reduceSub, Int.reduceMul]) ⟨i + 1, by omega, rfl, ?_⟩
            rw [hsn]
            simp -dsimp -implicitDefEqProofs only [↓Ev.xStp_eq, ↓Ev.P, Ev.Q, eq_self, forall_eq_or_imp, implies_true, forall_const, forall_eq, ↓reduceIte, reduceIte, Nat.reduceEqDiff, Nat.reduceAdd, reduceCtorEq, Nat.reduceSub, Int.reduceToNat, Int.reduceLE, Int.reduceLT, Int.reduceNeg, Nat.reduceBEq, Nat.reduceMul, Nat.reduceLeDiff, Nat.reduceMod, UInt8.reduceOfNat, Nat.reduceLT, Int.reduceEq, Int.reduceAdd, Int.reduceSub, Int.reduceMul]
            simp [edF, edOne, hbx, hy]
      · have hi3 : ¬ (i : Int) < l.length := by omega
        rw [List.take_of_length_le (by omega)]
        unfold edPut at hk hp1
        cases he : (edS l).2 <;> rw [he] at hk hp1 <;> simp only [Bool.false_eq_true, if_false, if_true, List.length_append, List.length_cons, List.length_nil] at hk hp1
        · simp -dsimp -implicitDefEqProofs only [hi3, he, ht, gWS, List.length_append, ↓Ev.xStp_eq, ↓Ev.P, Ev.Q, eq_self, forall_eq_or_imp, implies_true, forall_const, forall_eq, ↓reduceIte, reduceIte, Nat.reduceEqDiff, Nat.reduceAdd, reduceCtorEq, Nat.reduceSub, Int.reduceToNat, Int.reduceLE, Int.reduceLT, Int.reduceNeg, Nat.reduceBEq, Nat.reduceMul, Nat.reduceLeDiff, Nat.reduceMod, UInt8.reduceOfNat, Nat.reduceLT, Int.reduceEq, Int.reduceAdd, Int.reduceSub, Int.reduceMul]
          exact ⟨by omega, by simpa using hk⟩
        · simp -dsimp -implicitDefEqProofs only [hi3, he, ht, gWS, List.length_append, ↓Ev.xStp_eq, ↓Ev.P, Ev.Q, eq_self, forall_eq_or_imp, implies_true, forall_const, forall_eq, ↓reduceIte, reduceIte, Nat.reduceEqDiff, Nat.reduceAdd, reduceCtorEq, Nat.reduceSub, Int.reduceToNat, Int.reduceLE, Int.reduceLT, Int.reduceNeg, Nat.reduceBEq, Nat.reduceMul, Nat.reduceLeDiff, Nat.reduceMod, UInt8.reduceOfNat, Nat.reduceLT, Int.reduceEq, Int.reduceAdd, Int.reduceSub, Int.reduceMul]
          simpa using hk
  · cases hg
theorem s56 (hG : ∀ w, G w → Pow10 w) : Sound G Tryd.prog 56 CSpan := by
  refine sd56 (T := tabT [(32, CItoa)]) (tab_cons (s32 hG) tab_nil) (pureC_lawful _) (pure_hX fun args p x K h hp hk => ?_)
  split at h <;> simp only [Option.some.injEq, Prod.mk.injEq, reduceCtorEq] at h
  obtain ⟨rfl, rfl⟩ := h
  refine ⟨Nat.le_of_ble_eq_true rfl, ?_⟩
  rename_i a n
  have h1 := itoa_len (n := a + 1) (by omega)
  have h2 := itoa_len (n := a + n) (by omega)
  simp -dsimp -implicitDefEqProofs only [S56, R56, CItoa, List.length_append, ↓Ev.xStp_eq, ↓Ev.P, Ev.Q, eq_self, forall_eq_or_imp, implies_true, forall_const, forall_eq, ↓reduceIte, reduceIte, Nat.reduceEqDiff, Nat.reduceAdd, reduceCtorEq, Nat.reduceSub, Int.reduceToNat, Int.reduceLE, Int.reduceLT, Int.reduceNeg, Nat.reduceBEq, Nat.reduceMul, Nat.reduceLeDiff, Nat.reduceMod, UInt8.reduceOfNat, Nat.reduceLT, Int.reduceEq, Int.reduceAdd, Int.reduceSub, Int.reduceMul]
  by_cases hn : n = 1
  · rw [spanT, if_pos hn] at hk
    repeat' (first | with_reducible assumption | refine And.intro ?_ ?_ | intro _)
    all_goals first | omega | exact hk
  · rw [spanT, if_neg hn] at hk
    repeat' (first | with_reducible assumption | refine And.intro ?_ ?_ | intro _)
    all_goals first | omega | exact hk
end Go.Proofs.YtpbkdcfjlbdgfaaDoor
set_option linter.unusedVariables false
set_option linter.unusedSimpArgs false
namespace Go.Proofs.YtpbkdcfjlbdgfaaDoor
open Go Go.Ev
set_option maxRecDepth 100000
variable {G : World → Prop}
/-- What slices.Backward yields, of structs: the last first, each with its place. -/
def backXs (rows : List (List D)) : List (List SV) := (List.range rows.length).map fun (k : Nat) => [.d (.v (.int .i64 ((rows.length : Int) - 1 - k))), .agg ((rows.getD (rows.length - 1 - k) []).map .d)]
def backIt (sz : Nat) : List D → Option (Prop × List (List SV))
  | [.pt [.sl rows]] => some (rows.length ≤ 1099511627776 ∧ ∀ r ∈ rows, r.length = sz, backXs rows)
  | _ => none
theorem backXs_len (rows : List (List D)) : (backXs rows).length = rows.length := by simp [backXs]
theorem backXs_get {rows : List (List D)} {k : Nat} (h : k < rows.length) : (backXs rows)[k]? = some [.d (.v (.int .i64 ((rows.length : Int) - 1 - k))), .agg ((rows.getD (rows.length - 1 - k) []).map .d)] := by
  simp [backXs, h]
def CBackIt (sz : Nat) : Contract := ⟨fun _ _ _ => False, fun _ => none, backIt sz⟩
def CBackF (t f : Nat) : Contract := stC fun args st => match args, st with
  | [.d (.sl rows)], ⟨0, []⟩ => some (True, .fn f [.ptr 0 0], ⟨1, [(0, .cells t [.d (.sl rows)])]⟩)
  | _, _ => none
theorem s55 : Sound G Tryd.prog 55 (CBackF 22 106) := by
  refine sd55 (T := tabT []) tab_nil (stC_lawful _) (st_hX fun args st p x st' K h hp hk => ?_)
  split at h <;> simp only [Option.some.injEq, Prod.mk.injEq, reduceCtorEq] at h
  obtain ⟨rfl, rfl, rfl⟩ := h
  refine ⟨Nat.le_of_ble_eq_true rfl, [0], ?_⟩
  simp -dsimp -implicitDefEqProofs only [S55, R55, ↓Ev.xStp_eq, ↓Ev.P, Ev.Q, eq_self, forall_eq_or_imp, implies_true, forall_const, forall_eq, ↓reduceIte, reduceIte, Nat.reduceEqDiff, Nat.reduceAdd, reduceCtorEq, Nat.reduceSub, Int.reduceToNat, Int.reduceLE, Int.reduceLT, Int.reduceNeg, Nat.reduceBEq, Nat.reduceMul, Nat.reduceLeDiff, Nat.reduceMod, UInt8.reduceOfNat, Nat.reduceLT, Int.reduceEq, Int.reduceAdd, Int.reduceSub, Int.reduceMul]
  exact hk
theorem it106 : Sound G Tryd.prog 106 (CBackIt 4) := by
  obtain ⟨b, hb, hc⟩ := bd106
  refine ⟨fun _ _ _ _ h => (nomatch h), fun _ _ _ _ _ _ _ _ h => h.elim, soundIt_of_itv (T := tabT []) fn106 hb nm106 hc (by simp only [Tryd.f106, Option.some.injEq] at hb; subst hb; kernel_rfl) (by kernel_rfl) fun cs p xs h hp => ?_⟩
  simp only [CBackIt, backIt] at h
  split at h <;> simp only [Option.some.injEq, Prod.mk.injEq, reduceCtorEq] at h
  obtain ⟨rfl, rfl⟩ := h
  rename_i rows
  obtain ⟨h1, h2⟩ := hp
  refine ⟨Nat.le_of_ble_eq_true rfl, ?_⟩
  rw [backXs_len]
  simp -dsimp -implicitDefEqProofs only [S106, itv, itOps, itK, itKs, niO, isTk, isPV, ↓Ev.xStp_eq, ↓Ev.P, Ev.Q, eq_self, forall_eq_or_imp, implies_true, forall_const, forall_eq, ↓reduceIte, reduceIte, Nat.reduceEqDiff, Nat.reduceAdd, reduceCtorEq, Nat.reduceSub, Int.reduceToNat, Int.reduceLE, Int.reduceLT, Int.reduceNeg, Nat.reduceBEq, Nat.reduceMul, Nat.reduceLeDiff, Nat.reduceMod, UInt8.reduceOfNat, Nat.reduceLT, Int.reduceEq, Int.reduceAdd, Int.reduceSub, Int.reduceMul]
  refine ⟨by omega, ?_⟩
  refine itLoop_intro (fun n st md => ∃ k : Nat, k ≤ rows.length ∧ md = some k ∧ n = rows.length - k ∧ st = ⟨[(0, .any), (1, .d (.pt [.sl rows])), (3, .d (.v (.int .i64 ((rows.length : Int) - 1 - k))))], 0, []⟩) rows.length ?_ ?_
  · simp -dsimp -implicitDefEqProofs only [↓Ev.xStp_eq, ↓Ev.P, Ev.Q, eq_self, forall_eq_or_imp, implies_true, forall_const, forall_eq, ↓reduceIte, reduceIte, Nat.reduceEqDiff, Nat.reduceAdd, reduceCtorEq, Nat.reduceSub, Int.reduceToNat, Int.reduceLE, Int.reduceLT, Int.reduceNeg, Nat.reduceBEq, Nat.reduceMul, Nat.reduceLeDiff, Nat.reduceMod, UInt8.reduceOfNat, Nat.reduceLT, Int.reduceEq, Int.reduceAdd, Int.reduceSub, Int.reduceMul]
    exact ⟨0, by omega, rfl, by omega, by simp⟩
  · rintro n st md ⟨k, hk, rfl, hn, rfl⟩
    by_cases hkl : k < rows.length
    · have hi : (0 : Int) ≤ (rows.length : Int) - 1 - k := by omega
      have hj : ((rows.length : Int) - 1 - k).toNat = rows.length - 1 - k := by omega
      have hl : rows.length - 1 - k < rows.length := by omega
      have hx := backXs_get hkl
      have hr : rows[rows.length - 1 - k]? = some (rows.getD (rows.length - 1 - k) []) := by simp [List.getD_eq_getElem?_getD, List.getElem?_eq_getElem hl]
      have h4 : (rows.getD (rows.length - 1 - k) []).length = 4 := h2 _ (by rw [List.getD_eq_getElem?_getD, List.getElem?_eq_getElem hl]; exact List.getElem_mem hl)
      have ht : (rows.getD (rows.length - 1 - k) []).take 4 = rows.getD (rows.length - 1 - k) [] := List.take_of_length_le (by omega)
      simp -dsimp -implicitDefEqProofs only [itv, itOps, itK, itKs, niO, isTk, isPV, hi, hj, hr, h4, ht, hx, ↓Ev.xStp_eq, ↓Ev.P, Ev.Q, eq_self, forall_eq_or_imp, implies_true, forall_const, forall_eq, ↓reduceIte, reduceIte, Nat.reduceEqDiff, Nat.reduceAdd, reduceCtorEq, Nat.reduceSub, Int.reduceToNat, Int.reduceLE, Int.reduceLT, Int.reduceNeg, Nat.reduceBEq, Nat.reduceMul, Nat.reduceLeDiff, Nat.reduceMod, UInt8.reduceOfNat, Nat.reduceLT, Int.reduceEq, Int.reduceAdd, Int.reduceSub, Int.reduceMul]
      refine ⟨⟨by omega, itAgain_intro (rows.length - (k + 1)) (by simp) (by omega) ⟨k + 1, by omega, rfl, rfl, ?_⟩⟩, .inr rfl⟩
      simp -dsimp -implicitDefEqProofs only [↓Ev.xStp_eq, ↓Ev.P, Ev.Q, eq_self, forall_eq_or_imp, implies_true, forall_const, forall_eq, ↓reduceIte, reduceIte, Nat.reduceEqDiff, Nat.reduceAdd, reduceCtorEq, Nat.reduceSub, Int.reduceToNat, Int.reduceLE, Int.reduceLT, Int.reduceNeg, Nat.reduceBEq, Nat.reduceMul, Nat.reduceLeDiff, Nat.reduceMod, UInt8.reduceOfNat, Nat.reduceLT, Int.reduceEq, Int.reduceAdd, Int.reduceSub, Int.reduceMul]
      rw [show (rows.length : Int) - 1 - k - 1 = (rows.length : Int) - 1 - ((k + 1 : Nat) : Int) by omega]
    · have hi : ¬ (0 : Int) ≤ (rows.length : Int) - 1 - k := by omega
      simp -dsimp -implicitDefEqProofs only [itv, itOps, itK, itKs, niO, isTk, isPV, hi, ↓Ev.xStp_eq, ↓Ev.P, Ev.Q, eq_self, forall_eq_or_imp, implies_true, forall_const, forall_eq, ↓reduceIte, reduceIte, Nat.reduceEqDiff, Nat.reduceAdd, reduceCtorEq, Nat.reduceSub, Int.reduceToNat, Int.reduceLE, Int.reduceLT, Int.reduceNeg, Nat.reduceBEq, Nat.reduceMul, Nat.reduceLeDiff, Nat.reduceMod, UInt8.reduceOfNat, Nat.reduceLT, Int.reduceEq, Int.reduceAdd, Int.reduceSub, Int.reduceMul]
      exact .inl (by rw [show k = rows.length by omega])
/-- A change as commands. -/
def edC (b : List (List UInt8)) (c : Q4) : List UInt8 :=
  if c.2.2.2 = 0 then spanT c.1 c.2.1 ++ [100, 10] else if c.2.1 = 0 then Lib.itoa c.1 ++ [97, 10] ++ edPut (part b c.2.2.1.toNat c.2.2.2.toNat) else spanT c.1 c.2.1 ++ [99, 10] ++ edPut (part b c.2.2.1.toNat c.2.2.2.toNat)
def edT (b : List (List UInt8)) (l : List Q4) : List UInt8 := l.reverse.flatMap (edC b)
/-- The last so many changes. -/
def edTk (b : List (List UInt8)) (l : List Q4) (k : Nat) : List UInt8 := (l.reverse.take k).flatMap (edC b)
def edEnd (b : List (List UInt8)) : List UInt8 := if 0 < b.length ∧ (bareS (b.getD (b.length - 1) [])).2 = false then markT else []
theorem edTk_snoc {b : List (List UInt8)} {l : List Q4} {k : Nat} (h : k < l.length) : edTk b l (k + 1) = edTk b l k ++ edC b (l.getD (l.length - 1 - k) (0, 0, 0, 0)) := by
  have hk : k < l.reverse.length := by simpa using h
  rw [edTk, List.take_succ_eq_append_getElem hk, List.flatMap_append]
  have hl : l.length - 1 - k < l.length := by omega
  simp [edTk, List.getElem_reverse, List.getD_eq_getElem?_getD, List.getElem?_eq_getElem hl]
theorem edTk_le (b : List (List UInt8)) (l : List Q4) (k : Nat) : (edTk b l k).length ≤ (edT b l).length := by
  conv => rhs; rw [edT, ← List.take_append_drop k l.reverse, List.flatMap_append, List.length_append]
  exact Nat.le_add_right _ _
theorem edTk_all {b : List (List UInt8)} {l : List Q4} {k : Nat} (h : l.length ≤ k) : edTk b l k = edT b l := by
  rw [edTk, edT, List.take_of_length_le (by simpa using h)]
def CEd : Contract := pureC fun args => match args with
  | [.d (.sl rows), .d (.sl a), .d (.sl b)] => (unQ4 rows).bind fun l => (unStr a).bind fun x => (unStr b).map fun y =>
      ((l.length ≤ 1099511627776 ∧ x.length ≤ 1099511627776 ∧ y.length ≤ 1099511627776) ∧ (∀ s ∈ y, s.length ≤ 1099511627776) ∧ (chk l x.length y.length = 0 → (edT y l).length ≤ 70368744177664),
        .tup [.d (.v (str (if chk l x.length y.length = 0 then edT y l ++ edEnd y else []))), .d (.v (.int .i64 (chk l x.length y.length)))])
  | _ => none
end Go.Proofs.YtpbkdcfjlbdgfaaDoor
set_option linter.unusedVariables false
set_option linter.unusedSimpArgs false
namespace Go.Proofs.YtpbkdcfjlbdgfaaDoor
open Go Go.Ev
set_option maxRecDepth 100000
variable {G : World → Prop}
theorem edEnd_len (b : List (List UInt8)) : (edEnd b).length ≤ 28 := by unfold edEnd; split <;> simp
set_option maxHeartbeats 4000000 in
theorem s21 : Sound G Tryd.prog 21 CEd := by
  refine sd21 (T := tabT [(46, CCheck), (33, CItoa), (60, CSpan), (59, CPutR), (61, CBare)]) (tab_cons s46 (tab_cons s33 (tab_cons s60 (tab_cons s59 (tab_cons s61 tab_nil))))) (pureC_lawful _) (pure_hX fun args p x K h hp hk => ?_)
  split at h <;> simp only [Option.bind_eq_some_iff, Option.map_eq_some_iff, Prod.mk.injEq, reduceCtorEq] at h
  obtain ⟨l, hl, a, ha, b, hb, rfl, rfl⟩ := h
  rw [unQ4_eq hl, unStr_eq ha, unStr_eq hb] at *
  obtain ⟨⟨h1, h2, h3⟩, h4, h6⟩ := hp
  refine ⟨Nat.le_of_ble_eq_true rfl, ?_⟩
  rcases chk_zero l a.length b.length with hz | hz
  · have hall := chk_all hz
    have hlen := h6 hz
    rw [if_pos hz, hz] at hk
    simp -dsimp -implicitDefEqProofs only [S21, R21, CCheck, unQ4_rows, strRows_len, q4Rows_len, hz, ↓Ev.xStp_eq, ↓Ev.P, Ev.Q, eq_self, forall_eq_or_imp, implies_true, forall_const, forall_eq, ↓reduceIte, reduceIte, Nat.reduceEqDiff, Nat.reduceAdd, reduceCtorEq, Nat.reduceSub, Int.reduceToNat, Int.reduceLE, Int.reduceLT, Int.reduceNeg, Nat.reduceBEq, Nat.reduceMul, Nat.reduceLeDiff, Nat.reduceMod, UInt8.reduceOfNat, Nat.reduceLT, Int.reduceEq, Int.reduceAdd, Int.reduceSub, Int.reduceMul]
    refine ⟨by omega, by omega, ?_⟩
    refine xLoop_intro (fun k st => ∃ i : Nat, i ≤ l.length ∧ k = l.length - i ∧
      st = ⟨[(0, .d (.sl (q4Rows l))), (2, .d (.sl (strRows b))), (9, .d (.v (.string ⟨(edTk b l i).toArray⟩))), (10, .d (.v (.int .i64 ((l.length : Int) - 1 - i))))], 0, []⟩) l.length [] ?_ ?_ ?_
    · simp -dsimp -implicitDefEqProofs only [↓Ev.xStp_eq, ↓Ev.P, Ev.Q, eq_self, forall_eq_or_imp, implies_true, forall_const, forall_eq, ↓reduceIte, reduceIte, Nat.reduceEqDiff, Nat.reduceAdd, reduceCtorEq, Nat.reduceSub, Int.reduceToNat, Int.reduceLE, Int.reduceLT, Int.reduceNeg, Nat.reduceBEq, Nat.reduceMul, Nat.reduceLeDiff, Nat.reduceMod, UInt8.reduceOfNat, Nat.reduceLT, Int.reduceEq, Int.reduceAdd, Int.reduceSub, Int.reduceMul]
    · simp -dsimp -implicitDefEqProofs only [↓Ev.xStp_eq, ↓Ev.P, Ev.Q, eq_self, forall_eq_or_imp, implies_true, forall_const, forall_eq, ↓reduceIte, reduceIte, Nat.reduceEqDiff, Nat.reduceAdd, reduceCtorEq, Nat.reduceSub, Int.reduceToNat, Int.reduceLE, Int.reduceLT, Int.reduceNeg, Nat.reduceBEq, Nat.reduceMul, Nat.reduceLeDiff, Nat.reduceMod, UInt8.reduceOfNat, Nat.reduceLT, Int.reduceEq, Int.reduceAdd, Int.reduceSub, Int.reduceMul]
      exact ⟨0, by omega, by omega, by simp [edTk]⟩
    · rintro k st ⟨i, hi, hk2, rfl⟩
      by_cases hil : i < l.length
      · have hi3 : (0 : Int) ≤ (l.length : Int) - 1 - i := by omega
        have hj : ((l.length : Int) - 1 - i).toNat = l.length - 1 - i := by omega
        have hlt : l.length - 1 - i < l.length := by omega
        have hg := q4Rows_get hlt
        have hsn := edTk_snoc (b := b) hil
        have hle := edTk_le b l (i + 1)
        obtain ⟨⟨b1, b2, b3, b4, b5⟩, b6, b7⟩ := hall _ (q4_mem hlt)
        rw [hsn, List.length_append] at hle
        generalize l.getD (l.length - 1 - i) (0, 0, 0, 0) = c at hg hsn hle b1 b2 b3 b4 b5 b6 b7
        obtain ⟨A, AN, B, BN⟩ := c
        simp only at b1 b2 b3 b4 b5 b6 b7
        unfold edC at hle hsn
        simp only at hle hsn
        obtain ⟨B, rfl⟩ := Int.eq_ofNat_of_zero_le b3.1
        obtain ⟨BN, rfl⟩ := Int.eq_ofNat_of_zero_le b4.1
        have rB : List.drop B (List.take ((B : Int) + (BN : Int)).toNat (strRows b)) = strRows (part b B BN) := by
          rw [show ((B : Int) + (BN : Int)).toNat = B + BN by omega, part_rows]
        have pB := part_len b B BN
        have mB : ∀ x ∈ part b B BN, x.length ≤ 1099511627776 := fun x hx => h4 x (mem_part hx)
        have g1 := itoa_len (n := A) (by omega)
        have g2 := span_len (a := A) (n := AN) (by omega)
        simp only [Int.toNat_natCast] at hle hsn
        have fin : ∀ (t : List UInt8) (sl : List (Nat × SV)), edTk b l (i + 1) = t → lk sl 0 = some (.d (.sl (q4Rows l))) → lk sl 2 = some (.d (.sl (strRows b))) → lk sl 9 = some (.d (.v (.string ⟨t.toArray⟩))) → lk sl 10 = some (.d (.v (.int .i64 ((l.length : Int) - 1 - i - 1)))) →
            ∀ ob, xAgain (fun k st => ∃ i : Nat, i ≤ l.length ∧ k = l.length - i ∧
              st = ⟨[(0, .d (.sl (q4Rows l))), (2, .d (.sl (strRows b))), (9, .d (.v (.string ⟨(edTk b l i).toArray⟩))), (10, .d (.v (.int .i64 ((l.length : Int) - 1 - i))))], 0, []⟩) 0 [0, 2, 9, 10] k ⟨sl, 1, ob⟩ := by
          intro t sl e q1 q2 q3 q4 ob
          refine xAgain_intro (l.length - (i + 1)) [] (by omega) (by simp -dsimp -implicitDefEqProofs only [↓Ev.xStp_eq, ↓Ev.P, Ev.Q, eq_self, forall_eq_or_imp, implies_true, forall_const, forall_eq, ↓reduceIte, reduceIte, Nat.reduceEqDiff, Nat.reduceAdd, reduceCtorEq, Nat.reduceSub, Int.reduceToNat, Int.reduceLE, Int.reduceLT, Int.reduceNeg, Nat.reduceBEq, Nat.reduceMul, Nat.reduceLeDiff, Nat.reduceMod, UInt8.reduceOfNat, Nat.reduceLT, Int.reduceEq, Int.reduceAdd, Int.reduceSub, Int.reduceMul]) ⟨i + 1, by omega, rfl, ?_⟩
          rw [e]
          simp -dsimp -implicitDefEqProofs only [q1, q2, q3, q4, ↓Ev.xStp_eq, ↓Ev.P, Ev.Q, eq_self, forall_eq_or_imp, implies_true, forall_const, forall_eq, ↓reduceIte, reduceIte, Nat.reduceEqDiff, Nat.reduceAdd, reduceCtorEq, Nat.reduceSub, Int.reduceToNat, Int.reduceLE, Int.reduceLT, Int.reduceNeg, Nat.reduceBEq, Nat.reduceMul, Nat.reduceLeDiff, Nat.reduceMod, UInt8.reduceOfNat, Nat.reduceLT, Int.reduceEq, Int.reduceAdd, Int.reduceSub, Int.reduceMul]
          rw [show (l.length : Int) - 1 - i - 1 = (l.length : Int) - 1 - ((i + 1 : Nat) : Int) by omega]
        by_cases hzB : (BN : Int) = 0
        · rw [if_pos hzB] at hle hsn
          have hzA : ¬ AN = 0 := fun e => b5 ⟨e, hzB⟩
          simp only [List.length_append, List.length_cons, List.length_nil] at hle
          simp -dsimp -implicitDefEqProofs only [hg, hi3, hj, q4Row, q4Rows_len, CItoa, CSpan, hzA, hzB, List.length_append, ↓Ev.P, Ev.Q, eq_self, forall_eq_or_imp, implies_true, forall_const, forall_eq, ↓reduceIte, reduceIte, Nat.reduceEqDiff, Nat.reduceAdd, reduceCtorEq, Nat.reduceSub, Int.reduceToNat, Int.reduceLE, Int.reduceLT, Int.reduceNeg, Nat.reduceBEq, Nat.reduceMul, Nat.reduceLeDiff, Nat.reduceMod, UInt8.reduceOfNat, Nat.reduceLT, Int.reduceEq, Int.reduceAdd, Int.reduceSub, Int.reduceMul]
          repeat' (first | with_reducible assumption | refine And.intro ?_ ?_ | intro _ | (rw [Ev.xStp_eq]; simp -dsimp -implicitDefEqProofs only [hg, hi3, hj, q4Row, q4Rows_len, CItoa, CSpan, hzA, hzB, List.length_append, ↓Ev.P, Ev.Q, eq_self, forall_eq_or_imp, implies_true, forall_const, forall_eq, ↓reduceIte, reduceIte, Nat.reduceEqDiff, Nat.reduceAdd, reduceCtorEq, Nat.reduceSub, Int.reduceToNat, Int.reduceLE, Int.reduceLT, Int.reduceNeg, Nat.reduceBEq, Nat.reduceMul, Nat.reduceLeDiff, Nat.reduceMod, UInt8.reduceOfNat, Nat.reduceLT, Int.reduceEq, Int.reduceAdd, Int.reduceSub, Int.reduceMul]))
          all_goals try omega
          simp only [← List.append_assoc] at hsn
          exact fin _ _ hsn (by simp -dsimp -implicitDefEqProofs only [↓Ev.xStp_eq, ↓Ev.P, Ev.Q, eq_self, forall_eq_or_imp, implies_true, forall_const, forall_eq, ↓reduceIte, reduceIte, Nat.reduceEqDiff, Nat.reduceAdd, reduceCtorEq, Nat.reduceSub, Int.reduceToNat, Int.reduceLE, Int.reduceLT, Int.reduceNeg, Nat.reduceBEq, Nat.reduceMul, Nat.reduceLeDiff, Nat.reduceMod, UInt8.reduceOfNat, Nat.reduceLT, Int.reduceEq, Int.reduceAdd, Int.reduceSub, Int.reduceMul]) (by simp -dsimp -implicitDefEqProofs only [↓Ev.xStp_eq, ↓Ev.P, Ev.Q, eq_self, forall_eq_or_imp, implies_true, forall_const, forall_eq, ↓reduceIte, reduceIte, Nat.reduceEqDiff, Nat.reduceAdd, reduceCtorEq, Nat.reduceSub, Int.reduceToNat, Int.reduceLE, Int.reduceLT, Int.reduceNeg, Nat.reduceBEq, Nat.reduceMul, Nat.reduceLeDiff, Nat.reduceMod, UInt8.reduceOfNat, Nat.reduceLT, Int.reduceEq, Int.reduceAdd, Int.reduceSub, Int.reduceMul]) (by simp -dsimp -implicitDefEqProofs only [↓Ev.xStp_eq, ↓Ev.P, Ev.Q, eq_self, forall_eq_or_imp, implies_true, forall_const, forall_eq, ↓reduceIte, reduceIte, Nat.reduceEqDiff, Nat.reduceAdd, reduceCtorEq, Nat.reduceSub, Int.reduceToNat, Int.reduceLE, Int.reduceLT, Int.reduceNeg, Nat.reduceBEq, Nat.reduceMul, Nat.reduceLeDiff, Nat.reduceMod, UInt8.reduceOfNat, Nat.reduceLT, Int.reduceEq, Int.reduceAdd, Int.reduceSub, Int.reduceMul]) (by simp -dsimp -implicitDefEqProofs only [↓Ev.xStp_eq, ↓Ev.P, Ev.Q, eq_self, forall_eq_or_imp, implies_true, forall_const, forall_eq, ↓reduceIte, reduceIte, Nat.reduceEqDiff, Nat.reduceAdd, reduceCtorEq, Nat.reduceSub, Int.reduceToNat, Int.reduceLE, Int.reduceLT, Int.reduceNeg, Nat.reduceBEq, Nat.reduceMul, Nat.reduceLeDiff, Nat.reduceMod, UInt8.reduceOfNat, Nat.reduceLT, Int.reduceEq, Int.reduceAdd, Int.reduceSub, Int.reduceMul]) _
        · rw [if_neg hzB] at hle hsn
          by_cases hzA : AN = 0
          · rw [if_pos hzA] at hle hsn
            simp only [List.length_append, List.length_cons, List.length_nil] at hle
            simp -dsimp -implicitDefEqProofs only [hg, hi3, hj, q4Row, q4Rows_len, CItoa, CSpan, CPutR, unStr_rows, strRows_len, strRows_all, part_rows, hzA, hzB, List.length_append, Ev.St.giveC, ↓Ev.P, Ev.Q, eq_self, forall_eq_or_imp, implies_true, forall_const, forall_eq, ↓reduceIte, reduceIte, Nat.reduceEqDiff, Nat.reduceAdd, reduceCtorEq, Nat.reduceSub, Int.reduceToNat, Int.reduceLE, Int.reduceLT, Int.reduceNeg, Nat.reduceBEq, Nat.reduceMul, Nat.reduceLeDiff, Nat.reduceMod, UInt8.reduceOfNat, Nat.reduceLT, Int.reduceEq, Int.reduceAdd, Int.reduceSub, Int.reduceMul]
            repeat' (first | with_reducible assumption | refine And.intro ?_ ?_ | intro _ | (rw [Ev.xStp_eq]; simp -dsimp -implicitDefEqProofs only [hg, hi3, hj, q4Row, q4Rows_len, CItoa, CSpan, CPutR, unStr_rows, strRows_len, strRows_all, part_rows, hzA, hzB, List.length_append, Ev.St.giveC, ↓Ev.P, Ev.Q, eq_self, forall_eq_or_imp, implies_true, forall_const, forall_eq, ↓reduceIte, reduceIte, Nat.reduceEqDiff, Nat.reduceAdd, reduceCtorEq, Nat.reduceSub, Int.reduceToNat, Int.reduceLE, Int.reduceLT, Int.reduceNeg, Nat.reduceBEq, Nat.reduceMul, Nat.reduceLeDiff, Nat.reduceMod, UInt8.reduceOfNat, Nat.reduceLT, Int.reduceEq, Int.reduceAdd, Int.reduceSub, Int.reduceMul]))
            all_goals try omega
            simp only [← List.append_assoc] at hsn
            exact fin _ _ hsn (by simp -dsimp -implicitDefEqProofs only [↓Ev.xStp_eq, ↓Ev.P, Ev.Q, eq_self, forall_eq_or_imp, implies_true, forall_const, forall_eq, ↓reduceIte, reduceIte, Nat.reduceEqDiff, Nat.reduceAdd, reduceCtorEq, Nat.reduceSub, Int.reduceToNat, Int.reduceLE, Int.reduceLT, Int.reduceNeg, Nat.reduceBEq, Nat.reduceMul, Nat.reduceLeDiff, Nat.reduceMod, UInt8.reduceOfNat, Nat.reduceLT, Int.reduceEq, Int.reduceAdd, Int.reduceSub, Int.reduceMul]) (by simp -dsimp -implicitDefEqProofs only [↓Ev.xStp_eq, ↓Ev.P, Ev.Q, eq_self, forall_eq_or_imp, implies_true, forall_const, forall_eq, ↓reduceIte, reduceIte, Nat.reduceEqDiff, Nat.reduceAdd, reduceCtorEq, Nat.reduceSub, Int.reduceToNat, Int.reduceLE, Int.reduceLT, Int.reduceNeg, Nat.reduceBEq, Nat.reduceMul, Nat.reduceLeDiff, Nat.reduceMod, UInt8.reduceOfNat, Nat.reduceLT, Int.reduceEq, Int.reduceAdd, Int.reduceSub, Int.reduceMul]) (by simp -dsimp -implicitDefEqProofs only [↓Ev.xStp_eq, ↓Ev.P, Ev.Q, eq_self, forall_eq_or_imp, implies_true, forall_const, forall_eq, ↓reduceIte, reduceIte, Nat.reduceEqDiff, Nat.reduceAdd, reduceCtorEq, Nat.reduceSub, Int.reduceToNat, Int.reduceLE, Int.reduceLT, Int.reduceNeg, Nat.reduceBEq, Nat.reduceMul, Nat.reduceLeDiff, Nat.reduceMod, UInt8.reduceOfNat, Nat.reduceLT, Int.reduceEq, Int.reduceAdd, Int.reduceSub, Int.reduceMul]) (by simp -dsimp -implicitDefEqProofs only [↓Ev.xStp_eq, ↓Ev.P, Ev.Q, eq_self, forall_eq_or_imp, implies_true, forall_const, forall_eq, ↓reduceIte, reduceIte, Nat.reduceEqDiff, Nat.reduceAdd, reduceCtorEq, Nat.reduceSub, Int.reduceToNat, Int.reduceLE, Int.reduceLT, Int.reduceNeg, Nat.reduceBEq, Nat.reduceMul, Nat.reduceLeDiff, Nat.reduceMod, UInt8.reduceOfNat, Nat.reduceLT, Int.reduceEq, Int.reduceAdd, Int.reduceSub, Int.reduceMul]) _
          · rw [if_neg hzA] at hle hsn
            simp only [List.length_append, List.length_cons, List.length_nil] at hle
            simp -dsimp -implicitDefEqProofs only [hg, hi3, hj, q4Row, q4Rows_len, CItoa, CSpan, CPutR, unStr_rows, strRows_len, strRows_all, part_rows, hzA, hzB, List.length_append, Ev.St.giveC, ↓Ev.P, Ev.Q, eq_self, forall_eq_or_imp, implies_true, forall_const, forall_eq, ↓reduceIte, reduceIte, Nat.reduceEqDiff, Nat.reduceAdd, reduceCtorEq, Nat.reduceSub, Int.reduceToNat, Int.reduceLE, Int.reduceLT, Int.reduceNeg, Nat.reduceBEq, Nat.reduceMul, Nat.reduceLeDiff, Nat.reduceMod, UInt8.reduceOfNat, Nat.reduceLT, Int.reduceEq, Int.reduceAdd, Int.reduceSub, Int.reduceMul]
            repeat' (first | with_reducible assumption | refine And.intro ?_ ?_ | intro _ | (rw [Ev.xStp_eq]; simp -dsimp -implicitDefEqProofs only [hg, hi3, hj, q4Row, q4Rows_len, CItoa, CSpan, CPutR, unStr_rows, strRows_len, strRows_all, part_rows, hzA, hzB, List.length_append, Ev.St.giveC, ↓Ev.P, Ev.Q, eq_self, forall_eq_or_imp, implies_true, forall_const, forall_eq, ↓reduceIte, reduceIte, Nat.reduceEqDiff, Nat.reduceAdd, reduceCtorEq, Nat.reduceSub, Int.reduceToNat, Int.reduceLE, Int.reduceLT, Int.reduceNeg, Nat.reduceBEq, Nat.reduceMul, Nat.reduceLeDiff, Nat.reduceMod, UInt8.reduceOfNat, Nat.reduceLT, Int.reduceEq, Int.reduceAdd, Int.reduceSub, Int.reduceMul]))
            all_goals try omega
            simp only [← List.append_assoc] at hsn
            exact fin _ _ hsn (by simp -dsimp -implicitDefEqProofs only [↓Ev.xStp_eq, ↓Ev.P, Ev.Q, eq_self, forall_eq_or_imp, implies_true, forall_const, forall_eq, ↓reduceIte, reduceIte, Nat.reduceEqDiff, Nat.reduceAdd, reduceCtorEq, Nat.reduceSub, Int.reduceToNat, Int.reduceLE, Int.reduceLT, Int.reduceNeg, Nat.reduceBEq, Nat.reduceMul, Nat.reduceLeDiff, Nat.reduceMod, UInt8.reduceOfNat, Nat.reduceLT, Int.reduceEq, Int.reduceAdd, Int.reduceSub, Int.reduceMul]) (by simp -dsimp -implicitDefEqProofs only [↓Ev.xStp_eq, ↓Ev.P, Ev.Q, eq_self, forall_eq_or_imp, implies_true, forall_const, forall_eq, ↓reduceIte, reduceIte, Nat.reduceEqDiff, Nat.reduceAdd, reduceCtorEq, Nat.reduceSub, Int.reduceToNat, Int.reduceLE, Int.reduceLT, Int.reduceNeg, Nat.reduceBEq, Nat.reduceMul, Nat.reduceLeDiff, Nat.reduceMod, UInt8.reduceOfNat, Nat.reduceLT, Int.reduceEq, Int.reduceAdd, Int.reduceSub, Int.reduceMul]) (by simp -dsimp -implicitDefEqProofs only [↓Ev.xStp_eq, ↓Ev.P, Ev.Q, eq_self, forall_eq_or_imp, implies_true, forall_const, forall_eq, ↓reduceIte, reduceIte, Nat.reduceEqDiff, Nat.reduceAdd, reduceCtorEq, Nat.reduceSub, Int.reduceToNat, Int.reduceLE, Int.reduceLT, Int.reduceNeg, Nat.reduceBEq, Nat.reduceMul, Nat.reduceLeDiff, Nat.reduceMod, UInt8.reduceOfNat, Nat.reduceLT, Int.reduceEq, Int.reduceAdd, Int.reduceSub, Int.reduceMul]) (by simp -dsimp -implicitDefEqProofs only [↓Ev.xStp_eq, ↓Ev.P, Ev.Q, eq_self, forall_eq_or_imp, implies_true, forall_const, forall_eq, ↓reduceIte, reduceIte, Nat.reduceEqDiff, Nat.reduceAdd, reduceCtorEq, Nat.reduceSub, Int.reduceToNat, Int.reduceLE, Int.reduceLT, Int.reduceNeg, Nat.reduceBEq, Nat.reduceMul, Nat.reduceLeDiff, Nat.reduceMod, UInt8.reduceOfNat, Nat.reduceLT, Int.reduceEq, Int.reduceAdd, Int.reduceSub, Int.reduceMul]) _
      · have hi3 : ¬ (0 : Int) ≤ (l.length : Int) - 1 - i := by omega
        rw [edTk_all (by omega)]
        by_cases hbl : 0 < b.length
        · have hbl' : (0 : Int) < b.length := by omega
          have hgb := strRows_get (l := b) (i := b.length - 1) (by omega)
          have hmx := h4 _ (mem_get (l := b) (i := b.length - 1) (by omega))
          rw [edEnd] at hk
          generalize b.getD (b.length - 1) [] = x at hgb hmx hk
          rcases hbx : bareS x with ⟨y, f⟩
          rw [hbx] at hk
          cases f with
          | true =>
            rw [if_neg (by simp), List.append_nil] at hk
            simp -dsimp -implicitDefEqProofs only [hi3, hbl', strRows_len, ↓Ev.P, Ev.Q, eq_self, forall_eq_or_imp, implies_true, forall_const, forall_eq, ↓reduceIte, reduceIte, Nat.reduceEqDiff, Nat.reduceAdd, reduceCtorEq, Nat.reduceSub, Int.reduceToNat, Int.reduceLE, Int.reduceLT, Int.reduceNeg, Nat.reduceBEq, Nat.reduceMul, Nat.reduceLeDiff, Nat.reduceMod, UInt8.reduceOfNat, Nat.reduceLT, Int.reduceEq, Int.reduceAdd, Int.reduceSub, Int.reduceMul]
            repeat' (first | with_reducible assumption | refine And.intro ?_ ?_ | intro _ | (rw [Ev.xStp_eq]; simp -dsimp -implicitDefEqProofs only [CBare, hgb, hbx, List.length_append, strRows_len, ↓Ev.P, Ev.Q, eq_self, forall_eq_or_imp, implies_true, forall_const, forall_eq, ↓reduceIte, reduceIte, Nat.reduceEqDiff, Nat.reduceAdd, reduceCtorEq, Nat.reduceSub, Int.reduceToNat, Int.reduceLE, Int.reduceLT, Int.reduceNeg, Nat.reduceBEq, Nat.reduceMul, Nat.reduceLeDiff, Nat.reduceMod, UInt8.reduceOfNat, Nat.reduceLT, Int.reduceEq, Int.reduceAdd, Int.reduceSub, Int.reduceMul]))
            all_goals first | omega | exact hk
          | false =>
            rw [if_pos ⟨hbl, rfl⟩] at hk
            simp -dsimp -implicitDefEqProofs only [hi3, hbl', strRows_len, ↓Ev.P, Ev.Q, eq_self, forall_eq_or_imp, implies_true, forall_const, forall_eq, ↓reduceIte, reduceIte, Nat.reduceEqDiff, Nat.reduceAdd, reduceCtorEq, Nat.reduceSub, Int.reduceToNat, Int.reduceLE, Int.reduceLT, Int.reduceNeg, Nat.reduceBEq, Nat.reduceMul, Nat.reduceLeDiff, Nat.reduceMod, UInt8.reduceOfNat, Nat.reduceLT, Int.reduceEq, Int.reduceAdd, Int.reduceSub, Int.reduceMul]
            repeat' (first | with_reducible assumption | refine And.intro ?_ ?_ | intro _ | (rw [Ev.xStp_eq]; simp -dsimp -implicitDefEqProofs only [CBare, hgb, hbx, List.length_append, strRows_len, ↓Ev.P, Ev.Q, eq_self, forall_eq_or_imp, implies_true, forall_const, forall_eq, ↓reduceIte, reduceIte, Nat.reduceEqDiff, Nat.reduceAdd, reduceCtorEq, Nat.reduceSub, Int.reduceToNat, Int.reduceLE, Int.reduceLT, Int.reduceNeg, Nat.reduceBEq, Nat.reduceMul, Nat.reduceLeDiff, Nat.reduceMod, UInt8.reduceOfNat, Nat.reduceLT, Int.reduceEq, Int.reduceAdd, Int.reduceSub, Int.reduceMul]))
            all_goals first | omega | exact hk
        · have hbl' : ¬ (0 : Int) < b.length := by omega
          rw [edEnd, if_neg (fun h => hbl h.1), List.append_nil] at hk
          simp -dsimp -implicitDefEqProofs only [hi3, hbl', strRows_len, ↓Ev.P, Ev.Q, eq_self, forall_eq_or_imp, implies_true, forall_const, forall_eq, ↓reduceIte, reduceIte, Nat.reduceEqDiff, Nat.reduceAdd, reduceCtorEq, Nat.reduceSub, Int.reduceToNat, Int.reduceLE, Int.reduceLT, Int.reduceNeg, Nat.reduceBEq, Nat.reduceMul, Nat.reduceLeDiff, Nat.reduceMod, UInt8.reduceOfNat, Nat.reduceLT, Int.reduceEq, Int.reduceAdd, Int.reduceSub, Int.reduceMul]
          repeat' (first | with_reducible assumption | refine And.intro ?_ ?_ | intro _ | (rw [Ev.xStp_eq]; simp -dsimp -implicitDefEqProofs only [List.length_append, strRows_len, ↓Ev.P, Ev.Q, eq_self, forall_eq_or_imp, implies_true, forall_const, forall_eq, ↓reduceIte, reduceIte, Nat.reduceEqDiff, Nat.reduceAdd, reduceCtorEq, Nat.reduceSub, Int.reduceToNat, Int.reduceLE, Int.reduceLT, Int.reduceNeg, Nat.reduceBEq, Nat.reduceMul, Nat.reduceLeDiff, Nat.reduceMod, UInt8.reduceOfNat, Nat.reduceLT, Int.reduceEq, Int.reduceAdd, Int.reduceSub, Int.reduceMul]))
          all_goals first | omega | exact hk | (exfalso; omega)
  · have hz' : ¬ (50 : Int) = 0 := by omega
    rw [if_neg (by rw [hz]; exact hz'), hz] at hk
    simp -dsimp -implicitDefEqProofs only [S21, R21, CCheck, unQ4_rows, strRows_len, q4Rows_len, hz, hz', ↓Ev.xStp_eq, ↓Ev.P, Ev.Q, eq_self, forall_eq_or_imp, implies_true, forall_const, forall_eq, ↓reduceIte, reduceIte, Nat.reduceEqDiff, Nat.reduceAdd, reduceCtorEq, Nat.reduceSub, Int.reduceToNat, Int.reduceLE, Int.reduceLT, Int.reduceNeg, Nat.reduceBEq, Nat.reduceMul, Nat.reduceLeDiff, Nat.reduceMod, UInt8.reduceOfNat, Nat.reduceLT, Int.reduceEq, Int.reduceAdd, Int.reduceSub, Int.reduceMul]
    exact ⟨by omega, hk⟩
end Go.Proofs.YtpbkdcfjlbdgfaaDoor
set_option linter.unusedVariables false
set_option linter.unusedSimpArgs false
namespace Go.Proofs.YtpbkdcfjlbdgfaaDoor
open Go Go.Ev
set_option maxRecDepth 100000
variable {G : World → Prop}
set_option maxHeartbeats 4000000 in
theorem s20 (hG : ∀ w, G w → Pow10 w) : Sound G Tryd.prog 20 CEd := by
  refine sd20 (T := tabT [(41, CCheck), (32, CItoa), (56, CSpan), (57, bldC gPut), (58, CBare), (43, bldC gWS), (45, strC 5), (55, CBackF 22 106), (106, CBackIt 4)])
    (tab_cons s41 (tab_cons (s32 hG) (tab_cons (s56 hG) (tab_cons s57 (tab_cons s58 (tab_cons sWS (tab_cons sST (tab_cons s55 (tab_cons it106 tab_nil))))))))) (pureC_lawful _) (pure_hX fun args p x K h hp hk => ?_)
  split at h <;> simp only [Option.bind_eq_some_iff, Option.map_eq_some_iff, Prod.mk.injEq, reduceCtorEq] at h
  obtain ⟨l, hl, a, ha, b, hb, rfl, rfl⟩ := h
  rw [unQ4_eq hl, unStr_eq ha, unStr_eq hb] at *
  obtain ⟨⟨h1, h2, h3⟩, h4, h6⟩ := hp
  refine ⟨Nat.le_of_ble_eq_true rfl, ?_⟩
  rcases chk_zero l a.length b.length with hz | hz
  · have hall := chk_all hz
    have hlen := h6 hz
    rw [if_pos hz, hz] at hk
    simp -dsimp -implicitDefEqProofs only [S20, R20, CCheck, CBackF, unQ4_rows, strRows_len, q4Rows_len, hz, ↓Ev.xStp_eq, ↓Ev.P, Ev.Q, eq_self, forall_eq_or_imp, implies_true, forall_const, forall_eq, ↓reduceIte, reduceIte, Nat.reduceEqDiff, Nat.reduceAdd, reduceCtorEq, Nat.reduceSub, Int.reduceToNat, Int.reduceLE, Int.reduceLT, Int.reduceNeg, Nat.reduceBEq, Nat.reduceMul, Nat.reduceLeDiff, Nat.reduceMod, UInt8.reduceOfNat, Nat.reduceLT, Int.reduceEq, Int.reduceAdd, Int.reduceSub, Int.reduceMul]
    refine ⟨by omega, ?_⟩
    refine xEach_intro (fun i s => i ≤ l.length ∧ s = ⟨2, [(0, .cells 23 [.d (.sl (strRows b))]), (1, .bld 70 5 (edTk b l i))]⟩) [0, 1] rfl rfl ?_ ?_ ?_ ?_ ?_
    · exact ⟨by rw [q4Rows_len]; omega, by rw [q4Rows_all]; trivial⟩
    · simp -dsimp -implicitDefEqProofs only [↓Ev.xStp_eq, ↓Ev.P, Ev.Q, eq_self, forall_eq_or_imp, implies_true, forall_const, forall_eq, ↓reduceIte, reduceIte, Nat.reduceEqDiff, Nat.reduceAdd, reduceCtorEq, Nat.reduceSub, Int.reduceToNat, Int.reduceLE, Int.reduceLT, Int.reduceNeg, Nat.reduceBEq, Nat.reduceMul, Nat.reduceLeDiff, Nat.reduceMod, UInt8.reduceOfNat, Nat.reduceLT, Int.reduceEq, Int.reduceAdd, Int.reduceSub, Int.reduceMul]
    · exact ⟨by omega, by simp -dsimp -implicitDefEqProofs only [↓Ev.xStp_eq, ↓Ev.P, Ev.Q, eq_self, forall_eq_or_imp, implies_true, forall_const, forall_eq, ↓reduceIte, reduceIte, Nat.reduceEqDiff, Nat.reduceAdd, reduceCtorEq, Nat.reduceSub, Int.reduceToNat, Int.reduceLE, Int.reduceLT, Int.reduceNeg, Nat.reduceBEq, Nat.reduceMul, Nat.reduceLeDiff, Nat.reduceMod, UInt8.reduceOfNat, Nat.reduceLT, Int.reduceEq, Int.reduceAdd, Int.reduceSub, Int.reduceMul]; rfl⟩
    · rintro i s x ⟨hi, rfl⟩ hx
      have hil : i < l.length := by
        have := (List.getElem?_eq_some_iff.1 hx).1
        rwa [backXs_len, q4Rows_len] at this
      rw [backXs_get (by rw [q4Rows_len]; exact hil), q4Rows_len] at hx
      simp only [Option.some.injEq] at hx
      subst hx
      refine ⟨rfl, ?_⟩
      have hlt : l.length - 1 - i < l.length := by omega
      have hg := q4Rows_get hlt
      have hg2 : (q4Rows l).getD (l.length - 1 - i) [] = q4Row (l.getD (l.length - 1 - i) (0, 0, 0, 0)) := by rw [List.getD_eq_getElem?_getD, hg]; rfl
      have hsn := edTk_snoc (b := b) hil
      have hle := edTk_le b l (i + 1)
      obtain ⟨⟨b1, b2, b3, b4, b5⟩, b6, b7⟩ := hall _ (q4_mem hlt)
      rw [hsn, List.length_append] at hle
      rw [hg2]
      generalize l.getD (l.length - 1 - i) (0, 0, 0, 0) = c at hsn hle b1 b2 b3 b4 b5 b6 b7 ⊢
      obtain ⟨A, AN, B, BN⟩ := c
      simp only at b1 b2 b3 b4 b5 b6 b7
      unfold edC at hle hsn
      simp only at hle hsn
      obtain ⟨B, rfl⟩ := Int.eq_ofNat_of_zero_le b3.1
      obtain ⟨BN, rfl⟩ := Int.eq_ofNat_of_zero_le b4.1
      have pB := part_len b B BN
      have mB : ∀ x ∈ part b B BN, x.length ≤ 1099511627776 := fun x hx => h4 x (mem_part hx)
      have g1 := itoa_len (n := A) (by omega)
      have g2 := span_len (a := A) (n := AN) (by omega)
      simp only [Int.toNat_natCast] at hle hsn
      by_cases hzB : (BN : Int) = 0
      · rw [if_pos hzB] at hle hsn
        simp only [List.length_append, List.length_cons, List.length_nil] at hle
        simp -dsimp -implicitDefEqProofs only [CItoa, CSpan, gPut, gWS, bldT, unStr_rows, q4Row, part_rows, strRows_len, strRows_all, List.length_append, Ev.St.giveC, hzB, ↓Ev.P, Ev.Q, eq_self, forall_eq_or_imp, implies_true, forall_const, forall_eq, ↓reduceIte, reduceIte, Nat.reduceEqDiff, Nat.reduceAdd, reduceCtorEq, Nat.reduceSub, Int.reduceToNat, Int.reduceLE, Int.reduceLT, Int.reduceNeg, Nat.reduceBEq, Nat.reduceMul, Nat.reduceLeDiff, Nat.reduceMod, UInt8.reduceOfNat, Nat.reduceLT, Int.reduceEq, Int.reduceAdd, Int.reduceSub, Int.reduceMul]
        repeat' (first | with_reducible assumption | refine And.intro ?_ ?_ | intro _ | (rw [Ev.xStp_eq]; simp -dsimp -implicitDefEqProofs only [CItoa, CSpan, gPut, gWS, bldT, unStr_rows, q4Row, part_rows, strRows_len, strRows_all, List.length_append, Ev.St.giveC, hzB, ↓Ev.P, Ev.Q, eq_self, forall_eq_or_imp, implies_true, forall_const, forall_eq, ↓reduceIte, reduceIte, Nat.reduceEqDiff, Nat.reduceAdd, reduceCtorEq, Nat.reduceSub, Int.reduceToNat, Int.reduceLE, Int.reduceLT, Int.reduceNeg, Nat.reduceBEq, Nat.reduceMul, Nat.reduceLeDiff, Nat.reduceMod, UInt8.reduceOfNat, Nat.reduceLT, Int.reduceEq, Int.reduceAdd, Int.reduceSub, Int.reduceMul]))
        all_goals try omega
        refine xOnce_intro [0, 1] (by simp -dsimp -implicitDefEqProofs only [↓Ev.xStp_eq, ↓Ev.P, Ev.Q, eq_self, forall_eq_or_imp, implies_true, forall_const, forall_eq, ↓reduceIte, reduceIte, Nat.reduceEqDiff, Nat.reduceAdd, reduceCtorEq, Nat.reduceSub, Int.reduceToNat, Int.reduceLE, Int.reduceLT, Int.reduceNeg, Nat.reduceBEq, Nat.reduceMul, Nat.reduceLeDiff, Nat.reduceMod, UInt8.reduceOfNat, Nat.reduceLT, Int.reduceEq, Int.reduceAdd, Int.reduceSub, Int.reduceMul]) ⟨by omega, ?_⟩
        rw [hsn]
        simp -dsimp -implicitDefEqProofs only [List.append_assoc, ↓Ev.xStp_eq, ↓Ev.P, Ev.Q, eq_self, forall_eq_or_imp, implies_true, forall_const, forall_eq, ↓reduceIte, reduceIte, Nat.reduceEqDiff, Nat.reduceAdd, reduceCtorEq, Nat.reduceSub, Int.reduceToNat, Int.reduceLE, Int.reduceLT, Int.reduceNeg, Nat.reduceBEq, Nat.reduceMul, Nat.reduceLeDiff, Nat.reduceMod, UInt8.reduceOfNat, Nat.reduceLT, Int.reduceEq, Int.reduceAdd, Int.reduceSub, Int.reduceMul]
      · rw [if_neg hzB] at hle hsn
        by_cases hzA : AN = 0
        · rw [if_pos hzA] at hle hsn
          simp only [List.length_append, List.length_cons, List.length_nil] at hle
          simp -dsimp -implicitDefEqProofs only [CItoa, CSpan, gPut, gWS, bldT, unStr_rows, q4Row, part_rows, strRows_len, strRows_all, List.length_append, Ev.St.giveC, hzB, hzA, ↓Ev.P, Ev.Q, eq_self, forall_eq_or_imp, implies_true, forall_const, forall_eq, ↓reduceIte, reduceIte, Nat.reduceEqDiff, Nat.reduceAdd, reduceCtorEq, Nat.reduceSub, Int.reduceToNat, Int.reduceLE, Int.reduceLT, Int.reduceNeg, Nat.reduceBEq, Nat.reduceMul, Nat.reduceLeDiff, Nat.reduceMod, UInt8.reduceOfNat, Nat.reduceLT, Int.reduceEq, Int.reduceAdd, Int.reduceSub, Int.reduceMul]
          repeat' (first | with_reducible assumption | refine And.intro ?_ ?_ | intro _ | (rw [Ev.xStp_eq]; simp -dsimp -implicitDefEqProofs only [CItoa, CSpan, gPut, gWS, bldT, unStr_rows, q4Row, part_rows, strRows_len, strRows_all, List.length_append, Ev.St.giveC, hzB, hzA, ↓Ev.P, Ev.Q, eq_self, forall_eq_or_imp, implies_true, forall_const, forall_eq, ↓reduceIte, reduceIte, Nat.reduceEqDiff, Nat.reduceAdd, reduceCtorEq, Nat.reduceSub, Int.reduceToNat, Int.reduceLE, Int.reduceLT, Int.reduceNeg, Nat.reduceBEq, Nat.reduceMul, Nat.reduceLeDiff, Nat.reduceMod, UInt8.reduceOfNat, Nat.reduceLT, Int.reduceEq, Int.reduceAdd, Int.reduceSub, Int.reduceMul]))
          all_goals try omega
          refine xOnce_intro [0, 1] (by simp -dsimp -implicitDefEqProofs only [↓Ev.xStp_eq, ↓Ev.P, Ev.Q, eq_self, forall_eq_or_imp, implies_true, forall_const, forall_eq, ↓reduceIte, reduceIte, Nat.reduceEqDiff, Nat.reduceAdd, reduceCtorEq, Nat.reduceSub, Int.reduceToNat, Int.reduceLE, Int.reduceLT, Int.reduceNeg, Nat.reduceBEq, Nat.reduceMul, Nat.reduceLeDiff, Nat.reduceMod, UInt8.reduceOfNat, Nat.reduceLT, Int.reduceEq, Int.reduceAdd, Int.reduceSub, Int.reduceMul]) ⟨by omega, ?_⟩
          rw [hsn]
          simp -dsimp -implicitDefEqProofs only [List.append_assoc, ↓Ev.xStp_eq, ↓Ev.P, Ev.Q, eq_self, forall_eq_or_imp, implies_true, forall_const, forall_eq, ↓reduceIte, reduceIte, Nat.reduceEqDiff, Nat.reduceAdd, reduceCtorEq, Nat.reduceSub, Int.reduceToNat, Int.reduceLE, Int.reduceLT, Int.reduceNeg, Nat.reduceBEq, Nat.reduceMul, Nat.reduceLeDiff, Nat.reduceMod, UInt8.reduceOfNat, Nat.reduceLT, Int.reduceEq, Int.reduceAdd, Int.reduceSub, Int.reduceMul]
        · rw [if_neg hzA] at hle hsn
          simp only [List.length_append, List.length_cons, List.length_nil] at hle
          simp -dsimp -implicitDefEqProofs only [CItoa, CSpan, gPut, gWS, bldT, unStr_rows, q4Row, part_rows, strRows_len, strRows_all, List.length_append, Ev.St.giveC, hzB, hzA, ↓Ev.P, Ev.Q, eq_self, forall_eq_or_imp, implies_true, forall_const, forall_eq, ↓reduceIte, reduceIte, Nat.reduceEqDiff, Nat.reduceAdd, reduceCtorEq, Nat.reduceSub, Int.reduceToNat, Int.reduceLE, Int.reduceLT, Int.reduceNeg, Nat.reduceBEq, Nat.reduceMul, Nat.reduceLeDiff, Nat.reduceMod, UInt8.reduceOfNat, Nat.reduceLT, Int.reduceEq, Int.reduceAdd, Int.reduceSub, Int.reduceMul]
          repeat' (first | with_reducible assumption | refine And.intro ?_ ?_ | intro _ | (rw [Ev.xStp_eq]; simp -dsimp -implicitDefEqProofs only [CItoa, CSpan, gPut, gWS, bldT, unStr_rows, q4Row, part_rows, strRows_len, strRows_all, List.length_append, Ev.St.giveC, hzB, hzA, ↓Ev.P, Ev.Q, eq_self, forall_eq_or_imp, implies_true, forall_const, forall_eq, ↓reduceIte, reduceIte, Nat.reduceEqDiff, Nat.reduceAdd, reduceCtorEq, Nat.reduceSub, Int.reduceToNat, Int.reduceLE, Int.reduceLT, Int.reduceNeg, Nat.reduceBEq, Nat.reduceMul, Nat.reduceLeDiff, Nat.reduceMod, UInt8.reduceOfNat, Nat.reduceLT, Int.reduceEq, Int.reduceAdd, Int.reduceSub, Int.reduceMul]))
          all_goals try omega
          refine xOnce_intro [0, 1] (by simp -dsimp -implicitDefEqProofs only [↓Ev.xStp_eq, ↓Ev.P, Ev.Q, eq_self, forall_eq_or_imp, implies_true, forall_const, forall_eq, ↓reduceIte, reduceIte, Nat.reduceEqDiff, Nat.reduceAdd, reduceCtorEq, Nat.reduceSub, Int.reduceToNat, Int.reduceLE, Int.reduceLT, Int.reduceNeg, Nat.reduceBEq, Nat.reduceMul, Nat.reduceLeDiff, Nat.reduceMod, UInt8.reduceOfNat, Nat.reduceLT, Int.reduceEq, Int.reduceAdd, Int.reduceSub, Int.reduceMul]) ⟨by omega, ?_⟩
          rw [hsn]
          simp -dsimp -implicitDefEqProofs only [List.append_assoc, ↓Ev.xStp_eq, ↓Ev.P, Ev.Q, eq_self, forall_eq_or_imp, implies_true, forall_const, forall_eq, ↓reduceIte, reduceIte, Nat.reduceEqDiff, Nat.reduceAdd, reduceCtorEq, Nat.reduceSub, Int.reduceToNat, Int.reduceLE, Int.reduceLT, Int.reduceNeg, Nat.reduceBEq, Nat.reduceMul, Nat.reduceLeDiff, Nat.reduceMod, UInt8.reduceOfNat, Nat.reduceLT, Int.reduceEq, Int.reduceAdd, Int.reduceSub, Int.reduceMul]
    · rintro s ⟨hi, rfl⟩
      rw [edTk_all (by rw [backXs_len, q4Rows_len]; omega)]
      by_cases hbl : 0 < b.length
      · have hbl' : (0 : Int) < b.length := by omega
        have hgb := strRows_get (l := b) (i := b.length - 1) (by omega)
        have hmx := h4 _ (mem_get (l := b) (i := b.length - 1) (by omega))
        rw [edEnd] at hk
        generalize b.getD (b.length - 1) [] = x at hgb hmx hk
        rcases hbx : bareS x with ⟨y, f⟩
        rw [hbx] at hk
        cases f with
        | true =>
          rw [if_neg (by simp), List.append_nil] at hk
          simp -dsimp -implicitDefEqProofs only [hbl', strRows_len, ↓Ev.P, Ev.Q, eq_self, forall_eq_or_imp, implies_true, forall_const, forall_eq, ↓reduceIte, reduceIte, Nat.reduceEqDiff, Nat.reduceAdd, reduceCtorEq, Nat.reduceSub, Int.reduceToNat, Int.reduceLE, Int.reduceLT, Int.reduceNeg, Nat.reduceBEq, Nat.reduceMul, Nat.reduceLeDiff, Nat.reduceMod, UInt8.reduceOfNat, Nat.reduceLT, Int.reduceEq, Int.reduceAdd, Int.reduceSub, Int.reduceMul]
          repeat' (first | with_reducible assumption | refine And.intro ?_ ?_ | intro _ | (rw [Ev.xStp_eq]; simp -dsimp -implicitDefEqProofs only [CBare, gWS, bldT, hgb, hbx, hbl', List.length_append, strRows_len, ↓Ev.P, Ev.Q, eq_self, forall_eq_or_imp, implies_true, forall_const, forall_eq, ↓reduceIte, reduceIte, Nat.reduceEqDiff, Nat.reduceAdd, reduceCtorEq, Nat.reduceSub, Int.reduceToNat, Int.reduceLE, Int.reduceLT, Int.reduceNeg, Nat.reduceBEq, Nat.reduceMul, Nat.reduceLeDiff, Nat.reduceMod, UInt8.reduceOfNat, Nat.reduceLT, Int.reduceEq, Int.reduceAdd, Int.reduceSub, Int.reduceMul]))
          all_goals first | omega | exact hk
        | false =>
          rw [if_pos ⟨hbl, rfl⟩] at hk
          simp -dsimp -implicitDefEqProofs only [hbl', strRows_len, ↓Ev.P, Ev.Q, eq_self, forall_eq_or_imp, implies_true, forall_const, forall_eq, ↓reduceIte, reduceIte, Nat.reduceEqDiff, Nat.reduceAdd, reduceCtorEq, Nat.reduceSub, Int.reduceToNat, Int.reduceLE, Int.reduceLT, Int.reduceNeg, Nat.reduceBEq, Nat.reduceMul, Nat.reduceLeDiff, Nat.reduceMod, UInt8.reduceOfNat, Nat.reduceLT, Int.reduceEq, Int.reduceAdd, Int.reduceSub, Int.reduceMul]
          repeat' (first | with_reducible assumption | refine And.intro ?_ ?_ | intro _ | (rw [Ev.xStp_eq]; simp -dsimp -implicitDefEqProofs only [CBare, gWS, bldT, hgb, hbx, hbl', List.length_append, strRows_len, ↓Ev.P, Ev.Q, eq_self, forall_eq_or_imp, implies_true, forall_const, forall_eq, ↓reduceIte, reduceIte, Nat.reduceEqDiff, Nat.reduceAdd, reduceCtorEq, Nat.reduceSub, Int.reduceToNat, Int.reduceLE, Int.reduceLT, Int.reduceNeg, Nat.reduceBEq, Nat.reduceMul, Nat.reduceLeDiff, Nat.reduceMod, UInt8.reduceOfNat, Nat.reduceLT, Int.reduceEq, Int.reduceAdd, Int.reduceSub, Int.reduceMul]))
          all_goals first | omega | exact hk
      · have hbl' : ¬ (0 : Int) < b.length := by omega
        rw [edEnd, if_neg (fun h => hbl h.1), List.append_nil] at hk
        simp -dsimp -implicitDefEqProofs only [hbl', strRows_len, ↓Ev.P, Ev.Q, eq_self, forall_eq_or_imp, implies_true, forall_const, forall_eq, ↓reduceIte, reduceIte, Nat.reduceEqDiff, Nat.reduceAdd, reduceCtorEq, Nat.reduceSub, Int.reduceToNat, Int.reduceLE, Int.reduceLT, Int.reduceNeg, Nat.reduceBEq, Nat.reduceMul, Nat.reduceLeDiff, Nat.reduceMod, UInt8.reduceOfNat, Nat.reduceLT, Int.reduceEq, Int.reduceAdd, Int.reduceSub, Int.reduceMul]
        repeat' (first | with_reducible assumption | refine And.intro ?_ ?_ | intro _ | (rw [Ev.xStp_eq]; simp -dsimp -implicitDefEqProofs only [hbl', List.length_append, strRows_len, ↓Ev.P, Ev.Q, eq_self, forall_eq_or_imp, implies_true, forall_const, forall_eq, ↓reduceIte, reduceIte, Nat.reduceEqDiff, Nat.reduceAdd, reduceCtorEq, Nat.reduceSub, Int.reduceToNat, Int.reduceLE, Int.reduceLT, Int.reduceNeg, Nat.reduceBEq, Nat.reduceMul, Nat.reduceLeDiff, Nat.reduceMod, UInt8.reduceOfNat, Nat.reduceLT, Int.reduceEq, Int.reduceAdd, Int.reduceSub, Int.reduceMul]))
        all_goals first | omega | exact hk | (exfalso; omega)
  · have hz' : ¬ (50 : Int) = 0 := by omega
    rw [if_neg (by rw [hz]; exact hz'), hz] at hk
    simp -dsimp -implicitDefEqProofs only [S20, R20, CCheck, unQ4_rows, strRows_len, q4Rows_len, hz, hz', ↓Ev.xStp_eq, ↓Ev.P, Ev.Q, eq_self, forall_eq_or_imp, implies_true, forall_const, forall_eq, ↓reduceIte, reduceIte, Nat.reduceEqDiff, Nat.reduceAdd, reduceCtorEq, Nat.reduceSub, Int.reduceToNat, Int.reduceLE, Int.reduceLT, Int.reduceNeg, Nat.reduceBEq, Nat.reduceMul, Nat.reduceLeDiff, Nat.reduceMod, UInt8.reduceOfNat, Nat.reduceLT, Int.reduceEq, Int.reduceAdd, Int.reduceSub, Int.reduceMul]
    exact ⟨by omega, hk⟩
end Go.Proofs.YtpbkdcfjlbdgfaaDoor
set_option linter.unusedVariables false
set_option linter.unusedSimpArgs false
namespace Go.Proofs.YtpbkdcfjlbdgfaaDoor
open Go Go.Ev
set_option maxRecDepth 100000
variable {G : World → Prop}
def CLawE : Contract := pureC fun args => match args with
  | [.d (.sl rows), .d (.sl a), .d (.sl b)] => (unQ4 rows).bind fun l => (unStr a).bind fun x => (unStr b).map fun y =>
      ((l.length ≤ 1099511627776 ∧ x.length ≤ 1099511627776 ∧ y.length ≤ 1099511627776) ∧ (∀ s ∈ y, s.length ≤ 1099511627776) ∧ (chk l x.length y.length = 0 → (edT y l).length ≤ 70368744177664),
        .d (.v (.bool true)))
  | _ => none
set_option maxHeartbeats 1000000 in
theorem s6 (hG : ∀ w, G w → Pow10 w) : Sound G Tryd.prog 6 CLawE := by
  refine sd6 (T := tabT [(20, CEd), (21, CEd), (15, CSame)]) (tab_cons (s20 hG) (tab_cons s21 (tab_cons s15 tab_nil))) (pureC_lawful _) (pure_hX fun args p x K h hp hk => ?_)
  split at h <;> simp only [Option.bind_eq_some_iff, Option.map_eq_some_iff, Prod.mk.injEq, reduceCtorEq] at h
  obtain ⟨l, hl, a, ha, b, hb, rfl, rfl⟩ := h
  rw [unQ4_eq hl, unStr_eq ha, unStr_eq hb] at *
  obtain ⟨⟨h1, h2, h3⟩, h4, h6⟩ := hp
  refine ⟨Nat.le_of_ble_eq_true rfl, ?_⟩
  simp -dsimp (maxSteps := 100000) only [S6, R6, CEd, CSame, unQ4_rows, unStr_rows, strRows_len, q4Rows_len, strRows_all, q4Rows_all, Ev.St.giveC, ↓Ev.ffI, ↓Ev.ttI, ↓Ev.tfI, ↓Ev.ftI, ↓Ev.P, Ev.Q, eq_self, forall_eq_or_imp, implies_true, forall_const, forall_eq, ↓reduceIte, reduceIte, Nat.reduceEqDiff, Nat.reduceAdd, reduceCtorEq, Nat.reduceSub, Int.reduceToNat, Int.reduceLE, Int.reduceLT, Int.reduceNeg, Nat.reduceBEq, Nat.reduceMul, Nat.reduceLeDiff, Nat.reduceMod, UInt8.reduceOfNat, Nat.reduceLT, Int.reduceEq, Int.reduceAdd, Int.reduceSub, Int.reduceMul]
  repeat' (first | with_reducible assumption | refine And.intro ?_ ?_ | intro _ | (rw [Ev.xStp_eq]; simp -dsimp (maxSteps := 100000) only [CEd, CSame, unQ4_rows, unStr_rows, strRows_len, q4Rows_len, strRows_all, q4Rows_all, Ev.St.giveC, ↓Ev.ffI, ↓Ev.ttI, ↓Ev.tfI, ↓Ev.ftI, ↓Ev.P, Ev.Q, eq_self, forall_eq_or_imp, implies_true, forall_const, forall_eq, ↓reduceIte, reduceIte, Nat.reduceEqDiff, Nat.reduceAdd, reduceCtorEq, Nat.reduceSub, Int.reduceToNat, Int.reduceLE, Int.reduceLT, Int.reduceNeg, Nat.reduceBEq, Nat.reduceMul, Nat.reduceLeDiff, Nat.reduceMod, UInt8.reduceOfNat, Nat.reduceLT, Int.reduceEq, Int.reduceAdd, Int.reduceSub, Int.reduceMul]))
  all_goals try omega
end Go.Proofs.YtpbkdcfjlbdgfaaDoor
set_option linter.unusedVariables false
set_option linter.unusedSimpArgs false
namespace Go.Proofs.YtpbkdcfjlbdgfaaDoor
open Go Go.Ev
set_option maxRecDepth 100000
theorem rdStr {c : Rdr} {a : Addr} : ∀ {l : List (List UInt8)} {k : Nat}, (∀ i, i < l.length → c (a.add (k + i)) (.string ⟨(l.getD i []).toArray⟩)) → RdRows c a 1 k (strRows l)
  | [], k, h => by simp [strRows, RdRows]
  | s :: l, k, h => by
    have h0 := h 0 (by simp)
    have hr : RdRows c a 1 (k + 1) (strRows l) := rdStr fun i hi => by
      have := h (i + 1) (by simp; omega)
      rw [show k + 1 + i = k + (i + 1) by omega]
      simpa using this
    have e : strRows (s :: l) = [.v (.string ⟨s.toArray⟩)] :: strRows l := rfl
    rw [e]
    simp only [RdRows, RdCells, Rd]
    exact ⟨rfl, ⟨⟨_, by simpa using h0, rfl, rfl⟩, trivial⟩, hr⟩
theorem rdQ4 {c : Rdr} {a : Addr} : ∀ {l : List Q4} {k : Nat}, (∀ i, i < l.length → RdCells c a (k + i * 4) (q4Row (l.getD i (0, 0, 0, 0)))) → RdRows c a 4 k (q4Rows l)
  | [], k, h => by simp [q4Rows, RdRows]
  | s :: l, k, h => by
    have h0 := h 0 (by simp)
    have hr : RdRows c a 4 (k + 4) (q4Rows l) := rdQ4 fun i hi => by
      have := h (i + 1) (by simp; omega)
      rw [show k + 4 + i * 4 = k + (i + 1) * 4 by omega]
      simpa using this
    have e : q4Rows (s :: l) = q4Row s :: q4Rows l := rfl
    rw [e]
    simp only [RdRows]
    exact ⟨rfl, by simpa using h0, hr⟩
/-- A laid table's block holds its integers and nothing else. -/
theorem tab_only {P : Program} {W : World} {name : String} {k : IntKind} {zs : List Int} {g : Nat} (h : Lib.TabIs P W name k zs) (hg : P.globalNamed name = some g) {a : Addr} {u : Value} (ha : W.cell? a = some u) (hb : a.block = g) : ∃ z, u = .int k z := by
  unfold Lib.TabIs World.var? at h
  rw [hg] at h
  simp only [Option.bind_some] at h
  unfold World.cell? at ha
  rw [hb] at ha
  split at h
  · rename_i cs t f e
    rw [e] at ha
    simp only [Option.some.injEq] at h
    subst h
    simp only at ha
    split at ha
    · cases ha
    · have hm := Array.mem_of_getElem? ha
      simp only [List.mem_toArray, List.mem_map] at hm
      obtain ⟨z, _, rfl⟩ := hm
      exact ⟨z, rfl⟩
  · cases h
theorem gP10 : Tryd.prog.globalNamed "internal/strconv.uint64pow10" = some (Tryd.prog.globalNamed "internal/strconv.uint64pow10").get! := by kernel_rfl
/-- The table is hidden. -/
noncomputable def HP : Hd Pow10 := ⟨fun b => some b = Tryd.prog.globalNamed "internal/strconv.uint64pow10", fun b => some b = Tryd.prog.globalNamed "internal/strconv.uint64pow10", fun _ h => h, fun w w' h hb => by
  unfold Pow10 Lib.TabIs World.var? at h ⊢
  cases e : Tryd.prog.globalNamed "internal/strconv.uint64pow10" with
  | none => rw [e] at h; cases h
  | some g => rw [e] at h; simp only [Option.bind_some] at h ⊢; rw [hb g (by rw [e])]; exact h, 0⟩
theorem HP_no {W : World} (h : Pow10 W) {a : Addr} {u : Value} (ha : W.cell? a = some u) (hu : ∀ z, u ≠ .int .u64 z) : ¬ HP a.block := fun hb => by
  obtain ⟨z, e⟩ := tab_only h hb.symm ha rfl
  exact hu z e
theorem HP_lt {W : World} (h : Pow10 W) {b : Nat} (hb : HP b) : b < W.heap.size := by
  have hb' : some b = Tryd.prog.globalNamed "internal/strconv.uint64pow10" := hb
  unfold Pow10 Lib.TabIs World.var? at h
  rw [← hb'] at h
  simp only [Option.bind_some] at h
  split at h
  · rename_i e
    exact (Array.getElem?_eq_some_iff.1 e).1
  · cases h
end Go.Proofs.YtpbkdcfjlbdgfaaDoor
/- From a law's contract to its row: what a call leaves lies below the heap's end as it lay. -/
set_option linter.unusedVariables false
set_option linter.unusedSimpArgs false
namespace Go.Ev
open Go Go.RowKit Go.WideShapes Go.ChangeShapes

theorem law_calls {G : World → Prop} (H : Hd G) {P : Program} {f : FuncId} {C : Contract} (h : Sound G P f C) {args : List SV} {vs : List Value} {W : World} (hg : G W) (hh : ∀ b, H b → b < W.heap.size) (hw : C.wp args ⟨0, []⟩ fun out s => out = .ret (.d (.v (.bool true))))
    (hvs : CnL (fun _ => undef) 0 (fun a u => W.cell? a = some u ∧ ¬ H a.block) args vs) : Calls P f vs.toArray W fun e W' => e = .returned (.bool true) ∧ Below W.heap.size W W' := by
  obtain ⟨_, hc⟩ := h.2.1 H W (fun _ => undef) (fun _ _ => False) ⟨0, []⟩ args vs _ hw (SOk.empty hh hg _ _)
    (CnL_mono (Nat.le_refl _) (fun _ _ => rfl) (fun a u hau => ⟨hau.1, fun ⟨_, _, h1, _⟩ => by simp [lk] at h1, hau.2⟩) _ _ hvs)
  refine hc.mono ?_
  rintro e W' ⟨m', B', s', out, rfl, hO, hS, hout⟩
  cases e with
  | returned v =>
    simp only [OutOk, Cn, Rd] at hout
    refine ⟨by rw [hout.1], ⟨hS.os, hS.tape, hS.output, hS.size, fun k hk => hS.block k hk fun ⟨_, _, h1, _⟩ => by simp [lk] at h1⟩⟩
  | _ => exact hout.elim

/-- Nothing is hidden, nothing is laid. -/
def noH : Hd (fun _ => True) := ⟨fun _ => False, fun _ => False, fun _ h => h, fun _ _ _ _ => trivial, 0⟩
section
variable {H : Type} {enc : TypeId × Value → H} {P : Program}
theorem post_of_below {f : Func} {s : ChangeSpec} {apart fresh handsOn again : Bool} {W W' : World} {args : Array Value} {v : Value} {ds gs : List (DataW H)} {before pa pv : List MemPlace}
    (hW : DataW.Whole enc P f.params.toList s.vars apart W args.toList ds gs before)
    (hres : ∀ (b : Nat) (sp : Nat → Bool) (hd : Bool), DataW.TrodAll enc P W' b sp hd f.resultTypes.toList (v.resultList f.resultTypes.size) (s.fn H (ds ++ gs)).results [])
    (hargs : ∀ sp : Nat → Bool, (∀ p ∈ before, sp p.block = true) → DataW.TrodAll enc P W' 0 sp true f.params.toList args.toList (s.fn H (ds ++ gs)).args pa)
    (hvars : ∀ sp : Nat → Bool, (∀ p ∈ before, sp p.block = true) → DataW.TrodVars enc P W' sp s.vars (s.fn H (ds ++ gs)).vars pv)
    (hps : before = pa ++ pv) (hb : Below W.heap.size W W')
    (hok : ∀ (j : Nat) (t : TypeId) (r : Value), f.resultTypes[j]? = some t → (v.resultList f.resultTypes.size)[j]? = some r → Value.okWide P W' .any 0 t r) :
    s.post enc P f apart fresh handsOn again W args v W' := by
  have hlt : ∀ p ∈ before, p.block < W.heap.size := fun p hp => hW.lt p hp
  have hold : ∀ p ∈ before, (fun b => decide (b < W.heap.size)) p.block = true := fun p hp => by simpa using hlt p hp
  refine ⟨ds, gs, before, [], pa, pv, hW, hres _ _ _, hargs _ hold, hvars _ hold, World.keptBut_mono (fun p hp => ⟨hp, ?_⟩) (hb.frame (· ∈ before)), fun _ => ?_⟩
  · rw [hps, List.mem_append] at hp
    exact Or.inr hp
  · obtain ⟨_, _, _, _, _, hz, hn⟩ := hW
    refine ⟨hok, _, _, ([] ++ pa) ++ pv, ⟨[] ++ pa, pv, trodAll_append (hargs _ (fun _ _ => rfl)) (hres _ _ _), hvars _ (fun _ _ => rfl), rfl, ?_, ?_⟩, ?_⟩
    · intro b off hp
      have hin : MemPlace.cell b off ∈ before := by rw [hps]; simpa using hp
      rw [hb.frozen (hlt _ hin)]
      exact hz b off hin
    · intro ha
      have := hn ha
      rw [hps] at this
      simpa using this
    · intro p hp _
      rw [hps]
      simpa using hp
end
end Go.Ev
set_option linter.unusedVariables false
set_option linter.unusedSimpArgs false
namespace Go.Proofs.YtpbkdcfjlbdgfaaDoor
open Go Go.Ev
open Go.ChangeShapes Go.WideShapes Go.ChangeAt Go.RowKit
set_option maxRecDepth 100000
variable {H : Type} {enc : TypeId × Value → H}
theorem bulk_app : ∀ a b : List (DataW H), Rows.uptoBulkAll (a ++ b) = Rows.uptoBulkAll a + Rows.uptoBulkAll b
  | [], b => by simp [Rows.uptoBulkAll]
  | x :: r, b => by rw [List.cons_append, Rows.uptoBulkAll, Rows.uptoBulkAll, bulk_app r b]; omega
theorem bulk_strs : ∀ l : List ByteArray, (l.map fun s => s.data.toList.length + 1).sum = Rows.uptoBulkAll (strs l : List (DataW H))
  | [] => by simp [strs, Rows.uptoBulkAll]
  | s :: r => by
    have := bulk_strs r
    simp only [strs, List.map_cons, List.sum_cons, Rows.uptoBulkAll, Rows.uptoBulk] at this ⊢
    omega
theorem arr_eta (b : ByteArray) : (⟨b.data.toList.toArray⟩ : ByteArray) = b := by cases b; simp
theorem okWide_spot {P : Program} {w : World} {r : Reach} {b : Nat} {t e : TypeId} {a : Addr} {len cap : Nat} (ht : P.underlying t = some (.slice e)) (h : Value.okWide P w r b t (.slice (some a) len cap)) : a.spot = none := by
  simp only [Value.okWide, ht, Cell.okWide, Cell.ok, World.has] at h
  simp_all
theorem openStr {b0 : Nat} {W : World} {c : Rdr} {t e : TypeId} {v : Value} {d : DataW H} {p : List MemPlace} {m : Nat → Value} (hc : ∀ a u, W.cell? a = some u → (∀ z, u ≠ .int .u64 z) → c a u)
    (ht : Tryd.prog.underlying t = some (.slice e)) (he : Tryd.prog.underlying e = some .string) (h1 : Tryd.prog.cellsOf e = 1)
    (hv : Value.okWide Tryd.prog W .any b0 t v) (h : DataW.Trod enc Tryd.prog W 0 (fun _ => true) true t v d p) :
    ∃ l : List (List UInt8), Cn m 0 c (.d (.sl (strRows l))) v ∧ (l.map fun s => s.length + 1).sum + 1 ≤ Rows.uptoBulk d := by
  obtain ⟨a0, len, cap, rfl⟩ := okWide_slice ht hv
  obtain ⟨fuel, hf⟩ := h
  rcases open_strings ht he h1 hf with ⟨hcs, hx⟩ | ⟨a, len', cap', ss, hcs, _, hl, hm, hz, hx, hcell, hws⟩
  · simp [Value.cells] at hcs
    obtain ⟨rfl, rfl, rfl⟩ := hcs
    simp only [Prod.mk.injEq] at hx
    obtain ⟨rfl, rfl⟩ := hx
    exact ⟨[], by simp [Cn, Rd, strRows], by simp [Rows.uptoBulk]⟩
  · simp [Value.cells] at hcs
    obtain ⟨rfl, rfl, rfl⟩ := hcs
    simp only [Prod.mk.injEq] at hx
    obtain ⟨rfl, rfl⟩ := hx
    simp only [if_true] at hz
    have hM : maxLen = 9223372036854775807 := by decide
    refine ⟨(ss.take len).map fun s => s.data.toList, ?_, ?_⟩
    · simp only [Cn, Rd]
      refine ⟨some a, cap, by rw [strRows_len]; simp; omega, by rw [strRows_len]; simp; omega, by rw [strRows_len]; simp; omega, .inr ⟨a, 1, rfl, okWide_spot ht hv, rdStr fun i hi => ?_⟩⟩
      simp only [List.length_map, List.length_take] at hi
      rw [Nat.zero_add]
      refine hc _ _ ?_ (fun z e => by cases e)
      rw [hcell i (by omega)]
      congr 2
      simp [List.getD_eq_getElem?_getD, List.getElem?_map, List.getElem?_take_of_lt (show i < len by omega), List.getElem?_eq_getElem (show i < ss.length by omega)]
    · have := bulk_strs (H := H) (ss.take len)
      simp only [Rows.uptoBulk, List.map_map, Function.comp_def]
      omega
end Go.Proofs.YtpbkdcfjlbdgfaaDoor
set_option linter.unusedVariables false
set_option linter.unusedSimpArgs false
namespace Go.Proofs.YtpbkdcfjlbdgfaaDoor
open Go Go.Ev
open Go.ChangeShapes Go.WideShapes Go.ChangeAt Go.RowKit
set_option maxRecDepth 100000
variable {H : Type} {enc : TypeId × Value → H}
theorem cells_q4 {c : Rdr} {W : World} {a : Addr} {k : Nat} {q : Q4} (hc : ∀ a u, W.cell? a = some u → (∀ z, u ≠ .int .u64 z) → c a u)
    (h0 : W.cell? (a.add k) = some (.int .i64 q.1)) (h1 : W.cell? (a.add (k + 1)) = some (.int .i64 q.2.1)) (h2 : W.cell? (a.add (k + 2)) = some (.int .i64 q.2.2.1)) (h3 : W.cell? (a.add (k + 3)) = some (.int .i64 q.2.2.2)) : RdCells c a k (q4Row q) := by
  simp only [q4Row, RdCells, Rd]
  exact ⟨⟨_, hc _ _ h0 (fun z e => by cases e), rfl, rfl⟩, ⟨_, hc _ _ h1 (fun z e => by cases e), rfl, rfl⟩, ⟨_, hc _ _ h2 (fun z e => by cases e), rfl, rfl⟩, ⟨_, hc _ _ h3 (fun z e => by cases e), rfl, rfl⟩, trivial⟩
open Go.Deep in
theorem openQ4 {b0 : Nat} {W : World} {c : Rdr} {t e : TypeId} {f0 f1 f2 f3 : Field} {v : Value} {d : DataW H} {p : List MemPlace} {m : Nat → Value} (hc : ∀ a u, W.cell? a = some u → (∀ z, u ≠ .int .u64 z) → c a u)
    (ht : Tryd.prog.underlying t = some (.slice e)) (he : Tryd.prog.underlying e = some (.struct #[f0, f1, f2, f3])) (hone : oneCellFields Tryd.prog #[f0, f1, f2, f3] = true) (h1 : Tryd.prog.cellsOf e = 4)
    (k0 : Tryd.prog.underlying f0.type = some (.int .i64)) (k1 : Tryd.prog.underlying f1.type = some (.int .i64)) (k2 : Tryd.prog.underlying f2.type = some (.int .i64)) (k3 : Tryd.prog.underlying f3.type = some (.int .i64))
    (hv : Value.okWide Tryd.prog W .any b0 t v) (h : DataW.Trod enc Tryd.prog W 0 (fun _ => true) true t v d p) :
    ∃ l : List Q4, Cn m 0 c (.d (.sl (q4Rows l))) v ∧ l.length + 1 ≤ Rows.uptoBulk d := by
  obtain ⟨a0, len, cap, rfl⟩ := okWide_slice ht hv
  obtain ⟨fuel, hf⟩ := h
  have hM : maxLen = 9223372036854775807 := by decide
  rcases open_slice ht hf with ⟨hcs, hx⟩ | ⟨a, len', cap', mm, n, D, Pl, hcs, _, hl, hm, hz, hx, hi⟩
  · simp [Value.cells] at hcs
    obtain ⟨rfl, rfl, rfl⟩ := hcs
    simp only [Prod.mk.injEq] at hx
    obtain ⟨rfl, rfl⟩ := hx
    exact ⟨[], by simp [Cn, Rd, q4Rows], by simp [Rows.uptoBulk]⟩
  · simp [Value.cells] at hcs
    obtain ⟨rfl, rfl, rfl⟩ := hcs
    simp only [Prod.mk.injEq] at hx
    obtain ⟨rfl, rfl⟩ := hx
    simp only [if_true] at hz
    subst hz
    have each : ∀ i, ∃ q : Q4, i < len → RdCells c a (i * 4) (q4Row q) := fun i => by
      by_cases him : i < len
      · obtain ⟨cs, hcc, htt⟩ := hi i (by omega)
        rw [h1] at hcc
        obtain ⟨ys, n', hn', hy, hlen, hyl, hff⟩ := DataW.trod_struct he htt
        obtain ⟨_, hcl, hat⟩ := World.cells?_some hcc
        have one : ∀ (j : Nat) (f : Field), (#[f0, f1, f2, f3])[j]? = some f → j < 4 → Tryd.prog.underlying f.type = some (.int .i64) → ∃ z, W.cell? (a.add (i * 4 + j)) = some (.int .i64 z) := fun j f hj hj4 hu => by
          obtain ⟨ho, hk⟩ := hone_of hone j f hj
          have h2 := hff j f hj
          rw [ho, hk, List.drop_eq_getElem_cons (by omega)] at h2
          have hys : ys[j]? = some (ys[j]'(by simp at hyl; omega)) := List.getElem?_eq_getElem _
          obtain ⟨z, hz, _, _⟩ := DataW.trod_int hu (h2.trans hys)
          simp only [List.take_succ_cons, List.take_zero, List.cons.injEq, and_true] at hz
          refine ⟨z, ?_⟩
          rw [← Go.Deep.add_add, hat j hj4, ← hz]
          exact List.getElem?_eq_getElem (by omega)
        obtain ⟨z0, e0⟩ := one 0 f0 rfl (by omega) k0
        obtain ⟨z1, e1⟩ := one 1 f1 rfl (by omega) k1
        obtain ⟨z2, e2⟩ := one 2 f2 rfl (by omega) k2
        obtain ⟨z3, e3⟩ := one 3 f3 rfl (by omega) k3
        exact ⟨(z0, z1, z2, z3), fun _ => cells_q4 hc e0 e1 e2 e3⟩
      · exact ⟨(0, 0, 0, 0), fun h => absurd h him⟩
    refine ⟨(List.range len).map fun i => Classical.choose (each i), ?_, ?_⟩
    · simp only [Cn, Rd]
      refine ⟨some a, mm, by rw [q4Rows_len]; simp, by rw [q4Rows_len]; simp; omega, by rw [q4Rows_len]; simp; omega, .inr ⟨a, 4, rfl, okWide_spot ht hv, rdQ4 fun i hi => ?_⟩⟩
      simp only [List.length_map, List.length_range] at hi
      rw [Nat.zero_add]
      have := Classical.choose_spec (each i) hi
      simpa [List.getD_eq_getElem?_getD, List.getElem?_map, List.getElem?_range hi] using this
    · have hbl : ∀ l : List (DataW H), l.length ≤ Rows.uptoBulkAll l := by
        intro l
        induction l with
        | nil => simp
        | cons x r ih =>
          have : 1 ≤ Rows.uptoBulk x := by
            cases x with
            | lit y => cases y <;> simp [Rows.uptoBulk]
            | _ => simp [Rows.uptoBulk]
          simp only [Rows.uptoBulkAll, List.length_cons]; omega
      have := hbl ((List.range len).map D)
      simp only [List.length_map, List.length_range] at this ⊢
      simp only [Rows.uptoBulk]
      omega
end Go.Proofs.YtpbkdcfjlbdgfaaDoor
set_option linter.unusedVariables false
set_option linter.unusedSimpArgs false
namespace Go.Proofs.YtpbkdcfjlbdgfaaDoor
open Go Go.Ev
open Go.ChangeShapes Go.WideShapes Go.ChangeAt Go.RowKit
set_option maxRecDepth 100000
namespace EdfmtPrints
theorem fl_part (l : List (List UInt8)) (k x n : Nat) (h : k ≤ x) : (part l x n).flatten.length + (l.drop (x + n)).flatten.length ≤ (l.drop k).flatten.length := by
  have h1 : l.drop x = part l x n ++ l.drop (x + n) := by rw [part, ← List.drop_drop]; exact (List.take_append_drop n _).symm
  have h2 : l.drop k = (l.drop k).take (x - k) ++ l.drop x := by
    conv => lhs; rw [← List.take_append_drop (x - k) (l.drop k), List.drop_drop, show k + (x - k) = x by omega]
  rw [h2, List.flatten_append, List.length_append, h1, List.flatten_append, List.length_append]
  omega
/-- Lines, each with room for what is written beside it. -/
def pad (s : List UInt8) : List UInt8 := s ++ List.replicate 14 0
theorem bare_len (s : List UInt8) : (bareS s).1.length ≤ s.length := by unfold bareS; split <;> simp
theorem edOne_len (e : Bool) (s : List UInt8) : (edOne e s).length ≤ (pad s).length := by
  have := bare_len s
  unfold edOne pad
  simp only [List.length_append, List.length_replicate]
  have h1 : (if e = true then ([97, 10] : List UInt8) else []).length ≤ 2 := by split <;> simp
  have h2 : (if (bareS s).1 = [46] then dotT else (bareS s).1 ++ [10]).length ≤ s.length + 11 := by split <;> simp; omega
  omega
theorem edFold_bound : ∀ (l : List (List UInt8)) (a : List UInt8 × Bool), (l.foldl edF a).1.length ≤ a.1.length + (l.map pad).flatten.length
  | [], a => by simp
  | s :: r, a => by
    have h1 := edFold_bound r (edF a s)
    have h2 := edOne_len a.2 s
    have h3 : (edF a s).1.length = a.1.length + (edOne a.2 s).length := by simp [edF]
    simp only [List.foldl_cons, List.map_cons, List.flatten_cons, List.length_append]
    omega
theorem edPut_bound (l : List (List UInt8)) : (edPut l).length ≤ (l.map pad).flatten.length + 2 := by
  have h := edFold_bound l ([], false)
  unfold edPut
  rw [List.length_append]
  have : (if (edS l).2 = true then ([] : List UInt8) else [46, 10]).length ≤ 2 := by split <;> simp
  unfold edS at this ⊢
  simp only [List.length_nil] at h
  omega
theorem part_map (b : List (List UInt8)) (x n : Nat) : (part b x n).map pad = part (b.map pad) x n := by simp [part, List.map_take, List.map_drop]
theorem ed_bound (b : List (List UInt8)) : ∀ {l : List Q4} {f : Bool} {u v x y : Int}, chkL f u v l = some (x, y) → 0 ≤ u → 0 ≤ v → (l.flatMap (edC b)).length ≤ 100 * l.length + ((b.map pad).drop v.toNat).flatten.length
  | [], f, u, v, x, y, h, hu, hv => Nat.zero_le _
  | (A, AN, B, BN) :: r, f, u, v, x, y, h, hu, hv => by
    rw [chkL] at h
    split at h
    · cases h
    · rename_i h1
      split at h
      · cases h
      · rename_i h2
        obtain ⟨k1, k2, k3, k4, -⟩ := okC h1
        simp only at k1 k2 k3 k4 h
        have h3 : ¬ A - u < 0 := fun e => h2 (.inl (.inl e))
        have h4 : A - u = B - v := Decidable.not_not.1 fun e => h2 (.inr e)
        have ih := ed_bound b h (by omega) (by omega)
        have w2 := fl_part (b.map pad) v.toNat B.toNat BN.toNat (by omega)
        rw [show (B + BN).toNat = B.toNat + BN.toNat by omega] at ih
        have g1 := itoa_len (n := A) (by omega)
        have g2 := span_len (a := A) (n := AN) (by omega)
        have g3 := edPut_bound (part b B.toNat BN.toNat)
        rw [part_map] at g3
        have hc : (edC b (A, AN, B, BN)).length ≤ 50 + (part (b.map pad) B.toNat BN.toNat).flatten.length := by
          unfold edC
          simp only
          split
          · simp only [List.length_append, List.length_cons, List.length_nil]; omega
          · split <;> (simp only [List.length_append, List.length_cons, List.length_nil]; omega)
        rw [List.flatMap_cons, List.length_append, List.length_cons]
        omega
theorem pad_len : ∀ b : List (List UInt8), (b.map pad).flatten.length = b.flatten.length + 14 * b.length
  | [] => rfl
  | s :: r => by
    have := pad_len r
    simp only [List.map_cons, List.flatten_cons, List.length_append, List.length_cons, pad, List.length_replicate] at *
    omega
theorem rev_len (b : List (List UInt8)) (l : List Q4) : (edT b l).length = (l.flatMap (edC b)).length := by
  rw [edT, List.length_flatMap, List.length_flatMap, List.map_reverse, List.sum_reverse]
theorem ed_small (l : List Q4) (a b : List (List UInt8)) (h : chk l a.length b.length = 0) : (edT b l).length ≤ 100 * l.length + (b.flatten.length + 14 * b.length) := by
  unfold chk at h
  split at h
  · cases h
  · rename_i x y e
    have := ed_bound b e (by omega) (by omega)
    rw [rev_len, ← pad_len]
    simpa using this
theorem mem_flat {s : List UInt8} : ∀ {l : List (List UInt8)}, s ∈ l → s.length ≤ l.flatten.length
  | x :: r, h => by
    rw [List.flatten_cons, List.length_append]
    rcases List.mem_cons.1 h with rfl | h
    · omega
    · have := mem_flat h; omega
theorem len_bulk : ∀ l : List (List UInt8), l.length + l.flatten.length ≤ (l.map fun s => s.length + 1).sum
  | [] => by simp
  | s :: r => by
    have := len_bulk r
    simp only [List.map_cons, List.sum_cons, List.length_cons, List.flatten_cons, List.length_append]
    omega
theorem contract (H : Type) (enc : TypeId × Value → H) (W : World) (base : Nat) (args : Array Value) (ds gs : List (DataW H)) (before : List MemPlace)
    (hval : ∀ (j : Nat) t v, Tryd.f6.params[j]? = some t → args[j]? = some v → Value.okWide Tryd.prog W .any base t v)
    (hW : DataW.Whole enc Tryd.prog Tryd.f6.params.toList Rows.edfmtPrintsSpec.vars false W args.toList ds gs before) (hk : Rows.uptoSmall H (ds ++ gs) = true) (hP : Pow10 W) :
    Calls Tryd.prog 6 args W fun e W' => ∃ v, e = .returned v ∧ Rows.edfmtPrintsSpec.post enc Tryd.prog Tryd.f6 false true false false W args v W' := by
  have hW' := hW
  obtain ⟨p, q, hA0, hV, rfl, hfz, hnd⟩ := hW
  have hA : DataW.TrodAll enc Tryd.prog W 0 (fun _ => true) true Tryd.f6.params.toList args.toList ds p := hA0
  rw [Tryd.params6] at hA hval
  obtain ⟨v0, vs0, d0, ds0, p0, q0, hargs, rfl, rfl, h0, r0⟩ := trodAll_cons hA
  obtain ⟨v1, vs1, d1, ds1, p1, q1, hargs1, rfl, rfl, h1, r1⟩ := trodAll_cons r0
  obtain ⟨v2, vs2, d2, ds2, p2, q2, hargs2, rfl, rfl, h2, r2⟩ := trodAll_cons r1
  obtain ⟨rfl, rfl, rfl⟩ := trodAll_nil r2
  obtain rfl : args = #[v0, v1, v2] := by cases args; simp_all
  obtain ⟨rfl, rfl⟩ := trodVars_none hV
  have hcell : ∀ a u, W.cell? a = some u → (∀ z, u ≠ .int .u64 z) → (W.cell? a = some u ∧ ¬ HP a.block) := fun a u h hz => ⟨h, HP_no hP h hz⟩
  obtain ⟨l, hl, bl⟩ := openQ4 (m := fun _ => undef) hcell Tryd.underlying22 Tryd.underlying74 (by kernel_rfl) (by kernel_rfl) (by kernel_rfl) (by kernel_rfl) (by kernel_rfl) (by kernel_rfl) (hval 0 22 v0 rfl rfl) h0
  obtain ⟨a, ha, ba⟩ := openStr (m := fun _ => undef) hcell Tryd.underlying23 Tryd.underlying9 (by kernel_rfl) (hval 1 23 v1 rfl rfl) h1
  obtain ⟨b, hb, bb⟩ := openStr (m := fun _ => undef) hcell Tryd.underlying23 Tryd.underlying9 (by kernel_rfl) (hval 2 23 v2 rfl rfl) h2
  clear hA0
  have hbk : Rows.uptoBulkAll ([d0, d1, d2] ++ [] : List (DataW H)) ≤ 1048576 := of_decide_eq_true hk
  simp only [List.append_nil, Rows.uptoBulkAll] at hbk
  simp only [List.append_nil] at hW'
  have a1 := len_bulk a
  have b1 := len_bulk b
  refine (law_calls HP (s6 (G := Pow10) (fun w h => h)) (args := [.d (.sl (q4Rows l)), .d (.sl (strRows a)), .d (.sl (strRows b))]) (vs := [v0, v1, v2]) (W := W) hP (fun b hb => HP_lt hP hb) ?_ ⟨hl, ha, hb, trivial⟩).mono fun e W' ⟨he, hg⟩ => ?_
  · have hs := ed_small l a b
    simp -dsimp -implicitDefEqProofs only [CLawE, pureC_wp, unQ4_rows, unStr_rows, Option.bind_some, Option.map_some, need_some]
    refine ⟨trivial, ⟨⟨by omega, by omega, by omega⟩, fun s hs => by have := mem_flat hs; omega, fun h => by have := hs h; omega⟩, trivial⟩
  · subst he
    have u4 : Tryd.prog.underlying 4 = some .bool := by kernel_rfl
    have hlt := hW'.lt
    have lo : laidOutB Tryd.prog = true := by kernel_rfl
    have s22 : (22 : Nat) < Tryd.prog.types.size := of_decide_eq_true (by kernel_rfl)
    have s23 : (23 : Nat) < Tryd.prog.types.size := of_decide_eq_true (by kernel_rfl)
    have r22 : Tryd.prog.readableRec 22 = true := by kernel_rfl
    have r23 : Tryd.prog.readableRec 23 = true := by kernel_rfl
    refine ⟨_, rfl, post_of_below (pa := p0 ++ (p1 ++ (p2 ++ []))) (pv := []) hW' (fun _ _ _ => (trodAll_cons_mk (shut_bool u4 _) trodAll_mk0)) (fun sp hsp => trodAll_cons_mk (WideElems.Trod_stays lo r22 s22 h0 (fun x hx => hg.same (hlt x (by simp [hx]))) (fun x hx => hsp x (by simp [hx])))
      (trodAll_cons_mk (WideElems.Trod_stays lo r23 s23 h1 (fun x hx => hg.same (hlt x (by simp [hx]))) (fun x hx => hsp x (by simp [hx]))) (trodAll_cons_mk (WideElems.Trod_stays lo r23 s23 h2 (fun x hx => hg.same (hlt x (by simp [hx]))) (fun x hx => hsp x (by simp [hx]))) trodAll_mk0))) (fun _ _ => rfl) (by simp)
      hg (ok_one (by kernel_rfl) rfl (okWide_bool_mk u4 _))⟩
end EdfmtPrints
end Go.Proofs.YtpbkdcfjlbdgfaaDoor
set_option linter.unusedVariables false
set_option linter.unusedSimpArgs false
namespace Go.Proofs.YtpbkdcfjlbdgfaaDoor
open Go Go.Ev
open Go.ChangeShapes Go.WideShapes Go.ChangeAt Go.RowKit
set_option maxRecDepth 100000
namespace EdfmtPrints
theorem own : ownKnob Tryd.prog.godebug = none := by kernel_rfl
theorem gTab : Tryd.prog.globalNamed "internal/strconv.uint64pow10" = some 6 := by kernel_rfl
theorem gTabType : (Tryd.prog.globals[6]?).map (·.type) = some 230 := by kernel_rfl
theorem pow {W : World} (h : laidMetH Tryd.prog Rows.edfmtPrintsUptoRow.laid W) : Pow10 W :=
  Lib.tabIs_of_head (rest := []) (n := 20) (e := 64) gTab gTabType (by kernel_rfl) (by kernel_rfl) (by kernel_rfl) (by kernel_rfl) (laidMet.tail (laidMet.tail h))
def vals : DataW Unit → Array Value
  | .agg l => (l.map fun x => match x with | .lit (.int k z) => Value.int k z | _ => undef).toArray
  | _ => #[]
noncomputable def laidWorld (os : Os) : World :=
  { World.holding Tryd.prog os ⟨#[], #[], []⟩ with heap := (((World.holding Tryd.prog os ⟨#[], #[], []⟩).heap.modify 6 (fun o => match o with | .cells _ t frozen => .cells (vals Rows.laid_internal_strconv_uint64pow10) t frozen | o => o)).modify 7 (fun o => match o with | .cells _ t frozen => .cells (vals Rows.laid_math_bits_deBruijn32tab) t frozen | o => o)).modify 8 (fun o => match o with | .cells _ t frozen => .cells (vals Rows.laid_math_bits_deBruijn64tab) t frozen | o => o) }
abbrev wargs : Array Value := #[.slice none 0 0, .slice none 0 0, .slice none 0 0]
theorem laid_met (os : Os) : laidMet Tryd.prog Rows.edfmtPrintsUptoRow.laid ((laidWorld os).forCall (fun _ _ => 0) ⟨#[], wargs, []⟩).memory :=
  laidMet_of_run' 8 (by kernel_rfl) (by kernel_rfl)
theorem reads (os : Os) {H : Type} (enc : TypeId × Value → H) : ∃ places, DataW.whole enc Tryd.prog ((laidWorld os).forCall (fun _ _ => 0) ⟨#[], wargs, []⟩).memory Tryd.f6.params.toList Rows.edfmtPrintsSpec.vars false wargs.toList 8 = some ([.nil, .nil, .nil], [], places) :=
  ⟨[], by kernel_rfl⟩
theorem liftedUpto (os : Os) (started : os.Started) (H : Type) (enc : TypeId × Value → H) (F : Stop.Interp) :
    ReturnsInHanded {} Tryd.checked os 6 .any ((Rows.OpenSpec.upto Rows.edfmtPrintsSpec).preRow enc Tryd.prog Tryd.f6 Rows.edfmtPrintsUptoRow.domain false Rows.edfmtPrintsUptoRow.laid) (((Rows.OpenSpec.upto Rows.edfmtPrintsSpec).at F).post enc Tryd.prog Tryd.f6 false true false false) := by
  obtain ⟨places, hx⟩ := reads os enc
  refine returnsInHanded_of_row (C := Tryd.checked) (s := Rows.OpenSpec.upto Rows.edfmtPrintsSpec) own started (by kernel_rfl) Tryd.func6
    (witness_row_at (enc := enc) (C := Tryd.checked) false (laidWorld os) wargs rfl (by kernel_rfl) (by kernel_rfl) (by kernel_rfl)
      (OpenSpec.preRow_of_cond 8 hx (by kernel_rfl) (fun k hk => by cases hk; kernel_rfl) (by kernel_rfl) (laid_met os))) ?_
  intro W base args ds gs before hval hW _ hcond _ hL _ _
  exact contract H enc W base args ds gs before hval hW (hcond _ rfl) (pow hL)
theorem saidUpto : Rows.EdfmtPrintsUptoSaid :=
  OpenClaim.holds_of_cond 6 Tryd.f6 rfl rfl rfl rfl rfl rfl rfl ⟨rfl, rfl, rfl, rfl, rfl⟩ rfl rfl rfl rfl rfl (by kernel_rfl) Tryd.func6 (by kernel_rfl)
    (of_decide_eq_true (by kernel_rfl)) (by unfold Func.isWrapper; first | (rw [if_pos (by decide +kernel)]; kernel_rfl) | (rw [if_neg (by decide +kernel)]; exact ⟨rfl, rfl⟩))
    (fun os started H enc _ F => by rw [OpenClaim.pre_eq_preRow]; exact liftedUpto os started H enc F)
theorem plain (f : FuncId) (fn : Func) (hf : Tryd.pinned.checked.prog.funcNamed "redline/redlinelaw13.EdfmtPrints" = some f) (hfn : Tryd.pinned.checked.prog.funcs[f]? = some fn) :
    true = Tryd.pinned.checked.prog.looks [] ∧ ∀ (j : Nat) t, fn.params[j]? = some t → Tryd.pinned.checked.prog.wantsStandIn t = false := by
  obtain rfl : f = 6 := Option.some.inj ((show Tryd.prog.funcNamed "redline/redlinelaw13.EdfmtPrints" = some 6 by kernel_rfl).symm.trans hf) |>.symm
  obtain rfl : fn = Tryd.f6 := (Option.some.inj (Tryd.func6.symm.trans hfn)).symm
  refine ⟨by kernel_rfl, fun j t ht => ?_⟩
  have hall : (Tryd.f6.params.toList.all fun u => !Tryd.prog.wantsStandIn u) = true := by kernel_rfl
  have hm : t ∈ Tryd.f6.params.toList := by simpa using Array.mem_of_getElem? ht
  exact (show Tryd.prog.wantsStandIn t = false by simpa using List.all_eq_true.1 hall t hm)
theorem cardUpto : Rows.EdfmtPrintsUptoCardSaid :=
  Claim7.holds_tied_plain_at .later [] _ _ _ _ saidUpto (fun _ h => by cases h) (by kernel_rfl) (fun _ h => by cases h) edfmtPrintsUpto_row_tie rfl ⟨rfl, rfl⟩ (by kernel_rfl) rfl plain (by kernel_rfl)
end EdfmtPrints
end Go.Proofs.YtpbkdcfjlbdgfaaDoor
