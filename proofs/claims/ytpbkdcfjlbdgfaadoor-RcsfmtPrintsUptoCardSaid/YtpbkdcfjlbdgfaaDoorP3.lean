import Derived.Test.YtpbkdcfjlbdgfaaDoorP2
set_option linter.unusedVariables false
set_option linter.unusedSimpArgs false
namespace Go.Proofs.YtpbkdcfjlbdgfaaDoor
open Go Go.Ev
set_option maxRecDepth 100000
variable {G : World → Prop}
set_option maxHeartbeats 1000000 in
theorem s16 (hG : ∀ w, G w → Pow10 w) : Sound G Tryd.prog 16 CRcs := by
  refine sd16 (T := tabT [(41, CCheck), (32, CItoa), (48, CJoin), (43, bldC gWS), (45, strC 5)]) (tab_cons s41 (tab_cons (s32 hG) (tab_cons s48 (tab_cons sWS (tab_cons sST tab_nil))))) (pureC_lawful _) (pure_hX fun args p x K h hp hk => ?_)
  split at h <;> simp only [Option.bind_eq_some_iff, Option.map_eq_some_iff, Prod.mk.injEq, reduceCtorEq] at h
  obtain ⟨l, hl, a, ha, b, hb, rfl, rfl⟩ := h
  rw [unQ4_eq hl, unStr_eq ha, unStr_eq hb] at *
  obtain ⟨⟨h1, h2, h3⟩, h4, h6⟩ := hp
  refine ⟨Nat.le_of_ble_eq_true rfl, ?_⟩
  rcases chk_zero l a.length b.length with hz | hz
  · have hall := chk_all hz
    have hlen := h6 hz
    rw [if_pos hz, hz] at hk
    simp -dsimp -implicitDefEqProofs only [S16, S16_0, S16r1, S16_1, S16r2, S16_2, S16r3, S16_3, S16r4, S16_4, S16r5, R16, CCheck, unQ4_rows, strRows_len, q4Rows_len, hz, ↓Ev.xStp_eq, ↓Ev.P, Ev.Q, eq_self, forall_eq_or_imp, implies_true, forall_const, forall_eq, ↓reduceIte, reduceIte, Nat.reduceEqDiff, Nat.reduceAdd, reduceCtorEq, Nat.reduceSub, Int.reduceToNat, Int.reduceLE, Int.reduceLT, Int.reduceNeg, Nat.reduceBEq, Nat.reduceMul, Nat.reduceLeDiff, Nat.reduceMod, UInt8.reduceOfNat, Nat.reduceLT, Int.reduceEq, Int.reduceAdd, Int.reduceSub, Int.reduceMul]
    refine ⟨by omega, ?_⟩
    refine xLoop_intro (fun k st => ∃ i : Nat, i ≤ l.length ∧ k = l.length - i ∧
      st = ⟨[(2, .d (.sl (strRows b))), (9, .ptr 0 0), (21, .d (.sl (q4Rows l))), (22, .d (.v (.int .i64 l.length))), (23, .d (.v (.int .i64 i)))], 1, [(0, .bld 70 5 (rcsT (l.take i) b))]⟩) l.length [0] ?_ ?_ ?_
    · simp -dsimp -implicitDefEqProofs only [↓Ev.xStp_eq, ↓Ev.P, Ev.Q, eq_self, forall_eq_or_imp, implies_true, forall_const, forall_eq, ↓reduceIte, reduceIte, Nat.reduceEqDiff, Nat.reduceAdd, reduceCtorEq, Nat.reduceSub, Int.reduceToNat, Int.reduceLE, Int.reduceLT, Int.reduceNeg, Nat.reduceBEq, Nat.reduceMul, Nat.reduceLeDiff, Nat.reduceMod, UInt8.reduceOfNat, Nat.reduceLT, Int.reduceEq, Int.reduceAdd, Int.reduceSub, Int.reduceMul]
    · simp -dsimp -implicitDefEqProofs only [↓Ev.xStp_eq, ↓Ev.P, Ev.Q, eq_self, forall_eq_or_imp, implies_true, forall_const, forall_eq, ↓reduceIte, reduceIte, Nat.reduceEqDiff, Nat.reduceAdd, reduceCtorEq, Nat.reduceSub, Int.reduceToNat, Int.reduceLE, Int.reduceLT, Int.reduceNeg, Nat.reduceBEq, Nat.reduceMul, Nat.reduceLeDiff, Nat.reduceMod, UInt8.reduceOfNat, Nat.reduceLT, Int.reduceEq, Int.reduceAdd, Int.reduceSub, Int.reduceMul]
      exact ⟨0, by omega, by omega, by simp [rcsT]⟩
    · rintro k st ⟨i, hi, hk2, rfl⟩
      by_cases hil : i < l.length
      · have hi3 : (i : Int) < l.length := by omega
        have hg := q4Rows_get hil
        have hsn := rcs_snoc b hil
        have hle := rcs_le l b (i + 1)
        obtain ⟨⟨b1, b2, b3, b4, b5⟩, b6, b7⟩ := hall _ (q4_mem hil)
        rw [hsn, List.length_append] at hle
        generalize l.getD i (0, 0, 0, 0) = c at hg hsn hle b1 b2 b3 b4 b5 b6 b7
        obtain ⟨A, AN, B, BN⟩ := c
        simp only at b1 b2 b3 b4 b5 b6 b7
        unfold rcsC at hle hsn
        simp only [List.length_append] at hle hsn
        obtain ⟨B, rfl⟩ := Int.eq_ofNat_of_zero_le b3.1
        obtain ⟨BN, rfl⟩ := Int.eq_ofNat_of_zero_le b4.1
        have rB : List.drop B (List.take ((B : Int) + (BN : Int)).toNat (strRows b)) = strRows (part b B BN) := by
          rw [show ((B : Int) + (BN : Int)).toNat = B + BN by omega, part_rows]
        have pB := part_len b B BN
        have pF := part_flat b B BN
        have g1 := itoa_len (n := A + 1) (by omega)
        have g2 := itoa_len (n := AN) (by omega)
        have g3 := itoa_len (n := A + AN) (by omega)
        have g4 := itoa_len (n := (BN : Int)) (by omega)
        by_cases hzA : 0 < AN
        · rw [rcsA, if_pos hzA] at hle hsn
          by_cases hzB : (0 : Int) < BN
          · rw [rcsB, if_pos hzB] at hle hsn
            simp only [List.length_append, List.length_cons, List.length_nil, Int.toNat_natCast] at hle
            simp -dsimp -implicitDefEqProofs only [hg, hi3, q4Row, q4Rows_len, CItoa, CJoin, gWS, bldT, unStr_rows, strRows_len, strRows_all, rB, part_rows, hzA, hzB, List.length_append, Ev.St.giveC, ↓Ev.P, Ev.Q, eq_self, forall_eq_or_imp, implies_true, forall_const, forall_eq, ↓reduceIte, reduceIte, Nat.reduceEqDiff, Nat.reduceAdd, reduceCtorEq, Nat.reduceSub, Int.reduceToNat, Int.reduceLE, Int.reduceLT, Int.reduceNeg, Nat.reduceBEq, Nat.reduceMul, Nat.reduceLeDiff, Nat.reduceMod, UInt8.reduceOfNat, Nat.reduceLT, Int.reduceEq, Int.reduceAdd, Int.reduceSub, Int.reduceMul]
            repeat' (first | with_reducible assumption | refine And.intro ?_ ?_ | intro _ | (rw [Ev.xStp_eq]; simp -dsimp -implicitDefEqProofs only [hg, hi3, q4Row, q4Rows_len, CItoa, CJoin, gWS, bldT, unStr_rows, strRows_len, strRows_all, rB, part_rows, hzA, hzB, List.length_append, Ev.St.giveC, ↓Ev.P, Ev.Q, eq_self, forall_eq_or_imp, implies_true, forall_const, forall_eq, ↓reduceIte, reduceIte, Nat.reduceEqDiff, Nat.reduceAdd, reduceCtorEq, Nat.reduceSub, Int.reduceToNat, Int.reduceLE, Int.reduceLT, Int.reduceNeg, Nat.reduceBEq, Nat.reduceMul, Nat.reduceLeDiff, Nat.reduceMod, UInt8.reduceOfNat, Nat.reduceLT, Int.reduceEq, Int.reduceAdd, Int.reduceSub, Int.reduceMul]))
            all_goals try omega
            refine xAgain_intro (l.length - (i + 1)) [0] (by omega) (by simp -dsimp -implicitDefEqProofs only [↓Ev.xStp_eq, ↓Ev.P, Ev.Q, eq_self, forall_eq_or_imp, implies_true, forall_const, forall_eq, ↓reduceIte, reduceIte, Nat.reduceEqDiff, Nat.reduceAdd, reduceCtorEq, Nat.reduceSub, Int.reduceToNat, Int.reduceLE, Int.reduceLT, Int.reduceNeg, Nat.reduceBEq, Nat.reduceMul, Nat.reduceLeDiff, Nat.reduceMod, UInt8.reduceOfNat, Nat.reduceLT, Int.reduceEq, Int.reduceAdd, Int.reduceSub, Int.reduceMul]) ⟨i + 1, by omega, rfl, ?_⟩
            rw [hsn]
            simp -dsimp -implicitDefEqProofs only [↓Ev.xStp_eq, ↓Ev.P, Ev.Q, eq_self, forall_eq_or_imp, implies_true, forall_const, forall_eq, ↓reduceIte, reduceIte, Nat.reduceEqDiff, Nat.reduceAdd, reduceCtorEq, Nat.reduceSub, Int.reduceToNat, Int.reduceLE, Int.reduceLT, Int.reduceNeg, Nat.reduceBEq, Nat.reduceMul, Nat.reduceLeDiff, Nat.reduceMod, UInt8.reduceOfNat, Nat.reduceLT, Int.reduceEq, Int.reduceAdd, Int.reduceSub, Int.reduceMul]
            simp [Nat.add_assoc]
          · rw [rcsB, if_neg hzB] at hle hsn
            simp only [List.length_append, List.length_cons, List.length_nil, Int.toNat_natCast] at hle
            simp -dsimp -implicitDefEqProofs only [hg, hi3, q4Row, q4Rows_len, CItoa, CJoin, gWS, bldT, unStr_rows, strRows_len, strRows_all, rB, part_rows, hzA, hzB, List.length_append, Ev.St.giveC, ↓Ev.P, Ev.Q, eq_self, forall_eq_or_imp, implies_true, forall_const, forall_eq, ↓reduceIte, reduceIte, Nat.reduceEqDiff, Nat.reduceAdd, reduceCtorEq, Nat.reduceSub, Int.reduceToNat, Int.reduceLE, Int.reduceLT, Int.reduceNeg, Nat.reduceBEq, Nat.reduceMul, Nat.reduceLeDiff, Nat.reduceMod, UInt8.reduceOfNat, Nat.reduceLT, Int.reduceEq, Int.reduceAdd, Int.reduceSub, Int.reduceMul]
            repeat' (first | with_reducible assumption | refine And.intro ?_ ?_ | intro _ | (rw [Ev.xStp_eq]; simp -dsimp -implicitDefEqProofs only [hg, hi3, q4Row, q4Rows_len, CItoa, CJoin, gWS, bldT, unStr_rows, strRows_len, strRows_all, rB, part_rows, hzA, hzB, List.length_append, Ev.St.giveC, ↓Ev.P, Ev.Q, eq_self, forall_eq_or_imp, implies_true, forall_const, forall_eq, ↓reduceIte, reduceIte, Nat.reduceEqDiff, Nat.reduceAdd, reduceCtorEq, Nat.reduceSub, Int.reduceToNat, Int.reduceLE, Int.reduceLT, Int.reduceNeg, Nat.reduceBEq, Nat.reduceMul, Nat.reduceLeDiff, Nat.reduceMod, UInt8.reduceOfNat, Nat.reduceLT, Int.reduceEq, Int.reduceAdd, Int.reduceSub, Int.reduceMul]))
            all_goals try omega
            refine xAgain_intro (l.length - (i + 1)) [0] (by omega) (by simp -dsimp -implicitDefEqProofs only [↓Ev.xStp_eq, ↓Ev.P, Ev.Q, eq_self, forall_eq_or_imp, implies_true, forall_const, forall_eq, ↓reduceIte, reduceIte, Nat.reduceEqDiff, Nat.reduceAdd, reduceCtorEq, Nat.reduceSub, Int.reduceToNat, Int.reduceLE, Int.reduceLT, Int.reduceNeg, Nat.reduceBEq, Nat.reduceMul, Nat.reduceLeDiff, Nat.reduceMod, UInt8.reduceOfNat, Nat.reduceLT, Int.reduceEq, Int.reduceAdd, Int.reduceSub, Int.reduceMul]) ⟨i + 1, by omega, rfl, ?_⟩
            rw [hsn]
            simp -dsimp -implicitDefEqProofs only [↓Ev.xStp_eq, ↓Ev.P, Ev.Q, eq_self, forall_eq_or_imp, implies_true, forall_const, forall_eq, ↓reduceIte, reduceIte, Nat.reduceEqDiff, Nat.reduceAdd, reduceCtorEq, Nat.reduceSub, Int.reduceToNat, Int.reduceLE, Int.reduceLT, Int.reduceNeg, Nat.reduceBEq, Nat.reduceMul, Nat.reduceLeDiff, Nat.reduceMod, UInt8.reduceOfNat, Nat.reduceLT, Int.reduceEq, Int.reduceAdd, Int.reduceSub, Int.reduceMul]
            simp [Nat.add_assoc]
        · rw [rcsA, if_neg hzA] at hle hsn
          by_cases hzB : (0 : Int) < BN
          · rw [rcsB, if_pos hzB] at hle hsn
            simp only [List.length_append, List.length_cons, List.length_nil, Int.toNat_natCast] at hle
            simp -dsimp -implicitDefEqProofs only [hg, hi3, q4Row, q4Rows_len, CItoa, CJoin, gWS, bldT, unStr_rows, strRows_len, strRows_all, rB, part_rows, hzA, hzB, List.length_append, Ev.St.giveC, ↓Ev.P, Ev.Q, eq_self, forall_eq_or_imp, implies_true, forall_const, forall_eq, ↓reduceIte, reduceIte, Nat.reduceEqDiff, Nat.reduceAdd, reduceCtorEq, Nat.reduceSub, Int.reduceToNat, Int.reduceLE, Int.reduceLT, Int.reduceNeg, Nat.reduceBEq, Nat.reduceMul, Nat.reduceLeDiff, Nat.reduceMod, UInt8.reduceOfNat, Nat.reduceLT, Int.reduceEq, Int.reduceAdd, Int.reduceSub, Int.reduceMul]
            repeat' (first | with_reducible assumption | refine And.intro ?_ ?_ | intro _ | (rw [Ev.xStp_eq]; simp -dsimp -implicitDefEqProofs only [hg, hi3, q4Row, q4Rows_len, CItoa, CJoin, gWS, bldT, unStr_rows, strRows_len, strRows_all, rB, part_rows, hzA, hzB, List.length_append, Ev.St.giveC, ↓Ev.P, Ev.Q, eq_self, forall_eq_or_imp, implies_true, forall_const, forall_eq, ↓reduceIte, reduceIte, Nat.reduceEqDiff, Nat.reduceAdd, reduceCtorEq, Nat.reduceSub, Int.reduceToNat, Int.reduceLE, Int.reduceLT, Int.reduceNeg, Nat.reduceBEq, Nat.reduceMul, Nat.reduceLeDiff, Nat.reduceMod, UInt8.reduceOfNat, Nat.reduceLT, Int.reduceEq, Int.reduceAdd, Int.reduceSub, Int.reduceMul]))
            all_goals try omega
            refine xAgain_intro (l.length - (i + 1)) [0] (by omega) (by simp -dsimp -implicitDefEqProofs only [↓Ev.xStp_eq, ↓Ev.P, Ev.Q, eq_self, forall_eq_or_imp, implies_true, forall_const, forall_eq, ↓reduceIte, reduceIte, Nat.reduceEqDiff, Nat.reduceAdd, reduceCtorEq, Nat.reduceSub, Int.reduceToNat, Int.reduceLE, Int.reduceLT, Int.reduceNeg, Nat.reduceBEq, Nat.reduceMul, Nat.reduceLeDiff, Nat.reduceMod, UInt8.reduceOfNat, Nat.reduceLT, Int.reduceEq, Int.reduceAdd, Int.reduceSub, Int.reduceMul]) ⟨i + 1, by omega, rfl, ?_⟩
            rw [hsn]
            simp -dsimp -implicitDefEqProofs only [↓Ev.xStp_eq, ↓Ev.P, Ev.Q, eq_self, forall_eq_or_imp, implies_true, forall_const, forall_eq, ↓reduceIte, reduceIte, Nat.reduceEqDiff, Nat.reduceAdd, reduceCtorEq, Nat.reduceSub, Int.reduceToNat, Int.reduceLE, Int.reduceLT, Int.reduceNeg, Nat.reduceBEq, Nat.reduceMul, Nat.reduceLeDiff, Nat.reduceMod, UInt8.reduceOfNat, Nat.reduceLT, Int.reduceEq, Int.reduceAdd, Int.reduceSub, Int.reduceMul]
            simp [Nat.add_assoc]
          · omega
      · have hi3 : ¬ (i : Int) < l.length := by omega
        simp -dsimp -implicitDefEqProofs only [hi3, q4Rows_len, ↓Ev.xStp_eq, ↓Ev.P, Ev.Q, eq_self, forall_eq_or_imp, implies_true, forall_const, forall_eq, ↓reduceIte, reduceIte, Nat.reduceEqDiff, Nat.reduceAdd, reduceCtorEq, Nat.reduceSub, Int.reduceToNat, Int.reduceLE, Int.reduceLT, Int.reduceNeg, Nat.reduceBEq, Nat.reduceMul, Nat.reduceLeDiff, Nat.reduceMod, UInt8.reduceOfNat, Nat.reduceLT, Int.reduceEq, Int.reduceAdd, Int.reduceSub, Int.reduceMul]
        rw [List.take_of_length_le (by omega)]
        exact hk
  · have hz' : ¬ (50 : Int) = 0 := by omega
    rw [if_neg (by rw [hz]; exact hz'), hz] at hk
    simp -dsimp -implicitDefEqProofs only [S16, S16_0, S16r1, S16_1, S16r2, S16_2, S16r3, S16_3, S16r4, S16_4, S16r5, R16, CCheck, unQ4_rows, strRows_len, q4Rows_len, hz, hz', ↓Ev.xStp_eq, ↓Ev.P, Ev.Q, eq_self, forall_eq_or_imp, implies_true, forall_const, forall_eq, ↓reduceIte, reduceIte, Nat.reduceEqDiff, Nat.reduceAdd, reduceCtorEq, Nat.reduceSub, Int.reduceToNat, Int.reduceLE, Int.reduceLT, Int.reduceNeg, Nat.reduceBEq, Nat.reduceMul, Nat.reduceLeDiff, Nat.reduceMod, UInt8.reduceOfNat, Nat.reduceLT, Int.reduceEq, Int.reduceAdd, Int.reduceSub, Int.reduceMul]
    exact ⟨by omega, hk⟩
end Go.Proofs.YtpbkdcfjlbdgfaaDoor
