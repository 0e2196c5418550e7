/- RcsfmtRuns: any text is run over any lines, or refused with the line and the reason that the chapter gives, for all arguments that the statement names. Part 5 of 5. -/
import Derived.Test.YtlghobefhmpfkaaGreatDoorProg
import Derived.WalkKit
import Derived.LaidEql
import Derived.Stop.Asserts
import Derived.RowKitTokens
import Derived.Below
import Derived.RegionTactic
import Derived.ChangeAlike
import Derived.Test.YtlghobefhmpfkaaGreatDoorRows
import Derived.Deep.Slices
import Derived.Deep.Fields
import Derived.ChangeSame
import Derived.Test.YtlghobefhmpfkaaGreatDoorCards
import Derived.Test.YtlghobefhmpfkaaGreatDoorTie
import Derived.JoinedCond
import Derived.ProofKit
import Derived.Deep.DeepHandedRow
import Derived.Deep.DeepWitnessRowRef
import Derived.Stop.LaidErr
import Derived.Stop.Joined
import Derived.LaidLaws
import Derived.LaidHandle
import Derived.Lib.LaidIn
import Derived.SevenTiedAt
import Derived.Test.YtlghobefhmpfkaaGreatDoorRr1
import Derived.Test.YtlghobefhmpfkaaGreatDoorRr2
import Derived.Test.YtlghobefhmpfkaaGreatDoorRr3
import Derived.Test.YtlghobefhmpfkaaGreatDoorRr4
set_option linter.unusedVariables false
set_option linter.unusedSimpArgs false
namespace Go.Proofs.YtlghobefhmpfkaaGreatDoor
open Go Go.Ev Go.Rcs
set_option maxRecDepth 100000
variable {G : World → Prop}
def refR (y : Ans) : SV × Store := if y.2.2 = 0 then (.tup [.own 0, .agg [.d (.v (.int .i64 0)), .d (.v (.int .i64 0))]], ⟨1, [(0, .row 9 1 (strRows y.1))]⟩) else (.tup [.d (.sl []), .agg [.d (.v (.int .i64 y.2.1)), .d (.v (.int .i64 y.2.2))]], ⟨0, []⟩)
def CRunR : Contract := stC fun args st => match args, st with
  | [.d (.v (.string s)), .d (.sl rows)], ⟨0, []⟩ => (unStr rows).map fun a => ((s.size ≤ 1099511627776 ∧ a.length ≤ 1073741824 ∧ ∀ x ∈ a, x.length ≤ 1099511627776), refR (rcsRun s.data.toList a))
  | _, _ => none
abbrev refTab : List (FuncId × Contract) := [(39, CRdr), (40, CMore), (42, CNext), (41, CCmd), (43, CFail), (44, CLns)]
theorem nx_ok {L : List (List UInt8)} {i : Nat} {fa : Int} (h : i < L.length) (hb : (bareS (L.getD i [])).2 = true) : nxC L i fa 0 = ((bareS (L.getD i [])).1, (i : Int) + 1, fa, 0) := by
  rw [nxC, if_pos rfl, if_neg (by omega), Int.toNat_natCast, if_pos hb]
theorem nx_bad {L : List (List UInt8)} {i : Nat} {fa : Int} (h : i < L.length) (hb : (bareS (L.getD i [])).2 = false) : nxC L i fa 0 = ([], (i : Int) + 1, (i : Int) + 1, 3) := by
  rw [nxC, if_pos rfl, if_neg (by omega), Int.toNat_natCast, if_neg (by rw [hb]; decide)]
theorem seg_snoc {l : List (List UInt8)} {i j : Nat} (h : i ≤ j) (hj : j < l.length) : seg l i (j + 1) = seg l i j ++ [l.getD j []] := by
  unfold seg
  rw [List.take_succ_eq_append_getElem hj, List.drop_append_of_le_length (by rw [List.length_take]; omega), List.getD_eq_getElem?_getD, List.getElem?_eq_getElem hj, Option.getD_some]
set_option maxHeartbeats 32000000 in
theorem refS {s : List UInt8} {a L : List (List UInt8)} {Y : Ans} {K : Out → Store → Prop} (h4 : s.length ≤ 1048576) (ha : a.length ≤ 1073741824) (hA : ∀ x ∈ a, x.length ≤ 1099511627776) (hLs : lns s = L) (hLl : L.length ≤ 1048576) (hL : ∀ x ∈ L, x.length ≤ 1099511627776) (hY : rcsGo L a L.length 0 [] 0 (-1) = Y) (hz : Y.2.2 = 0) (hk : K (.ret (.tup [.own 0, .agg [.d (.v (.int .i64 0)), .d (.v (.int .i64 0))]])) ⟨1, [(0, .row 9 1 (strRows Y.1))]⟩) :
  xv (tabT refTab) 0 S12 (st0 [.d (.v (.string ⟨s.toArray⟩)), .d (.sl (strRows a))] ⟨0, []⟩) (retK R12 0 [3] K) (panK 0 [] K) := by
  have h5 : ¬ (1048576 : Int) < (s.length : Int) := by omega
  have h4' : ¬ 1048576 < s.length := by omega
  simp -dsimp -implicitDefEqProofs only [S12, S12_0, S12r1, S12_1, S12r2, S12_2, S12r3, S12_3, S12r4, S12_4, S12r5, S12_5, S12r6, S12_6, S12r7, S12_7, S12r8, S12_8, S12r9, S12_9, S12r10, R12, CRdr, h5, h4', hLs, ↓Ev.xStp_eq, ↓Ev.P, Ev.Q, Bool.cond_true, Bool.cond_false, eq_self, forall_eq_or_imp, implies_true, forall_const, forall_eq, ↓reduceIte, reduceIte, Nat.reduceEqDiff, Nat.reduceAdd, reduceCtorEq, Nat.reduceSub, Int.reduceToNat, Int.reduceLE, Int.reduceLT, Int.reduceNeg, Nat.reduceBEq, Nat.reduceMul, Nat.reduceLeDiff, Nat.reduceMod, UInt8.reduceOfNat, Nat.reduceLT, Int.reduceEq, Int.reduceAdd, Int.reduceSub, Int.reduceMul]
  repeat' (first | with_reducible assumption | refine And.intro ?_ ?_ | intro _)
  all_goals try omega
  refine xLoop_intro (fun n st => ∃ (i : Nat) (out : List (List UInt8)) (done put : Int), i ≤ L.length ∧ 0 ≤ done ∧ done ≤ a.length ∧ (out.length : Int) ≤ done + i ∧ (∀ x ∈ out, x.length ≤ 1099511627776) ∧
      ((n = L.length - i + 1 ∧ rcsGo L a (L.length - i) i out done.toNat put = Y ∧ st = ⟨[(1, .d (.sl (strRows a))), (5, .ptr 0 0), (6, .ptr 1 0), (7, .own 2), (8, .d (.v (.int .i64 done))), (9, .d (.v (.int .i64 put)))], 3, [(0, .cells 29 [.d (.v (.int .i64 0)), .d (.v (.int .i64 0))]), (1, .cells 77 [.d (.sl (strRows L)), .d (.v (.int .i64 i)), .d (.v (.int .i64 0)), .d (.v (.int .i64 0))]), (2, .row 9 1 (strRows out))]⟩))) (L.length + 1) [0, 1, 2] ?_ ?_ ?_
  · simp -dsimp -implicitDefEqProofs only [↓Ev.xStp_eq, ↓Ev.P, Ev.Q, Bool.cond_true, Bool.cond_false, eq_self, forall_eq_or_imp, implies_true, forall_const, forall_eq, ↓reduceIte, reduceIte, Nat.reduceEqDiff, Nat.reduceAdd, reduceCtorEq, Nat.reduceSub, Int.reduceToNat, Int.reduceLE, Int.reduceLT, Int.reduceNeg, Nat.reduceBEq, Nat.reduceMul, Nat.reduceLeDiff, Nat.reduceMod, UInt8.reduceOfNat, Nat.reduceLT, Int.reduceEq, Int.reduceAdd, Int.reduceSub, Int.reduceMul]
  · simp -dsimp -implicitDefEqProofs only [↓Ev.xStp_eq, ↓Ev.P, Ev.Q, Bool.cond_true, Bool.cond_false, eq_self, forall_eq_or_imp, implies_true, forall_const, forall_eq, ↓reduceIte, reduceIte, Nat.reduceEqDiff, Nat.reduceAdd, reduceCtorEq, Nat.reduceSub, Int.reduceToNat, Int.reduceLE, Int.reduceLT, Int.reduceNeg, Nat.reduceBEq, Nat.reduceMul, Nat.reduceLeDiff, Nat.reduceMod, UInt8.reduceOfNat, Nat.reduceLT, Int.reduceEq, Int.reduceAdd, Int.reduceSub, Int.reduceMul]
    exact ⟨0, [], 0, -1, by omega, by omega, by omega, by simp, by simp, ⟨rfl, hY, rfl⟩⟩
  · rintro n st ⟨i, out, done, put, hi, hd0, hd3, hol, ho, rfl, hgo, rfl⟩
    by_cases hil : i < L.length
    · have _t := trivial
      have hi3 : (i : Int) < L.length := by omega
      have hsz := hL _ (getD_in hil)
      obtain ⟨m, hm⟩ : ∃ m, L.length - i = m + 1 := ⟨L.length - i - 1, by omega⟩
      rw [hm, rcsGo] at hgo
      have hx1 := nx_ok (fa := 0) hil
      have hx2 := nx_bad (fa := 0) hil
      have hcd : cmdOf (L.getD i []) = if (bareS (L.getD i [])).2 = true then rcmd parseS (bareS (L.getD i [])).1 else none := rfl
      have hbl : (bareS (L.getD i [])).1.length ≤ (L.getD i []).length := by unfold bareS; split <;> simp
      have hbd : ∀ v p k, cmdOf (L.getD i []) = some (v, p, k) → _ := fun v p k h => cmd_bd h
      generalize L.getD i [] = s at hsz hgo hx1 hx2 hcd hbl hbd
      obtain ⟨done, rfl⟩ := Int.eq_ofNat_of_zero_le hd0
      rw [Int.toNat_natCast] at hgo
      cases hb : (bareS s).2 with
      | false =>
        rw [if_neg (by rw [hb]; decide)] at hcd
        rw [hcd] at hgo; dsimp only at hgo; subst hgo
        simp at hz
      | true =>
        rw [if_pos hb] at hcd
        have hnx := hx1 hb
        generalize (bareS s).1 = t at hcd hnx hbl
        have ht : t.length ≤ 1099511627776 := by omega
        obtain ⟨hr1, hr2⟩ := cmC_cmd t
        cases hc : cmdOf s with
        | none =>
          rw [hc] at hgo; dsimp only at hgo; subst hgo
          simp at hz
        | some c =>
          obtain ⟨v, p, k⟩ := c
          have hrd := hr1 _ (hcd.symm.trans hc)
          rw [hc] at hgo
          obtain ⟨hv, p0, p1, k0, k1, vp⟩ := hbd _ _ _ hc
          clear hr1 hr2 hbd hcd hc hx1 hx2
          dsimp only at hgo
          obtain ⟨p, rfl⟩ := Int.eq_ofNat_of_zero_le p0
          obtain ⟨k, rfl⟩ := Int.eq_ofNat_of_zero_le (Int.le_of_lt k0)
          by_cases hv1 : v = 100
          · have hvd : ((v.toNat : Int) = 100) = True := (show ((v.toNat : Int) = 100) = (v = 100) from u8_k v 100 (by decide)).trans (eq_true hv1)
            have hva : ((v.toNat : Int) = 97) = False := (show ((v.toNat : Int) = 97) = (v = 97) from u8_k v 97 (by decide)).trans (eq_false (by rw [hv1]; decide))
            have hp0 := vp hv1
            have e5 : ((p : Int) - 1).toNat = p - 1 := by omega
            by_cases ho1 : (p : Int) - 1 < max (done : Int) put
            · have hal : alw v p k a.length done put = 121 := by rw [alw, if_pos hv1, if_pos ho1]
              rw [hal, if_pos (by decide)] at hgo; subst hgo
              simp at hz
            · by_cases ho2 : (a.length : Int) < p ∨ (a.length : Int) - p + 1 < k
              · have hal : alw v p k a.length done put = 2 := by rw [alw, if_pos hv1, if_neg ho1, if_pos ho2]
                rw [hal, if_pos (by decide)] at hgo; subst hgo
                simp at hz
              · have hal : alw v p k a.length done put = 0 := by rw [alw, if_pos hv1, if_neg ho1, if_neg ho2]
                simp only [not_or] at ho2
                obtain ⟨ho3, ho4⟩ := ho2
                rw [if_neg (fun h => h hal), if_pos hv1, e5] at hgo
                obtain ⟨ha1, ha2⟩ := alw_ok hv hal
                obtain ⟨hd1, hd2⟩ := ha1 hv1
                have hsl : (seg a done (p - 1)).length ≤ p := by rw [seg_len (by omega) (by omega)]; omega
                unfold seg at hsl
                simp -dsimp -implicitDefEqProofs only [hi3, hnx, hrd, hvd, hva, ho1, ho3, ho4, e5, CRdr, CMore, CNext, CCmd, CFail, CLns, nilS, strRows_len, strRows_sub, strRows_all, strRows_app, unStr_rows, UInt8.ofNat_toNat, Ev.St.giveC, ↓Ev.P, Ev.Q, Bool.cond_true, Bool.cond_false, eq_self, forall_eq_or_imp, implies_true, forall_const, forall_eq, ↓reduceIte, reduceIte, Nat.reduceEqDiff, Nat.reduceAdd, reduceCtorEq, Nat.reduceSub, Int.reduceToNat, Int.reduceLE, Int.reduceLT, Int.reduceNeg, Nat.reduceBEq, Nat.reduceMul, Nat.reduceLeDiff, Nat.reduceMod, UInt8.reduceOfNat, Nat.reduceLT, Int.reduceEq, Int.reduceAdd, Int.reduceSub, Int.reduceMul]
                repeat' (first | with_reducible assumption | refine And.intro ?_ ?_ | intro _ | (rw [Ev.xStp_eq]; simp -dsimp -implicitDefEqProofs only [hi3, hnx, hrd, hvd, hva, ho1, ho3, ho4, e5, CRdr, CMore, CNext, CCmd, CFail, CLns, nilS, strRows_len, strRows_sub, strRows_all, strRows_app, unStr_rows, UInt8.ofNat_toNat, Ev.St.giveC, ↓Ev.P, Ev.Q, Bool.cond_true, Bool.cond_false, eq_self, forall_eq_or_imp, implies_true, forall_const, forall_eq, ↓reduceIte, reduceIte, Nat.reduceEqDiff, Nat.reduceAdd, reduceCtorEq, Nat.reduceSub, Int.reduceToNat, Int.reduceLE, Int.reduceLT, Int.reduceNeg, Nat.reduceBEq, Nat.reduceMul, Nat.reduceLeDiff, Nat.reduceMod, UInt8.reduceOfNat, Nat.reduceLT, Int.reduceEq, Int.reduceAdd, Int.reduceSub, Int.reduceMul]))
                all_goals try omega
                refine xAgain_intro (L.length - (i + 1) + 1) [0, 1, 3] (by omega) (by simp -dsimp -implicitDefEqProofs only [↓Ev.xStp_eq, ↓Ev.P, Ev.Q, Bool.cond_true, Bool.cond_false, eq_self, forall_eq_or_imp, implies_true, forall_const, forall_eq, ↓reduceIte, reduceIte, Nat.reduceEqDiff, Nat.reduceAdd, reduceCtorEq, Nat.reduceSub, Int.reduceToNat, Int.reduceLE, Int.reduceLT, Int.reduceNeg, Nat.reduceBEq, Nat.reduceMul, Nat.reduceLeDiff, Nat.reduceMod, UInt8.reduceOfNat, Nat.reduceLT, Int.reduceEq, Int.reduceAdd, Int.reduceSub, Int.reduceMul]) ⟨i + 1, out ++ seg a done (p - 1), (p : Int) - 1 + k, put, by omega, by omega, by omega, by rw [List.length_append, seg_len (by omega) (by omega)]; omega, ?_, ⟨rfl, ?_, ?_⟩⟩
                · intro x hx; rcases List.mem_append.1 hx with hx | hx
                  · exact ho x hx
                  · exact hA x (seg_mem hx)
                · rw [show L.length - (i + 1) = m by omega]; exact hgo
                · simp -dsimp -implicitDefEqProofs only [↓Ev.xStp_eq, ↓Ev.P, Ev.Q, Bool.cond_true, Bool.cond_false, eq_self, forall_eq_or_imp, implies_true, forall_const, forall_eq, ↓reduceIte, reduceIte, Nat.reduceEqDiff, Nat.reduceAdd, reduceCtorEq, Nat.reduceSub, Int.reduceToNat, Int.reduceLE, Int.reduceLT, Int.reduceNeg, Nat.reduceBEq, Nat.reduceMul, Nat.reduceLeDiff, Nat.reduceMod, UInt8.reduceOfNat, Nat.reduceLT, Int.reduceEq, Int.reduceAdd, Int.reduceSub, Int.reduceMul]
                  all_goals rfl
          · have hv2 : v = 97 := hv.resolve_right hv1
            have hvd : ((v.toNat : Int) = 100) = False := (show ((v.toNat : Int) = 100) = (v = 100) from u8_k v 100 (by decide)).trans (eq_false hv1)
            have hva : ((v.toNat : Int) = 97) = True := (show ((v.toNat : Int) = 97) = (v = 97) from u8_k v 97 (by decide)).trans (eq_true hv2)
            by_cases ho1 : (p : Int) < done ∨ (p : Int) = put
            · have hal : alw v p k a.length done put = 121 := by rw [alw, if_neg hv1, if_pos ho1]
              rw [hal, if_pos (by decide)] at hgo; subst hgo
              simp at hz
            · by_cases ho2 : (a.length : Int) < p
              · have hal : alw v p k a.length done put = 2 := by rw [alw, if_neg hv1, if_neg ho1, if_pos ho2]
                rw [hal, if_pos (by decide)] at hgo; subst hgo
                simp at hz
              · have hal : alw v p k a.length done put = 0 := by rw [alw, if_neg hv1, if_neg ho1, if_neg ho2]
                simp only [not_or] at ho1
                obtain ⟨ho3, ho4⟩ := ho1
                rw [if_neg (fun h => h hal), if_neg hv1] at hgo
                obtain ⟨ha1, ha2⟩ := alw_ok hv hal
                obtain ⟨hd1, hd2⟩ := ha2 hv2
                have hs1 : (seg a done p).length = p - done := seg_len (by omega) (by omega)
                have hs1' := hs1
                unfold seg at hs1'
                by_cases hsh : (L.length : Int) - 1 - i < k
                · rw [if_pos hsh] at hgo; subst hgo
                  simp at hz
                · rw [if_neg hsh, Int.toNat_natCast, Int.toNat_natCast] at hgo
                  simp -dsimp -implicitDefEqProofs only [hi3, hnx, hrd, hvd, hva, ho2, ho3, ho4, hs1', CRdr, CMore, CNext, CCmd, CFail, CLns, nilS, strRows_len, strRows_sub, strRows_all, strRows_app, unStr_rows, UInt8.ofNat_toNat, Ev.St.giveC, ↓Ev.P, Ev.Q, Bool.cond_true, Bool.cond_false, eq_self, forall_eq_or_imp, implies_true, forall_const, forall_eq, ↓reduceIte, reduceIte, Nat.reduceEqDiff, Nat.reduceAdd, reduceCtorEq, Nat.reduceSub, Int.reduceToNat, Int.reduceLE, Int.reduceLT, Int.reduceNeg, Nat.reduceBEq, Nat.reduceMul, Nat.reduceLeDiff, Nat.reduceMod, UInt8.reduceOfNat, Nat.reduceLT, Int.reduceEq, Int.reduceAdd, Int.reduceSub, Int.reduceMul]
                  repeat' (first | with_reducible assumption | refine And.intro ?_ ?_ | intro _ | (rw [Ev.xStp_eq]; simp -dsimp -implicitDefEqProofs only [hi3, hnx, hrd, hvd, hva, ho2, ho3, ho4, hs1', CRdr, CMore, CNext, CCmd, CFail, CLns, nilS, strRows_len, strRows_sub, strRows_all, strRows_app, unStr_rows, UInt8.ofNat_toNat, Ev.St.giveC, ↓Ev.P, Ev.Q, Bool.cond_true, Bool.cond_false, eq_self, forall_eq_or_imp, implies_true, forall_const, forall_eq, ↓reduceIte, reduceIte, Nat.reduceEqDiff, Nat.reduceAdd, reduceCtorEq, Nat.reduceSub, Int.reduceToNat, Int.reduceLE, Int.reduceLT, Int.reduceNeg, Nat.reduceBEq, Nat.reduceMul, Nat.reduceLeDiff, Nat.reduceMod, UInt8.reduceOfNat, Nat.reduceLT, Int.reduceEq, Int.reduceAdd, Int.reduceSub, Int.reduceMul]))
                  all_goals try omega
                  refine xLoop_intro (fun n2 st => ∃ (j : Nat), j ≤ k ∧ n2 = k - j ∧ st = ⟨[(1, .d (.sl (strRows a))), (5, .ptr 0 0), (6, .ptr 1 0), (7, .own 2), (8, .d (.v (.int .i64 p))), (9, .d (.v (.int .i64 p))), (12, .d (.v (.int .i64 k))), (14, .d (.v (.int .i64 j)))], 3, [(0, .cells 29 [.d (.v (.int .i64 0)), .d (.v (.int .i64 0))]), (1, .cells 77 [.d (.sl (strRows L)), .d (.v (.int .i64 ((i + 1 + j : Nat) : Int))), .d (.v (.int .i64 0)), .d (.v (.int .i64 0))]), (2, .row 9 1 (strRows (out ++ seg a done p ++ seg L (i + 1) (i + 1 + j))))]⟩) k [0, 1, 3] ?_ ?_ ?_
                  · simp -dsimp -implicitDefEqProofs only [↓Ev.xStp_eq, ↓Ev.P, Ev.Q, Bool.cond_true, Bool.cond_false, eq_self, forall_eq_or_imp, implies_true, forall_const, forall_eq, ↓reduceIte, reduceIte, Nat.reduceEqDiff, Nat.reduceAdd, reduceCtorEq, Nat.reduceSub, Int.reduceToNat, Int.reduceLE, Int.reduceLT, Int.reduceNeg, Nat.reduceBEq, Nat.reduceMul, Nat.reduceLeDiff, Nat.reduceMod, UInt8.reduceOfNat, Nat.reduceLT, Int.reduceEq, Int.reduceAdd, Int.reduceSub, Int.reduceMul]
                  · simp -dsimp -implicitDefEqProofs only [↓Ev.xStp_eq, ↓Ev.P, Ev.Q, Bool.cond_true, Bool.cond_false, eq_self, forall_eq_or_imp, implies_true, forall_const, forall_eq, ↓reduceIte, reduceIte, Nat.reduceEqDiff, Nat.reduceAdd, reduceCtorEq, Nat.reduceSub, Int.reduceToNat, Int.reduceLE, Int.reduceLT, Int.reduceNeg, Nat.reduceBEq, Nat.reduceMul, Nat.reduceLeDiff, Nat.reduceMod, UInt8.reduceOfNat, Nat.reduceLT, Int.reduceEq, Int.reduceAdd, Int.reduceSub, Int.reduceMul]
                    refine ⟨0, by omega, by omega, ?_⟩
                    rw [show seg L (i + 1) (i + 1 + 0) = [] by unfold seg; rw [List.drop_eq_nil_of_le (by rw [List.length_take]; omega)], List.append_nil]
                    all_goals rfl
                  · rintro n2 st2 ⟨j, hj, rfl, rfl⟩
                    by_cases hjk : (j : Int) < k
                    · have hj4 : i + 1 + j < L.length := by omega
                      have hj5 : ¬ (L.length : Int) < ((i + 1 + j : Nat) : Int) + 1 := by omega
                      have hg := strRows_get hj4
                      have e6 : (((i + 1 + j : Nat) : Int) + 1 - 1).toNat = i + 1 + j := by omega
                      have hs2 : (seg L (i + 1) (i + 1 + j)).length = j := by rw [seg_len (by omega) (by omega)]; omega
                      simp -dsimp -implicitDefEqProofs only [hjk, hj5, hg, e6, hs1, hs2, List.length_append, CRdr, CMore, CNext, CCmd, CFail, CLns, nilS, strRows_len, strRows_sub, strRows_all, strRows_app, unStr_rows, UInt8.ofNat_toNat, Ev.St.giveC, ↓Ev.P, Ev.Q, Bool.cond_true, Bool.cond_false, eq_self, forall_eq_or_imp, implies_true, forall_const, forall_eq, ↓reduceIte, reduceIte, Nat.reduceEqDiff, Nat.reduceAdd, reduceCtorEq, Nat.reduceSub, Int.reduceToNat, Int.reduceLE, Int.reduceLT, Int.reduceNeg, Nat.reduceBEq, Nat.reduceMul, Nat.reduceLeDiff, Nat.reduceMod, UInt8.reduceOfNat, Nat.reduceLT, Int.reduceEq, Int.reduceAdd, Int.reduceSub, Int.reduceMul]
                      repeat' (first | with_reducible assumption | refine And.intro ?_ ?_ | intro _ | (rw [Ev.xStp_eq]; simp -dsimp -implicitDefEqProofs only [hjk, hj5, hg, e6, hs1, hs2, List.length_append, CRdr, CMore, CNext, CCmd, CFail, CLns, nilS, strRows_len, strRows_sub, strRows_all, strRows_app, unStr_rows, UInt8.ofNat_toNat, Ev.St.giveC, ↓Ev.P, Ev.Q, Bool.cond_true, Bool.cond_false, eq_self, forall_eq_or_imp, implies_true, forall_const, forall_eq, ↓reduceIte, reduceIte, Nat.reduceEqDiff, Nat.reduceAdd, reduceCtorEq, Nat.reduceSub, Int.reduceToNat, Int.reduceLE, Int.reduceLT, Int.reduceNeg, Nat.reduceBEq, Nat.reduceMul, Nat.reduceLeDiff, Nat.reduceMod, UInt8.reduceOfNat, Nat.reduceLT, Int.reduceEq, Int.reduceAdd, Int.reduceSub, Int.reduceMul]))
                      all_goals try omega
                      refine xAgain_intro (k - (j + 1)) [0, 1, 4] (by omega) (by simp -dsimp -implicitDefEqProofs only [↓Ev.xStp_eq, ↓Ev.P, Ev.Q, Bool.cond_true, Bool.cond_false, eq_self, forall_eq_or_imp, implies_true, forall_const, forall_eq, ↓reduceIte, reduceIte, Nat.reduceEqDiff, Nat.reduceAdd, reduceCtorEq, Nat.reduceSub, Int.reduceToNat, Int.reduceLE, Int.reduceLT, Int.reduceNeg, Nat.reduceBEq, Nat.reduceMul, Nat.reduceLeDiff, Nat.reduceMod, UInt8.reduceOfNat, Nat.reduceLT, Int.reduceEq, Int.reduceAdd, Int.reduceSub, Int.reduceMul]) ⟨j + 1, by omega, rfl, ?_⟩
                      rw [show i + 1 + (j + 1) = (i + 1 + j) + 1 by omega, seg_snoc (by omega) hj4, ← List.append_assoc, strRows_snoc]
                      simp -dsimp -implicitDefEqProofs only [↓Ev.xStp_eq, ↓Ev.P, Ev.Q, Bool.cond_true, Bool.cond_false, eq_self, forall_eq_or_imp, implies_true, forall_const, forall_eq, ↓reduceIte, reduceIte, Nat.reduceEqDiff, Nat.reduceAdd, reduceCtorEq, Nat.reduceSub, Int.reduceToNat, Int.reduceLE, Int.reduceLT, Int.reduceNeg, Nat.reduceBEq, Nat.reduceMul, Nat.reduceLeDiff, Nat.reduceMod, UInt8.reduceOfNat, Nat.reduceLT, Int.reduceEq, Int.reduceAdd, Int.reduceSub, Int.reduceMul]
                      all_goals rfl
                    · obtain rfl : j = k := by omega
                      have hs2 : (seg L (i + 1) (i + 1 + j)).length = j := by rw [seg_len (by omega) (by omega)]; omega
                      simp -dsimp -implicitDefEqProofs only [hjk, CRdr, CMore, CNext, CCmd, CFail, CLns, nilS, strRows_len, strRows_sub, strRows_all, strRows_app, unStr_rows, UInt8.ofNat_toNat, Ev.St.giveC, ↓Ev.P, Ev.Q, Bool.cond_true, Bool.cond_false, eq_self, forall_eq_or_imp, implies_true, forall_const, forall_eq, ↓reduceIte, reduceIte, Nat.reduceEqDiff, Nat.reduceAdd, reduceCtorEq, Nat.reduceSub, Int.reduceToNat, Int.reduceLE, Int.reduceLT, Int.reduceNeg, Nat.reduceBEq, Nat.reduceMul, Nat.reduceLeDiff, Nat.reduceMod, UInt8.reduceOfNat, Nat.reduceLT, Int.reduceEq, Int.reduceAdd, Int.reduceSub, Int.reduceMul]
                      repeat' (first | with_reducible assumption | refine And.intro ?_ ?_ | intro _ | (rw [Ev.xStp_eq]; simp -dsimp -implicitDefEqProofs only [hjk, CRdr, CMore, CNext, CCmd, CFail, CLns, nilS, strRows_len, strRows_sub, strRows_all, strRows_app, unStr_rows, UInt8.ofNat_toNat, Ev.St.giveC, ↓Ev.P, Ev.Q, Bool.cond_true, Bool.cond_false, eq_self, forall_eq_or_imp, implies_true, forall_const, forall_eq, ↓reduceIte, reduceIte, Nat.reduceEqDiff, Nat.reduceAdd, reduceCtorEq, Nat.reduceSub, Int.reduceToNat, Int.reduceLE, Int.reduceLT, Int.reduceNeg, Nat.reduceBEq, Nat.reduceMul, Nat.reduceLeDiff, Nat.reduceMod, UInt8.reduceOfNat, Nat.reduceLT, Int.reduceEq, Int.reduceAdd, Int.reduceSub, Int.reduceMul]))
                      all_goals try omega
                      refine xAgain_intro (L.length - (i + 1 + j) + 1) [0, 1, 2] (by omega) (by simp -dsimp -implicitDefEqProofs only [↓Ev.xStp_eq, ↓Ev.P, Ev.Q, Bool.cond_true, Bool.cond_false, eq_self, forall_eq_or_imp, implies_true, forall_const, forall_eq, ↓reduceIte, reduceIte, Nat.reduceEqDiff, Nat.reduceAdd, reduceCtorEq, Nat.reduceSub, Int.reduceToNat, Int.reduceLE, Int.reduceLT, Int.reduceNeg, Nat.reduceBEq, Nat.reduceMul, Nat.reduceLeDiff, Nat.reduceMod, UInt8.reduceOfNat, Nat.reduceLT, Int.reduceEq, Int.reduceAdd, Int.reduceSub, Int.reduceMul]) ⟨i + 1 + j, out ++ seg a done p ++ seg L (i + 1) (i + 1 + j), p, p, by omega, by omega, by omega, by rw [List.length_append, List.length_append, hs1, hs2]; omega, ?_, ⟨rfl, ?_, ?_⟩⟩
                      · intro x hx; rcases List.mem_append.1 hx with hx | hx
                        · rcases List.mem_append.1 hx with hx | hx
                          · exact ho x hx
                          · exact hA x (seg_mem hx)
                        · exact hL x (seg_mem hx)
                      · rw [show L.length - (i + 1 + j) = m - j by omega, Int.toNat_natCast]; exact hgo
                      · simp -dsimp -implicitDefEqProofs only [↓Ev.xStp_eq, ↓Ev.P, Ev.Q, Bool.cond_true, Bool.cond_false, eq_self, forall_eq_or_imp, implies_true, forall_const, forall_eq, ↓reduceIte, reduceIte, Nat.reduceEqDiff, Nat.reduceAdd, reduceCtorEq, Nat.reduceSub, Int.reduceToNat, Int.reduceLE, Int.reduceLT, Int.reduceNeg, Nat.reduceBEq, Nat.reduceMul, Nat.reduceLeDiff, Nat.reduceMod, UInt8.reduceOfNat, Nat.reduceLT, Int.reduceEq, Int.reduceAdd, Int.reduceSub, Int.reduceMul]
                        all_goals rfl
    · have _t := trivial
      have hi3 : ¬ (i : Int) < L.length := by omega
      rw [show L.length - i = 0 by omega, rcsGo, rcsEnd] at hgo
      obtain ⟨done, rfl⟩ := Int.eq_ofNat_of_zero_le hd0
      rw [Int.toNat_natCast] at hgo
      have hdl : done ≤ a.length := by omega
      have e4 : (a.take a.length).drop done = a.drop done := by rw [List.take_length]
      have hsl : (a.drop done).length = a.length - done := List.length_drop
      have hmem : ∀ x ∈ out ++ a.drop done, x.length ≤ 1099511627776 := by
        intro x hx; rcases List.mem_append.1 hx with hx | hx
        · exact ho x hx
        · exact hA x (List.mem_of_mem_drop hx)
      have hlen : (out ++ a.drop done).length ≤ 1099511627776 := by rw [List.length_append]; omega
      by_cases hok : okUp (out ++ a.drop done).length (out ++ a.drop done) = true
      · rw [if_pos hok] at hgo
        subst hgo
        simp -dsimp -implicitDefEqProofs only [hi3, e4, hok, CRdr, CMore, CNext, CCmd, CFail, CLns, nilS, strRows_len, strRows_sub, strRows_all, strRows_app, unStr_rows, UInt8.ofNat_toNat, Ev.St.giveC, ↓Ev.P, Ev.Q, Bool.cond_true, Bool.cond_false, eq_self, forall_eq_or_imp, implies_true, forall_const, forall_eq, ↓reduceIte, reduceIte, Nat.reduceEqDiff, Nat.reduceAdd, reduceCtorEq, Nat.reduceSub, Int.reduceToNat, Int.reduceLE, Int.reduceLT, Int.reduceNeg, Nat.reduceBEq, Nat.reduceMul, Nat.reduceLeDiff, Nat.reduceMod, UInt8.reduceOfNat, Nat.reduceLT, Int.reduceEq, Int.reduceAdd, Int.reduceSub, Int.reduceMul]
        repeat' (first | with_reducible assumption | refine And.intro ?_ ?_ | intro _ | (rw [Ev.xStp_eq]; simp -dsimp -implicitDefEqProofs only [hi3, e4, hok, CRdr, CMore, CNext, CCmd, CFail, CLns, nilS, strRows_len, strRows_sub, strRows_all, strRows_app, unStr_rows, UInt8.ofNat_toNat, Ev.St.giveC, ↓Ev.P, Ev.Q, Bool.cond_true, Bool.cond_false, eq_self, forall_eq_or_imp, implies_true, forall_const, forall_eq, ↓reduceIte, reduceIte, Nat.reduceEqDiff, Nat.reduceAdd, reduceCtorEq, Nat.reduceSub, Int.reduceToNat, Int.reduceLE, Int.reduceLT, Int.reduceNeg, Nat.reduceBEq, Nat.reduceMul, Nat.reduceLeDiff, Nat.reduceMod, UInt8.reduceOfNat, Nat.reduceLT, Int.reduceEq, Int.reduceAdd, Int.reduceSub, Int.reduceMul]))
        all_goals try omega
        all_goals first | exact hk | exact hmem | exact hlen
      · rw [if_neg hok] at hgo
        subst hgo; simp at hz
set_option maxHeartbeats 32000000 in
theorem refE {s : List UInt8} {a L : List (List UInt8)} {Y : Ans} {K : Out → Store → Prop} (h4 : s.length ≤ 1048576) (ha : a.length ≤ 1073741824) (hA : ∀ x ∈ a, x.length ≤ 1099511627776) (hLs : lns s = L) (hLl : L.length ≤ 1048576) (hL : ∀ x ∈ L, x.length ≤ 1099511627776) (hY : rcsGo L a L.length 0 [] 0 (-1) = Y) (hz : ¬ Y.2.2 = 0) (hk : K (.ret (.tup [.d (.sl []), .agg [.d (.v (.int .i64 Y.2.1)), .d (.v (.int .i64 Y.2.2))]])) ⟨0, []⟩) :
  xv (tabT refTab) 0 S12 (st0 [.d (.v (.string ⟨s.toArray⟩)), .d (.sl (strRows a))] ⟨0, []⟩) (retK R12 0 [] K) (panK 0 [] K) := by
  have h5 : ¬ (1048576 : Int) < (s.length : Int) := by omega
  have h4' : ¬ 1048576 < s.length := by omega
  simp -dsimp -implicitDefEqProofs only [S12, S12_0, S12r1, S12_1, S12r2, S12_2, S12r3, S12_3, S12r4, S12_4, S12r5, S12_5, S12r6, S12_6, S12r7, S12_7, S12r8, S12_8, S12r9, S12_9, S12r10, R12, CRdr, h5, h4', hLs, ↓Ev.xStp_eq, ↓Ev.P, Ev.Q, Bool.cond_true, Bool.cond_false, eq_self, forall_eq_or_imp, implies_true, forall_const, forall_eq, ↓reduceIte, reduceIte, Nat.reduceEqDiff, Nat.reduceAdd, reduceCtorEq, Nat.reduceSub, Int.reduceToNat, Int.reduceLE, Int.reduceLT, Int.reduceNeg, Nat.reduceBEq, Nat.reduceMul, Nat.reduceLeDiff, Nat.reduceMod, UInt8.reduceOfNat, Nat.reduceLT, Int.reduceEq, Int.reduceAdd, Int.reduceSub, Int.reduceMul]
  repeat' (first | with_reducible assumption | refine And.intro ?_ ?_ | intro _)
  all_goals try omega
  refine xLoop_intro (fun n st => ∃ (i : Nat) (out : List (List UInt8)) (done put : Int), i ≤ L.length ∧ 0 ≤ done ∧ done ≤ a.length ∧ (out.length : Int) ≤ done + i ∧ (∀ x ∈ out, x.length ≤ 1099511627776) ∧
      ((n = L.length - i + 1 ∧ rcsGo L a (L.length - i) i out done.toNat put = Y ∧ st = ⟨[(1, .d (.sl (strRows a))), (5, .ptr 0 0), (6, .ptr 1 0), (7, .own 2), (8, .d (.v (.int .i64 done))), (9, .d (.v (.int .i64 put)))], 3, [(0, .cells 29 [.d (.v (.int .i64 0)), .d (.v (.int .i64 0))]), (1, .cells 77 [.d (.sl (strRows L)), .d (.v (.int .i64 i)), .d (.v (.int .i64 0)), .d (.v (.int .i64 0))]), (2, .row 9 1 (strRows out))]⟩) ∨ (n = 0 ∧ ∃ (at_ fa fe : Int) (o3 : List (List UInt8)), ¬ fe = 0 ∧ Y = ([], fa, fe) ∧ st = ⟨[(1, .d (.sl (strRows a))), (5, .ptr 0 0), (6, .ptr 1 0), (7, .own 2), (8, .d (.v (.int .i64 done))), (9, .d (.v (.int .i64 put)))], 3, [(0, .cells 29 [.d (.v (.int .i64 0)), .d (.v (.int .i64 0))]), (1, .cells 77 [.d (.sl (strRows L)), .d (.v (.int .i64 at_)), .d (.v (.int .i64 fa)), .d (.v (.int .i64 fe))]), (2, .row 9 1 (strRows o3))]⟩))) (L.length + 1) [0, 1, 2] ?_ ?_ ?_
  · simp -dsimp -implicitDefEqProofs only [↓Ev.xStp_eq, ↓Ev.P, Ev.Q, Bool.cond_true, Bool.cond_false, eq_self, forall_eq_or_imp, implies_true, forall_const, forall_eq, ↓reduceIte, reduceIte, Nat.reduceEqDiff, Nat.reduceAdd, reduceCtorEq, Nat.reduceSub, Int.reduceToNat, Int.reduceLE, Int.reduceLT, Int.reduceNeg, Nat.reduceBEq, Nat.reduceMul, Nat.reduceLeDiff, Nat.reduceMod, UInt8.reduceOfNat, Nat.reduceLT, Int.reduceEq, Int.reduceAdd, Int.reduceSub, Int.reduceMul]
  · simp -dsimp -implicitDefEqProofs only [↓Ev.xStp_eq, ↓Ev.P, Ev.Q, Bool.cond_true, Bool.cond_false, eq_self, forall_eq_or_imp, implies_true, forall_const, forall_eq, ↓reduceIte, reduceIte, Nat.reduceEqDiff, Nat.reduceAdd, reduceCtorEq, Nat.reduceSub, Int.reduceToNat, Int.reduceLE, Int.reduceLT, Int.reduceNeg, Nat.reduceBEq, Nat.reduceMul, Nat.reduceLeDiff, Nat.reduceMod, UInt8.reduceOfNat, Nat.reduceLT, Int.reduceEq, Int.reduceAdd, Int.reduceSub, Int.reduceMul]
    exact ⟨0, [], 0, -1, by omega, by omega, by omega, by simp, by simp, .inl ⟨rfl, hY, rfl⟩⟩
  · rintro n st ⟨i, out, done, put, hi, hd0, hd3, hol, ho, ⟨rfl, hgo, rfl⟩ | ⟨rfl, at_, fa, fe, o3, hfe, rfl, rfl⟩⟩
    · have _t := trivial
      by_cases hil : i < L.length
      · have _t := trivial
        have hi3 : (i : Int) < L.length := by omega
        have hsz := hL _ (getD_in hil)
        obtain ⟨m, hm⟩ : ∃ m, L.length - i = m + 1 := ⟨L.length - i - 1, by omega⟩
        rw [hm, rcsGo] at hgo
        have hx1 := nx_ok (fa := 0) hil
        have hx2 := nx_bad (fa := 0) hil
        have hcd : cmdOf (L.getD i []) = if (bareS (L.getD i [])).2 = true then rcmd parseS (bareS (L.getD i [])).1 else none := rfl
        have hbl : (bareS (L.getD i [])).1.length ≤ (L.getD i []).length := by unfold bareS; split <;> simp
        have hbd : ∀ v p k, cmdOf (L.getD i []) = some (v, p, k) → _ := fun v p k h => cmd_bd h
        generalize L.getD i [] = s at hsz hgo hx1 hx2 hcd hbl hbd
        obtain ⟨done, rfl⟩ := Int.eq_ofNat_of_zero_le hd0
        rw [Int.toNat_natCast] at hgo
        cases hb : (bareS s).2 with
        | false =>
          rw [if_neg (by rw [hb]; decide)] at hcd
          rw [hcd] at hgo; dsimp only at hgo; subst hgo
          have hnx := hx2 hb
          have hc0 : cmC [] = ((0, 0, 0), false) := rfl
          simp -dsimp -implicitDefEqProofs only [hi3, hnx, hc0, CRdr, CMore, CNext, CCmd, CFail, CLns, nilS, strRows_len, strRows_sub, strRows_all, strRows_app, unStr_rows, UInt8.ofNat_toNat, Ev.St.giveC, ↓Ev.P, Ev.Q, Bool.cond_true, Bool.cond_false, eq_self, forall_eq_or_imp, implies_true, forall_const, forall_eq, ↓reduceIte, reduceIte, Nat.reduceEqDiff, Nat.reduceAdd, reduceCtorEq, Nat.reduceSub, Int.reduceToNat, Int.reduceLE, Int.reduceLT, Int.reduceNeg, Nat.reduceBEq, Nat.reduceMul, Nat.reduceLeDiff, Nat.reduceMod, UInt8.reduceOfNat, Nat.reduceLT, Int.reduceEq, Int.reduceAdd, Int.reduceSub, Int.reduceMul]
          repeat' (first | with_reducible assumption | refine And.intro ?_ ?_ | intro _ | (rw [Ev.xStp_eq]; simp -dsimp -implicitDefEqProofs only [hi3, hnx, hc0, CRdr, CMore, CNext, CCmd, CFail, CLns, nilS, strRows_len, strRows_sub, strRows_all, strRows_app, unStr_rows, UInt8.ofNat_toNat, Ev.St.giveC, ↓Ev.P, Ev.Q, Bool.cond_true, Bool.cond_false, eq_self, forall_eq_or_imp, implies_true, forall_const, forall_eq, ↓reduceIte, reduceIte, Nat.reduceEqDiff, Nat.reduceAdd, reduceCtorEq, Nat.reduceSub, Int.reduceToNat, Int.reduceLE, Int.reduceLT, Int.reduceNeg, Nat.reduceBEq, Nat.reduceMul, Nat.reduceLeDiff, Nat.reduceMod, UInt8.reduceOfNat, Nat.reduceLT, Int.reduceEq, Int.reduceAdd, Int.reduceSub, Int.reduceMul]))
          all_goals try omega
          all_goals exact hk
        | true =>
          rw [if_pos hb] at hcd
          have hnx := hx1 hb
          generalize (bareS s).1 = t at hcd hnx hbl
          have ht : t.length ≤ 1099511627776 := by omega
          obtain ⟨hr1, hr2⟩ := cmC_cmd t
          cases hc : cmdOf s with
          | none =>
            rw [hc] at hgo; dsimp only at hgo; subst hgo
            have hrd := hr2 (hcd.symm.trans hc)
            simp -dsimp -implicitDefEqProofs only [hi3, hnx, hrd, CRdr, CMore, CNext, CCmd, CFail, CLns, nilS, strRows_len, strRows_sub, strRows_all, strRows_app, unStr_rows, UInt8.ofNat_toNat, Ev.St.giveC, ↓Ev.P, Ev.Q, Bool.cond_true, Bool.cond_false, eq_self, forall_eq_or_imp, implies_true, forall_const, forall_eq, ↓reduceIte, reduceIte, Nat.reduceEqDiff, Nat.reduceAdd, reduceCtorEq, Nat.reduceSub, Int.reduceToNat, Int.reduceLE, Int.reduceLT, Int.reduceNeg, Nat.reduceBEq, Nat.reduceMul, Nat.reduceLeDiff, Nat.reduceMod, UInt8.reduceOfNat, Nat.reduceLT, Int.reduceEq, Int.reduceAdd, Int.reduceSub, Int.reduceMul]
            repeat' (first | with_reducible assumption | refine And.intro ?_ ?_ | intro _ | (rw [Ev.xStp_eq]; simp -dsimp -implicitDefEqProofs only [hi3, hnx, hrd, CRdr, CMore, CNext, CCmd, CFail, CLns, nilS, strRows_len, strRows_sub, strRows_all, strRows_app, unStr_rows, UInt8.ofNat_toNat, Ev.St.giveC, ↓Ev.P, Ev.Q, Bool.cond_true, Bool.cond_false, eq_self, forall_eq_or_imp, implies_true, forall_const, forall_eq, ↓reduceIte, reduceIte, Nat.reduceEqDiff, Nat.reduceAdd, reduceCtorEq, Nat.reduceSub, Int.reduceToNat, Int.reduceLE, Int.reduceLT, Int.reduceNeg, Nat.reduceBEq, Nat.reduceMul, Nat.reduceLeDiff, Nat.reduceMod, UInt8.reduceOfNat, Nat.reduceLT, Int.reduceEq, Int.reduceAdd, Int.reduceSub, Int.reduceMul]))
            all_goals try omega
            refine xAgain_intro 0 [0, 1, 2] (by omega) (by simp -dsimp -implicitDefEqProofs only [↓Ev.xStp_eq, ↓Ev.P, Ev.Q, Bool.cond_true, Bool.cond_false, eq_self, forall_eq_or_imp, implies_true, forall_const, forall_eq, ↓reduceIte, reduceIte, Nat.reduceEqDiff, Nat.reduceAdd, reduceCtorEq, Nat.reduceSub, Int.reduceToNat, Int.reduceLE, Int.reduceLT, Int.reduceNeg, Nat.reduceBEq, Nat.reduceMul, Nat.reduceLeDiff, Nat.reduceMod, UInt8.reduceOfNat, Nat.reduceLT, Int.reduceEq, Int.reduceAdd, Int.reduceSub, Int.reduceMul]) ⟨i, out, done, put, by omega, hd0, hd3, hol, ho, .inr ⟨rfl, (i : Int) + 1, (i : Int) + 1, 3, out, by decide, rfl, ?_⟩⟩
            simp -dsimp -implicitDefEqProofs only [↓Ev.xStp_eq, ↓Ev.P, Ev.Q, Bool.cond_true, Bool.cond_false, eq_self, forall_eq_or_imp, implies_true, forall_const, forall_eq, ↓reduceIte, reduceIte, Nat.reduceEqDiff, Nat.reduceAdd, reduceCtorEq, Nat.reduceSub, Int.reduceToNat, Int.reduceLE, Int.reduceLT, Int.reduceNeg, Nat.reduceBEq, Nat.reduceMul, Nat.reduceLeDiff, Nat.reduceMod, UInt8.reduceOfNat, Nat.reduceLT, Int.reduceEq, Int.reduceAdd, Int.reduceSub, Int.reduceMul]
            all_goals rfl
          | some c =>
            obtain ⟨v, p, k⟩ := c
            have hrd := hr1 _ (hcd.symm.trans hc)
            rw [hc] at hgo
            obtain ⟨hv, p0, p1, k0, k1, vp⟩ := hbd _ _ _ hc
            clear hr1 hr2 hbd hcd hc hx1 hx2
            dsimp only at hgo
            obtain ⟨p, rfl⟩ := Int.eq_ofNat_of_zero_le p0
            obtain ⟨k, rfl⟩ := Int.eq_ofNat_of_zero_le (Int.le_of_lt k0)
            by_cases hv1 : v = 100
            · have hvd : ((v.toNat : Int) = 100) = True := (show ((v.toNat : Int) = 100) = (v = 100) from u8_k v 100 (by decide)).trans (eq_true hv1)
              have hva : ((v.toNat : Int) = 97) = False := (show ((v.toNat : Int) = 97) = (v = 97) from u8_k v 97 (by decide)).trans (eq_false (by rw [hv1]; decide))
              have hp0 := vp hv1
              have e5 : ((p : Int) - 1).toNat = p - 1 := by omega
              by_cases ho1 : (p : Int) - 1 < max (done : Int) put
              · have hal : alw v p k a.length done put = 121 := by rw [alw, if_pos hv1, if_pos ho1]
                rw [hal, if_pos (by decide)] at hgo; subst hgo
                simp -dsimp -implicitDefEqProofs only [hi3, hnx, hrd, hvd, hva, ho1, CRdr, CMore, CNext, CCmd, CFail, CLns, nilS, strRows_len, strRows_sub, strRows_all, strRows_app, unStr_rows, UInt8.ofNat_toNat, Ev.St.giveC, ↓Ev.P, Ev.Q, Bool.cond_true, Bool.cond_false, eq_self, forall_eq_or_imp, implies_true, forall_const, forall_eq, ↓reduceIte, reduceIte, Nat.reduceEqDiff, Nat.reduceAdd, reduceCtorEq, Nat.reduceSub, Int.reduceToNat, Int.reduceLE, Int.reduceLT, Int.reduceNeg, Nat.reduceBEq, Nat.reduceMul, Nat.reduceLeDiff, Nat.reduceMod, UInt8.reduceOfNat, Nat.reduceLT, Int.reduceEq, Int.reduceAdd, Int.reduceSub, Int.reduceMul]
                repeat' (first | with_reducible assumption | refine And.intro ?_ ?_ | intro _ | (rw [Ev.xStp_eq]; simp -dsimp -implicitDefEqProofs only [hi3, hnx, hrd, hvd, hva, ho1, CRdr, CMore, CNext, CCmd, CFail, CLns, nilS, strRows_len, strRows_sub, strRows_all, strRows_app, unStr_rows, UInt8.ofNat_toNat, Ev.St.giveC, ↓Ev.P, Ev.Q, Bool.cond_true, Bool.cond_false, eq_self, forall_eq_or_imp, implies_true, forall_const, forall_eq, ↓reduceIte, reduceIte, Nat.reduceEqDiff, Nat.reduceAdd, reduceCtorEq, Nat.reduceSub, Int.reduceToNat, Int.reduceLE, Int.reduceLT, Int.reduceNeg, Nat.reduceBEq, Nat.reduceMul, Nat.reduceLeDiff, Nat.reduceMod, UInt8.reduceOfNat, Nat.reduceLT, Int.reduceEq, Int.reduceAdd, Int.reduceSub, Int.reduceMul]))
                all_goals try omega
                refine xAgain_intro 0 [0, 1, 2] (by omega) (by simp -dsimp -implicitDefEqProofs only [↓Ev.xStp_eq, ↓Ev.P, Ev.Q, Bool.cond_true, Bool.cond_false, eq_self, forall_eq_or_imp, implies_true, forall_const, forall_eq, ↓reduceIte, reduceIte, Nat.reduceEqDiff, Nat.reduceAdd, reduceCtorEq, Nat.reduceSub, Int.reduceToNat, Int.reduceLE, Int.reduceLT, Int.reduceNeg, Nat.reduceBEq, Nat.reduceMul, Nat.reduceLeDiff, Nat.reduceMod, UInt8.reduceOfNat, Nat.reduceLT, Int.reduceEq, Int.reduceAdd, Int.reduceSub, Int.reduceMul]) ⟨i, out, done, put, by omega, hd0, hd3, hol, ho, .inr ⟨rfl, (i : Int) + 1, (i : Int) + 1, 121, out, by decide, rfl, ?_⟩⟩
                simp -dsimp -implicitDefEqProofs only [↓Ev.xStp_eq, ↓Ev.P, Ev.Q, Bool.cond_true, Bool.cond_false, eq_self, forall_eq_or_imp, implies_true, forall_const, forall_eq, ↓reduceIte, reduceIte, Nat.reduceEqDiff, Nat.reduceAdd, reduceCtorEq, Nat.reduceSub, Int.reduceToNat, Int.reduceLE, Int.reduceLT, Int.reduceNeg, Nat.reduceBEq, Nat.reduceMul, Nat.reduceLeDiff, Nat.reduceMod, UInt8.reduceOfNat, Nat.reduceLT, Int.reduceEq, Int.reduceAdd, Int.reduceSub, Int.reduceMul]
                all_goals rfl
              · by_cases ho2 : (a.length : Int) < p ∨ (a.length : Int) - p + 1 < k
                · have hal : alw v p k a.length done put = 2 := by rw [alw, if_pos hv1, if_neg ho1, if_pos ho2]
                  rw [hal, if_pos (by decide)] at hgo; subst hgo
                  by_cases ho3 : (a.length : Int) < p
                  · have _t := trivial
                    simp -dsimp -implicitDefEqProofs only [hi3, hnx, hrd, hvd, hva, ho1, ho3, CRdr, CMore, CNext, CCmd, CFail, CLns, nilS, strRows_len, strRows_sub, strRows_all, strRows_app, unStr_rows, UInt8.ofNat_toNat, Ev.St.giveC, ↓Ev.P, Ev.Q, Bool.cond_true, Bool.cond_false, eq_self, forall_eq_or_imp, implies_true, forall_const, forall_eq, ↓reduceIte, reduceIte, Nat.reduceEqDiff, Nat.reduceAdd, reduceCtorEq, Nat.reduceSub, Int.reduceToNat, Int.reduceLE, Int.reduceLT, Int.reduceNeg, Nat.reduceBEq, Nat.reduceMul, Nat.reduceLeDiff, Nat.reduceMod, UInt8.reduceOfNat, Nat.reduceLT, Int.reduceEq, Int.reduceAdd, Int.reduceSub, Int.reduceMul]
                    repeat' (first | with_reducible assumption | refine And.intro ?_ ?_ | intro _ | (rw [Ev.xStp_eq]; simp -dsimp -implicitDefEqProofs only [hi3, hnx, hrd, hvd, hva, ho1, ho3, CRdr, CMore, CNext, CCmd, CFail, CLns, nilS, strRows_len, strRows_sub, strRows_all, strRows_app, unStr_rows, UInt8.ofNat_toNat, Ev.St.giveC, ↓Ev.P, Ev.Q, Bool.cond_true, Bool.cond_false, eq_self, forall_eq_or_imp, implies_true, forall_const, forall_eq, ↓reduceIte, reduceIte, Nat.reduceEqDiff, Nat.reduceAdd, reduceCtorEq, Nat.reduceSub, Int.reduceToNat, Int.reduceLE, Int.reduceLT, Int.reduceNeg, Nat.reduceBEq, Nat.reduceMul, Nat.reduceLeDiff, Nat.reduceMod, UInt8.reduceOfNat, Nat.reduceLT, Int.reduceEq, Int.reduceAdd, Int.reduceSub, Int.reduceMul]))
                    all_goals try omega
                    refine xAgain_intro 0 [0, 1, 2] (by omega) (by simp -dsimp -implicitDefEqProofs only [↓Ev.xStp_eq, ↓Ev.P, Ev.Q, Bool.cond_true, Bool.cond_false, eq_self, forall_eq_or_imp, implies_true, forall_const, forall_eq, ↓reduceIte, reduceIte, Nat.reduceEqDiff, Nat.reduceAdd, reduceCtorEq, Nat.reduceSub, Int.reduceToNat, Int.reduceLE, Int.reduceLT, Int.reduceNeg, Nat.reduceBEq, Nat.reduceMul, Nat.reduceLeDiff, Nat.reduceMod, UInt8.reduceOfNat, Nat.reduceLT, Int.reduceEq, Int.reduceAdd, Int.reduceSub, Int.reduceMul]) ⟨i, out, done, put, by omega, hd0, hd3, hol, ho, .inr ⟨rfl, (i : Int) + 1, (i : Int) + 1, 2, out, by decide, rfl, ?_⟩⟩
                    simp -dsimp -implicitDefEqProofs only [↓Ev.xStp_eq, ↓Ev.P, Ev.Q, Bool.cond_true, Bool.cond_false, eq_self, forall_eq_or_imp, implies_true, forall_const, forall_eq, ↓reduceIte, reduceIte, Nat.reduceEqDiff, Nat.reduceAdd, reduceCtorEq, Nat.reduceSub, Int.reduceToNat, Int.reduceLE, Int.reduceLT, Int.reduceNeg, Nat.reduceBEq, Nat.reduceMul, Nat.reduceLeDiff, Nat.reduceMod, UInt8.reduceOfNat, Nat.reduceLT, Int.reduceEq, Int.reduceAdd, Int.reduceSub, Int.reduceMul]
                    all_goals rfl
                  · have ho4 : (a.length : Int) - p + 1 < k := ho2.resolve_left ho3
                    simp -dsimp -implicitDefEqProofs only [hi3, hnx, hrd, hvd, hva, ho1, ho3, ho4, CRdr, CMore, CNext, CCmd, CFail, CLns, nilS, strRows_len, strRows_sub, strRows_all, strRows_app, unStr_rows, UInt8.ofNat_toNat, Ev.St.giveC, ↓Ev.P, Ev.Q, Bool.cond_true, Bool.cond_false, eq_self, forall_eq_or_imp, implies_true, forall_const, forall_eq, ↓reduceIte, reduceIte, Nat.reduceEqDiff, Nat.reduceAdd, reduceCtorEq, Nat.reduceSub, Int.reduceToNat, Int.reduceLE, Int.reduceLT, Int.reduceNeg, Nat.reduceBEq, Nat.reduceMul, Nat.reduceLeDiff, Nat.reduceMod, UInt8.reduceOfNat, Nat.reduceLT, Int.reduceEq, Int.reduceAdd, Int.reduceSub, Int.reduceMul]
                    repeat' (first | with_reducible assumption | refine And.intro ?_ ?_ | intro _ | (rw [Ev.xStp_eq]; simp -dsimp -implicitDefEqProofs only [hi3, hnx, hrd, hvd, hva, ho1, ho3, ho4, CRdr, CMore, CNext, CCmd, CFail, CLns, nilS, strRows_len, strRows_sub, strRows_all, strRows_app, unStr_rows, UInt8.ofNat_toNat, Ev.St.giveC, ↓Ev.P, Ev.Q, Bool.cond_true, Bool.cond_false, eq_self, forall_eq_or_imp, implies_true, forall_const, forall_eq, ↓reduceIte, reduceIte, Nat.reduceEqDiff, Nat.reduceAdd, reduceCtorEq, Nat.reduceSub, Int.reduceToNat, Int.reduceLE, Int.reduceLT, Int.reduceNeg, Nat.reduceBEq, Nat.reduceMul, Nat.reduceLeDiff, Nat.reduceMod, UInt8.reduceOfNat, Nat.reduceLT, Int.reduceEq, Int.reduceAdd, Int.reduceSub, Int.reduceMul]))
                    all_goals try omega
                    refine xAgain_intro 0 [0, 1, 2] (by omega) (by simp -dsimp -implicitDefEqProofs only [↓Ev.xStp_eq, ↓Ev.P, Ev.Q, Bool.cond_true, Bool.cond_false, eq_self, forall_eq_or_imp, implies_true, forall_const, forall_eq, ↓reduceIte, reduceIte, Nat.reduceEqDiff, Nat.reduceAdd, reduceCtorEq, Nat.reduceSub, Int.reduceToNat, Int.reduceLE, Int.reduceLT, Int.reduceNeg, Nat.reduceBEq, Nat.reduceMul, Nat.reduceLeDiff, Nat.reduceMod, UInt8.reduceOfNat, Nat.reduceLT, Int.reduceEq, Int.reduceAdd, Int.reduceSub, Int.reduceMul]) ⟨i, out, done, put, by omega, hd0, hd3, hol, ho, .inr ⟨rfl, (i : Int) + 1, (i : Int) + 1, 2, out, by decide, rfl, ?_⟩⟩
                    simp -dsimp -implicitDefEqProofs only [↓Ev.xStp_eq, ↓Ev.P, Ev.Q, Bool.cond_true, Bool.cond_false, eq_self, forall_eq_or_imp, implies_true, forall_const, forall_eq, ↓reduceIte, reduceIte, Nat.reduceEqDiff, Nat.reduceAdd, reduceCtorEq, Nat.reduceSub, Int.reduceToNat, Int.reduceLE, Int.reduceLT, Int.reduceNeg, Nat.reduceBEq, Nat.reduceMul, Nat.reduceLeDiff, Nat.reduceMod, UInt8.reduceOfNat, Nat.reduceLT, Int.reduceEq, Int.reduceAdd, Int.reduceSub, Int.reduceMul]
                    all_goals rfl
                · have hal : alw v p k a.length done put = 0 := by rw [alw, if_pos hv1, if_neg ho1, if_neg ho2]
                  simp only [not_or] at ho2
                  obtain ⟨ho3, ho4⟩ := ho2
                  rw [if_neg (fun h => h hal), if_pos hv1, e5] at hgo
                  obtain ⟨ha1, ha2⟩ := alw_ok hv hal
                  obtain ⟨hd1, hd2⟩ := ha1 hv1
                  have hsl : (seg a done (p - 1)).length ≤ p := by rw [seg_len (by omega) (by omega)]; omega
                  unfold seg at hsl
                  simp -dsimp -implicitDefEqProofs only [hi3, hnx, hrd, hvd, hva, ho1, ho3, ho4, e5, CRdr, CMore, CNext, CCmd, CFail, CLns, nilS, strRows_len, strRows_sub, strRows_all, strRows_app, unStr_rows, UInt8.ofNat_toNat, Ev.St.giveC, ↓Ev.P, Ev.Q, Bool.cond_true, Bool.cond_false, eq_self, forall_eq_or_imp, implies_true, forall_const, forall_eq, ↓reduceIte, reduceIte, Nat.reduceEqDiff, Nat.reduceAdd, reduceCtorEq, Nat.reduceSub, Int.reduceToNat, Int.reduceLE, Int.reduceLT, Int.reduceNeg, Nat.reduceBEq, Nat.reduceMul, Nat.reduceLeDiff, Nat.reduceMod, UInt8.reduceOfNat, Nat.reduceLT, Int.reduceEq, Int.reduceAdd, Int.reduceSub, Int.reduceMul]
                  repeat' (first | with_reducible assumption | refine And.intro ?_ ?_ | intro _ | (rw [Ev.xStp_eq]; simp -dsimp -implicitDefEqProofs only [hi3, hnx, hrd, hvd, hva, ho1, ho3, ho4, e5, CRdr, CMore, CNext, CCmd, CFail, CLns, nilS, strRows_len, strRows_sub, strRows_all, strRows_app, unStr_rows, UInt8.ofNat_toNat, Ev.St.giveC, ↓Ev.P, Ev.Q, Bool.cond_true, Bool.cond_false, eq_self, forall_eq_or_imp, implies_true, forall_const, forall_eq, ↓reduceIte, reduceIte, Nat.reduceEqDiff, Nat.reduceAdd, reduceCtorEq, Nat.reduceSub, Int.reduceToNat, Int.reduceLE, Int.reduceLT, Int.reduceNeg, Nat.reduceBEq, Nat.reduceMul, Nat.reduceLeDiff, Nat.reduceMod, UInt8.reduceOfNat, Nat.reduceLT, Int.reduceEq, Int.reduceAdd, Int.reduceSub, Int.reduceMul]))
                  all_goals try omega
                  refine xAgain_intro (L.length - (i + 1) + 1) [0, 1, 3] (by omega) (by simp -dsimp -implicitDefEqProofs only [↓Ev.xStp_eq, ↓Ev.P, Ev.Q, Bool.cond_true, Bool.cond_false, eq_self, forall_eq_or_imp, implies_true, forall_const, forall_eq, ↓reduceIte, reduceIte, Nat.reduceEqDiff, Nat.reduceAdd, reduceCtorEq, Nat.reduceSub, Int.reduceToNat, Int.reduceLE, Int.reduceLT, Int.reduceNeg, Nat.reduceBEq, Nat.reduceMul, Nat.reduceLeDiff, Nat.reduceMod, UInt8.reduceOfNat, Nat.reduceLT, Int.reduceEq, Int.reduceAdd, Int.reduceSub, Int.reduceMul]) ⟨i + 1, out ++ seg a done (p - 1), (p : Int) - 1 + k, put, by omega, by omega, by omega, by rw [List.length_append, seg_len (by omega) (by omega)]; omega, ?_, .inl ⟨rfl, ?_, ?_⟩⟩
                  · intro x hx; rcases List.mem_append.1 hx with hx | hx
                    · exact ho x hx
                    · exact hA x (seg_mem hx)
                  · rw [show L.length - (i + 1) = m by omega]; exact hgo
                  · simp -dsimp -implicitDefEqProofs only [↓Ev.xStp_eq, ↓Ev.P, Ev.Q, Bool.cond_true, Bool.cond_false, eq_self, forall_eq_or_imp, implies_true, forall_const, forall_eq, ↓reduceIte, reduceIte, Nat.reduceEqDiff, Nat.reduceAdd, reduceCtorEq, Nat.reduceSub, Int.reduceToNat, Int.reduceLE, Int.reduceLT, Int.reduceNeg, Nat.reduceBEq, Nat.reduceMul, Nat.reduceLeDiff, Nat.reduceMod, UInt8.reduceOfNat, Nat.reduceLT, Int.reduceEq, Int.reduceAdd, Int.reduceSub, Int.reduceMul]
                    all_goals rfl
            · have hv2 : v = 97 := hv.resolve_right hv1
              have hvd : ((v.toNat : Int) = 100) = False := (show ((v.toNat : Int) = 100) = (v = 100) from u8_k v 100 (by decide)).trans (eq_false hv1)
              have hva : ((v.toNat : Int) = 97) = True := (show ((v.toNat : Int) = 97) = (v = 97) from u8_k v 97 (by decide)).trans (eq_true hv2)
              by_cases ho1 : (p : Int) < done ∨ (p : Int) = put
              · have hal : alw v p k a.length done put = 121 := by rw [alw, if_neg hv1, if_pos ho1]
                rw [hal, if_pos (by decide)] at hgo; subst hgo
                by_cases ho3 : (p : Int) < done
                · have _t := trivial
                  simp -dsimp -implicitDefEqProofs only [hi3, hnx, hrd, hvd, hva, ho3, CRdr, CMore, CNext, CCmd, CFail, CLns, nilS, strRows_len, strRows_sub, strRows_all, strRows_app, unStr_rows, UInt8.ofNat_toNat, Ev.St.giveC, ↓Ev.P, Ev.Q, Bool.cond_true, Bool.cond_false, eq_self, forall_eq_or_imp, implies_true, forall_const, forall_eq, ↓reduceIte, reduceIte, Nat.reduceEqDiff, Nat.reduceAdd, reduceCtorEq, Nat.reduceSub, Int.reduceToNat, Int.reduceLE, Int.reduceLT, Int.reduceNeg, Nat.reduceBEq, Nat.reduceMul, Nat.reduceLeDiff, Nat.reduceMod, UInt8.reduceOfNat, Nat.reduceLT, Int.reduceEq, Int.reduceAdd, Int.reduceSub, Int.reduceMul]
                  repeat' (first | with_reducible assumption | refine And.intro ?_ ?_ | intro _ | (rw [Ev.xStp_eq]; simp -dsimp -implicitDefEqProofs only [hi3, hnx, hrd, hvd, hva, ho3, CRdr, CMore, CNext, CCmd, CFail, CLns, nilS, strRows_len, strRows_sub, strRows_all, strRows_app, unStr_rows, UInt8.ofNat_toNat, Ev.St.giveC, ↓Ev.P, Ev.Q, Bool.cond_true, Bool.cond_false, eq_self, forall_eq_or_imp, implies_true, forall_const, forall_eq, ↓reduceIte, reduceIte, Nat.reduceEqDiff, Nat.reduceAdd, reduceCtorEq, Nat.reduceSub, Int.reduceToNat, Int.reduceLE, Int.reduceLT, Int.reduceNeg, Nat.reduceBEq, Nat.reduceMul, Nat.reduceLeDiff, Nat.reduceMod, UInt8.reduceOfNat, Nat.reduceLT, Int.reduceEq, Int.reduceAdd, Int.reduceSub, Int.reduceMul]))
                  all_goals try omega
                  refine xAgain_intro 0 [0, 1, 2] (by omega) (by simp -dsimp -implicitDefEqProofs only [↓Ev.xStp_eq, ↓Ev.P, Ev.Q, Bool.cond_true, Bool.cond_false, eq_self, forall_eq_or_imp, implies_true, forall_const, forall_eq, ↓reduceIte, reduceIte, Nat.reduceEqDiff, Nat.reduceAdd, reduceCtorEq, Nat.reduceSub, Int.reduceToNat, Int.reduceLE, Int.reduceLT, Int.reduceNeg, Nat.reduceBEq, Nat.reduceMul, Nat.reduceLeDiff, Nat.reduceMod, UInt8.reduceOfNat, Nat.reduceLT, Int.reduceEq, Int.reduceAdd, Int.reduceSub, Int.reduceMul]) ⟨i, out, done, put, by omega, hd0, hd3, hol, ho, .inr ⟨rfl, (i : Int) + 1, (i : Int) + 1, 121, out, by decide, rfl, ?_⟩⟩
                  simp -dsimp -implicitDefEqProofs only [↓Ev.xStp_eq, ↓Ev.P, Ev.Q, Bool.cond_true, Bool.cond_false, eq_self, forall_eq_or_imp, implies_true, forall_const, forall_eq, ↓reduceIte, reduceIte, Nat.reduceEqDiff, Nat.reduceAdd, reduceCtorEq, Nat.reduceSub, Int.reduceToNat, Int.reduceLE, Int.reduceLT, Int.reduceNeg, Nat.reduceBEq, Nat.reduceMul, Nat.reduceLeDiff, Nat.reduceMod, UInt8.reduceOfNat, Nat.reduceLT, Int.reduceEq, Int.reduceAdd, Int.reduceSub, Int.reduceMul]
                  all_goals rfl
                · have ho4 : (p : Int) = put := ho1.resolve_left ho3
                  simp -dsimp -implicitDefEqProofs only [hi3, hnx, hrd, hvd, hva, ho3, ho4, CRdr, CMore, CNext, CCmd, CFail, CLns, nilS, strRows_len, strRows_sub, strRows_all, strRows_app, unStr_rows, UInt8.ofNat_toNat, Ev.St.giveC, ↓Ev.P, Ev.Q, Bool.cond_true, Bool.cond_false, eq_self, forall_eq_or_imp, implies_true, forall_const, forall_eq, ↓reduceIte, reduceIte, Nat.reduceEqDiff, Nat.reduceAdd, reduceCtorEq, Nat.reduceSub, Int.reduceToNat, Int.reduceLE, Int.reduceLT, Int.reduceNeg, Nat.reduceBEq, Nat.reduceMul, Nat.reduceLeDiff, Nat.reduceMod, UInt8.reduceOfNat, Nat.reduceLT, Int.reduceEq, Int.reduceAdd, Int.reduceSub, Int.reduceMul]
                  repeat' (first | with_reducible assumption | refine And.intro ?_ ?_ | intro _ | (rw [Ev.xStp_eq]; simp -dsimp -implicitDefEqProofs only [hi3, hnx, hrd, hvd, hva, ho3, ho4, CRdr, CMore, CNext, CCmd, CFail, CLns, nilS, strRows_len, strRows_sub, strRows_all, strRows_app, unStr_rows, UInt8.ofNat_toNat, Ev.St.giveC, ↓Ev.P, Ev.Q, Bool.cond_true, Bool.cond_false, eq_self, forall_eq_or_imp, implies_true, forall_const, forall_eq, ↓reduceIte, reduceIte, Nat.reduceEqDiff, Nat.reduceAdd, reduceCtorEq, Nat.reduceSub, Int.reduceToNat, Int.reduceLE, Int.reduceLT, Int.reduceNeg, Nat.reduceBEq, Nat.reduceMul, Nat.reduceLeDiff, Nat.reduceMod, UInt8.reduceOfNat, Nat.reduceLT, Int.reduceEq, Int.reduceAdd, Int.reduceSub, Int.reduceMul]))
                  all_goals try omega
                  refine xAgain_intro 0 [0, 1, 2] (by omega) (by simp -dsimp -implicitDefEqProofs only [↓Ev.xStp_eq, ↓Ev.P, Ev.Q, Bool.cond_true, Bool.cond_false, eq_self, forall_eq_or_imp, implies_true, forall_const, forall_eq, ↓reduceIte, reduceIte, Nat.reduceEqDiff, Nat.reduceAdd, reduceCtorEq, Nat.reduceSub, Int.reduceToNat, Int.reduceLE, Int.reduceLT, Int.reduceNeg, Nat.reduceBEq, Nat.reduceMul, Nat.reduceLeDiff, Nat.reduceMod, UInt8.reduceOfNat, Nat.reduceLT, Int.reduceEq, Int.reduceAdd, Int.reduceSub, Int.reduceMul]) ⟨i, out, done, put, by omega, hd0, hd3, hol, ho, .inr ⟨rfl, (i : Int) + 1, (i : Int) + 1, 121, out, by decide, rfl, ?_⟩⟩
                  simp -dsimp -implicitDefEqProofs only [↓Ev.xStp_eq, ↓Ev.P, Ev.Q, Bool.cond_true, Bool.cond_false, eq_self, forall_eq_or_imp, implies_true, forall_const, forall_eq, ↓reduceIte, reduceIte, Nat.reduceEqDiff, Nat.reduceAdd, reduceCtorEq, Nat.reduceSub, Int.reduceToNat, Int.reduceLE, Int.reduceLT, Int.reduceNeg, Nat.reduceBEq, Nat.reduceMul, Nat.reduceLeDiff, Nat.reduceMod, UInt8.reduceOfNat, Nat.reduceLT, Int.reduceEq, Int.reduceAdd, Int.reduceSub, Int.reduceMul]
                  all_goals rfl
              · by_cases ho2 : (a.length : Int) < p
                · have hal : alw v p k a.length done put = 2 := by rw [alw, if_neg hv1, if_neg ho1, if_pos ho2]
                  rw [hal, if_pos (by decide)] at hgo; subst hgo
                  simp only [not_or] at ho1
                  obtain ⟨ho3, ho4⟩ := ho1
                  simp -dsimp -implicitDefEqProofs only [hi3, hnx, hrd, hvd, hva, ho2, ho3, ho4, CRdr, CMore, CNext, CCmd, CFail, CLns, nilS, strRows_len, strRows_sub, strRows_all, strRows_app, unStr_rows, UInt8.ofNat_toNat, Ev.St.giveC, ↓Ev.P, Ev.Q, Bool.cond_true, Bool.cond_false, eq_self, forall_eq_or_imp, implies_true, forall_const, forall_eq, ↓reduceIte, reduceIte, Nat.reduceEqDiff, Nat.reduceAdd, reduceCtorEq, Nat.reduceSub, Int.reduceToNat, Int.reduceLE, Int.reduceLT, Int.reduceNeg, Nat.reduceBEq, Nat.reduceMul, Nat.reduceLeDiff, Nat.reduceMod, UInt8.reduceOfNat, Nat.reduceLT, Int.reduceEq, Int.reduceAdd, Int.reduceSub, Int.reduceMul]
                  repeat' (first | with_reducible assumption | refine And.intro ?_ ?_ | intro _ | (rw [Ev.xStp_eq]; simp -dsimp -implicitDefEqProofs only [hi3, hnx, hrd, hvd, hva, ho2, ho3, ho4, CRdr, CMore, CNext, CCmd, CFail, CLns, nilS, strRows_len, strRows_sub, strRows_all, strRows_app, unStr_rows, UInt8.ofNat_toNat, Ev.St.giveC, ↓Ev.P, Ev.Q, Bool.cond_true, Bool.cond_false, eq_self, forall_eq_or_imp, implies_true, forall_const, forall_eq, ↓reduceIte, reduceIte, Nat.reduceEqDiff, Nat.reduceAdd, reduceCtorEq, Nat.reduceSub, Int.reduceToNat, Int.reduceLE, Int.reduceLT, Int.reduceNeg, Nat.reduceBEq, Nat.reduceMul, Nat.reduceLeDiff, Nat.reduceMod, UInt8.reduceOfNat, Nat.reduceLT, Int.reduceEq, Int.reduceAdd, Int.reduceSub, Int.reduceMul]))
                  all_goals try omega
                  refine xAgain_intro 0 [0, 1, 2] (by omega) (by simp -dsimp -implicitDefEqProofs only [↓Ev.xStp_eq, ↓Ev.P, Ev.Q, Bool.cond_true, Bool.cond_false, eq_self, forall_eq_or_imp, implies_true, forall_const, forall_eq, ↓reduceIte, reduceIte, Nat.reduceEqDiff, Nat.reduceAdd, reduceCtorEq, Nat.reduceSub, Int.reduceToNat, Int.reduceLE, Int.reduceLT, Int.reduceNeg, Nat.reduceBEq, Nat.reduceMul, Nat.reduceLeDiff, Nat.reduceMod, UInt8.reduceOfNat, Nat.reduceLT, Int.reduceEq, Int.reduceAdd, Int.reduceSub, Int.reduceMul]) ⟨i, out, done, put, by omega, hd0, hd3, hol, ho, .inr ⟨rfl, (i : Int) + 1, (i : Int) + 1, 2, out, by decide, rfl, ?_⟩⟩
                  simp -dsimp -implicitDefEqProofs only [↓Ev.xStp_eq, ↓Ev.P, Ev.Q, Bool.cond_true, Bool.cond_false, eq_self, forall_eq_or_imp, implies_true, forall_const, forall_eq, ↓reduceIte, reduceIte, Nat.reduceEqDiff, Nat.reduceAdd, reduceCtorEq, Nat.reduceSub, Int.reduceToNat, Int.reduceLE, Int.reduceLT, Int.reduceNeg, Nat.reduceBEq, Nat.reduceMul, Nat.reduceLeDiff, Nat.reduceMod, UInt8.reduceOfNat, Nat.reduceLT, Int.reduceEq, Int.reduceAdd, Int.reduceSub, Int.reduceMul]
                  all_goals rfl
                · have hal : alw v p k a.length done put = 0 := by rw [alw, if_neg hv1, if_neg ho1, if_neg ho2]
                  simp only [not_or] at ho1
                  obtain ⟨ho3, ho4⟩ := ho1
                  rw [if_neg (fun h => h hal), if_neg hv1] at hgo
                  obtain ⟨ha1, ha2⟩ := alw_ok hv hal
                  obtain ⟨hd1, hd2⟩ := ha2 hv2
                  have hs1 : (seg a done p).length = p - done := seg_len (by omega) (by omega)
                  have hs1' := hs1
                  unfold seg at hs1'
                  by_cases hsh : (L.length : Int) - 1 - i < k
                  · rw [if_pos hsh] at hgo; subst hgo
                    simp -dsimp -implicitDefEqProofs only [hi3, hnx, hrd, hvd, hva, ho2, ho3, ho4, hs1', CRdr, CMore, CNext, CCmd, CFail, CLns, nilS, strRows_len, strRows_sub, strRows_all, strRows_app, unStr_rows, UInt8.ofNat_toNat, Ev.St.giveC, ↓Ev.P, Ev.Q, Bool.cond_true, Bool.cond_false, eq_self, forall_eq_or_imp, implies_true, forall_const, forall_eq, ↓reduceIte, reduceIte, Nat.reduceEqDiff, Nat.reduceAdd, reduceCtorEq, Nat.reduceSub, Int.reduceToNat, Int.reduceLE, Int.reduceLT, Int.reduceNeg, Nat.reduceBEq, Nat.reduceMul, Nat.reduceLeDiff, Nat.reduceMod, UInt8.reduceOfNat, Nat.reduceLT, Int.reduceEq, Int.reduceAdd, Int.reduceSub, Int.reduceMul]
                    repeat' (first | with_reducible assumption | refine And.intro ?_ ?_ | intro _ | (rw [Ev.xStp_eq]; simp -dsimp -implicitDefEqProofs only [hi3, hnx, hrd, hvd, hva, ho2, ho3, ho4, hs1', CRdr, CMore, CNext, CCmd, CFail, CLns, nilS, strRows_len, strRows_sub, strRows_all, strRows_app, unStr_rows, UInt8.ofNat_toNat, Ev.St.giveC, ↓Ev.P, Ev.Q, Bool.cond_true, Bool.cond_false, eq_self, forall_eq_or_imp, implies_true, forall_const, forall_eq, ↓reduceIte, reduceIte, Nat.reduceEqDiff, Nat.reduceAdd, reduceCtorEq, Nat.reduceSub, Int.reduceToNat, Int.reduceLE, Int.reduceLT, Int.reduceNeg, Nat.reduceBEq, Nat.reduceMul, Nat.reduceLeDiff, Nat.reduceMod, UInt8.reduceOfNat, Nat.reduceLT, Int.reduceEq, Int.reduceAdd, Int.reduceSub, Int.reduceMul]))
                    all_goals try omega
                    refine xLoop_intro (fun n2 st => ∃ (j : Nat) (o2 : List (List UInt8)), j ≤ k ∧ n2 = k - j ∧ o2.length ≤ 1073741824 + L.length + j ∧ ((i + 1 + j ≤ L.length ∧ st = ⟨[(1, .d (.sl (strRows a))), (5, .ptr 0 0), (6, .ptr 1 0), (7, .own 2), (8, .d (.v (.int .i64 p))), (9, .d (.v (.int .i64 p))), (12, .d (.v (.int .i64 k))), (14, .d (.v (.int .i64 j)))], 3, [(0, .cells 29 [.d (.v (.int .i64 0)), .d (.v (.int .i64 0))]), (1, .cells 77 [.d (.sl (strRows L)), .d (.v (.int .i64 ((i + 1 + j : Nat) : Int))), .d (.v (.int .i64 0)), .d (.v (.int .i64 0))]), (2, .row 9 1 (strRows o2))]⟩) ∨ (st = ⟨[(1, .d (.sl (strRows a))), (5, .ptr 0 0), (6, .ptr 1 0), (7, .own 2), (8, .d (.v (.int .i64 p))), (9, .d (.v (.int .i64 p))), (12, .d (.v (.int .i64 k))), (14, .d (.v (.int .i64 j)))], 3, [(0, .cells 29 [.d (.v (.int .i64 0)), .d (.v (.int .i64 0))]), (1, .cells 77 [.d (.sl (strRows L)), .d (.v (.int .i64 ((L.length : Int) + 1))), .d (.v (.int .i64 ((L.length : Int) + 1))), .d (.v (.int .i64 1))]), (2, .row 9 1 (strRows o2))]⟩))) k [0, 1, 3] ?_ ?_ ?_
                    · simp -dsimp -implicitDefEqProofs only [↓Ev.xStp_eq, ↓Ev.P, Ev.Q, Bool.cond_true, Bool.cond_false, eq_self, forall_eq_or_imp, implies_true, forall_const, forall_eq, ↓reduceIte, reduceIte, Nat.reduceEqDiff, Nat.reduceAdd, reduceCtorEq, Nat.reduceSub, Int.reduceToNat, Int.reduceLE, Int.reduceLT, Int.reduceNeg, Nat.reduceBEq, Nat.reduceMul, Nat.reduceLeDiff, Nat.reduceMod, UInt8.reduceOfNat, Nat.reduceLT, Int.reduceEq, Int.reduceAdd, Int.reduceSub, Int.reduceMul]
                    · simp -dsimp -implicitDefEqProofs only [↓Ev.xStp_eq, ↓Ev.P, Ev.Q, Bool.cond_true, Bool.cond_false, eq_self, forall_eq_or_imp, implies_true, forall_const, forall_eq, ↓reduceIte, reduceIte, Nat.reduceEqDiff, Nat.reduceAdd, reduceCtorEq, Nat.reduceSub, Int.reduceToNat, Int.reduceLE, Int.reduceLT, Int.reduceNeg, Nat.reduceBEq, Nat.reduceMul, Nat.reduceLeDiff, Nat.reduceMod, UInt8.reduceOfNat, Nat.reduceLT, Int.reduceEq, Int.reduceAdd, Int.reduceSub, Int.reduceMul]
                      refine ⟨0, out ++ seg a done p, by omega, by omega, by rw [List.length_append]; omega, .inl ⟨by omega, ?_⟩⟩
                      all_goals rfl
                    · rintro n2 st2 ⟨j, o2, hj, rfl, hol2, ⟨hj2, rfl⟩ | rfl⟩
                      · have hjk : (j : Int) < k := by omega
                        by_cases hj4 : i + 1 + j < L.length
                        · have hj5 : ¬ (L.length : Int) < ((i + 1 + j : Nat) : Int) + 1 := by omega
                          have hg := strRows_get hj4
                          have e6 : (((i + 1 + j : Nat) : Int) + 1 - 1).toNat = i + 1 + j := by omega
                          simp -dsimp -implicitDefEqProofs only [hjk, hj5, hg, e6, CRdr, CMore, CNext, CCmd, CFail, CLns, nilS, strRows_len, strRows_sub, strRows_all, strRows_app, unStr_rows, UInt8.ofNat_toNat, Ev.St.giveC, ↓Ev.P, Ev.Q, Bool.cond_true, Bool.cond_false, eq_self, forall_eq_or_imp, implies_true, forall_const, forall_eq, ↓reduceIte, reduceIte, Nat.reduceEqDiff, Nat.reduceAdd, reduceCtorEq, Nat.reduceSub, Int.reduceToNat, Int.reduceLE, Int.reduceLT, Int.reduceNeg, Nat.reduceBEq, Nat.reduceMul, Nat.reduceLeDiff, Nat.reduceMod, UInt8.reduceOfNat, Nat.reduceLT, Int.reduceEq, Int.reduceAdd, Int.reduceSub, Int.reduceMul]
                          repeat' (first | with_reducible assumption | refine And.intro ?_ ?_ | intro _ | (rw [Ev.xStp_eq]; simp -dsimp -implicitDefEqProofs only [hjk, hj5, hg, e6, CRdr, CMore, CNext, CCmd, CFail, CLns, nilS, strRows_len, strRows_sub, strRows_all, strRows_app, unStr_rows, UInt8.ofNat_toNat, Ev.St.giveC, ↓Ev.P, Ev.Q, Bool.cond_true, Bool.cond_false, eq_self, forall_eq_or_imp, implies_true, forall_const, forall_eq, ↓reduceIte, reduceIte, Nat.reduceEqDiff, Nat.reduceAdd, reduceCtorEq, Nat.reduceSub, Int.reduceToNat, Int.reduceLE, Int.reduceLT, Int.reduceNeg, Nat.reduceBEq, Nat.reduceMul, Nat.reduceLeDiff, Nat.reduceMod, UInt8.reduceOfNat, Nat.reduceLT, Int.reduceEq, Int.reduceAdd, Int.reduceSub, Int.reduceMul]))
                          all_goals try omega
                          refine xAgain_intro (k - (j + 1)) [0, 1, 4] (by omega) (by simp -dsimp -implicitDefEqProofs only [↓Ev.xStp_eq, ↓Ev.P, Ev.Q, Bool.cond_true, Bool.cond_false, eq_self, forall_eq_or_imp, implies_true, forall_const, forall_eq, ↓reduceIte, reduceIte, Nat.reduceEqDiff, Nat.reduceAdd, reduceCtorEq, Nat.reduceSub, Int.reduceToNat, Int.reduceLE, Int.reduceLT, Int.reduceNeg, Nat.reduceBEq, Nat.reduceMul, Nat.reduceLeDiff, Nat.reduceMod, UInt8.reduceOfNat, Nat.reduceLT, Int.reduceEq, Int.reduceAdd, Int.reduceSub, Int.reduceMul]) ⟨j + 1, o2 ++ [L.getD (i + 1 + j) []], by omega, rfl, by rw [List.length_append, List.length_singleton]; omega, .inl ⟨by omega, ?_⟩⟩
                          rw [strRows_snoc]
                          simp -dsimp -implicitDefEqProofs only [↓Ev.xStp_eq, ↓Ev.P, Ev.Q, Bool.cond_true, Bool.cond_false, eq_self, forall_eq_or_imp, implies_true, forall_const, forall_eq, ↓reduceIte, reduceIte, Nat.reduceEqDiff, Nat.reduceAdd, reduceCtorEq, Nat.reduceSub, Int.reduceToNat, Int.reduceLE, Int.reduceLT, Int.reduceNeg, Nat.reduceBEq, Nat.reduceMul, Nat.reduceLeDiff, Nat.reduceMod, UInt8.reduceOfNat, Nat.reduceLT, Int.reduceEq, Int.reduceAdd, Int.reduceSub, Int.reduceMul]
                          all_goals rfl
                        · have hj5 : (L.length : Int) < ((i + 1 + j : Nat) : Int) + 1 := by omega
                          have e7 : ((i + 1 + j : Nat) : Int) + 1 = (L.length : Int) + 1 := by omega
                          rw [e7] at hj5
                          simp -dsimp -implicitDefEqProofs only [hjk, e7, hj5, CRdr, CMore, CNext, CCmd, CFail, CLns, nilS, strRows_len, strRows_sub, strRows_all, strRows_app, unStr_rows, UInt8.ofNat_toNat, Ev.St.giveC, ↓Ev.P, Ev.Q, Bool.cond_true, Bool.cond_false, eq_self, forall_eq_or_imp, implies_true, forall_const, forall_eq, ↓reduceIte, reduceIte, Nat.reduceEqDiff, Nat.reduceAdd, reduceCtorEq, Nat.reduceSub, Int.reduceToNat, Int.reduceLE, Int.reduceLT, Int.reduceNeg, Nat.reduceBEq, Nat.reduceMul, Nat.reduceLeDiff, Nat.reduceMod, UInt8.reduceOfNat, Nat.reduceLT, Int.reduceEq, Int.reduceAdd, Int.reduceSub, Int.reduceMul]
                          repeat' (first | with_reducible assumption | refine And.intro ?_ ?_ | intro _ | (rw [Ev.xStp_eq]; simp -dsimp -implicitDefEqProofs only [hjk, e7, hj5, CRdr, CMore, CNext, CCmd, CFail, CLns, nilS, strRows_len, strRows_sub, strRows_all, strRows_app, unStr_rows, UInt8.ofNat_toNat, Ev.St.giveC, ↓Ev.P, Ev.Q, Bool.cond_true, Bool.cond_false, eq_self, forall_eq_or_imp, implies_true, forall_const, forall_eq, ↓reduceIte, reduceIte, Nat.reduceEqDiff, Nat.reduceAdd, reduceCtorEq, Nat.reduceSub, Int.reduceToNat, Int.reduceLE, Int.reduceLT, Int.reduceNeg, Nat.reduceBEq, Nat.reduceMul, Nat.reduceLeDiff, Nat.reduceMod, UInt8.reduceOfNat, Nat.reduceLT, Int.reduceEq, Int.reduceAdd, Int.reduceSub, Int.reduceMul]))
                          all_goals try omega
                          refine xAgain_intro (k - (j + 1)) [0, 1, 2] (by omega) (by simp -dsimp -implicitDefEqProofs only [↓Ev.xStp_eq, ↓Ev.P, Ev.Q, Bool.cond_true, Bool.cond_false, eq_self, forall_eq_or_imp, implies_true, forall_const, forall_eq, ↓reduceIte, reduceIte, Nat.reduceEqDiff, Nat.reduceAdd, reduceCtorEq, Nat.reduceSub, Int.reduceToNat, Int.reduceLE, Int.reduceLT, Int.reduceNeg, Nat.reduceBEq, Nat.reduceMul, Nat.reduceLeDiff, Nat.reduceMod, UInt8.reduceOfNat, Nat.reduceLT, Int.reduceEq, Int.reduceAdd, Int.reduceSub, Int.reduceMul]) ⟨j + 1, o2, by omega, rfl, by omega, .inr ?_⟩
                          simp -dsimp -implicitDefEqProofs only [↓Ev.xStp_eq, ↓Ev.P, Ev.Q, Bool.cond_true, Bool.cond_false, eq_self, forall_eq_or_imp, implies_true, forall_const, forall_eq, ↓reduceIte, reduceIte, Nat.reduceEqDiff, Nat.reduceAdd, reduceCtorEq, Nat.reduceSub, Int.reduceToNat, Int.reduceLE, Int.reduceLT, Int.reduceNeg, Nat.reduceBEq, Nat.reduceMul, Nat.reduceLeDiff, Nat.reduceMod, UInt8.reduceOfNat, Nat.reduceLT, Int.reduceEq, Int.reduceAdd, Int.reduceSub, Int.reduceMul]
                          all_goals rfl
                      · by_cases hjk : (j : Int) < k
                        · have _t := trivial
                          simp -dsimp -implicitDefEqProofs only [hjk, CRdr, CMore, CNext, CCmd, CFail, CLns, nilS, strRows_len, strRows_sub, strRows_all, strRows_app, unStr_rows, UInt8.ofNat_toNat, Ev.St.giveC, ↓Ev.P, Ev.Q, Bool.cond_true, Bool.cond_false, eq_self, forall_eq_or_imp, implies_true, forall_const, forall_eq, ↓reduceIte, reduceIte, Nat.reduceEqDiff, Nat.reduceAdd, reduceCtorEq, Nat.reduceSub, Int.reduceToNat, Int.reduceLE, Int.reduceLT, Int.reduceNeg, Nat.reduceBEq, Nat.reduceMul, Nat.reduceLeDiff, Nat.reduceMod, UInt8.reduceOfNat, Nat.reduceLT, Int.reduceEq, Int.reduceAdd, Int.reduceSub, Int.reduceMul]
                          repeat' (first | with_reducible assumption | refine And.intro ?_ ?_ | intro _ | (rw [Ev.xStp_eq]; simp -dsimp -implicitDefEqProofs only [hjk, CRdr, CMore, CNext, CCmd, CFail, CLns, nilS, strRows_len, strRows_sub, strRows_all, strRows_app, unStr_rows, UInt8.ofNat_toNat, Ev.St.giveC, ↓Ev.P, Ev.Q, Bool.cond_true, Bool.cond_false, eq_self, forall_eq_or_imp, implies_true, forall_const, forall_eq, ↓reduceIte, reduceIte, Nat.reduceEqDiff, Nat.reduceAdd, reduceCtorEq, Nat.reduceSub, Int.reduceToNat, Int.reduceLE, Int.reduceLT, Int.reduceNeg, Nat.reduceBEq, Nat.reduceMul, Nat.reduceLeDiff, Nat.reduceMod, UInt8.reduceOfNat, Nat.reduceLT, Int.reduceEq, Int.reduceAdd, Int.reduceSub, Int.reduceMul]))
                          all_goals try omega
                          refine xAgain_intro 0 [0, 1, 2] (by omega) (by simp -dsimp -implicitDefEqProofs only [↓Ev.xStp_eq, ↓Ev.P, Ev.Q, Bool.cond_true, Bool.cond_false, eq_self, forall_eq_or_imp, implies_true, forall_const, forall_eq, ↓reduceIte, reduceIte, Nat.reduceEqDiff, Nat.reduceAdd, reduceCtorEq, Nat.reduceSub, Int.reduceToNat, Int.reduceLE, Int.reduceLT, Int.reduceNeg, Nat.reduceBEq, Nat.reduceMul, Nat.reduceLeDiff, Nat.reduceMod, UInt8.reduceOfNat, Nat.reduceLT, Int.reduceEq, Int.reduceAdd, Int.reduceSub, Int.reduceMul]) ⟨i, [], p, p, by omega, by omega, by omega, by simp only [List.length_nil]; omega, by simp, .inr ⟨rfl, (L.length : Int) + 1, (L.length : Int) + 1, 1, o2, by decide, rfl, ?_⟩⟩
                          simp -dsimp -implicitDefEqProofs only [↓Ev.xStp_eq, ↓Ev.P, Ev.Q, Bool.cond_true, Bool.cond_false, eq_self, forall_eq_or_imp, implies_true, forall_const, forall_eq, ↓reduceIte, reduceIte, Nat.reduceEqDiff, Nat.reduceAdd, reduceCtorEq, Nat.reduceSub, Int.reduceToNat, Int.reduceLE, Int.reduceLT, Int.reduceNeg, Nat.reduceBEq, Nat.reduceMul, Nat.reduceLeDiff, Nat.reduceMod, UInt8.reduceOfNat, Nat.reduceLT, Int.reduceEq, Int.reduceAdd, Int.reduceSub, Int.reduceMul]
                          all_goals rfl
                        · have _t := trivial
                          simp -dsimp -implicitDefEqProofs only [hjk, CRdr, CMore, CNext, CCmd, CFail, CLns, nilS, strRows_len, strRows_sub, strRows_all, strRows_app, unStr_rows, UInt8.ofNat_toNat, Ev.St.giveC, ↓Ev.P, Ev.Q, Bool.cond_true, Bool.cond_false, eq_self, forall_eq_or_imp, implies_true, forall_const, forall_eq, ↓reduceIte, reduceIte, Nat.reduceEqDiff, Nat.reduceAdd, reduceCtorEq, Nat.reduceSub, Int.reduceToNat, Int.reduceLE, Int.reduceLT, Int.reduceNeg, Nat.reduceBEq, Nat.reduceMul, Nat.reduceLeDiff, Nat.reduceMod, UInt8.reduceOfNat, Nat.reduceLT, Int.reduceEq, Int.reduceAdd, Int.reduceSub, Int.reduceMul]
                          repeat' (first | with_reducible assumption | refine And.intro ?_ ?_ | intro _ | (rw [Ev.xStp_eq]; simp -dsimp -implicitDefEqProofs only [hjk, CRdr, CMore, CNext, CCmd, CFail, CLns, nilS, strRows_len, strRows_sub, strRows_all, strRows_app, unStr_rows, UInt8.ofNat_toNat, Ev.St.giveC, ↓Ev.P, Ev.Q, Bool.cond_true, Bool.cond_false, eq_self, forall_eq_or_imp, implies_true, forall_const, forall_eq, ↓reduceIte, reduceIte, Nat.reduceEqDiff, Nat.reduceAdd, reduceCtorEq, Nat.reduceSub, Int.reduceToNat, Int.reduceLE, Int.reduceLT, Int.reduceNeg, Nat.reduceBEq, Nat.reduceMul, Nat.reduceLeDiff, Nat.reduceMod, UInt8.reduceOfNat, Nat.reduceLT, Int.reduceEq, Int.reduceAdd, Int.reduceSub, Int.reduceMul]))
                          all_goals try omega
                          refine xAgain_intro 0 [0, 1, 2] (by omega) (by simp -dsimp -implicitDefEqProofs only [↓Ev.xStp_eq, ↓Ev.P, Ev.Q, Bool.cond_true, Bool.cond_false, eq_self, forall_eq_or_imp, implies_true, forall_const, forall_eq, ↓reduceIte, reduceIte, Nat.reduceEqDiff, Nat.reduceAdd, reduceCtorEq, Nat.reduceSub, Int.reduceToNat, Int.reduceLE, Int.reduceLT, Int.reduceNeg, Nat.reduceBEq, Nat.reduceMul, Nat.reduceLeDiff, Nat.reduceMod, UInt8.reduceOfNat, Nat.reduceLT, Int.reduceEq, Int.reduceAdd, Int.reduceSub, Int.reduceMul]) ⟨i, [], p, p, by omega, by omega, by omega, by simp only [List.length_nil]; omega, by simp, .inr ⟨rfl, (L.length : Int) + 1, (L.length : Int) + 1, 1, o2, by decide, rfl, ?_⟩⟩
                          simp -dsimp -implicitDefEqProofs only [↓Ev.xStp_eq, ↓Ev.P, Ev.Q, Bool.cond_true, Bool.cond_false, eq_self, forall_eq_or_imp, implies_true, forall_const, forall_eq, ↓reduceIte, reduceIte, Nat.reduceEqDiff, Nat.reduceAdd, reduceCtorEq, Nat.reduceSub, Int.reduceToNat, Int.reduceLE, Int.reduceLT, Int.reduceNeg, Nat.reduceBEq, Nat.reduceMul, Nat.reduceLeDiff, Nat.reduceMod, UInt8.reduceOfNat, Nat.reduceLT, Int.reduceEq, Int.reduceAdd, Int.reduceSub, Int.reduceMul]
                          all_goals rfl
                  · rw [if_neg hsh, Int.toNat_natCast, Int.toNat_natCast] at hgo
                    simp -dsimp -implicitDefEqProofs only [hi3, hnx, hrd, hvd, hva, ho2, ho3, ho4, hs1', CRdr, CMore, CNext, CCmd, CFail, CLns, nilS, strRows_len, strRows_sub, strRows_all, strRows_app, unStr_rows, UInt8.ofNat_toNat, Ev.St.giveC, ↓Ev.P, Ev.Q, Bool.cond_true, Bool.cond_false, eq_self, forall_eq_or_imp, implies_true, forall_const, forall_eq, ↓reduceIte, reduceIte, Nat.reduceEqDiff, Nat.reduceAdd, reduceCtorEq, Nat.reduceSub, Int.reduceToNat, Int.reduceLE, Int.reduceLT, Int.reduceNeg, Nat.reduceBEq, Nat.reduceMul, Nat.reduceLeDiff, Nat.reduceMod, UInt8.reduceOfNat, Nat.reduceLT, Int.reduceEq, Int.reduceAdd, Int.reduceSub, Int.reduceMul]
                    repeat' (first | with_reducible assumption | refine And.intro ?_ ?_ | intro _ | (rw [Ev.xStp_eq]; simp -dsimp -implicitDefEqProofs only [hi3, hnx, hrd, hvd, hva, ho2, ho3, ho4, hs1', CRdr, CMore, CNext, CCmd, CFail, CLns, nilS, strRows_len, strRows_sub, strRows_all, strRows_app, unStr_rows, UInt8.ofNat_toNat, Ev.St.giveC, ↓Ev.P, Ev.Q, Bool.cond_true, Bool.cond_false, eq_self, forall_eq_or_imp, implies_true, forall_const, forall_eq, ↓reduceIte, reduceIte, Nat.reduceEqDiff, Nat.reduceAdd, reduceCtorEq, Nat.reduceSub, Int.reduceToNat, Int.reduceLE, Int.reduceLT, Int.reduceNeg, Nat.reduceBEq, Nat.reduceMul, Nat.reduceLeDiff, Nat.reduceMod, UInt8.reduceOfNat, Nat.reduceLT, Int.reduceEq, Int.reduceAdd, Int.reduceSub, Int.reduceMul]))
                    all_goals try omega
                    refine xLoop_intro (fun n2 st => ∃ (j : Nat), j ≤ k ∧ n2 = k - j ∧ st = ⟨[(1, .d (.sl (strRows a))), (5, .ptr 0 0), (6, .ptr 1 0), (7, .own 2), (8, .d (.v (.int .i64 p))), (9, .d (.v (.int .i64 p))), (12, .d (.v (.int .i64 k))), (14, .d (.v (.int .i64 j)))], 3, [(0, .cells 29 [.d (.v (.int .i64 0)), .d (.v (.int .i64 0))]), (1, .cells 77 [.d (.sl (strRows L)), .d (.v (.int .i64 ((i + 1 + j : Nat) : Int))), .d (.v (.int .i64 0)), .d (.v (.int .i64 0))]), (2, .row 9 1 (strRows (out ++ seg a done p ++ seg L (i + 1) (i + 1 + j))))]⟩) k [0, 1, 3] ?_ ?_ ?_
                    · simp -dsimp -implicitDefEqProofs only [↓Ev.xStp_eq, ↓Ev.P, Ev.Q, Bool.cond_true, Bool.cond_false, eq_self, forall_eq_or_imp, implies_true, forall_const, forall_eq, ↓reduceIte, reduceIte, Nat.reduceEqDiff, Nat.reduceAdd, reduceCtorEq, Nat.reduceSub, Int.reduceToNat, Int.reduceLE, Int.reduceLT, Int.reduceNeg, Nat.reduceBEq, Nat.reduceMul, Nat.reduceLeDiff, Nat.reduceMod, UInt8.reduceOfNat, Nat.reduceLT, Int.reduceEq, Int.reduceAdd, Int.reduceSub, Int.reduceMul]
                    · simp -dsimp -implicitDefEqProofs only [↓Ev.xStp_eq, ↓Ev.P, Ev.Q, Bool.cond_true, Bool.cond_false, eq_self, forall_eq_or_imp, implies_true, forall_const, forall_eq, ↓reduceIte, reduceIte, Nat.reduceEqDiff, Nat.reduceAdd, reduceCtorEq, Nat.reduceSub, Int.reduceToNat, Int.reduceLE, Int.reduceLT, Int.reduceNeg, Nat.reduceBEq, Nat.reduceMul, Nat.reduceLeDiff, Nat.reduceMod, UInt8.reduceOfNat, Nat.reduceLT, Int.reduceEq, Int.reduceAdd, Int.reduceSub, Int.reduceMul]
                      refine ⟨0, by omega, by omega, ?_⟩
                      rw [show seg L (i + 1) (i + 1 + 0) = [] by unfold seg; rw [List.drop_eq_nil_of_le (by rw [List.length_take]; omega)], List.append_nil]
                      all_goals rfl
                    · rintro n2 st2 ⟨j, hj, rfl, rfl⟩
                      by_cases hjk : (j : Int) < k
                      · have hj4 : i + 1 + j < L.length := by omega
                        have hj5 : ¬ (L.length : Int) < ((i + 1 + j : Nat) : Int) + 1 := by omega
                        have hg := strRows_get hj4
                        have e6 : (((i + 1 + j : Nat) : Int) + 1 - 1).toNat = i + 1 + j := by omega
                        have hs2 : (seg L (i + 1) (i + 1 + j)).length = j := by rw [seg_len (by omega) (by omega)]; omega
                        simp -dsimp -implicitDefEqProofs only [hjk, hj5, hg, e6, hs1, hs2, List.length_append, CRdr, CMore, CNext, CCmd, CFail, CLns, nilS, strRows_len, strRows_sub, strRows_all, strRows_app, unStr_rows, UInt8.ofNat_toNat, Ev.St.giveC, ↓Ev.P, Ev.Q, Bool.cond_true, Bool.cond_false, eq_self, forall_eq_or_imp, implies_true, forall_const, forall_eq, ↓reduceIte, reduceIte, Nat.reduceEqDiff, Nat.reduceAdd, reduceCtorEq, Nat.reduceSub, Int.reduceToNat, Int.reduceLE, Int.reduceLT, Int.reduceNeg, Nat.reduceBEq, Nat.reduceMul, Nat.reduceLeDiff, Nat.reduceMod, UInt8.reduceOfNat, Nat.reduceLT, Int.reduceEq, Int.reduceAdd, Int.reduceSub, Int.reduceMul]
                        repeat' (first | with_reducible assumption | refine And.intro ?_ ?_ | intro _ | (rw [Ev.xStp_eq]; simp -dsimp -implicitDefEqProofs only [hjk, hj5, hg, e6, hs1, hs2, List.length_append, CRdr, CMore, CNext, CCmd, CFail, CLns, nilS, strRows_len, strRows_sub, strRows_all, strRows_app, unStr_rows, UInt8.ofNat_toNat, Ev.St.giveC, ↓Ev.P, Ev.Q, Bool.cond_true, Bool.cond_false, eq_self, forall_eq_or_imp, implies_true, forall_const, forall_eq, ↓reduceIte, reduceIte, Nat.reduceEqDiff, Nat.reduceAdd, reduceCtorEq, Nat.reduceSub, Int.reduceToNat, Int.reduceLE, Int.reduceLT, Int.reduceNeg, Nat.reduceBEq, Nat.reduceMul, Nat.reduceLeDiff, Nat.reduceMod, UInt8.reduceOfNat, Nat.reduceLT, Int.reduceEq, Int.reduceAdd, Int.reduceSub, Int.reduceMul]))
                        all_goals try omega
                        refine xAgain_intro (k - (j + 1)) [0, 1, 4] (by omega) (by simp -dsimp -implicitDefEqProofs only [↓Ev.xStp_eq, ↓Ev.P, Ev.Q, Bool.cond_true, Bool.cond_false, eq_self, forall_eq_or_imp, implies_true, forall_const, forall_eq, ↓reduceIte, reduceIte, Nat.reduceEqDiff, Nat.reduceAdd, reduceCtorEq, Nat.reduceSub, Int.reduceToNat, Int.reduceLE, Int.reduceLT, Int.reduceNeg, Nat.reduceBEq, Nat.reduceMul, Nat.reduceLeDiff, Nat.reduceMod, UInt8.reduceOfNat, Nat.reduceLT, Int.reduceEq, Int.reduceAdd, Int.reduceSub, Int.reduceMul]) ⟨j + 1, by omega, rfl, ?_⟩
                        rw [show i + 1 + (j + 1) = (i + 1 + j) + 1 by omega, seg_snoc (by omega) hj4, ← List.append_assoc, strRows_snoc]
                        simp -dsimp -implicitDefEqProofs only [↓Ev.xStp_eq, ↓Ev.P, Ev.Q, Bool.cond_true, Bool.cond_false, eq_self, forall_eq_or_imp, implies_true, forall_const, forall_eq, ↓reduceIte, reduceIte, Nat.reduceEqDiff, Nat.reduceAdd, reduceCtorEq, Nat.reduceSub, Int.reduceToNat, Int.reduceLE, Int.reduceLT, Int.reduceNeg, Nat.reduceBEq, Nat.reduceMul, Nat.reduceLeDiff, Nat.reduceMod, UInt8.reduceOfNat, Nat.reduceLT, Int.reduceEq, Int.reduceAdd, Int.reduceSub, Int.reduceMul]
                        all_goals rfl
                      · obtain rfl : j = k := by omega
                        have hs2 : (seg L (i + 1) (i + 1 + j)).length = j := by rw [seg_len (by omega) (by omega)]; omega
                        simp -dsimp -implicitDefEqProofs only [hjk, CRdr, CMore, CNext, CCmd, CFail, CLns, nilS, strRows_len, strRows_sub, strRows_all, strRows_app, unStr_rows, UInt8.ofNat_toNat, Ev.St.giveC, ↓Ev.P, Ev.Q, Bool.cond_true, Bool.cond_false, eq_self, forall_eq_or_imp, implies_true, forall_const, forall_eq, ↓reduceIte, reduceIte, Nat.reduceEqDiff, Nat.reduceAdd, reduceCtorEq, Nat.reduceSub, Int.reduceToNat, Int.reduceLE, Int.reduceLT, Int.reduceNeg, Nat.reduceBEq, Nat.reduceMul, Nat.reduceLeDiff, Nat.reduceMod, UInt8.reduceOfNat, Nat.reduceLT, Int.reduceEq, Int.reduceAdd, Int.reduceSub, Int.reduceMul]
                        repeat' (first | with_reducible assumption | refine And.intro ?_ ?_ | intro _ | (rw [Ev.xStp_eq]; simp -dsimp -implicitDefEqProofs only [hjk, CRdr, CMore, CNext, CCmd, CFail, CLns, nilS, strRows_len, strRows_sub, strRows_all, strRows_app, unStr_rows, UInt8.ofNat_toNat, Ev.St.giveC, ↓Ev.P, Ev.Q, Bool.cond_true, Bool.cond_false, eq_self, forall_eq_or_imp, implies_true, forall_const, forall_eq, ↓reduceIte, reduceIte, Nat.reduceEqDiff, Nat.reduceAdd, reduceCtorEq, Nat.reduceSub, Int.reduceToNat, Int.reduceLE, Int.reduceLT, Int.reduceNeg, Nat.reduceBEq, Nat.reduceMul, Nat.reduceLeDiff, Nat.reduceMod, UInt8.reduceOfNat, Nat.reduceLT, Int.reduceEq, Int.reduceAdd, Int.reduceSub, Int.reduceMul]))
                        all_goals try omega
                        refine xAgain_intro (L.length - (i + 1 + j) + 1) [0, 1, 2] (by omega) (by simp -dsimp -implicitDefEqProofs only [↓Ev.xStp_eq, ↓Ev.P, Ev.Q, Bool.cond_true, Bool.cond_false, eq_self, forall_eq_or_imp, implies_true, forall_const, forall_eq, ↓reduceIte, reduceIte, Nat.reduceEqDiff, Nat.reduceAdd, reduceCtorEq, Nat.reduceSub, Int.reduceToNat, Int.reduceLE, Int.reduceLT, Int.reduceNeg, Nat.reduceBEq, Nat.reduceMul, Nat.reduceLeDiff, Nat.reduceMod, UInt8.reduceOfNat, Nat.reduceLT, Int.reduceEq, Int.reduceAdd, Int.reduceSub, Int.reduceMul]) ⟨i + 1 + j, out ++ seg a done p ++ seg L (i + 1) (i + 1 + j), p, p, by omega, by omega, by omega, by rw [List.length_append, List.length_append, hs1, hs2]; omega, ?_, .inl ⟨rfl, ?_, ?_⟩⟩
                        · intro x hx; rcases List.mem_append.1 hx with hx | hx
                          · rcases List.mem_append.1 hx with hx | hx
                            · exact ho x hx
                            · exact hA x (seg_mem hx)
                          · exact hL x (seg_mem hx)
                        · rw [show L.length - (i + 1 + j) = m - j by omega, Int.toNat_natCast]; exact hgo
                        · simp -dsimp -implicitDefEqProofs only [↓Ev.xStp_eq, ↓Ev.P, Ev.Q, Bool.cond_true, Bool.cond_false, eq_self, forall_eq_or_imp, implies_true, forall_const, forall_eq, ↓reduceIte, reduceIte, Nat.reduceEqDiff, Nat.reduceAdd, reduceCtorEq, Nat.reduceSub, Int.reduceToNat, Int.reduceLE, Int.reduceLT, Int.reduceNeg, Nat.reduceBEq, Nat.reduceMul, Nat.reduceLeDiff, Nat.reduceMod, UInt8.reduceOfNat, Nat.reduceLT, Int.reduceEq, Int.reduceAdd, Int.reduceSub, Int.reduceMul]
                          all_goals rfl
      · have _t := trivial
        have hi3 : ¬ (i : Int) < L.length := by omega
        rw [show L.length - i = 0 by omega, rcsGo, rcsEnd] at hgo
        obtain ⟨done, rfl⟩ := Int.eq_ofNat_of_zero_le hd0
        rw [Int.toNat_natCast] at hgo
        have hdl : done ≤ a.length := by omega
        have e4 : (a.take a.length).drop done = a.drop done := by rw [List.take_length]
        have hsl : (a.drop done).length = a.length - done := List.length_drop
        have hmem : ∀ x ∈ out ++ a.drop done, x.length ≤ 1099511627776 := by
          intro x hx; rcases List.mem_append.1 hx with hx | hx
          · exact ho x hx
          · exact hA x (List.mem_of_mem_drop hx)
        have hlen : (out ++ a.drop done).length ≤ 1099511627776 := by rw [List.length_append]; omega
        by_cases hok : okUp (out ++ a.drop done).length (out ++ a.drop done) = true
        · rw [if_pos hok] at hgo
          subst hgo; exact absurd rfl hz
        · rw [if_neg hok] at hgo
          subst hgo
          simp -dsimp -implicitDefEqProofs only [hi3, e4, hok, CRdr, CMore, CNext, CCmd, CFail, CLns, nilS, strRows_len, strRows_sub, strRows_all, strRows_app, unStr_rows, UInt8.ofNat_toNat, Ev.St.giveC, ↓Ev.P, Ev.Q, Bool.cond_true, Bool.cond_false, eq_self, forall_eq_or_imp, implies_true, forall_const, forall_eq, ↓reduceIte, reduceIte, Nat.reduceEqDiff, Nat.reduceAdd, reduceCtorEq, Nat.reduceSub, Int.reduceToNat, Int.reduceLE, Int.reduceLT, Int.reduceNeg, Nat.reduceBEq, Nat.reduceMul, Nat.reduceLeDiff, Nat.reduceMod, UInt8.reduceOfNat, Nat.reduceLT, Int.reduceEq, Int.reduceAdd, Int.reduceSub, Int.reduceMul]
          repeat' (first | with_reducible assumption | refine And.intro ?_ ?_ | intro _ | (rw [Ev.xStp_eq]; simp -dsimp -implicitDefEqProofs only [hi3, e4, hok, CRdr, CMore, CNext, CCmd, CFail, CLns, nilS, strRows_len, strRows_sub, strRows_all, strRows_app, unStr_rows, UInt8.ofNat_toNat, Ev.St.giveC, ↓Ev.P, Ev.Q, Bool.cond_true, Bool.cond_false, eq_self, forall_eq_or_imp, implies_true, forall_const, forall_eq, ↓reduceIte, reduceIte, Nat.reduceEqDiff, Nat.reduceAdd, reduceCtorEq, Nat.reduceSub, Int.reduceToNat, Int.reduceLE, Int.reduceLT, Int.reduceNeg, Nat.reduceBEq, Nat.reduceMul, Nat.reduceLeDiff, Nat.reduceMod, UInt8.reduceOfNat, Nat.reduceLT, Int.reduceEq, Int.reduceAdd, Int.reduceSub, Int.reduceMul]))
          all_goals try omega
          all_goals first | exact hk | exact hmem | exact hlen
    · have _t := trivial
      simp -dsimp -implicitDefEqProofs only [hfe, CRdr, CMore, CNext, CCmd, CFail, CLns, nilS, strRows_len, strRows_sub, strRows_all, strRows_app, unStr_rows, UInt8.ofNat_toNat, Ev.St.giveC, ↓Ev.P, Ev.Q, Bool.cond_true, Bool.cond_false, eq_self, forall_eq_or_imp, implies_true, forall_const, forall_eq, ↓reduceIte, reduceIte, Nat.reduceEqDiff, Nat.reduceAdd, reduceCtorEq, Nat.reduceSub, Int.reduceToNat, Int.reduceLE, Int.reduceLT, Int.reduceNeg, Nat.reduceBEq, Nat.reduceMul, Nat.reduceLeDiff, Nat.reduceMod, UInt8.reduceOfNat, Nat.reduceLT, Int.reduceEq, Int.reduceAdd, Int.reduceSub, Int.reduceMul]
      repeat' (first | with_reducible assumption | refine And.intro ?_ ?_ | intro _ | (rw [Ev.xStp_eq]; simp -dsimp -implicitDefEqProofs only [hfe, CRdr, CMore, CNext, CCmd, CFail, CLns, nilS, strRows_len, strRows_sub, strRows_all, strRows_app, unStr_rows, UInt8.ofNat_toNat, Ev.St.giveC, ↓Ev.P, Ev.Q, Bool.cond_true, Bool.cond_false, eq_self, forall_eq_or_imp, implies_true, forall_const, forall_eq, ↓reduceIte, reduceIte, Nat.reduceEqDiff, Nat.reduceAdd, reduceCtorEq, Nat.reduceSub, Int.reduceToNat, Int.reduceLE, Int.reduceLT, Int.reduceNeg, Nat.reduceBEq, Nat.reduceMul, Nat.reduceLeDiff, Nat.reduceMod, UInt8.reduceOfNat, Nat.reduceLT, Int.reduceEq, Int.reduceAdd, Int.reduceSub, Int.reduceMul]))
      all_goals try omega
      all_goals exact hk
end Go.Proofs.YtlghobefhmpfkaaGreatDoor
set_option linter.unusedVariables false
set_option linter.unusedSimpArgs false
namespace Go.Proofs.YtlghobefhmpfkaaGreatDoor
open Go Go.Ev Go.Rcs
set_option maxRecDepth 100000
variable {G : World → Prop}
set_option maxHeartbeats 4000000 in
theorem s12 : Sound G Tryz.prog 12 CRunR := by
  refine sd12 (T := tabT refTab) (tab_cons s39 (tab_cons s40 (tab_cons s42 (tab_cons s41 (tab_cons s43 (tab_cons s44 tab_nil)))))) (stC_lawful _) (st_hX fun args st p x st' K h hp hk => ?_)
  split at h <;> simp only [Option.map_eq_some_iff, Prod.mk.injEq, reduceCtorEq] at h
  obtain ⟨a, hl, rfl, h2⟩ := h
  rename_i s rows
  rw [unStr_eq hl] at *
  obtain ⟨s, rfl⟩ := ex_str s
  simp only [sem_str] at hp h2
  obtain ⟨h1, ha, hA⟩ := hp
  refine ⟨Nat.le_of_ble_eq_true rfl, ?_⟩
  by_cases h4 : 1048576 < s.length
  · rw [rcsRun, if_pos h4, refR, if_neg (by decide), Prod.mk.injEq] at h2
    obtain ⟨rfl, rfl⟩ := h2
    have h5 : (1048576 : Int) < (s.length : Int) := by omega
    refine ⟨[], ?_⟩
    simp -dsimp -implicitDefEqProofs only [S12, S12_0, S12r1, S12_1, S12r2, S12_2, S12r3, S12_3, S12r4, S12_4, S12r5, S12_5, S12r6, S12_6, R12, CRdr, nilS, h4, h5, ↓Ev.xStp_eq, ↓Ev.P, Ev.Q, Bool.cond_true, Bool.cond_false, eq_self, forall_eq_or_imp, implies_true, forall_const, forall_eq, ↓reduceIte, reduceIte, Nat.reduceEqDiff, Nat.reduceAdd, reduceCtorEq, Nat.reduceSub, Int.reduceToNat, Int.reduceLE, Int.reduceLT, Int.reduceNeg, Nat.reduceBEq, Nat.reduceMul, Nat.reduceLeDiff, Nat.reduceMod, UInt8.reduceOfNat, Nat.reduceLT, Int.reduceEq, Int.reduceAdd, Int.reduceSub, Int.reduceMul]
    refine ⟨by omega, ?_⟩
    refine xLoop_intro (fun n st => n = 0 ∧ st = ⟨[(1, .d (.sl (strRows a))), (5, .ptr 0 0), (6, .ptr 1 0), (7, .own 2), (8, .d (.v (.int .i64 0))), (9, .d (.v (.int .i64 (-1))))], 3, [(0, .cells 29 [.d (.v (.int .i64 0)), .d (.v (.int .i64 0))]), (1, .cells 77 [.d (.v (.slice none 0 0)), .d (.v (.int .i64 0)), .d (.v (.int .i64 0)), .d (.v (.int .i64 9))]), (2, .row 9 1 [])]⟩) 0 [0, 1, 2] ?_ ?_ ?_
    · simp -dsimp -implicitDefEqProofs only [↓Ev.xStp_eq, ↓Ev.P, Ev.Q, Bool.cond_true, Bool.cond_false, eq_self, forall_eq_or_imp, implies_true, forall_const, forall_eq, ↓reduceIte, reduceIte, Nat.reduceEqDiff, Nat.reduceAdd, reduceCtorEq, Nat.reduceSub, Int.reduceToNat, Int.reduceLE, Int.reduceLT, Int.reduceNeg, Nat.reduceBEq, Nat.reduceMul, Nat.reduceLeDiff, Nat.reduceMod, UInt8.reduceOfNat, Nat.reduceLT, Int.reduceEq, Int.reduceAdd, Int.reduceSub, Int.reduceMul]
    · simp -dsimp -implicitDefEqProofs only [↓Ev.xStp_eq, ↓Ev.P, Ev.Q, Bool.cond_true, Bool.cond_false, eq_self, forall_eq_or_imp, implies_true, forall_const, forall_eq, ↓reduceIte, reduceIte, Nat.reduceEqDiff, Nat.reduceAdd, reduceCtorEq, Nat.reduceSub, Int.reduceToNat, Int.reduceLE, Int.reduceLT, Int.reduceNeg, Nat.reduceBEq, Nat.reduceMul, Nat.reduceLeDiff, Nat.reduceMod, UInt8.reduceOfNat, Nat.reduceLT, Int.reduceEq, Int.reduceAdd, Int.reduceSub, Int.reduceMul]
    · rintro n st ⟨rfl, rfl⟩
      simp -dsimp -implicitDefEqProofs only [CMore, Ev.St.giveC, ↓Ev.P, Ev.Q, Bool.cond_true, Bool.cond_false, eq_self, forall_eq_or_imp, implies_true, forall_const, forall_eq, ↓reduceIte, reduceIte, Nat.reduceEqDiff, Nat.reduceAdd, reduceCtorEq, Nat.reduceSub, Int.reduceToNat, Int.reduceLE, Int.reduceLT, Int.reduceNeg, Nat.reduceBEq, Nat.reduceMul, Nat.reduceLeDiff, Nat.reduceMod, UInt8.reduceOfNat, Nat.reduceLT, Int.reduceEq, Int.reduceAdd, Int.reduceSub, Int.reduceMul]
      repeat' (first | with_reducible assumption | refine And.intro ?_ ?_ | intro _ | (rw [Ev.xStp_eq]; simp -dsimp -implicitDefEqProofs only [CMore, Ev.St.giveC, ↓Ev.P, Ev.Q, Bool.cond_true, Bool.cond_false, eq_self, forall_eq_or_imp, implies_true, forall_const, forall_eq, ↓reduceIte, reduceIte, Nat.reduceEqDiff, Nat.reduceAdd, reduceCtorEq, Nat.reduceSub, Int.reduceToNat, Int.reduceLE, Int.reduceLT, Int.reduceNeg, Nat.reduceBEq, Nat.reduceMul, Nat.reduceLeDiff, Nat.reduceMod, UInt8.reduceOfNat, Nat.reduceLT, Int.reduceEq, Int.reduceAdd, Int.reduceSub, Int.reduceMul]))
      all_goals try omega
      all_goals exact hk
  · rw [rcsRun, if_neg h4] at h2
    obtain ⟨b1, b2⟩ := lns_sz s (by omega)
    generalize hY : rcsGo (lns s) a (lns s).length 0 [] 0 (-1) = Y at h2
    by_cases hz : Y.2.2 = 0
    · rw [refR, if_pos hz, Prod.mk.injEq] at h2
      obtain ⟨rfl, rfl⟩ := h2
      exact ⟨[3], refS (by omega) ha hA rfl b1 b2 hY hz hk⟩
    · rw [refR, if_neg hz, Prod.mk.injEq] at h2
      obtain ⟨rfl, rfl⟩ := h2
      exact ⟨[], refE (by omega) ha hA rfl b1 b2 hY hz hk⟩
end Go.Proofs.YtlghobefhmpfkaaGreatDoor
set_option linter.unusedVariables false
set_option linter.unusedSimpArgs false
/-! errors.As at two concrete targets: *api.Fault and api.Errno (the facts and the walk after the kit's worked toy 'toyas'; printed by as.py). -/
namespace Go.Proofs.YtlghobefhmpfkaaGreatDoor
open Go.RowKit Go.Extern.Stop Go.Stop Go.Extern Go
/-- What errors.As reads of errors.errorType. -/
def ErrT (w : World) : Prop := w.cell? ⟨0, 0, none⟩ = some (.iface 199 (.agg #[.pointer (some ⟨9, 24, none⟩)]))
theorem rlm (z : Sem Value) (f : TypeId → Addr → Nat → Nat → Sem Value) (v : Value) :
    ReflectliteValue.method z f #[v] = (do match ← ReflectliteValue.parts v with | none => z | some (t, a, fl) => f t a fl (fl % 32)) := rfl
theorem rls (v x : Value) : ReflectliteValue.set #[v, x] = (do
    let (some (dst, a, fl), some (src, b, _)) := (← ReflectliteValue.parts v, ← ReflectliteValue.parts x)
      | unsupported (.noEntry "extern/(internal/reflectlite.Value).Set.zeroValue")
    if fl / ReflectliteValue.flagAddr % 2 == 0 then unsupported (.noEntry "extern/(internal/reflectlite.Value).Set.unaddressable")
    let val ← loadVar src b
    if ← Rtype.directlyAssignable dst src then storeVar dst a val
    else if ← Rtype.implements dst src then
      if (← Rtype.kind src) == 20 then
        match val with
        | .nilIface => unsupported (.noEntry "extern/reflectlite: a nil value of one interface type handed on as a value of another")
        | _ => storeVar dst a val
      else storeVar dst a (.iface src val)
    else panicString ("reflectlite.Set: value of type " ++ (← Rtype.spelt src) ++ " is not assignable to type " ++ (← Rtype.spelt dst))
    pure (.tuple #[])) := rfl
theorem mKind (h : Value) (w : World) : (Go.method 423 199 (.agg #[h]) "Kind").run Tryz.prog w = .ok (249, h) w := by kernel_rfl
theorem mElem (h : Value) (w : World) : (Go.method 423 199 (.agg #[h]) "Elem").run Tryz.prog w = .ok (262, .agg #[h]) w := by kernel_rfl
theorem mImplements (h : Value) (w : World) : (Go.method 423 199 (.agg #[h]) "Implements").run Tryz.prog w = .ok (263, .agg #[h]) w := by kernel_rfl
theorem mAssignableTo (h : Value) (w : World) : (Go.method 423 199 (.agg #[h]) "AssignableTo").run Tryz.prog w = .ok (260, .agg #[h]) w := by kernel_rfl
/-! errors.As at a target of type flt -/
theorem valueOfP_flt (t : Addr) (w : World) : (ReflectliteValue.unpack (.iface 81 (.pointer (some t)))).run Tryz.prog w
    = .ok (.agg #[.pointer (some ⟨9, 81, none⟩), .pointer (some ⟨w.heap.size, 0, none⟩), .int .u64 150]) (w.alloc (.cells #[.pointer (some t)] 81)) := by kernel_rfl
theorem typeP_flt (t : Addr) (w : World) : (ReflectliteValue.methodAny (ReflectliteValue.valueError "reflectlite.Value.Type" 0) (fun t _ _ _ => ReflectliteType.toType t) #[.agg #[.pointer (some ⟨9, 81, none⟩), .pointer (some t), .int .u64 150]]).run Tryz.prog w
    = .ok (.iface 199 (.agg #[.pointer (some ⟨9, 81, none⟩)])) w := by kernel_rfl
theorem kindP_flt (w : World) : ((ReflectliteType.abiMethod fun t => (fun a : Nat => Value.int IntKind.u8 (a : Int)) <$> Rtype.kind t) #[.pointer (some ⟨9, 81, none⟩)]).run Tryz.prog w = .ok (.int .u8 22) w := by kernel_rfl
theorem kindE_flt (w : World) : ((ReflectliteType.abiMethod fun t => (fun a : Nat => Value.int IntKind.u8 (a : Int)) <$> Rtype.kind t) #[.pointer (some ⟨9, 79, none⟩)]).run Tryz.prog w = .ok (.int .u8 22) w := by kernel_rfl
theorem partsP_flt (a : Addr) (w : World) : (ReflectliteValue.parts (.agg #[.pointer (some ⟨9, 81, none⟩), .pointer (some a), .int .u64 150])).run Tryz.prog w = .ok (some (81, a, 150)) w := by kernel_rfl
theorem isNilP_flt (a p : Addr) (W : World) (ha : W.cell? a = some (.pointer (some p))) :
    (ReflectliteValue.method (ReflectliteValue.valueError "reflectlite.Value.IsNil" 0) ReflectliteValue.isNil #[.agg #[.pointer (some ⟨9, 81, none⟩), .pointer (some a), .int .u64 150]]).run Tryz.prog W = .ok (.bool false) W := by
  rw [rlm]
  simp only [Sem.run_bind, partsP_flt, Result.andThen]
  simp [ReflectliteValue.isNil, loadVar, isAgg, underlying, Tryz.underlying81, ha, Result.andThen]
theorem elemP_flt (w : World) : (ReflectliteType.method ReflectliteType.elem #[.agg #[.pointer (some ⟨9, 81, none⟩)]]).run Tryz.prog w = .ok (.iface 199 (.agg #[.pointer (some ⟨9, 79, none⟩)])) w := by kernel_rfl
theorem implE_flt (w : World) : (ReflectliteType.relation "Implements" ReflectliteType.implements_ #[.agg #[.pointer (some ⟨9, 79, none⟩)], .iface 199 (.agg #[.pointer (some ⟨9, 24, none⟩)])]).run Tryz.prog w = .ok (.bool true) w := by kernel_rfl
theorem typeOf_flt (v : Value) (w : World) : (ReflectliteType.typeOf #[.iface 79 v]).run Tryz.prog w = .ok (.iface 199 (.agg #[.pointer (some ⟨9, 79, none⟩)])) w := by kernel_rfl
theorem assign_flt (w : World) : (ReflectliteType.relation "AssignableTo" ReflectliteType.assignableTo #[.agg #[.pointer (some ⟨9, 79, none⟩)], .iface 199 (.agg #[.pointer (some ⟨9, 79, none⟩)])]).run Tryz.prog w = .ok (.bool true) w := by kernel_rfl
theorem valueOf_flt (e : Addr) (w : World) : (ReflectliteValue.unpack (.iface 79 (.pointer (some e)))).run Tryz.prog w
    = .ok (.agg #[.pointer (some ⟨9, 79, none⟩), .pointer (some ⟨w.heap.size, 0, none⟩), .int .u64 150]) (w.alloc (.cells #[(.pointer (some e))] 79)) := by kernel_rfl
theorem elemOf_flt (w : World) : (Rtype.elem? 81).run Tryz.prog w = .ok (some 79) w := by kernel_rfl
theorem mkE_flt (p : Addr) (w : World) : (ReflectliteValue.mk 79 p ReflectliteValue.flagAddr).run Tryz.prog w = .ok (.agg #[.pointer (some ⟨9, 79, none⟩), .pointer (some p), .int .u64 406]) w := by kernel_rfl
theorem elemV_flt (a p : Addr) (W : World) (ha : W.cell? a = some (.pointer (some p))) :
    (ReflectliteValue.method (ReflectliteValue.valueError "reflectlite.Value.Elem" 0) ReflectliteValue.elem #[.agg #[.pointer (some ⟨9, 81, none⟩), .pointer (some a), .int .u64 150]]).run Tryz.prog W
      = .ok (.agg #[.pointer (some ⟨9, 79, none⟩), .pointer (some p), .int .u64 406]) W := by
  rw [rlm]
  simp only [Sem.run_bind, partsP_flt, Result.andThen]
  simp [ReflectliteValue.elem, loadVar, isAgg, underlying, Tryz.underlying81, ha, Result.andThen, elemOf_flt, mkE_flt]
theorem partsA_flt (a : Addr) (w : World) : (ReflectliteValue.parts (.agg #[.pointer (some ⟨9, 79, none⟩), .pointer (some a), .int .u64 406])).run Tryz.prog w = .ok (some (79, a, 406)) w := by kernel_rfl
theorem partsB_flt (a : Addr) (w : World) : (ReflectliteValue.parts (.agg #[.pointer (some ⟨9, 79, none⟩), .pointer (some a), .int .u64 150])).run Tryz.prog w = .ok (some (79, a, 150)) w := by kernel_rfl
theorem direct_flt (w : World) : (Rtype.directlyAssignable 79 79).run Tryz.prog w = .ok true w := by kernel_rfl
theorem set_flt (ta b : Addr) (e : Addr) (old : Value) (W : World) (hb : W.cell? b = some (.pointer (some e))) (ht : W.cell? ta = some old) (hf : W.frozen? ta = false) :
    (ReflectliteValue.set #[.agg #[.pointer (some ⟨9, 79, none⟩), .pointer (some ta), .int .u64 406], .agg #[.pointer (some ⟨9, 79, none⟩), .pointer (some b), .int .u64 150]]).run Tryz.prog W
      = .ok (.tuple #[]) (W.setCell ta (.pointer (some e))) := by
  rw [rls]
  simp only [Sem.run_bind, partsA_flt, partsB_flt, Result.andThen]
  simp [ReflectliteValue.flagAddr, loadVar, isAgg, underlying, Tryz.underlying79, hb, Result.andThen, direct_flt, storeVar, Value.cells, storeCells, Addr.add]
  rw [run_store Tryz.prog W ta _ _ (by rfl)]
  simp [ht, hf]
set_option maxHeartbeats 4000000 in
theorem asHit_flt (e : Addr) (t : Addr) (old : Value) (w : World) (hg : ErrT w) (ht0 : w.cell? t = some old) (hf0 : w.frozen? t = false) :
    Calls Tryz.prog 45 #[.iface 79 (.pointer (some e)), .iface 81 (.pointer (some t))] w fun ev w' => ev = .returned (.bool true) ∧ w' = ((((w.alloc (.cells #[.pointer (some t)] 81)).alloc (.cells #[.pointer (some ⟨9, 81, none⟩), .pointer (some ⟨w.heap.size, 0, none⟩), .int .u64 150] 142)).alloc (.cells #[.pointer (some ⟨9, 81, none⟩), .pointer (some ⟨w.heap.size, 0, none⟩), .int .u64 150] 142)).alloc (.cells #[(.pointer (some e))] 79)).setCell t (.pointer (some e)) := by
  have h6 := @run_callFunc_extern Tryz.prog 91 _ (fun args => ReflectliteValue.unpack (args.getD 0 (.tuple #[]))) Tryz.func91 (by kernel_rfl) (by kernel_rfl) (by kernel_rfl) (by kernel_rfl)
  have h7 := @run_callFunc_extern Tryz.prog 92 _ (ReflectliteValue.methodAny (ReflectliteValue.valueError "reflectlite.Value.Type" 0) (fun t _ _ _ => ReflectliteType.toType t)) Tryz.func92 (by kernel_rfl) (by kernel_rfl) (by kernel_rfl) (by kernel_rfl)
  have h8 := @run_callFunc_extern Tryz.prog 93 _ (ReflectliteValue.method (ReflectliteValue.valueError "reflectlite.Value.IsNil" 0) ReflectliteValue.isNil) Tryz.func93 (by kernel_rfl) (by kernel_rfl) (by kernel_rfl) (by kernel_rfl)
  have h27 := @run_callFunc_extern Tryz.prog 249 _ (ReflectliteType.abiMethod fun t => do pure (.int .u8 (← Rtype.kind t))) Tryz.func249 (by kernel_rfl) (by kernel_rfl) (by kernel_rfl) (by kernel_rfl)
  have h37 := @run_callFunc_extern Tryz.prog 262 _ (ReflectliteType.method ReflectliteType.elem) Tryz.func262 (by kernel_rfl) (by kernel_rfl) (by kernel_rfl) (by kernel_rfl)
  have h38 := @run_callFunc_extern Tryz.prog 263 _ (ReflectliteType.relation "Implements" ReflectliteType.implements_) Tryz.func263 (by kernel_rfl) (by kernel_rfl) (by kernel_rfl) (by kernel_rfl)
  have h10 := @run_callFunc_extern Tryz.prog 150 _ ReflectliteType.typeOf Tryz.func150 (by kernel_rfl) (by kernel_rfl) (by kernel_rfl) (by kernel_rfl)
  have h35 := @run_callFunc_extern Tryz.prog 260 _ (ReflectliteType.relation "AssignableTo" ReflectliteType.assignableTo) Tryz.func260 (by kernel_rfl) (by kernel_rfl) (by kernel_rfl) (by kernel_rfl)
  have h11 := @run_callFunc_extern Tryz.prog 151 _ (ReflectliteValue.method (ReflectliteValue.valueError "reflectlite.Value.Elem" 0) ReflectliteValue.elem) Tryz.func151 (by kernel_rfl) (by kernel_rfl) (by kernel_rfl) (by kernel_rfl)
  have h12 := @run_callFunc_extern Tryz.prog 152 _ ReflectliteValue.set Tryz.func152 (by kernel_rfl) (by kernel_rfl) (by kernel_rfl) (by kernel_rfl)
  have f6 := valueOfP_flt
  have f7 := typeP_flt
  have tO := typeOf_flt
  have a25 := assign_flt
  have v25 := valueOf_flt
  have mA := mAssignableTo
  have mK := mKind
  have mE := mElem
  have mI := mImplements
  have k27 := kindP_flt
  have k25 := kindE_flt
  have e27 := elemP_flt
  have i25 := implE_flt
  have n8 := isNilP_flt ⟨w.heap.size, 0, none⟩ t ((w.alloc (.cells #[.pointer (some t)] 81)).alloc (.cells #[.pointer (some ⟨9, 81, none⟩), .pointer (some ⟨w.heap.size, 0, none⟩), .int .u64 150] 142)) (by simp)
  unfold ErrT at hg
  have hlt : 0 < w.heap.size := by
    rcases Nat.eq_zero_or_pos w.heap.size with h0 | h
    · simp [World.cell?, h0] at hg
    · exact h
  have hg2 : ((w.alloc (.cells #[.pointer (some t)] 81)).alloc (.cells #[.pointer (some ⟨9, 81, none⟩), .pointer (some ⟨w.heap.size, 0, none⟩), .int .u64 150] 142)).cell? ⟨0, 0, none⟩ = some (.iface 199 (.agg #[.pointer (some ⟨9, 24, none⟩)])) := by
    rw [World.cell?_alloc_lt _ _ ⟨0, 0, none⟩ (by simp), World.cell?_alloc_lt _ _ ⟨0, 0, none⟩ hlt]; exact hg
  have htl : t.block < w.heap.size := by
    rcases Nat.lt_or_ge t.block w.heap.size with h | h
    · exact h
    · simp [World.cell?, Array.getElem?_eq_none h] at ht0
  have el := elemV_flt ⟨w.heap.size, 0, none⟩ t (((w.alloc (.cells #[.pointer (some t)] 81)).alloc (.cells #[.pointer (some ⟨9, 81, none⟩), .pointer (some ⟨w.heap.size, 0, none⟩), .int .u64 150] 142)).alloc (.cells #[.pointer (some ⟨9, 81, none⟩), .pointer (some ⟨w.heap.size, 0, none⟩), .int .u64 150] 142)) (by rw [World.cell?_alloc_lt _ _ ⟨w.heap.size, 0, none⟩ (by simp; omega)]; simp)
  have st := set_flt t ⟨w.heap.size + 1 + 1 + 1, 0, none⟩ e old ((((w.alloc (.cells #[.pointer (some t)] 81)).alloc (.cells #[.pointer (some ⟨9, 81, none⟩), .pointer (some ⟨w.heap.size, 0, none⟩), .int .u64 150] 142)).alloc (.cells #[.pointer (some ⟨9, 81, none⟩), .pointer (some ⟨w.heap.size, 0, none⟩), .int .u64 150] 142)).alloc (.cells #[(.pointer (some e))] 79))
    (by rw [World.cell?_alloc_at _ _ _ _ (by simp)]; rfl)
    (by rw [World.cell?_alloc_lt _ _ t (by simp; omega), World.cell?_alloc_lt _ _ t (by simp; omega), World.cell?_alloc_lt _ _ t (by simp; omega), World.cell?_alloc_lt _ _ t htl]; exact ht0)
    (by rw [World.frozen?_alloc_old _ _ t (by simp; omega), World.frozen?_alloc_old _ _ t (by simp; omega), World.frozen?_alloc_old _ _ t (by simp; omega), World.frozen?_alloc_old _ _ t (Nat.ne_of_lt htl)]; exact hf0)
  go_enter Tryz.func45, Tryz.ntmps45
  go_wp2
  refine wp_loop_rounds 1 ?_
  rw [rounds_succ]
  go_wp2
  go_ret
  exact ⟨rfl, rfl⟩
/-! errors.As at a target of type errno -/
theorem valueOfP_errno (t : Addr) (w : World) : (ReflectliteValue.unpack (.iface 84 (.pointer (some t)))).run Tryz.prog w
    = .ok (.agg #[.pointer (some ⟨9, 84, none⟩), .pointer (some ⟨w.heap.size, 0, none⟩), .int .u64 150]) (w.alloc (.cells #[.pointer (some t)] 84)) := by kernel_rfl
theorem typeP_errno (t : Addr) (w : World) : (ReflectliteValue.methodAny (ReflectliteValue.valueError "reflectlite.Value.Type" 0) (fun t _ _ _ => ReflectliteType.toType t) #[.agg #[.pointer (some ⟨9, 84, none⟩), .pointer (some t), .int .u64 150]]).run Tryz.prog w
    = .ok (.iface 199 (.agg #[.pointer (some ⟨9, 84, none⟩)])) w := by kernel_rfl
theorem kindP_errno (w : World) : ((ReflectliteType.abiMethod fun t => (fun a : Nat => Value.int IntKind.u8 (a : Int)) <$> Rtype.kind t) #[.pointer (some ⟨9, 84, none⟩)]).run Tryz.prog w = .ok (.int .u8 22) w := by kernel_rfl
theorem kindE_errno (w : World) : ((ReflectliteType.abiMethod fun t => (fun a : Nat => Value.int IntKind.u8 (a : Int)) <$> Rtype.kind t) #[.pointer (some ⟨9, 27, none⟩)]).run Tryz.prog w = .ok (.int .u8 2) w := by kernel_rfl
theorem partsP_errno (a : Addr) (w : World) : (ReflectliteValue.parts (.agg #[.pointer (some ⟨9, 84, none⟩), .pointer (some a), .int .u64 150])).run Tryz.prog w = .ok (some (84, a, 150)) w := by kernel_rfl
theorem isNilP_errno (a p : Addr) (W : World) (ha : W.cell? a = some (.pointer (some p))) :
    (ReflectliteValue.method (ReflectliteValue.valueError "reflectlite.Value.IsNil" 0) ReflectliteValue.isNil #[.agg #[.pointer (some ⟨9, 84, none⟩), .pointer (some a), .int .u64 150]]).run Tryz.prog W = .ok (.bool false) W := by
  rw [rlm]
  simp only [Sem.run_bind, partsP_errno, Result.andThen]
  simp [ReflectliteValue.isNil, loadVar, isAgg, underlying, Tryz.underlying84, ha, Result.andThen]
theorem elemP_errno (w : World) : (ReflectliteType.method ReflectliteType.elem #[.agg #[.pointer (some ⟨9, 84, none⟩)]]).run Tryz.prog w = .ok (.iface 199 (.agg #[.pointer (some ⟨9, 27, none⟩)])) w := by kernel_rfl
theorem implE_errno (w : World) : (ReflectliteType.relation "Implements" ReflectliteType.implements_ #[.agg #[.pointer (some ⟨9, 27, none⟩)], .iface 199 (.agg #[.pointer (some ⟨9, 24, none⟩)])]).run Tryz.prog w = .ok (.bool true) w := by kernel_rfl
theorem typeOf_errno (v : Value) (w : World) : (ReflectliteType.typeOf #[.iface 27 v]).run Tryz.prog w = .ok (.iface 199 (.agg #[.pointer (some ⟨9, 27, none⟩)])) w := by kernel_rfl
theorem assign_errno (w : World) : (ReflectliteType.relation "AssignableTo" ReflectliteType.assignableTo #[.agg #[.pointer (some ⟨9, 27, none⟩)], .iface 199 (.agg #[.pointer (some ⟨9, 27, none⟩)])]).run Tryz.prog w = .ok (.bool true) w := by kernel_rfl
theorem valueOf_errno (e : Int) (w : World) : (ReflectliteValue.unpack (.iface 27 (.int .i64 e))).run Tryz.prog w
    = .ok (.agg #[.pointer (some ⟨9, 27, none⟩), .pointer (some ⟨w.heap.size, 0, none⟩), .int .u64 130]) (w.alloc (.cells #[(.int .i64 e)] 27)) := by kernel_rfl
theorem elemOf_errno (w : World) : (Rtype.elem? 84).run Tryz.prog w = .ok (some 27) w := by kernel_rfl
theorem mkE_errno (p : Addr) (w : World) : (ReflectliteValue.mk 27 p ReflectliteValue.flagAddr).run Tryz.prog w = .ok (.agg #[.pointer (some ⟨9, 27, none⟩), .pointer (some p), .int .u64 386]) w := by kernel_rfl
theorem elemV_errno (a p : Addr) (W : World) (ha : W.cell? a = some (.pointer (some p))) :
    (ReflectliteValue.method (ReflectliteValue.valueError "reflectlite.Value.Elem" 0) ReflectliteValue.elem #[.agg #[.pointer (some ⟨9, 84, none⟩), .pointer (some a), .int .u64 150]]).run Tryz.prog W
      = .ok (.agg #[.pointer (some ⟨9, 27, none⟩), .pointer (some p), .int .u64 386]) W := by
  rw [rlm]
  simp only [Sem.run_bind, partsP_errno, Result.andThen]
  simp [ReflectliteValue.elem, loadVar, isAgg, underlying, Tryz.underlying84, ha, Result.andThen, elemOf_errno, mkE_errno]
theorem partsA_errno (a : Addr) (w : World) : (ReflectliteValue.parts (.agg #[.pointer (some ⟨9, 27, none⟩), .pointer (some a), .int .u64 386])).run Tryz.prog w = .ok (some (27, a, 386)) w := by kernel_rfl
theorem partsB_errno (a : Addr) (w : World) : (ReflectliteValue.parts (.agg #[.pointer (some ⟨9, 27, none⟩), .pointer (some a), .int .u64 130])).run Tryz.prog w = .ok (some (27, a, 130)) w := by kernel_rfl
theorem direct_errno (w : World) : (Rtype.directlyAssignable 27 27).run Tryz.prog w = .ok true w := by kernel_rfl
theorem set_errno (ta b : Addr) (e : Int) (old : Value) (W : World) (hb : W.cell? b = some (.int .i64 e)) (ht : W.cell? ta = some old) (hf : W.frozen? ta = false) :
    (ReflectliteValue.set #[.agg #[.pointer (some ⟨9, 27, none⟩), .pointer (some ta), .int .u64 386], .agg #[.pointer (some ⟨9, 27, none⟩), .pointer (some b), .int .u64 130]]).run Tryz.prog W
      = .ok (.tuple #[]) (W.setCell ta (.int .i64 e)) := by
  rw [rls]
  simp only [Sem.run_bind, partsA_errno, partsB_errno, Result.andThen]
  simp [ReflectliteValue.flagAddr, loadVar, isAgg, underlying, Tryz.underlying27, hb, Result.andThen, direct_errno, storeVar, Value.cells, storeCells, Addr.add]
  rw [run_store Tryz.prog W ta _ _ (by rfl)]
  simp [ht, hf]
set_option maxHeartbeats 4000000 in
theorem asHit_errno (e : Int) (t : Addr) (old : Value) (w : World) (hg : ErrT w) (ht0 : w.cell? t = some old) (hf0 : w.frozen? t = false) :
    Calls Tryz.prog 45 #[.iface 27 (.int .i64 e), .iface 84 (.pointer (some t))] w fun ev w' => ev = .returned (.bool true) ∧ w' = ((((w.alloc (.cells #[.pointer (some t)] 84)).alloc (.cells #[.pointer (some ⟨9, 84, none⟩), .pointer (some ⟨w.heap.size, 0, none⟩), .int .u64 150] 142)).alloc (.cells #[.pointer (some ⟨9, 84, none⟩), .pointer (some ⟨w.heap.size, 0, none⟩), .int .u64 150] 142)).alloc (.cells #[(.int .i64 e)] 27)).setCell t (.int .i64 e) := by
  have h6 := @run_callFunc_extern Tryz.prog 91 _ (fun args => ReflectliteValue.unpack (args.getD 0 (.tuple #[]))) Tryz.func91 (by kernel_rfl) (by kernel_rfl) (by kernel_rfl) (by kernel_rfl)
  have h7 := @run_callFunc_extern Tryz.prog 92 _ (ReflectliteValue.methodAny (ReflectliteValue.valueError "reflectlite.Value.Type" 0) (fun t _ _ _ => ReflectliteType.toType t)) Tryz.func92 (by kernel_rfl) (by kernel_rfl) (by kernel_rfl) (by kernel_rfl)
  have h8 := @run_callFunc_extern Tryz.prog 93 _ (ReflectliteValue.method (ReflectliteValue.valueError "reflectlite.Value.IsNil" 0) ReflectliteValue.isNil) Tryz.func93 (by kernel_rfl) (by kernel_rfl) (by kernel_rfl) (by kernel_rfl)
  have h27 := @run_callFunc_extern Tryz.prog 249 _ (ReflectliteType.abiMethod fun t => do pure (.int .u8 (← Rtype.kind t))) Tryz.func249 (by kernel_rfl) (by kernel_rfl) (by kernel_rfl) (by kernel_rfl)
  have h37 := @run_callFunc_extern Tryz.prog 262 _ (ReflectliteType.method ReflectliteType.elem) Tryz.func262 (by kernel_rfl) (by kernel_rfl) (by kernel_rfl) (by kernel_rfl)
  have h38 := @run_callFunc_extern Tryz.prog 263 _ (ReflectliteType.relation "Implements" ReflectliteType.implements_) Tryz.func263 (by kernel_rfl) (by kernel_rfl) (by kernel_rfl) (by kernel_rfl)
  have h10 := @run_callFunc_extern Tryz.prog 150 _ ReflectliteType.typeOf Tryz.func150 (by kernel_rfl) (by kernel_rfl) (by kernel_rfl) (by kernel_rfl)
  have h35 := @run_callFunc_extern Tryz.prog 260 _ (ReflectliteType.relation "AssignableTo" ReflectliteType.assignableTo) Tryz.func260 (by kernel_rfl) (by kernel_rfl) (by kernel_rfl) (by kernel_rfl)
  have h11 := @run_callFunc_extern Tryz.prog 151 _ (ReflectliteValue.method (ReflectliteValue.valueError "reflectlite.Value.Elem" 0) ReflectliteValue.elem) Tryz.func151 (by kernel_rfl) (by kernel_rfl) (by kernel_rfl) (by kernel_rfl)
  have h12 := @run_callFunc_extern Tryz.prog 152 _ ReflectliteValue.set Tryz.func152 (by kernel_rfl) (by kernel_rfl) (by kernel_rfl) (by kernel_rfl)
  have f6 := valueOfP_errno
  have f7 := typeP_errno
  have tO := typeOf_errno
  have a25 := assign_errno
  have v25 := valueOf_errno
  have mA := mAssignableTo
  have mK := mKind
  have mE := mElem
  have mI := mImplements
  have k27 := kindP_errno
  have k25 := kindE_errno
  have e27 := elemP_errno
  have i25 := implE_errno
  have n8 := isNilP_errno ⟨w.heap.size, 0, none⟩ t ((w.alloc (.cells #[.pointer (some t)] 84)).alloc (.cells #[.pointer (some ⟨9, 84, none⟩), .pointer (some ⟨w.heap.size, 0, none⟩), .int .u64 150] 142)) (by simp)
  unfold ErrT at hg
  have hlt : 0 < w.heap.size := by
    rcases Nat.eq_zero_or_pos w.heap.size with h0 | h
    · simp [World.cell?, h0] at hg
    · exact h
  have hg2 : ((w.alloc (.cells #[.pointer (some t)] 84)).alloc (.cells #[.pointer (some ⟨9, 84, none⟩), .pointer (some ⟨w.heap.size, 0, none⟩), .int .u64 150] 142)).cell? ⟨0, 0, none⟩ = some (.iface 199 (.agg #[.pointer (some ⟨9, 24, none⟩)])) := by
    rw [World.cell?_alloc_lt _ _ ⟨0, 0, none⟩ (by simp), World.cell?_alloc_lt _ _ ⟨0, 0, none⟩ hlt]; exact hg
  have htl : t.block < w.heap.size := by
    rcases Nat.lt_or_ge t.block w.heap.size with h | h
    · exact h
    · simp [World.cell?, Array.getElem?_eq_none h] at ht0
  have el := elemV_errno ⟨w.heap.size, 0, none⟩ t (((w.alloc (.cells #[.pointer (some t)] 84)).alloc (.cells #[.pointer (some ⟨9, 84, none⟩), .pointer (some ⟨w.heap.size, 0, none⟩), .int .u64 150] 142)).alloc (.cells #[.pointer (some ⟨9, 84, none⟩), .pointer (some ⟨w.heap.size, 0, none⟩), .int .u64 150] 142)) (by rw [World.cell?_alloc_lt _ _ ⟨w.heap.size, 0, none⟩ (by simp; omega)]; simp)
  have st := set_errno t ⟨w.heap.size + 1 + 1 + 1, 0, none⟩ e old ((((w.alloc (.cells #[.pointer (some t)] 84)).alloc (.cells #[.pointer (some ⟨9, 84, none⟩), .pointer (some ⟨w.heap.size, 0, none⟩), .int .u64 150] 142)).alloc (.cells #[.pointer (some ⟨9, 84, none⟩), .pointer (some ⟨w.heap.size, 0, none⟩), .int .u64 150] 142)).alloc (.cells #[(.int .i64 e)] 27))
    (by rw [World.cell?_alloc_at _ _ _ _ (by simp)]; rfl)
    (by rw [World.cell?_alloc_lt _ _ t (by simp; omega), World.cell?_alloc_lt _ _ t (by simp; omega), World.cell?_alloc_lt _ _ t (by simp; omega), World.cell?_alloc_lt _ _ t htl]; exact ht0)
    (by rw [World.frozen?_alloc_old _ _ t (by simp; omega), World.frozen?_alloc_old _ _ t (by simp; omega), World.frozen?_alloc_old _ _ t (by simp; omega), World.frozen?_alloc_old _ _ t (Nat.ne_of_lt htl)]; exact hf0)
  go_enter Tryz.func45, Tryz.ntmps45
  go_wp2
  refine wp_loop_rounds 1 ?_
  rw [rounds_succ]
  go_wp2
  go_ret
  exact ⟨rfl, rfl⟩
end Go.Proofs.YtlghobefhmpfkaaGreatDoor
set_option linter.unusedVariables false
set_option linter.unusedSimpArgs false
namespace Go.Proofs.YtlghobefhmpfkaaGreatDoor
open Go.RowKit Go.Extern.Stop Go.Stop Go.Extern Go
set_option maxRecDepth 100000
/-- What a call of errors.As leaves: the target is set, and there are new blocks. -/
structure AsLeft (w w' : World) (t : Addr) (v : Value) : Prop where
  cell : w'.cell? t = some v
  old : ∀ a : Addr, a.block < w.heap.size → a.block ≠ t.block → w'.cell? a = w.cell? a
  size : w.heap.size ≤ w'.heap.size
  frozen : ∀ a : Addr, a.block < w.heap.size → w'.frozen? a = w.frozen? a
  below : ∀ B, B ≤ t.block → Below B w w'
theorem asLeft_of {w : World} {t : Addr} {old v : Value} (ht : w.cell? t = some old) (o1 o2 o3 o4 : Obj) : AsLeft w (((((w.alloc o1).alloc o2).alloc o3).alloc o4).setCell t v) t v := by
  have hl : t.block < w.heap.size := Ev.cell_lt ht
  have hb : Below w.heap.size w ((((w.alloc o1).alloc o2).alloc o3).alloc o4) := ((((Below.refl _ w).alloc (Nat.le_refl _) o1).alloc (by simp) o2).alloc (by simp; omega) o3).alloc (by simp; omega) o4
  have ht4 : ((((w.alloc o1).alloc o2).alloc o3).alloc o4).cell? t = some old := by rw [hb.cell hl]; exact ht
  refine ⟨?_, fun a ha hne => ?_, ?_, fun a ha => ?_, fun B hB => ((hb.mono (by omega)).setCell hB v)⟩
  · exact World.cell?_setCell_same _ _ _ ht4
  · have h2 : (((((w.alloc o1).alloc o2).alloc o3).alloc o4).setCell t v).heap[a.block]? = ((((w.alloc o1).alloc o2).alloc o3).alloc o4).heap[a.block]? := Below.heap_setCell _ _ _ _ hne
    rw [World.cell?_of_block h2, hb.cell ha]
  · simp; omega
  · rw [World.frozen?_setCell, hb.frozen ha]
theorem asF (e t : Addr) (old : Value) (w : World) (hg : ErrT w) (ht0 : w.cell? t = some old) (hf0 : w.frozen? t = false) :
    Calls Tryz.prog 45 #[.iface 79 (.pointer (some e)), .iface 81 (.pointer (some t))] w fun ev w' => ev = .returned (.bool true) ∧ AsLeft w w' t (.pointer (some e)) := by
  refine (asHit_flt e t old w hg ht0 hf0).mono ?_
  rintro ev w' ⟨rfl, rfl⟩
  exact ⟨rfl, asLeft_of ht0 _ _ _ _⟩
theorem asE (e : Int) (t : Addr) (old : Value) (w : World) (hg : ErrT w) (ht0 : w.cell? t = some old) (hf0 : w.frozen? t = false) :
    Calls Tryz.prog 45 #[.iface 27 (.int .i64 e), .iface 84 (.pointer (some t))] w fun ev w' => ev = .returned (.bool true) ∧ AsLeft w w' t (.int .i64 e) := by
  refine (asHit_errno e t old w hg ht0 hf0).mono ?_
  rintro ev w' ⟨rfl, rfl⟩
  exact ⟨rfl, asLeft_of ht0 _ _ _ _⟩
theorem results_pair {P : Program} {fn : Func} {t : Tmp} {ty : TypeId} (h : fn.results = #[.cell t ty]) (tmps : Array Value) (w : World) {b : Nat} {x y : Value} (hp : Ev.ldT P ty = some (true, 2))
    (ht : tmps.getD t undef = .pointer (some ⟨b, 0, none⟩)) (h0 : w.cell? ⟨b, 0, none⟩ = some x) (h1 : w.cell? ⟨b, 1, none⟩ = some y) : (results fn tmps).run P w = .ok (.agg #[x, y]) w := by
  have hv := Ev.run_ld_agg (w := w) hp (ad := ⟨b, 0, none⟩) (vs := [x, y]) rfl (fun j v hj => by
    match j, hj with
    | 0, hj => simp at hj; subst hj; exact h0
    | 1, hj => simp at hj; subst hj; exact h1
    | j + 2, hj => simp at hj)
  rw [Ev.results_eq, h]
  simp [Ev.rrRun, ht, asAddr, hv]
theorem ld53 : Ev.ldT Tryz.prog 29 = some (true, 2) := by kernel_rfl
theorem seen_nil (w : World) : Calls Tryz.prog 13 #[.nilIface] w fun ev w' => ev = .returned (.agg #[.int .i64 0, .int .i64 0]) ∧ Below w.heap.size w w' := by
  go_enter Tryz.func13, Tryz.ntmps13
  go_wp2
  (try simp only [Exit.inBlock, Exit.then])
  refine bodyPost_ret (results_pair (b := w.heap.size) (x := .int .i64 0) (y := .int .i64 0) rfl _ _ ld53 rfl (by simp) (by simp)) rfl ⟨rfl, (Below.refl _ _).alloc (Nat.le_refl _) _⟩
theorem ErrT.pos {w : World} (h : ErrT w) : 0 < w.heap.size := by
  unfold ErrT at h
  exact Ev.cell_lt h
theorem ErrT.below {w w' : World} (h : ErrT w) (hb : Below w.heap.size w w') : ErrT w' := by
  have := h.pos
  unfold ErrT at h ⊢
  rw [hb.cell this]; exact h
set_option maxHeartbeats 4000000 in
theorem seen_flt (p : Addr) (at_ e : Int) (w : World) (hg : ErrT w) (h0 : w.cell? p = some (.int .i64 at_)) (h1 : w.cell? (p.add 1) = some (.iface 27 (.int .i64 e))) :
    Calls Tryz.prog 13 #[.iface 79 (.pointer (some p))] w fun ev w' => ev = .returned (.agg #[.int .i64 at_, .int .i64 e]) ∧ Below w.heap.size w w' := by
  have hpl := Ev.cell_lt h0
  have hpa : (p.add 1).block = p.block := by unfold Addr.add; split <;> rfl
  have hp0 := hg.pos
  have bA : Below w.heap.size w (((w.alloc (.cells #[.int .i64 0, .int .i64 0] 29)).alloc (.cells #[.pointer none] 79)).alloc (.cells #[.int .i64 0] 27)) := (((Below.refl _ _).alloc (Nat.le_refl _) _).alloc (by simp) _).alloc (by simp; omega) _
  obtain ⟨W, hW⟩ : ∃ W, (((w.alloc (.cells #[.int .i64 0, .int .i64 0] 29)).alloc (.cells #[.pointer none] 79)).alloc (.cells #[.int .i64 0] 27)) = W := ⟨_, rfl⟩
  have sA : W.heap.size = w.heap.size + 3 := by rw [← hW]; simp
  have cA0 : W.cell? ⟨w.heap.size, 0, none⟩ = some (.int .i64 0) := by rw [← hW, World.cell?_alloc_lt _ _ _ (by simp <;> omega), World.cell?_alloc_lt _ _ _ (by simp <;> omega), World.cell?_alloc_at _ _ _ _ (by simp)]; rfl
  have cA1 : W.cell? ⟨w.heap.size, 1, none⟩ = some (.int .i64 0) := by rw [← hW, World.cell?_alloc_lt _ _ _ (by simp <;> omega), World.cell?_alloc_lt _ _ _ (by simp <;> omega), World.cell?_alloc_at _ _ _ _ (by simp)]; rfl
  have cA2 : W.cell? ⟨w.heap.size + 1, 0, none⟩ = some (.pointer none) := by rw [← hW, World.cell?_alloc_lt _ _ _ (by simp <;> omega), World.cell?_alloc_at _ _ _ _ (by simp)]; rfl
  have cA3 : W.cell? ⟨w.heap.size + 1 + 1, 0, none⟩ = some (.int .i64 0) := by rw [← hW, World.cell?_alloc_at _ _ _ _ (by simp)]; rfl
  have fA0 : W.frozen? ⟨w.heap.size, 0, none⟩ = false := by rw [← hW, World.frozen?_alloc_old _ _ _ (by simp <;> omega), World.frozen?_alloc_old _ _ _ (by simp <;> omega), World.frozen?_alloc_at _ _ _ _ (by simp)]
  have fA1 : W.frozen? ⟨w.heap.size, 1, none⟩ = false := by rw [← hW, World.frozen?_alloc_old _ _ _ (by simp <;> omega), World.frozen?_alloc_old _ _ _ (by simp <;> omega), World.frozen?_alloc_at _ _ _ _ (by simp)]
  have fA2 : W.frozen? ⟨w.heap.size + 1, 0, none⟩ = false := by rw [← hW, World.frozen?_alloc_old _ _ _ (by simp <;> omega), World.frozen?_alloc_at _ _ _ _ (by simp)]
  have fA3 : W.frozen? ⟨w.heap.size + 1 + 1, 0, none⟩ = false := by rw [← hW, World.frozen?_alloc_at _ _ _ _ (by simp)]
  rw [hW] at bA
  have gA : ErrT W := hg.below bA
  go_enter Tryz.func13, Tryz.ntmps13
  go_wp2_with (go_at_call 45; rw [hW])
  refine (asF p ⟨w.heap.size + 1, 0, none⟩ (.pointer none) W gA cA2 fA2).mono ?_
  rintro ev W1 ⟨rfl, hL⟩
  have hWs : w.heap.size ≤ W.heap.size := by omega
  have b1 : Below w.heap.size W W1 := hL.below _ (by simp)
  have bW1 : Below w.heap.size w W1 := bA.trans b1
  have s1 : W.heap.size ≤ W1.heap.size := hL.size
  have g1 : ErrT W1 := hg.below bW1
  have cB2 : W1.cell? ⟨w.heap.size + 1, 0, none⟩ = some (.pointer (some p)) := hL.cell
  have cB0 : W1.cell? ⟨w.heap.size, 0, none⟩ = some (.int .i64 0) := by rw [hL.old _ (by show w.heap.size < W.heap.size; omega) (by show w.heap.size ≠ w.heap.size + 1; omega)]; exact cA0
  have cB1 : W1.cell? ⟨w.heap.size, 1, none⟩ = some (.int .i64 0) := by rw [hL.old _ (by show w.heap.size < W.heap.size; omega) (by show w.heap.size ≠ w.heap.size + 1; omega)]; exact cA1
  have cB3 : W1.cell? ⟨w.heap.size + 1 + 1, 0, none⟩ = some (.int .i64 0) := by rw [hL.old _ (by show w.heap.size + 1 + 1 < W.heap.size; omega) (by show w.heap.size + 1 + 1 ≠ w.heap.size + 1; omega)]; exact cA3
  have fB0 : W1.frozen? ⟨w.heap.size, 0, none⟩ = false := by rw [hL.frozen _ (by show w.heap.size < W.heap.size; omega)]; exact fA0
  have fB1 : W1.frozen? ⟨w.heap.size, 1, none⟩ = false := by rw [hL.frozen _ (by show w.heap.size < W.heap.size; omega)]; exact fA1
  have fB3 : W1.frozen? ⟨w.heap.size + 1 + 1, 0, none⟩ = false := by rw [hL.frozen _ (by show w.heap.size + 1 + 1 < W.heap.size; omega)]; exact fA3
  have cp0 : W1.cell? p = some (.int .i64 at_) := by rw [bW1.cell hpl]; exact h0
  have cp1 : W1.cell? ⟨p.block, p.off + 1, none⟩ = some (.iface 27 (.int .i64 e)) := by rw [show (⟨p.block, p.off + 1, none⟩ : Addr) = p.add 1 from rfl, bW1.cell (by rw [hpa]; exact hpl)]; exact h1
  clear hL
  go_wp2_with (go_at_call 45; refine (asE e ⟨w.heap.size + 1 + 1, 0, none⟩ (.int .i64 0) W1 g1 cB3 fB3).mono ?_)
  rintro ev W2 ⟨rfl, hL⟩
  have b2 : Below w.heap.size W1 W2 := hL.below _ (by simp <;> omega)
  have bW2 : Below w.heap.size w W2 := bW1.trans b2
  have cC2 : W2.cell? ⟨w.heap.size + 1, 0, none⟩ = some (.pointer (some p)) := by rw [hL.old _ (by show w.heap.size + 1 < W1.heap.size; omega) (by show w.heap.size + 1 ≠ w.heap.size + 1 + 1; omega)]; exact cB2
  have cC3 : W2.cell? ⟨w.heap.size + 1 + 1, 0, none⟩ = some (.int .i64 e) := hL.cell
  have cC0 : W2.cell? ⟨w.heap.size, 0, none⟩ = some (.int .i64 0) := by rw [hL.old _ (by show w.heap.size < W1.heap.size; omega) (by show w.heap.size ≠ w.heap.size + 1 + 1; omega)]; exact cB0
  have cC1 : W2.cell? ⟨w.heap.size, 1, none⟩ = some (.int .i64 0) := by rw [hL.old _ (by show w.heap.size < W1.heap.size; omega) (by show w.heap.size ≠ w.heap.size + 1 + 1; omega)]; exact cB1
  have fC0 : W2.frozen? ⟨w.heap.size, 0, none⟩ = false := by rw [hL.frozen _ (by show w.heap.size < W1.heap.size; omega)]; exact fB0
  have fC1 : W2.frozen? ⟨w.heap.size, 1, none⟩ = false := by rw [hL.frozen _ (by show w.heap.size < W1.heap.size; omega)]; exact fB1
  have cq0 : W2.cell? p = some (.int .i64 at_) := by rw [bW2.cell hpl]; exact h0
  clear hL
  have hadd : p.add 0 = p := rfl
  go_wp2
  go_region
  go_wp2
  (try simp only [Exit.inBlock, Exit.then])
  refine bodyPost_ret (results_pair (b := w.heap.size) (x := .int .i64 at_) (y := .int .i64 e) rfl _ _ ld53 rfl ?_ ?_) rfl ⟨rfl, ((bW2.setCell (Nat.le_refl _) _).setCell (Nat.le_refl _) _).drew⟩
  · show ((W2.setCell _ _).setCell _ _).cell? _ = _
    rw [World.cell?_setCell_other _ _ _ _ (by simp), World.cell?_setCell_same _ _ _ cC0]
  · show ((W2.setCell _ _).setCell _ _).cell? _ = _
    rw [World.cell?_setCell_same _ _ _ (by rw [World.cell?_setCell_other _ _ _ _ (by simp)]; exact cC1)]
open Go.Ev in
/-- What Seen makes of an error. -/
def CSeen : Contract := pureC fun args => match args with
  | [.d (.v .nilIface)] => some (True, .agg [.d (.v (.int .i64 0)), .d (.v (.int .i64 0))])
  | [.d (.ifc t (.pt [.v (.int .i64 at_), .ifc u (.v (.int .i64 e))]))] => some (t = 79 ∧ u = 27, .agg [.d (.v (.int .i64 at_)), .d (.v (.int .i64 e))])
  | _ => none
open Go.Ev in
theorem sSeen {G : World → Prop} (hG : ∀ w, G w → ErrT w) : Sound G Tryz.prog 13 CSeen := by
  refine sound_lib ⟨Tryz.f13, by kernel_rfl, by kernel_rfl, by kernel_rfl⟩ fun args p x h hp => ?_
  split at h <;> simp only [Option.some.injEq, Prod.mk.injEq, reduceCtorEq] at h
  · obtain ⟨rfl, rfl⟩ := h
    refine ⟨.agg #[.int .i64 0, .int .i64 0], fun m n c => by simp [Cn, CnL, Rd, Value.oneCell'], fun w hw m c vs hc hv => ?_⟩
    match vs, hv with
    | [a], hv =>
      simp only [CnL, and_true] at hv
      rw [of_v hv]
      exact seen_nil w
    | [], hv => simp [CnL] at hv
    | _ :: _ :: _, hv => simp [CnL] at hv
  · obtain ⟨rfl, rfl⟩ := h
    rename_i t at_ u e
    obtain ⟨rfl, rfl⟩ := hp
    refine ⟨.agg #[.int .i64 at_, .int .i64 e], fun m n c => by simp [Cn, CnL, Rd, Value.oneCell'], fun w hw m c vs hc hv => ?_⟩
    match vs, hv with
    | [a], hv =>
      simp only [CnL, and_true, Cn, Rd, RdCells] at hv
      obtain ⟨z, rfl, ad, rfl, ⟨u1, h1, rfl, _⟩, ⟨u2, h2, z2, rfl, rfl, _⟩⟩ := hv
      exact seen_flt ad at_ e w (hG w hw) (hc _ _ h1) (hc _ _ h2)
    | [], hv => simp [CnL] at hv
    | _ :: _ :: _, hv => simp [CnL] at hv
end Go.Proofs.YtlghobefhmpfkaaGreatDoor
set_option linter.unusedVariables false
set_option linter.unusedSimpArgs false
namespace Go.Proofs.YtlghobefhmpfkaaGreatDoor
open Go Go.Ev Go.Rcs
set_option maxRecDepth 100000
variable {G : World → Prop}
theorem rcsGo_end_len (L a out : List (List UInt8)) (done : Nat) : (rcsEnd L a out done).1.length ≤ out.length + a.length := by
  unfold rcsEnd
  split
  · rw [List.length_append, List.length_drop]; omega
  · simp
theorem rcsGo_len (L a : List (List UInt8)) : ∀ (n i : Nat) (out : List (List UInt8)) (done : Nat) (put : Int), (rcsGo L a n i out done put).1.length ≤ out.length + (n + 1) * a.length + (L.length - i) := by
  intro n
  induction n using Nat.strongRecOn with
  | ind n ih =>
    intro i out done put
    cases n with
    | zero =>
      rw [rcsGo]
      have := rcsGo_end_len L a out done
      omega
    | succ n =>
      have hs1 : ∀ x y, (seg a x y).length ≤ a.length := fun x y => by unfold seg; rw [List.length_drop, List.length_take]; omega
      have hs2 : ∀ k, (seg L (i + 1) (i + 1 + k)).length ≤ k := fun k => by unfold seg; rw [List.length_drop, List.length_take]; omega
      have hm : (n + 1 + 1) * a.length = (n + 1) * a.length + a.length := by rw [Nat.succ_mul]
      rw [rcsGo]
      split
      · simp
      · split
        · simp
        · split
          · rename_i p k e _ _
            have := ih n (by omega) (i + 1) (out ++ seg a done (p - 1).toNat) (p - 1 + k).toNat put
            have h1 := hs1 done (p - 1).toNat
            rw [List.length_append] at this
            omega
          · split
            · simp
            · rename_i p k e _ _ hsh
              have := ih (n - k.toNat) (by omega) (i + 1 + k.toNat) (out ++ seg a done p.toNat ++ seg L (i + 1) (i + 1 + k.toNat)) p.toNat p
              have h1 := hs1 done p.toNat
              have h2 := hs2 k.toNat
              have h3 : (n - k.toNat + 1) * a.length ≤ (n + 1) * a.length := Nat.mul_le_mul_right _ (by omega)
              obtain ⟨_, _, _, k0, _⟩ := cmd_bd e
              rw [List.length_append, List.length_append] at this
              omega
theorem rcsRun_len (s : List UInt8) (a : List (List UInt8)) (hs : s.length ≤ 200000) (ha : a.length ≤ 1048576) : (rcsRun s a).1.length ≤ 1099511627776 := by
  rw [rcsRun, if_neg (by omega)]
  have h1 := rcsGo_len (lns s) a (lns s).length 0 [] 0 (-1)
  have h2 := lns_len s
  have h4 : ((lns s).length + 1) * a.length ≤ (200000 + 1) * 1048576 := Nat.mul_le_mul (by omega) (by omega)
  simp only [List.length_nil] at h1
  omega
def CLawR : Contract := pureC fun args => match args with
  | [.d (.v (.string s)), .d (.sl rows)] => (unStr rows).map fun a => ((s.size ≤ 1099511627776 ∧ a.length ≤ 1048576 ∧ ∀ x ∈ a, x.length ≤ 1099511627776), .d (.v (.bool true)))
  | _ => none
set_option maxHeartbeats 8000000 in
theorem s3 (hG : ∀ w, G w → ErrR w) (hT : ∀ w, G w → ErrT w) : Sound G Tryz.prog 3 CLawR := by
  refine sd3 (T := tabT [(11, CRun), (12, CRunR), (13, CSeen), (14, CSame)]) (tab_cons (s11 hG) (tab_cons s12 (tab_cons (sSeen hT) (tab_cons s14 tab_nil)))) (pureC_lawful _) (pure_hX fun args p x K h hp hk => ?_)
  split at h <;> simp only [Option.map_eq_some_iff, Prod.mk.injEq, reduceCtorEq] at h
  obtain ⟨a, hl, rfl, rfl⟩ := h
  rename_i s rows
  rw [unStr_eq hl] at *
  obtain ⟨s, rfl⟩ := ex_str s
  simp only [sem_str] at hp
  obtain ⟨h1, ha, hA⟩ := hp
  refine ⟨Nat.le_of_ble_eq_true rfl, ?_⟩
  have ha2 : a.length ≤ 1073741824 := by omega
  by_cases hg : 200000 < s.length ∧ s.length ≤ 1048576
  · obtain ⟨g1, g2⟩ := hg
    have k1 : (200000 : Int) < (s.length : Int) := by omega
    have k2 : (s.length : Int) ≤ (1048576 : Int) := by omega
    simp -dsimp -implicitDefEqProofs only [S3, R3, k1, k2, ↓Ev.xStp_eq, ↓Ev.P, Ev.Q, Bool.cond_true, Bool.cond_false, eq_self, forall_eq_or_imp, implies_true, forall_const, forall_eq, ↓reduceIte, reduceIte, Nat.reduceEqDiff, Nat.reduceAdd, reduceCtorEq, Nat.reduceSub, Int.reduceToNat, Int.reduceLE, Int.reduceLT, Int.reduceNeg, Nat.reduceBEq, Nat.reduceMul, Nat.reduceLeDiff, Nat.reduceMod, UInt8.reduceOfNat, Nat.reduceLT, Int.reduceEq, Int.reduceAdd, Int.reduceSub, Int.reduceMul]
    exact hk
  · have hYl : (rcsRun s a).1.length ≤ 1099511627776 := by
      by_cases hs : s.length ≤ 200000
      · exact rcsRun_len s a hs ha
      · rw [rcsRun, if_pos (by omega)]; simp
    have hz0 : (rcsRun s a).2.2 = 0 ∨ ¬ (rcsRun s a).2.2 = 0 := Classical.em _
    have guard : ((200000 : Int) < (s.length : Int)) = False ∨ (((200000 : Int) < (s.length : Int)) = True ∧ ((s.length : Int) ≤ 1048576) = False) := by
      by_cases h : 200000 < s.length
      · exact .inr ⟨eq_true (by omega), eq_false (by omega)⟩
      · exact .inl (eq_false (by omega))
    rcases hz0 with hz | hz
    · have hR : runR (rcsRun s a) = (.tup [.own 0, .d (.v .nilIface)], ⟨1, [(0, .row 9 1 (strRows (rcsRun s a).1))]⟩) := if_pos hz
      have hR2 : refR (rcsRun s a) = (.tup [.own 0, .agg [.d (.v (.int .i64 0)), .d (.v (.int .i64 0))]], ⟨1, [(0, .row 9 1 (strRows (rcsRun s a).1))]⟩) := if_pos hz
      rcases guard with k1 | ⟨k1, k2⟩
      all_goals
        simp -dsimp -implicitDefEqProofs only [S3, R3, k1, CRun, CRunR, CSeen, CSame, hR, hR2, unStr_rows, strRows_len, strRows_all, Ev.St.giveC, ↓Ev.P, Ev.Q, Bool.cond_true, Bool.cond_false, eq_self, forall_eq_or_imp, implies_true, forall_const, forall_eq, ↓reduceIte, reduceIte, Nat.reduceEqDiff, Nat.reduceAdd, reduceCtorEq, Nat.reduceSub, Int.reduceToNat, Int.reduceLE, Int.reduceLT, Int.reduceNeg, Nat.reduceBEq, Nat.reduceMul, Nat.reduceLeDiff, Nat.reduceMod, UInt8.reduceOfNat, Nat.reduceLT, Int.reduceEq, Int.reduceAdd, Int.reduceSub, Int.reduceMul]
        repeat' (first | with_reducible assumption | refine And.intro ?_ ?_ | intro _ | (rw [Ev.xStp_eq]; simp -dsimp -implicitDefEqProofs only [k1, CRun, CRunR, CSeen, CSame, hR, hR2, unStr_rows, strRows_len, strRows_all, Ev.St.giveC, ↓Ev.P, Ev.Q, Bool.cond_true, Bool.cond_false, eq_self, forall_eq_or_imp, implies_true, forall_const, forall_eq, ↓reduceIte, reduceIte, Nat.reduceEqDiff, Nat.reduceAdd, reduceCtorEq, Nat.reduceSub, Int.reduceToNat, Int.reduceLE, Int.reduceLT, Int.reduceNeg, Nat.reduceBEq, Nat.reduceMul, Nat.reduceLeDiff, Nat.reduceMod, UInt8.reduceOfNat, Nat.reduceLT, Int.reduceEq, Int.reduceAdd, Int.reduceSub, Int.reduceMul]))
        all_goals try omega
        refine xLoop_intro (fun k st => ∃ (i : Nat) (rows : List (List D)), i ≤ (rcsRun s a).1.length ∧ k = (rcsRun s a).1.length - i ∧ rows.length = (rcsRun s a).1.length ∧
          st = ⟨[(1, .d (.sl (strRows a))), (5, .own 0), (6, .own 1), (10, .d (.v (.int .i64 i)))], 2, [(0, .fro (strRows a)), (1, .row 9 1 rows)]⟩) (rcsRun s a).1.length [1, 2] ?_ ?_ ?_
        · simp -dsimp -implicitDefEqProofs only [↓Ev.xStp_eq, ↓Ev.P, Ev.Q, Bool.cond_true, Bool.cond_false, eq_self, forall_eq_or_imp, implies_true, forall_const, forall_eq, ↓reduceIte, reduceIte, Nat.reduceEqDiff, Nat.reduceAdd, reduceCtorEq, Nat.reduceSub, Int.reduceToNat, Int.reduceLE, Int.reduceLT, Int.reduceNeg, Nat.reduceBEq, Nat.reduceMul, Nat.reduceLeDiff, Nat.reduceMod, UInt8.reduceOfNat, Nat.reduceLT, Int.reduceEq, Int.reduceAdd, Int.reduceSub, Int.reduceMul]
        · simp -dsimp -implicitDefEqProofs only [↓Ev.xStp_eq, ↓Ev.P, Ev.Q, Bool.cond_true, Bool.cond_false, eq_self, forall_eq_or_imp, implies_true, forall_const, forall_eq, ↓reduceIte, reduceIte, Nat.reduceEqDiff, Nat.reduceAdd, reduceCtorEq, Nat.reduceSub, Int.reduceToNat, Int.reduceLE, Int.reduceLT, Int.reduceNeg, Nat.reduceBEq, Nat.reduceMul, Nat.reduceLeDiff, Nat.reduceMod, UInt8.reduceOfNat, Nat.reduceLT, Int.reduceEq, Int.reduceAdd, Int.reduceSub, Int.reduceMul]
          exact ⟨0, strRows (rcsRun s a).1, by omega, by omega, strRows_len _, rfl⟩
        · rintro k st ⟨i, rows, hi, rfl, hr, rfl⟩
          by_cases hil : i < (rcsRun s a).1.length
          · have hi3 : (i : Int) < ((rcsRun s a).1.length : Int) := by omega
            simp -dsimp -implicitDefEqProofs only [hr, hi3, ↓Ev.xStp_eq, ↓Ev.P, Ev.Q, Bool.cond_true, Bool.cond_false, eq_self, forall_eq_or_imp, implies_true, forall_const, forall_eq, ↓reduceIte, reduceIte, Nat.reduceEqDiff, Nat.reduceAdd, reduceCtorEq, Nat.reduceSub, Int.reduceToNat, Int.reduceLE, Int.reduceLT, Int.reduceNeg, Nat.reduceBEq, Nat.reduceMul, Nat.reduceLeDiff, Nat.reduceMod, UInt8.reduceOfNat, Nat.reduceLT, Int.reduceEq, Int.reduceAdd, Int.reduceSub, Int.reduceMul]
            repeat' (first | with_reducible assumption | refine And.intro ?_ ?_ | intro _)
            all_goals try omega
            refine xAgain_intro ((rcsRun s a).1.length - (i + 1)) [0, 1] (by omega) (by simp -dsimp -implicitDefEqProofs only [↓Ev.xStp_eq, ↓Ev.P, Ev.Q, Bool.cond_true, Bool.cond_false, eq_self, forall_eq_or_imp, implies_true, forall_const, forall_eq, ↓reduceIte, reduceIte, Nat.reduceEqDiff, Nat.reduceAdd, reduceCtorEq, Nat.reduceSub, Int.reduceToNat, Int.reduceLE, Int.reduceLT, Int.reduceNeg, Nat.reduceBEq, Nat.reduceMul, Nat.reduceLeDiff, Nat.reduceMod, UInt8.reduceOfNat, Nat.reduceLT, Int.reduceEq, Int.reduceAdd, Int.reduceSub, Int.reduceMul]) ⟨i + 1, rows.set i (spliceD (rows.getD i []) 0 [.v (.string ⟨#[115, 112, 111, 105, 108, 116]⟩)]), by omega, rfl, by rw [List.length_set]; exact hr, ?_⟩
            simp -dsimp -implicitDefEqProofs only [↓Ev.xStp_eq, ↓Ev.P, Ev.Q, Bool.cond_true, Bool.cond_false, eq_self, forall_eq_or_imp, implies_true, forall_const, forall_eq, ↓reduceIte, reduceIte, Nat.reduceEqDiff, Nat.reduceAdd, reduceCtorEq, Nat.reduceSub, Int.reduceToNat, Int.reduceLE, Int.reduceLT, Int.reduceNeg, Nat.reduceBEq, Nat.reduceMul, Nat.reduceLeDiff, Nat.reduceMod, UInt8.reduceOfNat, Nat.reduceLT, Int.reduceEq, Int.reduceAdd, Int.reduceSub, Int.reduceMul]
            all_goals rfl
          · have hi3 : ¬ (i : Int) < ((rcsRun s a).1.length : Int) := by omega
            simp -dsimp -implicitDefEqProofs only [hr, hi3, CSame, unStr_rows, strRows_len, ↓Ev.xStp_eq, ↓Ev.P, Ev.Q, Bool.cond_true, Bool.cond_false, eq_self, forall_eq_or_imp, implies_true, forall_const, forall_eq, ↓reduceIte, reduceIte, Nat.reduceEqDiff, Nat.reduceAdd, reduceCtorEq, Nat.reduceSub, Int.reduceToNat, Int.reduceLE, Int.reduceLT, Int.reduceNeg, Nat.reduceBEq, Nat.reduceMul, Nat.reduceLeDiff, Nat.reduceMod, UInt8.reduceOfNat, Nat.reduceLT, Int.reduceEq, Int.reduceAdd, Int.reduceSub, Int.reduceMul]
            repeat' (first | with_reducible assumption | refine And.intro ?_ ?_ | intro _)
            all_goals first | omega | exact hk
    · have hR : runR (rcsRun s a) = (.tup [.d (.sl []), .d (fltV (rcsRun s a).2.1 (rcsRun s a).2.2)], ⟨0, []⟩) := if_neg hz
      have hR2 : refR (rcsRun s a) = (.tup [.d (.sl []), .agg [.d (.v (.int .i64 (rcsRun s a).2.1)), .d (.v (.int .i64 (rcsRun s a).2.2))]], ⟨0, []⟩) := if_neg hz
      rcases guard with k1 | ⟨k1, k2⟩
      all_goals
        simp -dsimp -implicitDefEqProofs only [S3, R3, k1, CRun, CRunR, CSeen, CSame, hR, hR2, fltV, unStr, unStr_rows, strRows_len, strRows_all, Ev.St.giveC, ↓Ev.P, Ev.Q, Bool.cond_true, Bool.cond_false, eq_self, forall_eq_or_imp, implies_true, forall_const, forall_eq, ↓reduceIte, reduceIte, Nat.reduceEqDiff, Nat.reduceAdd, reduceCtorEq, Nat.reduceSub, Int.reduceToNat, Int.reduceLE, Int.reduceLT, Int.reduceNeg, Nat.reduceBEq, Nat.reduceMul, Nat.reduceLeDiff, Nat.reduceMod, UInt8.reduceOfNat, Nat.reduceLT, Int.reduceEq, Int.reduceAdd, Int.reduceSub, Int.reduceMul]
        repeat' (first | with_reducible assumption | refine And.intro ?_ ?_ | intro _ | (rw [Ev.xStp_eq]; simp -dsimp -implicitDefEqProofs only [k1, CRun, CRunR, CSeen, CSame, hR, hR2, fltV, unStr, unStr_rows, strRows_len, strRows_all, Ev.St.giveC, ↓Ev.P, Ev.Q, Bool.cond_true, Bool.cond_false, eq_self, forall_eq_or_imp, implies_true, forall_const, forall_eq, ↓reduceIte, reduceIte, Nat.reduceEqDiff, Nat.reduceAdd, reduceCtorEq, Nat.reduceSub, Int.reduceToNat, Int.reduceLE, Int.reduceLT, Int.reduceNeg, Nat.reduceBEq, Nat.reduceMul, Nat.reduceLeDiff, Nat.reduceMod, UInt8.reduceOfNat, Nat.reduceLT, Int.reduceEq, Int.reduceAdd, Int.reduceSub, Int.reduceMul]))
        all_goals try omega
        refine xLoop_intro (fun k st => k = 0 ∧
          st = ⟨[(1, .d (.sl (strRows a))), (5, .own 0), (6, .d (.sl [])), (10, .d (.v (.int .i64 0)))], 1, [(0, .fro (strRows a))]⟩) 0 [1] ?_ ?_ ?_
        · simp -dsimp -implicitDefEqProofs only [↓Ev.xStp_eq, ↓Ev.P, Ev.Q, Bool.cond_true, Bool.cond_false, eq_self, forall_eq_or_imp, implies_true, forall_const, forall_eq, ↓reduceIte, reduceIte, Nat.reduceEqDiff, Nat.reduceAdd, reduceCtorEq, Nat.reduceSub, Int.reduceToNat, Int.reduceLE, Int.reduceLT, Int.reduceNeg, Nat.reduceBEq, Nat.reduceMul, Nat.reduceLeDiff, Nat.reduceMod, UInt8.reduceOfNat, Nat.reduceLT, Int.reduceEq, Int.reduceAdd, Int.reduceSub, Int.reduceMul]
        · simp -dsimp -implicitDefEqProofs only [↓Ev.xStp_eq, ↓Ev.P, Ev.Q, Bool.cond_true, Bool.cond_false, eq_self, forall_eq_or_imp, implies_true, forall_const, forall_eq, ↓reduceIte, reduceIte, Nat.reduceEqDiff, Nat.reduceAdd, reduceCtorEq, Nat.reduceSub, Int.reduceToNat, Int.reduceLE, Int.reduceLT, Int.reduceNeg, Nat.reduceBEq, Nat.reduceMul, Nat.reduceLeDiff, Nat.reduceMod, UInt8.reduceOfNat, Nat.reduceLT, Int.reduceEq, Int.reduceAdd, Int.reduceSub, Int.reduceMul]
        · rintro k st ⟨rfl, rfl⟩
          simp -dsimp -implicitDefEqProofs only [CSame, unStr_rows, strRows_len, ↓Ev.xStp_eq, ↓Ev.P, Ev.Q, Bool.cond_true, Bool.cond_false, eq_self, forall_eq_or_imp, implies_true, forall_const, forall_eq, ↓reduceIte, reduceIte, Nat.reduceEqDiff, Nat.reduceAdd, reduceCtorEq, Nat.reduceSub, Int.reduceToNat, Int.reduceLE, Int.reduceLT, Int.reduceNeg, Nat.reduceBEq, Nat.reduceMul, Nat.reduceLeDiff, Nat.reduceMod, UInt8.reduceOfNat, Nat.reduceLT, Int.reduceEq, Int.reduceAdd, Int.reduceSub, Int.reduceMul]
          repeat' (first | with_reducible assumption | refine And.intro ?_ ?_ | intro _)
          all_goals first | omega | exact hk
end Go.Proofs.YtlghobefhmpfkaaGreatDoor
set_option linter.unusedVariables false
set_option linter.unusedSimpArgs false
namespace Go.Proofs.YtlghobefhmpfkaaGreatDoor
open Go Go.Ev
open Go.ChangeShapes Go.WideShapes Go.ChangeAt Go.RowKit
set_option maxRecDepth 100000
variable {H : Type} {enc : TypeId × Value → H}
theorem bulk_app : ∀ a b : List (DataW H), Rows.uptoBulkAll (a ++ b) = Rows.uptoBulkAll a + Rows.uptoBulkAll b
  | [], b => by simp [Rows.uptoBulkAll]
  | x :: r, b => by rw [List.cons_append, Rows.uptoBulkAll, Rows.uptoBulkAll, bulk_app r b]; omega
theorem bulk_strs : ∀ l : List ByteArray, (l.map fun s => s.data.toList.length + 1).sum = Rows.uptoBulkAll (strs l : List (DataW H))
  | [] => by simp [strs, Rows.uptoBulkAll]
  | s :: r => by
    have := bulk_strs r
    simp only [strs, List.map_cons, List.sum_cons, Rows.uptoBulkAll, Rows.uptoBulk] at this ⊢
    omega
theorem arr_eta (b : ByteArray) : (⟨b.data.toList.toArray⟩ : ByteArray) = b := by cases b; simp
theorem okWide_spot {P : Program} {w : World} {r : Reach} {b : Nat} {t e : TypeId} {a : Addr} {len cap : Nat} (ht : P.underlying t = some (.slice e)) (h : Value.okWide P w r b t (.slice (some a) len cap)) : a.spot = none := by
  simp only [Value.okWide, ht, Cell.okWide, Cell.ok, World.has] at h
  simp_all
theorem openStr {b0 : Nat} {W : World} {c : Rdr} {t e : TypeId} {v : Value} {d : DataW H} {p : List MemPlace} {m : Nat → Value} (hc : ∀ a u, W.cell? a = some u → (∀ z, u ≠ .int .u64 z) → c a u)
    (ht : Tryz.prog.underlying t = some (.slice e)) (he : Tryz.prog.underlying e = some .string) (h1 : Tryz.prog.cellsOf e = 1)
    (hv : Value.okWide Tryz.prog W .any b0 t v) (h : DataW.Trod enc Tryz.prog W 0 (fun _ => true) true t v d p) :
    ∃ l : List (List UInt8), Cn m 0 c (.d (.sl (strRows l))) v ∧ (l.map fun s => s.length + 1).sum + 1 ≤ Rows.uptoBulk d := by
  obtain ⟨a0, len, cap, rfl⟩ := okWide_slice ht hv
  obtain ⟨fuel, hf⟩ := h
  rcases open_strings ht he h1 hf with ⟨hcs, hx⟩ | ⟨a, len', cap', ss, hcs, _, hl, hm, hz, hx, hcell, hws⟩
  · simp [Value.cells] at hcs
    obtain ⟨rfl, rfl, rfl⟩ := hcs
    simp only [Prod.mk.injEq] at hx
    obtain ⟨rfl, rfl⟩ := hx
    exact ⟨[], by simp [Cn, Rd, strRows], by simp [Rows.uptoBulk]⟩
  · simp [Value.cells] at hcs
    obtain ⟨rfl, rfl, rfl⟩ := hcs
    simp only [Prod.mk.injEq] at hx
    obtain ⟨rfl, rfl⟩ := hx
    simp only [if_true] at hz
    have hM : maxLen = 9223372036854775807 := by decide
    refine ⟨(ss.take len).map fun s => s.data.toList, ?_, ?_⟩
    · simp only [Cn, Rd]
      refine ⟨some a, cap, by rw [strRows_len]; simp; omega, by rw [strRows_len]; simp; omega, by rw [strRows_len]; simp; omega, .inr ⟨a, 1, rfl, okWide_spot ht hv, rdStr fun i hi => ?_⟩⟩
      simp only [List.length_map, List.length_take] at hi
      rw [Nat.zero_add]
      refine hc _ _ ?_ (fun z e => by cases e)
      rw [hcell i (by omega)]
      congr 2
      simp [List.getD_eq_getElem?_getD, List.getElem?_map, List.getElem?_take_of_lt (show i < len by omega), List.getElem?_eq_getElem (show i < ss.length by omega)]
    · have := bulk_strs (H := H) (ss.take len)
      simp only [Rows.uptoBulk, List.map_map, Function.comp_def]
      omega
end Go.Proofs.YtlghobefhmpfkaaGreatDoor
set_option linter.unusedVariables false
set_option linter.unusedSimpArgs false
namespace Go.Proofs.YtlghobefhmpfkaaGreatDoor
open Go Go.Ev
open Go.ChangeShapes Go.WideShapes Go.ChangeAt Go.RowKit
set_option maxRecDepth 100000
variable {H : Type} {enc : TypeId × Value → H}
theorem cells_q4 {c : Rdr} {W : World} {a : Addr} {k : Nat} {q : Q4} (hc : ∀ a u, W.cell? a = some u → (∀ z, u ≠ .int .u64 z) → c a u)
    (h0 : W.cell? (a.add k) = some (.int .i64 q.1)) (h1 : W.cell? (a.add (k + 1)) = some (.int .i64 q.2.1)) (h2 : W.cell? (a.add (k + 2)) = some (.int .i64 q.2.2.1)) (h3 : W.cell? (a.add (k + 3)) = some (.int .i64 q.2.2.2)) : RdCells c a k (q4Row q) := by
  simp only [q4Row, RdCells, Rd]
  exact ⟨⟨_, hc _ _ h0 (fun z e => by cases e), rfl, rfl⟩, ⟨_, hc _ _ h1 (fun z e => by cases e), rfl, rfl⟩, ⟨_, hc _ _ h2 (fun z e => by cases e), rfl, rfl⟩, ⟨_, hc _ _ h3 (fun z e => by cases e), rfl, rfl⟩, trivial⟩
open Go.Deep in
theorem openQ4 {b0 : Nat} {W : World} {c : Rdr} {t e : TypeId} {f0 f1 f2 f3 : Field} {v : Value} {d : DataW H} {p : List MemPlace} {m : Nat → Value} (hc : ∀ a u, W.cell? a = some u → (∀ z, u ≠ .int .u64 z) → c a u)
    (ht : Tryz.prog.underlying t = some (.slice e)) (he : Tryz.prog.underlying e = some (.struct #[f0, f1, f2, f3])) (hone : oneCellFields Tryz.prog #[f0, f1, f2, f3] = true) (h1 : Tryz.prog.cellsOf e = 4)
    (k0 : Tryz.prog.underlying f0.type = some (.int .i64)) (k1 : Tryz.prog.underlying f1.type = some (.int .i64)) (k2 : Tryz.prog.underlying f2.type = some (.int .i64)) (k3 : Tryz.prog.underlying f3.type = some (.int .i64))
    (hv : Value.okWide Tryz.prog W .any b0 t v) (h : DataW.Trod enc Tryz.prog W 0 (fun _ => true) true t v d p) :
    ∃ l : List Q4, Cn m 0 c (.d (.sl (q4Rows l))) v ∧ l.length + 1 ≤ Rows.uptoBulk d := by
  obtain ⟨a0, len, cap, rfl⟩ := okWide_slice ht hv
  obtain ⟨fuel, hf⟩ := h
  have hM : maxLen = 9223372036854775807 := by decide
  rcases open_slice ht hf with ⟨hcs, hx⟩ | ⟨a, len', cap', mm, n, D, Pl, hcs, _, hl, hm, hz, hx, hi⟩
  · simp [Value.cells] at hcs
    obtain ⟨rfl, rfl, rfl⟩ := hcs
    simp only [Prod.mk.injEq] at hx
    obtain ⟨rfl, rfl⟩ := hx
    exact ⟨[], by simp [Cn, Rd, q4Rows], by simp [Rows.uptoBulk]⟩
  · simp [Value.cells] at hcs
    obtain ⟨rfl, rfl, rfl⟩ := hcs
    simp only [Prod.mk.injEq] at hx
    obtain ⟨rfl, rfl⟩ := hx
    simp only [if_true] at hz
    subst hz
    have each : ∀ i, ∃ q : Q4, i < len → RdCells c a (i * 4) (q4Row q) := fun i => by
      by_cases him : i < len
      · obtain ⟨cs, hcc, htt⟩ := hi i (by omega)
        rw [h1] at hcc
        obtain ⟨ys, n', hn', hy, hlen, hyl, hff⟩ := DataW.trod_struct he htt
        obtain ⟨_, hcl, hat⟩ := World.cells?_some hcc
        have one : ∀ (j : Nat) (f : Field), (#[f0, f1, f2, f3])[j]? = some f → j < 4 → Tryz.prog.underlying f.type = some (.int .i64) → ∃ z, W.cell? (a.add (i * 4 + j)) = some (.int .i64 z) := fun j f hj hj4 hu => by
          obtain ⟨ho, hk⟩ := hone_of hone j f hj
          have h2 := hff j f hj
          rw [ho, hk, List.drop_eq_getElem_cons (by omega)] at h2
          have hys : ys[j]? = some (ys[j]'(by simp at hyl; omega)) := List.getElem?_eq_getElem _
          obtain ⟨z, hz, _, _⟩ := DataW.trod_int hu (h2.trans hys)
          simp only [List.take_succ_cons, List.take_zero, List.cons.injEq, and_true] at hz
          refine ⟨z, ?_⟩
          rw [← Go.Deep.add_add, hat j hj4, ← hz]
          exact List.getElem?_eq_getElem (by omega)
        obtain ⟨z0, e0⟩ := one 0 f0 rfl (by omega) k0
        obtain ⟨z1, e1⟩ := one 1 f1 rfl (by omega) k1
        obtain ⟨z2, e2⟩ := one 2 f2 rfl (by omega) k2
        obtain ⟨z3, e3⟩ := one 3 f3 rfl (by omega) k3
        exact ⟨(z0, z1, z2, z3), fun _ => cells_q4 hc e0 e1 e2 e3⟩
      · exact ⟨(0, 0, 0, 0), fun h => absurd h him⟩
    refine ⟨(List.range len).map fun i => Classical.choose (each i), ?_, ?_⟩
    · simp only [Cn, Rd]
      refine ⟨some a, mm, by rw [q4Rows_len]; simp, by rw [q4Rows_len]; simp; omega, by rw [q4Rows_len]; simp; omega, .inr ⟨a, 4, rfl, okWide_spot ht hv, rdQ4 fun i hi => ?_⟩⟩
      simp only [List.length_map, List.length_range] at hi
      rw [Nat.zero_add]
      have := Classical.choose_spec (each i) hi
      simpa [List.getD_eq_getElem?_getD, List.getElem?_map, List.getElem?_range hi] using this
    · have hbl : ∀ l : List (DataW H), l.length ≤ Rows.uptoBulkAll l := by
        intro l
        induction l with
        | nil => simp
        | cons x r ih =>
          have : 1 ≤ Rows.uptoBulk x := by
            cases x with
            | lit y => cases y <;> simp [Rows.uptoBulk]
            | _ => simp [Rows.uptoBulk]
          simp only [Rows.uptoBulkAll, List.length_cons]; omega
      have := hbl ((List.range len).map D)
      simp only [List.length_map, List.length_range] at this ⊢
      simp only [Rows.uptoBulk]
      omega
end Go.Proofs.YtlghobefhmpfkaaGreatDoor
set_option linter.unusedVariables false
set_option linter.unusedSimpArgs false
namespace Go.Proofs.YtlghobefhmpfkaaGreatDoor
open Go Go.Ev
open Go.ChangeShapes Go.WideShapes Go.ChangeAt Go.RowKit
open Go.ChangeMaps (open_string shut_string)
set_option maxRecDepth 100000
variable {H : Type} {enc : TypeId × Value → H}
/-! Laid variables: a table, two errors, a type. -/
theorem var_if {W : World} {name : String} {t : TypeId} {x : Value} (h : W.var? Tryz.prog name = some #[.iface t x]) {b : Nat} (hb : some b = Tryz.prog.globalNamed name) : b < W.heap.size ∧ ∀ (a : Addr) (u : Value), W.cell? a = some u → a.block = b → ∃ t x, u = .iface t x := by
  unfold World.var? at h
  rw [← hb] at h
  simp only [Option.bind_some] at h
  split at h
  · rename_i cs t f e
    refine ⟨(Array.getElem?_eq_some_iff.1 e).1, fun a u ha hab => ?_⟩
    unfold World.cell? at ha
    rw [hab, e] at ha
    simp only [Option.some.injEq] at h
    subst h
    simp only at ha
    split at ha
    · cases ha
    · have hm := Array.mem_of_getElem? ha
      simp only [List.mem_toArray, List.mem_singleton, List.mem_cons, List.not_mem_nil, or_false] at hm
      exact ⟨_, _, hm⟩
  · cases h
theorem var_keep {W W' : World} {name : String} {cs : Array Value} (h : W.var? Tryz.prog name = some cs) (hb : ∀ b, some b = Tryz.prog.globalNamed name → W'.heap[b]? = W.heap[b]?) : W'.var? Tryz.prog name = some cs := by
  unfold World.var? at h ⊢
  cases e : Tryz.prog.globalNamed name with
  | none => rw [e] at h; cases h
  | some g => rw [e] at h; simp only [Option.bind_some] at h ⊢; rw [hb g e.symm]; exact h
def ErrV (w : World) : Prop := w.var? Tryz.prog "errors.errorType" = some #[.iface 199 (.agg #[typeHandle Tryz.prog 24])]
def GL (w : World) : Prop := Pow10 w ∧ ErrR w ∧ ErrV w
def hidL (b : Nat) : Prop := some b = Tryz.prog.globalNamed "internal/strconv.uint64pow10" ∨ some b = Tryz.prog.globalNamed "strconv.ErrRange" ∨ some b = Tryz.prog.globalNamed "errors.errorType"
noncomputable def HL : Hd GL := ⟨hidL, hidL, fun _ h => h, fun w w' h hb => by
  obtain ⟨h1, ⟨tp, p, h2⟩, h3⟩ := h
  exact ⟨HP.st w w' h1 fun b e => hb b (.inl e), ⟨tp, p, var_keep h2 fun b e => hb b (.inr (.inl e))⟩, var_keep h3 fun b e => hb b (.inr (.inr e))⟩, 0, []⟩
theorem HL_lt {W : World} (h : GL W) {b : Nat} (hb : HL b) : b < W.heap.size := by
  obtain ⟨h1, ⟨tp, p, h2⟩, h3⟩ := h
  rcases hb with hb | hb | hb
  · exact HP_lt h1 hb
  · exact (var_if h2 hb).1
  · exact (var_if h3 hb).1
theorem HL_no {W : World} (h : GL W) {a : Addr} {u : Value} (ha : W.cell? a = some u) (k1 : ∀ z, u ≠ .int .u64 z) (k2 : ∀ t x, u ≠ .iface t x) : ¬ HL a.block := by
  obtain ⟨h1, ⟨tp, p, h2⟩, h3⟩ := h
  rintro (hb | hb | hb)
  · exact HP_no h1 ha k1 hb
  · obtain ⟨t, x, e⟩ := (var_if h2 hb).2 a u ha rfl
    exact k2 t x e
  · obtain ⟨t, x, e⟩ := (var_if h3 hb).2 a u ha rfl
    exact k2 t x e
theorem et : Tryz.prog.globalNamed "errors.errorType" = some 0 := by kernel_rfl
theorem hh : typeHandle Tryz.prog 24 = .pointer (some ⟨9, 24, none⟩) := by kernel_rfl
theorem GL.errT {w : World} (h : GL w) : ErrT w := by
  have h3 := h.2.2
  unfold ErrV at h3
  rw [hh] at h3
  have := World.var?_cell et h3 0
  unfold ErrT
  simpa using this
theorem size_eq (s : ByteArray) : s.data.toList.length = s.size := by rw [Array.length_toList]; rfl
theorem len_bulk : ∀ l : List (List UInt8), l.length ≤ (l.map fun s => s.length + 1).sum ∧ ∀ s ∈ l, s.length ≤ (l.map fun s => s.length + 1).sum
  | [] => by simp
  | s :: r => by
    obtain ⟨h1, h2⟩ := len_bulk r
    simp only [List.map_cons, List.sum_cons, List.length_cons, List.forall_mem_cons]
    exact ⟨by omega, by omega, fun x hx => by have := h2 x hx; omega⟩
theorem openStr3 {b0 : Nat} {W : World} {c : Rdr} {t e : TypeId} {v : Value} {d : DataW H} {p : List MemPlace} {m : Nat → Value} (hc : ∀ a s, W.cell? a = some (.string s) → c a (.string s))
    (ht : Tryz.prog.underlying t = some (.slice e)) (he : Tryz.prog.underlying e = some .string) (h1 : Tryz.prog.cellsOf e = 1)
    (hv : Value.okWide Tryz.prog W .any b0 t v) (h : DataW.Trod enc Tryz.prog W 0 (fun _ => true) true t v d p) :
    ∃ l : List (List UInt8), Cn m 0 c (.d (.sl (strRows l))) v ∧ (l.map fun s => s.length + 1).sum + 1 ≤ Rows.uptoBulk d := by
  obtain ⟨a0, len, cap, rfl⟩ := okWide_slice ht hv
  obtain ⟨fuel, hf⟩ := h
  rcases open_strings ht he h1 hf with ⟨hcs, hx⟩ | ⟨a, len', cap', ss, hcs, _, hl, hm, hz, hx, hcell, hws⟩
  · simp [Value.cells] at hcs
    obtain ⟨rfl, rfl, rfl⟩ := hcs
    simp only [Prod.mk.injEq] at hx
    obtain ⟨rfl, rfl⟩ := hx
    exact ⟨[], by simp [Cn, Rd, strRows], by simp [Rows.uptoBulk]⟩
  · simp [Value.cells] at hcs
    obtain ⟨rfl, rfl, rfl⟩ := hcs
    simp only [Prod.mk.injEq] at hx
    obtain ⟨rfl, rfl⟩ := hx
    simp only [if_true] at hz
    have hM : maxLen = 9223372036854775807 := by decide
    refine ⟨(ss.take len).map fun s => s.data.toList, ?_, ?_⟩
    · simp only [Cn, Rd]
      refine ⟨some a, cap, by rw [strRows_len]; simp; omega, by rw [strRows_len]; simp; omega, by rw [strRows_len]; simp; omega, .inr ⟨a, 1, rfl, okWide_spot ht hv, rdStr fun i hi => ?_⟩⟩
      simp only [List.length_map, List.length_take] at hi
      rw [Nat.zero_add]
      refine hc _ _ ?_
      rw [hcell i (by omega)]
      congr 2
      simp [List.getD_eq_getElem?_getD, List.getElem?_map, List.getElem?_take_of_lt (show i < len by omega), List.getElem?_eq_getElem (show i < ss.length by omega)]
    · have := bulk_strs (H := H) (ss.take len)
      simp only [Rows.uptoBulk, List.map_map, Function.comp_def]
      omega
theorem own : ownKnob Tryz.prog.godebug = none := by kernel_rfl
theorem gTab : Tryz.prog.globalNamed "internal/strconv.uint64pow10" = some 6 := by kernel_rfl
theorem gTabType : (Tryz.prog.globals[6]?).map (·.type) = some 290 := by kernel_rfl
theorem starE : "*" ++ "errors.errorString" = "*errors.errorString" := by decide
theorem rowE (u : TypeId) (h : Tryz.prog.typeName? 3 u = some "*errors.errorString") : u = 286 :=
  typeName_ptr_named (nm := "errors.errorString") (by rw [starE]; kernel_rfl) (by kernel_rfl) (by decide) u (by rw [starE]; exact h)
theorem rtName : (Tryz.prog.cutTypes.find? (·.1 == "internal/reflectlite.rtype")).map (·.2) = some 199 := by kernel_rfl
theorem tsize : Tryz.prog.types.size = 323 := by kernel_rfl
theorem oneRow : ((List.range 323).filter fun t => Tryz.prog.rowNamed t [101, 114, 114, 111, 114]) = [24] := by kernel_rfl
theorem errV {W : World} (h : handlesMet Tryz.prog [("errors.errorType", Rows.laid_errors_errorType)] W) : ErrV W := by
  obtain ⟨name, u, ty, e1, e2, e3, e4, e5⟩ := h _ (List.mem_singleton.2 rfl)
  have en : name = [101, 114, 114, 111, 114] := (Option.some.inj e1).symm
  subst en
  obtain rfl := Option.some.inj (rtName.symm.trans e2)
  have hm : ty ∈ (List.range 323).filter fun t => Tryz.prog.rowNamed t [101, 114, 114, 111, 114] := List.mem_filter.2 ⟨List.mem_range.2 (by rw [← tsize]; exact e3), e4⟩
  rw [oneRow] at hm
  obtain rfl := List.mem_singleton.1 hm
  exact e5
theorem errR {W : World} {l : List (String × DataW Unit)} (h : laidMet Tryz.prog (("strconv.ErrRange", Rows.laid_strconv_ErrRange) :: l) W) : ErrR W := by
  obtain ⟨a, s, h3, _⟩ := laid_sentinel (g := 3) (ti := 24) (tp := 286) (te := 288) (ts := 9) h (by kernel_rfl) (by kernel_rfl) Tryz.underlying24 rowE Tryz.underlying286 Tryz.underlying288 rfl rfl Tryz.underlying9 (by kernel_rfl) (by kernel_rfl)
  exact ⟨_, _, h3⟩
theorem pow10 {W : World} {l : List (String × DataW Unit)} (h : laidMet Tryz.prog (("internal/strconv.uint64pow10", Rows.laid_internal_strconv_uint64pow10) :: l) W) : Pow10 W :=
  Lib.tabIs_of_head (n := 20) (e := 270) gTab gTabType (by kernel_rfl) (by kernel_rfl) (by kernel_rfl) (by kernel_rfl) h
def lits : List (DataW Unit) → List Value
  | [] => []
  | .lit (.int k z) :: r => Value.int k z :: lits r
  | .agg l :: r => (l.map fun x => match x with | .lit (.int k z) => Value.int k z | _ => undef) ++ lits r
  | _ :: r => lits r
def valsU : DataW Unit → Array Value
  | .agg l => (lits l).toArray
  | _ => #[]
def text : DataW Unit → ByteArray
  | .iface _ (.ptr (.agg [.lit (.string s)])) => ⟨s.toArray⟩
  | _ => ⟨#[]⟩
noncomputable def low (os : Os) : Nat := (World.holding Tryz.prog os ⟨#[], #[], []⟩).heap.size
def put (h : Array Obj) (g : Nat) (cs : Array Value) : Array Obj := h.modify g fun
    | .cells _ t frozen => .cells cs t frozen
    | o => o
noncomputable def laidWorld (os : Os) : World :=
  let w0 := World.holding Tryz.prog os ⟨#[.cells #[.string (text Rows.laid_strconv_ErrRange)] 288, .cells #[.string (text Rows.laid_strconv_ErrSyntax)] 288], #[], []⟩
  let h1 := put w0.heap 6 (valsU Rows.laid_internal_strconv_uint64pow10)
  let h2 := put h1 7 (valsU Rows.laid_math_bits_deBruijn32tab)
  let h3 := put h2 8 (valsU Rows.laid_math_bits_deBruijn64tab)
  let h4 := put h3 3 #[.iface 286 (.pointer (some ⟨low os, 0, none⟩))]
  let h5 := put h4 2 #[.iface 286 (.pointer (some ⟨low os + 1, 0, none⟩))]
  let h6 := put h5 4 (valsU Rows.laid_unicode_utf8_first)
  let h7 := put h6 5 (valsU Rows.laid_unicode_utf8_acceptRanges)
  let h8 := put h7 0 #[.iface 199 (.agg #[.pointer (some ⟨9, 24, none⟩)])]
  { w0 with heap := h8 }
end Go.Proofs.YtlghobefhmpfkaaGreatDoor
set_option linter.unusedVariables false
set_option linter.unusedSimpArgs false
namespace Go.Proofs.YtlghobefhmpfkaaGreatDoor
open Go Go.Ev
open Go.ChangeShapes Go.WideShapes Go.ChangeAt Go.RowKit
open Go.ChangeMaps (open_string shut_string)
set_option maxRecDepth 100000
namespace RcsfmtRuns
theorem contract (H : Type) (enc : TypeId × Value → H) (W : World) (base : Nat) (args : Array Value) (ds gs : List (DataW H)) (before : List MemPlace)
    (hval : ∀ (j : Nat) t v, Tryz.f3.params[j]? = some t → args[j]? = some v → Value.okWide Tryz.prog W .any base t v)
    (hW : DataW.Whole enc Tryz.prog Tryz.f3.params.toList Rows.rcsfmtRunsSpec.vars false W args.toList ds gs before) (hk : Rows.uptoSmall H (ds ++ gs) = true) (hP : GL W) :
    Calls Tryz.prog 3 args W fun e W' => ∃ v, e = .returned v ∧ Rows.rcsfmtRunsSpec.post enc Tryz.prog Tryz.f3 false true false false W args v W' := by
  have hW' := hW
  obtain ⟨p, q, hA0, hV, rfl, hfz, hnd⟩ := hW
  have hA : DataW.TrodAll enc Tryz.prog W 0 (fun _ => true) true Tryz.f3.params.toList args.toList ds p := hA0
  rw [Tryz.params3] at hA hval
  obtain ⟨v0, vs0, d0, ds0, p0, q0, hargs0, rfl, rfl, h0, r0⟩ := trodAll_cons hA
  obtain ⟨v1, vs1, d1, ds1, p1, q1, hargs1, rfl, rfl, h1, r1⟩ := trodAll_cons r0
  obtain ⟨rfl, rfl, rfl⟩ := trodAll_nil r1
  obtain rfl : args = #[v0, v1] := by cases args; simp_all
  obtain ⟨rfl, rfl⟩ := trodVars_none hV
  have u3 : Tryz.prog.underlying 3 = some (.int .i64) := Tryz.underlying3
  have u9 : Tryz.prog.underlying 9 = some .string := Tryz.underlying9
  have u4 : Tryz.prog.underlying 4 = some .bool := by kernel_rfl
  obtain ⟨x0, rfl, rfl, rfl, hm0⟩ := open_string u9 (hval 0 9 v0 rfl rfl) h0
  obtain ⟨a1, hc1, ba1⟩ := openStr3 (c := fun a u => W.cell? a = some u ∧ ¬ HL a.block) (m := fun _ => undef) (fun a s h => ⟨h, HL_no hP h (fun z e => by cases e) (fun t x e => by cases e)⟩) Tryz.underlying22 Tryz.underlying9 (by kernel_rfl) (hval 1 22 v1 rfl rfl) h1
  obtain ⟨len1, all1⟩ := len_bulk a1
  clear hA0
  have hbk : Rows.uptoBulkAll ([DataW.lit (H := H) (.string x0.data.toList), d1] ++ [] : List (DataW H)) ≤ 1048576 := of_decide_eq_true hk
  simp only [List.append_nil, Rows.uptoBulkAll, Rows.uptoBulk, size_eq] at hbk
  simp only [List.append_nil] at hW'
  refine (law_calls HL (s3 (G := GL) (fun w h => h.2.1) (fun w h => h.errT)) (args := [.d (.v (.string x0)), .d (.sl (strRows a1))]) (vs := [.string x0, v1]) (W := W) hP (fun b hb => HL_lt hP hb) ?_ ⟨⟨rfl, rfl⟩, hc1, trivial⟩).mono fun e W' ⟨he, hg⟩ => ?_
  · simp -dsimp -implicitDefEqProofs only [CLawR, pureC_wp, unStr_rows, Option.map_some, need_some]
    exact ⟨trivial, ⟨by omega, by omega, fun s hs => by have := all1 s hs; omega⟩, trivial⟩
  · subst he
    have hlt := hW'.lt
    have lo : laidOutB Tryz.prog = true := by kernel_rfl
    have s0 : (22 : Nat) < Tryz.prog.types.size := of_decide_eq_true (by kernel_rfl)
    have r0 : Tryz.prog.readableRec 22 = true := by kernel_rfl
    exact ⟨_, rfl, post_of_below (pa := ([] ++ (p1 ++ []))) (pv := []) hW' (fun _ _ _ => (trodAll_cons_mk (shut_bool u4 _) trodAll_mk0)) (fun sp hsp => (trodAll_cons_mk (shut_string u9 hm0) (trodAll_cons_mk (WideElems.Trod_stays lo r0 s0 h1 (fun x hx => hg.same (hlt x (by simp [hx]))) (fun x hx => hsp x (by simp [hx]))) trodAll_mk0))) (fun _ _ => rfl) (by simp)
      hg (ok_one (by kernel_rfl) rfl (okWide_bool_mk u4 _))⟩
theorem gl {W : World} (h : laidMetH Tryz.prog Rows.rcsfmtRunsUptoRow.laid W) : GL W := by
  have h' : laidMet Tryz.prog [("math/bits.deBruijn32tab", Rows.laid_math_bits_deBruijn32tab), ("math/bits.deBruijn64tab", Rows.laid_math_bits_deBruijn64tab), ("internal/strconv.uint64pow10", Rows.laid_internal_strconv_uint64pow10), ("unicode/utf8.acceptRanges", Rows.laid_unicode_utf8_acceptRanges), ("strconv.ErrRange", Rows.laid_strconv_ErrRange), ("strconv.ErrSyntax", Rows.laid_strconv_ErrSyntax), ("unicode/utf8.first", Rows.laid_unicode_utf8_first)] W ∧ handlesMet Tryz.prog [("errors.errorType", Rows.laid_errors_errorType)] W := h
  exact ⟨pow10 (laidMet.tail (laidMet.tail (h'.1))), errR (laidMet.tail (laidMet.tail (laidMet.tail (laidMet.tail (h'.1))))), errV h'.2⟩
abbrev wargs : Array Value := #[.string ⟨#[]⟩, .slice none 0 0]
theorem laid_met (os : Os) : laidMetH Tryz.prog Rows.rcsfmtRunsUptoRow.laid ((laidWorld os).forCall (fun _ _ => 0) ⟨#[], wargs, []⟩).memory :=
  laidMetH_of_parts (laidMet_of_run' 8 (by kernel_rfl) (by kernel_rfl)) (by kernel_rfl)
theorem reads (os : Os) {H : Type} (enc : TypeId × Value → H) : ∃ places, DataW.whole enc Tryz.prog ((laidWorld os).forCall (fun _ _ => 0) ⟨#[], wargs, []⟩).memory Tryz.f3.params.toList Rows.rcsfmtRunsSpec.vars false wargs.toList 8 = some ([.lit (.string []), .nil], [], places) :=
  ⟨[], by kernel_rfl⟩
theorem liftedUpto (os : Os) (started : os.Started) (H : Type) (enc : TypeId × Value → H) (F : Stop.Interp) :
    ReturnsInHanded {} Tryz.checked os 3 .any ((Rows.OpenSpec.upto Rows.rcsfmtRunsSpec).preRow enc Tryz.prog Tryz.f3 Rows.rcsfmtRunsUptoRow.domain false Rows.rcsfmtRunsUptoRow.laid) (((Rows.OpenSpec.upto Rows.rcsfmtRunsSpec).at F).post enc Tryz.prog Tryz.f3 false true false false) := by
  obtain ⟨places, hx⟩ := reads os enc
  refine returnsInHanded_of_row (C := Tryz.checked) (s := Rows.OpenSpec.upto Rows.rcsfmtRunsSpec) own started (by kernel_rfl) Tryz.func3
    (witness_row_atRef (enc := enc) (C := Tryz.checked) false (laidWorld os) wargs rfl (by kernel_rfl) (by kernel_rfl) (by kernel_rfl)
      (OpenSpec.preRow_of_cond 8 hx (by kernel_rfl) (fun k hk => by cases hk; kernel_rfl) (by kernel_rfl) (laid_met os))) ?_
  intro W base args ds gs before hval hW _ hcond _ hL _ _
  exact contract H enc W base args ds gs before hval hW (hcond _ rfl) (gl hL)
theorem saidUpto : Rows.RcsfmtRunsUptoSaid :=
  OpenClaim.holds_of_cond 3 Tryz.f3 rfl rfl rfl rfl rfl rfl rfl ⟨rfl, rfl, rfl, rfl, rfl⟩ rfl rfl rfl rfl rfl (by kernel_rfl) Tryz.func3 (by kernel_rfl)
    (of_decide_eq_true (by kernel_rfl)) (by unfold Func.isWrapper; first | (rw [if_pos (by decide +kernel)]; kernel_rfl) | (rw [if_neg (by decide +kernel)]; exact ⟨rfl, rfl⟩))
    (fun os started H enc _ F => by rw [OpenClaim.pre_eq_preRow]; exact liftedUpto os started H enc F)
theorem plain (f : FuncId) (fn : Func) (hf : Tryz.pinned.checked.prog.funcNamed "redline/redlinelaw14.RcsfmtRuns" = some f) (hfn : Tryz.pinned.checked.prog.funcs[f]? = some fn) :
    true = Tryz.pinned.checked.prog.looks [] ∧ ∀ (j : Nat) t, fn.params[j]? = some t → Tryz.pinned.checked.prog.wantsStandIn t = false := by
  obtain rfl : f = 3 := Option.some.inj ((show Tryz.prog.funcNamed "redline/redlinelaw14.RcsfmtRuns" = some 3 by kernel_rfl).symm.trans hf) |>.symm
  obtain rfl : fn = Tryz.f3 := (Option.some.inj (Tryz.func3.symm.trans hfn)).symm
  refine ⟨by kernel_rfl, fun j t ht => ?_⟩
  have hall : (Tryz.f3.params.toList.all fun u => !Tryz.prog.wantsStandIn u) = true := by kernel_rfl
  have hm : t ∈ Tryz.f3.params.toList := by simpa using Array.mem_of_getElem? ht
  exact (show Tryz.prog.wantsStandIn t = false by simpa using List.all_eq_true.1 hall t hm)
theorem cardUpto : Rows.RcsfmtRunsUptoCardSaid :=
  Claim7.holds_tied_plain_at .later [] _ _ _ _ saidUpto (fun _ h => by cases h) (by kernel_rfl) (fun _ h => by cases h) rcsfmtRunsUpto_row_tie rfl ⟨rfl, rfl⟩ (by kernel_rfl) rfl plain (by kernel_rfl)
end RcsfmtRuns
end Go.Proofs.YtlghobefhmpfkaaGreatDoor
