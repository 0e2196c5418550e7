/- EdfmtRaw: line feeds of the lines that are edited do not matter Part 6 of 6. -/
import Derived.Test.YtlghobefhmpfkaaGreatDoorRows
import Derived.WalkKit
import Derived.Deep.Slices
import Derived.Deep.Fields
import Derived.ChangeSame
import Derived.Test.YtlghobefhmpfkaaGreatDoorCards
import Derived.Test.YtlghobefhmpfkaaGreatDoorTie
import Derived.JoinedCond
import Derived.ProofKit
import Derived.Deep.DeepHandedRow
import Derived.Deep.DeepWitnessRowRef
import Derived.Stop.LaidErr
import Derived.Stop.Joined
import Derived.LaidLaws
import Derived.LaidHandle
import Derived.Lib.LaidIn
import Derived.SevenTiedAt
import Derived.Test.YtlghobefhmpfkaaGreatDoorEr1
import Derived.Test.YtlghobefhmpfkaaGreatDoorEr2
import Derived.Test.YtlghobefhmpfkaaGreatDoorEr3
import Derived.Test.YtlghobefhmpfkaaGreatDoorEr4
import Derived.Test.YtlghobefhmpfkaaGreatDoorEr5
set_option linter.unusedVariables false
set_option linter.unusedSimpArgs false
namespace Go.Proofs.YtlghobefhmpfkaaGreatDoor
open Go Go.Ev Go.Rcs
set_option maxRecDepth 100000
variable {G : World → Prop}
abbrev rdO (tr : TypeId) (rows : List (List D)) (a fa e : Int) : Ob := .cells tr [.d (.sl rows), .d (.v (.int .i64 a)), .d (.v (.int .i64 fa)), .d (.v (.int .i64 e))]
def onK (td tr : TypeId) (rows T : List (List D)) (c fa : Int) (K : Out → Store → Prop) : Except Fl (Ed × Nat) → Prop
  | .ok (y, a) => K (.ret (.tup [])) ⟨4, [(0, .cells td [.own 3, .d (.v (.int .i64 y.2))]), (1, .fro T), (2, rdO tr rows (a : Nat) fa 0), (3, .row 9 1 (strRows y.1))]⟩ ∧ K (.ret (.tup [])) ⟨3, [(0, .cells td [.own 1, .d (.v (.int .i64 y.2))]), (1, .row 9 1 (strRows y.1)), (2, rdO tr rows (a : Nat) fa 0)]⟩
  | .error (a, e) => K (.ret (.tup [])) ⟨3, [(0, .cells td [.own 1, .d (.v (.int .i64 c))]), (1, .row 9 1 T), (2, rdO tr rows a a e)]⟩ ∧ ∀ T', K (.ret (.tup [])) ⟨4, [(0, .cells td [.own 3, .d (.v (.int .i64 (-1)))]), (1, .fro T), (2, rdO tr rows a a e), (3, .row 9 1 T')]⟩
def onW (args : List SV) (st : Store) (K : Out → Store → Prop) : Prop := match args, st with
  | [.ptr 0 0, .ptr 2 0], ⟨3, [(0, .cells td [.own 1, .d (.v (.int .i64 c))]), (1, .row u z T), (2, .cells tr [.d (.sl rows), .d (.v (.int .i64 at_)), .d (.v (.int .i64 fa)), .d (.v (.int .i64 fe))])]⟩ =>
    need ((unStr rows).bind fun L => (unStr T).map fun X => (L, X)) fun y => (((u = 9 ∧ z = 1) ∧ fe = 0) ∧ okE (y.2, c) ∧ (0 ≤ at_ ∧ at_ ≤ y.1.length) ∧ smL y.1 ∧ smL y.2) ∧ onK td tr rows T c fa K (cmdE y.1 (y.2, c) at_.toNat)
  | _, _ => False
def COneR : Contract := wpC onW
theorem oneR_wp {td tr u : TypeId} {z : Nat} {T rows : List (List D)} {c at_ fa fe : Int} {K : Out → Store → Prop} :
    COneR.wp [.ptr 0 0, .ptr 2 0] ⟨3, [(0, .cells td [.own 1, .d (.v (.int .i64 c))]), (1, .row u z T), (2, .cells tr [.d (.sl rows), .d (.v (.int .i64 at_)), .d (.v (.int .i64 fa)), .d (.v (.int .i64 fe))])]⟩ K =
      need ((unStr rows).bind fun L => (unStr T).map fun X => (L, X)) fun y => (((u = 9 ∧ z = 1) ∧ fe = 0) ∧ okE (y.2, c) ∧ (0 ≤ at_ ∧ at_ ≤ y.1.length) ∧ smL y.1 ∧ smL y.2) ∧ onK td tr rows T c fa K (cmdE y.1 (y.2, c) at_.toNat) := rfl
@[congr] theorem oneR_congr {l l' : List SV} {s s' : Store} {K : Out → Store → Prop} (h : l = l') (h2 : s = s') : COneR.wp l s K = COneR.wp l' s' K := by rw [h, h2]
theorem onK_ok {td tr : TypeId} {rows T : List (List D)} {c fa : Int} {K : Out → Store → Prop} {y : Ed} {a : Nat} : onK td tr rows T c fa K (.ok (y, a)) = (K (.ret (.tup [])) ⟨4, [(0, .cells td [.own 3, .d (.v (.int .i64 y.2))]), (1, .fro T), (2, rdO tr rows (a : Nat) fa 0), (3, .row 9 1 (strRows y.1))]⟩ ∧ K (.ret (.tup [])) ⟨3, [(0, .cells td [.own 1, .d (.v (.int .i64 y.2))]), (1, .row 9 1 (strRows y.1)), (2, rdO tr rows (a : Nat) fa 0)]⟩) := rfl
theorem onK_error {td tr : TypeId} {rows T : List (List D)} {c fa : Int} {K : Out → Store → Prop} {a e : Int} : onK td tr rows T c fa K (.error (a, e)) = (K (.ret (.tup [])) ⟨3, [(0, .cells td [.own 1, .d (.v (.int .i64 c))]), (1, .row 9 1 T), (2, rdO tr rows a a e)]⟩ ∧ ∀ T', K (.ret (.tup [])) ⟨4, [(0, .cells td [.own 3, .d (.v (.int .i64 (-1)))]), (1, .fro T), (2, rdO tr rows a a e), (3, .row 9 1 T')]⟩) := rfl
theorem take_all1 (X : List (List UInt8)) (p : Nat) : (∀ r ∈ (strRows X).take p, r.length = 1) = True := eq_true fun r hr => (strRows_all X).mpr trivial r (List.mem_of_mem_take hr)
theorem drop_all1 (X : List (List UInt8)) (p : Nat) : (∀ r ∈ (strRows X).drop p, r.length = 1) = True := eq_true fun r hr => (strRows_all X).mpr trivial r (List.mem_of_mem_drop hr)
theorem take_len1 (X : List (List UInt8)) : (strRows X).take X.length = strRows X := List.take_of_length_le (by rw [strRows_len]; exact Nat.le_refl _)
theorem put_two (X l : List (List UInt8)) (p n : Nat) (h : p + n ≤ X.length) : ((strRows X).take p ++ (strRows X).drop (p + n)).take p ++ (strRows l ++ ((strRows X).take p ++ (strRows X).drop (p + n)).drop p) = strRows (putE X p n l).1 := by
  have hl : ((strRows X).take p).length = p := by rw [List.length_take, strRows_len]; omega
  rw [List.take_append_of_le_length (by rw [hl]; exact Nat.le_refl _), List.take_of_length_le (by rw [hl]; exact Nat.le_refl _), List.drop_append_of_le_length (by rw [hl]; exact Nat.le_refl _), List.drop_of_length_le (by rw [hl]; exact Nat.le_refl _), List.nil_append]
  exact put_rows X l p n
theorem put_twn (X : List (List UInt8)) (p n : Nat) (h : p + n ≤ X.length) : ((strRows X).take p ++ (strRows X).drop (p + n)).take p ++ ((strRows X).take p ++ (strRows X).drop (p + n)).drop p = strRows (putE X p n []).1 := put_two X [] p n h
theorem put_len (X : List (List UInt8)) (p n : Nat) (h : p + n ≤ X.length) : ((strRows X).take p ++ (strRows X).drop (p + n)).length = X.length - n := by
  simp only [List.length_append, List.length_take, List.length_drop, strRows_len]; omega
theorem put_all (X : List (List UInt8)) (p n : Nat) : (∀ r ∈ (strRows X).take p ++ (strRows X).drop (p + n), r.length = 1) = True := eq_true (by
  intro r hr
  have h := (strRows_all X).mpr trivial
  rcases List.mem_append.1 hr with h1 | h1
  · exact h r (List.mem_of_mem_take h1)
  · exact h r (List.mem_of_mem_drop h1))
set_option maxHeartbeats 32000000 in
theorem s50 : Sound G Tryz.prog 50 COneR := by
  refine sd50 (T := tabT [(42, CNext), (43, CFail), (99, CBodyR), (100, CPutR), (101, CLinR), (90, CParse)]) (tab_cons s42 (tab_cons s43 (tab_cons s99 (tab_cons s100 (tab_cons s101 (tab_cons s90 tab_nil)))))) (wpC_lawful _) (fun args st K hW => ?_)
  replace hW : onW args st K := hW
  unfold onW at hW
  split at hW
  rotate_left
  · exact hW.elim
  rename_i td c u z T0 tr rows at_ fa fe
  obtain ⟨y, hy, ⟨⟨⟨rfl, rfl⟩, rfl⟩, hok, ⟨t0, t1⟩, ⟨hLl, hL⟩, hXl, hX⟩, hk⟩ := need_ex hW
  obtain ⟨L, hL0, hy⟩ := Option.bind_eq_some_iff.1 hy
  obtain ⟨X, hX0, rfl⟩ := Option.map_eq_some_iff.1 hy
  rw [unStr_eq hL0] at *
  rw [unStr_eq hX0] at *
  obtain ⟨k, rfl⟩ := Int.eq_ofNat_of_zero_le t0
  rw [Int.toNat_natCast] at hk
  dsimp only at hk hok hL hLl hX hXl t1
  refine ⟨Nat.le_of_ble_eq_true rfl, ?_⟩
  unfold cmdE at hk
  cases hx : nextL L k with
  | error x =>
    obtain ⟨xa, xe⟩ := x
    obtain ⟨hn, ha, he⟩ := nx_next_err fa hx
    subst ha
    rw [hx] at hk; dsimp only at hk
    rw [onK_error] at hk
    refine ⟨[0, 1, 2], [], ?_⟩
    simp -dsimp -implicitDefEqProofs only [S50, R50, S50_0, S50_1, S50_2, S50_3, S50_4, S50_5, S50_6, S50_7, S50_8, S50_9, S50_10, S50_11, S50_12, S50r1, S50r2, S50r3, S50r4, S50r5, S50r6, S50r7, S50r8, S50r9, S50r10, S50r11, S50r12, S50r13, hn, he, impF, CNext, CFail, CBodyR, CPutR, CLinR, CParse, tri, bodR, rdr, unStr_rows, strRows_len, strRows_all, ↓Ev.P, Ev.Q, Bool.cond_true, Bool.cond_false, eq_self, forall_eq_or_imp, implies_true, forall_const, forall_eq, ↓reduceIte, reduceIte, Nat.reduceEqDiff, Nat.reduceAdd, reduceCtorEq, Nat.reduceSub, Int.reduceToNat, Int.reduceLE, Int.reduceLT, Int.reduceNeg, Nat.reduceBEq, Nat.reduceMul, Nat.reduceLeDiff, Nat.reduceMod, UInt8.reduceOfNat, Nat.reduceLT, Int.reduceEq, Int.reduceAdd, Int.reduceSub, Int.reduceMul]
    repeat' (first | with_reducible assumption | refine And.intro ?_ ?_ | intro _ | (rw [Ev.xStp_eq]; simp -dsimp -implicitDefEqProofs only [hn, he, impF, CNext, CFail, CBodyR, CPutR, CLinR, CParse, tri, bodR, rdr, unStr_rows, strRows_len, strRows_all, ↓Ev.P, Ev.Q, Bool.cond_true, Bool.cond_false, eq_self, forall_eq_or_imp, implies_true, forall_const, forall_eq, ↓reduceIte, reduceIte, Nat.reduceEqDiff, Nat.reduceAdd, reduceCtorEq, Nat.reduceSub, Int.reduceToNat, Int.reduceLE, Int.reduceLT, Int.reduceNeg, Nat.reduceBEq, Nat.reduceMul, Nat.reduceLeDiff, Nat.reduceMod, UInt8.reduceOfNat, Nat.reduceLT, Int.reduceEq, Int.reduceAdd, Int.reduceSub, Int.reduceMul]))
    all_goals try omega
    all_goals exact hk.1
  | ok x =>
    obtain ⟨s, a⟩ := x
    obtain ⟨ha, hlt, hs⟩ := nextL_le hx
    have hn := nx_next_ok fa hx
    have ec : ((k : Int) + 1) = (a : Int) := by omega
    rw [ec] at hn
    have hsl : s.length ≤ 1099511627776 := by rw [hs]; exact Nat.le_trans (bare_len _) (hL _ (getD_in hlt))
    clear hs
    rw [hx] at hk; dsimp only at hk
    by_cases h1 : s = []
    · rw [if_pos h1] at hk
      subst h1
      rw [onK_error] at hk
      have h2' : ¬ ([] : List UInt8) = [97] := by decide
      have h3' : ¬ ([] : List UInt8) = [115, 47, 46, 47, 47] := by decide
      refine ⟨[0, 1, 2], [], ?_⟩
      simp -dsimp -implicitDefEqProofs only [S50, R50, S50_0, S50_1, S50_2, S50_3, S50_4, S50_5, S50_6, S50_7, S50_8, S50_9, S50_10, S50_11, S50_12, S50r1, S50r2, S50r3, S50r4, S50r5, S50r6, S50r7, S50r8, S50r9, S50r10, S50r11, S50r12, S50r13, hn, h2', h3', impF, CNext, CFail, CBodyR, CPutR, CLinR, CParse, tri, bodR, rdr, unStr_rows, strRows_len, strRows_all, ↓Ev.P, Ev.Q, Bool.cond_true, Bool.cond_false, eq_self, forall_eq_or_imp, implies_true, forall_const, forall_eq, ↓reduceIte, reduceIte, Nat.reduceEqDiff, Nat.reduceAdd, reduceCtorEq, Nat.reduceSub, Int.reduceToNat, Int.reduceLE, Int.reduceLT, Int.reduceNeg, Nat.reduceBEq, Nat.reduceMul, Nat.reduceLeDiff, Nat.reduceMod, UInt8.reduceOfNat, Nat.reduceLT, Int.reduceEq, Int.reduceAdd, Int.reduceSub, Int.reduceMul]
      repeat' (first | with_reducible assumption | refine And.intro ?_ ?_ | intro _ | (rw [Ev.xStp_eq]; simp -dsimp -implicitDefEqProofs only [hn, h2', h3', impF, CNext, CFail, CBodyR, CPutR, CLinR, CParse, tri, bodR, rdr, unStr_rows, strRows_len, strRows_all, ↓Ev.P, Ev.Q, Bool.cond_true, Bool.cond_false, eq_self, forall_eq_or_imp, implies_true, forall_const, forall_eq, ↓reduceIte, reduceIte, Nat.reduceEqDiff, Nat.reduceAdd, reduceCtorEq, Nat.reduceSub, Int.reduceToNat, Int.reduceLE, Int.reduceLT, Int.reduceNeg, Nat.reduceBEq, Nat.reduceMul, Nat.reduceLeDiff, Nat.reduceMod, UInt8.reduceOfNat, Nat.reduceLT, Int.reduceEq, Int.reduceAdd, Int.reduceSub, Int.reduceMul]))
      all_goals try omega
      all_goals exact hk.1
    rw [if_neg h1] at hk
    by_cases h2 : s = [97]
    · rw [if_pos h2] at hk
      subst h2
      by_cases hc : c = -1
      · rw [if_pos hc] at hk
        subst hc
        rw [onK_error] at hk
        refine ⟨[0, 1, 2], [], ?_⟩
        simp -dsimp -implicitDefEqProofs only [S50, R50, S50_0, S50_1, S50_2, S50_3, S50_4, S50_5, S50_6, S50_7, S50_8, S50_9, S50_10, S50_11, S50_12, S50r1, S50r2, S50r3, S50r4, S50r5, S50r6, S50r7, S50r8, S50r9, S50r10, S50r11, S50r12, S50r13, hn, impF, CNext, CFail, CBodyR, CPutR, CLinR, CParse, tri, bodR, rdr, unStr_rows, strRows_len, strRows_all, ↓Ev.P, Ev.Q, Bool.cond_true, Bool.cond_false, eq_self, forall_eq_or_imp, implies_true, forall_const, forall_eq, ↓reduceIte, reduceIte, Nat.reduceEqDiff, Nat.reduceAdd, reduceCtorEq, Nat.reduceSub, Int.reduceToNat, Int.reduceLE, Int.reduceLT, Int.reduceNeg, Nat.reduceBEq, Nat.reduceMul, Nat.reduceLeDiff, Nat.reduceMod, UInt8.reduceOfNat, Nat.reduceLT, Int.reduceEq, Int.reduceAdd, Int.reduceSub, Int.reduceMul]
        repeat' (first | with_reducible assumption | refine And.intro ?_ ?_ | intro _ | (rw [Ev.xStp_eq]; simp -dsimp -implicitDefEqProofs only [hn, impF, CNext, CFail, CBodyR, CPutR, CLinR, CParse, tri, bodR, rdr, unStr_rows, strRows_len, strRows_all, ↓Ev.P, Ev.Q, Bool.cond_true, Bool.cond_false, eq_self, forall_eq_or_imp, implies_true, forall_const, forall_eq, ↓reduceIte, reduceIte, Nat.reduceEqDiff, Nat.reduceAdd, reduceCtorEq, Nat.reduceSub, Int.reduceToNat, Int.reduceLE, Int.reduceLT, Int.reduceNeg, Nat.reduceBEq, Nat.reduceMul, Nat.reduceLeDiff, Nat.reduceMod, UInt8.reduceOfNat, Nat.reduceLT, Int.reduceEq, Int.reduceAdd, Int.reduceSub, Int.reduceMul]))
        all_goals try omega
        all_goals exact hk.1
      · rw [if_neg hc] at hk
        have hc0 := hok.resolve_left hc
        obtain ⟨cn, rfl⟩ := Int.eq_ofNat_of_zero_le hc0.1
        have e1 : ((cn : Int) + 1).toNat = cn + 1 := by omega
        have hcl : (cn : Int) < X.length := hc0.2
        have hneg : ¬ (cn : Int) < 0 := by omega
        rw [e1] at hk
        unfold bodyE at hk
        cases hb : bodyL L (L.length - a) a [] with
        | error x =>
          obtain ⟨xa, xe⟩ := x
          rw [hb] at hk; dsimp only at hk
          rw [onK_error] at hk
          have hp1 := put_non2 X (cn + 1) 0
          rw [Nat.add_zero] at hp1
          refine ⟨[0, 1, 2, 3], [], ?_⟩
          simp -dsimp -implicitDefEqProofs only [S50, R50, S50_0, S50_1, S50_2, S50_3, S50_4, S50_5, S50_6, S50_7, S50_8, S50_9, S50_10, S50_11, S50_12, S50r1, S50r2, S50r3, S50r4, S50r5, S50r6, S50r7, S50r8, S50r9, S50r10, S50r11, S50r12, S50r13, hn, hneg, hb, e1, cur_none, impF, CNext, CFail, CBodyR, CPutR, CLinR, CParse, tri, bodR, rdr, unStr_rows, strRows_len, strRows_all, ↓Ev.P, Ev.Q, Bool.cond_true, Bool.cond_false, eq_self, forall_eq_or_imp, implies_true, forall_const, forall_eq, ↓reduceIte, reduceIte, Nat.reduceEqDiff, Nat.reduceAdd, reduceCtorEq, Nat.reduceSub, Int.reduceToNat, Int.reduceLE, Int.reduceLT, Int.reduceNeg, Nat.reduceBEq, Nat.reduceMul, Nat.reduceLeDiff, Nat.reduceMod, UInt8.reduceOfNat, Nat.reduceLT, Int.reduceEq, Int.reduceAdd, Int.reduceSub, Int.reduceMul]
          repeat' (first | with_reducible assumption | refine And.intro ?_ ?_ | intro _ | (rw [Ev.xStp_eq]; simp -dsimp -implicitDefEqProofs only [hn, hneg, hb, e1, cur_none, impF, CNext, CFail, CBodyR, CPutR, CLinR, CParse, tri, bodR, rdr, unStr_rows, strRows_len, strRows_all, ↓Ev.P, Ev.Q, Bool.cond_true, Bool.cond_false, eq_self, forall_eq_or_imp, implies_true, forall_const, forall_eq, ↓reduceIte, reduceIte, Nat.reduceEqDiff, Nat.reduceAdd, reduceCtorEq, Nat.reduceSub, Int.reduceToNat, Int.reduceLE, Int.reduceLT, Int.reduceNeg, Nat.reduceBEq, Nat.reduceMul, Nat.reduceLeDiff, Nat.reduceMod, UInt8.reduceOfNat, Nat.reduceLT, Int.reduceEq, Int.reduceAdd, Int.reduceSub, Int.reduceMul]))
          all_goals try omega
          all_goals exact hk.2 _
        | ok x =>
          obtain ⟨l, b⟩ := x
          rw [hb] at hk; dsimp only at hk
          rw [onK_ok] at hk
          have hle := bodyL_le hb
          have hp1 := put_rows X l (cn + 1) 0
          have hp2 := put_cur X l (cn + 1) 0
          rw [Nat.add_zero] at hp1
          refine ⟨[0, 1, 2, 4], [], ?_⟩
          simp -dsimp -implicitDefEqProofs only [S50, R50, S50_0, S50_1, S50_2, S50_3, S50_4, S50_5, S50_6, S50_7, S50_8, S50_9, S50_10, S50_11, S50_12, S50r1, S50r2, S50r3, S50r4, S50r5, S50r6, S50r7, S50r8, S50r9, S50r10, S50r11, S50r12, S50r13, hn, hneg, hb, e1, hp1, hp2, impF, CNext, CFail, CBodyR, CPutR, CLinR, CParse, tri, bodR, rdr, unStr_rows, strRows_len, strRows_all, ↓Ev.P, Ev.Q, Bool.cond_true, Bool.cond_false, eq_self, forall_eq_or_imp, implies_true, forall_const, forall_eq, ↓reduceIte, reduceIte, Nat.reduceEqDiff, Nat.reduceAdd, reduceCtorEq, Nat.reduceSub, Int.reduceToNat, Int.reduceLE, Int.reduceLT, Int.reduceNeg, Nat.reduceBEq, Nat.reduceMul, Nat.reduceLeDiff, Nat.reduceMod, UInt8.reduceOfNat, Nat.reduceLT, Int.reduceEq, Int.reduceAdd, Int.reduceSub, Int.reduceMul]
          repeat' (first | with_reducible assumption | refine And.intro ?_ ?_ | intro _ | (rw [Ev.xStp_eq]; simp -dsimp -implicitDefEqProofs only [hn, hneg, hb, e1, hp1, hp2, impF, CNext, CFail, CBodyR, CPutR, CLinR, CParse, tri, bodR, rdr, unStr_rows, strRows_len, strRows_all, ↓Ev.P, Ev.Q, Bool.cond_true, Bool.cond_false, eq_self, forall_eq_or_imp, implies_true, forall_const, forall_eq, ↓reduceIte, reduceIte, Nat.reduceEqDiff, Nat.reduceAdd, reduceCtorEq, Nat.reduceSub, Int.reduceToNat, Int.reduceLE, Int.reduceLT, Int.reduceNeg, Nat.reduceBEq, Nat.reduceMul, Nat.reduceLeDiff, Nat.reduceMod, UInt8.reduceOfNat, Nat.reduceLT, Int.reduceEq, Int.reduceAdd, Int.reduceSub, Int.reduceMul]))
          all_goals try omega
          all_goals first | (simp only [List.length_nil] at hle; omega) | exact hk.1
    rw [if_neg h2] at hk
    by_cases h3 : s = stripS
    · rw [if_pos h3] at hk
      have h2' : ¬ ([115, 47, 46, 47, 47] : List UInt8) = [97] := by decide
      unfold stripS at h3
      subst h3
      by_cases hc : c = -1
      · rw [if_pos (.inl hc)] at hk
        subst hc
        rw [onK_error] at hk
        refine ⟨[0, 1, 2], [], ?_⟩
        simp -dsimp -implicitDefEqProofs only [S50, R50, S50_0, S50_1, S50_2, S50_3, S50_4, S50_5, S50_6, S50_7, S50_8, S50_9, S50_10, S50_11, S50_12, S50r1, S50r2, S50r3, S50r4, S50r5, S50r6, S50r7, S50r8, S50r9, S50r10, S50r11, S50r12, S50r13, hn, h2', impF, CNext, CFail, CBodyR, CPutR, CLinR, CParse, tri, bodR, rdr, unStr_rows, strRows_len, strRows_all, ↓Ev.P, Ev.Q, Bool.cond_true, Bool.cond_false, eq_self, forall_eq_or_imp, implies_true, forall_const, forall_eq, ↓reduceIte, reduceIte, Nat.reduceEqDiff, Nat.reduceAdd, reduceCtorEq, Nat.reduceSub, Int.reduceToNat, Int.reduceLE, Int.reduceLT, Int.reduceNeg, Nat.reduceBEq, Nat.reduceMul, Nat.reduceLeDiff, Nat.reduceMod, UInt8.reduceOfNat, Nat.reduceLT, Int.reduceEq, Int.reduceAdd, Int.reduceSub, Int.reduceMul]
        repeat' (first | with_reducible assumption | refine And.intro ?_ ?_ | intro _ | (rw [Ev.xStp_eq]; simp -dsimp -implicitDefEqProofs only [hn, h2', impF, CNext, CFail, CBodyR, CPutR, CLinR, CParse, tri, bodR, rdr, unStr_rows, strRows_len, strRows_all, ↓Ev.P, Ev.Q, Bool.cond_true, Bool.cond_false, eq_self, forall_eq_or_imp, implies_true, forall_const, forall_eq, ↓reduceIte, reduceIte, Nat.reduceEqDiff, Nat.reduceAdd, reduceCtorEq, Nat.reduceSub, Int.reduceToNat, Int.reduceLE, Int.reduceLT, Int.reduceNeg, Nat.reduceBEq, Nat.reduceMul, Nat.reduceLeDiff, Nat.reduceMod, UInt8.reduceOfNat, Nat.reduceLT, Int.reduceEq, Int.reduceAdd, Int.reduceSub, Int.reduceMul]))
        all_goals try omega
        all_goals exact hk.1
      · have hc0 := hok.resolve_left hc
        obtain ⟨cn, rfl⟩ := Int.eq_ofNat_of_zero_le hc0.1
        have hcl : (cn : Int) < X.length := hc0.2
        have hcl2 : cn < X.length := by omega
        have hneg : ¬ (cn : Int) < 0 := by omega
        rw [Int.toNat_natCast] at hk
        have hg := strRows_get hcl2
        have hg2 : (strRows X).getD cn [] = [.v (.string ⟨(X.getD cn []).toArray⟩)] := by rw [List.getD_eq_getElem?_getD, hg]; rfl
        by_cases he : X.getD cn [] = []
        · rw [if_pos (.inr he)] at hk
          rw [onK_error] at hk
          rw [he] at hg hg2
          refine ⟨[0, 1, 2], [], ?_⟩
          simp -dsimp -implicitDefEqProofs only [S50, R50, S50_0, S50_1, S50_2, S50_3, S50_4, S50_5, S50_6, S50_7, S50_8, S50_9, S50_10, S50_11, S50_12, S50r1, S50r2, S50r3, S50r4, S50r5, S50r6, S50r7, S50r8, S50r9, S50r10, S50r11, S50r12, S50r13, hn, h2', hneg, hg, hg2, impF, CNext, CFail, CBodyR, CPutR, CLinR, CParse, tri, bodR, rdr, unStr_rows, strRows_len, strRows_all, ↓Ev.P, Ev.Q, Bool.cond_true, Bool.cond_false, eq_self, forall_eq_or_imp, implies_true, forall_const, forall_eq, ↓reduceIte, reduceIte, Nat.reduceEqDiff, Nat.reduceAdd, reduceCtorEq, Nat.reduceSub, Int.reduceToNat, Int.reduceLE, Int.reduceLT, Int.reduceNeg, Nat.reduceBEq, Nat.reduceMul, Nat.reduceLeDiff, Nat.reduceMod, UInt8.reduceOfNat, Nat.reduceLT, Int.reduceEq, Int.reduceAdd, Int.reduceSub, Int.reduceMul]
          repeat' (first | with_reducible assumption | refine And.intro ?_ ?_ | intro _ | (rw [Ev.xStp_eq]; simp -dsimp -implicitDefEqProofs only [hn, h2', hneg, hg, hg2, impF, CNext, CFail, CBodyR, CPutR, CLinR, CParse, tri, bodR, rdr, unStr_rows, strRows_len, strRows_all, ↓Ev.P, Ev.Q, Bool.cond_true, Bool.cond_false, eq_self, forall_eq_or_imp, implies_true, forall_const, forall_eq, ↓reduceIte, reduceIte, Nat.reduceEqDiff, Nat.reduceAdd, reduceCtorEq, Nat.reduceSub, Int.reduceToNat, Int.reduceLE, Int.reduceLT, Int.reduceNeg, Nat.reduceBEq, Nat.reduceMul, Nat.reduceLeDiff, Nat.reduceMod, UInt8.reduceOfNat, Nat.reduceLT, Int.reduceEq, Int.reduceAdd, Int.reduceSub, Int.reduceMul]))
          all_goals try omega
          all_goals exact hk.1
        · rw [if_neg (by simp only [hc, false_or]; exact he)] at hk
          rw [onK_ok] at hk
          have hxl := hX _ (getD_in hcl2)
          have hpos : 1 ≤ (X.getD cn []).length := List.length_pos_iff.2 he
          have hset : (strRows X).set cn [.v (.string ⟨((X.getD cn []).drop 1).toArray⟩)] = strRows (X.set cn ((X.getD cn []).drop 1)) := by simp [strRows, List.map_set]
          generalize X.getD cn [] = w at hg hg2 he hk hxl hpos hset
          have htk : (w.drop 1).take (w.length - 1) = w.drop 1 := List.take_of_length_le (by rw [List.length_drop]; exact Nat.le_refl _)
          have hw0 : ¬ (w.length : Int) = 0 := by omega
          refine ⟨[0, 1, 2], [], ?_⟩
          simp -dsimp -implicitDefEqProofs only [S50, R50, S50_0, S50_1, S50_2, S50_3, S50_4, S50_5, S50_6, S50_7, S50_8, S50_9, S50_10, S50_11, S50_12, S50r1, S50r2, S50r3, S50r4, S50r5, S50r6, S50r7, S50r8, S50r9, S50r10, S50r11, S50r12, S50r13, hn, h2', hneg, hg, hg2, he, hw0, hset, htk, List.length_set, impF, CNext, CFail, CBodyR, CPutR, CLinR, CParse, tri, bodR, rdr, unStr_rows, strRows_len, strRows_all, ↓Ev.P, Ev.Q, Bool.cond_true, Bool.cond_false, eq_self, forall_eq_or_imp, implies_true, forall_const, forall_eq, ↓reduceIte, reduceIte, Nat.reduceEqDiff, Nat.reduceAdd, reduceCtorEq, Nat.reduceSub, Int.reduceToNat, Int.reduceLE, Int.reduceLT, Int.reduceNeg, Nat.reduceBEq, Nat.reduceMul, Nat.reduceLeDiff, Nat.reduceMod, UInt8.reduceOfNat, Nat.reduceLT, Int.reduceEq, Int.reduceAdd, Int.reduceSub, Int.reduceMul]
          repeat' (first | with_reducible assumption | refine And.intro ?_ ?_ | intro _ | (rw [Ev.xStp_eq]; simp -dsimp -implicitDefEqProofs only [hn, h2', hneg, hg, hg2, he, hw0, hset, htk, List.length_set, impF, CNext, CFail, CBodyR, CPutR, CLinR, CParse, tri, bodR, rdr, unStr_rows, strRows_len, strRows_all, ↓Ev.P, Ev.Q, Bool.cond_true, Bool.cond_false, eq_self, forall_eq_or_imp, implies_true, forall_const, forall_eq, ↓reduceIte, reduceIte, Nat.reduceEqDiff, Nat.reduceAdd, reduceCtorEq, Nat.reduceSub, Int.reduceToNat, Int.reduceLE, Int.reduceLT, Int.reduceNeg, Nat.reduceBEq, Nat.reduceMul, Nat.reduceLeDiff, Nat.reduceMod, UInt8.reduceOfNat, Nat.reduceLT, Int.reduceEq, Int.reduceAdd, Int.reduceSub, Int.reduceMul]))
          all_goals try omega
          all_goals exact hk.2
    rw [if_neg h3] at hk
    unfold stripS at h3
    have hpos : 0 < s.length := List.length_pos_iff.2 h1
    have hs0 : ¬ (s.length : Int) = 0 := by omega
    have e2 : ((s.length : Int) - 1).toNat = s.length - 1 := by omega
    unfold numE at hk
    have hsl2 : (s.take (s.length - 1)).length ≤ 1099511627776 := by rw [List.length_take]; omega
    have hv0 : (0 : Int) ≤ ((s.getD (s.length - 1) 0).toNat : Int) := by omega
    have hv1 : ((s.getD (s.length - 1) 0).toNat : Int) < 256 := by have := (s.getD (s.length - 1) 0).toNat_lt; omega
    generalize hw : s.take (s.length - 1) = w at hk hsl2
    generalize hv : ((s.getD (s.length - 1) 0).toNat : Int) = v at hk hv0 hv1
    have bq := parseS_bd w
    by_cases hvv : v = 97 ∨ v = 99 ∨ v = 100
    · rw [if_pos hvv] at hk
      by_cases h97 : v = 97
      · subst h97
        simp only [placeE, if_true] at hk
        generalize hq : parseS w = pe at hk bq
        obtain ⟨q, e⟩ := pe
        dsimp only at hk bq
        generalize hsv : sevL w = sv at hk
        obtain ⟨⟨sp, sn⟩, sb⟩ := sv
        by_cases he : e = 0
        · rw [if_pos he] at hk
          obtain ⟨q, rfl⟩ := Int.eq_ofNat_of_zero_le bq.1
          have q1 : ((q : Int) + 1 - 1).toNat = q := by omega
          have q2 : ((q : Int) + 1 - 1) = q := by omega
          by_cases hr : (X.length : Int) < q
          · rw [if_pos hr] at hk; dsimp only at hk
            rw [onK_error] at hk
            have hr2 : (X.length : Int) < (q : Int) + 1 + 0 - 1 := by omega
            refine ⟨[0, 1, 2], [], ?_⟩
            simp -dsimp -implicitDefEqProofs only [S50, R50, S50_0, S50_1, S50_2, S50_3, S50_4, S50_5, S50_6, S50_7, S50_8, S50_9, S50_10, S50_11, S50_12, S50r1, S50r2, S50r3, S50r4, S50r5, S50r6, S50r7, S50r8, S50r9, S50r10, S50r11, S50r12, S50r13, hn, h1, h2, h3, hs0, e2, hw, hv, hq, hsv, he, hr2, impF, CNext, CFail, CBodyR, CPutR, CLinR, CParse, tri, bodR, rdr, unStr_rows, strRows_len, strRows_all, ↓Ev.P, Ev.Q, Bool.cond_true, Bool.cond_false, eq_self, forall_eq_or_imp, implies_true, forall_const, forall_eq, ↓reduceIte, reduceIte, Nat.reduceEqDiff, Nat.reduceAdd, reduceCtorEq, Nat.reduceSub, Int.reduceToNat, Int.reduceLE, Int.reduceLT, Int.reduceNeg, Nat.reduceBEq, Nat.reduceMul, Nat.reduceLeDiff, Nat.reduceMod, UInt8.reduceOfNat, Nat.reduceLT, Int.reduceEq, Int.reduceAdd, Int.reduceSub, Int.reduceMul]
            repeat' (first | with_reducible assumption | refine And.intro ?_ ?_ | intro _ | (rw [Ev.xStp_eq]; simp -dsimp -implicitDefEqProofs only [hn, h1, h2, h3, hs0, e2, hw, hv, hq, hsv, he, hr2, impF, CNext, CFail, CBodyR, CPutR, CLinR, CParse, tri, bodR, rdr, unStr_rows, strRows_len, strRows_all, ↓Ev.P, Ev.Q, Bool.cond_true, Bool.cond_false, eq_self, forall_eq_or_imp, implies_true, forall_const, forall_eq, ↓reduceIte, reduceIte, Nat.reduceEqDiff, Nat.reduceAdd, reduceCtorEq, Nat.reduceSub, Int.reduceToNat, Int.reduceLE, Int.reduceLT, Int.reduceNeg, Nat.reduceBEq, Nat.reduceMul, Nat.reduceLeDiff, Nat.reduceMod, UInt8.reduceOfNat, Nat.reduceLT, Int.reduceEq, Int.reduceAdd, Int.reduceSub, Int.reduceMul]))
            all_goals try omega
            all_goals exact hk.1
          · rw [if_neg hr] at hk; dsimp only at hk
            rw [if_neg (by decide)] at hk
            simp only [Int.toNat_natCast, Int.toNat_zero] at hk
            have hr2 : ¬ (X.length : Int) < (q : Int) + 1 + 0 - 1 := by omega
            have hP : q + 0 ≤ X.length := by omega
            have q3 : ((q : Int) + 1 - 1 + 0).toNat = q := by omega
            unfold bodyE at hk
            cases hb : bodyL L (L.length - a) a [] with
            | error x =>
              obtain ⟨xa, xe⟩ := x
              have hbe := bodyL_err hb
              rw [hb] at hk; dsimp only at hk
              rw [onK_error] at hk
              refine ⟨[0, 1, 2], [], ?_⟩
              simp -dsimp -implicitDefEqProofs only [S50, R50, S50_0, S50_1, S50_2, S50_3, S50_4, S50_5, S50_6, S50_7, S50_8, S50_9, S50_10, S50_11, S50_12, S50r1, S50r2, S50r3, S50r4, S50r5, S50r6, S50r7, S50r8, S50r9, S50r10, S50r11, S50r12, S50r13, hn, h1, h2, h3, hs0, e2, hw, hv, hq, hsv, he, hr2, q1, q2, q3, hb, hbe, impF, CNext, CFail, CBodyR, CPutR, CLinR, CParse, tri, bodR, rdr, unStr_rows, strRows_len, strRows_all, ↓Ev.P, Ev.Q, Bool.cond_true, Bool.cond_false, eq_self, forall_eq_or_imp, implies_true, forall_const, forall_eq, ↓reduceIte, reduceIte, Nat.reduceEqDiff, Nat.reduceAdd, reduceCtorEq, Nat.reduceSub, Int.reduceToNat, Int.reduceLE, Int.reduceLT, Int.reduceNeg, Nat.reduceBEq, Nat.reduceMul, Nat.reduceLeDiff, Nat.reduceMod, UInt8.reduceOfNat, Nat.reduceLT, Int.reduceEq, Int.reduceAdd, Int.reduceSub, Int.reduceMul]
              repeat' (first | with_reducible assumption | refine And.intro ?_ ?_ | intro _ | (rw [Ev.xStp_eq]; simp -dsimp -implicitDefEqProofs only [hn, h1, h2, h3, hs0, e2, hw, hv, hq, hsv, he, hr2, q1, q2, q3, hb, hbe, impF, CNext, CFail, CBodyR, CPutR, CLinR, CParse, tri, bodR, rdr, unStr_rows, strRows_len, strRows_all, ↓Ev.P, Ev.Q, Bool.cond_true, Bool.cond_false, eq_self, forall_eq_or_imp, implies_true, forall_const, forall_eq, ↓reduceIte, reduceIte, Nat.reduceEqDiff, Nat.reduceAdd, reduceCtorEq, Nat.reduceSub, Int.reduceToNat, Int.reduceLE, Int.reduceLT, Int.reduceNeg, Nat.reduceBEq, Nat.reduceMul, Nat.reduceLeDiff, Nat.reduceMod, UInt8.reduceOfNat, Nat.reduceLT, Int.reduceEq, Int.reduceAdd, Int.reduceSub, Int.reduceMul]))
              all_goals try omega
              all_goals exact hk.1
            | ok x =>
              obtain ⟨l, b⟩ := x
              rw [hb] at hk; dsimp only at hk
              rw [onK_ok] at hk
              have hle := bodyL_le hb
              have hp1 := put_two X l q 0 hP
              have hp2 := put_cur X l q 0
              have hp3 := put_len X q 0 hP
              have hp4 := put_all X q 0
              have qa : ((q : Int) + 0).toNat = q := by omega
              rw [Nat.add_zero] at hp1 hp3 hp4
              refine ⟨[0, 1, 2, 7], [], ?_⟩
              simp -dsimp -implicitDefEqProofs only [S50, R50, S50_0, S50_1, S50_2, S50_3, S50_4, S50_5, S50_6, S50_7, S50_8, S50_9, S50_10, S50_11, S50_12, S50r1, S50r2, S50r3, S50r4, S50r5, S50r6, S50r7, S50r8, S50r9, S50r10, S50r11, S50r12, S50r13, hn, h1, h2, h3, hs0, e2, hw, hv, hq, hsv, he, hr2, q1, q2, q3, hb, qa, hp1, hp2, hp3, hp4, take_all1, drop_all1, take_len1, impF, CNext, CFail, CBodyR, CPutR, CLinR, CParse, tri, bodR, rdr, unStr_rows, strRows_len, strRows_all, ↓Ev.P, Ev.Q, Bool.cond_true, Bool.cond_false, eq_self, forall_eq_or_imp, implies_true, forall_const, forall_eq, ↓reduceIte, reduceIte, Nat.reduceEqDiff, Nat.reduceAdd, reduceCtorEq, Nat.reduceSub, Int.reduceToNat, Int.reduceLE, Int.reduceLT, Int.reduceNeg, Nat.reduceBEq, Nat.reduceMul, Nat.reduceLeDiff, Nat.reduceMod, UInt8.reduceOfNat, Nat.reduceLT, Int.reduceEq, Int.reduceAdd, Int.reduceSub, Int.reduceMul]
              repeat' (first | with_reducible assumption | refine And.intro ?_ ?_ | intro _ | (rw [Ev.xStp_eq]; simp -dsimp -implicitDefEqProofs only [hn, h1, h2, h3, hs0, e2, hw, hv, hq, hsv, he, hr2, q1, q2, q3, hb, qa, hp1, hp2, hp3, hp4, take_all1, drop_all1, take_len1, impF, CNext, CFail, CBodyR, CPutR, CLinR, CParse, tri, bodR, rdr, unStr_rows, strRows_len, strRows_all, ↓Ev.P, Ev.Q, Bool.cond_true, Bool.cond_false, eq_self, forall_eq_or_imp, implies_true, forall_const, forall_eq, ↓reduceIte, reduceIte, Nat.reduceEqDiff, Nat.reduceAdd, reduceCtorEq, Nat.reduceSub, Int.reduceToNat, Int.reduceLE, Int.reduceLT, Int.reduceNeg, Nat.reduceBEq, Nat.reduceMul, Nat.reduceLeDiff, Nat.reduceMod, UInt8.reduceOfNat, Nat.reduceLT, Int.reduceEq, Int.reduceAdd, Int.reduceSub, Int.reduceMul]))
              all_goals try omega
              all_goals first | (simp only [List.length_nil] at hle; omega) | exact hk.1 | (simp only [List.length_append, List.length_take, List.length_drop, strRows_len]; omega)
        · rw [if_neg he] at hk; dsimp only at hk
          rw [onK_error] at hk
          refine ⟨[0, 1, 2], [], ?_⟩
          simp -dsimp -implicitDefEqProofs only [S50, R50, S50_0, S50_1, S50_2, S50_3, S50_4, S50_5, S50_6, S50_7, S50_8, S50_9, S50_10, S50_11, S50_12, S50r1, S50r2, S50r3, S50r4, S50r5, S50r6, S50r7, S50r8, S50r9, S50r10, S50r11, S50r12, S50r13, hn, h1, h2, h3, hs0, e2, hw, hv, hq, hsv, he, impF, CNext, CFail, CBodyR, CPutR, CLinR, CParse, tri, bodR, rdr, unStr_rows, strRows_len, strRows_all, ↓Ev.P, Ev.Q, Bool.cond_true, Bool.cond_false, eq_self, forall_eq_or_imp, implies_true, forall_const, forall_eq, ↓reduceIte, reduceIte, Nat.reduceEqDiff, Nat.reduceAdd, reduceCtorEq, Nat.reduceSub, Int.reduceToNat, Int.reduceLE, Int.reduceLT, Int.reduceNeg, Nat.reduceBEq, Nat.reduceMul, Nat.reduceLeDiff, Nat.reduceMod, UInt8.reduceOfNat, Nat.reduceLT, Int.reduceEq, Int.reduceAdd, Int.reduceSub, Int.reduceMul]
          repeat' (first | with_reducible assumption | refine And.intro ?_ ?_ | intro _ | (rw [Ev.xStp_eq]; simp -dsimp -implicitDefEqProofs only [hn, h1, h2, h3, hs0, e2, hw, hv, hq, hsv, he, impF, CNext, CFail, CBodyR, CPutR, CLinR, CParse, tri, bodR, rdr, unStr_rows, strRows_len, strRows_all, ↓Ev.P, Ev.Q, Bool.cond_true, Bool.cond_false, eq_self, forall_eq_or_imp, implies_true, forall_const, forall_eq, ↓reduceIte, reduceIte, Nat.reduceEqDiff, Nat.reduceAdd, reduceCtorEq, Nat.reduceSub, Int.reduceToNat, Int.reduceLE, Int.reduceLT, Int.reduceNeg, Nat.reduceBEq, Nat.reduceMul, Nat.reduceLeDiff, Nat.reduceMod, UInt8.reduceOfNat, Nat.reduceLT, Int.reduceEq, Int.reduceAdd, Int.reduceSub, Int.reduceMul]))
          all_goals try omega
          all_goals exact hk.1
      · unfold placeE at hk
        rw [if_neg h97] at hk
        have bs := @sevL_le w
        generalize hsv : sevL w = sv at hk bs
        obtain ⟨⟨sp, sn⟩, sb⟩ := sv
        dsimp only at hk bs
        cases sb with
        | false =>
          rw [if_neg (by decide)] at hk; dsimp only at hk
          rw [onK_error] at hk
          have hv9 : v = 99 ∨ v = 100 := hvv.resolve_left h97
          rcases hv9 with rfl | rfl
          · have _t := trivial
            refine ⟨[0, 1, 2], [], ?_⟩
            simp -dsimp -implicitDefEqProofs only [S50, R50, S50_0, S50_1, S50_2, S50_3, S50_4, S50_5, S50_6, S50_7, S50_8, S50_9, S50_10, S50_11, S50_12, S50r1, S50r2, S50r3, S50r4, S50r5, S50r6, S50r7, S50r8, S50r9, S50r10, S50r11, S50r12, S50r13, hn, h1, h2, h3, hs0, e2, hw, hv, hsv, impF, CNext, CFail, CBodyR, CPutR, CLinR, CParse, tri, bodR, rdr, unStr_rows, strRows_len, strRows_all, ↓Ev.P, Ev.Q, Bool.cond_true, Bool.cond_false, eq_self, forall_eq_or_imp, implies_true, forall_const, forall_eq, ↓reduceIte, reduceIte, Nat.reduceEqDiff, Nat.reduceAdd, reduceCtorEq, Nat.reduceSub, Int.reduceToNat, Int.reduceLE, Int.reduceLT, Int.reduceNeg, Nat.reduceBEq, Nat.reduceMul, Nat.reduceLeDiff, Nat.reduceMod, UInt8.reduceOfNat, Nat.reduceLT, Int.reduceEq, Int.reduceAdd, Int.reduceSub, Int.reduceMul]
            repeat' (first | with_reducible assumption | refine And.intro ?_ ?_ | intro _ | (rw [Ev.xStp_eq]; simp -dsimp -implicitDefEqProofs only [hn, h1, h2, h3, hs0, e2, hw, hv, hsv, impF, CNext, CFail, CBodyR, CPutR, CLinR, CParse, tri, bodR, rdr, unStr_rows, strRows_len, strRows_all, ↓Ev.P, Ev.Q, Bool.cond_true, Bool.cond_false, eq_self, forall_eq_or_imp, implies_true, forall_const, forall_eq, ↓reduceIte, reduceIte, Nat.reduceEqDiff, Nat.reduceAdd, reduceCtorEq, Nat.reduceSub, Int.reduceToNat, Int.reduceLE, Int.reduceLT, Int.reduceNeg, Nat.reduceBEq, Nat.reduceMul, Nat.reduceLeDiff, Nat.reduceMod, UInt8.reduceOfNat, Nat.reduceLT, Int.reduceEq, Int.reduceAdd, Int.reduceSub, Int.reduceMul]))
            all_goals try omega
            all_goals exact hk.1
          · have _t := trivial
            refine ⟨[0, 1, 2], [], ?_⟩
            simp -dsimp -implicitDefEqProofs only [S50, R50, S50_0, S50_1, S50_2, S50_3, S50_4, S50_5, S50_6, S50_7, S50_8, S50_9, S50_10, S50_11, S50_12, S50r1, S50r2, S50r3, S50r4, S50r5, S50r6, S50r7, S50r8, S50r9, S50r10, S50r11, S50r12, S50r13, hn, h1, h2, h3, hs0, e2, hw, hv, hsv, impF, CNext, CFail, CBodyR, CPutR, CLinR, CParse, tri, bodR, rdr, unStr_rows, strRows_len, strRows_all, ↓Ev.P, Ev.Q, Bool.cond_true, Bool.cond_false, eq_self, forall_eq_or_imp, implies_true, forall_const, forall_eq, ↓reduceIte, reduceIte, Nat.reduceEqDiff, Nat.reduceAdd, reduceCtorEq, Nat.reduceSub, Int.reduceToNat, Int.reduceLE, Int.reduceLT, Int.reduceNeg, Nat.reduceBEq, Nat.reduceMul, Nat.reduceLeDiff, Nat.reduceMod, UInt8.reduceOfNat, Nat.reduceLT, Int.reduceEq, Int.reduceAdd, Int.reduceSub, Int.reduceMul]
            repeat' (first | with_reducible assumption | refine And.intro ?_ ?_ | intro _ | (rw [Ev.xStp_eq]; simp -dsimp -implicitDefEqProofs only [hn, h1, h2, h3, hs0, e2, hw, hv, hsv, impF, CNext, CFail, CBodyR, CPutR, CLinR, CParse, tri, bodR, rdr, unStr_rows, strRows_len, strRows_all, ↓Ev.P, Ev.Q, Bool.cond_true, Bool.cond_false, eq_self, forall_eq_or_imp, implies_true, forall_const, forall_eq, ↓reduceIte, reduceIte, Nat.reduceEqDiff, Nat.reduceAdd, reduceCtorEq, Nat.reduceSub, Int.reduceToNat, Int.reduceLE, Int.reduceLT, Int.reduceNeg, Nat.reduceBEq, Nat.reduceMul, Nat.reduceLeDiff, Nat.reduceMod, UInt8.reduceOfNat, Nat.reduceLT, Int.reduceEq, Int.reduceAdd, Int.reduceSub, Int.reduceMul]))
            all_goals try omega
            all_goals exact hk.1
        | true =>
          rw [if_pos rfl] at hk
          obtain ⟨b1, b2, b3, b4⟩ := bs rfl
          obtain ⟨P, rfl⟩ : ∃ P : Nat, sp = (P : Int) + 1 := ⟨(sp - 1).toNat, by omega⟩
          obtain ⟨M, rfl⟩ := Int.eq_ofNat_of_zero_le (show 0 ≤ sn by omega)
          have q1 : ((P : Int) + 1 - 1).toNat = P := by omega
          have q3 : ((P : Int) + 1 - 1 + M).toNat = P + M := by omega
          by_cases hr : (X.length : Int) < (P : Int) + 1 + M - 1
          · rw [if_pos hr] at hk; dsimp only at hk
            rw [onK_error] at hk
            have hv9 : v = 99 ∨ v = 100 := hvv.resolve_left h97
            rcases hv9 with rfl | rfl
            · have _t := trivial
              refine ⟨[0, 1, 2], [], ?_⟩
              simp -dsimp -implicitDefEqProofs only [S50, R50, S50_0, S50_1, S50_2, S50_3, S50_4, S50_5, S50_6, S50_7, S50_8, S50_9, S50_10, S50_11, S50_12, S50r1, S50r2, S50r3, S50r4, S50r5, S50r6, S50r7, S50r8, S50r9, S50r10, S50r11, S50r12, S50r13, hn, h1, h2, h3, hs0, e2, hw, hv, hsv, hr, impF, CNext, CFail, CBodyR, CPutR, CLinR, CParse, tri, bodR, rdr, unStr_rows, strRows_len, strRows_all, ↓Ev.P, Ev.Q, Bool.cond_true, Bool.cond_false, eq_self, forall_eq_or_imp, implies_true, forall_const, forall_eq, ↓reduceIte, reduceIte, Nat.reduceEqDiff, Nat.reduceAdd, reduceCtorEq, Nat.reduceSub, Int.reduceToNat, Int.reduceLE, Int.reduceLT, Int.reduceNeg, Nat.reduceBEq, Nat.reduceMul, Nat.reduceLeDiff, Nat.reduceMod, UInt8.reduceOfNat, Nat.reduceLT, Int.reduceEq, Int.reduceAdd, Int.reduceSub, Int.reduceMul]
              repeat' (first | with_reducible assumption | refine And.intro ?_ ?_ | intro _ | (rw [Ev.xStp_eq]; simp -dsimp -implicitDefEqProofs only [hn, h1, h2, h3, hs0, e2, hw, hv, hsv, hr, impF, CNext, CFail, CBodyR, CPutR, CLinR, CParse, tri, bodR, rdr, unStr_rows, strRows_len, strRows_all, ↓Ev.P, Ev.Q, Bool.cond_true, Bool.cond_false, eq_self, forall_eq_or_imp, implies_true, forall_const, forall_eq, ↓reduceIte, reduceIte, Nat.reduceEqDiff, Nat.reduceAdd, reduceCtorEq, Nat.reduceSub, Int.reduceToNat, Int.reduceLE, Int.reduceLT, Int.reduceNeg, Nat.reduceBEq, Nat.reduceMul, Nat.reduceLeDiff, Nat.reduceMod, UInt8.reduceOfNat, Nat.reduceLT, Int.reduceEq, Int.reduceAdd, Int.reduceSub, Int.reduceMul]))
              all_goals try omega
              all_goals exact hk.1
            · have _t := trivial
              refine ⟨[0, 1, 2], [], ?_⟩
              simp -dsimp -implicitDefEqProofs only [S50, R50, S50_0, S50_1, S50_2, S50_3, S50_4, S50_5, S50_6, S50_7, S50_8, S50_9, S50_10, S50_11, S50_12, S50r1, S50r2, S50r3, S50r4, S50r5, S50r6, S50r7, S50r8, S50r9, S50r10, S50r11, S50r12, S50r13, hn, h1, h2, h3, hs0, e2, hw, hv, hsv, hr, impF, CNext, CFail, CBodyR, CPutR, CLinR, CParse, tri, bodR, rdr, unStr_rows, strRows_len, strRows_all, ↓Ev.P, Ev.Q, Bool.cond_true, Bool.cond_false, eq_self, forall_eq_or_imp, implies_true, forall_const, forall_eq, ↓reduceIte, reduceIte, Nat.reduceEqDiff, Nat.reduceAdd, reduceCtorEq, Nat.reduceSub, Int.reduceToNat, Int.reduceLE, Int.reduceLT, Int.reduceNeg, Nat.reduceBEq, Nat.reduceMul, Nat.reduceLeDiff, Nat.reduceMod, UInt8.reduceOfNat, Nat.reduceLT, Int.reduceEq, Int.reduceAdd, Int.reduceSub, Int.reduceMul]
              repeat' (first | with_reducible assumption | refine And.intro ?_ ?_ | intro _ | (rw [Ev.xStp_eq]; simp -dsimp -implicitDefEqProofs only [hn, h1, h2, h3, hs0, e2, hw, hv, hsv, hr, impF, CNext, CFail, CBodyR, CPutR, CLinR, CParse, tri, bodR, rdr, unStr_rows, strRows_len, strRows_all, ↓Ev.P, Ev.Q, Bool.cond_true, Bool.cond_false, eq_self, forall_eq_or_imp, implies_true, forall_const, forall_eq, ↓reduceIte, reduceIte, Nat.reduceEqDiff, Nat.reduceAdd, reduceCtorEq, Nat.reduceSub, Int.reduceToNat, Int.reduceLE, Int.reduceLT, Int.reduceNeg, Nat.reduceBEq, Nat.reduceMul, Nat.reduceLeDiff, Nat.reduceMod, UInt8.reduceOfNat, Nat.reduceLT, Int.reduceEq, Int.reduceAdd, Int.reduceSub, Int.reduceMul]))
              all_goals try omega
              all_goals exact hk.1
          · rw [if_neg hr] at hk; dsimp only at hk
            have hP : P + M ≤ X.length := by omega
            rw [q1, Int.toNat_natCast] at hk
            by_cases hd : v = 100
            · rw [if_pos hd] at hk
              subst hd
              rw [onK_ok] at hk
              have hp1 := put_twn X P M hP
              have hp2 : (putE X P M []).2 = -1 := rfl
              have hp3 := put_len X P M hP
              have hp4 := put_all X P M
              rw [hp2] at hk
              have qa : ((P : Int) + M).toNat = P + M := by omega
              refine ⟨[0, 1, 2, 6], [], ?_⟩
              simp -dsimp -implicitDefEqProofs only [S50, R50, S50_0, S50_1, S50_2, S50_3, S50_4, S50_5, S50_6, S50_7, S50_8, S50_9, S50_10, S50_11, S50_12, S50r1, S50r2, S50r3, S50r4, S50r5, S50r6, S50r7, S50r8, S50r9, S50r10, S50r11, S50r12, S50r13, hn, h1, h2, h3, hs0, e2, hw, hv, hsv, hr, q1, q3, qa, hp1, hp3, hp4, cur_none, take_all1, drop_all1, take_len1, impF, CNext, CFail, CBodyR, CPutR, CLinR, CParse, tri, bodR, rdr, unStr_rows, strRows_len, strRows_all, ↓Ev.P, Ev.Q, Bool.cond_true, Bool.cond_false, eq_self, forall_eq_or_imp, implies_true, forall_const, forall_eq, ↓reduceIte, reduceIte, Nat.reduceEqDiff, Nat.reduceAdd, reduceCtorEq, Nat.reduceSub, Int.reduceToNat, Int.reduceLE, Int.reduceLT, Int.reduceNeg, Nat.reduceBEq, Nat.reduceMul, Nat.reduceLeDiff, Nat.reduceMod, UInt8.reduceOfNat, Nat.reduceLT, Int.reduceEq, Int.reduceAdd, Int.reduceSub, Int.reduceMul]
              repeat' (first | with_reducible assumption | refine And.intro ?_ ?_ | intro _ | (rw [Ev.xStp_eq]; simp -dsimp -implicitDefEqProofs only [hn, h1, h2, h3, hs0, e2, hw, hv, hsv, hr, q1, q3, qa, hp1, hp3, hp4, cur_none, take_all1, drop_all1, take_len1, impF, CNext, CFail, CBodyR, CPutR, CLinR, CParse, tri, bodR, rdr, unStr_rows, strRows_len, strRows_all, ↓Ev.P, Ev.Q, Bool.cond_true, Bool.cond_false, eq_self, forall_eq_or_imp, implies_true, forall_const, forall_eq, ↓reduceIte, reduceIte, Nat.reduceEqDiff, Nat.reduceAdd, reduceCtorEq, Nat.reduceSub, Int.reduceToNat, Int.reduceLE, Int.reduceLT, Int.reduceNeg, Nat.reduceBEq, Nat.reduceMul, Nat.reduceLeDiff, Nat.reduceMod, UInt8.reduceOfNat, Nat.reduceLT, Int.reduceEq, Int.reduceAdd, Int.reduceSub, Int.reduceMul]))
              all_goals try omega
              all_goals first | exact hk.1 | (simp only [List.length_append, List.length_take, List.length_drop, strRows_len]; omega)
            · rw [if_neg hd] at hk
              obtain rfl : v = 99 := by rcases hvv with h | h | h; exact absurd h h97; exact h; exact absurd h hd
              unfold bodyE at hk
              cases hb : bodyL L (L.length - a) a [] with
              | error x =>
                obtain ⟨xa, xe⟩ := x
                have hbe := bodyL_err hb
                rw [hb] at hk; dsimp only at hk
                rw [onK_error] at hk
                refine ⟨[0, 1, 2], [], ?_⟩
                simp -dsimp -implicitDefEqProofs only [S50, R50, S50_0, S50_1, S50_2, S50_3, S50_4, S50_5, S50_6, S50_7, S50_8, S50_9, S50_10, S50_11, S50_12, S50r1, S50r2, S50r3, S50r4, S50r5, S50r6, S50r7, S50r8, S50r9, S50r10, S50r11, S50r12, S50r13, hn, h1, h2, h3, hs0, e2, hw, hv, hsv, hr, q1, q3, hb, hbe, impF, CNext, CFail, CBodyR, CPutR, CLinR, CParse, tri, bodR, rdr, unStr_rows, strRows_len, strRows_all, ↓Ev.P, Ev.Q, Bool.cond_true, Bool.cond_false, eq_self, forall_eq_or_imp, implies_true, forall_const, forall_eq, ↓reduceIte, reduceIte, Nat.reduceEqDiff, Nat.reduceAdd, reduceCtorEq, Nat.reduceSub, Int.reduceToNat, Int.reduceLE, Int.reduceLT, Int.reduceNeg, Nat.reduceBEq, Nat.reduceMul, Nat.reduceLeDiff, Nat.reduceMod, UInt8.reduceOfNat, Nat.reduceLT, Int.reduceEq, Int.reduceAdd, Int.reduceSub, Int.reduceMul]
                repeat' (first | with_reducible assumption | refine And.intro ?_ ?_ | intro _ | (rw [Ev.xStp_eq]; simp -dsimp -implicitDefEqProofs only [hn, h1, h2, h3, hs0, e2, hw, hv, hsv, hr, q1, q3, hb, hbe, impF, CNext, CFail, CBodyR, CPutR, CLinR, CParse, tri, bodR, rdr, unStr_rows, strRows_len, strRows_all, ↓Ev.P, Ev.Q, Bool.cond_true, Bool.cond_false, eq_self, forall_eq_or_imp, implies_true, forall_const, forall_eq, ↓reduceIte, reduceIte, Nat.reduceEqDiff, Nat.reduceAdd, reduceCtorEq, Nat.reduceSub, Int.reduceToNat, Int.reduceLE, Int.reduceLT, Int.reduceNeg, Nat.reduceBEq, Nat.reduceMul, Nat.reduceLeDiff, Nat.reduceMod, UInt8.reduceOfNat, Nat.reduceLT, Int.reduceEq, Int.reduceAdd, Int.reduceSub, Int.reduceMul]))
                all_goals try omega
                all_goals exact hk.1
              | ok x =>
                obtain ⟨l, b⟩ := x
                rw [hb] at hk; dsimp only at hk
                rw [onK_ok] at hk
                have hle := bodyL_le hb
                have hp1 := put_two X l P M hP
                have hp2 := put_cur X l P M
                have hp3 := put_len X P M hP
                have hp4 := put_all X P M
                have qa : ((P : Int) + M).toNat = P + M := by omega
                refine ⟨[0, 1, 2, 7], [], ?_⟩
                simp -dsimp -implicitDefEqProofs only [S50, R50, S50_0, S50_1, S50_2, S50_3, S50_4, S50_5, S50_6, S50_7, S50_8, S50_9, S50_10, S50_11, S50_12, S50r1, S50r2, S50r3, S50r4, S50r5, S50r6, S50r7, S50r8, S50r9, S50r10, S50r11, S50r12, S50r13, hn, h1, h2, h3, hs0, e2, hw, hv, hsv, hr, q1, q3, hb, qa, hp1, hp2, hp3, hp4, take_all1, drop_all1, take_len1, impF, CNext, CFail, CBodyR, CPutR, CLinR, CParse, tri, bodR, rdr, unStr_rows, strRows_len, strRows_all, ↓Ev.P, Ev.Q, Bool.cond_true, Bool.cond_false, eq_self, forall_eq_or_imp, implies_true, forall_const, forall_eq, ↓reduceIte, reduceIte, Nat.reduceEqDiff, Nat.reduceAdd, reduceCtorEq, Nat.reduceSub, Int.reduceToNat, Int.reduceLE, Int.reduceLT, Int.reduceNeg, Nat.reduceBEq, Nat.reduceMul, Nat.reduceLeDiff, Nat.reduceMod, UInt8.reduceOfNat, Nat.reduceLT, Int.reduceEq, Int.reduceAdd, Int.reduceSub, Int.reduceMul]
                repeat' (first | with_reducible assumption | refine And.intro ?_ ?_ | intro _ | (rw [Ev.xStp_eq]; simp -dsimp -implicitDefEqProofs only [hn, h1, h2, h3, hs0, e2, hw, hv, hsv, hr, q1, q3, hb, qa, hp1, hp2, hp3, hp4, take_all1, drop_all1, take_len1, impF, CNext, CFail, CBodyR, CPutR, CLinR, CParse, tri, bodR, rdr, unStr_rows, strRows_len, strRows_all, ↓Ev.P, Ev.Q, Bool.cond_true, Bool.cond_false, eq_self, forall_eq_or_imp, implies_true, forall_const, forall_eq, ↓reduceIte, reduceIte, Nat.reduceEqDiff, Nat.reduceAdd, reduceCtorEq, Nat.reduceSub, Int.reduceToNat, Int.reduceLE, Int.reduceLT, Int.reduceNeg, Nat.reduceBEq, Nat.reduceMul, Nat.reduceLeDiff, Nat.reduceMod, UInt8.reduceOfNat, Nat.reduceLT, Int.reduceEq, Int.reduceAdd, Int.reduceSub, Int.reduceMul]))
                all_goals try omega
                all_goals first | (simp only [List.length_nil] at hle; omega) | exact hk.1 | (simp only [List.length_append, List.length_take, List.length_drop, strRows_len]; omega)
    · rw [if_neg hvv] at hk
      rw [onK_error] at hk
      have v1 : ¬ v = 97 := fun h => hvv (.inl h)
      have v2 : ¬ v = 99 := fun h => hvv (.inr (.inl h))
      have v3 : ¬ v = 100 := fun h => hvv (.inr (.inr h))
      generalize hsv : sevL w = sv
      obtain ⟨⟨sp, sn⟩, sb⟩ := sv
      cases sb with
      | false =>
        have _t := trivial
        refine ⟨[0, 1, 2], [], ?_⟩
        simp -dsimp -implicitDefEqProofs only [S50, R50, S50_0, S50_1, S50_2, S50_3, S50_4, S50_5, S50_6, S50_7, S50_8, S50_9, S50_10, S50_11, S50_12, S50r1, S50r2, S50r3, S50r4, S50r5, S50r6, S50r7, S50r8, S50r9, S50r10, S50r11, S50r12, S50r13, hn, h1, h2, h3, hs0, e2, hw, hv, v1, v2, v3, hsv, impF, CNext, CFail, CBodyR, CPutR, CLinR, CParse, tri, bodR, rdr, unStr_rows, strRows_len, strRows_all, ↓Ev.P, Ev.Q, Bool.cond_true, Bool.cond_false, eq_self, forall_eq_or_imp, implies_true, forall_const, forall_eq, ↓reduceIte, reduceIte, Nat.reduceEqDiff, Nat.reduceAdd, reduceCtorEq, Nat.reduceSub, Int.reduceToNat, Int.reduceLE, Int.reduceLT, Int.reduceNeg, Nat.reduceBEq, Nat.reduceMul, Nat.reduceLeDiff, Nat.reduceMod, UInt8.reduceOfNat, Nat.reduceLT, Int.reduceEq, Int.reduceAdd, Int.reduceSub, Int.reduceMul]
        repeat' (first | with_reducible assumption | refine And.intro ?_ ?_ | intro _ | (rw [Ev.xStp_eq]; simp -dsimp -implicitDefEqProofs only [hn, h1, h2, h3, hs0, e2, hw, hv, v1, v2, v3, hsv, impF, CNext, CFail, CBodyR, CPutR, CLinR, CParse, tri, bodR, rdr, unStr_rows, strRows_len, strRows_all, ↓Ev.P, Ev.Q, Bool.cond_true, Bool.cond_false, eq_self, forall_eq_or_imp, implies_true, forall_const, forall_eq, ↓reduceIte, reduceIte, Nat.reduceEqDiff, Nat.reduceAdd, reduceCtorEq, Nat.reduceSub, Int.reduceToNat, Int.reduceLE, Int.reduceLT, Int.reduceNeg, Nat.reduceBEq, Nat.reduceMul, Nat.reduceLeDiff, Nat.reduceMod, UInt8.reduceOfNat, Nat.reduceLT, Int.reduceEq, Int.reduceAdd, Int.reduceSub, Int.reduceMul]))
        all_goals try omega
        all_goals exact hk.1
      | true =>
        have _t := trivial
        refine ⟨[0, 1, 2], [], ?_⟩
        simp -dsimp -implicitDefEqProofs only [S50, R50, S50_0, S50_1, S50_2, S50_3, S50_4, S50_5, S50_6, S50_7, S50_8, S50_9, S50_10, S50_11, S50_12, S50r1, S50r2, S50r3, S50r4, S50r5, S50r6, S50r7, S50r8, S50r9, S50r10, S50r11, S50r12, S50r13, hn, h1, h2, h3, hs0, e2, hw, hv, v1, v2, v3, hsv, impF, CNext, CFail, CBodyR, CPutR, CLinR, CParse, tri, bodR, rdr, unStr_rows, strRows_len, strRows_all, ↓Ev.P, Ev.Q, Bool.cond_true, Bool.cond_false, eq_self, forall_eq_or_imp, implies_true, forall_const, forall_eq, ↓reduceIte, reduceIte, Nat.reduceEqDiff, Nat.reduceAdd, reduceCtorEq, Nat.reduceSub, Int.reduceToNat, Int.reduceLE, Int.reduceLT, Int.reduceNeg, Nat.reduceBEq, Nat.reduceMul, Nat.reduceLeDiff, Nat.reduceMod, UInt8.reduceOfNat, Nat.reduceLT, Int.reduceEq, Int.reduceAdd, Int.reduceSub, Int.reduceMul]
        repeat' (first | with_reducible assumption | refine And.intro ?_ ?_ | intro _ | (rw [Ev.xStp_eq]; simp -dsimp -implicitDefEqProofs only [hn, h1, h2, h3, hs0, e2, hw, hv, v1, v2, v3, hsv, impF, CNext, CFail, CBodyR, CPutR, CLinR, CParse, tri, bodR, rdr, unStr_rows, strRows_len, strRows_all, ↓Ev.P, Ev.Q, Bool.cond_true, Bool.cond_false, eq_self, forall_eq_or_imp, implies_true, forall_const, forall_eq, ↓reduceIte, reduceIte, Nat.reduceEqDiff, Nat.reduceAdd, reduceCtorEq, Nat.reduceSub, Int.reduceToNat, Int.reduceLE, Int.reduceLT, Int.reduceNeg, Nat.reduceBEq, Nat.reduceMul, Nat.reduceLeDiff, Nat.reduceMod, UInt8.reduceOfNat, Nat.reduceLT, Int.reduceEq, Int.reduceAdd, Int.reduceSub, Int.reduceMul]))
        all_goals try omega
        all_goals exact hk.1
end Go.Proofs.YtlghobefhmpfkaaGreatDoor
set_option linter.unusedVariables false
set_option linter.unusedSimpArgs false
namespace Go.Proofs.YtlghobefhmpfkaaGreatDoor
open Go Go.Ev Go.Rcs
set_option maxRecDepth 100000
variable {G : World → Prop}
set_option maxHeartbeats 32000000 in
theorem s16 : Sound G Tryz.prog 16 CRunE := by
  refine sd16 (T := tabT [(39, CRdr), (49, CBare), (40, CMore), (43, CFail), (50, COneR)]) (tab_cons s39 (tab_cons s49 (tab_cons s40 (tab_cons s43 (tab_cons s50 tab_nil))))) (stC_lawful _) (st_hX fun args st pp x st' K h hp hk => ?_)
  split at h <;> simp only [Option.map_eq_some_iff, Prod.mk.injEq, reduceCtorEq] at h
  obtain ⟨A, hl, rfl, h2⟩ := h
  rename_i s rows
  rw [unStr_eq hl] at *
  obtain ⟨s, rfl⟩ := ex_str s
  simp only [sem_str] at hp h2
  obtain ⟨hs0, hAl, hA⟩ := hp
  refine ⟨Nat.le_of_ble_eq_true rfl, ?_⟩
  by_cases h4 : 1048576 < s.length
  · have h5 : edN s A = .error (0, 9) := by rw [edN, if_pos h4]
    rw [h5] at h2; simp only [refE, Prod.mk.injEq] at h2; obtain ⟨rfl, rfl⟩ := h2
    refine ⟨[], ?_⟩
    simp -dsimp -implicitDefEqProofs only [S16, R16, S16_0, S16_1, S16_2, S16_3, S16_4, S16_5, S16_6, S16_7, S16_8, S16r1, S16r2, S16r3, S16r4, S16r5, S16r6, S16r7, S16r8, S16r9, h4, impF, CRdr, CMore, CBare, CFail, oneR_wp, onK_ok, onK_error, rdO, nilS, rdr, unStr_rows, strRows_len, strRows_all, List.length_append, List.length_set, Ev.St.giveC, ↓Ev.P, Ev.Q, Bool.cond_true, Bool.cond_false, eq_self, forall_eq_or_imp, implies_true, forall_const, forall_eq, ↓reduceIte, reduceIte, Nat.reduceEqDiff, Nat.reduceAdd, reduceCtorEq, Nat.reduceSub, Int.reduceToNat, Int.reduceLE, Int.reduceLT, Int.reduceNeg, Nat.reduceBEq, Nat.reduceMul, Nat.reduceLeDiff, Nat.reduceMod, UInt8.reduceOfNat, Nat.reduceLT, Int.reduceEq, Int.reduceAdd, Int.reduceSub, Int.reduceMul]
    repeat' (first | with_reducible assumption | refine And.intro ?_ ?_ | intro _ | (rw [Ev.xStp_eq]; simp -dsimp -implicitDefEqProofs only [S16, R16, S16_0, S16_1, S16_2, S16_3, S16_4, S16_5, S16_6, S16_7, S16_8, S16r1, S16r2, S16r3, S16r4, S16r5, S16r6, S16r7, S16r8, S16r9, h4, impF, CRdr, CMore, CBare, CFail, oneR_wp, onK_ok, onK_error, rdO, nilS, rdr, unStr_rows, strRows_len, strRows_all, List.length_append, List.length_set, Ev.St.giveC, ↓Ev.P, Ev.Q, Bool.cond_true, Bool.cond_false, eq_self, forall_eq_or_imp, implies_true, forall_const, forall_eq, ↓reduceIte, reduceIte, Nat.reduceEqDiff, Nat.reduceAdd, reduceCtorEq, Nat.reduceSub, Int.reduceToNat, Int.reduceLE, Int.reduceLT, Int.reduceNeg, Nat.reduceBEq, Nat.reduceMul, Nat.reduceLeDiff, Nat.reduceMod, UInt8.reduceOfNat, Nat.reduceLT, Int.reduceEq, Int.reduceAdd, Int.reduceSub, Int.reduceMul]))
    all_goals try omega
    refine xLoop_intro (fun m st => ∃ i : Nat, i ≤ A.length ∧ m = A.length - i ∧ st = ⟨[(1, .d (.sl (strRows A))), (5, .ptr 0 0), (6, .ptr 1 0), (7, .ptr 3 0), (8, .d (.v (.int .i64 (i : Nat))))], 4, [(0, .cells 29 [.d (.v (.int .i64 0)), .d (.v (.int .i64 0))]), (1, .cells 77 [.d (.v (.slice none 0 0)), .d (.v (.int .i64 0)), .d (.v (.int .i64 0)), .d (.v (.int .i64 9))]), (2, .row 9 1 (strRows ((bareT A).take i))), (3, .cells 90 [.own 2, .d (.v (.int .i64 (-1)))])]⟩) A.length [0, 1, 2, 3] ?_ ?_ ?_
    · simp -dsimp -implicitDefEqProofs only [↓Ev.xStp_eq, ↓Ev.P, Ev.Q, Bool.cond_true, Bool.cond_false, eq_self, forall_eq_or_imp, implies_true, forall_const, forall_eq, ↓reduceIte, reduceIte, Nat.reduceEqDiff, Nat.reduceAdd, reduceCtorEq, Nat.reduceSub, Int.reduceToNat, Int.reduceLE, Int.reduceLT, Int.reduceNeg, Nat.reduceBEq, Nat.reduceMul, Nat.reduceLeDiff, Nat.reduceMod, UInt8.reduceOfNat, Nat.reduceLT, Int.reduceEq, Int.reduceAdd, Int.reduceSub, Int.reduceMul]
    · simp -dsimp -implicitDefEqProofs only [nilS, ↓Ev.xStp_eq, ↓Ev.P, Ev.Q, Bool.cond_true, Bool.cond_false, eq_self, forall_eq_or_imp, implies_true, forall_const, forall_eq, ↓reduceIte, reduceIte, Nat.reduceEqDiff, Nat.reduceAdd, reduceCtorEq, Nat.reduceSub, Int.reduceToNat, Int.reduceLE, Int.reduceLT, Int.reduceNeg, Nat.reduceBEq, Nat.reduceMul, Nat.reduceLeDiff, Nat.reduceMod, UInt8.reduceOfNat, Nat.reduceLT, Int.reduceEq, Int.reduceAdd, Int.reduceSub, Int.reduceMul]
      exact ⟨0, by omega, by omega, rfl⟩
    · rintro m st ⟨i, hi, rfl, rfl⟩
      by_cases hil : i < A.length
      · have hi3 : (i : Int) < (A.length : Int) := by omega
        have hg := strRows_get hil
        have hsz := hA _ (getD_in hil)
        have hlen : ((bareT A).take i).length = i := by rw [List.length_take, bareT_len]; omega
        have hsn := bareT_snoc hil
        generalize A.getD i [] = w at hg hsz hsn
        simp -dsimp -implicitDefEqProofs only [S16, R16, S16_0, S16_1, S16_2, S16_3, S16_4, S16_5, S16_6, S16_7, S16_8, S16r1, S16r2, S16r3, S16r4, S16r5, S16r6, S16r7, S16r8, S16r9, h4, hi3, hg, hlen, impF, CRdr, CMore, CBare, CFail, oneR_wp, onK_ok, onK_error, rdO, nilS, rdr, unStr_rows, strRows_len, strRows_all, List.length_append, List.length_set, Ev.St.giveC, ↓Ev.P, Ev.Q, Bool.cond_true, Bool.cond_false, eq_self, forall_eq_or_imp, implies_true, forall_const, forall_eq, ↓reduceIte, reduceIte, Nat.reduceEqDiff, Nat.reduceAdd, reduceCtorEq, Nat.reduceSub, Int.reduceToNat, Int.reduceLE, Int.reduceLT, Int.reduceNeg, Nat.reduceBEq, Nat.reduceMul, Nat.reduceLeDiff, Nat.reduceMod, UInt8.reduceOfNat, Nat.reduceLT, Int.reduceEq, Int.reduceAdd, Int.reduceSub, Int.reduceMul]
        repeat' (first | with_reducible assumption | refine And.intro ?_ ?_ | intro _ | (rw [Ev.xStp_eq]; simp -dsimp -implicitDefEqProofs only [S16, R16, S16_0, S16_1, S16_2, S16_3, S16_4, S16_5, S16_6, S16_7, S16_8, S16r1, S16r2, S16r3, S16r4, S16r5, S16r6, S16r7, S16r8, S16r9, h4, hi3, hg, hlen, impF, CRdr, CMore, CBare, CFail, oneR_wp, onK_ok, onK_error, rdO, nilS, rdr, unStr_rows, strRows_len, strRows_all, List.length_append, List.length_set, Ev.St.giveC, ↓Ev.P, Ev.Q, Bool.cond_true, Bool.cond_false, eq_self, forall_eq_or_imp, implies_true, forall_const, forall_eq, ↓reduceIte, reduceIte, Nat.reduceEqDiff, Nat.reduceAdd, reduceCtorEq, Nat.reduceSub, Int.reduceToNat, Int.reduceLE, Int.reduceLT, Int.reduceNeg, Nat.reduceBEq, Nat.reduceMul, Nat.reduceLeDiff, Nat.reduceMod, UInt8.reduceOfNat, Nat.reduceLT, Int.reduceEq, Int.reduceAdd, Int.reduceSub, Int.reduceMul]))
        all_goals try omega
        refine xAgain_intro (A.length - (i + 1)) [0, 1, 5, 3] (by omega) (by simp -dsimp -implicitDefEqProofs only [nilS, ↓Ev.xStp_eq, ↓Ev.P, Ev.Q, Bool.cond_true, Bool.cond_false, eq_self, forall_eq_or_imp, implies_true, forall_const, forall_eq, ↓reduceIte, reduceIte, Nat.reduceEqDiff, Nat.reduceAdd, reduceCtorEq, Nat.reduceSub, Int.reduceToNat, Int.reduceLE, Int.reduceLT, Int.reduceNeg, Nat.reduceBEq, Nat.reduceMul, Nat.reduceLeDiff, Nat.reduceMod, UInt8.reduceOfNat, Nat.reduceLT, Int.reduceEq, Int.reduceAdd, Int.reduceSub, Int.reduceMul]) ⟨i + 1, by omega, rfl, ?_⟩
        rw [hsn, strRows_snoc]
        simp -dsimp -implicitDefEqProofs only [nilS, ↓Ev.xStp_eq, ↓Ev.P, Ev.Q, Bool.cond_true, Bool.cond_false, eq_self, forall_eq_or_imp, implies_true, forall_const, forall_eq, ↓reduceIte, reduceIte, Nat.reduceEqDiff, Nat.reduceAdd, reduceCtorEq, Nat.reduceSub, Int.reduceToNat, Int.reduceLE, Int.reduceLT, Int.reduceNeg, Nat.reduceBEq, Nat.reduceMul, Nat.reduceLeDiff, Nat.reduceMod, UInt8.reduceOfNat, Nat.reduceLT, Int.reduceEq, Int.reduceAdd, Int.reduceSub, Int.reduceMul]
        all_goals rfl
      · have hi3 : ¬ (i : Int) < (A.length : Int) := by omega
        obtain rfl : i = A.length := by omega
        rw [bareT_all]
        simp -dsimp -implicitDefEqProofs only [S16, R16, S16_0, S16_1, S16_2, S16_3, S16_4, S16_5, S16_6, S16_7, S16_8, S16r1, S16r2, S16r3, S16r4, S16r5, S16r6, S16r7, S16r8, S16r9, h4, hi3, impF, CRdr, CMore, CBare, CFail, oneR_wp, onK_ok, onK_error, rdO, nilS, rdr, unStr_rows, strRows_len, strRows_all, List.length_append, List.length_set, Ev.St.giveC, ↓Ev.P, Ev.Q, Bool.cond_true, Bool.cond_false, eq_self, forall_eq_or_imp, implies_true, forall_const, forall_eq, ↓reduceIte, reduceIte, Nat.reduceEqDiff, Nat.reduceAdd, reduceCtorEq, Nat.reduceSub, Int.reduceToNat, Int.reduceLE, Int.reduceLT, Int.reduceNeg, Nat.reduceBEq, Nat.reduceMul, Nat.reduceLeDiff, Nat.reduceMod, UInt8.reduceOfNat, Nat.reduceLT, Int.reduceEq, Int.reduceAdd, Int.reduceSub, Int.reduceMul]
        repeat' (first | with_reducible assumption | refine And.intro ?_ ?_ | intro _ | (rw [Ev.xStp_eq]; simp -dsimp -implicitDefEqProofs only [S16, R16, S16_0, S16_1, S16_2, S16_3, S16_4, S16_5, S16_6, S16_7, S16_8, S16r1, S16r2, S16r3, S16r4, S16r5, S16r6, S16r7, S16r8, S16r9, h4, hi3, impF, CRdr, CMore, CBare, CFail, oneR_wp, onK_ok, onK_error, rdO, nilS, rdr, unStr_rows, strRows_len, strRows_all, List.length_append, List.length_set, Ev.St.giveC, ↓Ev.P, Ev.Q, Bool.cond_true, Bool.cond_false, eq_self, forall_eq_or_imp, implies_true, forall_const, forall_eq, ↓reduceIte, reduceIte, Nat.reduceEqDiff, Nat.reduceAdd, reduceCtorEq, Nat.reduceSub, Int.reduceToNat, Int.reduceLE, Int.reduceLT, Int.reduceNeg, Nat.reduceBEq, Nat.reduceMul, Nat.reduceLeDiff, Nat.reduceMod, UInt8.reduceOfNat, Nat.reduceLT, Int.reduceEq, Int.reduceAdd, Int.reduceSub, Int.reduceMul]))
        all_goals try omega
        refine xLoop_intro (fun n st => n = 0 ∧ st = ⟨[(5, .ptr 0 0), (6, .ptr 1 0), (7, .ptr 3 0), (11, .d (.v (.bool false)))], 4, [(0, .cells 29 [.d (.v (.int .i64 0)), .d (.v (.int .i64 0))]), (1, .cells 77 [.d (.v (.slice none 0 0)), .d (.v (.int .i64 0)), .d (.v (.int .i64 0)), .d (.v (.int .i64 9))]), (2, .row 9 1 (strRows (bareT A))), (3, .cells 90 [.own 2, .d (.v (.int .i64 (-1)))])]⟩) 0 [0, 1, 2, 3] ?_ ?_ ?_
        · simp -dsimp -implicitDefEqProofs only [↓Ev.xStp_eq, ↓Ev.P, Ev.Q, Bool.cond_true, Bool.cond_false, eq_self, forall_eq_or_imp, implies_true, forall_const, forall_eq, ↓reduceIte, reduceIte, Nat.reduceEqDiff, Nat.reduceAdd, reduceCtorEq, Nat.reduceSub, Int.reduceToNat, Int.reduceLE, Int.reduceLT, Int.reduceNeg, Nat.reduceBEq, Nat.reduceMul, Nat.reduceLeDiff, Nat.reduceMod, UInt8.reduceOfNat, Nat.reduceLT, Int.reduceEq, Int.reduceAdd, Int.reduceSub, Int.reduceMul]
        · simp -dsimp -implicitDefEqProofs only [nilS, ↓Ev.xStp_eq, ↓Ev.P, Ev.Q, Bool.cond_true, Bool.cond_false, eq_self, forall_eq_or_imp, implies_true, forall_const, forall_eq, ↓reduceIte, reduceIte, Nat.reduceEqDiff, Nat.reduceAdd, reduceCtorEq, Nat.reduceSub, Int.reduceToNat, Int.reduceLE, Int.reduceLT, Int.reduceNeg, Nat.reduceBEq, Nat.reduceMul, Nat.reduceLeDiff, Nat.reduceMod, UInt8.reduceOfNat, Nat.reduceLT, Int.reduceEq, Int.reduceAdd, Int.reduceSub, Int.reduceMul]
          all_goals first | rfl | exact ⟨rfl, rfl⟩ | trivial
        · rintro n2 st2 ⟨rfl, rfl⟩
          simp -dsimp -implicitDefEqProofs only [S16, R16, S16_0, S16_1, S16_2, S16_3, S16_4, S16_5, S16_6, S16_7, S16_8, S16r1, S16r2, S16r3, S16r4, S16r5, S16r6, S16r7, S16r8, S16r9, h4, impF, CRdr, CMore, CBare, CFail, oneR_wp, onK_ok, onK_error, rdO, nilS, rdr, unStr_rows, strRows_len, strRows_all, List.length_append, List.length_set, Ev.St.giveC, ↓Ev.P, Ev.Q, Bool.cond_true, Bool.cond_false, eq_self, forall_eq_or_imp, implies_true, forall_const, forall_eq, ↓reduceIte, reduceIte, Nat.reduceEqDiff, Nat.reduceAdd, reduceCtorEq, Nat.reduceSub, Int.reduceToNat, Int.reduceLE, Int.reduceLT, Int.reduceNeg, Nat.reduceBEq, Nat.reduceMul, Nat.reduceLeDiff, Nat.reduceMod, UInt8.reduceOfNat, Nat.reduceLT, Int.reduceEq, Int.reduceAdd, Int.reduceSub, Int.reduceMul]
          repeat' (first | with_reducible assumption | refine And.intro ?_ ?_ | intro _ | (rw [Ev.xStp_eq]; simp -dsimp -implicitDefEqProofs only [S16, R16, S16_0, S16_1, S16_2, S16_3, S16_4, S16_5, S16_6, S16_7, S16_8, S16r1, S16r2, S16r3, S16r4, S16r5, S16r6, S16r7, S16r8, S16r9, h4, impF, CRdr, CMore, CBare, CFail, oneR_wp, onK_ok, onK_error, rdO, nilS, rdr, unStr_rows, strRows_len, strRows_all, List.length_append, List.length_set, Ev.St.giveC, ↓Ev.P, Ev.Q, Bool.cond_true, Bool.cond_false, eq_self, forall_eq_or_imp, implies_true, forall_const, forall_eq, ↓reduceIte, reduceIte, Nat.reduceEqDiff, Nat.reduceAdd, reduceCtorEq, Nat.reduceSub, Int.reduceToNat, Int.reduceLE, Int.reduceLT, Int.reduceNeg, Nat.reduceBEq, Nat.reduceMul, Nat.reduceLeDiff, Nat.reduceMod, UInt8.reduceOfNat, Nat.reduceLT, Int.reduceEq, Int.reduceAdd, Int.reduceSub, Int.reduceMul]))
          all_goals try omega
          all_goals exact hk
  · have h5 : edN s A = (runE (lns s) ((lns s).length + 1) (bareT A, -1) 0).map fedE := by rw [edN, if_neg h4]
    rw [h5] at h2
    obtain ⟨hLl, hL0⟩ := lns_szE s (by omega)
    generalize hLs : lns s = L at h2 hLl hL0
    have hL : ∀ x ∈ L, x.length ≤ 1099511627776 := fun x hx => Nat.le_trans (hL0 x hx) (by omega)
    have hsm : smL L := ⟨by omega, hL⟩
    cases hY : runE L (L.length + 1) (bareT A, -1) 0 with
    | error xe =>
      obtain ⟨a, e⟩ := xe
      rw [hY] at h2; simp only [map_error, refE, Prod.mk.injEq] at h2; obtain ⟨rfl, rfl⟩ := h2
      refine ⟨[], ?_⟩
      simp -dsimp -implicitDefEqProofs only [S16, R16, S16_0, S16_1, S16_2, S16_3, S16_4, S16_5, S16_6, S16_7, S16_8, S16r1, S16r2, S16r3, S16r4, S16r5, S16r6, S16r7, S16r8, S16r9, h4, hLs, impF, CRdr, CMore, CBare, CFail, oneR_wp, onK_ok, onK_error, rdO, nilS, rdr, unStr_rows, strRows_len, strRows_all, List.length_append, List.length_set, Ev.St.giveC, ↓Ev.P, Ev.Q, Bool.cond_true, Bool.cond_false, eq_self, forall_eq_or_imp, implies_true, forall_const, forall_eq, ↓reduceIte, reduceIte, Nat.reduceEqDiff, Nat.reduceAdd, reduceCtorEq, Nat.reduceSub, Int.reduceToNat, Int.reduceLE, Int.reduceLT, Int.reduceNeg, Nat.reduceBEq, Nat.reduceMul, Nat.reduceLeDiff, Nat.reduceMod, UInt8.reduceOfNat, Nat.reduceLT, Int.reduceEq, Int.reduceAdd, Int.reduceSub, Int.reduceMul]
      repeat' (first | with_reducible assumption | refine And.intro ?_ ?_ | intro _ | (rw [Ev.xStp_eq]; simp -dsimp -implicitDefEqProofs only [S16, R16, S16_0, S16_1, S16_2, S16_3, S16_4, S16_5, S16_6, S16_7, S16_8, S16r1, S16r2, S16r3, S16r4, S16r5, S16r6, S16r7, S16r8, S16r9, h4, hLs, impF, CRdr, CMore, CBare, CFail, oneR_wp, onK_ok, onK_error, rdO, nilS, rdr, unStr_rows, strRows_len, strRows_all, List.length_append, List.length_set, Ev.St.giveC, ↓Ev.P, Ev.Q, Bool.cond_true, Bool.cond_false, eq_self, forall_eq_or_imp, implies_true, forall_const, forall_eq, ↓reduceIte, reduceIte, Nat.reduceEqDiff, Nat.reduceAdd, reduceCtorEq, Nat.reduceSub, Int.reduceToNat, Int.reduceLE, Int.reduceLT, Int.reduceNeg, Nat.reduceBEq, Nat.reduceMul, Nat.reduceLeDiff, Nat.reduceMod, UInt8.reduceOfNat, Nat.reduceLT, Int.reduceEq, Int.reduceAdd, Int.reduceSub, Int.reduceMul]))
      all_goals try omega
      refine xLoop_intro (fun m st => ∃ i : Nat, i ≤ A.length ∧ m = A.length - i ∧ st = ⟨[(1, .d (.sl (strRows A))), (5, .ptr 0 0), (6, .ptr 1 0), (7, .ptr 3 0), (8, .d (.v (.int .i64 (i : Nat))))], 4, [(0, .cells 29 [.d (.v (.int .i64 0)), .d (.v (.int .i64 0))]), (1, .cells 77 [.d (.sl (strRows L)), .d (.v (.int .i64 0)), .d (.v (.int .i64 0)), .d (.v (.int .i64 0))]), (2, .row 9 1 (strRows ((bareT A).take i))), (3, .cells 90 [.own 2, .d (.v (.int .i64 (-1)))])]⟩) A.length [0, 1, 2, 3] ?_ ?_ ?_
      · simp -dsimp -implicitDefEqProofs only [↓Ev.xStp_eq, ↓Ev.P, Ev.Q, Bool.cond_true, Bool.cond_false, eq_self, forall_eq_or_imp, implies_true, forall_const, forall_eq, ↓reduceIte, reduceIte, Nat.reduceEqDiff, Nat.reduceAdd, reduceCtorEq, Nat.reduceSub, Int.reduceToNat, Int.reduceLE, Int.reduceLT, Int.reduceNeg, Nat.reduceBEq, Nat.reduceMul, Nat.reduceLeDiff, Nat.reduceMod, UInt8.reduceOfNat, Nat.reduceLT, Int.reduceEq, Int.reduceAdd, Int.reduceSub, Int.reduceMul]
      · simp -dsimp -implicitDefEqProofs only [nilS, ↓Ev.xStp_eq, ↓Ev.P, Ev.Q, Bool.cond_true, Bool.cond_false, eq_self, forall_eq_or_imp, implies_true, forall_const, forall_eq, ↓reduceIte, reduceIte, Nat.reduceEqDiff, Nat.reduceAdd, reduceCtorEq, Nat.reduceSub, Int.reduceToNat, Int.reduceLE, Int.reduceLT, Int.reduceNeg, Nat.reduceBEq, Nat.reduceMul, Nat.reduceLeDiff, Nat.reduceMod, UInt8.reduceOfNat, Nat.reduceLT, Int.reduceEq, Int.reduceAdd, Int.reduceSub, Int.reduceMul]
        exact ⟨0, by omega, by omega, rfl⟩
      · rintro m st ⟨i, hi, rfl, rfl⟩
        by_cases hil : i < A.length
        · have hi3 : (i : Int) < (A.length : Int) := by omega
          have hg := strRows_get hil
          have hsz := hA _ (getD_in hil)
          have hlen : ((bareT A).take i).length = i := by rw [List.length_take, bareT_len]; omega
          have hsn := bareT_snoc hil
          generalize A.getD i [] = w at hg hsz hsn
          simp -dsimp -implicitDefEqProofs only [S16, R16, S16_0, S16_1, S16_2, S16_3, S16_4, S16_5, S16_6, S16_7, S16_8, S16r1, S16r2, S16r3, S16r4, S16r5, S16r6, S16r7, S16r8, S16r9, h4, hLs, hi3, hg, hlen, impF, CRdr, CMore, CBare, CFail, oneR_wp, onK_ok, onK_error, rdO, nilS, rdr, unStr_rows, strRows_len, strRows_all, List.length_append, List.length_set, Ev.St.giveC, ↓Ev.P, Ev.Q, Bool.cond_true, Bool.cond_false, eq_self, forall_eq_or_imp, implies_true, forall_const, forall_eq, ↓reduceIte, reduceIte, Nat.reduceEqDiff, Nat.reduceAdd, reduceCtorEq, Nat.reduceSub, Int.reduceToNat, Int.reduceLE, Int.reduceLT, Int.reduceNeg, Nat.reduceBEq, Nat.reduceMul, Nat.reduceLeDiff, Nat.reduceMod, UInt8.reduceOfNat, Nat.reduceLT, Int.reduceEq, Int.reduceAdd, Int.reduceSub, Int.reduceMul]
          repeat' (first | with_reducible assumption | refine And.intro ?_ ?_ | intro _ | (rw [Ev.xStp_eq]; simp -dsimp -implicitDefEqProofs only [S16, R16, S16_0, S16_1, S16_2, S16_3, S16_4, S16_5, S16_6, S16_7, S16_8, S16r1, S16r2, S16r3, S16r4, S16r5, S16r6, S16r7, S16r8, S16r9, h4, hLs, hi3, hg, hlen, impF, CRdr, CMore, CBare, CFail, oneR_wp, onK_ok, onK_error, rdO, nilS, rdr, unStr_rows, strRows_len, strRows_all, List.length_append, List.length_set, Ev.St.giveC, ↓Ev.P, Ev.Q, Bool.cond_true, Bool.cond_false, eq_self, forall_eq_or_imp, implies_true, forall_const, forall_eq, ↓reduceIte, reduceIte, Nat.reduceEqDiff, Nat.reduceAdd, reduceCtorEq, Nat.reduceSub, Int.reduceToNat, Int.reduceLE, Int.reduceLT, Int.reduceNeg, Nat.reduceBEq, Nat.reduceMul, Nat.reduceLeDiff, Nat.reduceMod, UInt8.reduceOfNat, Nat.reduceLT, Int.reduceEq, Int.reduceAdd, Int.reduceSub, Int.reduceMul]))
          all_goals try omega
          refine xAgain_intro (A.length - (i + 1)) [0, 1, 5, 3] (by omega) (by simp -dsimp -implicitDefEqProofs only [nilS, ↓Ev.xStp_eq, ↓Ev.P, Ev.Q, Bool.cond_true, Bool.cond_false, eq_self, forall_eq_or_imp, implies_true, forall_const, forall_eq, ↓reduceIte, reduceIte, Nat.reduceEqDiff, Nat.reduceAdd, reduceCtorEq, Nat.reduceSub, Int.reduceToNat, Int.reduceLE, Int.reduceLT, Int.reduceNeg, Nat.reduceBEq, Nat.reduceMul, Nat.reduceLeDiff, Nat.reduceMod, UInt8.reduceOfNat, Nat.reduceLT, Int.reduceEq, Int.reduceAdd, Int.reduceSub, Int.reduceMul]) ⟨i + 1, by omega, rfl, ?_⟩
          rw [hsn, strRows_snoc]
          simp -dsimp -implicitDefEqProofs only [nilS, ↓Ev.xStp_eq, ↓Ev.P, Ev.Q, Bool.cond_true, Bool.cond_false, eq_self, forall_eq_or_imp, implies_true, forall_const, forall_eq, ↓reduceIte, reduceIte, Nat.reduceEqDiff, Nat.reduceAdd, reduceCtorEq, Nat.reduceSub, Int.reduceToNat, Int.reduceLE, Int.reduceLT, Int.reduceNeg, Nat.reduceBEq, Nat.reduceMul, Nat.reduceLeDiff, Nat.reduceMod, UInt8.reduceOfNat, Nat.reduceLT, Int.reduceEq, Int.reduceAdd, Int.reduceSub, Int.reduceMul]
          all_goals rfl
        · have hi3 : ¬ (i : Int) < (A.length : Int) := by omega
          obtain rfl : i = A.length := by omega
          rw [bareT_all]
          simp -dsimp -implicitDefEqProofs only [S16, R16, S16_0, S16_1, S16_2, S16_3, S16_4, S16_5, S16_6, S16_7, S16_8, S16r1, S16r2, S16r3, S16r4, S16r5, S16r6, S16r7, S16r8, S16r9, h4, hLs, hi3, impF, CRdr, CMore, CBare, CFail, oneR_wp, onK_ok, onK_error, rdO, nilS, rdr, unStr_rows, strRows_len, strRows_all, List.length_append, List.length_set, Ev.St.giveC, ↓Ev.P, Ev.Q, Bool.cond_true, Bool.cond_false, eq_self, forall_eq_or_imp, implies_true, forall_const, forall_eq, ↓reduceIte, reduceIte, Nat.reduceEqDiff, Nat.reduceAdd, reduceCtorEq, Nat.reduceSub, Int.reduceToNat, Int.reduceLE, Int.reduceLT, Int.reduceNeg, Nat.reduceBEq, Nat.reduceMul, Nat.reduceLeDiff, Nat.reduceMod, UInt8.reduceOfNat, Nat.reduceLT, Int.reduceEq, Int.reduceAdd, Int.reduceSub, Int.reduceMul]
          repeat' (first | with_reducible assumption | refine And.intro ?_ ?_ | intro _ | (rw [Ev.xStp_eq]; simp -dsimp -implicitDefEqProofs only [S16, R16, S16_0, S16_1, S16_2, S16_3, S16_4, S16_5, S16_6, S16_7, S16_8, S16r1, S16r2, S16r3, S16r4, S16r5, S16r6, S16r7, S16r8, S16r9, h4, hLs, hi3, impF, CRdr, CMore, CBare, CFail, oneR_wp, onK_ok, onK_error, rdO, nilS, rdr, unStr_rows, strRows_len, strRows_all, List.length_append, List.length_set, Ev.St.giveC, ↓Ev.P, Ev.Q, Bool.cond_true, Bool.cond_false, eq_self, forall_eq_or_imp, implies_true, forall_const, forall_eq, ↓reduceIte, reduceIte, Nat.reduceEqDiff, Nat.reduceAdd, reduceCtorEq, Nat.reduceSub, Int.reduceToNat, Int.reduceLE, Int.reduceLT, Int.reduceNeg, Nat.reduceBEq, Nat.reduceMul, Nat.reduceLeDiff, Nat.reduceMod, UInt8.reduceOfNat, Nat.reduceLT, Int.reduceEq, Int.reduceAdd, Int.reduceSub, Int.reduceMul]))
          all_goals try omega
          refine xLoop_intro (fun n2 st => (∃ (f k : Nat) (x : Ed), k ≤ L.length ∧ n2 = L.length - k + 2 ∧ L.length - k < f ∧ okE x ∧ x.1.length ≤ A.length + k ∧ (∀ z ∈ x.1, z.length ≤ 1099511627776) ∧ runE L f x k = .error (a, e) ∧ st = ⟨[(5, .ptr 0 0), (6, .ptr 1 0), (7, .ptr 3 0), (11, .d (.v (.bool false)))], 4, [(0, .cells 29 [.d (.v (.int .i64 0)), .d (.v (.int .i64 0))]), (1, .cells 77 [.d (.sl (strRows L)), .d (.v (.int .i64 (k : Nat))), .d (.v (.int .i64 0)), .d (.v (.int .i64 0))]), (2, .row 9 1 (strRows x.1)), (3, .cells 90 [.own 2, .d (.v (.int .i64 x.2))])]⟩) ∨ (n2 = 1 ∧ ¬ e = 0 ∧ ∃ (T : List (List D)) (c : Int), st = ⟨[(5, .ptr 0 0), (6, .ptr 1 0), (7, .ptr 3 0), (11, .d (.v (.bool false)))], 4, [(0, .cells 29 [.d (.v (.int .i64 0)), .d (.v (.int .i64 0))]), (1, .cells 77 [.d (.sl (strRows L)), .d (.v (.int .i64 a)), .d (.v (.int .i64 a)), .d (.v (.int .i64 e))]), (2, .row 9 1 T), (3, .cells 90 [.own 2, .d (.v (.int .i64 c))])]⟩)) (L.length + 2) [0, 1, 2, 3] ?_ ?_ ?_
          · simp -dsimp -implicitDefEqProofs only [↓Ev.xStp_eq, ↓Ev.P, Ev.Q, Bool.cond_true, Bool.cond_false, eq_self, forall_eq_or_imp, implies_true, forall_const, forall_eq, ↓reduceIte, reduceIte, Nat.reduceEqDiff, Nat.reduceAdd, reduceCtorEq, Nat.reduceSub, Int.reduceToNat, Int.reduceLE, Int.reduceLT, Int.reduceNeg, Nat.reduceBEq, Nat.reduceMul, Nat.reduceLeDiff, Nat.reduceMod, UInt8.reduceOfNat, Nat.reduceLT, Int.reduceEq, Int.reduceAdd, Int.reduceSub, Int.reduceMul]
          · simp -dsimp -implicitDefEqProofs only [↓Ev.xStp_eq, ↓Ev.P, Ev.Q, Bool.cond_true, Bool.cond_false, eq_self, forall_eq_or_imp, implies_true, forall_const, forall_eq, ↓reduceIte, reduceIte, Nat.reduceEqDiff, Nat.reduceAdd, reduceCtorEq, Nat.reduceSub, Int.reduceToNat, Int.reduceLE, Int.reduceLT, Int.reduceNeg, Nat.reduceBEq, Nat.reduceMul, Nat.reduceLeDiff, Nat.reduceMod, UInt8.reduceOfNat, Nat.reduceLT, Int.reduceEq, Int.reduceAdd, Int.reduceSub, Int.reduceMul]
            exact .inl ⟨L.length + 1, 0, (bareT A, -1), by omega, by omega, by omega, .inl rfl, by rw [bareT_len]; omega, bareT_sz hA, hY, rfl⟩
          · rintro n2 st2 (⟨f, k, ⟨X, c⟩, hkl, rfl, hf, hok, hXl, hX, hgo, rfl⟩ | ⟨rfl, he, T, c, rfl⟩)
            · dsimp only at hXl hX
              have hsX : smL X := ⟨by omega, hX⟩
              by_cases hlt : k < L.length
              · have hi3 : (k : Int) < (L.length : Int) := by omega
                obtain ⟨f, rfl⟩ : ∃ g, f = g + 1 := ⟨f - 1, by omega⟩
                have hg := strRows_get hlt
                rw [runE, if_pos hlt] at hgo
                by_cases hmk : L.getD k [] = markS
                · rw [if_pos hmk] at hgo
                  rw [hmk, markS] at hg
                  by_cases hlast : k + 1 = L.length
                  · rw [if_pos hlast] at hgo
                    cases hgo
                  · rw [if_neg hlast] at hgo
                    simp only [Except.error.injEq, Prod.mk.injEq] at hgo
                    obtain ⟨rfl, rfl⟩ := hgo
                    have hi4 : ((k : Int) + 1) < (L.length : Int) := by omega
                    have e9 : (k : Int) + 1 + 1 = (k : Int) + 2 := by omega
                    simp -dsimp -implicitDefEqProofs only [S16, R16, S16_0, S16_1, S16_2, S16_3, S16_4, S16_5, S16_6, S16_7, S16_8, S16r1, S16r2, S16r3, S16r4, S16r5, S16r6, S16r7, S16r8, S16r9, hi3, hg, hi4, e9, impF, CRdr, CMore, CBare, CFail, oneR_wp, onK_ok, onK_error, rdO, nilS, rdr, unStr_rows, strRows_len, strRows_all, List.length_append, List.length_set, Ev.St.giveC, ↓Ev.P, Ev.Q, Bool.cond_true, Bool.cond_false, eq_self, forall_eq_or_imp, implies_true, forall_const, forall_eq, ↓reduceIte, reduceIte, Nat.reduceEqDiff, Nat.reduceAdd, reduceCtorEq, Nat.reduceSub, Int.reduceToNat, Int.reduceLE, Int.reduceLT, Int.reduceNeg, Nat.reduceBEq, Nat.reduceMul, Nat.reduceLeDiff, Nat.reduceMod, UInt8.reduceOfNat, Nat.reduceLT, Int.reduceEq, Int.reduceAdd, Int.reduceSub, Int.reduceMul]
                    repeat' (first | with_reducible assumption | refine And.intro ?_ ?_ | intro _ | (rw [Ev.xStp_eq]; simp -dsimp -implicitDefEqProofs only [S16, R16, S16_0, S16_1, S16_2, S16_3, S16_4, S16_5, S16_6, S16_7, S16_8, S16r1, S16r2, S16r3, S16r4, S16r5, S16r6, S16r7, S16r8, S16r9, hi3, hg, hi4, e9, impF, CRdr, CMore, CBare, CFail, oneR_wp, onK_ok, onK_error, rdO, nilS, rdr, unStr_rows, strRows_len, strRows_all, List.length_append, List.length_set, Ev.St.giveC, ↓Ev.P, Ev.Q, Bool.cond_true, Bool.cond_false, eq_self, forall_eq_or_imp, implies_true, forall_const, forall_eq, ↓reduceIte, reduceIte, Nat.reduceEqDiff, Nat.reduceAdd, reduceCtorEq, Nat.reduceSub, Int.reduceToNat, Int.reduceLE, Int.reduceLT, Int.reduceNeg, Nat.reduceBEq, Nat.reduceMul, Nat.reduceLeDiff, Nat.reduceMod, UInt8.reduceOfNat, Nat.reduceLT, Int.reduceEq, Int.reduceAdd, Int.reduceSub, Int.reduceMul]))
                    all_goals try omega
                    all_goals exact hk
                · rw [if_neg hmk] at hgo
                  have hmk2 : ¬ L.getD k [] = [92, 32, 78, 111, 32, 110, 101, 119, 108, 105, 110, 101, 32, 97, 116, 32, 101, 110, 100, 32, 111, 102, 32, 102, 105, 108, 101, 10] := hmk
                  have hgd : (strRows L).getD k [] = [.v (.string ⟨(L.getD k []).toArray⟩)] := by rw [List.getD_eq_getElem?_getD, hg]; rfl
                  cases hcm : cmdE L (X, c) k with
                  | error y =>
                    obtain ⟨ya, ye⟩ := y
                    rw [hcm] at hgo
                    simp only [Except.error.injEq, Prod.mk.injEq] at hgo
                    obtain ⟨rfl, rfl⟩ := hgo
                    have he := cmdE_err hcm
                    simp -dsimp -implicitDefEqProofs only [S16, R16, S16_0, S16_1, S16_2, S16_3, S16_4, S16_5, S16_6, S16_7, S16_8, S16r1, S16r2, S16r3, S16r4, S16r5, S16r6, S16r7, S16r8, S16r9, hi3, hg, hmk2, hcm, impF, CRdr, CMore, CBare, CFail, oneR_wp, onK_ok, onK_error, rdO, nilS, rdr, unStr_rows, strRows_len, strRows_all, List.length_append, List.length_set, Ev.St.giveC, ↓Ev.P, Ev.Q, Bool.cond_true, Bool.cond_false, eq_self, forall_eq_or_imp, implies_true, forall_const, forall_eq, ↓reduceIte, reduceIte, Nat.reduceEqDiff, Nat.reduceAdd, reduceCtorEq, Nat.reduceSub, Int.reduceToNat, Int.reduceLE, Int.reduceLT, Int.reduceNeg, Nat.reduceBEq, Nat.reduceMul, Nat.reduceLeDiff, Nat.reduceMod, UInt8.reduceOfNat, Nat.reduceLT, Int.reduceEq, Int.reduceAdd, Int.reduceSub, Int.reduceMul]
                    repeat' (first | with_reducible assumption | refine And.intro ?_ ?_ | intro _ | (rw [Ev.xStp_eq]; simp -dsimp -implicitDefEqProofs only [S16, R16, S16_0, S16_1, S16_2, S16_3, S16_4, S16_5, S16_6, S16_7, S16_8, S16r1, S16r2, S16r3, S16r4, S16r5, S16r6, S16r7, S16r8, S16r9, hi3, hg, hmk2, hcm, impF, CRdr, CMore, CBare, CFail, oneR_wp, onK_ok, onK_error, rdO, nilS, rdr, unStr_rows, strRows_len, strRows_all, List.length_append, List.length_set, Ev.St.giveC, ↓Ev.P, Ev.Q, Bool.cond_true, Bool.cond_false, eq_self, forall_eq_or_imp, implies_true, forall_const, forall_eq, ↓reduceIte, reduceIte, Nat.reduceEqDiff, Nat.reduceAdd, reduceCtorEq, Nat.reduceSub, Int.reduceToNat, Int.reduceLE, Int.reduceLT, Int.reduceNeg, Nat.reduceBEq, Nat.reduceMul, Nat.reduceLeDiff, Nat.reduceMod, UInt8.reduceOfNat, Nat.reduceLT, Int.reduceEq, Int.reduceAdd, Int.reduceSub, Int.reduceMul]))
                    all_goals try omega
                    · refine xAgain_intro 1 [0, 1, 2, 3] (by omega) (by simp -dsimp -implicitDefEqProofs only [↓Ev.xStp_eq, ↓Ev.P, Ev.Q, Bool.cond_true, Bool.cond_false, eq_self, forall_eq_or_imp, implies_true, forall_const, forall_eq, ↓reduceIte, reduceIte, Nat.reduceEqDiff, Nat.reduceAdd, reduceCtorEq, Nat.reduceSub, Int.reduceToNat, Int.reduceLE, Int.reduceLT, Int.reduceNeg, Nat.reduceBEq, Nat.reduceMul, Nat.reduceLeDiff, Nat.reduceMod, UInt8.reduceOfNat, Nat.reduceLT, Int.reduceEq, Int.reduceAdd, Int.reduceSub, Int.reduceMul]) (.inr ⟨rfl, he, strRows X, c, ?_⟩)
                      simp -dsimp -implicitDefEqProofs only [↓Ev.xStp_eq, ↓Ev.P, Ev.Q, Bool.cond_true, Bool.cond_false, eq_self, forall_eq_or_imp, implies_true, forall_const, forall_eq, ↓reduceIte, reduceIte, Nat.reduceEqDiff, Nat.reduceAdd, reduceCtorEq, Nat.reduceSub, Int.reduceToNat, Int.reduceLE, Int.reduceLT, Int.reduceNeg, Nat.reduceBEq, Nat.reduceMul, Nat.reduceLeDiff, Nat.reduceMod, UInt8.reduceOfNat, Nat.reduceLT, Int.reduceEq, Int.reduceAdd, Int.reduceSub, Int.reduceMul]
                      all_goals rfl
                    · rename_i T9
                      refine xAgain_intro 1 [0, 1, 4, 3] (by omega) (by simp -dsimp -implicitDefEqProofs only [↓Ev.xStp_eq, ↓Ev.P, Ev.Q, Bool.cond_true, Bool.cond_false, eq_self, forall_eq_or_imp, implies_true, forall_const, forall_eq, ↓reduceIte, reduceIte, Nat.reduceEqDiff, Nat.reduceAdd, reduceCtorEq, Nat.reduceSub, Int.reduceToNat, Int.reduceLE, Int.reduceLT, Int.reduceNeg, Nat.reduceBEq, Nat.reduceMul, Nat.reduceLeDiff, Nat.reduceMod, UInt8.reduceOfNat, Nat.reduceLT, Int.reduceEq, Int.reduceAdd, Int.reduceSub, Int.reduceMul]) (.inr ⟨rfl, he, T9, -1, ?_⟩)
                      simp -dsimp -implicitDefEqProofs only [↓Ev.xStp_eq, ↓Ev.P, Ev.Q, Bool.cond_true, Bool.cond_false, eq_self, forall_eq_or_imp, implies_true, forall_const, forall_eq, ↓reduceIte, reduceIte, Nat.reduceEqDiff, Nat.reduceAdd, reduceCtorEq, Nat.reduceSub, Int.reduceToNat, Int.reduceLE, Int.reduceLT, Int.reduceNeg, Nat.reduceBEq, Nat.reduceMul, Nat.reduceLeDiff, Nat.reduceMod, UInt8.reduceOfNat, Nat.reduceLT, Int.reduceEq, Int.reduceAdd, Int.reduceSub, Int.reduceMul]
                      all_goals rfl
                  | ok y =>
                    obtain ⟨⟨X1, c1⟩, a1⟩ := y
                    rw [hcm] at hgo; dsimp only at hgo
                    obtain ⟨q1, q2, q3, q4⟩ := cmdE_le hcm hok
                    dsimp only at q4
                    have q5 := cmdE_sz hL hcm hX
                    simp -dsimp -implicitDefEqProofs only [S16, R16, S16_0, S16_1, S16_2, S16_3, S16_4, S16_5, S16_6, S16_7, S16_8, S16r1, S16r2, S16r3, S16r4, S16r5, S16r6, S16r7, S16r8, S16r9, hi3, hg, hmk2, hcm, impF, CRdr, CMore, CBare, CFail, oneR_wp, onK_ok, onK_error, rdO, nilS, rdr, unStr_rows, strRows_len, strRows_all, List.length_append, List.length_set, Ev.St.giveC, ↓Ev.P, Ev.Q, Bool.cond_true, Bool.cond_false, eq_self, forall_eq_or_imp, implies_true, forall_const, forall_eq, ↓reduceIte, reduceIte, Nat.reduceEqDiff, Nat.reduceAdd, reduceCtorEq, Nat.reduceSub, Int.reduceToNat, Int.reduceLE, Int.reduceLT, Int.reduceNeg, Nat.reduceBEq, Nat.reduceMul, Nat.reduceLeDiff, Nat.reduceMod, UInt8.reduceOfNat, Nat.reduceLT, Int.reduceEq, Int.reduceAdd, Int.reduceSub, Int.reduceMul]
                    repeat' (first | with_reducible assumption | refine And.intro ?_ ?_ | intro _ | (rw [Ev.xStp_eq]; simp -dsimp -implicitDefEqProofs only [S16, R16, S16_0, S16_1, S16_2, S16_3, S16_4, S16_5, S16_6, S16_7, S16_8, S16r1, S16r2, S16r3, S16r4, S16r5, S16r6, S16r7, S16r8, S16r9, hi3, hg, hmk2, hcm, impF, CRdr, CMore, CBare, CFail, oneR_wp, onK_ok, onK_error, rdO, nilS, rdr, unStr_rows, strRows_len, strRows_all, List.length_append, List.length_set, Ev.St.giveC, ↓Ev.P, Ev.Q, Bool.cond_true, Bool.cond_false, eq_self, forall_eq_or_imp, implies_true, forall_const, forall_eq, ↓reduceIte, reduceIte, Nat.reduceEqDiff, Nat.reduceAdd, reduceCtorEq, Nat.reduceSub, Int.reduceToNat, Int.reduceLE, Int.reduceLT, Int.reduceNeg, Nat.reduceBEq, Nat.reduceMul, Nat.reduceLeDiff, Nat.reduceMod, UInt8.reduceOfNat, Nat.reduceLT, Int.reduceEq, Int.reduceAdd, Int.reduceSub, Int.reduceMul]))
                    all_goals try omega
                    · refine xAgain_intro (L.length - a1 + 2) [0, 1, 4, 3] (by omega) (by simp -dsimp -implicitDefEqProofs only [↓Ev.xStp_eq, ↓Ev.P, Ev.Q, Bool.cond_true, Bool.cond_false, eq_self, forall_eq_or_imp, implies_true, forall_const, forall_eq, ↓reduceIte, reduceIte, Nat.reduceEqDiff, Nat.reduceAdd, reduceCtorEq, Nat.reduceSub, Int.reduceToNat, Int.reduceLE, Int.reduceLT, Int.reduceNeg, Nat.reduceBEq, Nat.reduceMul, Nat.reduceLeDiff, Nat.reduceMod, UInt8.reduceOfNat, Nat.reduceLT, Int.reduceEq, Int.reduceAdd, Int.reduceSub, Int.reduceMul]) (.inl ⟨f, a1, (X1, c1), q3, rfl, by omega, q1, by dsimp only; omega, q5, hgo, ?_⟩)
                      simp -dsimp -implicitDefEqProofs only [↓Ev.xStp_eq, ↓Ev.P, Ev.Q, Bool.cond_true, Bool.cond_false, eq_self, forall_eq_or_imp, implies_true, forall_const, forall_eq, ↓reduceIte, reduceIte, Nat.reduceEqDiff, Nat.reduceAdd, reduceCtorEq, Nat.reduceSub, Int.reduceToNat, Int.reduceLE, Int.reduceLT, Int.reduceNeg, Nat.reduceBEq, Nat.reduceMul, Nat.reduceLeDiff, Nat.reduceMod, UInt8.reduceOfNat, Nat.reduceLT, Int.reduceEq, Int.reduceAdd, Int.reduceSub, Int.reduceMul]
                      all_goals rfl
                    · refine xAgain_intro (L.length - a1 + 2) [0, 1, 2, 3] (by omega) (by simp -dsimp -implicitDefEqProofs only [↓Ev.xStp_eq, ↓Ev.P, Ev.Q, Bool.cond_true, Bool.cond_false, eq_self, forall_eq_or_imp, implies_true, forall_const, forall_eq, ↓reduceIte, reduceIte, Nat.reduceEqDiff, Nat.reduceAdd, reduceCtorEq, Nat.reduceSub, Int.reduceToNat, Int.reduceLE, Int.reduceLT, Int.reduceNeg, Nat.reduceBEq, Nat.reduceMul, Nat.reduceLeDiff, Nat.reduceMod, UInt8.reduceOfNat, Nat.reduceLT, Int.reduceEq, Int.reduceAdd, Int.reduceSub, Int.reduceMul]) (.inl ⟨f, a1, (X1, c1), q3, rfl, by omega, q1, by dsimp only; omega, q5, hgo, ?_⟩)
                      simp -dsimp -implicitDefEqProofs only [↓Ev.xStp_eq, ↓Ev.P, Ev.Q, Bool.cond_true, Bool.cond_false, eq_self, forall_eq_or_imp, implies_true, forall_const, forall_eq, ↓reduceIte, reduceIte, Nat.reduceEqDiff, Nat.reduceAdd, reduceCtorEq, Nat.reduceSub, Int.reduceToNat, Int.reduceLE, Int.reduceLT, Int.reduceNeg, Nat.reduceBEq, Nat.reduceMul, Nat.reduceLeDiff, Nat.reduceMod, UInt8.reduceOfNat, Nat.reduceLT, Int.reduceEq, Int.reduceAdd, Int.reduceSub, Int.reduceMul]
                      all_goals rfl
              · have hi3 : ¬ (k : Int) < (L.length : Int) := by omega
                rw [runE_end hlt] at hgo
                cases hgo
            · have _t := trivial
              simp -dsimp -implicitDefEqProofs only [S16, R16, S16_0, S16_1, S16_2, S16_3, S16_4, S16_5, S16_6, S16_7, S16_8, S16r1, S16r2, S16r3, S16r4, S16r5, S16r6, S16r7, S16r8, S16r9, he, impF, CRdr, CMore, CBare, CFail, oneR_wp, onK_ok, onK_error, rdO, nilS, rdr, unStr_rows, strRows_len, strRows_all, List.length_append, List.length_set, Ev.St.giveC, ↓Ev.P, Ev.Q, Bool.cond_true, Bool.cond_false, eq_self, forall_eq_or_imp, implies_true, forall_const, forall_eq, ↓reduceIte, reduceIte, Nat.reduceEqDiff, Nat.reduceAdd, reduceCtorEq, Nat.reduceSub, Int.reduceToNat, Int.reduceLE, Int.reduceLT, Int.reduceNeg, Nat.reduceBEq, Nat.reduceMul, Nat.reduceLeDiff, Nat.reduceMod, UInt8.reduceOfNat, Nat.reduceLT, Int.reduceEq, Int.reduceAdd, Int.reduceSub, Int.reduceMul]
              repeat' (first | with_reducible assumption | refine And.intro ?_ ?_ | intro _ | (rw [Ev.xStp_eq]; simp -dsimp -implicitDefEqProofs only [S16, R16, S16_0, S16_1, S16_2, S16_3, S16_4, S16_5, S16_6, S16_7, S16_8, S16r1, S16r2, S16r3, S16r4, S16r5, S16r6, S16r7, S16r8, S16r9, he, impF, CRdr, CMore, CBare, CFail, oneR_wp, onK_ok, onK_error, rdO, nilS, rdr, unStr_rows, strRows_len, strRows_all, List.length_append, List.length_set, Ev.St.giveC, ↓Ev.P, Ev.Q, Bool.cond_true, Bool.cond_false, eq_self, forall_eq_or_imp, implies_true, forall_const, forall_eq, ↓reduceIte, reduceIte, Nat.reduceEqDiff, Nat.reduceAdd, reduceCtorEq, Nat.reduceSub, Int.reduceToNat, Int.reduceLE, Int.reduceLT, Int.reduceNeg, Nat.reduceBEq, Nat.reduceMul, Nat.reduceLeDiff, Nat.reduceMod, UInt8.reduceOfNat, Nat.reduceLT, Int.reduceEq, Int.reduceAdd, Int.reduceSub, Int.reduceMul]))
              all_goals try omega
              all_goals exact hk
    | ok hh =>
      obtain ⟨X9, cut⟩ := hh
      rw [hY] at h2; simp only [map_ok, refE, fedE, Prod.mk.injEq] at h2; obtain ⟨rfl, rfl⟩ := h2
      have hX9 := runE_le hY (.inl rfl) (Nat.zero_le _)
      simp only [bareT_len] at hX9
      refine ⟨[2], ?_⟩
      simp -dsimp -implicitDefEqProofs only [S16, R16, S16_0, S16_1, S16_2, S16_3, S16_4, S16_5, S16_6, S16_7, S16_8, S16r1, S16r2, S16r3, S16r4, S16r5, S16r6, S16r7, S16r8, S16r9, h4, hLs, impF, CRdr, CMore, CBare, CFail, oneR_wp, onK_ok, onK_error, rdO, nilS, rdr, unStr_rows, strRows_len, strRows_all, List.length_append, List.length_set, Ev.St.giveC, ↓Ev.P, Ev.Q, Bool.cond_true, Bool.cond_false, eq_self, forall_eq_or_imp, implies_true, forall_const, forall_eq, ↓reduceIte, reduceIte, Nat.reduceEqDiff, Nat.reduceAdd, reduceCtorEq, Nat.reduceSub, Int.reduceToNat, Int.reduceLE, Int.reduceLT, Int.reduceNeg, Nat.reduceBEq, Nat.reduceMul, Nat.reduceLeDiff, Nat.reduceMod, UInt8.reduceOfNat, Nat.reduceLT, Int.reduceEq, Int.reduceAdd, Int.reduceSub, Int.reduceMul]
      repeat' (first | with_reducible assumption | refine And.intro ?_ ?_ | intro _ | (rw [Ev.xStp_eq]; simp -dsimp -implicitDefEqProofs only [S16, R16, S16_0, S16_1, S16_2, S16_3, S16_4, S16_5, S16_6, S16_7, S16_8, S16r1, S16r2, S16r3, S16r4, S16r5, S16r6, S16r7, S16r8, S16r9, h4, hLs, impF, CRdr, CMore, CBare, CFail, oneR_wp, onK_ok, onK_error, rdO, nilS, rdr, unStr_rows, strRows_len, strRows_all, List.length_append, List.length_set, Ev.St.giveC, ↓Ev.P, Ev.Q, Bool.cond_true, Bool.cond_false, eq_self, forall_eq_or_imp, implies_true, forall_const, forall_eq, ↓reduceIte, reduceIte, Nat.reduceEqDiff, Nat.reduceAdd, reduceCtorEq, Nat.reduceSub, Int.reduceToNat, Int.reduceLE, Int.reduceLT, Int.reduceNeg, Nat.reduceBEq, Nat.reduceMul, Nat.reduceLeDiff, Nat.reduceMod, UInt8.reduceOfNat, Nat.reduceLT, Int.reduceEq, Int.reduceAdd, Int.reduceSub, Int.reduceMul]))
      all_goals try omega
      refine xLoop_intro (fun m st => ∃ i : Nat, i ≤ A.length ∧ m = A.length - i ∧ st = ⟨[(1, .d (.sl (strRows A))), (5, .ptr 0 0), (6, .ptr 1 0), (7, .ptr 3 0), (8, .d (.v (.int .i64 (i : Nat))))], 4, [(0, .cells 29 [.d (.v (.int .i64 0)), .d (.v (.int .i64 0))]), (1, .cells 77 [.d (.sl (strRows L)), .d (.v (.int .i64 0)), .d (.v (.int .i64 0)), .d (.v (.int .i64 0))]), (2, .row 9 1 (strRows ((bareT A).take i))), (3, .cells 90 [.own 2, .d (.v (.int .i64 (-1)))])]⟩) A.length [0, 1, 2, 3] ?_ ?_ ?_
      · simp -dsimp -implicitDefEqProofs only [↓Ev.xStp_eq, ↓Ev.P, Ev.Q, Bool.cond_true, Bool.cond_false, eq_self, forall_eq_or_imp, implies_true, forall_const, forall_eq, ↓reduceIte, reduceIte, Nat.reduceEqDiff, Nat.reduceAdd, reduceCtorEq, Nat.reduceSub, Int.reduceToNat, Int.reduceLE, Int.reduceLT, Int.reduceNeg, Nat.reduceBEq, Nat.reduceMul, Nat.reduceLeDiff, Nat.reduceMod, UInt8.reduceOfNat, Nat.reduceLT, Int.reduceEq, Int.reduceAdd, Int.reduceSub, Int.reduceMul]
      · simp -dsimp -implicitDefEqProofs only [nilS, ↓Ev.xStp_eq, ↓Ev.P, Ev.Q, Bool.cond_true, Bool.cond_false, eq_self, forall_eq_or_imp, implies_true, forall_const, forall_eq, ↓reduceIte, reduceIte, Nat.reduceEqDiff, Nat.reduceAdd, reduceCtorEq, Nat.reduceSub, Int.reduceToNat, Int.reduceLE, Int.reduceLT, Int.reduceNeg, Nat.reduceBEq, Nat.reduceMul, Nat.reduceLeDiff, Nat.reduceMod, UInt8.reduceOfNat, Nat.reduceLT, Int.reduceEq, Int.reduceAdd, Int.reduceSub, Int.reduceMul]
        exact ⟨0, by omega, by omega, rfl⟩
      · rintro m st ⟨i, hi, rfl, rfl⟩
        by_cases hil : i < A.length
        · have hi3 : (i : Int) < (A.length : Int) := by omega
          have hg := strRows_get hil
          have hsz := hA _ (getD_in hil)
          have hlen : ((bareT A).take i).length = i := by rw [List.length_take, bareT_len]; omega
          have hsn := bareT_snoc hil
          generalize A.getD i [] = w at hg hsz hsn
          simp -dsimp -implicitDefEqProofs only [S16, R16, S16_0, S16_1, S16_2, S16_3, S16_4, S16_5, S16_6, S16_7, S16_8, S16r1, S16r2, S16r3, S16r4, S16r5, S16r6, S16r7, S16r8, S16r9, h4, hLs, hi3, hg, hlen, impF, CRdr, CMore, CBare, CFail, oneR_wp, onK_ok, onK_error, rdO, nilS, rdr, unStr_rows, strRows_len, strRows_all, List.length_append, List.length_set, Ev.St.giveC, ↓Ev.P, Ev.Q, Bool.cond_true, Bool.cond_false, eq_self, forall_eq_or_imp, implies_true, forall_const, forall_eq, ↓reduceIte, reduceIte, Nat.reduceEqDiff, Nat.reduceAdd, reduceCtorEq, Nat.reduceSub, Int.reduceToNat, Int.reduceLE, Int.reduceLT, Int.reduceNeg, Nat.reduceBEq, Nat.reduceMul, Nat.reduceLeDiff, Nat.reduceMod, UInt8.reduceOfNat, Nat.reduceLT, Int.reduceEq, Int.reduceAdd, Int.reduceSub, Int.reduceMul]
          repeat' (first | with_reducible assumption | refine And.intro ?_ ?_ | intro _ | (rw [Ev.xStp_eq]; simp -dsimp -implicitDefEqProofs only [S16, R16, S16_0, S16_1, S16_2, S16_3, S16_4, S16_5, S16_6, S16_7, S16_8, S16r1, S16r2, S16r3, S16r4, S16r5, S16r6, S16r7, S16r8, S16r9, h4, hLs, hi3, hg, hlen, impF, CRdr, CMore, CBare, CFail, oneR_wp, onK_ok, onK_error, rdO, nilS, rdr, unStr_rows, strRows_len, strRows_all, List.length_append, List.length_set, Ev.St.giveC, ↓Ev.P, Ev.Q, Bool.cond_true, Bool.cond_false, eq_self, forall_eq_or_imp, implies_true, forall_const, forall_eq, ↓reduceIte, reduceIte, Nat.reduceEqDiff, Nat.reduceAdd, reduceCtorEq, Nat.reduceSub, Int.reduceToNat, Int.reduceLE, Int.reduceLT, Int.reduceNeg, Nat.reduceBEq, Nat.reduceMul, Nat.reduceLeDiff, Nat.reduceMod, UInt8.reduceOfNat, Nat.reduceLT, Int.reduceEq, Int.reduceAdd, Int.reduceSub, Int.reduceMul]))
          all_goals try omega
          refine xAgain_intro (A.length - (i + 1)) [0, 1, 5, 3] (by omega) (by simp -dsimp -implicitDefEqProofs only [nilS, ↓Ev.xStp_eq, ↓Ev.P, Ev.Q, Bool.cond_true, Bool.cond_false, eq_self, forall_eq_or_imp, implies_true, forall_const, forall_eq, ↓reduceIte, reduceIte, Nat.reduceEqDiff, Nat.reduceAdd, reduceCtorEq, Nat.reduceSub, Int.reduceToNat, Int.reduceLE, Int.reduceLT, Int.reduceNeg, Nat.reduceBEq, Nat.reduceMul, Nat.reduceLeDiff, Nat.reduceMod, UInt8.reduceOfNat, Nat.reduceLT, Int.reduceEq, Int.reduceAdd, Int.reduceSub, Int.reduceMul]) ⟨i + 1, by omega, rfl, ?_⟩
          rw [hsn, strRows_snoc]
          simp -dsimp -implicitDefEqProofs only [nilS, ↓Ev.xStp_eq, ↓Ev.P, Ev.Q, Bool.cond_true, Bool.cond_false, eq_self, forall_eq_or_imp, implies_true, forall_const, forall_eq, ↓reduceIte, reduceIte, Nat.reduceEqDiff, Nat.reduceAdd, reduceCtorEq, Nat.reduceSub, Int.reduceToNat, Int.reduceLE, Int.reduceLT, Int.reduceNeg, Nat.reduceBEq, Nat.reduceMul, Nat.reduceLeDiff, Nat.reduceMod, UInt8.reduceOfNat, Nat.reduceLT, Int.reduceEq, Int.reduceAdd, Int.reduceSub, Int.reduceMul]
          all_goals rfl
        · have hi3 : ¬ (i : Int) < (A.length : Int) := by omega
          obtain rfl : i = A.length := by omega
          rw [bareT_all]
          simp -dsimp -implicitDefEqProofs only [S16, R16, S16_0, S16_1, S16_2, S16_3, S16_4, S16_5, S16_6, S16_7, S16_8, S16r1, S16r2, S16r3, S16r4, S16r5, S16r6, S16r7, S16r8, S16r9, h4, hLs, hi3, impF, CRdr, CMore, CBare, CFail, oneR_wp, onK_ok, onK_error, rdO, nilS, rdr, unStr_rows, strRows_len, strRows_all, List.length_append, List.length_set, Ev.St.giveC, ↓Ev.P, Ev.Q, Bool.cond_true, Bool.cond_false, eq_self, forall_eq_or_imp, implies_true, forall_const, forall_eq, ↓reduceIte, reduceIte, Nat.reduceEqDiff, Nat.reduceAdd, reduceCtorEq, Nat.reduceSub, Int.reduceToNat, Int.reduceLE, Int.reduceLT, Int.reduceNeg, Nat.reduceBEq, Nat.reduceMul, Nat.reduceLeDiff, Nat.reduceMod, UInt8.reduceOfNat, Nat.reduceLT, Int.reduceEq, Int.reduceAdd, Int.reduceSub, Int.reduceMul]
          repeat' (first | with_reducible assumption | refine And.intro ?_ ?_ | intro _ | (rw [Ev.xStp_eq]; simp -dsimp -implicitDefEqProofs only [S16, R16, S16_0, S16_1, S16_2, S16_3, S16_4, S16_5, S16_6, S16_7, S16_8, S16r1, S16r2, S16r3, S16r4, S16r5, S16r6, S16r7, S16r8, S16r9, h4, hLs, hi3, impF, CRdr, CMore, CBare, CFail, oneR_wp, onK_ok, onK_error, rdO, nilS, rdr, unStr_rows, strRows_len, strRows_all, List.length_append, List.length_set, Ev.St.giveC, ↓Ev.P, Ev.Q, Bool.cond_true, Bool.cond_false, eq_self, forall_eq_or_imp, implies_true, forall_const, forall_eq, ↓reduceIte, reduceIte, Nat.reduceEqDiff, Nat.reduceAdd, reduceCtorEq, Nat.reduceSub, Int.reduceToNat, Int.reduceLE, Int.reduceLT, Int.reduceNeg, Nat.reduceBEq, Nat.reduceMul, Nat.reduceLeDiff, Nat.reduceMod, UInt8.reduceOfNat, Nat.reduceLT, Int.reduceEq, Int.reduceAdd, Int.reduceSub, Int.reduceMul]))
          all_goals try omega
          refine xLoop_intro (fun n2 st => (∃ (f k : Nat) (x : Ed), k ≤ L.length ∧ n2 = L.length - k + 2 ∧ L.length - k < f ∧ okE x ∧ x.1.length ≤ A.length + k ∧ (∀ z ∈ x.1, z.length ≤ 1099511627776) ∧ runE L f x k = .ok (X9, cut) ∧ st = ⟨[(5, .ptr 0 0), (6, .ptr 1 0), (7, .ptr 3 0), (11, .d (.v (.bool false)))], 4, [(0, .cells 29 [.d (.v (.int .i64 0)), .d (.v (.int .i64 0))]), (1, .cells 77 [.d (.sl (strRows L)), .d (.v (.int .i64 (k : Nat))), .d (.v (.int .i64 0)), .d (.v (.int .i64 0))]), (2, .row 9 1 (strRows x.1)), (3, .cells 90 [.own 2, .d (.v (.int .i64 x.2))])]⟩)) (L.length + 2) [0, 1, 2, 3] ?_ ?_ ?_
          · simp -dsimp -implicitDefEqProofs only [↓Ev.xStp_eq, ↓Ev.P, Ev.Q, Bool.cond_true, Bool.cond_false, eq_self, forall_eq_or_imp, implies_true, forall_const, forall_eq, ↓reduceIte, reduceIte, Nat.reduceEqDiff, Nat.reduceAdd, reduceCtorEq, Nat.reduceSub, Int.reduceToNat, Int.reduceLE, Int.reduceLT, Int.reduceNeg, Nat.reduceBEq, Nat.reduceMul, Nat.reduceLeDiff, Nat.reduceMod, UInt8.reduceOfNat, Nat.reduceLT, Int.reduceEq, Int.reduceAdd, Int.reduceSub, Int.reduceMul]
          · simp -dsimp -implicitDefEqProofs only [↓Ev.xStp_eq, ↓Ev.P, Ev.Q, Bool.cond_true, Bool.cond_false, eq_self, forall_eq_or_imp, implies_true, forall_const, forall_eq, ↓reduceIte, reduceIte, Nat.reduceEqDiff, Nat.reduceAdd, reduceCtorEq, Nat.reduceSub, Int.reduceToNat, Int.reduceLE, Int.reduceLT, Int.reduceNeg, Nat.reduceBEq, Nat.reduceMul, Nat.reduceLeDiff, Nat.reduceMod, UInt8.reduceOfNat, Nat.reduceLT, Int.reduceEq, Int.reduceAdd, Int.reduceSub, Int.reduceMul]
            exact ⟨L.length + 1, 0, (bareT A, -1), by omega, by omega, by omega, .inl rfl, by rw [bareT_len]; omega, bareT_sz hA, hY, rfl⟩
          · rintro n2 st2 ⟨f, k, ⟨X, c⟩, hkl, rfl, hf, hok, hXl, hX, hgo, rfl⟩
            dsimp only at hXl hX
            have hsX : smL X := ⟨by omega, hX⟩
            by_cases hlt : k < L.length
            · have hi3 : (k : Int) < (L.length : Int) := by omega
              obtain ⟨f, rfl⟩ : ∃ g, f = g + 1 := ⟨f - 1, by omega⟩
              have hg := strRows_get hlt
              rw [runE, if_pos hlt] at hgo
              by_cases hmk : L.getD k [] = markS
              · rw [if_pos hmk] at hgo
                rw [hmk, markS] at hg
                by_cases hlast : k + 1 = L.length
                · rw [if_pos hlast] at hgo
                  simp only [Except.ok.injEq, Prod.mk.injEq] at hgo
                  obtain ⟨rfl, rfl⟩ := hgo
                  have hi4 : ¬ ((k : Int) + 1) < (L.length : Int) := by omega
                  simp -dsimp -implicitDefEqProofs only [S16, R16, S16_0, S16_1, S16_2, S16_3, S16_4, S16_5, S16_6, S16_7, S16_8, S16r1, S16r2, S16r3, S16r4, S16r5, S16r6, S16r7, S16r8, S16r9, hi3, hg, hi4, impF, CRdr, CMore, CBare, CFail, oneR_wp, onK_ok, onK_error, rdO, nilS, rdr, unStr_rows, strRows_len, strRows_all, List.length_append, List.length_set, Ev.St.giveC, ↓Ev.P, Ev.Q, Bool.cond_true, Bool.cond_false, eq_self, forall_eq_or_imp, implies_true, forall_const, forall_eq, ↓reduceIte, reduceIte, Nat.reduceEqDiff, Nat.reduceAdd, reduceCtorEq, Nat.reduceSub, Int.reduceToNat, Int.reduceLE, Int.reduceLT, Int.reduceNeg, Nat.reduceBEq, Nat.reduceMul, Nat.reduceLeDiff, Nat.reduceMod, UInt8.reduceOfNat, Nat.reduceLT, Int.reduceEq, Int.reduceAdd, Int.reduceSub, Int.reduceMul]
                  repeat' (first | with_reducible assumption | refine And.intro ?_ ?_ | intro _ | (rw [Ev.xStp_eq]; simp -dsimp -implicitDefEqProofs only [S16, R16, S16_0, S16_1, S16_2, S16_3, S16_4, S16_5, S16_6, S16_7, S16_8, S16r1, S16r2, S16r3, S16r4, S16r5, S16r6, S16r7, S16r8, S16r9, hi3, hg, hi4, impF, CRdr, CMore, CBare, CFail, oneR_wp, onK_ok, onK_error, rdO, nilS, rdr, unStr_rows, strRows_len, strRows_all, List.length_append, List.length_set, Ev.St.giveC, ↓Ev.P, Ev.Q, Bool.cond_true, Bool.cond_false, eq_self, forall_eq_or_imp, implies_true, forall_const, forall_eq, ↓reduceIte, reduceIte, Nat.reduceEqDiff, Nat.reduceAdd, reduceCtorEq, Nat.reduceSub, Int.reduceToNat, Int.reduceLE, Int.reduceLT, Int.reduceNeg, Nat.reduceBEq, Nat.reduceMul, Nat.reduceLeDiff, Nat.reduceMod, UInt8.reduceOfNat, Nat.reduceLT, Int.reduceEq, Int.reduceAdd, Int.reduceSub, Int.reduceMul]))
                  all_goals try omega
                  refine xLoop_intro (fun m st => ∃ j : Nat, j ≤ X.length ∧ m = X.length - j ∧ st = ⟨[(5, .ptr 0 0), (7, .ptr 3 0), (11, .d (.v (.bool true))), (12, .d (.v (.int .i64 (j : Nat))))], 4, [(0, .cells 29 [.d (.v (.int .i64 0)), .d (.v (.int .i64 0))]), (1, .cells 77 [.d (.sl (strRows L)), .d (.v (.int .i64 ((k : Nat) + 1))), .d (.v (.int .i64 0)), .d (.v (.int .i64 0))]), (2, .row 9 1 (strRows (fedT X (min j (X.length - 1))))), (3, .cells 90 [.own 2, .d (.v (.int .i64 c))])]⟩) X.length [0, 1, 2, 3] ?_ ?_ ?_
                  · simp -dsimp -implicitDefEqProofs only [↓Ev.xStp_eq, ↓Ev.P, Ev.Q, Bool.cond_true, Bool.cond_false, eq_self, forall_eq_or_imp, implies_true, forall_const, forall_eq, ↓reduceIte, reduceIte, Nat.reduceEqDiff, Nat.reduceAdd, reduceCtorEq, Nat.reduceSub, Int.reduceToNat, Int.reduceLE, Int.reduceLT, Int.reduceNeg, Nat.reduceBEq, Nat.reduceMul, Nat.reduceLeDiff, Nat.reduceMod, UInt8.reduceOfNat, Nat.reduceLT, Int.reduceEq, Int.reduceAdd, Int.reduceSub, Int.reduceMul]
                  · simp -dsimp -implicitDefEqProofs only [↓Ev.xStp_eq, ↓Ev.P, Ev.Q, Bool.cond_true, Bool.cond_false, eq_self, forall_eq_or_imp, implies_true, forall_const, forall_eq, ↓reduceIte, reduceIte, Nat.reduceEqDiff, Nat.reduceAdd, reduceCtorEq, Nat.reduceSub, Int.reduceToNat, Int.reduceLE, Int.reduceLT, Int.reduceNeg, Nat.reduceBEq, Nat.reduceMul, Nat.reduceLeDiff, Nat.reduceMod, UInt8.reduceOfNat, Nat.reduceLT, Int.reduceEq, Int.reduceAdd, Int.reduceSub, Int.reduceMul]
                    refine ⟨0, by omega, by omega, ?_⟩
                    rw [Nat.zero_min, fed_zero]
                    all_goals rfl
                  · rintro m st ⟨j, hj, rfl, rfl⟩
                    by_cases hjl : j < X.length
                    · have hj3 : (j : Int) < (X.length : Int) := by omega
                      by_cases hjm : j < X.length - 1
                      · have hj4 : (j : Int) < (X.length : Int) - 1 := by omega
                        rw [Nat.min_eq_left (by omega)]
                        have hg := strRows_get (l := fedT X j) (i := j) (by rw [fed_len]; exact hjl)
                        rw [fed_get hjl] at hg
                        have hg2 : (strRows (fedT X j)).getD j [] = [.v (.string ⟨(X.getD j []).toArray⟩)] := by rw [List.getD_eq_getElem?_getD, hg]; rfl
                        have hset := fed_rows hjl
                        have hxz := hX _ (getD_in hjl)
                        have hfl := fed_len X j
                        generalize X.getD j [] = w at hg hg2 hset hxz
                        simp -dsimp -implicitDefEqProofs only [S16, R16, S16_0, S16_1, S16_2, S16_3, S16_4, S16_5, S16_6, S16_7, S16_8, S16r1, S16r2, S16r3, S16r4, S16r5, S16r6, S16r7, S16r8, S16r9, hj3, hg, hg2, hset, hfl, hj4, impF, CRdr, CMore, CBare, CFail, oneR_wp, onK_ok, onK_error, rdO, nilS, rdr, unStr_rows, strRows_len, strRows_all, List.length_append, List.length_set, Ev.St.giveC, ↓Ev.P, Ev.Q, Bool.cond_true, Bool.cond_false, eq_self, forall_eq_or_imp, implies_true, forall_const, forall_eq, ↓reduceIte, reduceIte, Nat.reduceEqDiff, Nat.reduceAdd, reduceCtorEq, Nat.reduceSub, Int.reduceToNat, Int.reduceLE, Int.reduceLT, Int.reduceNeg, Nat.reduceBEq, Nat.reduceMul, Nat.reduceLeDiff, Nat.reduceMod, UInt8.reduceOfNat, Nat.reduceLT, Int.reduceEq, Int.reduceAdd, Int.reduceSub, Int.reduceMul]
                        repeat' (first | with_reducible assumption | refine And.intro ?_ ?_ | intro _ | (rw [Ev.xStp_eq]; simp -dsimp -implicitDefEqProofs only [S16, R16, S16_0, S16_1, S16_2, S16_3, S16_4, S16_5, S16_6, S16_7, S16_8, S16r1, S16r2, S16r3, S16r4, S16r5, S16r6, S16r7, S16r8, S16r9, hj3, hg, hg2, hset, hfl, hj4, impF, CRdr, CMore, CBare, CFail, oneR_wp, onK_ok, onK_error, rdO, nilS, rdr, unStr_rows, strRows_len, strRows_all, List.length_append, List.length_set, Ev.St.giveC, ↓Ev.P, Ev.Q, Bool.cond_true, Bool.cond_false, eq_self, forall_eq_or_imp, implies_true, forall_const, forall_eq, ↓reduceIte, reduceIte, Nat.reduceEqDiff, Nat.reduceAdd, reduceCtorEq, Nat.reduceSub, Int.reduceToNat, Int.reduceLE, Int.reduceLT, Int.reduceNeg, Nat.reduceBEq, Nat.reduceMul, Nat.reduceLeDiff, Nat.reduceMod, UInt8.reduceOfNat, Nat.reduceLT, Int.reduceEq, Int.reduceAdd, Int.reduceSub, Int.reduceMul]))
                        all_goals try omega
                        refine xAgain_intro (X.length - (j + 1)) [0, 1, 2, 3] (by omega) (by simp -dsimp -implicitDefEqProofs only [↓Ev.xStp_eq, ↓Ev.P, Ev.Q, Bool.cond_true, Bool.cond_false, eq_self, forall_eq_or_imp, implies_true, forall_const, forall_eq, ↓reduceIte, reduceIte, Nat.reduceEqDiff, Nat.reduceAdd, reduceCtorEq, Nat.reduceSub, Int.reduceToNat, Int.reduceLE, Int.reduceLT, Int.reduceNeg, Nat.reduceBEq, Nat.reduceMul, Nat.reduceLeDiff, Nat.reduceMod, UInt8.reduceOfNat, Nat.reduceLT, Int.reduceEq, Int.reduceAdd, Int.reduceSub, Int.reduceMul]) ⟨j + 1, by omega, rfl, ?_⟩
                        rw [Nat.min_eq_left (by omega)]
                        simp -dsimp -implicitDefEqProofs only [↓Ev.xStp_eq, ↓Ev.P, Ev.Q, Bool.cond_true, Bool.cond_false, eq_self, forall_eq_or_imp, implies_true, forall_const, forall_eq, ↓reduceIte, reduceIte, Nat.reduceEqDiff, Nat.reduceAdd, reduceCtorEq, Nat.reduceSub, Int.reduceToNat, Int.reduceLE, Int.reduceLT, Int.reduceNeg, Nat.reduceBEq, Nat.reduceMul, Nat.reduceLeDiff, Nat.reduceMod, UInt8.reduceOfNat, Nat.reduceLT, Int.reduceEq, Int.reduceAdd, Int.reduceSub, Int.reduceMul]
                        all_goals rfl
                      · have hj4 : ¬ (j : Int) < (X.length : Int) - 1 := by omega
                        rw [Nat.min_eq_right (by omega)]
                        have hfl := fed_len X (X.length - 1)
                        simp -dsimp -implicitDefEqProofs only [S16, R16, S16_0, S16_1, S16_2, S16_3, S16_4, S16_5, S16_6, S16_7, S16_8, S16r1, S16r2, S16r3, S16r4, S16r5, S16r6, S16r7, S16r8, S16r9, hj3, hj4, hfl, impF, CRdr, CMore, CBare, CFail, oneR_wp, onK_ok, onK_error, rdO, nilS, rdr, unStr_rows, strRows_len, strRows_all, List.length_append, List.length_set, Ev.St.giveC, ↓Ev.P, Ev.Q, Bool.cond_true, Bool.cond_false, eq_self, forall_eq_or_imp, implies_true, forall_const, forall_eq, ↓reduceIte, reduceIte, Nat.reduceEqDiff, Nat.reduceAdd, reduceCtorEq, Nat.reduceSub, Int.reduceToNat, Int.reduceLE, Int.reduceLT, Int.reduceNeg, Nat.reduceBEq, Nat.reduceMul, Nat.reduceLeDiff, Nat.reduceMod, UInt8.reduceOfNat, Nat.reduceLT, Int.reduceEq, Int.reduceAdd, Int.reduceSub, Int.reduceMul]
                        repeat' (first | with_reducible assumption | refine And.intro ?_ ?_ | intro _ | (rw [Ev.xStp_eq]; simp -dsimp -implicitDefEqProofs only [S16, R16, S16_0, S16_1, S16_2, S16_3, S16_4, S16_5, S16_6, S16_7, S16_8, S16r1, S16r2, S16r3, S16r4, S16r5, S16r6, S16r7, S16r8, S16r9, hj3, hj4, hfl, impF, CRdr, CMore, CBare, CFail, oneR_wp, onK_ok, onK_error, rdO, nilS, rdr, unStr_rows, strRows_len, strRows_all, List.length_append, List.length_set, Ev.St.giveC, ↓Ev.P, Ev.Q, Bool.cond_true, Bool.cond_false, eq_self, forall_eq_or_imp, implies_true, forall_const, forall_eq, ↓reduceIte, reduceIte, Nat.reduceEqDiff, Nat.reduceAdd, reduceCtorEq, Nat.reduceSub, Int.reduceToNat, Int.reduceLE, Int.reduceLT, Int.reduceNeg, Nat.reduceBEq, Nat.reduceMul, Nat.reduceLeDiff, Nat.reduceMod, UInt8.reduceOfNat, Nat.reduceLT, Int.reduceEq, Int.reduceAdd, Int.reduceSub, Int.reduceMul]))
                        all_goals try omega
                        refine xAgain_intro (X.length - (j + 1)) [0, 1, 2, 3] (by omega) (by simp -dsimp -implicitDefEqProofs only [↓Ev.xStp_eq, ↓Ev.P, Ev.Q, Bool.cond_true, Bool.cond_false, eq_self, forall_eq_or_imp, implies_true, forall_const, forall_eq, ↓reduceIte, reduceIte, Nat.reduceEqDiff, Nat.reduceAdd, reduceCtorEq, Nat.reduceSub, Int.reduceToNat, Int.reduceLE, Int.reduceLT, Int.reduceNeg, Nat.reduceBEq, Nat.reduceMul, Nat.reduceLeDiff, Nat.reduceMod, UInt8.reduceOfNat, Nat.reduceLT, Int.reduceEq, Int.reduceAdd, Int.reduceSub, Int.reduceMul]) ⟨j + 1, by omega, rfl, ?_⟩
                        rw [Nat.min_eq_right (by omega)]
                        simp -dsimp -implicitDefEqProofs only [↓Ev.xStp_eq, ↓Ev.P, Ev.Q, Bool.cond_true, Bool.cond_false, eq_self, forall_eq_or_imp, implies_true, forall_const, forall_eq, ↓reduceIte, reduceIte, Nat.reduceEqDiff, Nat.reduceAdd, reduceCtorEq, Nat.reduceSub, Int.reduceToNat, Int.reduceLE, Int.reduceLT, Int.reduceNeg, Nat.reduceBEq, Nat.reduceMul, Nat.reduceLeDiff, Nat.reduceMod, UInt8.reduceOfNat, Nat.reduceLT, Int.reduceEq, Int.reduceAdd, Int.reduceSub, Int.reduceMul]
                        all_goals rfl
                    · have hj3 : ¬ (j : Int) < (X.length : Int) := by omega
                      rw [Nat.min_eq_right (by omega)]
                      have hfl := fed_len X (X.length - 1)
                      simp only [fedM, if_true, Bool.false_eq_true, if_false] at hk
                      simp -dsimp -implicitDefEqProofs only [S16, R16, S16_0, S16_1, S16_2, S16_3, S16_4, S16_5, S16_6, S16_7, S16_8, S16r1, S16r2, S16r3, S16r4, S16r5, S16r6, S16r7, S16r8, S16r9, hj3, hfl, impF, CRdr, CMore, CBare, CFail, oneR_wp, onK_ok, onK_error, rdO, nilS, rdr, unStr_rows, strRows_len, strRows_all, List.length_append, List.length_set, Ev.St.giveC, ↓Ev.P, Ev.Q, Bool.cond_true, Bool.cond_false, eq_self, forall_eq_or_imp, implies_true, forall_const, forall_eq, ↓reduceIte, reduceIte, Nat.reduceEqDiff, Nat.reduceAdd, reduceCtorEq, Nat.reduceSub, Int.reduceToNat, Int.reduceLE, Int.reduceLT, Int.reduceNeg, Nat.reduceBEq, Nat.reduceMul, Nat.reduceLeDiff, Nat.reduceMod, UInt8.reduceOfNat, Nat.reduceLT, Int.reduceEq, Int.reduceAdd, Int.reduceSub, Int.reduceMul]
                      repeat' (first | with_reducible assumption | refine And.intro ?_ ?_ | intro _ | (rw [Ev.xStp_eq]; simp -dsimp -implicitDefEqProofs only [S16, R16, S16_0, S16_1, S16_2, S16_3, S16_4, S16_5, S16_6, S16_7, S16_8, S16r1, S16r2, S16r3, S16r4, S16r5, S16r6, S16r7, S16r8, S16r9, hj3, hfl, impF, CRdr, CMore, CBare, CFail, oneR_wp, onK_ok, onK_error, rdO, nilS, rdr, unStr_rows, strRows_len, strRows_all, List.length_append, List.length_set, Ev.St.giveC, ↓Ev.P, Ev.Q, Bool.cond_true, Bool.cond_false, eq_self, forall_eq_or_imp, implies_true, forall_const, forall_eq, ↓reduceIte, reduceIte, Nat.reduceEqDiff, Nat.reduceAdd, reduceCtorEq, Nat.reduceSub, Int.reduceToNat, Int.reduceLE, Int.reduceLT, Int.reduceNeg, Nat.reduceBEq, Nat.reduceMul, Nat.reduceLeDiff, Nat.reduceMod, UInt8.reduceOfNat, Nat.reduceLT, Int.reduceEq, Int.reduceAdd, Int.reduceSub, Int.reduceMul]))
                      all_goals try omega
                      all_goals exact hk
                · rw [if_neg hlast] at hgo
                  cases hgo
              · rw [if_neg hmk] at hgo
                have hmk2 : ¬ L.getD k [] = [92, 32, 78, 111, 32, 110, 101, 119, 108, 105, 110, 101, 32, 97, 116, 32, 101, 110, 100, 32, 111, 102, 32, 102, 105, 108, 101, 10] := hmk
                have hgd : (strRows L).getD k [] = [.v (.string ⟨(L.getD k []).toArray⟩)] := by rw [List.getD_eq_getElem?_getD, hg]; rfl
                cases hcm : cmdE L (X, c) k with
                | error y =>
                  obtain ⟨ya, ye⟩ := y
                  rw [hcm] at hgo
                  cases hgo
                | ok y =>
                  obtain ⟨⟨X1, c1⟩, a1⟩ := y
                  rw [hcm] at hgo; dsimp only at hgo
                  obtain ⟨q1, q2, q3, q4⟩ := cmdE_le hcm hok
                  dsimp only at q4
                  have q5 := cmdE_sz hL hcm hX
                  simp -dsimp -implicitDefEqProofs only [S16, R16, S16_0, S16_1, S16_2, S16_3, S16_4, S16_5, S16_6, S16_7, S16_8, S16r1, S16r2, S16r3, S16r4, S16r5, S16r6, S16r7, S16r8, S16r9, hi3, hg, hmk2, hcm, impF, CRdr, CMore, CBare, CFail, oneR_wp, onK_ok, onK_error, rdO, nilS, rdr, unStr_rows, strRows_len, strRows_all, List.length_append, List.length_set, Ev.St.giveC, ↓Ev.P, Ev.Q, Bool.cond_true, Bool.cond_false, eq_self, forall_eq_or_imp, implies_true, forall_const, forall_eq, ↓reduceIte, reduceIte, Nat.reduceEqDiff, Nat.reduceAdd, reduceCtorEq, Nat.reduceSub, Int.reduceToNat, Int.reduceLE, Int.reduceLT, Int.reduceNeg, Nat.reduceBEq, Nat.reduceMul, Nat.reduceLeDiff, Nat.reduceMod, UInt8.reduceOfNat, Nat.reduceLT, Int.reduceEq, Int.reduceAdd, Int.reduceSub, Int.reduceMul]
                  repeat' (first | with_reducible assumption | refine And.intro ?_ ?_ | intro _ | (rw [Ev.xStp_eq]; simp -dsimp -implicitDefEqProofs only [S16, R16, S16_0, S16_1, S16_2, S16_3, S16_4, S16_5, S16_6, S16_7, S16_8, S16r1, S16r2, S16r3, S16r4, S16r5, S16r6, S16r7, S16r8, S16r9, hi3, hg, hmk2, hcm, impF, CRdr, CMore, CBare, CFail, oneR_wp, onK_ok, onK_error, rdO, nilS, rdr, unStr_rows, strRows_len, strRows_all, List.length_append, List.length_set, Ev.St.giveC, ↓Ev.P, Ev.Q, Bool.cond_true, Bool.cond_false, eq_self, forall_eq_or_imp, implies_true, forall_const, forall_eq, ↓reduceIte, reduceIte, Nat.reduceEqDiff, Nat.reduceAdd, reduceCtorEq, Nat.reduceSub, Int.reduceToNat, Int.reduceLE, Int.reduceLT, Int.reduceNeg, Nat.reduceBEq, Nat.reduceMul, Nat.reduceLeDiff, Nat.reduceMod, UInt8.reduceOfNat, Nat.reduceLT, Int.reduceEq, Int.reduceAdd, Int.reduceSub, Int.reduceMul]))
                  all_goals try omega
                  · refine xAgain_intro (L.length - a1 + 2) [0, 1, 4, 3] (by omega) (by simp -dsimp -implicitDefEqProofs only [↓Ev.xStp_eq, ↓Ev.P, Ev.Q, Bool.cond_true, Bool.cond_false, eq_self, forall_eq_or_imp, implies_true, forall_const, forall_eq, ↓reduceIte, reduceIte, Nat.reduceEqDiff, Nat.reduceAdd, reduceCtorEq, Nat.reduceSub, Int.reduceToNat, Int.reduceLE, Int.reduceLT, Int.reduceNeg, Nat.reduceBEq, Nat.reduceMul, Nat.reduceLeDiff, Nat.reduceMod, UInt8.reduceOfNat, Nat.reduceLT, Int.reduceEq, Int.reduceAdd, Int.reduceSub, Int.reduceMul]) ⟨f, a1, (X1, c1), q3, rfl, by omega, q1, by dsimp only; omega, q5, hgo, ?_⟩
                    simp -dsimp -implicitDefEqProofs only [↓Ev.xStp_eq, ↓Ev.P, Ev.Q, Bool.cond_true, Bool.cond_false, eq_self, forall_eq_or_imp, implies_true, forall_const, forall_eq, ↓reduceIte, reduceIte, Nat.reduceEqDiff, Nat.reduceAdd, reduceCtorEq, Nat.reduceSub, Int.reduceToNat, Int.reduceLE, Int.reduceLT, Int.reduceNeg, Nat.reduceBEq, Nat.reduceMul, Nat.reduceLeDiff, Nat.reduceMod, UInt8.reduceOfNat, Nat.reduceLT, Int.reduceEq, Int.reduceAdd, Int.reduceSub, Int.reduceMul]
                    all_goals rfl
                  · refine xAgain_intro (L.length - a1 + 2) [0, 1, 2, 3] (by omega) (by simp -dsimp -implicitDefEqProofs only [↓Ev.xStp_eq, ↓Ev.P, Ev.Q, Bool.cond_true, Bool.cond_false, eq_self, forall_eq_or_imp, implies_true, forall_const, forall_eq, ↓reduceIte, reduceIte, Nat.reduceEqDiff, Nat.reduceAdd, reduceCtorEq, Nat.reduceSub, Int.reduceToNat, Int.reduceLE, Int.reduceLT, Int.reduceNeg, Nat.reduceBEq, Nat.reduceMul, Nat.reduceLeDiff, Nat.reduceMod, UInt8.reduceOfNat, Nat.reduceLT, Int.reduceEq, Int.reduceAdd, Int.reduceSub, Int.reduceMul]) ⟨f, a1, (X1, c1), q3, rfl, by omega, q1, by dsimp only; omega, q5, hgo, ?_⟩
                    simp -dsimp -implicitDefEqProofs only [↓Ev.xStp_eq, ↓Ev.P, Ev.Q, Bool.cond_true, Bool.cond_false, eq_self, forall_eq_or_imp, implies_true, forall_const, forall_eq, ↓reduceIte, reduceIte, Nat.reduceEqDiff, Nat.reduceAdd, reduceCtorEq, Nat.reduceSub, Int.reduceToNat, Int.reduceLE, Int.reduceLT, Int.reduceNeg, Nat.reduceBEq, Nat.reduceMul, Nat.reduceLeDiff, Nat.reduceMod, UInt8.reduceOfNat, Nat.reduceLT, Int.reduceEq, Int.reduceAdd, Int.reduceSub, Int.reduceMul]
                    all_goals rfl
            · have hi3 : ¬ (k : Int) < (L.length : Int) := by omega
              rw [runE_end hlt] at hgo
              simp only [Except.ok.injEq, Prod.mk.injEq] at hgo
              obtain ⟨rfl, rfl⟩ := hgo
              simp -dsimp -implicitDefEqProofs only [S16, R16, S16_0, S16_1, S16_2, S16_3, S16_4, S16_5, S16_6, S16_7, S16_8, S16r1, S16r2, S16r3, S16r4, S16r5, S16r6, S16r7, S16r8, S16r9, hi3, impF, CRdr, CMore, CBare, CFail, oneR_wp, onK_ok, onK_error, rdO, nilS, rdr, unStr_rows, strRows_len, strRows_all, List.length_append, List.length_set, Ev.St.giveC, ↓Ev.P, Ev.Q, Bool.cond_true, Bool.cond_false, eq_self, forall_eq_or_imp, implies_true, forall_const, forall_eq, ↓reduceIte, reduceIte, Nat.reduceEqDiff, Nat.reduceAdd, reduceCtorEq, Nat.reduceSub, Int.reduceToNat, Int.reduceLE, Int.reduceLT, Int.reduceNeg, Nat.reduceBEq, Nat.reduceMul, Nat.reduceLeDiff, Nat.reduceMod, UInt8.reduceOfNat, Nat.reduceLT, Int.reduceEq, Int.reduceAdd, Int.reduceSub, Int.reduceMul]
              repeat' (first | with_reducible assumption | refine And.intro ?_ ?_ | intro _ | (rw [Ev.xStp_eq]; simp -dsimp -implicitDefEqProofs only [S16, R16, S16_0, S16_1, S16_2, S16_3, S16_4, S16_5, S16_6, S16_7, S16_8, S16r1, S16r2, S16r3, S16r4, S16r5, S16r6, S16r7, S16r8, S16r9, hi3, impF, CRdr, CMore, CBare, CFail, oneR_wp, onK_ok, onK_error, rdO, nilS, rdr, unStr_rows, strRows_len, strRows_all, List.length_append, List.length_set, Ev.St.giveC, ↓Ev.P, Ev.Q, Bool.cond_true, Bool.cond_false, eq_self, forall_eq_or_imp, implies_true, forall_const, forall_eq, ↓reduceIte, reduceIte, Nat.reduceEqDiff, Nat.reduceAdd, reduceCtorEq, Nat.reduceSub, Int.reduceToNat, Int.reduceLE, Int.reduceLT, Int.reduceNeg, Nat.reduceBEq, Nat.reduceMul, Nat.reduceLeDiff, Nat.reduceMod, UInt8.reduceOfNat, Nat.reduceLT, Int.reduceEq, Int.reduceAdd, Int.reduceSub, Int.reduceMul]))
              all_goals try omega
              refine xLoop_intro (fun m st => ∃ j : Nat, j ≤ X.length ∧ m = X.length - j ∧ st = ⟨[(5, .ptr 0 0), (7, .ptr 3 0), (11, .d (.v (.bool false))), (12, .d (.v (.int .i64 (j : Nat))))], 4, [(0, .cells 29 [.d (.v (.int .i64 0)), .d (.v (.int .i64 0))]), (1, .cells 77 [.d (.sl (strRows L)), .d (.v (.int .i64 (k : Nat))), .d (.v (.int .i64 0)), .d (.v (.int .i64 0))]), (2, .row 9 1 (strRows (fedT X (min j X.length)))), (3, .cells 90 [.own 2, .d (.v (.int .i64 c))])]⟩) X.length [0, 1, 2, 3] ?_ ?_ ?_
              · simp -dsimp -implicitDefEqProofs only [↓Ev.xStp_eq, ↓Ev.P, Ev.Q, Bool.cond_true, Bool.cond_false, eq_self, forall_eq_or_imp, implies_true, forall_const, forall_eq, ↓reduceIte, reduceIte, Nat.reduceEqDiff, Nat.reduceAdd, reduceCtorEq, Nat.reduceSub, Int.reduceToNat, Int.reduceLE, Int.reduceLT, Int.reduceNeg, Nat.reduceBEq, Nat.reduceMul, Nat.reduceLeDiff, Nat.reduceMod, UInt8.reduceOfNat, Nat.reduceLT, Int.reduceEq, Int.reduceAdd, Int.reduceSub, Int.reduceMul]
              · simp -dsimp -implicitDefEqProofs only [↓Ev.xStp_eq, ↓Ev.P, Ev.Q, Bool.cond_true, Bool.cond_false, eq_self, forall_eq_or_imp, implies_true, forall_const, forall_eq, ↓reduceIte, reduceIte, Nat.reduceEqDiff, Nat.reduceAdd, reduceCtorEq, Nat.reduceSub, Int.reduceToNat, Int.reduceLE, Int.reduceLT, Int.reduceNeg, Nat.reduceBEq, Nat.reduceMul, Nat.reduceLeDiff, Nat.reduceMod, UInt8.reduceOfNat, Nat.reduceLT, Int.reduceEq, Int.reduceAdd, Int.reduceSub, Int.reduceMul]
                refine ⟨0, by omega, by omega, ?_⟩
                rw [Nat.zero_min, fed_zero]
                all_goals rfl
              · rintro m st ⟨j, hj, rfl, rfl⟩
                by_cases hjl : j < X.length
                · have hj3 : (j : Int) < (X.length : Int) := by omega
                  rw [Nat.min_eq_left (by omega)]
                  have hg := strRows_get (l := fedT X j) (i := j) (by rw [fed_len]; exact hjl)
                  rw [fed_get hjl] at hg
                  have hg2 : (strRows (fedT X j)).getD j [] = [.v (.string ⟨(X.getD j []).toArray⟩)] := by rw [List.getD_eq_getElem?_getD, hg]; rfl
                  have hset := fed_rows hjl
                  have hxz := hX _ (getD_in hjl)
                  have hfl := fed_len X j
                  generalize X.getD j [] = w at hg hg2 hset hxz
                  simp -dsimp -implicitDefEqProofs only [S16, R16, S16_0, S16_1, S16_2, S16_3, S16_4, S16_5, S16_6, S16_7, S16_8, S16r1, S16r2, S16r3, S16r4, S16r5, S16r6, S16r7, S16r8, S16r9, hj3, hg, hg2, hset, hfl, impF, CRdr, CMore, CBare, CFail, oneR_wp, onK_ok, onK_error, rdO, nilS, rdr, unStr_rows, strRows_len, strRows_all, List.length_append, List.length_set, Ev.St.giveC, ↓Ev.P, Ev.Q, Bool.cond_true, Bool.cond_false, eq_self, forall_eq_or_imp, implies_true, forall_const, forall_eq, ↓reduceIte, reduceIte, Nat.reduceEqDiff, Nat.reduceAdd, reduceCtorEq, Nat.reduceSub, Int.reduceToNat, Int.reduceLE, Int.reduceLT, Int.reduceNeg, Nat.reduceBEq, Nat.reduceMul, Nat.reduceLeDiff, Nat.reduceMod, UInt8.reduceOfNat, Nat.reduceLT, Int.reduceEq, Int.reduceAdd, Int.reduceSub, Int.reduceMul]
                  repeat' (first | with_reducible assumption | refine And.intro ?_ ?_ | intro _ | (rw [Ev.xStp_eq]; simp -dsimp -implicitDefEqProofs only [S16, R16, S16_0, S16_1, S16_2, S16_3, S16_4, S16_5, S16_6, S16_7, S16_8, S16r1, S16r2, S16r3, S16r4, S16r5, S16r6, S16r7, S16r8, S16r9, hj3, hg, hg2, hset, hfl, impF, CRdr, CMore, CBare, CFail, oneR_wp, onK_ok, onK_error, rdO, nilS, rdr, unStr_rows, strRows_len, strRows_all, List.length_append, List.length_set, Ev.St.giveC, ↓Ev.P, Ev.Q, Bool.cond_true, Bool.cond_false, eq_self, forall_eq_or_imp, implies_true, forall_const, forall_eq, ↓reduceIte, reduceIte, Nat.reduceEqDiff, Nat.reduceAdd, reduceCtorEq, Nat.reduceSub, Int.reduceToNat, Int.reduceLE, Int.reduceLT, Int.reduceNeg, Nat.reduceBEq, Nat.reduceMul, Nat.reduceLeDiff, Nat.reduceMod, UInt8.reduceOfNat, Nat.reduceLT, Int.reduceEq, Int.reduceAdd, Int.reduceSub, Int.reduceMul]))
                  all_goals try omega
                  refine xAgain_intro (X.length - (j + 1)) [0, 1, 2, 3] (by omega) (by simp -dsimp -implicitDefEqProofs only [↓Ev.xStp_eq, ↓Ev.P, Ev.Q, Bool.cond_true, Bool.cond_false, eq_self, forall_eq_or_imp, implies_true, forall_const, forall_eq, ↓reduceIte, reduceIte, Nat.reduceEqDiff, Nat.reduceAdd, reduceCtorEq, Nat.reduceSub, Int.reduceToNat, Int.reduceLE, Int.reduceLT, Int.reduceNeg, Nat.reduceBEq, Nat.reduceMul, Nat.reduceLeDiff, Nat.reduceMod, UInt8.reduceOfNat, Nat.reduceLT, Int.reduceEq, Int.reduceAdd, Int.reduceSub, Int.reduceMul]) ⟨j + 1, by omega, rfl, ?_⟩
                  rw [Nat.min_eq_left (by omega)]
                  simp -dsimp -implicitDefEqProofs only [↓Ev.xStp_eq, ↓Ev.P, Ev.Q, Bool.cond_true, Bool.cond_false, eq_self, forall_eq_or_imp, implies_true, forall_const, forall_eq, ↓reduceIte, reduceIte, Nat.reduceEqDiff, Nat.reduceAdd, reduceCtorEq, Nat.reduceSub, Int.reduceToNat, Int.reduceLE, Int.reduceLT, Int.reduceNeg, Nat.reduceBEq, Nat.reduceMul, Nat.reduceLeDiff, Nat.reduceMod, UInt8.reduceOfNat, Nat.reduceLT, Int.reduceEq, Int.reduceAdd, Int.reduceSub, Int.reduceMul]
                  all_goals rfl
                · have hj3 : ¬ (j : Int) < (X.length : Int) := by omega
                  rw [Nat.min_eq_right (by omega)]
                  have hfl := fed_len X X.length
                  simp only [fedM, if_true, Bool.false_eq_true, if_false] at hk
                  simp -dsimp -implicitDefEqProofs only [S16, R16, S16_0, S16_1, S16_2, S16_3, S16_4, S16_5, S16_6, S16_7, S16_8, S16r1, S16r2, S16r3, S16r4, S16r5, S16r6, S16r7, S16r8, S16r9, hj3, hfl, impF, CRdr, CMore, CBare, CFail, oneR_wp, onK_ok, onK_error, rdO, nilS, rdr, unStr_rows, strRows_len, strRows_all, List.length_append, List.length_set, Ev.St.giveC, ↓Ev.P, Ev.Q, Bool.cond_true, Bool.cond_false, eq_self, forall_eq_or_imp, implies_true, forall_const, forall_eq, ↓reduceIte, reduceIte, Nat.reduceEqDiff, Nat.reduceAdd, reduceCtorEq, Nat.reduceSub, Int.reduceToNat, Int.reduceLE, Int.reduceLT, Int.reduceNeg, Nat.reduceBEq, Nat.reduceMul, Nat.reduceLeDiff, Nat.reduceMod, UInt8.reduceOfNat, Nat.reduceLT, Int.reduceEq, Int.reduceAdd, Int.reduceSub, Int.reduceMul]
                  repeat' (first | with_reducible assumption | refine And.intro ?_ ?_ | intro _ | (rw [Ev.xStp_eq]; simp -dsimp -implicitDefEqProofs only [S16, R16, S16_0, S16_1, S16_2, S16_3, S16_4, S16_5, S16_6, S16_7, S16_8, S16r1, S16r2, S16r3, S16r4, S16r5, S16r6, S16r7, S16r8, S16r9, hj3, hfl, impF, CRdr, CMore, CBare, CFail, oneR_wp, onK_ok, onK_error, rdO, nilS, rdr, unStr_rows, strRows_len, strRows_all, List.length_append, List.length_set, Ev.St.giveC, ↓Ev.P, Ev.Q, Bool.cond_true, Bool.cond_false, eq_self, forall_eq_or_imp, implies_true, forall_const, forall_eq, ↓reduceIte, reduceIte, Nat.reduceEqDiff, Nat.reduceAdd, reduceCtorEq, Nat.reduceSub, Int.reduceToNat, Int.reduceLE, Int.reduceLT, Int.reduceNeg, Nat.reduceBEq, Nat.reduceMul, Nat.reduceLeDiff, Nat.reduceMod, UInt8.reduceOfNat, Nat.reduceLT, Int.reduceEq, Int.reduceAdd, Int.reduceSub, Int.reduceMul]))
                  all_goals try omega
                  all_goals exact hk
end Go.Proofs.YtlghobefhmpfkaaGreatDoor
set_option linter.unusedVariables false
set_option linter.unusedSimpArgs false
namespace Go.Proofs.YtlghobefhmpfkaaGreatDoor
open Go Go.Ev Go.Rcs
set_option maxRecDepth 100000
variable {G : World → Prop}
theorem edN_len {s : List UInt8} {a T : List (List UInt8)} (h : edN s a = .ok T) (hs : s.length ≤ 1048576) : T.length ≤ a.length + 1048576 := by
  rw [edN, if_neg (by omega)] at h
  cases hY : runE (lns s) ((lns s).length + 1) (bareT a, -1) 0 with
  | error e => rw [hY] at h; cases h
  | ok x =>
    obtain ⟨X, c⟩ := x
    rw [hY] at h
    simp only [map_ok, fedE, Except.ok.injEq] at h
    have h1 := runE_le hY (.inl rfl) (Nat.zero_le _)
    have h2 := (lns_szE s hs).1
    simp only [bareT_len] at h1
    rw [← h, fed_len]
    omega
def CLawE : Contract := pureC fun args => match args with
  | [.d (.v (.string s)), .d (.sl rows)] => (unStr rows).map fun a => ((s.size ≤ 1099511627776 ∧ a.length ≤ 1048576 ∧ ∀ x ∈ a, x.length ≤ 1099511627776), .d (.v (.bool true)))
  | _ => none
set_option maxHeartbeats 8000000 in
theorem s4 (hG : ∀ w, G w → ErrR w) (hT : ∀ w, G w → ErrT w) : Sound G Tryz.prog 4 CLawE := by
  refine sd4 (T := tabT [(15, CRunP), (16, CRunE), (13, CSeen), (14, CSame)]) (tab_cons (s15 hG) (tab_cons s16 (tab_cons (sSeen hT) (tab_cons s14 tab_nil)))) (pureC_lawful _) (pure_hX fun args p x K h hp hk => ?_)
  split at h <;> simp only [Option.map_eq_some_iff, Prod.mk.injEq, reduceCtorEq] at h
  obtain ⟨a, hl, rfl, rfl⟩ := h
  rename_i s rows
  rw [unStr_eq hl] at *
  obtain ⟨s, rfl⟩ := ex_str s
  simp only [sem_str] at hp
  obtain ⟨h1, ha, hA⟩ := hp
  refine ⟨Nat.le_of_ble_eq_true rfl, ?_⟩
  have ha2 : a.length ≤ 1073741824 := by omega
  by_cases hg : 200000 < s.length ∧ s.length ≤ 1048576
  · obtain ⟨g1, g2⟩ := hg
    have k1 : (200000 : Int) < (s.length : Int) := by omega
    have k2 : (s.length : Int) ≤ (1048576 : Int) := by omega
    simp -dsimp -implicitDefEqProofs only [S4, R4, k1, k2, ↓Ev.xStp_eq, ↓Ev.P, Ev.Q, Bool.cond_true, Bool.cond_false, eq_self, forall_eq_or_imp, implies_true, forall_const, forall_eq, ↓reduceIte, reduceIte, Nat.reduceEqDiff, Nat.reduceAdd, reduceCtorEq, Nat.reduceSub, Int.reduceToNat, Int.reduceLE, Int.reduceLT, Int.reduceNeg, Nat.reduceBEq, Nat.reduceMul, Nat.reduceLeDiff, Nat.reduceMod, UInt8.reduceOfNat, Nat.reduceLT, Int.reduceEq, Int.reduceAdd, Int.reduceSub, Int.reduceMul]
    exact hk
  · have guard : ((200000 : Int) < (s.length : Int)) = False ∨ (((200000 : Int) < (s.length : Int)) = True ∧ ((s.length : Int) ≤ 1048576) = False) := by
      by_cases h : 200000 < s.length
      · exact .inr ⟨eq_true (by omega), eq_false (by omega)⟩
      · exact .inl (eq_false (by omega))
    cases hY : edN s a with
    | ok Y =>
      have hYl : Y.length ≤ 1099511627776 := by
        by_cases hs : s.length ≤ 1048576
        · have := edN_len hY hs
          omega
        · rw [edN, if_pos (by omega)] at hY; cases hY
      have hR : runE2 (edN s a) = (.tup [.own 0, .d (.v .nilIface)], ⟨1, [(0, .row 9 1 (strRows Y))]⟩) := by rw [hY]; rfl
      have hR2 : refE (edN s a) = (.tup [.own 0, .agg [.d (.v (.int .i64 0)), .d (.v (.int .i64 0))]], ⟨1, [(0, .row 9 1 (strRows Y))]⟩) := by rw [hY]; rfl
      rcases guard with k1 | ⟨k1, k2⟩
      all_goals
          simp -dsimp -implicitDefEqProofs only [S4, R4, k1, CRunP, CRunE, CSeen, CSame, hR, hR2, unStr_rows, strRows_len, strRows_all, Ev.St.giveC, ↓Ev.P, Ev.Q, Bool.cond_true, Bool.cond_false, eq_self, forall_eq_or_imp, implies_true, forall_const, forall_eq, ↓reduceIte, reduceIte, Nat.reduceEqDiff, Nat.reduceAdd, reduceCtorEq, Nat.reduceSub, Int.reduceToNat, Int.reduceLE, Int.reduceLT, Int.reduceNeg, Nat.reduceBEq, Nat.reduceMul, Nat.reduceLeDiff, Nat.reduceMod, UInt8.reduceOfNat, Nat.reduceLT, Int.reduceEq, Int.reduceAdd, Int.reduceSub, Int.reduceMul]
          repeat' (first | with_reducible assumption | refine And.intro ?_ ?_ | intro _ | (rw [Ev.xStp_eq]; simp -dsimp -implicitDefEqProofs only [k1, CRunP, CRunE, CSeen, CSame, hR, hR2, unStr_rows, strRows_len, strRows_all, Ev.St.giveC, ↓Ev.P, Ev.Q, Bool.cond_true, Bool.cond_false, eq_self, forall_eq_or_imp, implies_true, forall_const, forall_eq, ↓reduceIte, reduceIte, Nat.reduceEqDiff, Nat.reduceAdd, reduceCtorEq, Nat.reduceSub, Int.reduceToNat, Int.reduceLE, Int.reduceLT, Int.reduceNeg, Nat.reduceBEq, Nat.reduceMul, Nat.reduceLeDiff, Nat.reduceMod, UInt8.reduceOfNat, Nat.reduceLT, Int.reduceEq, Int.reduceAdd, Int.reduceSub, Int.reduceMul]))
          all_goals try omega
          refine xLoop_intro (fun k st => ∃ (i : Nat) (rows : List (List D)), i ≤ Y.length ∧ k = Y.length - i ∧ rows.length = Y.length ∧
            st = ⟨[(1, .d (.sl (strRows a))), (5, .own 0), (6, .own 1), (10, .d (.v (.int .i64 i)))], 2, [(0, .fro (strRows a)), (1, .row 9 1 rows)]⟩) Y.length [1, 2] ?_ ?_ ?_
          · simp -dsimp -implicitDefEqProofs only [↓Ev.xStp_eq, ↓Ev.P, Ev.Q, Bool.cond_true, Bool.cond_false, eq_self, forall_eq_or_imp, implies_true, forall_const, forall_eq, ↓reduceIte, reduceIte, Nat.reduceEqDiff, Nat.reduceAdd, reduceCtorEq, Nat.reduceSub, Int.reduceToNat, Int.reduceLE, Int.reduceLT, Int.reduceNeg, Nat.reduceBEq, Nat.reduceMul, Nat.reduceLeDiff, Nat.reduceMod, UInt8.reduceOfNat, Nat.reduceLT, Int.reduceEq, Int.reduceAdd, Int.reduceSub, Int.reduceMul]
          · simp -dsimp -implicitDefEqProofs only [↓Ev.xStp_eq, ↓Ev.P, Ev.Q, Bool.cond_true, Bool.cond_false, eq_self, forall_eq_or_imp, implies_true, forall_const, forall_eq, ↓reduceIte, reduceIte, Nat.reduceEqDiff, Nat.reduceAdd, reduceCtorEq, Nat.reduceSub, Int.reduceToNat, Int.reduceLE, Int.reduceLT, Int.reduceNeg, Nat.reduceBEq, Nat.reduceMul, Nat.reduceLeDiff, Nat.reduceMod, UInt8.reduceOfNat, Nat.reduceLT, Int.reduceEq, Int.reduceAdd, Int.reduceSub, Int.reduceMul]
            exact ⟨0, strRows Y, by omega, by omega, strRows_len _, rfl⟩
          · rintro k st ⟨i, rows, hi, rfl, hr, rfl⟩
            by_cases hil : i < Y.length
            · have hi3 : (i : Int) < (Y.length : Int) := by omega
              simp -dsimp -implicitDefEqProofs only [hr, hi3, ↓Ev.xStp_eq, ↓Ev.P, Ev.Q, Bool.cond_true, Bool.cond_false, eq_self, forall_eq_or_imp, implies_true, forall_const, forall_eq, ↓reduceIte, reduceIte, Nat.reduceEqDiff, Nat.reduceAdd, reduceCtorEq, Nat.reduceSub, Int.reduceToNat, Int.reduceLE, Int.reduceLT, Int.reduceNeg, Nat.reduceBEq, Nat.reduceMul, Nat.reduceLeDiff, Nat.reduceMod, UInt8.reduceOfNat, Nat.reduceLT, Int.reduceEq, Int.reduceAdd, Int.reduceSub, Int.reduceMul]
              repeat' (first | with_reducible assumption | refine And.intro ?_ ?_ | intro _)
              all_goals try omega
              refine xAgain_intro (Y.length - (i + 1)) [0, 1] (by omega) (by simp -dsimp -implicitDefEqProofs only [↓Ev.xStp_eq, ↓Ev.P, Ev.Q, Bool.cond_true, Bool.cond_false, eq_self, forall_eq_or_imp, implies_true, forall_const, forall_eq, ↓reduceIte, reduceIte, Nat.reduceEqDiff, Nat.reduceAdd, reduceCtorEq, Nat.reduceSub, Int.reduceToNat, Int.reduceLE, Int.reduceLT, Int.reduceNeg, Nat.reduceBEq, Nat.reduceMul, Nat.reduceLeDiff, Nat.reduceMod, UInt8.reduceOfNat, Nat.reduceLT, Int.reduceEq, Int.reduceAdd, Int.reduceSub, Int.reduceMul]) ⟨i + 1, rows.set i (spliceD (rows.getD i []) 0 [.v (.string ⟨#[115, 112, 111, 105, 108, 116]⟩)]), by omega, rfl, by rw [List.length_set]; exact hr, ?_⟩
              simp -dsimp -implicitDefEqProofs only [↓Ev.xStp_eq, ↓Ev.P, Ev.Q, Bool.cond_true, Bool.cond_false, eq_self, forall_eq_or_imp, implies_true, forall_const, forall_eq, ↓reduceIte, reduceIte, Nat.reduceEqDiff, Nat.reduceAdd, reduceCtorEq, Nat.reduceSub, Int.reduceToNat, Int.reduceLE, Int.reduceLT, Int.reduceNeg, Nat.reduceBEq, Nat.reduceMul, Nat.reduceLeDiff, Nat.reduceMod, UInt8.reduceOfNat, Nat.reduceLT, Int.reduceEq, Int.reduceAdd, Int.reduceSub, Int.reduceMul]
              all_goals rfl
            · have hi3 : ¬ (i : Int) < (Y.length : Int) := by omega
              simp -dsimp -implicitDefEqProofs only [hr, hi3, CSame, unStr_rows, strRows_len, ↓Ev.xStp_eq, ↓Ev.P, Ev.Q, Bool.cond_true, Bool.cond_false, eq_self, forall_eq_or_imp, implies_true, forall_const, forall_eq, ↓reduceIte, reduceIte, Nat.reduceEqDiff, Nat.reduceAdd, reduceCtorEq, Nat.reduceSub, Int.reduceToNat, Int.reduceLE, Int.reduceLT, Int.reduceNeg, Nat.reduceBEq, Nat.reduceMul, Nat.reduceLeDiff, Nat.reduceMod, UInt8.reduceOfNat, Nat.reduceLT, Int.reduceEq, Int.reduceAdd, Int.reduceSub, Int.reduceMul]
              repeat' (first | with_reducible assumption | refine And.intro ?_ ?_ | intro _)
              all_goals first | omega | exact hk
    | error y =>
      obtain ⟨ya, ye⟩ := y
      have hR : runE2 (edN s a) = (.tup [.d (.sl []), .d (fltV ya ye)], ⟨0, []⟩) := by rw [hY]; rfl
      have hR2 : refE (edN s a) = (.tup [.d (.sl []), .agg [.d (.v (.int .i64 ya)), .d (.v (.int .i64 ye))]], ⟨0, []⟩) := by rw [hY]; rfl
      rcases guard with k1 | ⟨k1, k2⟩
      all_goals
          simp -dsimp -implicitDefEqProofs only [S4, R4, k1, CRunP, CRunE, CSeen, CSame, hR, hR2, fltV, unStr, unStr_rows, strRows_len, strRows_all, Ev.St.giveC, ↓Ev.P, Ev.Q, Bool.cond_true, Bool.cond_false, eq_self, forall_eq_or_imp, implies_true, forall_const, forall_eq, ↓reduceIte, reduceIte, Nat.reduceEqDiff, Nat.reduceAdd, reduceCtorEq, Nat.reduceSub, Int.reduceToNat, Int.reduceLE, Int.reduceLT, Int.reduceNeg, Nat.reduceBEq, Nat.reduceMul, Nat.reduceLeDiff, Nat.reduceMod, UInt8.reduceOfNat, Nat.reduceLT, Int.reduceEq, Int.reduceAdd, Int.reduceSub, Int.reduceMul]
          repeat' (first | with_reducible assumption | refine And.intro ?_ ?_ | intro _ | (rw [Ev.xStp_eq]; simp -dsimp -implicitDefEqProofs only [k1, CRunP, CRunE, CSeen, CSame, hR, hR2, fltV, unStr, unStr_rows, strRows_len, strRows_all, Ev.St.giveC, ↓Ev.P, Ev.Q, Bool.cond_true, Bool.cond_false, eq_self, forall_eq_or_imp, implies_true, forall_const, forall_eq, ↓reduceIte, reduceIte, Nat.reduceEqDiff, Nat.reduceAdd, reduceCtorEq, Nat.reduceSub, Int.reduceToNat, Int.reduceLE, Int.reduceLT, Int.reduceNeg, Nat.reduceBEq, Nat.reduceMul, Nat.reduceLeDiff, Nat.reduceMod, UInt8.reduceOfNat, Nat.reduceLT, Int.reduceEq, Int.reduceAdd, Int.reduceSub, Int.reduceMul]))
          all_goals try omega
          refine xLoop_intro (fun k st => k = 0 ∧
            st = ⟨[(1, .d (.sl (strRows a))), (5, .own 0), (6, .d (.sl [])), (10, .d (.v (.int .i64 0)))], 1, [(0, .fro (strRows a))]⟩) 0 [1] ?_ ?_ ?_
          · simp -dsimp -implicitDefEqProofs only [↓Ev.xStp_eq, ↓Ev.P, Ev.Q, Bool.cond_true, Bool.cond_false, eq_self, forall_eq_or_imp, implies_true, forall_const, forall_eq, ↓reduceIte, reduceIte, Nat.reduceEqDiff, Nat.reduceAdd, reduceCtorEq, Nat.reduceSub, Int.reduceToNat, Int.reduceLE, Int.reduceLT, Int.reduceNeg, Nat.reduceBEq, Nat.reduceMul, Nat.reduceLeDiff, Nat.reduceMod, UInt8.reduceOfNat, Nat.reduceLT, Int.reduceEq, Int.reduceAdd, Int.reduceSub, Int.reduceMul]
          · simp -dsimp -implicitDefEqProofs only [↓Ev.xStp_eq, ↓Ev.P, Ev.Q, Bool.cond_true, Bool.cond_false, eq_self, forall_eq_or_imp, implies_true, forall_const, forall_eq, ↓reduceIte, reduceIte, Nat.reduceEqDiff, Nat.reduceAdd, reduceCtorEq, Nat.reduceSub, Int.reduceToNat, Int.reduceLE, Int.reduceLT, Int.reduceNeg, Nat.reduceBEq, Nat.reduceMul, Nat.reduceLeDiff, Nat.reduceMod, UInt8.reduceOfNat, Nat.reduceLT, Int.reduceEq, Int.reduceAdd, Int.reduceSub, Int.reduceMul]
          · rintro k st ⟨rfl, rfl⟩
            simp -dsimp -implicitDefEqProofs only [CSame, unStr_rows, strRows_len, ↓Ev.xStp_eq, ↓Ev.P, Ev.Q, Bool.cond_true, Bool.cond_false, eq_self, forall_eq_or_imp, implies_true, forall_const, forall_eq, ↓reduceIte, reduceIte, Nat.reduceEqDiff, Nat.reduceAdd, reduceCtorEq, Nat.reduceSub, Int.reduceToNat, Int.reduceLE, Int.reduceLT, Int.reduceNeg, Nat.reduceBEq, Nat.reduceMul, Nat.reduceLeDiff, Nat.reduceMod, UInt8.reduceOfNat, Nat.reduceLT, Int.reduceEq, Int.reduceAdd, Int.reduceSub, Int.reduceMul]
            repeat' (first | with_reducible assumption | refine And.intro ?_ ?_ | intro _)
            all_goals first | omega | exact hk
def CLawRaw : Contract := pureC fun args => match args with
  | [.d (.v (.string s)), .d (.sl rows)] => (unStr rows).map fun a => ((s.size ≤ 1099511627776 ∧ a.length ≤ 1048576 ∧ ∀ x ∈ a, x.length ≤ 1099511627775), .d (.v (.bool true)))
  | _ => none
set_option maxHeartbeats 32000000 in
theorem s5 (hP : ∀ w, G w → Pow10 w) (hE : ∀ w, G w → ErrR w) (hT : ∀ w, G w → ErrT w) : Sound G Tryz.prog 5 CLawRaw := by
  refine sd5 (T := tabT [(17, CWork13), (18, CBare), (15, CRunP), (13, CSeen), (14, CSame)]) (tab_cons (s17 hP hE) (tab_cons s18 (tab_cons (s15 hE) (tab_cons (sSeen hT) (tab_cons s14 tab_nil))))) (pureC_lawful _) (pure_hX fun args p x K h hp hk => ?_)
  split at h <;> simp only [Option.map_eq_some_iff, Prod.mk.injEq, reduceCtorEq] at h
  obtain ⟨a, hl, rfl, rfl⟩ := h
  rename_i s rows
  rw [unStr_eq hl] at *
  obtain ⟨s, rfl⟩ := ex_str s
  simp only [sem_str] at hp
  obtain ⟨h1, ha, hA⟩ := hp
  refine ⟨Nat.le_of_ble_eq_true rfl, ?_⟩
  by_cases hg : 100000 < s.length
  · have k1 : (100000 : Int) < (s.length : Int) := by omega
    simp -dsimp -implicitDefEqProofs only [S5, R5, S5_0, S5_1, S5_2, S5_3, S5_4, S5_5, S5_6, S5_7, S5_8, S5r1, S5r2, S5r3, S5r4, S5r5, S5r6, S5r7, S5r8, S5r9, k1, List.length_map, impF, CWork13, CBare, CRunP, CSeen, CSame, unStr, unStr_rows, strRows_len, strRows_all, List.length_append, Ev.St.giveC, ↓Ev.P, Ev.Q, Bool.cond_true, Bool.cond_false, eq_self, forall_eq_or_imp, implies_true, forall_const, forall_eq, ↓reduceIte, reduceIte, Nat.reduceEqDiff, Nat.reduceAdd, reduceCtorEq, Nat.reduceSub, Int.reduceToNat, Int.reduceLE, Int.reduceLT, Int.reduceNeg, Nat.reduceBEq, Nat.reduceMul, Nat.reduceLeDiff, Nat.reduceMod, UInt8.reduceOfNat, Nat.reduceLT, Int.reduceEq, Int.reduceAdd, Int.reduceSub, Int.reduceMul]
    repeat' (first | with_reducible assumption | refine And.intro ?_ ?_ | intro _ | (rw [Ev.xStp_eq]; simp -dsimp -implicitDefEqProofs only [S5, R5, S5_0, S5_1, S5_2, S5_3, S5_4, S5_5, S5_6, S5_7, S5_8, S5r1, S5r2, S5r3, S5r4, S5r5, S5r6, S5r7, S5r8, S5r9, k1, List.length_map, impF, CWork13, CBare, CRunP, CSeen, CSame, unStr, unStr_rows, strRows_len, strRows_all, List.length_append, Ev.St.giveC, ↓Ev.P, Ev.Q, Bool.cond_true, Bool.cond_false, eq_self, forall_eq_or_imp, implies_true, forall_const, forall_eq, ↓reduceIte, reduceIte, Nat.reduceEqDiff, Nat.reduceAdd, reduceCtorEq, Nat.reduceSub, Int.reduceToNat, Int.reduceLE, Int.reduceLT, Int.reduceNeg, Nat.reduceBEq, Nat.reduceMul, Nat.reduceLeDiff, Nat.reduceMod, UInt8.reduceOfNat, Nat.reduceLT, Int.reduceEq, Int.reduceAdd, Int.reduceSub, Int.reduceMul]))
    all_goals try omega
    all_goals exact hk
  · have k1 : ¬ (100000 : Int) < (s.length : Int) := by omega
    simp -dsimp -implicitDefEqProofs only [S5, R5, S5_0, S5_1, S5_2, S5_3, S5_4, S5_5, S5_6, S5_7, S5_8, S5r1, S5r2, S5r3, S5r4, S5r5, S5r6, S5r7, S5r8, S5r9, k1, List.length_map, impF, CWork13, CBare, CRunP, CSeen, CSame, unStr, unStr_rows, strRows_len, strRows_all, List.length_append, Ev.St.giveC, ↓Ev.P, Ev.Q, Bool.cond_true, Bool.cond_false, eq_self, forall_eq_or_imp, implies_true, forall_const, forall_eq, ↓reduceIte, reduceIte, Nat.reduceEqDiff, Nat.reduceAdd, reduceCtorEq, Nat.reduceSub, Int.reduceToNat, Int.reduceLE, Int.reduceLT, Int.reduceNeg, Nat.reduceBEq, Nat.reduceMul, Nat.reduceLeDiff, Nat.reduceMod, UInt8.reduceOfNat, Nat.reduceLT, Int.reduceEq, Int.reduceAdd, Int.reduceSub, Int.reduceMul]
    repeat' (first | with_reducible assumption | refine And.intro ?_ ?_ | intro _ | (rw [Ev.xStp_eq]; simp -dsimp -implicitDefEqProofs only [S5, R5, S5_0, S5_1, S5_2, S5_3, S5_4, S5_5, S5_6, S5_7, S5_8, S5r1, S5r2, S5r3, S5r4, S5r5, S5r6, S5r7, S5r8, S5r9, k1, List.length_map, impF, CWork13, CBare, CRunP, CSeen, CSame, unStr, unStr_rows, strRows_len, strRows_all, List.length_append, Ev.St.giveC, ↓Ev.P, Ev.Q, Bool.cond_true, Bool.cond_false, eq_self, forall_eq_or_imp, implies_true, forall_const, forall_eq, ↓reduceIte, reduceIte, Nat.reduceEqDiff, Nat.reduceAdd, reduceCtorEq, Nat.reduceSub, Int.reduceToNat, Int.reduceLE, Int.reduceLT, Int.reduceNeg, Nat.reduceBEq, Nat.reduceMul, Nat.reduceLeDiff, Nat.reduceMod, UInt8.reduceOfNat, Nat.reduceLT, Int.reduceEq, Int.reduceAdd, Int.reduceSub, Int.reduceMul]))
    all_goals try omega
    refine xLoop_intro (fun n st => ∃ i : Nat, i ≤ a.length ∧ n = a.length - i ∧ noFeed ((bareT a).take i) ∧ st = ⟨[(0, .d (.v (.string ⟨s.toArray⟩))), (1, .d (.sl (strRows a))), (5, .own 0), (6, .own 1), (7, .d (.v (.int .i64 (i : Nat))))], 2, [(0, .row 9 1 (strRows ((bareT a).take i))), (1, .row 9 1 (strRows (((bareT a).take i).map (· ++ [10]))))]⟩) a.length [0, 1] ?_ ?_ ?_
    · simp -dsimp -implicitDefEqProofs only [↓Ev.xStp_eq, ↓Ev.P, Ev.Q, Bool.cond_true, Bool.cond_false, eq_self, forall_eq_or_imp, implies_true, forall_const, forall_eq, ↓reduceIte, reduceIte, Nat.reduceEqDiff, Nat.reduceAdd, reduceCtorEq, Nat.reduceSub, Int.reduceToNat, Int.reduceLE, Int.reduceLT, Int.reduceNeg, Nat.reduceBEq, Nat.reduceMul, Nat.reduceLeDiff, Nat.reduceMod, UInt8.reduceOfNat, Nat.reduceLT, Int.reduceEq, Int.reduceAdd, Int.reduceSub, Int.reduceMul]
    · simp -dsimp -implicitDefEqProofs only [↓Ev.xStp_eq, ↓Ev.P, Ev.Q, Bool.cond_true, Bool.cond_false, eq_self, forall_eq_or_imp, implies_true, forall_const, forall_eq, ↓reduceIte, reduceIte, Nat.reduceEqDiff, Nat.reduceAdd, reduceCtorEq, Nat.reduceSub, Int.reduceToNat, Int.reduceLE, Int.reduceLT, Int.reduceNeg, Nat.reduceBEq, Nat.reduceMul, Nat.reduceLeDiff, Nat.reduceMod, UInt8.reduceOfNat, Nat.reduceLT, Int.reduceEq, Int.reduceAdd, Int.reduceSub, Int.reduceMul]
      exact ⟨0, by omega, by omega, (fun s hs => by simp at hs), rfl⟩
    · rintro n st ⟨i, hi, rfl, hno, rfl⟩
      by_cases hil : i < a.length
      · have hi3 : (i : Int) < (a.length : Int) := by omega
        have hg := strRows_get hil
        have hsz := hA _ (getD_in hil)
        have hlen : ((bareT a).take i).length = i := by rw [List.length_take, bareT_len]; omega
        have hsn := bareT_snoc hil
        have hbl := bare_len (a.getD i [])
        generalize hw : (bareS (a.getD i [])).1 = w at hsn hbl
        generalize a.getD i [] = z at hg hsz hw hbl
        by_cases hw0 : w = []
        · subst hw0
          simp -dsimp -implicitDefEqProofs only [S5, R5, S5_0, S5_1, S5_2, S5_3, S5_4, S5_5, S5_6, S5_7, S5_8, S5r1, S5r2, S5r3, S5r4, S5r5, S5r6, S5r7, S5r8, S5r9, hi3, hg, hw, hlen, List.length_map, impF, CWork13, CBare, CRunP, CSeen, CSame, unStr, unStr_rows, strRows_len, strRows_all, List.length_append, Ev.St.giveC, ↓Ev.P, Ev.Q, Bool.cond_true, Bool.cond_false, eq_self, forall_eq_or_imp, implies_true, forall_const, forall_eq, ↓reduceIte, reduceIte, Nat.reduceEqDiff, Nat.reduceAdd, reduceCtorEq, Nat.reduceSub, Int.reduceToNat, Int.reduceLE, Int.reduceLT, Int.reduceNeg, Nat.reduceBEq, Nat.reduceMul, Nat.reduceLeDiff, Nat.reduceMod, UInt8.reduceOfNat, Nat.reduceLT, Int.reduceEq, Int.reduceAdd, Int.reduceSub, Int.reduceMul]
          repeat' (first | with_reducible assumption | refine And.intro ?_ ?_ | intro _ | (rw [Ev.xStp_eq]; simp -dsimp -implicitDefEqProofs only [S5, R5, S5_0, S5_1, S5_2, S5_3, S5_4, S5_5, S5_6, S5_7, S5_8, S5r1, S5r2, S5r3, S5r4, S5r5, S5r6, S5r7, S5r8, S5r9, hi3, hg, hw, hlen, List.length_map, impF, CWork13, CBare, CRunP, CSeen, CSame, unStr, unStr_rows, strRows_len, strRows_all, List.length_append, Ev.St.giveC, ↓Ev.P, Ev.Q, Bool.cond_true, Bool.cond_false, eq_self, forall_eq_or_imp, implies_true, forall_const, forall_eq, ↓reduceIte, reduceIte, Nat.reduceEqDiff, Nat.reduceAdd, reduceCtorEq, Nat.reduceSub, Int.reduceToNat, Int.reduceLE, Int.reduceLT, Int.reduceNeg, Nat.reduceBEq, Nat.reduceMul, Nat.reduceLeDiff, Nat.reduceMod, UInt8.reduceOfNat, Nat.reduceLT, Int.reduceEq, Int.reduceAdd, Int.reduceSub, Int.reduceMul]))
          all_goals try omega
          refine xAgain_intro (a.length - (i + 1)) [3, 5] (by omega) (by simp -dsimp -implicitDefEqProofs only [↓Ev.xStp_eq, ↓Ev.P, Ev.Q, Bool.cond_true, Bool.cond_false, eq_self, forall_eq_or_imp, implies_true, forall_const, forall_eq, ↓reduceIte, reduceIte, Nat.reduceEqDiff, Nat.reduceAdd, reduceCtorEq, Nat.reduceSub, Int.reduceToNat, Int.reduceLE, Int.reduceLT, Int.reduceNeg, Nat.reduceBEq, Nat.reduceMul, Nat.reduceLeDiff, Nat.reduceMod, UInt8.reduceOfNat, Nat.reduceLT, Int.reduceEq, Int.reduceAdd, Int.reduceSub, Int.reduceMul]) ⟨i + 1, by omega, rfl, by rw [hsn]; exact noFeed_snoc hno (by simp), ?_⟩
          rw [hsn, List.map_append, strRows_snoc, List.map_singleton, strRows_snoc]
          simp -dsimp -implicitDefEqProofs only [↓Ev.xStp_eq, ↓Ev.P, Ev.Q, Bool.cond_true, Bool.cond_false, eq_self, forall_eq_or_imp, implies_true, forall_const, forall_eq, ↓reduceIte, reduceIte, Nat.reduceEqDiff, Nat.reduceAdd, reduceCtorEq, Nat.reduceSub, Int.reduceToNat, Int.reduceLE, Int.reduceLT, Int.reduceNeg, Nat.reduceBEq, Nat.reduceMul, Nat.reduceLeDiff, Nat.reduceMod, UInt8.reduceOfNat, Nat.reduceLT, Int.reduceEq, Int.reduceAdd, Int.reduceSub, Int.reduceMul]
          all_goals rfl
        · have hwp : 0 < w.length := List.length_pos_iff.2 hw0
          have e2 : ((w.length : Int) - 1).toNat = w.length - 1 := by omega
          have hlg := last_getE hw0
          have v1 : (((w.getD (w.length - 1) 0).toNat : Int) = 10) = (w.getD (w.length - 1) 0 = 10) := u8_k _ 10 (by decide)
          by_cases hq : w.getD (w.length - 1) 0 = 10
          · have v2 := v1.trans (eq_true hq)
            simp -dsimp -implicitDefEqProofs only [S5, R5, S5_0, S5_1, S5_2, S5_3, S5_4, S5_5, S5_6, S5_7, S5_8, S5r1, S5r2, S5r3, S5r4, S5r5, S5r6, S5r7, S5r8, S5r9, hi3, hg, hw, hw0, e2, v2, hlen, List.length_map, impF, CWork13, CBare, CRunP, CSeen, CSame, unStr, unStr_rows, strRows_len, strRows_all, List.length_append, Ev.St.giveC, ↓Ev.P, Ev.Q, Bool.cond_true, Bool.cond_false, eq_self, forall_eq_or_imp, implies_true, forall_const, forall_eq, ↓reduceIte, reduceIte, Nat.reduceEqDiff, Nat.reduceAdd, reduceCtorEq, Nat.reduceSub, Int.reduceToNat, Int.reduceLE, Int.reduceLT, Int.reduceNeg, Nat.reduceBEq, Nat.reduceMul, Nat.reduceLeDiff, Nat.reduceMod, UInt8.reduceOfNat, Nat.reduceLT, Int.reduceEq, Int.reduceAdd, Int.reduceSub, Int.reduceMul]
            repeat' (first | with_reducible assumption | refine And.intro ?_ ?_ | intro _ | (rw [Ev.xStp_eq]; simp -dsimp -implicitDefEqProofs only [S5, R5, S5_0, S5_1, S5_2, S5_3, S5_4, S5_5, S5_6, S5_7, S5_8, S5r1, S5r2, S5r3, S5r4, S5r5, S5r6, S5r7, S5r8, S5r9, hi3, hg, hw, hw0, e2, v2, hlen, List.length_map, impF, CWork13, CBare, CRunP, CSeen, CSame, unStr, unStr_rows, strRows_len, strRows_all, List.length_append, Ev.St.giveC, ↓Ev.P, Ev.Q, Bool.cond_true, Bool.cond_false, eq_self, forall_eq_or_imp, implies_true, forall_const, forall_eq, ↓reduceIte, reduceIte, Nat.reduceEqDiff, Nat.reduceAdd, reduceCtorEq, Nat.reduceSub, Int.reduceToNat, Int.reduceLE, Int.reduceLT, Int.reduceNeg, Nat.reduceBEq, Nat.reduceMul, Nat.reduceLeDiff, Nat.reduceMod, UInt8.reduceOfNat, Nat.reduceLT, Int.reduceEq, Int.reduceAdd, Int.reduceSub, Int.reduceMul]))
            all_goals try omega
            all_goals exact hk
          · have v2 := v1.trans (eq_false hq)
            simp -dsimp -implicitDefEqProofs only [S5, R5, S5_0, S5_1, S5_2, S5_3, S5_4, S5_5, S5_6, S5_7, S5_8, S5r1, S5r2, S5r3, S5r4, S5r5, S5r6, S5r7, S5r8, S5r9, hi3, hg, hw, hw0, e2, v2, hlen, List.length_map, impF, CWork13, CBare, CRunP, CSeen, CSame, unStr, unStr_rows, strRows_len, strRows_all, List.length_append, Ev.St.giveC, ↓Ev.P, Ev.Q, Bool.cond_true, Bool.cond_false, eq_self, forall_eq_or_imp, implies_true, forall_const, forall_eq, ↓reduceIte, reduceIte, Nat.reduceEqDiff, Nat.reduceAdd, reduceCtorEq, Nat.reduceSub, Int.reduceToNat, Int.reduceLE, Int.reduceLT, Int.reduceNeg, Nat.reduceBEq, Nat.reduceMul, Nat.reduceLeDiff, Nat.reduceMod, UInt8.reduceOfNat, Nat.reduceLT, Int.reduceEq, Int.reduceAdd, Int.reduceSub, Int.reduceMul]
            repeat' (first | with_reducible assumption | refine And.intro ?_ ?_ | intro _ | (rw [Ev.xStp_eq]; simp -dsimp -implicitDefEqProofs only [S5, R5, S5_0, S5_1, S5_2, S5_3, S5_4, S5_5, S5_6, S5_7, S5_8, S5r1, S5r2, S5r3, S5r4, S5r5, S5r6, S5r7, S5r8, S5r9, hi3, hg, hw, hw0, e2, v2, hlen, List.length_map, impF, CWork13, CBare, CRunP, CSeen, CSame, unStr, unStr_rows, strRows_len, strRows_all, List.length_append, Ev.St.giveC, ↓Ev.P, Ev.Q, Bool.cond_true, Bool.cond_false, eq_self, forall_eq_or_imp, implies_true, forall_const, forall_eq, ↓reduceIte, reduceIte, Nat.reduceEqDiff, Nat.reduceAdd, reduceCtorEq, Nat.reduceSub, Int.reduceToNat, Int.reduceLE, Int.reduceLT, Int.reduceNeg, Nat.reduceBEq, Nat.reduceMul, Nat.reduceLeDiff, Nat.reduceMod, UInt8.reduceOfNat, Nat.reduceLT, Int.reduceEq, Int.reduceAdd, Int.reduceSub, Int.reduceMul]))
            all_goals try omega
            refine xAgain_intro (a.length - (i + 1)) [3, 5] (by omega) (by simp -dsimp -implicitDefEqProofs only [↓Ev.xStp_eq, ↓Ev.P, Ev.Q, Bool.cond_true, Bool.cond_false, eq_self, forall_eq_or_imp, implies_true, forall_const, forall_eq, ↓reduceIte, reduceIte, Nat.reduceEqDiff, Nat.reduceAdd, reduceCtorEq, Nat.reduceSub, Int.reduceToNat, Int.reduceLE, Int.reduceLT, Int.reduceNeg, Nat.reduceBEq, Nat.reduceMul, Nat.reduceLeDiff, Nat.reduceMod, UInt8.reduceOfNat, Nat.reduceLT, Int.reduceEq, Int.reduceAdd, Int.reduceSub, Int.reduceMul]) ⟨i + 1, by omega, rfl, by rw [hsn]; exact noFeed_snoc hno (by rw [hlg]; simpa using hq), ?_⟩
            rw [hsn, List.map_append, strRows_snoc, List.map_singleton, strRows_snoc]
            simp -dsimp -implicitDefEqProofs only [↓Ev.xStp_eq, ↓Ev.P, Ev.Q, Bool.cond_true, Bool.cond_false, eq_self, forall_eq_or_imp, implies_true, forall_const, forall_eq, ↓reduceIte, reduceIte, Nat.reduceEqDiff, Nat.reduceAdd, reduceCtorEq, Nat.reduceSub, Int.reduceToNat, Int.reduceLE, Int.reduceLT, Int.reduceNeg, Nat.reduceBEq, Nat.reduceMul, Nat.reduceLeDiff, Nat.reduceMod, UInt8.reduceOfNat, Nat.reduceLT, Int.reduceEq, Int.reduceAdd, Int.reduceSub, Int.reduceMul]
            all_goals rfl
      · have hi3 : ¬ (i : Int) < (a.length : Int) := by omega
        obtain rfl : i = a.length := by omega
        rw [bareT_all] at hno ⊢
        have hBl := bareT_len a
        have hBs := bareT_sz hA
        generalize bareT a = B at hno hBl hBs
        have hf := edN_feed hno s
        have hz := edN_nil hno
        have hWl : (B.map (· ++ [10])).length = B.length := by simp
        have hWs : ∀ x ∈ B.map (· ++ [10]), x.length ≤ 1099511627776 := by
          intro x hx
          obtain ⟨y, hy, rfl⟩ := List.mem_map.1 hx
          have := hBs y hy
          simp; omega
        have hBs2 : ∀ x ∈ B, x.length ≤ 1099511627776 := fun x hx => by have := hBs x hx; omega
        generalize B.map (· ++ [10]) = W at hf hz hWl hWs
        cases hY : edN s B with
        | ok Y =>
          have hYl : Y.length ≤ 1099511627776 := by have := edN_len hY (by omega); omega
          rw [hY] at hf
          have r1 : runE2 (edN s B) = (.tup [.own 0, .d (.v .nilIface)], ⟨1, [(0, .row 9 1 (strRows Y))]⟩) := by rw [hY]; rfl
          have r2 : runE2 (edN s W) = (.tup [.own 0, .d (.v .nilIface)], ⟨1, [(0, .row 9 1 (strRows Y))]⟩) := by rw [hf]; rfl
          have r3 : runE2 (edN [] B) = (.tup [.own 0, .d (.v .nilIface)], ⟨1, [(0, .row 9 1 (strRows W))]⟩) := by rw [hz]; rfl
          simp -dsimp -implicitDefEqProofs only [S5, R5, S5_0, S5_1, S5_2, S5_3, S5_4, S5_5, S5_6, S5_7, S5_8, S5r1, S5r2, S5r3, S5r4, S5r5, S5r6, S5r7, S5r8, S5r9, hi3, r1, r2, r3, hBl, hWl, List.length_map, impF, CWork13, CBare, CRunP, CSeen, CSame, unStr, unStr_rows, strRows_len, strRows_all, List.length_append, Ev.St.giveC, ↓Ev.P, Ev.Q, Bool.cond_true, Bool.cond_false, eq_self, forall_eq_or_imp, implies_true, forall_const, forall_eq, ↓reduceIte, reduceIte, Nat.reduceEqDiff, Nat.reduceAdd, reduceCtorEq, Nat.reduceSub, Int.reduceToNat, Int.reduceLE, Int.reduceLT, Int.reduceNeg, Nat.reduceBEq, Nat.reduceMul, Nat.reduceLeDiff, Nat.reduceMod, UInt8.reduceOfNat, Nat.reduceLT, Int.reduceEq, Int.reduceAdd, Int.reduceSub, Int.reduceMul]
          repeat' (first | with_reducible assumption | refine And.intro ?_ ?_ | intro _ | (rw [Ev.xStp_eq]; simp -dsimp -implicitDefEqProofs only [S5, R5, S5_0, S5_1, S5_2, S5_3, S5_4, S5_5, S5_6, S5_7, S5_8, S5r1, S5r2, S5r3, S5r4, S5r5, S5r6, S5r7, S5r8, S5r9, hi3, r1, r2, r3, hBl, hWl, List.length_map, impF, CWork13, CBare, CRunP, CSeen, CSame, unStr, unStr_rows, strRows_len, strRows_all, List.length_append, Ev.St.giveC, ↓Ev.P, Ev.Q, Bool.cond_true, Bool.cond_false, eq_self, forall_eq_or_imp, implies_true, forall_const, forall_eq, ↓reduceIte, reduceIte, Nat.reduceEqDiff, Nat.reduceAdd, reduceCtorEq, Nat.reduceSub, Int.reduceToNat, Int.reduceLE, Int.reduceLT, Int.reduceNeg, Nat.reduceBEq, Nat.reduceMul, Nat.reduceLeDiff, Nat.reduceMod, UInt8.reduceOfNat, Nat.reduceLT, Int.reduceEq, Int.reduceAdd, Int.reduceSub, Int.reduceMul]))
          all_goals try omega
          all_goals exact hk
        | error y =>
          obtain ⟨ya, ye⟩ := y
          rw [hY] at hf
          have r1 : runE2 (edN s B) = (.tup [.d (.sl []), .d (fltV ya ye)], ⟨0, []⟩) := by rw [hY]; rfl
          have r2 : runE2 (edN s W) = (.tup [.d (.sl []), .d (fltV ya ye)], ⟨0, []⟩) := by rw [hf]; rfl
          have r3 : runE2 (edN [] B) = (.tup [.own 0, .d (.v .nilIface)], ⟨1, [(0, .row 9 1 (strRows W))]⟩) := by rw [hz]; rfl
          simp -dsimp -implicitDefEqProofs only [S5, R5, S5_0, S5_1, S5_2, S5_3, S5_4, S5_5, S5_6, S5_7, S5_8, S5r1, S5r2, S5r3, S5r4, S5r5, S5r6, S5r7, S5r8, S5r9, hi3, r1, r2, r3, fltV, hBl, hWl, List.length_map, impF, CWork13, CBare, CRunP, CSeen, CSame, unStr, unStr_rows, strRows_len, strRows_all, List.length_append, Ev.St.giveC, ↓Ev.P, Ev.Q, Bool.cond_true, Bool.cond_false, eq_self, forall_eq_or_imp, implies_true, forall_const, forall_eq, ↓reduceIte, reduceIte, Nat.reduceEqDiff, Nat.reduceAdd, reduceCtorEq, Nat.reduceSub, Int.reduceToNat, Int.reduceLE, Int.reduceLT, Int.reduceNeg, Nat.reduceBEq, Nat.reduceMul, Nat.reduceLeDiff, Nat.reduceMod, UInt8.reduceOfNat, Nat.reduceLT, Int.reduceEq, Int.reduceAdd, Int.reduceSub, Int.reduceMul]
          repeat' (first | with_reducible assumption | refine And.intro ?_ ?_ | intro _ | (rw [Ev.xStp_eq]; simp -dsimp -implicitDefEqProofs only [S5, R5, S5_0, S5_1, S5_2, S5_3, S5_4, S5_5, S5_6, S5_7, S5_8, S5r1, S5r2, S5r3, S5r4, S5r5, S5r6, S5r7, S5r8, S5r9, hi3, r1, r2, r3, fltV, hBl, hWl, List.length_map, impF, CWork13, CBare, CRunP, CSeen, CSame, unStr, unStr_rows, strRows_len, strRows_all, List.length_append, Ev.St.giveC, ↓Ev.P, Ev.Q, Bool.cond_true, Bool.cond_false, eq_self, forall_eq_or_imp, implies_true, forall_const, forall_eq, ↓reduceIte, reduceIte, Nat.reduceEqDiff, Nat.reduceAdd, reduceCtorEq, Nat.reduceSub, Int.reduceToNat, Int.reduceLE, Int.reduceLT, Int.reduceNeg, Nat.reduceBEq, Nat.reduceMul, Nat.reduceLeDiff, Nat.reduceMod, UInt8.reduceOfNat, Nat.reduceLT, Int.reduceEq, Int.reduceAdd, Int.reduceSub, Int.reduceMul]))
          all_goals try omega
          all_goals exact hk
end Go.Proofs.YtlghobefhmpfkaaGreatDoor
set_option linter.unusedVariables false
set_option linter.unusedSimpArgs false
namespace Go.Proofs.YtlghobefhmpfkaaGreatDoor
open Go Go.Ev
open Go.ChangeShapes Go.WideShapes Go.ChangeAt Go.RowKit
set_option maxRecDepth 100000
variable {H : Type} {enc : TypeId × Value → H}
theorem bulk_strs : ∀ l : List ByteArray, (l.map fun s => s.data.toList.length + 1).sum = Rows.uptoBulkAll (strs l : List (DataW H))
  | [] => by simp [strs, Rows.uptoBulkAll]
  | s :: r => by
    have := bulk_strs r
    simp only [strs, List.map_cons, List.sum_cons, Rows.uptoBulkAll, Rows.uptoBulk] at this ⊢
    omega
theorem okWide_spot {P : Program} {w : World} {r : Reach} {b : Nat} {t e : TypeId} {a : Addr} {len cap : Nat} (ht : P.underlying t = some (.slice e)) (h : Value.okWide P w r b t (.slice (some a) len cap)) : a.spot = none := by
  simp only [Value.okWide, ht, Cell.okWide, Cell.ok, World.has] at h
  simp_all
end Go.Proofs.YtlghobefhmpfkaaGreatDoor
set_option linter.unusedVariables false
set_option linter.unusedSimpArgs false
namespace Go.Proofs.YtlghobefhmpfkaaGreatDoor
open Go Go.Ev
open Go.ChangeShapes Go.WideShapes Go.ChangeAt Go.RowKit
open Go.ChangeMaps (open_string shut_string)
set_option maxRecDepth 100000
variable {H : Type} {enc : TypeId × Value → H}
theorem var_if {W : World} {name : String} {t : TypeId} {x : Value} (h : W.var? Tryz.prog name = some #[.iface t x]) {b : Nat} (hb : some b = Tryz.prog.globalNamed name) : b < W.heap.size ∧ ∀ (a : Addr) (u : Value), W.cell? a = some u → a.block = b → ∃ t x, u = .iface t x := by
  unfold World.var? at h
  rw [← hb] at h
  simp only [Option.bind_some] at h
  split at h
  · rename_i cs t f e
    refine ⟨(Array.getElem?_eq_some_iff.1 e).1, fun a u ha hab => ?_⟩
    unfold World.cell? at ha
    rw [hab, e] at ha
    simp only [Option.some.injEq] at h
    subst h
    simp only at ha
    split at ha
    · cases ha
    · have hm := Array.mem_of_getElem? ha
      simp only [List.mem_toArray, List.mem_singleton, List.mem_cons, List.not_mem_nil, or_false] at hm
      exact ⟨_, _, hm⟩
  · cases h
theorem var_keep {W W' : World} {name : String} {cs : Array Value} (h : W.var? Tryz.prog name = some cs) (hb : ∀ b, some b = Tryz.prog.globalNamed name → W'.heap[b]? = W.heap[b]?) : W'.var? Tryz.prog name = some cs := by
  unfold World.var? at h ⊢
  cases e : Tryz.prog.globalNamed name with
  | none => rw [e] at h; cases h
  | some g => rw [e] at h; simp only [Option.bind_some] at h ⊢; rw [hb g e.symm]; exact h
def ErrV (w : World) : Prop := w.var? Tryz.prog "errors.errorType" = some #[.iface 199 (.agg #[typeHandle Tryz.prog 24])]
def GL (w : World) : Prop := Pow10 w ∧ ErrR w ∧ ErrV w
def hidL (b : Nat) : Prop := some b = Tryz.prog.globalNamed "internal/strconv.uint64pow10" ∨ some b = Tryz.prog.globalNamed "strconv.ErrRange" ∨ some b = Tryz.prog.globalNamed "errors.errorType"
noncomputable def HL : Hd GL := ⟨hidL, hidL, fun _ h => h, fun w w' h hb => by
  obtain ⟨h1, ⟨tp, p, h2⟩, h3⟩ := h
  exact ⟨HP.st w w' h1 fun b e => hb b (.inl e), ⟨tp, p, var_keep h2 fun b e => hb b (.inr (.inl e))⟩, var_keep h3 fun b e => hb b (.inr (.inr e))⟩, 0, []⟩
theorem HL_lt {W : World} (h : GL W) {b : Nat} (hb : HL b) : b < W.heap.size := by
  obtain ⟨h1, ⟨tp, p, h2⟩, h3⟩ := h
  rcases hb with hb | hb | hb
  · exact HP_lt h1 hb
  · exact (var_if h2 hb).1
  · exact (var_if h3 hb).1
theorem HL_no {W : World} (h : GL W) {a : Addr} {u : Value} (ha : W.cell? a = some u) (k1 : ∀ z, u ≠ .int .u64 z) (k2 : ∀ t x, u ≠ .iface t x) : ¬ HL a.block := by
  obtain ⟨h1, ⟨tp, p, h2⟩, h3⟩ := h
  rintro (hb | hb | hb)
  · exact HP_no h1 ha k1 hb
  · obtain ⟨t, x, e⟩ := (var_if h2 hb).2 a u ha rfl
    exact k2 t x e
  · obtain ⟨t, x, e⟩ := (var_if h3 hb).2 a u ha rfl
    exact k2 t x e
theorem et : Tryz.prog.globalNamed "errors.errorType" = some 0 := by kernel_rfl
theorem hh : typeHandle Tryz.prog 24 = .pointer (some ⟨9, 24, none⟩) := by kernel_rfl
theorem GL.errT {w : World} (h : GL w) : ErrT w := by
  have h3 := h.2.2
  unfold ErrV at h3
  rw [hh] at h3
  have := World.var?_cell et h3 0
  unfold ErrT
  simpa using this
theorem size_eq (s : ByteArray) : s.data.toList.length = s.size := by rw [Array.length_toList]; rfl
theorem len_bulk : ∀ l : List (List UInt8), l.length ≤ (l.map fun s => s.length + 1).sum ∧ ∀ s ∈ l, s.length ≤ (l.map fun s => s.length + 1).sum
  | [] => by simp
  | s :: r => by
    obtain ⟨h1, h2⟩ := len_bulk r
    simp only [List.map_cons, List.sum_cons, List.length_cons, List.forall_mem_cons]
    exact ⟨by omega, by omega, fun x hx => by have := h2 x hx; omega⟩
theorem openStr3 {b0 : Nat} {W : World} {c : Rdr} {t e : TypeId} {v : Value} {d : DataW H} {p : List MemPlace} {m : Nat → Value} (hc : ∀ a s, W.cell? a = some (.string s) → c a (.string s))
    (ht : Tryz.prog.underlying t = some (.slice e)) (he : Tryz.prog.underlying e = some .string) (h1 : Tryz.prog.cellsOf e = 1)
    (hv : Value.okWide Tryz.prog W .any b0 t v) (h : DataW.Trod enc Tryz.prog W 0 (fun _ => true) true t v d p) :
    ∃ l : List (List UInt8), Cn m 0 c (.d (.sl (strRows l))) v ∧ (l.map fun s => s.length + 1).sum + 1 ≤ Rows.uptoBulk d := by
  obtain ⟨a0, len, cap, rfl⟩ := okWide_slice ht hv
  obtain ⟨fuel, hf⟩ := h
  rcases open_strings ht he h1 hf with ⟨hcs, hx⟩ | ⟨a, len', cap', ss, hcs, _, hl, hm, hz, hx, hcell, hws⟩
  · simp [Value.cells] at hcs
    obtain ⟨rfl, rfl, rfl⟩ := hcs
    simp only [Prod.mk.injEq] at hx
    obtain ⟨rfl, rfl⟩ := hx
    exact ⟨[], by simp [Cn, Rd, strRows], by simp [Rows.uptoBulk]⟩
  · simp [Value.cells] at hcs
    obtain ⟨rfl, rfl, rfl⟩ := hcs
    simp only [Prod.mk.injEq] at hx
    obtain ⟨rfl, rfl⟩ := hx
    simp only [if_true] at hz
    have hM : maxLen = 9223372036854775807 := by decide
    refine ⟨(ss.take len).map fun s => s.data.toList, ?_, ?_⟩
    · simp only [Cn, Rd]
      refine ⟨some a, cap, by rw [strRows_len]; simp; omega, by rw [strRows_len]; simp; omega, by rw [strRows_len]; simp; omega, .inr ⟨a, 1, rfl, okWide_spot ht hv, rdStr fun i hi => ?_⟩⟩
      simp only [List.length_map, List.length_take] at hi
      rw [Nat.zero_add]
      refine hc _ _ ?_
      rw [hcell i (by omega)]
      congr 2
      simp [List.getD_eq_getElem?_getD, List.getElem?_map, List.getElem?_take_of_lt (show i < len by omega), List.getElem?_eq_getElem (show i < ss.length by omega)]
    · have := bulk_strs (H := H) (ss.take len)
      simp only [Rows.uptoBulk, List.map_map, Function.comp_def]
      omega
theorem own : ownKnob Tryz.prog.godebug = none := by kernel_rfl
theorem gTab : Tryz.prog.globalNamed "internal/strconv.uint64pow10" = some 6 := by kernel_rfl
theorem gTabType : (Tryz.prog.globals[6]?).map (·.type) = some 290 := by kernel_rfl
theorem starE : "*" ++ "errors.errorString" = "*errors.errorString" := by decide
theorem rowE (u : TypeId) (h : Tryz.prog.typeName? 3 u = some "*errors.errorString") : u = 286 :=
  typeName_ptr_named (nm := "errors.errorString") (by rw [starE]; kernel_rfl) (by kernel_rfl) (by decide) u (by rw [starE]; exact h)
theorem rtName : (Tryz.prog.cutTypes.find? (·.1 == "internal/reflectlite.rtype")).map (·.2) = some 199 := by kernel_rfl
theorem tsize : Tryz.prog.types.size = 323 := by kernel_rfl
theorem oneRow : ((List.range 323).filter fun t => Tryz.prog.rowNamed t [101, 114, 114, 111, 114]) = [24] := by kernel_rfl
theorem errV {W : World} (h : handlesMet Tryz.prog [("errors.errorType", Rows.laid_errors_errorType)] W) : ErrV W := by
  obtain ⟨name, u, ty, e1, e2, e3, e4, e5⟩ := h _ (List.mem_singleton.2 rfl)
  have en : name = [101, 114, 114, 111, 114] := (Option.some.inj e1).symm
  subst en
  obtain rfl := Option.some.inj (rtName.symm.trans e2)
  have hm : ty ∈ (List.range 323).filter fun t => Tryz.prog.rowNamed t [101, 114, 114, 111, 114] := List.mem_filter.2 ⟨List.mem_range.2 (by rw [← tsize]; exact e3), e4⟩
  rw [oneRow] at hm
  obtain rfl := List.mem_singleton.1 hm
  exact e5
theorem errR {W : World} {l : List (String × DataW Unit)} (h : laidMet Tryz.prog (("strconv.ErrRange", Rows.laid_strconv_ErrRange) :: l) W) : ErrR W := by
  obtain ⟨a, s, h3, _⟩ := laid_sentinel (g := 3) (ti := 24) (tp := 286) (te := 288) (ts := 9) h (by kernel_rfl) (by kernel_rfl) Tryz.underlying24 rowE Tryz.underlying286 Tryz.underlying288 rfl rfl Tryz.underlying9 (by kernel_rfl) (by kernel_rfl)
  exact ⟨_, _, h3⟩
theorem pow10 {W : World} {l : List (String × DataW Unit)} (h : laidMet Tryz.prog (("internal/strconv.uint64pow10", Rows.laid_internal_strconv_uint64pow10) :: l) W) : Pow10 W :=
  Lib.tabIs_of_head (n := 20) (e := 270) gTab gTabType (by kernel_rfl) (by kernel_rfl) (by kernel_rfl) (by kernel_rfl) h
def lits : List (DataW Unit) → List Value
  | [] => []
  | .lit (.int k z) :: r => Value.int k z :: lits r
  | .agg l :: r => (l.map fun x => match x with | .lit (.int k z) => Value.int k z | _ => undef) ++ lits r
  | _ :: r => lits r
def valsU : DataW Unit → Array Value
  | .agg l => (lits l).toArray
  | _ => #[]
def text : DataW Unit → ByteArray
  | .iface _ (.ptr (.agg [.lit (.string s)])) => ⟨s.toArray⟩
  | _ => ⟨#[]⟩
noncomputable def low (os : Os) : Nat := (World.holding Tryz.prog os ⟨#[], #[], []⟩).heap.size
def put (h : Array Obj) (g : Nat) (cs : Array Value) : Array Obj := h.modify g fun
    | .cells _ t frozen => .cells cs t frozen
    | o => o
noncomputable def laidWorld (os : Os) : World :=
  let w0 := World.holding Tryz.prog os ⟨#[.cells #[.string (text Rows.laid_strconv_ErrRange)] 288, .cells #[.string (text Rows.laid_strconv_ErrSyntax)] 288], #[], []⟩
  let h1 := put w0.heap 6 (valsU Rows.laid_internal_strconv_uint64pow10)
  let h2 := put h1 7 (valsU Rows.laid_math_bits_deBruijn32tab)
  let h3 := put h2 8 (valsU Rows.laid_math_bits_deBruijn64tab)
  let h4 := put h3 3 #[.iface 286 (.pointer (some ⟨low os, 0, none⟩))]
  let h5 := put h4 2 #[.iface 286 (.pointer (some ⟨low os + 1, 0, none⟩))]
  let h6 := put h5 4 (valsU Rows.laid_unicode_utf8_first)
  let h7 := put h6 5 (valsU Rows.laid_unicode_utf8_acceptRanges)
  let h8 := put h7 0 #[.iface 199 (.agg #[.pointer (some ⟨9, 24, none⟩)])]
  { w0 with heap := h8 }
end Go.Proofs.YtlghobefhmpfkaaGreatDoor
set_option linter.unusedVariables false
set_option linter.unusedSimpArgs false
namespace Go.Proofs.YtlghobefhmpfkaaGreatDoor
open Go Go.Ev
open Go.ChangeShapes Go.WideShapes Go.ChangeAt Go.RowKit
open Go.ChangeMaps (open_string shut_string)
set_option maxRecDepth 100000
namespace EdfmtRaw
theorem contract (H : Type) (enc : TypeId × Value → H) (W : World) (base : Nat) (args : Array Value) (ds gs : List (DataW H)) (before : List MemPlace)
    (hval : ∀ (j : Nat) t v, Tryz.f5.params[j]? = some t → args[j]? = some v → Value.okWide Tryz.prog W .any base t v)
    (hW : DataW.Whole enc Tryz.prog Tryz.f5.params.toList Rows.edfmtRawSpec.vars false W args.toList ds gs before) (hk : Rows.uptoSmall H (ds ++ gs) = true) (hP : GL W) :
    Calls Tryz.prog 5 args W fun e W' => ∃ v, e = .returned v ∧ Rows.edfmtRawSpec.post enc Tryz.prog Tryz.f5 false true false false W args v W' := by
  have hW' := hW
  obtain ⟨p, q, hA0, hV, rfl, hfz, hnd⟩ := hW
  have hA : DataW.TrodAll enc Tryz.prog W 0 (fun _ => true) true Tryz.f5.params.toList args.toList ds p := hA0
  rw [Tryz.params5] at hA hval
  obtain ⟨v0, vs0, d0, ds0, p0, q0, hargs0, rfl, rfl, h0, r0⟩ := trodAll_cons hA
  obtain ⟨v1, vs1, d1, ds1, p1, q1, hargs1, rfl, rfl, h1, r1⟩ := trodAll_cons r0
  obtain ⟨rfl, rfl, rfl⟩ := trodAll_nil r1
  obtain rfl : args = #[v0, v1] := by cases args; simp_all
  obtain ⟨rfl, rfl⟩ := trodVars_none hV
  have u3 : Tryz.prog.underlying 3 = some (.int .i64) := Tryz.underlying3
  have u9 : Tryz.prog.underlying 9 = some .string := Tryz.underlying9
  have u4 : Tryz.prog.underlying 4 = some .bool := by kernel_rfl
  obtain ⟨x0, rfl, rfl, rfl, hm0⟩ := open_string u9 (hval 0 9 v0 rfl rfl) h0
  obtain ⟨a1, hc1, ba1⟩ := openStr3 (c := fun a u => W.cell? a = some u ∧ ¬ HL a.block) (m := fun _ => undef) (fun a s h => ⟨h, HL_no hP h (fun z e => by cases e) (fun t x e => by cases e)⟩) Tryz.underlying22 Tryz.underlying9 (by kernel_rfl) (hval 1 22 v1 rfl rfl) h1
  obtain ⟨len1, all1⟩ := len_bulk a1
  clear hA0
  have hbk : Rows.uptoBulkAll ([DataW.lit (H := H) (.string x0.data.toList), d1] ++ [] : List (DataW H)) ≤ 1048576 := of_decide_eq_true hk
  simp only [List.append_nil, Rows.uptoBulkAll, Rows.uptoBulk, size_eq] at hbk
  simp only [List.append_nil] at hW'
  refine (law_calls HL (s5 (G := GL) (fun w h => h.1) (fun w h => h.2.1) (fun w h => h.errT)) (args := [.d (.v (.string x0)), .d (.sl (strRows a1))]) (vs := [.string x0, v1]) (W := W) hP (fun b hb => HL_lt hP hb) ?_ ⟨⟨rfl, rfl⟩, hc1, trivial⟩).mono fun e W' ⟨he, hg⟩ => ?_
  · simp -dsimp -implicitDefEqProofs only [CLawRaw, pureC_wp, unStr_rows, Option.map_some, need_some]
    exact ⟨trivial, ⟨by omega, by omega, fun s hs => by have := all1 s hs; omega⟩, trivial⟩
  · subst he
    have hlt := hW'.lt
    have lo : laidOutB Tryz.prog = true := by kernel_rfl
    have s0 : (22 : Nat) < Tryz.prog.types.size := of_decide_eq_true (by kernel_rfl)
    have r0 : Tryz.prog.readableRec 22 = true := by kernel_rfl
    exact ⟨_, rfl, post_of_below (pa := ([] ++ (p1 ++ []))) (pv := []) hW' (fun _ _ _ => (trodAll_cons_mk (shut_bool u4 _) trodAll_mk0)) (fun sp hsp => (trodAll_cons_mk (shut_string u9 hm0) (trodAll_cons_mk (WideElems.Trod_stays lo r0 s0 h1 (fun x hx => hg.same (hlt x (by simp [hx]))) (fun x hx => hsp x (by simp [hx]))) trodAll_mk0))) (fun _ _ => rfl) (by simp)
      hg (ok_one (by kernel_rfl) rfl (okWide_bool_mk u4 _))⟩
theorem gl {W : World} (h : laidMetH Tryz.prog Rows.edfmtRawUptoRow.laid W) : GL W := by
  have h' : laidMet Tryz.prog [("math/bits.deBruijn32tab", Rows.laid_math_bits_deBruijn32tab), ("math/bits.deBruijn64tab", Rows.laid_math_bits_deBruijn64tab), ("internal/strconv.uint64pow10", Rows.laid_internal_strconv_uint64pow10), ("unicode/utf8.acceptRanges", Rows.laid_unicode_utf8_acceptRanges), ("strconv.ErrRange", Rows.laid_strconv_ErrRange), ("strconv.ErrSyntax", Rows.laid_strconv_ErrSyntax), ("unicode/utf8.first", Rows.laid_unicode_utf8_first)] W ∧ handlesMet Tryz.prog [("errors.errorType", Rows.laid_errors_errorType)] W := h
  exact ⟨pow10 (laidMet.tail (laidMet.tail (h'.1))), errR (laidMet.tail (laidMet.tail (laidMet.tail (laidMet.tail (h'.1))))), errV h'.2⟩
abbrev wargs : Array Value := #[.string ⟨#[]⟩, .slice none 0 0]
theorem laid_met (os : Os) : laidMetH Tryz.prog Rows.edfmtRawUptoRow.laid ((laidWorld os).forCall (fun _ _ => 0) ⟨#[], wargs, []⟩).memory :=
  laidMetH_of_parts (laidMet_of_run' 8 (by kernel_rfl) (by kernel_rfl)) (by kernel_rfl)
theorem reads (os : Os) {H : Type} (enc : TypeId × Value → H) : ∃ places, DataW.whole enc Tryz.prog ((laidWorld os).forCall (fun _ _ => 0) ⟨#[], wargs, []⟩).memory Tryz.f5.params.toList Rows.edfmtRawSpec.vars false wargs.toList 8 = some ([.lit (.string []), .nil], [], places) :=
  ⟨[], by kernel_rfl⟩
theorem liftedUpto (os : Os) (started : os.Started) (H : Type) (enc : TypeId × Value → H) (F : Stop.Interp) :
    ReturnsInHanded {} Tryz.checked os 5 .any ((Rows.OpenSpec.upto Rows.edfmtRawSpec).preRow enc Tryz.prog Tryz.f5 Rows.edfmtRawUptoRow.domain false Rows.edfmtRawUptoRow.laid) (((Rows.OpenSpec.upto Rows.edfmtRawSpec).at F).post enc Tryz.prog Tryz.f5 false true false false) := by
  obtain ⟨places, hx⟩ := reads os enc
  refine returnsInHanded_of_row (C := Tryz.checked) (s := Rows.OpenSpec.upto Rows.edfmtRawSpec) own started (by kernel_rfl) Tryz.func5
    (witness_row_atRef (enc := enc) (C := Tryz.checked) false (laidWorld os) wargs rfl (by kernel_rfl) (by kernel_rfl) (by kernel_rfl)
      (OpenSpec.preRow_of_cond 8 hx (by kernel_rfl) (fun k hk => by cases hk; kernel_rfl) (by kernel_rfl) (laid_met os))) ?_
  intro W base args ds gs before hval hW _ hcond _ hL _ _
  exact contract H enc W base args ds gs before hval hW (hcond _ rfl) (gl hL)
theorem saidUpto : Rows.EdfmtRawUptoSaid :=
  OpenClaim.holds_of_cond 5 Tryz.f5 rfl rfl rfl rfl rfl rfl rfl ⟨rfl, rfl, rfl, rfl, rfl⟩ rfl rfl rfl rfl rfl (by kernel_rfl) Tryz.func5 (by kernel_rfl)
    (of_decide_eq_true (by kernel_rfl)) (by unfold Func.isWrapper; first | (rw [if_pos (by decide +kernel)]; kernel_rfl) | (rw [if_neg (by decide +kernel)]; exact ⟨rfl, rfl⟩))
    (fun os started H enc _ F => by rw [OpenClaim.pre_eq_preRow]; exact liftedUpto os started H enc F)
theorem plain (f : FuncId) (fn : Func) (hf : Tryz.pinned.checked.prog.funcNamed "redline/redlinelaw13.EdfmtRaw" = some f) (hfn : Tryz.pinned.checked.prog.funcs[f]? = some fn) :
    true = Tryz.pinned.checked.prog.looks [] ∧ ∀ (j : Nat) t, fn.params[j]? = some t → Tryz.pinned.checked.prog.wantsStandIn t = false := by
  obtain rfl : f = 5 := Option.some.inj ((show Tryz.prog.funcNamed "redline/redlinelaw13.EdfmtRaw" = some 5 by kernel_rfl).symm.trans hf) |>.symm
  obtain rfl : fn = Tryz.f5 := (Option.some.inj (Tryz.func5.symm.trans hfn)).symm
  refine ⟨by kernel_rfl, fun j t ht => ?_⟩
  have hall : (Tryz.f5.params.toList.all fun u => !Tryz.prog.wantsStandIn u) = true := by kernel_rfl
  have hm : t ∈ Tryz.f5.params.toList := by simpa using Array.mem_of_getElem? ht
  exact (show Tryz.prog.wantsStandIn t = false by simpa using List.all_eq_true.1 hall t hm)
theorem cardUpto : Rows.EdfmtRawUptoCardSaid :=
  Claim7.holds_tied_plain_at .later [] _ _ _ _ saidUpto (fun _ h => by cases h) (by kernel_rfl) (fun _ h => by cases h) edfmtRawUpto_row_tie rfl ⟨rfl, rfl⟩ (by kernel_rfl) rfl plain (by kernel_rfl)
end EdfmtRaw
end Go.Proofs.YtlghobefhmpfkaaGreatDoor
