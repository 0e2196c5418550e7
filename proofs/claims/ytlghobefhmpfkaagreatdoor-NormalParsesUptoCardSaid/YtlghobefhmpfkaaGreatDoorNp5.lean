/- NormalParses: any text is read as hunks, or refused as the chapter says Part 5 of 6. -/
import Derived.Test.YtlghobefhmpfkaaGreatDoorProg
import Derived.WalkKit
import Derived.RecoverIn
import Derived.RowKitTokens
import Derived.Below
import Derived.Test.YtlghobefhmpfkaaGreatDoorNp1
import Derived.Test.YtlghobefhmpfkaaGreatDoorNp2
import Derived.Test.YtlghobefhmpfkaaGreatDoorNp3
import Derived.Test.YtlghobefhmpfkaaGreatDoorNp4
set_option linter.unusedVariables false
set_option linter.unusedSimpArgs false
namespace Go.Proofs.YtlghobefhmpfkaaGreatDoor
open Go Go.Ev Go.Rcs
set_option maxRecDepth 100000
variable {G : World → Prop}
theorem oneL_err {p : List UInt8} {L : List (List UInt8)} {last : Bool} {k : Nat} {a e : Int} (h : oneL p L last k = .error (a, e)) : ¬ e = 0 := by
  unfold oneL at h
  split at h
  · rename_i x hx
    cases h
    exact (nx_next_err 0 hx).2.2
  · split at h
    · split at h
      · split at h
        · cases h; decide
        · cases h
      · cases h
    · cases h; decide
def hkRK (t : TypeId) (rows : List (List D)) (fa : Int) (K : Out → Store → Prop) : Except Fl (Hk × Nat) → Prop
  | .ok (h, a) => K (.ret (.agg [.d (.v (.int .i64 h.1.1)), .d (.v (.int .i64 h.1.2.1)), .d (.v (.int .i64 h.1.2.2.1)), .d (.v (.int .i64 h.1.2.2.2)), .d (.sl (mkRows h.2))])) ⟨1, [(0, .cells t [.d (.sl rows), .d (.v (.int .i64 (a : Nat))), .d (.v (.int .i64 fa)), .d (.v (.int .i64 0))])]⟩
  | .error (a, e) => ∀ (A AN B BN : Int) (ms : List Mk), ms.length ≤ 8589934592 → K (.ret (.agg [.d (.v (.int .i64 A)), .d (.v (.int .i64 AN)), .d (.v (.int .i64 B)), .d (.v (.int .i64 BN)), .d (.sl (mkRows ms))])) ⟨1, [(0, .cells t [.d (.sl rows), .d (.v (.int .i64 a)), .d (.v (.int .i64 a)), .d (.v (.int .i64 e))])]⟩
def hkW (args : List SV) (st : Store) (K : Out → Store → Prop) : Prop := match args, st with
  | [.ptr 0 0, .d (.v (.int .i64 ahead))], ⟨1, [(0, .cells t [.d (.sl rows), .d (.v (.int .i64 at_)), .d (.v (.int .i64 fa)), .d (.v (.int .i64 fe))])]⟩ =>
    need (unStr rows) fun L => (fe = 0 ∧ (0 ≤ at_ ∧ at_ ≤ L.length) ∧ smL L ∧ okM L) ∧ hkRK t rows fa K (hkN L ahead at_.toNat)
  | _, _ => False
def CHunkR : Contract := wpC hkW
theorem CHunkR_wp {t : TypeId} {rows : List (List D)} {ahead at_ fa fe : Int} {K : Out → Store → Prop} :
    CHunkR.wp [.ptr 0 0, .d (.v (.int .i64 ahead))] ⟨1, [(0, .cells t [.d (.sl rows), .d (.v (.int .i64 at_)), .d (.v (.int .i64 fa)), .d (.v (.int .i64 fe))])]⟩ K = need (unStr rows) fun L => (fe = 0 ∧ (0 ≤ at_ ∧ at_ ≤ L.length) ∧ smL L ∧ okM L) ∧ hkRK t rows fa K (hkN L ahead at_.toNat) := rfl
@[congr] theorem CHunkR_congr {l l' : List SV} {s s' : Store} {K : Out → Store → Prop} (h : l = l') (h2 : s = s') : CHunkR.wp l s K = CHunkR.wp l' s' K := by rw [h, h2]
set_option maxHeartbeats 64000000 in
theorem s55 : Sound G Tryz.prog 55 CHunkR := by
  refine sd55 (T := tabT [(42, CNext), (113, CCmdN), (43, CFail), (114, CMkd)]) (tab_cons s42 (tab_cons s113 (tab_cons s43 (tab_cons s114 tab_nil)))) (wpC_lawful _) (fun args st K hW => ?_)
  replace hW : hkW args st K := hW
  unfold hkW at hW
  split at hW
  rotate_left
  · exact hW.elim
  rename_i ahead t rows at_ fa fe
  obtain ⟨L, hL0, ⟨rfl, ⟨h1, h3⟩, ⟨hLl, hL⟩, hM⟩, hk⟩ := need_ex hW
  rw [unStr_eq hL0] at *
  have hsm : smL L := ⟨hLl, hL⟩
  obtain ⟨k0, rfl⟩ := Int.eq_ofNat_of_zero_le h1
  rw [Int.toNat_natCast] at hk
  refine ⟨Nat.le_of_ble_eq_true rfl, [0], [0], ?_⟩
  generalize hY : hkN L ahead k0 = Y at hk
  unfold hkN at hY
  cases hx : nextL L k0 with
  | error xe =>
    obtain ⟨xa, xe⟩ := xe
    obtain ⟨hn, rfl, he⟩ := nx_next_err fa hx
    rw [hx] at hY; dsimp only at hY; subst hY; dsimp only [hkRK] at hk
    have hc0 : cmdA [] = (.tup [.agg [.d (.v (.int .i64 0)), .d (.v (.int .i64 0)), .d (.v (.int .i64 0)), .d (.v (.int .i64 0)), .d (.sl [])], .d (.v (.bool false))], ⟨0, []⟩) := rfl
    simp -dsimp -implicitDefEqProofs only [S55, S55_0, S55r1, S55_1, S55r2, S55_2, S55r3, S55_3, S55r4, S55_4, S55r5, S55_5, S55r6, S55_6, S55r7, S55_7, S55r8, R55, hn, hc0, he, impF, CNext, CFail, CMkd, mkdR, CCmdN, rdr, unStr_rows, strRows_len, mkRows_len, mkRows_all, List.length_append, ↓Ev.P, Ev.Q, Bool.cond_true, Bool.cond_false, eq_self, forall_eq_or_imp, implies_true, forall_const, forall_eq, ↓reduceIte, reduceIte, Nat.reduceEqDiff, Nat.reduceAdd, reduceCtorEq, Nat.reduceSub, Int.reduceToNat, Int.reduceLE, Int.reduceLT, Int.reduceNeg, Nat.reduceBEq, Nat.reduceMul, Nat.reduceLeDiff, Nat.reduceMod, UInt8.reduceOfNat, Nat.reduceLT, Int.reduceEq, Int.reduceAdd, Int.reduceSub, Int.reduceMul]
    repeat' (first | with_reducible assumption | refine And.intro ?_ ?_ | intro _ | (rw [Ev.xStp_eq]; simp -dsimp -implicitDefEqProofs only [S55, S55_0, S55r1, S55_1, S55r2, S55_2, S55r3, S55_3, S55r4, S55_4, S55r5, S55_5, S55r6, S55_6, S55r7, S55_7, S55r8, R55, hn, hc0, he, impF, CNext, CFail, CMkd, mkdR, CCmdN, rdr, unStr_rows, strRows_len, mkRows_len, mkRows_all, List.length_append, ↓Ev.P, Ev.Q, Bool.cond_true, Bool.cond_false, eq_self, forall_eq_or_imp, implies_true, forall_const, forall_eq, ↓reduceIte, reduceIte, Nat.reduceEqDiff, Nat.reduceAdd, reduceCtorEq, Nat.reduceSub, Int.reduceToNat, Int.reduceLE, Int.reduceLT, Int.reduceNeg, Nat.reduceBEq, Nat.reduceMul, Nat.reduceLeDiff, Nat.reduceMod, UInt8.reduceOfNat, Nat.reduceLT, Int.reduceEq, Int.reduceAdd, Int.reduceSub, Int.reduceMul]))
    all_goals try omega
    all_goals exact hk 0 0 0 0 [] (by simp)
  | ok x =>
    obtain ⟨s, a⟩ := x
    have hn := nx_next_ok fa hx
    obtain ⟨rfl, hlt, hs⟩ := nextL_le hx
    have hsz := hL _ (getD_in hlt)
    have hsl : s.length ≤ 1099511627776 := by rw [hs]; exact Nat.le_trans (bare_len _) hsz
    rw [hx] at hY; dsimp only at hY
    clear hs hsz
    have ec : ((k0 + 1 : Nat) : Int) = (k0 : Int) + 1 := by omega
    by_cases hf : fstV s < s.length
    · have hv := fstV_is hf
      have hcA : cmdA s = (.tup [.agg [.d (.v (.int .i64 (lefT s (fstV s)).1.1)), .d (.v (.int .i64 (lefT s (fstV s)).1.2)), .d (.v (.int .i64 (rigT s (fstV s)).1.1)), .d (.v (.int .i64 (rigT s (fstV s)).1.2)), .own 0], .d (.v (.bool ((lefT s (fstV s)).2 && (rigT s (fstV s)).2)))], ⟨1, [(0, .row 103 2 [])]⟩) := if_pos hf
      have hcm : cmdN s = if (lefT s (fstV s)).2 = true ∧ (rigT s (fstV s)).2 = true then some ((lefT s (fstV s)).1.1, (lefT s (fstV s)).1.2, (rigT s (fstV s)).1.1, (rigT s (fstV s)).1.2) else none := if_pos hf
      have B1 : ∀ h : (lefT s (fstV s)).2 = true, 0 ≤ (lefT s (fstV s)).1.2 ∧ (lefT s (fstV s)).1.2 ≤ 2147483647 := fun h => by
        have := lefT_bd h
        by_cases e : s.getD (fstV s) 0 = 97
        · have := this.1 e; omega
        · have := this.2 e; omega
      have B2 : ∀ h : (rigT s (fstV s)).2 = true, 0 ≤ (rigT s (fstV s)).1.2 ∧ (rigT s (fstV s)).1.2 ≤ 2147483647 := fun h => by
        have := rigT_bd h
        by_cases e : s.getD (fstV s) 0 = 100
        · have := this.1 e; omega
        · have := this.2 e; omega
      generalize lefT s (fstV s) = l at B1 hcm hcA
      generalize rigT s (fstV s) = r at B2 hcm hcA
      obtain ⟨⟨A, AN⟩, o1⟩ := l
      obtain ⟨⟨B, BN⟩, o2⟩ := r
      dsimp only at hcA hcm B1 B2
      by_cases hok : o1 = true ∧ o2 = true
      · rw [if_pos hok] at hcm
        obtain ⟨rfl, rfl⟩ := hok
        obtain ⟨a0, a1⟩ := B1 rfl
        obtain ⟨b0, b1⟩ := B2 rfl
        obtain ⟨AN, rfl⟩ := Int.eq_ofNat_of_zero_le a0
        obtain ⟨BN, rfl⟩ := Int.eq_ofNat_of_zero_le b0
        rw [Bool.and_self] at hcA
        rw [hcm] at hY; dsimp only at hY
        clear hcm B1 B2 hv hx
        by_cases ha : 4096 ≤ ahead
        · rw [if_pos ha] at hY; subst hY; dsimp only [hkRK] at hk
          simp only [ec] at hk
          have he : ¬ (9 : Int) = 0 := by decide
          simp -dsimp -implicitDefEqProofs only [S55, S55_0, S55r1, S55_1, S55r2, S55_2, S55r3, S55_3, S55r4, S55_4, S55r5, S55_5, S55r6, S55_6, S55r7, S55_7, S55r8, R55, hn, hcA, ha, impF, CNext, CFail, CMkd, mkdR, CCmdN, rdr, unStr_rows, strRows_len, mkRows_len, mkRows_all, List.length_append, ↓Ev.P, Ev.Q, Bool.cond_true, Bool.cond_false, eq_self, forall_eq_or_imp, implies_true, forall_const, forall_eq, ↓reduceIte, reduceIte, Nat.reduceEqDiff, Nat.reduceAdd, reduceCtorEq, Nat.reduceSub, Int.reduceToNat, Int.reduceLE, Int.reduceLT, Int.reduceNeg, Nat.reduceBEq, Nat.reduceMul, Nat.reduceLeDiff, Nat.reduceMod, UInt8.reduceOfNat, Nat.reduceLT, Int.reduceEq, Int.reduceAdd, Int.reduceSub, Int.reduceMul]
          repeat' (first | with_reducible assumption | refine And.intro ?_ ?_ | intro _ | (rw [Ev.xStp_eq]; simp -dsimp -implicitDefEqProofs only [S55, S55_0, S55r1, S55_1, S55r2, S55_2, S55r3, S55_3, S55r4, S55_4, S55r5, S55_5, S55r6, S55_6, S55r7, S55_7, S55r8, R55, hn, hcA, ha, impF, CNext, CFail, CMkd, mkdR, CCmdN, rdr, unStr_rows, strRows_len, mkRows_len, mkRows_all, List.length_append, ↓Ev.P, Ev.Q, Bool.cond_true, Bool.cond_false, eq_self, forall_eq_or_imp, implies_true, forall_const, forall_eq, ↓reduceIte, reduceIte, Nat.reduceEqDiff, Nat.reduceAdd, reduceCtorEq, Nat.reduceSub, Int.reduceToNat, Int.reduceLE, Int.reduceLT, Int.reduceNeg, Nat.reduceBEq, Nat.reduceMul, Nat.reduceLeDiff, Nat.reduceMod, UInt8.reduceOfNat, Nat.reduceLT, Int.reduceEq, Int.reduceAdd, Int.reduceSub, Int.reduceMul]))
          all_goals try omega
          all_goals
            refine xLoop_intro (fun n2 st => n2 = 0 ∧ st = ⟨[(0, .ptr 0 0), (4, .ptr 1 0), (5, .ptr 2 0), (7, .d (.v (.int .i64 ((0 : Nat) : Int))))], 4, [(0, .cells t [.d (.sl (strRows L)), .d (.v (.int .i64 ((k0 : Int) + 1))), .d (.v (.int .i64 ((k0 : Int) + 1))), .d (.v (.int .i64 9))]), (1, .cells 47 [.d (.v (.int .i64 0)), .d (.v (.int .i64 0)), .d (.v (.int .i64 0)), .d (.v (.int .i64 0)), .d (.v (.slice none 0 0))]), (2, .cells 47 [.d (.v (.int .i64 A)), .d (.v (.int .i64 (AN : Nat))), .d (.v (.int .i64 B)), .d (.v (.int .i64 (BN : Nat))), .own 3]), (3, .row 103 2 (mkRows []))]⟩) 0 [0, 1, 3, 2] ?_ ?_ ?_
            · simp -dsimp -implicitDefEqProofs only [↓Ev.xStp_eq, ↓Ev.P, Ev.Q, Bool.cond_true, Bool.cond_false, eq_self, forall_eq_or_imp, implies_true, forall_const, forall_eq, ↓reduceIte, reduceIte, Nat.reduceEqDiff, Nat.reduceAdd, reduceCtorEq, Nat.reduceSub, Int.reduceToNat, Int.reduceLE, Int.reduceLT, Int.reduceNeg, Nat.reduceBEq, Nat.reduceMul, Nat.reduceLeDiff, Nat.reduceMod, UInt8.reduceOfNat, Nat.reduceLT, Int.reduceEq, Int.reduceAdd, Int.reduceSub, Int.reduceMul]
            · simp -dsimp -implicitDefEqProofs only [↓Ev.xStp_eq, ↓Ev.P, Ev.Q, Bool.cond_true, Bool.cond_false, eq_self, forall_eq_or_imp, implies_true, forall_const, forall_eq, ↓reduceIte, reduceIte, Nat.reduceEqDiff, Nat.reduceAdd, reduceCtorEq, Nat.reduceSub, Int.reduceToNat, Int.reduceLE, Int.reduceLT, Int.reduceNeg, Nat.reduceBEq, Nat.reduceMul, Nat.reduceLeDiff, Nat.reduceMod, UInt8.reduceOfNat, Nat.reduceLT, Int.reduceEq, Int.reduceAdd, Int.reduceSub, Int.reduceMul]
              all_goals first | rfl | exact ⟨rfl, rfl⟩ | trivial
            · rintro n2 st2 ⟨rfl, rfl⟩
              simp -dsimp -implicitDefEqProofs only [S55, S55_0, S55r1, S55_1, S55r2, S55_2, S55r3, S55_3, S55r4, S55_4, S55r5, S55_5, S55r6, S55_6, S55r7, S55_7, S55r8, R55, he, impF, CNext, CFail, CMkd, mkdR, CCmdN, rdr, unStr_rows, strRows_len, mkRows_len, mkRows_all, List.length_append, ↓Ev.P, Ev.Q, Bool.cond_true, Bool.cond_false, eq_self, forall_eq_or_imp, implies_true, forall_const, forall_eq, ↓reduceIte, reduceIte, Nat.reduceEqDiff, Nat.reduceAdd, reduceCtorEq, Nat.reduceSub, Int.reduceToNat, Int.reduceLE, Int.reduceLT, Int.reduceNeg, Nat.reduceBEq, Nat.reduceMul, Nat.reduceLeDiff, Nat.reduceMod, UInt8.reduceOfNat, Nat.reduceLT, Int.reduceEq, Int.reduceAdd, Int.reduceSub, Int.reduceMul]
              repeat' (first | with_reducible assumption | refine And.intro ?_ ?_ | intro _ | (rw [Ev.xStp_eq]; simp -dsimp -implicitDefEqProofs only [S55, S55_0, S55r1, S55_1, S55r2, S55_2, S55r3, S55_3, S55r4, S55_4, S55r5, S55_5, S55r6, S55_6, S55r7, S55_7, S55r8, R55, he, impF, CNext, CFail, CMkd, mkdR, CCmdN, rdr, unStr_rows, strRows_len, mkRows_len, mkRows_all, List.length_append, ↓Ev.P, Ev.Q, Bool.cond_true, Bool.cond_false, eq_self, forall_eq_or_imp, implies_true, forall_const, forall_eq, ↓reduceIte, reduceIte, Nat.reduceEqDiff, Nat.reduceAdd, reduceCtorEq, Nat.reduceSub, Int.reduceToNat, Int.reduceLE, Int.reduceLT, Int.reduceNeg, Nat.reduceBEq, Nat.reduceMul, Nat.reduceLeDiff, Nat.reduceMod, UInt8.reduceOfNat, Nat.reduceLT, Int.reduceEq, Int.reduceAdd, Int.reduceSub, Int.reduceMul]))
              all_goals try omega
              all_goals
                refine xLoop_intro (fun n2 st => n2 = 0 ∧ st = ⟨[(0, .ptr 0 0), (4, .ptr 1 0), (5, .ptr 2 0), (8, .d (.v (.int .i64 ((0 : Nat) : Int))))], 4, [(0, .cells t [.d (.sl (strRows L)), .d (.v (.int .i64 ((k0 : Int) + 1))), .d (.v (.int .i64 ((k0 : Int) + 1))), .d (.v (.int .i64 9))]), (1, .cells 47 [.d (.v (.int .i64 0)), .d (.v (.int .i64 0)), .d (.v (.int .i64 0)), .d (.v (.int .i64 0)), .d (.v (.slice none 0 0))]), (2, .cells 47 [.d (.v (.int .i64 A)), .d (.v (.int .i64 (AN : Nat))), .d (.v (.int .i64 B)), .d (.v (.int .i64 (BN : Nat))), .own 3]), (3, .row 103 2 (mkRows []))]⟩) 0 [0, 1, 2, 3] ?_ ?_ ?_
                · simp -dsimp -implicitDefEqProofs only [↓Ev.xStp_eq, ↓Ev.P, Ev.Q, Bool.cond_true, Bool.cond_false, eq_self, forall_eq_or_imp, implies_true, forall_const, forall_eq, ↓reduceIte, reduceIte, Nat.reduceEqDiff, Nat.reduceAdd, reduceCtorEq, Nat.reduceSub, Int.reduceToNat, Int.reduceLE, Int.reduceLT, Int.reduceNeg, Nat.reduceBEq, Nat.reduceMul, Nat.reduceLeDiff, Nat.reduceMod, UInt8.reduceOfNat, Nat.reduceLT, Int.reduceEq, Int.reduceAdd, Int.reduceSub, Int.reduceMul]
                · simp -dsimp -implicitDefEqProofs only [↓Ev.xStp_eq, ↓Ev.P, Ev.Q, Bool.cond_true, Bool.cond_false, eq_self, forall_eq_or_imp, implies_true, forall_const, forall_eq, ↓reduceIte, reduceIte, Nat.reduceEqDiff, Nat.reduceAdd, reduceCtorEq, Nat.reduceSub, Int.reduceToNat, Int.reduceLE, Int.reduceLT, Int.reduceNeg, Nat.reduceBEq, Nat.reduceMul, Nat.reduceLeDiff, Nat.reduceMod, UInt8.reduceOfNat, Nat.reduceLT, Int.reduceEq, Int.reduceAdd, Int.reduceSub, Int.reduceMul]
                  all_goals first | rfl | exact ⟨rfl, rfl⟩ | trivial
                · rintro n2 st2 ⟨rfl, rfl⟩
                  simp -dsimp -implicitDefEqProofs only [S55, S55_0, S55r1, S55_1, S55r2, S55_2, S55r3, S55_3, S55r4, S55_4, S55r5, S55_5, S55r6, S55_6, S55r7, S55_7, S55r8, R55, he, impF, CNext, CFail, CMkd, mkdR, CCmdN, rdr, unStr_rows, strRows_len, mkRows_len, mkRows_all, List.length_append, ↓Ev.P, Ev.Q, Bool.cond_true, Bool.cond_false, eq_self, forall_eq_or_imp, implies_true, forall_const, forall_eq, ↓reduceIte, reduceIte, Nat.reduceEqDiff, Nat.reduceAdd, reduceCtorEq, Nat.reduceSub, Int.reduceToNat, Int.reduceLE, Int.reduceLT, Int.reduceNeg, Nat.reduceBEq, Nat.reduceMul, Nat.reduceLeDiff, Nat.reduceMod, UInt8.reduceOfNat, Nat.reduceLT, Int.reduceEq, Int.reduceAdd, Int.reduceSub, Int.reduceMul]
                  repeat' (first | with_reducible assumption | refine And.intro ?_ ?_ | intro _ | (rw [Ev.xStp_eq]; simp -dsimp -implicitDefEqProofs only [S55, S55_0, S55r1, S55_1, S55r2, S55_2, S55r3, S55_3, S55r4, S55_4, S55r5, S55_5, S55r6, S55_6, S55r7, S55_7, S55r8, R55, he, impF, CNext, CFail, CMkd, mkdR, CCmdN, rdr, unStr_rows, strRows_len, mkRows_len, mkRows_all, List.length_append, ↓Ev.P, Ev.Q, Bool.cond_true, Bool.cond_false, eq_self, forall_eq_or_imp, implies_true, forall_const, forall_eq, ↓reduceIte, reduceIte, Nat.reduceEqDiff, Nat.reduceAdd, reduceCtorEq, Nat.reduceSub, Int.reduceToNat, Int.reduceLE, Int.reduceLT, Int.reduceNeg, Nat.reduceBEq, Nat.reduceMul, Nat.reduceLeDiff, Nat.reduceMod, UInt8.reduceOfNat, Nat.reduceLT, Int.reduceEq, Int.reduceAdd, Int.reduceSub, Int.reduceMul]))
                  all_goals try omega
                  all_goals exact hk _ _ _ _ [] (by simp)
        · rw [if_neg ha] at hY; unfold hkL at hY; dsimp only at hY
          rw [Int.toNat_natCast, Int.toNat_natCast] at hY
          simp -dsimp -implicitDefEqProofs only [S55, S55_0, S55r1, S55_1, S55r2, S55_2, S55r3, S55_3, S55r4, S55_4, S55r5, S55_5, S55r6, S55_6, S55r7, S55_7, S55r8, R55, hn, hcA, ha, impF, CNext, CFail, CMkd, mkdR, CCmdN, rdr, unStr_rows, strRows_len, mkRows_len, mkRows_all, List.length_append, ↓Ev.P, Ev.Q, Bool.cond_true, Bool.cond_false, eq_self, forall_eq_or_imp, implies_true, forall_const, forall_eq, ↓reduceIte, reduceIte, Nat.reduceEqDiff, Nat.reduceAdd, reduceCtorEq, Nat.reduceSub, Int.reduceToNat, Int.reduceLE, Int.reduceLT, Int.reduceNeg, Nat.reduceBEq, Nat.reduceMul, Nat.reduceLeDiff, Nat.reduceMod, UInt8.reduceOfNat, Nat.reduceLT, Int.reduceEq, Int.reduceAdd, Int.reduceSub, Int.reduceMul]
          repeat' (first | with_reducible assumption | refine And.intro ?_ ?_ | intro _ | (rw [Ev.xStp_eq]; simp -dsimp -implicitDefEqProofs only [S55, S55_0, S55r1, S55_1, S55r2, S55_2, S55r3, S55_3, S55r4, S55_4, S55r5, S55_5, S55r6, S55_6, S55r7, S55_7, S55r8, R55, hn, hcA, ha, impF, CNext, CFail, CMkd, mkdR, CCmdN, rdr, unStr_rows, strRows_len, mkRows_len, mkRows_all, List.length_append, ↓Ev.P, Ev.Q, Bool.cond_true, Bool.cond_false, eq_self, forall_eq_or_imp, implies_true, forall_const, forall_eq, ↓reduceIte, reduceIte, Nat.reduceEqDiff, Nat.reduceAdd, reduceCtorEq, Nat.reduceSub, Int.reduceToNat, Int.reduceLE, Int.reduceLT, Int.reduceNeg, Nat.reduceBEq, Nat.reduceMul, Nat.reduceLeDiff, Nat.reduceMod, UInt8.reduceOfNat, Nat.reduceLT, Int.reduceEq, Int.reduceAdd, Int.reduceSub, Int.reduceMul]))
          all_goals try omega
          all_goals
            generalize hY1 : mkL [60, 32] 45 L AN (k0 + 1) [] = Y1 at hY
            refine xLoop_intro (fun n2 st => ∃ (i : Nat) (ms : List Mk), i ≤ AN ∧ ms.length ≤ 0 + i ∧ ((n2 = AN - i + 1 ∧ ∃ (at_ : Nat), at_ ≤ L.length ∧ mkL [60, 32] 45 L (AN - i) at_ ms = Y1 ∧ st = ⟨[(0, .ptr 0 0), (4, .ptr 1 0), (5, .ptr 2 0), (7, .d (.v (.int .i64 (i : Nat))))], 4, [(0, .cells t [.d (.sl (strRows L)), .d (.v (.int .i64 (at_ : Nat))), .d (.v (.int .i64 fa)), .d (.v (.int .i64 0))]), (1, .cells 47 [.d (.v (.int .i64 0)), .d (.v (.int .i64 0)), .d (.v (.int .i64 0)), .d (.v (.int .i64 0)), .d (.v (.slice none 0 0))]), (2, .cells 47 [.d (.v (.int .i64 A)), .d (.v (.int .i64 (AN : Nat))), .d (.v (.int .i64 B)), .d (.v (.int .i64 (BN : Nat))), .own 3]), (3, .row 103 2 (mkRows ms))]⟩) ∨ (n2 = 0 ∧ ∃ (a e : Int), ¬ e = 0 ∧ Y1 = .error (a, e) ∧ st = ⟨[(0, .ptr 0 0), (4, .ptr 1 0), (5, .ptr 2 0), (7, .d (.v (.int .i64 (i : Nat))))], 4, [(0, .cells t [.d (.sl (strRows L)), .d (.v (.int .i64 a)), .d (.v (.int .i64 a)), .d (.v (.int .i64 e))]), (1, .cells 47 [.d (.v (.int .i64 0)), .d (.v (.int .i64 0)), .d (.v (.int .i64 0)), .d (.v (.int .i64 0)), .d (.v (.slice none 0 0))]), (2, .cells 47 [.d (.v (.int .i64 A)), .d (.v (.int .i64 (AN : Nat))), .d (.v (.int .i64 B)), .d (.v (.int .i64 (BN : Nat))), .own 3]), (3, .row 103 2 (mkRows ms))]⟩))) (AN + 1) [0, 1, 3, 2] ?_ ?_ ?_
            · simp -dsimp -implicitDefEqProofs only [↓Ev.xStp_eq, ↓Ev.P, Ev.Q, Bool.cond_true, Bool.cond_false, eq_self, forall_eq_or_imp, implies_true, forall_const, forall_eq, ↓reduceIte, reduceIte, Nat.reduceEqDiff, Nat.reduceAdd, reduceCtorEq, Nat.reduceSub, Int.reduceToNat, Int.reduceLE, Int.reduceLT, Int.reduceNeg, Nat.reduceBEq, Nat.reduceMul, Nat.reduceLeDiff, Nat.reduceMod, UInt8.reduceOfNat, Nat.reduceLT, Int.reduceEq, Int.reduceAdd, Int.reduceSub, Int.reduceMul]
            · simp -dsimp -implicitDefEqProofs only [↓Ev.xStp_eq, ↓Ev.P, Ev.Q, Bool.cond_true, Bool.cond_false, eq_self, forall_eq_or_imp, implies_true, forall_const, forall_eq, ↓reduceIte, reduceIte, Nat.reduceEqDiff, Nat.reduceAdd, reduceCtorEq, Nat.reduceSub, Int.reduceToNat, Int.reduceLE, Int.reduceLT, Int.reduceNeg, Nat.reduceBEq, Nat.reduceMul, Nat.reduceLeDiff, Nat.reduceMod, UInt8.reduceOfNat, Nat.reduceLT, Int.reduceEq, Int.reduceAdd, Int.reduceSub, Int.reduceMul]
              refine ⟨0, ([] : List Mk), by omega, by first | omega | simp, .inl ⟨by omega, (k0 + 1), by omega, hY1, ?_⟩⟩
              all_goals rfl
            · rintro n2 st2 ⟨i, ms, hi, hml, ⟨rfl, at_, hat, hgo, rfl⟩ | ⟨rfl, a, e, he, hYe, rfl⟩⟩
              · by_cases hin : i < AN
                · have hi3 : (i : Int) < (AN : Int) := by omega
                  obtain ⟨m, hm⟩ : ∃ m, AN - i = m + 1 := ⟨AN - i - 1, by omega⟩
                  rw [hm, mkL] at hgo
                  have hp0 : (0 : Nat) < 2 := by omega
                  by_cases hl : m = 0
                  · have hl1 : ((i : Int) = (AN : Int) - 1) = True := eq_true (by omega)
                    rw [decide_eq_true hl] at hgo
                    cases hx : oneL [60, 32] L true at_ with
                    | error xe =>
                      obtain ⟨xa, xe⟩ := xe
                      have hxe := oneL_err hx
                      rw [hx] at hgo; dsimp only at hgo
                      simp -dsimp -implicitDefEqProofs only [S55, S55_0, S55r1, S55_1, S55r2, S55_2, S55r3, S55_3, S55r4, S55_4, S55r5, S55_5, S55r6, S55_6, S55r7, S55_7, S55r8, R55, hi3, hl1, hx, hxe, impF, CNext, CFail, CMkd, mkdR, CCmdN, rdr, unStr_rows, strRows_len, mkRows_len, mkRows_all, List.length_append, ↓Ev.P, Ev.Q, Bool.cond_true, Bool.cond_false, eq_self, forall_eq_or_imp, implies_true, forall_const, forall_eq, ↓reduceIte, reduceIte, Nat.reduceEqDiff, Nat.reduceAdd, reduceCtorEq, Nat.reduceSub, Int.reduceToNat, Int.reduceLE, Int.reduceLT, Int.reduceNeg, Nat.reduceBEq, Nat.reduceMul, Nat.reduceLeDiff, Nat.reduceMod, UInt8.reduceOfNat, Nat.reduceLT, Int.reduceEq, Int.reduceAdd, Int.reduceSub, Int.reduceMul]
                      repeat' (first | with_reducible assumption | refine And.intro ?_ ?_ | intro _ | (rw [Ev.xStp_eq]; simp -dsimp -implicitDefEqProofs only [S55, S55_0, S55r1, S55_1, S55r2, S55_2, S55r3, S55_3, S55r4, S55_4, S55r5, S55_5, S55r6, S55_6, S55r7, S55_7, S55r8, R55, hi3, hl1, hx, hxe, impF, CNext, CFail, CMkd, mkdR, CCmdN, rdr, unStr_rows, strRows_len, mkRows_len, mkRows_all, List.length_append, ↓Ev.P, Ev.Q, Bool.cond_true, Bool.cond_false, eq_self, forall_eq_or_imp, implies_true, forall_const, forall_eq, ↓reduceIte, reduceIte, Nat.reduceEqDiff, Nat.reduceAdd, reduceCtorEq, Nat.reduceSub, Int.reduceToNat, Int.reduceLE, Int.reduceLT, Int.reduceNeg, Nat.reduceBEq, Nat.reduceMul, Nat.reduceLeDiff, Nat.reduceMod, UInt8.reduceOfNat, Nat.reduceLT, Int.reduceEq, Int.reduceAdd, Int.reduceSub, Int.reduceMul]))
                      all_goals try omega
                      all_goals
                        refine xAgain_intro 0 [0, 1, 2, 5] (by omega) (by simp -dsimp -implicitDefEqProofs only [↓Ev.xStp_eq, ↓Ev.P, Ev.Q, Bool.cond_true, Bool.cond_false, eq_self, forall_eq_or_imp, implies_true, forall_const, forall_eq, ↓reduceIte, reduceIte, Nat.reduceEqDiff, Nat.reduceAdd, reduceCtorEq, Nat.reduceSub, Int.reduceToNat, Int.reduceLE, Int.reduceLT, Int.reduceNeg, Nat.reduceBEq, Nat.reduceMul, Nat.reduceLeDiff, Nat.reduceMod, UInt8.reduceOfNat, Nat.reduceLT, Int.reduceEq, Int.reduceAdd, Int.reduceSub, Int.reduceMul]) ⟨i + 1, ms ++ [(45, [])], by omega, by rw [List.length_append, List.length_singleton]; omega, .inr ⟨rfl, xa, xe, hxe, hgo.symm, ?_⟩⟩
                        rw [← mkRows_snoc]
                        simp -dsimp -implicitDefEqProofs only [↓Ev.xStp_eq, ↓Ev.P, Ev.Q, Bool.cond_true, Bool.cond_false, eq_self, forall_eq_or_imp, implies_true, forall_const, forall_eq, ↓reduceIte, reduceIte, Nat.reduceEqDiff, Nat.reduceAdd, reduceCtorEq, Nat.reduceSub, Int.reduceToNat, Int.reduceLE, Int.reduceLT, Int.reduceNeg, Nat.reduceBEq, Nat.reduceMul, Nat.reduceLeDiff, Nat.reduceMod, UInt8.reduceOfNat, Nat.reduceLT, Int.reduceEq, Int.reduceAdd, Int.reduceSub, Int.reduceMul]
                        all_goals rfl
                    | ok x =>
                      obtain ⟨w, a1⟩ := x
                      have hle := oneL_le hx
                      rw [hx] at hgo; dsimp only at hgo
                      simp -dsimp -implicitDefEqProofs only [S55, S55_0, S55r1, S55_1, S55r2, S55_2, S55r3, S55_3, S55r4, S55_4, S55r5, S55_5, S55r6, S55_6, S55r7, S55_7, S55r8, R55, hi3, hl1, hx, impF, CNext, CFail, CMkd, mkdR, CCmdN, rdr, unStr_rows, strRows_len, mkRows_len, mkRows_all, List.length_append, ↓Ev.P, Ev.Q, Bool.cond_true, Bool.cond_false, eq_self, forall_eq_or_imp, implies_true, forall_const, forall_eq, ↓reduceIte, reduceIte, Nat.reduceEqDiff, Nat.reduceAdd, reduceCtorEq, Nat.reduceSub, Int.reduceToNat, Int.reduceLE, Int.reduceLT, Int.reduceNeg, Nat.reduceBEq, Nat.reduceMul, Nat.reduceLeDiff, Nat.reduceMod, UInt8.reduceOfNat, Nat.reduceLT, Int.reduceEq, Int.reduceAdd, Int.reduceSub, Int.reduceMul]
                      repeat' (first | with_reducible assumption | refine And.intro ?_ ?_ | intro _ | (rw [Ev.xStp_eq]; simp -dsimp -implicitDefEqProofs only [S55, S55_0, S55r1, S55_1, S55r2, S55_2, S55r3, S55_3, S55r4, S55_4, S55r5, S55_5, S55r6, S55_6, S55r7, S55_7, S55r8, R55, hi3, hl1, hx, impF, CNext, CFail, CMkd, mkdR, CCmdN, rdr, unStr_rows, strRows_len, mkRows_len, mkRows_all, List.length_append, ↓Ev.P, Ev.Q, Bool.cond_true, Bool.cond_false, eq_self, forall_eq_or_imp, implies_true, forall_const, forall_eq, ↓reduceIte, reduceIte, Nat.reduceEqDiff, Nat.reduceAdd, reduceCtorEq, Nat.reduceSub, Int.reduceToNat, Int.reduceLE, Int.reduceLT, Int.reduceNeg, Nat.reduceBEq, Nat.reduceMul, Nat.reduceLeDiff, Nat.reduceMod, UInt8.reduceOfNat, Nat.reduceLT, Int.reduceEq, Int.reduceAdd, Int.reduceSub, Int.reduceMul]))
                      all_goals try omega
                      all_goals
                        refine xAgain_intro (AN - (i + 1) + 1) [0, 1, 2, 5] (by omega) (by simp -dsimp -implicitDefEqProofs only [↓Ev.xStp_eq, ↓Ev.P, Ev.Q, Bool.cond_true, Bool.cond_false, eq_self, forall_eq_or_imp, implies_true, forall_const, forall_eq, ↓reduceIte, reduceIte, Nat.reduceEqDiff, Nat.reduceAdd, reduceCtorEq, Nat.reduceSub, Int.reduceToNat, Int.reduceLE, Int.reduceLT, Int.reduceNeg, Nat.reduceBEq, Nat.reduceMul, Nat.reduceLeDiff, Nat.reduceMod, UInt8.reduceOfNat, Nat.reduceLT, Int.reduceEq, Int.reduceAdd, Int.reduceSub, Int.reduceMul]) ⟨i + 1, ms ++ [(45, w)], by omega, by rw [List.length_append, List.length_singleton]; omega, .inl ⟨rfl, a1, hle.2, by rw [show AN - (i + 1) = m by omega]; exact hgo, ?_⟩⟩
                        rw [← mkRows_snoc]
                        simp -dsimp -implicitDefEqProofs only [↓Ev.xStp_eq, ↓Ev.P, Ev.Q, Bool.cond_true, Bool.cond_false, eq_self, forall_eq_or_imp, implies_true, forall_const, forall_eq, ↓reduceIte, reduceIte, Nat.reduceEqDiff, Nat.reduceAdd, reduceCtorEq, Nat.reduceSub, Int.reduceToNat, Int.reduceLE, Int.reduceLT, Int.reduceNeg, Nat.reduceBEq, Nat.reduceMul, Nat.reduceLeDiff, Nat.reduceMod, UInt8.reduceOfNat, Nat.reduceLT, Int.reduceEq, Int.reduceAdd, Int.reduceSub, Int.reduceMul]
                        all_goals rfl
                  · have hl1 : ((i : Int) = (AN : Int) - 1) = False := eq_false (by omega)
                    rw [decide_eq_false hl] at hgo
                    cases hx : oneL [60, 32] L false at_ with
                    | error xe =>
                      obtain ⟨xa, xe⟩ := xe
                      have hxe := oneL_err hx
                      rw [hx] at hgo; dsimp only at hgo
                      simp -dsimp -implicitDefEqProofs only [S55, S55_0, S55r1, S55_1, S55r2, S55_2, S55r3, S55_3, S55r4, S55_4, S55r5, S55_5, S55r6, S55_6, S55r7, S55_7, S55r8, R55, hi3, hl1, hx, hxe, impF, CNext, CFail, CMkd, mkdR, CCmdN, rdr, unStr_rows, strRows_len, mkRows_len, mkRows_all, List.length_append, ↓Ev.P, Ev.Q, Bool.cond_true, Bool.cond_false, eq_self, forall_eq_or_imp, implies_true, forall_const, forall_eq, ↓reduceIte, reduceIte, Nat.reduceEqDiff, Nat.reduceAdd, reduceCtorEq, Nat.reduceSub, Int.reduceToNat, Int.reduceLE, Int.reduceLT, Int.reduceNeg, Nat.reduceBEq, Nat.reduceMul, Nat.reduceLeDiff, Nat.reduceMod, UInt8.reduceOfNat, Nat.reduceLT, Int.reduceEq, Int.reduceAdd, Int.reduceSub, Int.reduceMul]
                      repeat' (first | with_reducible assumption | refine And.intro ?_ ?_ | intro _ | (rw [Ev.xStp_eq]; simp -dsimp -implicitDefEqProofs only [S55, S55_0, S55r1, S55_1, S55r2, S55_2, S55r3, S55_3, S55r4, S55_4, S55r5, S55_5, S55r6, S55_6, S55r7, S55_7, S55r8, R55, hi3, hl1, hx, hxe, impF, CNext, CFail, CMkd, mkdR, CCmdN, rdr, unStr_rows, strRows_len, mkRows_len, mkRows_all, List.length_append, ↓Ev.P, Ev.Q, Bool.cond_true, Bool.cond_false, eq_self, forall_eq_or_imp, implies_true, forall_const, forall_eq, ↓reduceIte, reduceIte, Nat.reduceEqDiff, Nat.reduceAdd, reduceCtorEq, Nat.reduceSub, Int.reduceToNat, Int.reduceLE, Int.reduceLT, Int.reduceNeg, Nat.reduceBEq, Nat.reduceMul, Nat.reduceLeDiff, Nat.reduceMod, UInt8.reduceOfNat, Nat.reduceLT, Int.reduceEq, Int.reduceAdd, Int.reduceSub, Int.reduceMul]))
                      all_goals try omega
                      all_goals
                        refine xAgain_intro 0 [0, 1, 2, 5] (by omega) (by simp -dsimp -implicitDefEqProofs only [↓Ev.xStp_eq, ↓Ev.P, Ev.Q, Bool.cond_true, Bool.cond_false, eq_self, forall_eq_or_imp, implies_true, forall_const, forall_eq, ↓reduceIte, reduceIte, Nat.reduceEqDiff, Nat.reduceAdd, reduceCtorEq, Nat.reduceSub, Int.reduceToNat, Int.reduceLE, Int.reduceLT, Int.reduceNeg, Nat.reduceBEq, Nat.reduceMul, Nat.reduceLeDiff, Nat.reduceMod, UInt8.reduceOfNat, Nat.reduceLT, Int.reduceEq, Int.reduceAdd, Int.reduceSub, Int.reduceMul]) ⟨i + 1, ms ++ [(45, [])], by omega, by rw [List.length_append, List.length_singleton]; omega, .inr ⟨rfl, xa, xe, hxe, hgo.symm, ?_⟩⟩
                        rw [← mkRows_snoc]
                        simp -dsimp -implicitDefEqProofs only [↓Ev.xStp_eq, ↓Ev.P, Ev.Q, Bool.cond_true, Bool.cond_false, eq_self, forall_eq_or_imp, implies_true, forall_const, forall_eq, ↓reduceIte, reduceIte, Nat.reduceEqDiff, Nat.reduceAdd, reduceCtorEq, Nat.reduceSub, Int.reduceToNat, Int.reduceLE, Int.reduceLT, Int.reduceNeg, Nat.reduceBEq, Nat.reduceMul, Nat.reduceLeDiff, Nat.reduceMod, UInt8.reduceOfNat, Nat.reduceLT, Int.reduceEq, Int.reduceAdd, Int.reduceSub, Int.reduceMul]
                        all_goals rfl
                    | ok x =>
                      obtain ⟨w, a1⟩ := x
                      have hle := oneL_le hx
                      rw [hx] at hgo; dsimp only at hgo
                      simp -dsimp -implicitDefEqProofs only [S55, S55_0, S55r1, S55_1, S55r2, S55_2, S55r3, S55_3, S55r4, S55_4, S55r5, S55_5, S55r6, S55_6, S55r7, S55_7, S55r8, R55, hi3, hl1, hx, impF, CNext, CFail, CMkd, mkdR, CCmdN, rdr, unStr_rows, strRows_len, mkRows_len, mkRows_all, List.length_append, ↓Ev.P, Ev.Q, Bool.cond_true, Bool.cond_false, eq_self, forall_eq_or_imp, implies_true, forall_const, forall_eq, ↓reduceIte, reduceIte, Nat.reduceEqDiff, Nat.reduceAdd, reduceCtorEq, Nat.reduceSub, Int.reduceToNat, Int.reduceLE, Int.reduceLT, Int.reduceNeg, Nat.reduceBEq, Nat.reduceMul, Nat.reduceLeDiff, Nat.reduceMod, UInt8.reduceOfNat, Nat.reduceLT, Int.reduceEq, Int.reduceAdd, Int.reduceSub, Int.reduceMul]
                      repeat' (first | with_reducible assumption | refine And.intro ?_ ?_ | intro _ | (rw [Ev.xStp_eq]; simp -dsimp -implicitDefEqProofs only [S55, S55_0, S55r1, S55_1, S55r2, S55_2, S55r3, S55_3, S55r4, S55_4, S55r5, S55_5, S55r6, S55_6, S55r7, S55_7, S55r8, R55, hi3, hl1, hx, impF, CNext, CFail, CMkd, mkdR, CCmdN, rdr, unStr_rows, strRows_len, mkRows_len, mkRows_all, List.length_append, ↓Ev.P, Ev.Q, Bool.cond_true, Bool.cond_false, eq_self, forall_eq_or_imp, implies_true, forall_const, forall_eq, ↓reduceIte, reduceIte, Nat.reduceEqDiff, Nat.reduceAdd, reduceCtorEq, Nat.reduceSub, Int.reduceToNat, Int.reduceLE, Int.reduceLT, Int.reduceNeg, Nat.reduceBEq, Nat.reduceMul, Nat.reduceLeDiff, Nat.reduceMod, UInt8.reduceOfNat, Nat.reduceLT, Int.reduceEq, Int.reduceAdd, Int.reduceSub, Int.reduceMul]))
                      all_goals try omega
                      all_goals
                        refine xAgain_intro (AN - (i + 1) + 1) [0, 1, 2, 5] (by omega) (by simp -dsimp -implicitDefEqProofs only [↓Ev.xStp_eq, ↓Ev.P, Ev.Q, Bool.cond_true, Bool.cond_false, eq_self, forall_eq_or_imp, implies_true, forall_const, forall_eq, ↓reduceIte, reduceIte, Nat.reduceEqDiff, Nat.reduceAdd, reduceCtorEq, Nat.reduceSub, Int.reduceToNat, Int.reduceLE, Int.reduceLT, Int.reduceNeg, Nat.reduceBEq, Nat.reduceMul, Nat.reduceLeDiff, Nat.reduceMod, UInt8.reduceOfNat, Nat.reduceLT, Int.reduceEq, Int.reduceAdd, Int.reduceSub, Int.reduceMul]) ⟨i + 1, ms ++ [(45, w)], by omega, by rw [List.length_append, List.length_singleton]; omega, .inl ⟨rfl, a1, hle.2, by rw [show AN - (i + 1) = m by omega]; exact hgo, ?_⟩⟩
                        rw [← mkRows_snoc]
                        simp -dsimp -implicitDefEqProofs only [↓Ev.xStp_eq, ↓Ev.P, Ev.Q, Bool.cond_true, Bool.cond_false, eq_self, forall_eq_or_imp, implies_true, forall_const, forall_eq, ↓reduceIte, reduceIte, Nat.reduceEqDiff, Nat.reduceAdd, reduceCtorEq, Nat.reduceSub, Int.reduceToNat, Int.reduceLE, Int.reduceLT, Int.reduceNeg, Nat.reduceBEq, Nat.reduceMul, Nat.reduceLeDiff, Nat.reduceMod, UInt8.reduceOfNat, Nat.reduceLT, Int.reduceEq, Int.reduceAdd, Int.reduceSub, Int.reduceMul]
                        all_goals rfl
                · have hi3 : ¬ (i : Int) < (AN : Int) := by omega
                  rw [show AN - i = 0 by omega, mkL] at hgo
                  rw [← hgo] at hY; dsimp only at hY
                  by_cases hd1 : (0 : Int) < (AN : Int)
                  · by_cases hd2 : (0 : Int) < (BN : Int)
                    · rw [if_pos ⟨hd1, hd2⟩] at hY; unfold dashL at hY
                      cases hd : nextL L at_ with
                      | error xe =>
                        obtain ⟨xa, xe⟩ := xe
                        obtain ⟨hn, rfl, he⟩ := nx_next_err fa hd
                        rw [hd] at hY; dsimp only at hY; subst hY; dsimp only [hkRK] at hk
                        have hml2 : ms.length ≤ 8589934592 := by omega
                        have hne : (([] : List UInt8) = [45, 45, 45]) = False := eq_false (by decide)
                        simp -dsimp -implicitDefEqProofs only [S55, S55_0, S55r1, S55_1, S55r2, S55_2, S55r3, S55_3, S55r4, S55_4, S55r5, S55_5, S55r6, S55_6, S55r7, S55_7, S55r8, R55, hi3, hd1, hd2, hn, he, hne, impF, CNext, CFail, CMkd, mkdR, CCmdN, rdr, unStr_rows, strRows_len, mkRows_len, mkRows_all, List.length_append, ↓Ev.P, Ev.Q, Bool.cond_true, Bool.cond_false, eq_self, forall_eq_or_imp, implies_true, forall_const, forall_eq, ↓reduceIte, reduceIte, Nat.reduceEqDiff, Nat.reduceAdd, reduceCtorEq, Nat.reduceSub, Int.reduceToNat, Int.reduceLE, Int.reduceLT, Int.reduceNeg, Nat.reduceBEq, Nat.reduceMul, Nat.reduceLeDiff, Nat.reduceMod, UInt8.reduceOfNat, Nat.reduceLT, Int.reduceEq, Int.reduceAdd, Int.reduceSub, Int.reduceMul]
                        repeat' (first | with_reducible assumption | refine And.intro ?_ ?_ | intro _ | (rw [Ev.xStp_eq]; simp -dsimp -implicitDefEqProofs only [S55, S55_0, S55r1, S55_1, S55r2, S55_2, S55r3, S55_3, S55r4, S55_4, S55r5, S55_5, S55r6, S55_6, S55r7, S55_7, S55r8, R55, hi3, hd1, hd2, hn, he, hne, impF, CNext, CFail, CMkd, mkdR, CCmdN, rdr, unStr_rows, strRows_len, mkRows_len, mkRows_all, List.length_append, ↓Ev.P, Ev.Q, Bool.cond_true, Bool.cond_false, eq_self, forall_eq_or_imp, implies_true, forall_const, forall_eq, ↓reduceIte, reduceIte, Nat.reduceEqDiff, Nat.reduceAdd, reduceCtorEq, Nat.reduceSub, Int.reduceToNat, Int.reduceLE, Int.reduceLT, Int.reduceNeg, Nat.reduceBEq, Nat.reduceMul, Nat.reduceLeDiff, Nat.reduceMod, UInt8.reduceOfNat, Nat.reduceLT, Int.reduceEq, Int.reduceAdd, Int.reduceSub, Int.reduceMul]))
                        all_goals try omega
                        all_goals
                          refine xLoop_intro (fun n2 st => n2 = 0 ∧ st = ⟨[(0, .ptr 0 0), (4, .ptr 1 0), (5, .ptr 2 0), (8, .d (.v (.int .i64 ((0 : Nat) : Int))))], 4, [(0, .cells t [.d (.sl (strRows L)), .d (.v (.int .i64 ((at_ : Int) + 1))), .d (.v (.int .i64 ((at_ : Int) + 1))), .d (.v (.int .i64 xe))]), (1, .cells 47 [.d (.v (.int .i64 0)), .d (.v (.int .i64 0)), .d (.v (.int .i64 0)), .d (.v (.int .i64 0)), .d (.v (.slice none 0 0))]), (2, .cells 47 [.d (.v (.int .i64 A)), .d (.v (.int .i64 (AN : Nat))), .d (.v (.int .i64 B)), .d (.v (.int .i64 (BN : Nat))), .own 3]), (3, .row 103 2 (mkRows ms))]⟩) 0 [0, 1, 2, 3] ?_ ?_ ?_
                          · simp -dsimp -implicitDefEqProofs only [↓Ev.xStp_eq, ↓Ev.P, Ev.Q, Bool.cond_true, Bool.cond_false, eq_self, forall_eq_or_imp, implies_true, forall_const, forall_eq, ↓reduceIte, reduceIte, Nat.reduceEqDiff, Nat.reduceAdd, reduceCtorEq, Nat.reduceSub, Int.reduceToNat, Int.reduceLE, Int.reduceLT, Int.reduceNeg, Nat.reduceBEq, Nat.reduceMul, Nat.reduceLeDiff, Nat.reduceMod, UInt8.reduceOfNat, Nat.reduceLT, Int.reduceEq, Int.reduceAdd, Int.reduceSub, Int.reduceMul]
                          · simp -dsimp -implicitDefEqProofs only [↓Ev.xStp_eq, ↓Ev.P, Ev.Q, Bool.cond_true, Bool.cond_false, eq_self, forall_eq_or_imp, implies_true, forall_const, forall_eq, ↓reduceIte, reduceIte, Nat.reduceEqDiff, Nat.reduceAdd, reduceCtorEq, Nat.reduceSub, Int.reduceToNat, Int.reduceLE, Int.reduceLT, Int.reduceNeg, Nat.reduceBEq, Nat.reduceMul, Nat.reduceLeDiff, Nat.reduceMod, UInt8.reduceOfNat, Nat.reduceLT, Int.reduceEq, Int.reduceAdd, Int.reduceSub, Int.reduceMul]
                            all_goals first | rfl | exact ⟨rfl, rfl⟩ | trivial
                          · rintro n2 st2 ⟨rfl, rfl⟩
                            simp -dsimp -implicitDefEqProofs only [S55, S55_0, S55r1, S55_1, S55r2, S55_2, S55r3, S55_3, S55r4, S55_4, S55r5, S55_5, S55r6, S55_6, S55r7, S55_7, S55r8, R55, he, impF, CNext, CFail, CMkd, mkdR, CCmdN, rdr, unStr_rows, strRows_len, mkRows_len, mkRows_all, List.length_append, ↓Ev.P, Ev.Q, Bool.cond_true, Bool.cond_false, eq_self, forall_eq_or_imp, implies_true, forall_const, forall_eq, ↓reduceIte, reduceIte, Nat.reduceEqDiff, Nat.reduceAdd, reduceCtorEq, Nat.reduceSub, Int.reduceToNat, Int.reduceLE, Int.reduceLT, Int.reduceNeg, Nat.reduceBEq, Nat.reduceMul, Nat.reduceLeDiff, Nat.reduceMod, UInt8.reduceOfNat, Nat.reduceLT, Int.reduceEq, Int.reduceAdd, Int.reduceSub, Int.reduceMul]
                            repeat' (first | with_reducible assumption | refine And.intro ?_ ?_ | intro _ | (rw [Ev.xStp_eq]; simp -dsimp -implicitDefEqProofs only [S55, S55_0, S55r1, S55_1, S55r2, S55_2, S55r3, S55_3, S55r4, S55_4, S55r5, S55_5, S55r6, S55_6, S55r7, S55_7, S55r8, R55, he, impF, CNext, CFail, CMkd, mkdR, CCmdN, rdr, unStr_rows, strRows_len, mkRows_len, mkRows_all, List.length_append, ↓Ev.P, Ev.Q, Bool.cond_true, Bool.cond_false, eq_self, forall_eq_or_imp, implies_true, forall_const, forall_eq, ↓reduceIte, reduceIte, Nat.reduceEqDiff, Nat.reduceAdd, reduceCtorEq, Nat.reduceSub, Int.reduceToNat, Int.reduceLE, Int.reduceLT, Int.reduceNeg, Nat.reduceBEq, Nat.reduceMul, Nat.reduceLeDiff, Nat.reduceMod, UInt8.reduceOfNat, Nat.reduceLT, Int.reduceEq, Int.reduceAdd, Int.reduceSub, Int.reduceMul]))
                            all_goals try omega
                            all_goals exact hk _ _ _ _ ms hml2
                      | ok x =>
                        obtain ⟨ds, a3⟩ := x
                        have hn := nx_next_ok fa hd
                        obtain ⟨rfl, hlt3, hs3⟩ := nextL_le hd
                        clear hs3
                        have ec3 : ((at_ + 1 : Nat) : Int) = (at_ : Int) + 1 := by omega
                        rw [hd] at hY; dsimp only at hY
                        by_cases hds : ds = [45, 45, 45]
                        · rw [if_pos hds] at hY; dsimp only at hY; subst hds
                          simp -dsimp -implicitDefEqProofs only [S55, S55_0, S55r1, S55_1, S55r2, S55_2, S55r3, S55_3, S55r4, S55_4, S55r5, S55_5, S55r6, S55_6, S55r7, S55_7, S55r8, R55, hi3, hd1, hd2, hn, impF, CNext, CFail, CMkd, mkdR, CCmdN, rdr, unStr_rows, strRows_len, mkRows_len, mkRows_all, List.length_append, ↓Ev.P, Ev.Q, Bool.cond_true, Bool.cond_false, eq_self, forall_eq_or_imp, implies_true, forall_const, forall_eq, ↓reduceIte, reduceIte, Nat.reduceEqDiff, Nat.reduceAdd, reduceCtorEq, Nat.reduceSub, Int.reduceToNat, Int.reduceLE, Int.reduceLT, Int.reduceNeg, Nat.reduceBEq, Nat.reduceMul, Nat.reduceLeDiff, Nat.reduceMod, UInt8.reduceOfNat, Nat.reduceLT, Int.reduceEq, Int.reduceAdd, Int.reduceSub, Int.reduceMul]
                          repeat' (first | with_reducible assumption | refine And.intro ?_ ?_ | intro _ | (rw [Ev.xStp_eq]; simp -dsimp -implicitDefEqProofs only [S55, S55_0, S55r1, S55_1, S55r2, S55_2, S55r3, S55_3, S55r4, S55_4, S55r5, S55_5, S55r6, S55_6, S55r7, S55_7, S55r8, R55, hi3, hd1, hd2, hn, impF, CNext, CFail, CMkd, mkdR, CCmdN, rdr, unStr_rows, strRows_len, mkRows_len, mkRows_all, List.length_append, ↓Ev.P, Ev.Q, Bool.cond_true, Bool.cond_false, eq_self, forall_eq_or_imp, implies_true, forall_const, forall_eq, ↓reduceIte, reduceIte, Nat.reduceEqDiff, Nat.reduceAdd, reduceCtorEq, Nat.reduceSub, Int.reduceToNat, Int.reduceLE, Int.reduceLT, Int.reduceNeg, Nat.reduceBEq, Nat.reduceMul, Nat.reduceLeDiff, Nat.reduceMod, UInt8.reduceOfNat, Nat.reduceLT, Int.reduceEq, Int.reduceAdd, Int.reduceSub, Int.reduceMul]))
                          all_goals try omega
                          all_goals
                            generalize hY2 : mkL [62, 32] 43 L BN (at_ + 1) ms = Y2 at hY
                            have hms0 : ms.length ≤ 2147483648 := by omega
                            refine xLoop_intro (fun n2 st => ∃ (i : Nat) (ms : List Mk), i ≤ BN ∧ ms.length ≤ 2147483648 + i ∧ ((n2 = BN - i + 1 ∧ ∃ (at_ : Nat), at_ ≤ L.length ∧ mkL [62, 32] 43 L (BN - i) at_ ms = Y2 ∧ st = ⟨[(0, .ptr 0 0), (4, .ptr 1 0), (5, .ptr 2 0), (8, .d (.v (.int .i64 (i : Nat))))], 4, [(0, .cells t [.d (.sl (strRows L)), .d (.v (.int .i64 (at_ : Nat))), .d (.v (.int .i64 fa)), .d (.v (.int .i64 0))]), (1, .cells 47 [.d (.v (.int .i64 0)), .d (.v (.int .i64 0)), .d (.v (.int .i64 0)), .d (.v (.int .i64 0)), .d (.v (.slice none 0 0))]), (2, .cells 47 [.d (.v (.int .i64 A)), .d (.v (.int .i64 (AN : Nat))), .d (.v (.int .i64 B)), .d (.v (.int .i64 (BN : Nat))), .own 3]), (3, .row 103 2 (mkRows ms))]⟩) ∨ (n2 = 0 ∧ ∃ (a e : Int), ¬ e = 0 ∧ Y2 = .error (a, e) ∧ st = ⟨[(0, .ptr 0 0), (4, .ptr 1 0), (5, .ptr 2 0), (8, .d (.v (.int .i64 (i : Nat))))], 4, [(0, .cells t [.d (.sl (strRows L)), .d (.v (.int .i64 a)), .d (.v (.int .i64 a)), .d (.v (.int .i64 e))]), (1, .cells 47 [.d (.v (.int .i64 0)), .d (.v (.int .i64 0)), .d (.v (.int .i64 0)), .d (.v (.int .i64 0)), .d (.v (.slice none 0 0))]), (2, .cells 47 [.d (.v (.int .i64 A)), .d (.v (.int .i64 (AN : Nat))), .d (.v (.int .i64 B)), .d (.v (.int .i64 (BN : Nat))), .own 3]), (3, .row 103 2 (mkRows ms))]⟩))) (BN + 1) [0, 1, 2, 3] ?_ ?_ ?_
                            · simp -dsimp -implicitDefEqProofs only [↓Ev.xStp_eq, ↓Ev.P, Ev.Q, Bool.cond_true, Bool.cond_false, eq_self, forall_eq_or_imp, implies_true, forall_const, forall_eq, ↓reduceIte, reduceIte, Nat.reduceEqDiff, Nat.reduceAdd, reduceCtorEq, Nat.reduceSub, Int.reduceToNat, Int.reduceLE, Int.reduceLT, Int.reduceNeg, Nat.reduceBEq, Nat.reduceMul, Nat.reduceLeDiff, Nat.reduceMod, UInt8.reduceOfNat, Nat.reduceLT, Int.reduceEq, Int.reduceAdd, Int.reduceSub, Int.reduceMul]
                            · simp -dsimp -implicitDefEqProofs only [↓Ev.xStp_eq, ↓Ev.P, Ev.Q, Bool.cond_true, Bool.cond_false, eq_self, forall_eq_or_imp, implies_true, forall_const, forall_eq, ↓reduceIte, reduceIte, Nat.reduceEqDiff, Nat.reduceAdd, reduceCtorEq, Nat.reduceSub, Int.reduceToNat, Int.reduceLE, Int.reduceLT, Int.reduceNeg, Nat.reduceBEq, Nat.reduceMul, Nat.reduceLeDiff, Nat.reduceMod, UInt8.reduceOfNat, Nat.reduceLT, Int.reduceEq, Int.reduceAdd, Int.reduceSub, Int.reduceMul]
                              refine ⟨0, ms, by omega, by first | omega | simp, .inl ⟨by omega, (at_ + 1), by omega, hY2, ?_⟩⟩
                              all_goals rfl
                            · rintro n2 st2 ⟨i, ms, hi, hml, ⟨rfl, at_, hat, hgo, rfl⟩ | ⟨rfl, a, e, he, hYe, rfl⟩⟩
                              · by_cases hin : i < BN
                                · have hi3 : (i : Int) < (BN : Int) := by omega
                                  obtain ⟨m, hm⟩ : ∃ m, BN - i = m + 1 := ⟨BN - i - 1, by omega⟩
                                  rw [hm, mkL] at hgo
                                  have hp0 : (0 : Nat) < 2 := by omega
                                  by_cases hl : m = 0
                                  · have hl1 : ((i : Int) = (BN : Int) - 1) = True := eq_true (by omega)
                                    rw [decide_eq_true hl] at hgo
                                    cases hx : oneL [62, 32] L true at_ with
                                    | error xe =>
                                      obtain ⟨xa, xe⟩ := xe
                                      have hxe := oneL_err hx
                                      rw [hx] at hgo; dsimp only at hgo
                                      simp -dsimp -implicitDefEqProofs only [S55, S55_0, S55r1, S55_1, S55r2, S55_2, S55r3, S55_3, S55r4, S55_4, S55r5, S55_5, S55r6, S55_6, S55r7, S55_7, S55r8, R55, hi3, hl1, hx, hxe, impF, CNext, CFail, CMkd, mkdR, CCmdN, rdr, unStr_rows, strRows_len, mkRows_len, mkRows_all, List.length_append, ↓Ev.P, Ev.Q, Bool.cond_true, Bool.cond_false, eq_self, forall_eq_or_imp, implies_true, forall_const, forall_eq, ↓reduceIte, reduceIte, Nat.reduceEqDiff, Nat.reduceAdd, reduceCtorEq, Nat.reduceSub, Int.reduceToNat, Int.reduceLE, Int.reduceLT, Int.reduceNeg, Nat.reduceBEq, Nat.reduceMul, Nat.reduceLeDiff, Nat.reduceMod, UInt8.reduceOfNat, Nat.reduceLT, Int.reduceEq, Int.reduceAdd, Int.reduceSub, Int.reduceMul]
                                      repeat' (first | with_reducible assumption | refine And.intro ?_ ?_ | intro _ | (rw [Ev.xStp_eq]; simp -dsimp -implicitDefEqProofs only [S55, S55_0, S55r1, S55_1, S55r2, S55_2, S55r3, S55_3, S55r4, S55_4, S55r5, S55_5, S55r6, S55_6, S55r7, S55_7, S55r8, R55, hi3, hl1, hx, hxe, impF, CNext, CFail, CMkd, mkdR, CCmdN, rdr, unStr_rows, strRows_len, mkRows_len, mkRows_all, List.length_append, ↓Ev.P, Ev.Q, Bool.cond_true, Bool.cond_false, eq_self, forall_eq_or_imp, implies_true, forall_const, forall_eq, ↓reduceIte, reduceIte, Nat.reduceEqDiff, Nat.reduceAdd, reduceCtorEq, Nat.reduceSub, Int.reduceToNat, Int.reduceLE, Int.reduceLT, Int.reduceNeg, Nat.reduceBEq, Nat.reduceMul, Nat.reduceLeDiff, Nat.reduceMod, UInt8.reduceOfNat, Nat.reduceLT, Int.reduceEq, Int.reduceAdd, Int.reduceSub, Int.reduceMul]))
                                      all_goals try omega
                                      all_goals
                                        refine xAgain_intro 0 [0, 1, 2, 5] (by omega) (by simp -dsimp -implicitDefEqProofs only [↓Ev.xStp_eq, ↓Ev.P, Ev.Q, Bool.cond_true, Bool.cond_false, eq_self, forall_eq_or_imp, implies_true, forall_const, forall_eq, ↓reduceIte, reduceIte, Nat.reduceEqDiff, Nat.reduceAdd, reduceCtorEq, Nat.reduceSub, Int.reduceToNat, Int.reduceLE, Int.reduceLT, Int.reduceNeg, Nat.reduceBEq, Nat.reduceMul, Nat.reduceLeDiff, Nat.reduceMod, UInt8.reduceOfNat, Nat.reduceLT, Int.reduceEq, Int.reduceAdd, Int.reduceSub, Int.reduceMul]) ⟨i + 1, ms ++ [(43, [])], by omega, by rw [List.length_append, List.length_singleton]; omega, .inr ⟨rfl, xa, xe, hxe, hgo.symm, ?_⟩⟩
                                        rw [← mkRows_snoc]
                                        simp -dsimp -implicitDefEqProofs only [↓Ev.xStp_eq, ↓Ev.P, Ev.Q, Bool.cond_true, Bool.cond_false, eq_self, forall_eq_or_imp, implies_true, forall_const, forall_eq, ↓reduceIte, reduceIte, Nat.reduceEqDiff, Nat.reduceAdd, reduceCtorEq, Nat.reduceSub, Int.reduceToNat, Int.reduceLE, Int.reduceLT, Int.reduceNeg, Nat.reduceBEq, Nat.reduceMul, Nat.reduceLeDiff, Nat.reduceMod, UInt8.reduceOfNat, Nat.reduceLT, Int.reduceEq, Int.reduceAdd, Int.reduceSub, Int.reduceMul]
                                        all_goals rfl
                                    | ok x =>
                                      obtain ⟨w, a1⟩ := x
                                      have hle := oneL_le hx
                                      rw [hx] at hgo; dsimp only at hgo
                                      simp -dsimp -implicitDefEqProofs only [S55, S55_0, S55r1, S55_1, S55r2, S55_2, S55r3, S55_3, S55r4, S55_4, S55r5, S55_5, S55r6, S55_6, S55r7, S55_7, S55r8, R55, hi3, hl1, hx, impF, CNext, CFail, CMkd, mkdR, CCmdN, rdr, unStr_rows, strRows_len, mkRows_len, mkRows_all, List.length_append, ↓Ev.P, Ev.Q, Bool.cond_true, Bool.cond_false, eq_self, forall_eq_or_imp, implies_true, forall_const, forall_eq, ↓reduceIte, reduceIte, Nat.reduceEqDiff, Nat.reduceAdd, reduceCtorEq, Nat.reduceSub, Int.reduceToNat, Int.reduceLE, Int.reduceLT, Int.reduceNeg, Nat.reduceBEq, Nat.reduceMul, Nat.reduceLeDiff, Nat.reduceMod, UInt8.reduceOfNat, Nat.reduceLT, Int.reduceEq, Int.reduceAdd, Int.reduceSub, Int.reduceMul]
                                      repeat' (first | with_reducible assumption | refine And.intro ?_ ?_ | intro _ | (rw [Ev.xStp_eq]; simp -dsimp -implicitDefEqProofs only [S55, S55_0, S55r1, S55_1, S55r2, S55_2, S55r3, S55_3, S55r4, S55_4, S55r5, S55_5, S55r6, S55_6, S55r7, S55_7, S55r8, R55, hi3, hl1, hx, impF, CNext, CFail, CMkd, mkdR, CCmdN, rdr, unStr_rows, strRows_len, mkRows_len, mkRows_all, List.length_append, ↓Ev.P, Ev.Q, Bool.cond_true, Bool.cond_false, eq_self, forall_eq_or_imp, implies_true, forall_const, forall_eq, ↓reduceIte, reduceIte, Nat.reduceEqDiff, Nat.reduceAdd, reduceCtorEq, Nat.reduceSub, Int.reduceToNat, Int.reduceLE, Int.reduceLT, Int.reduceNeg, Nat.reduceBEq, Nat.reduceMul, Nat.reduceLeDiff, Nat.reduceMod, UInt8.reduceOfNat, Nat.reduceLT, Int.reduceEq, Int.reduceAdd, Int.reduceSub, Int.reduceMul]))
                                      all_goals try omega
                                      all_goals
                                        refine xAgain_intro (BN - (i + 1) + 1) [0, 1, 2, 5] (by omega) (by simp -dsimp -implicitDefEqProofs only [↓Ev.xStp_eq, ↓Ev.P, Ev.Q, Bool.cond_true, Bool.cond_false, eq_self, forall_eq_or_imp, implies_true, forall_const, forall_eq, ↓reduceIte, reduceIte, Nat.reduceEqDiff, Nat.reduceAdd, reduceCtorEq, Nat.reduceSub, Int.reduceToNat, Int.reduceLE, Int.reduceLT, Int.reduceNeg, Nat.reduceBEq, Nat.reduceMul, Nat.reduceLeDiff, Nat.reduceMod, UInt8.reduceOfNat, Nat.reduceLT, Int.reduceEq, Int.reduceAdd, Int.reduceSub, Int.reduceMul]) ⟨i + 1, ms ++ [(43, w)], by omega, by rw [List.length_append, List.length_singleton]; omega, .inl ⟨rfl, a1, hle.2, by rw [show BN - (i + 1) = m by omega]; exact hgo, ?_⟩⟩
                                        rw [← mkRows_snoc]
                                        simp -dsimp -implicitDefEqProofs only [↓Ev.xStp_eq, ↓Ev.P, Ev.Q, Bool.cond_true, Bool.cond_false, eq_self, forall_eq_or_imp, implies_true, forall_const, forall_eq, ↓reduceIte, reduceIte, Nat.reduceEqDiff, Nat.reduceAdd, reduceCtorEq, Nat.reduceSub, Int.reduceToNat, Int.reduceLE, Int.reduceLT, Int.reduceNeg, Nat.reduceBEq, Nat.reduceMul, Nat.reduceLeDiff, Nat.reduceMod, UInt8.reduceOfNat, Nat.reduceLT, Int.reduceEq, Int.reduceAdd, Int.reduceSub, Int.reduceMul]
                                        all_goals rfl
                                  · have hl1 : ((i : Int) = (BN : Int) - 1) = False := eq_false (by omega)
                                    rw [decide_eq_false hl] at hgo
                                    cases hx : oneL [62, 32] L false at_ with
                                    | error xe =>
                                      obtain ⟨xa, xe⟩ := xe
                                      have hxe := oneL_err hx
                                      rw [hx] at hgo; dsimp only at hgo
                                      simp -dsimp -implicitDefEqProofs only [S55, S55_0, S55r1, S55_1, S55r2, S55_2, S55r3, S55_3, S55r4, S55_4, S55r5, S55_5, S55r6, S55_6, S55r7, S55_7, S55r8, R55, hi3, hl1, hx, hxe, impF, CNext, CFail, CMkd, mkdR, CCmdN, rdr, unStr_rows, strRows_len, mkRows_len, mkRows_all, List.length_append, ↓Ev.P, Ev.Q, Bool.cond_true, Bool.cond_false, eq_self, forall_eq_or_imp, implies_true, forall_const, forall_eq, ↓reduceIte, reduceIte, Nat.reduceEqDiff, Nat.reduceAdd, reduceCtorEq, Nat.reduceSub, Int.reduceToNat, Int.reduceLE, Int.reduceLT, Int.reduceNeg, Nat.reduceBEq, Nat.reduceMul, Nat.reduceLeDiff, Nat.reduceMod, UInt8.reduceOfNat, Nat.reduceLT, Int.reduceEq, Int.reduceAdd, Int.reduceSub, Int.reduceMul]
                                      repeat' (first | with_reducible assumption | refine And.intro ?_ ?_ | intro _ | (rw [Ev.xStp_eq]; simp -dsimp -implicitDefEqProofs only [S55, S55_0, S55r1, S55_1, S55r2, S55_2, S55r3, S55_3, S55r4, S55_4, S55r5, S55_5, S55r6, S55_6, S55r7, S55_7, S55r8, R55, hi3, hl1, hx, hxe, impF, CNext, CFail, CMkd, mkdR, CCmdN, rdr, unStr_rows, strRows_len, mkRows_len, mkRows_all, List.length_append, ↓Ev.P, Ev.Q, Bool.cond_true, Bool.cond_false, eq_self, forall_eq_or_imp, implies_true, forall_const, forall_eq, ↓reduceIte, reduceIte, Nat.reduceEqDiff, Nat.reduceAdd, reduceCtorEq, Nat.reduceSub, Int.reduceToNat, Int.reduceLE, Int.reduceLT, Int.reduceNeg, Nat.reduceBEq, Nat.reduceMul, Nat.reduceLeDiff, Nat.reduceMod, UInt8.reduceOfNat, Nat.reduceLT, Int.reduceEq, Int.reduceAdd, Int.reduceSub, Int.reduceMul]))
                                      all_goals try omega
                                      all_goals
                                        refine xAgain_intro 0 [0, 1, 2, 5] (by omega) (by simp -dsimp -implicitDefEqProofs only [↓Ev.xStp_eq, ↓Ev.P, Ev.Q, Bool.cond_true, Bool.cond_false, eq_self, forall_eq_or_imp, implies_true, forall_const, forall_eq, ↓reduceIte, reduceIte, Nat.reduceEqDiff, Nat.reduceAdd, reduceCtorEq, Nat.reduceSub, Int.reduceToNat, Int.reduceLE, Int.reduceLT, Int.reduceNeg, Nat.reduceBEq, Nat.reduceMul, Nat.reduceLeDiff, Nat.reduceMod, UInt8.reduceOfNat, Nat.reduceLT, Int.reduceEq, Int.reduceAdd, Int.reduceSub, Int.reduceMul]) ⟨i + 1, ms ++ [(43, [])], by omega, by rw [List.length_append, List.length_singleton]; omega, .inr ⟨rfl, xa, xe, hxe, hgo.symm, ?_⟩⟩
                                        rw [← mkRows_snoc]
                                        simp -dsimp -implicitDefEqProofs only [↓Ev.xStp_eq, ↓Ev.P, Ev.Q, Bool.cond_true, Bool.cond_false, eq_self, forall_eq_or_imp, implies_true, forall_const, forall_eq, ↓reduceIte, reduceIte, Nat.reduceEqDiff, Nat.reduceAdd, reduceCtorEq, Nat.reduceSub, Int.reduceToNat, Int.reduceLE, Int.reduceLT, Int.reduceNeg, Nat.reduceBEq, Nat.reduceMul, Nat.reduceLeDiff, Nat.reduceMod, UInt8.reduceOfNat, Nat.reduceLT, Int.reduceEq, Int.reduceAdd, Int.reduceSub, Int.reduceMul]
                                        all_goals rfl
                                    | ok x =>
                                      obtain ⟨w, a1⟩ := x
                                      have hle := oneL_le hx
                                      rw [hx] at hgo; dsimp only at hgo
                                      simp -dsimp -implicitDefEqProofs only [S55, S55_0, S55r1, S55_1, S55r2, S55_2, S55r3, S55_3, S55r4, S55_4, S55r5, S55_5, S55r6, S55_6, S55r7, S55_7, S55r8, R55, hi3, hl1, hx, impF, CNext, CFail, CMkd, mkdR, CCmdN, rdr, unStr_rows, strRows_len, mkRows_len, mkRows_all, List.length_append, ↓Ev.P, Ev.Q, Bool.cond_true, Bool.cond_false, eq_self, forall_eq_or_imp, implies_true, forall_const, forall_eq, ↓reduceIte, reduceIte, Nat.reduceEqDiff, Nat.reduceAdd, reduceCtorEq, Nat.reduceSub, Int.reduceToNat, Int.reduceLE, Int.reduceLT, Int.reduceNeg, Nat.reduceBEq, Nat.reduceMul, Nat.reduceLeDiff, Nat.reduceMod, UInt8.reduceOfNat, Nat.reduceLT, Int.reduceEq, Int.reduceAdd, Int.reduceSub, Int.reduceMul]
                                      repeat' (first | with_reducible assumption | refine And.intro ?_ ?_ | intro _ | (rw [Ev.xStp_eq]; simp -dsimp -implicitDefEqProofs only [S55, S55_0, S55r1, S55_1, S55r2, S55_2, S55r3, S55_3, S55r4, S55_4, S55r5, S55_5, S55r6, S55_6, S55r7, S55_7, S55r8, R55, hi3, hl1, hx, impF, CNext, CFail, CMkd, mkdR, CCmdN, rdr, unStr_rows, strRows_len, mkRows_len, mkRows_all, List.length_append, ↓Ev.P, Ev.Q, Bool.cond_true, Bool.cond_false, eq_self, forall_eq_or_imp, implies_true, forall_const, forall_eq, ↓reduceIte, reduceIte, Nat.reduceEqDiff, Nat.reduceAdd, reduceCtorEq, Nat.reduceSub, Int.reduceToNat, Int.reduceLE, Int.reduceLT, Int.reduceNeg, Nat.reduceBEq, Nat.reduceMul, Nat.reduceLeDiff, Nat.reduceMod, UInt8.reduceOfNat, Nat.reduceLT, Int.reduceEq, Int.reduceAdd, Int.reduceSub, Int.reduceMul]))
                                      all_goals try omega
                                      all_goals
                                        refine xAgain_intro (BN - (i + 1) + 1) [0, 1, 2, 5] (by omega) (by simp -dsimp -implicitDefEqProofs only [↓Ev.xStp_eq, ↓Ev.P, Ev.Q, Bool.cond_true, Bool.cond_false, eq_self, forall_eq_or_imp, implies_true, forall_const, forall_eq, ↓reduceIte, reduceIte, Nat.reduceEqDiff, Nat.reduceAdd, reduceCtorEq, Nat.reduceSub, Int.reduceToNat, Int.reduceLE, Int.reduceLT, Int.reduceNeg, Nat.reduceBEq, Nat.reduceMul, Nat.reduceLeDiff, Nat.reduceMod, UInt8.reduceOfNat, Nat.reduceLT, Int.reduceEq, Int.reduceAdd, Int.reduceSub, Int.reduceMul]) ⟨i + 1, ms ++ [(43, w)], by omega, by rw [List.length_append, List.length_singleton]; omega, .inl ⟨rfl, a1, hle.2, by rw [show BN - (i + 1) = m by omega]; exact hgo, ?_⟩⟩
                                        rw [← mkRows_snoc]
                                        simp -dsimp -implicitDefEqProofs only [↓Ev.xStp_eq, ↓Ev.P, Ev.Q, Bool.cond_true, Bool.cond_false, eq_self, forall_eq_or_imp, implies_true, forall_const, forall_eq, ↓reduceIte, reduceIte, Nat.reduceEqDiff, Nat.reduceAdd, reduceCtorEq, Nat.reduceSub, Int.reduceToNat, Int.reduceLE, Int.reduceLT, Int.reduceNeg, Nat.reduceBEq, Nat.reduceMul, Nat.reduceLeDiff, Nat.reduceMod, UInt8.reduceOfNat, Nat.reduceLT, Int.reduceEq, Int.reduceAdd, Int.reduceSub, Int.reduceMul]
                                        all_goals rfl
                                · have hi3 : ¬ (i : Int) < (BN : Int) := by omega
                                  rw [show BN - i = 0 by omega, mkL] at hgo
                                  rw [← hgo] at hY; dsimp only at hY; subst hY; dsimp only [hkRK] at hk
                                  simp -dsimp -implicitDefEqProofs only [S55, S55_0, S55r1, S55_1, S55r2, S55_2, S55r3, S55_3, S55r4, S55_4, S55r5, S55_5, S55r6, S55_6, S55r7, S55_7, S55r8, R55, hi3, impF, CNext, CFail, CMkd, mkdR, CCmdN, rdr, unStr_rows, strRows_len, mkRows_len, mkRows_all, List.length_append, ↓Ev.P, Ev.Q, Bool.cond_true, Bool.cond_false, eq_self, forall_eq_or_imp, implies_true, forall_const, forall_eq, ↓reduceIte, reduceIte, Nat.reduceEqDiff, Nat.reduceAdd, reduceCtorEq, Nat.reduceSub, Int.reduceToNat, Int.reduceLE, Int.reduceLT, Int.reduceNeg, Nat.reduceBEq, Nat.reduceMul, Nat.reduceLeDiff, Nat.reduceMod, UInt8.reduceOfNat, Nat.reduceLT, Int.reduceEq, Int.reduceAdd, Int.reduceSub, Int.reduceMul]
                                  repeat' (first | with_reducible assumption | refine And.intro ?_ ?_ | intro _ | (rw [Ev.xStp_eq]; simp -dsimp -implicitDefEqProofs only [S55, S55_0, S55r1, S55_1, S55r2, S55_2, S55r3, S55_3, S55r4, S55_4, S55r5, S55_5, S55r6, S55_6, S55r7, S55_7, S55r8, R55, hi3, impF, CNext, CFail, CMkd, mkdR, CCmdN, rdr, unStr_rows, strRows_len, mkRows_len, mkRows_all, List.length_append, ↓Ev.P, Ev.Q, Bool.cond_true, Bool.cond_false, eq_self, forall_eq_or_imp, implies_true, forall_const, forall_eq, ↓reduceIte, reduceIte, Nat.reduceEqDiff, Nat.reduceAdd, reduceCtorEq, Nat.reduceSub, Int.reduceToNat, Int.reduceLE, Int.reduceLT, Int.reduceNeg, Nat.reduceBEq, Nat.reduceMul, Nat.reduceLeDiff, Nat.reduceMod, UInt8.reduceOfNat, Nat.reduceLT, Int.reduceEq, Int.reduceAdd, Int.reduceSub, Int.reduceMul]))
                                  all_goals try omega
                                  all_goals exact hk
                              · have _t := trivial
                                rw [hYe] at hY; dsimp only at hY; subst hY; dsimp only [hkRK] at hk
                                have hml2 : ms.length ≤ 8589934592 := by omega
                                simp -dsimp -implicitDefEqProofs only [S55, S55_0, S55r1, S55_1, S55r2, S55_2, S55r3, S55_3, S55r4, S55_4, S55r5, S55_5, S55r6, S55_6, S55r7, S55_7, S55r8, R55, he, impF, CNext, CFail, CMkd, mkdR, CCmdN, rdr, unStr_rows, strRows_len, mkRows_len, mkRows_all, List.length_append, ↓Ev.P, Ev.Q, Bool.cond_true, Bool.cond_false, eq_self, forall_eq_or_imp, implies_true, forall_const, forall_eq, ↓reduceIte, reduceIte, Nat.reduceEqDiff, Nat.reduceAdd, reduceCtorEq, Nat.reduceSub, Int.reduceToNat, Int.reduceLE, Int.reduceLT, Int.reduceNeg, Nat.reduceBEq, Nat.reduceMul, Nat.reduceLeDiff, Nat.reduceMod, UInt8.reduceOfNat, Nat.reduceLT, Int.reduceEq, Int.reduceAdd, Int.reduceSub, Int.reduceMul]
                                repeat' (first | with_reducible assumption | refine And.intro ?_ ?_ | intro _ | (rw [Ev.xStp_eq]; simp -dsimp -implicitDefEqProofs only [S55, S55_0, S55r1, S55_1, S55r2, S55_2, S55r3, S55_3, S55r4, S55_4, S55r5, S55_5, S55r6, S55_6, S55r7, S55_7, S55r8, R55, he, impF, CNext, CFail, CMkd, mkdR, CCmdN, rdr, unStr_rows, strRows_len, mkRows_len, mkRows_all, List.length_append, ↓Ev.P, Ev.Q, Bool.cond_true, Bool.cond_false, eq_self, forall_eq_or_imp, implies_true, forall_const, forall_eq, ↓reduceIte, reduceIte, Nat.reduceEqDiff, Nat.reduceAdd, reduceCtorEq, Nat.reduceSub, Int.reduceToNat, Int.reduceLE, Int.reduceLT, Int.reduceNeg, Nat.reduceBEq, Nat.reduceMul, Nat.reduceLeDiff, Nat.reduceMod, UInt8.reduceOfNat, Nat.reduceLT, Int.reduceEq, Int.reduceAdd, Int.reduceSub, Int.reduceMul]))
                                all_goals try omega
                                all_goals exact hk _ _ _ _ ms hml2
                        · rw [if_neg hds] at hY; dsimp only at hY; subst hY; dsimp only [hkRK] at hk
                          simp only [ec3] at hk
                          have hml2 : ms.length ≤ 8589934592 := by omega
                          have he : ¬ (3 : Int) = 0 := by decide
                          simp -dsimp -implicitDefEqProofs only [S55, S55_0, S55r1, S55_1, S55r2, S55_2, S55r3, S55_3, S55r4, S55_4, S55r5, S55_5, S55r6, S55_6, S55r7, S55_7, S55r8, R55, hi3, hd1, hd2, hn, hds, impF, CNext, CFail, CMkd, mkdR, CCmdN, rdr, unStr_rows, strRows_len, mkRows_len, mkRows_all, List.length_append, ↓Ev.P, Ev.Q, Bool.cond_true, Bool.cond_false, eq_self, forall_eq_or_imp, implies_true, forall_const, forall_eq, ↓reduceIte, reduceIte, Nat.reduceEqDiff, Nat.reduceAdd, reduceCtorEq, Nat.reduceSub, Int.reduceToNat, Int.reduceLE, Int.reduceLT, Int.reduceNeg, Nat.reduceBEq, Nat.reduceMul, Nat.reduceLeDiff, Nat.reduceMod, UInt8.reduceOfNat, Nat.reduceLT, Int.reduceEq, Int.reduceAdd, Int.reduceSub, Int.reduceMul]
                          repeat' (first | with_reducible assumption | refine And.intro ?_ ?_ | intro _ | (rw [Ev.xStp_eq]; simp -dsimp -implicitDefEqProofs only [S55, S55_0, S55r1, S55_1, S55r2, S55_2, S55r3, S55_3, S55r4, S55_4, S55r5, S55_5, S55r6, S55_6, S55r7, S55_7, S55r8, R55, hi3, hd1, hd2, hn, hds, impF, CNext, CFail, CMkd, mkdR, CCmdN, rdr, unStr_rows, strRows_len, mkRows_len, mkRows_all, List.length_append, ↓Ev.P, Ev.Q, Bool.cond_true, Bool.cond_false, eq_self, forall_eq_or_imp, implies_true, forall_const, forall_eq, ↓reduceIte, reduceIte, Nat.reduceEqDiff, Nat.reduceAdd, reduceCtorEq, Nat.reduceSub, Int.reduceToNat, Int.reduceLE, Int.reduceLT, Int.reduceNeg, Nat.reduceBEq, Nat.reduceMul, Nat.reduceLeDiff, Nat.reduceMod, UInt8.reduceOfNat, Nat.reduceLT, Int.reduceEq, Int.reduceAdd, Int.reduceSub, Int.reduceMul]))
                          all_goals try omega
                          all_goals
                            refine xLoop_intro (fun n2 st => n2 = 0 ∧ st = ⟨[(0, .ptr 0 0), (4, .ptr 1 0), (5, .ptr 2 0), (8, .d (.v (.int .i64 ((0 : Nat) : Int))))], 4, [(0, .cells t [.d (.sl (strRows L)), .d (.v (.int .i64 ((at_ : Int) + 1))), .d (.v (.int .i64 ((at_ : Int) + 1))), .d (.v (.int .i64 3))]), (1, .cells 47 [.d (.v (.int .i64 0)), .d (.v (.int .i64 0)), .d (.v (.int .i64 0)), .d (.v (.int .i64 0)), .d (.v (.slice none 0 0))]), (2, .cells 47 [.d (.v (.int .i64 A)), .d (.v (.int .i64 (AN : Nat))), .d (.v (.int .i64 B)), .d (.v (.int .i64 (BN : Nat))), .own 3]), (3, .row 103 2 (mkRows ms))]⟩) 0 [0, 1, 2, 3] ?_ ?_ ?_
                            · simp -dsimp -implicitDefEqProofs only [↓Ev.xStp_eq, ↓Ev.P, Ev.Q, Bool.cond_true, Bool.cond_false, eq_self, forall_eq_or_imp, implies_true, forall_const, forall_eq, ↓reduceIte, reduceIte, Nat.reduceEqDiff, Nat.reduceAdd, reduceCtorEq, Nat.reduceSub, Int.reduceToNat, Int.reduceLE, Int.reduceLT, Int.reduceNeg, Nat.reduceBEq, Nat.reduceMul, Nat.reduceLeDiff, Nat.reduceMod, UInt8.reduceOfNat, Nat.reduceLT, Int.reduceEq, Int.reduceAdd, Int.reduceSub, Int.reduceMul]
                            · simp -dsimp -implicitDefEqProofs only [↓Ev.xStp_eq, ↓Ev.P, Ev.Q, Bool.cond_true, Bool.cond_false, eq_self, forall_eq_or_imp, implies_true, forall_const, forall_eq, ↓reduceIte, reduceIte, Nat.reduceEqDiff, Nat.reduceAdd, reduceCtorEq, Nat.reduceSub, Int.reduceToNat, Int.reduceLE, Int.reduceLT, Int.reduceNeg, Nat.reduceBEq, Nat.reduceMul, Nat.reduceLeDiff, Nat.reduceMod, UInt8.reduceOfNat, Nat.reduceLT, Int.reduceEq, Int.reduceAdd, Int.reduceSub, Int.reduceMul]
                              all_goals first | rfl | exact ⟨rfl, rfl⟩ | trivial
                            · rintro n2 st2 ⟨rfl, rfl⟩
                              simp -dsimp -implicitDefEqProofs only [S55, S55_0, S55r1, S55_1, S55r2, S55_2, S55r3, S55_3, S55r4, S55_4, S55r5, S55_5, S55r6, S55_6, S55r7, S55_7, S55r8, R55, he, impF, CNext, CFail, CMkd, mkdR, CCmdN, rdr, unStr_rows, strRows_len, mkRows_len, mkRows_all, List.length_append, ↓Ev.P, Ev.Q, Bool.cond_true, Bool.cond_false, eq_self, forall_eq_or_imp, implies_true, forall_const, forall_eq, ↓reduceIte, reduceIte, Nat.reduceEqDiff, Nat.reduceAdd, reduceCtorEq, Nat.reduceSub, Int.reduceToNat, Int.reduceLE, Int.reduceLT, Int.reduceNeg, Nat.reduceBEq, Nat.reduceMul, Nat.reduceLeDiff, Nat.reduceMod, UInt8.reduceOfNat, Nat.reduceLT, Int.reduceEq, Int.reduceAdd, Int.reduceSub, Int.reduceMul]
                              repeat' (first | with_reducible assumption | refine And.intro ?_ ?_ | intro _ | (rw [Ev.xStp_eq]; simp -dsimp -implicitDefEqProofs only [S55, S55_0, S55r1, S55_1, S55r2, S55_2, S55r3, S55_3, S55r4, S55_4, S55r5, S55_5, S55r6, S55_6, S55r7, S55_7, S55r8, R55, he, impF, CNext, CFail, CMkd, mkdR, CCmdN, rdr, unStr_rows, strRows_len, mkRows_len, mkRows_all, List.length_append, ↓Ev.P, Ev.Q, Bool.cond_true, Bool.cond_false, eq_self, forall_eq_or_imp, implies_true, forall_const, forall_eq, ↓reduceIte, reduceIte, Nat.reduceEqDiff, Nat.reduceAdd, reduceCtorEq, Nat.reduceSub, Int.reduceToNat, Int.reduceLE, Int.reduceLT, Int.reduceNeg, Nat.reduceBEq, Nat.reduceMul, Nat.reduceLeDiff, Nat.reduceMod, UInt8.reduceOfNat, Nat.reduceLT, Int.reduceEq, Int.reduceAdd, Int.reduceSub, Int.reduceMul]))
                              all_goals try omega
                              all_goals exact hk _ _ _ _ ms hml2
                    · rw [if_neg (fun h => hd2 h.2)] at hY; dsimp only at hY
                      simp -dsimp -implicitDefEqProofs only [S55, S55_0, S55r1, S55_1, S55r2, S55_2, S55r3, S55_3, S55r4, S55_4, S55r5, S55_5, S55r6, S55_6, S55r7, S55_7, S55r8, R55, hi3, hd1, hd2, impF, CNext, CFail, CMkd, mkdR, CCmdN, rdr, unStr_rows, strRows_len, mkRows_len, mkRows_all, List.length_append, ↓Ev.P, Ev.Q, Bool.cond_true, Bool.cond_false, eq_self, forall_eq_or_imp, implies_true, forall_const, forall_eq, ↓reduceIte, reduceIte, Nat.reduceEqDiff, Nat.reduceAdd, reduceCtorEq, Nat.reduceSub, Int.reduceToNat, Int.reduceLE, Int.reduceLT, Int.reduceNeg, Nat.reduceBEq, Nat.reduceMul, Nat.reduceLeDiff, Nat.reduceMod, UInt8.reduceOfNat, Nat.reduceLT, Int.reduceEq, Int.reduceAdd, Int.reduceSub, Int.reduceMul]
                      repeat' (first | with_reducible assumption | refine And.intro ?_ ?_ | intro _ | (rw [Ev.xStp_eq]; simp -dsimp -implicitDefEqProofs only [S55, S55_0, S55r1, S55_1, S55r2, S55_2, S55r3, S55_3, S55r4, S55_4, S55r5, S55_5, S55r6, S55_6, S55r7, S55_7, S55r8, R55, hi3, hd1, hd2, impF, CNext, CFail, CMkd, mkdR, CCmdN, rdr, unStr_rows, strRows_len, mkRows_len, mkRows_all, List.length_append, ↓Ev.P, Ev.Q, Bool.cond_true, Bool.cond_false, eq_self, forall_eq_or_imp, implies_true, forall_const, forall_eq, ↓reduceIte, reduceIte, Nat.reduceEqDiff, Nat.reduceAdd, reduceCtorEq, Nat.reduceSub, Int.reduceToNat, Int.reduceLE, Int.reduceLT, Int.reduceNeg, Nat.reduceBEq, Nat.reduceMul, Nat.reduceLeDiff, Nat.reduceMod, UInt8.reduceOfNat, Nat.reduceLT, Int.reduceEq, Int.reduceAdd, Int.reduceSub, Int.reduceMul]))
                      all_goals try omega
                      all_goals
                        generalize hY2 : mkL [62, 32] 43 L BN at_ ms = Y2 at hY
                        have hms0 : ms.length ≤ 2147483648 := by omega
                        refine xLoop_intro (fun n2 st => ∃ (i : Nat) (ms : List Mk), i ≤ BN ∧ ms.length ≤ 2147483648 + i ∧ ((n2 = BN - i + 1 ∧ ∃ (at_ : Nat), at_ ≤ L.length ∧ mkL [62, 32] 43 L (BN - i) at_ ms = Y2 ∧ st = ⟨[(0, .ptr 0 0), (4, .ptr 1 0), (5, .ptr 2 0), (8, .d (.v (.int .i64 (i : Nat))))], 4, [(0, .cells t [.d (.sl (strRows L)), .d (.v (.int .i64 (at_ : Nat))), .d (.v (.int .i64 fa)), .d (.v (.int .i64 0))]), (1, .cells 47 [.d (.v (.int .i64 0)), .d (.v (.int .i64 0)), .d (.v (.int .i64 0)), .d (.v (.int .i64 0)), .d (.v (.slice none 0 0))]), (2, .cells 47 [.d (.v (.int .i64 A)), .d (.v (.int .i64 (AN : Nat))), .d (.v (.int .i64 B)), .d (.v (.int .i64 (BN : Nat))), .own 3]), (3, .row 103 2 (mkRows ms))]⟩) ∨ (n2 = 0 ∧ ∃ (a e : Int), ¬ e = 0 ∧ Y2 = .error (a, e) ∧ st = ⟨[(0, .ptr 0 0), (4, .ptr 1 0), (5, .ptr 2 0), (8, .d (.v (.int .i64 (i : Nat))))], 4, [(0, .cells t [.d (.sl (strRows L)), .d (.v (.int .i64 a)), .d (.v (.int .i64 a)), .d (.v (.int .i64 e))]), (1, .cells 47 [.d (.v (.int .i64 0)), .d (.v (.int .i64 0)), .d (.v (.int .i64 0)), .d (.v (.int .i64 0)), .d (.v (.slice none 0 0))]), (2, .cells 47 [.d (.v (.int .i64 A)), .d (.v (.int .i64 (AN : Nat))), .d (.v (.int .i64 B)), .d (.v (.int .i64 (BN : Nat))), .own 3]), (3, .row 103 2 (mkRows ms))]⟩))) (BN + 1) [0, 1, 2, 3] ?_ ?_ ?_
                        · simp -dsimp -implicitDefEqProofs only [↓Ev.xStp_eq, ↓Ev.P, Ev.Q, Bool.cond_true, Bool.cond_false, eq_self, forall_eq_or_imp, implies_true, forall_const, forall_eq, ↓reduceIte, reduceIte, Nat.reduceEqDiff, Nat.reduceAdd, reduceCtorEq, Nat.reduceSub, Int.reduceToNat, Int.reduceLE, Int.reduceLT, Int.reduceNeg, Nat.reduceBEq, Nat.reduceMul, Nat.reduceLeDiff, Nat.reduceMod, UInt8.reduceOfNat, Nat.reduceLT, Int.reduceEq, Int.reduceAdd, Int.reduceSub, Int.reduceMul]
                        · simp -dsimp -implicitDefEqProofs only [↓Ev.xStp_eq, ↓Ev.P, Ev.Q, Bool.cond_true, Bool.cond_false, eq_self, forall_eq_or_imp, implies_true, forall_const, forall_eq, ↓reduceIte, reduceIte, Nat.reduceEqDiff, Nat.reduceAdd, reduceCtorEq, Nat.reduceSub, Int.reduceToNat, Int.reduceLE, Int.reduceLT, Int.reduceNeg, Nat.reduceBEq, Nat.reduceMul, Nat.reduceLeDiff, Nat.reduceMod, UInt8.reduceOfNat, Nat.reduceLT, Int.reduceEq, Int.reduceAdd, Int.reduceSub, Int.reduceMul]
                          refine ⟨0, ms, by omega, by first | omega | simp, .inl ⟨by omega, at_, by omega, hY2, ?_⟩⟩
                          all_goals rfl
                        · rintro n2 st2 ⟨i, ms, hi, hml, ⟨rfl, at_, hat, hgo, rfl⟩ | ⟨rfl, a, e, he, hYe, rfl⟩⟩
                          · by_cases hin : i < BN
                            · have hi3 : (i : Int) < (BN : Int) := by omega
                              obtain ⟨m, hm⟩ : ∃ m, BN - i = m + 1 := ⟨BN - i - 1, by omega⟩
                              rw [hm, mkL] at hgo
                              have hp0 : (0 : Nat) < 2 := by omega
                              by_cases hl : m = 0
                              · have hl1 : ((i : Int) = (BN : Int) - 1) = True := eq_true (by omega)
                                rw [decide_eq_true hl] at hgo
                                cases hx : oneL [62, 32] L true at_ with
                                | error xe =>
                                  obtain ⟨xa, xe⟩ := xe
                                  have hxe := oneL_err hx
                                  rw [hx] at hgo; dsimp only at hgo
                                  simp -dsimp -implicitDefEqProofs only [S55, S55_0, S55r1, S55_1, S55r2, S55_2, S55r3, S55_3, S55r4, S55_4, S55r5, S55_5, S55r6, S55_6, S55r7, S55_7, S55r8, R55, hi3, hl1, hx, hxe, impF, CNext, CFail, CMkd, mkdR, CCmdN, rdr, unStr_rows, strRows_len, mkRows_len, mkRows_all, List.length_append, ↓Ev.P, Ev.Q, Bool.cond_true, Bool.cond_false, eq_self, forall_eq_or_imp, implies_true, forall_const, forall_eq, ↓reduceIte, reduceIte, Nat.reduceEqDiff, Nat.reduceAdd, reduceCtorEq, Nat.reduceSub, Int.reduceToNat, Int.reduceLE, Int.reduceLT, Int.reduceNeg, Nat.reduceBEq, Nat.reduceMul, Nat.reduceLeDiff, Nat.reduceMod, UInt8.reduceOfNat, Nat.reduceLT, Int.reduceEq, Int.reduceAdd, Int.reduceSub, Int.reduceMul]
                                  repeat' (first | with_reducible assumption | refine And.intro ?_ ?_ | intro _ | (rw [Ev.xStp_eq]; simp -dsimp -implicitDefEqProofs only [S55, S55_0, S55r1, S55_1, S55r2, S55_2, S55r3, S55_3, S55r4, S55_4, S55r5, S55_5, S55r6, S55_6, S55r7, S55_7, S55r8, R55, hi3, hl1, hx, hxe, impF, CNext, CFail, CMkd, mkdR, CCmdN, rdr, unStr_rows, strRows_len, mkRows_len, mkRows_all, List.length_append, ↓Ev.P, Ev.Q, Bool.cond_true, Bool.cond_false, eq_self, forall_eq_or_imp, implies_true, forall_const, forall_eq, ↓reduceIte, reduceIte, Nat.reduceEqDiff, Nat.reduceAdd, reduceCtorEq, Nat.reduceSub, Int.reduceToNat, Int.reduceLE, Int.reduceLT, Int.reduceNeg, Nat.reduceBEq, Nat.reduceMul, Nat.reduceLeDiff, Nat.reduceMod, UInt8.reduceOfNat, Nat.reduceLT, Int.reduceEq, Int.reduceAdd, Int.reduceSub, Int.reduceMul]))
                                  all_goals try omega
                                  all_goals
                                    refine xAgain_intro 0 [0, 1, 2, 5] (by omega) (by simp -dsimp -implicitDefEqProofs only [↓Ev.xStp_eq, ↓Ev.P, Ev.Q, Bool.cond_true, Bool.cond_false, eq_self, forall_eq_or_imp, implies_true, forall_const, forall_eq, ↓reduceIte, reduceIte, Nat.reduceEqDiff, Nat.reduceAdd, reduceCtorEq, Nat.reduceSub, Int.reduceToNat, Int.reduceLE, Int.reduceLT, Int.reduceNeg, Nat.reduceBEq, Nat.reduceMul, Nat.reduceLeDiff, Nat.reduceMod, UInt8.reduceOfNat, Nat.reduceLT, Int.reduceEq, Int.reduceAdd, Int.reduceSub, Int.reduceMul]) ⟨i + 1, ms ++ [(43, [])], by omega, by rw [List.length_append, List.length_singleton]; omega, .inr ⟨rfl, xa, xe, hxe, hgo.symm, ?_⟩⟩
                                    rw [← mkRows_snoc]
                                    simp -dsimp -implicitDefEqProofs only [↓Ev.xStp_eq, ↓Ev.P, Ev.Q, Bool.cond_true, Bool.cond_false, eq_self, forall_eq_or_imp, implies_true, forall_const, forall_eq, ↓reduceIte, reduceIte, Nat.reduceEqDiff, Nat.reduceAdd, reduceCtorEq, Nat.reduceSub, Int.reduceToNat, Int.reduceLE, Int.reduceLT, Int.reduceNeg, Nat.reduceBEq, Nat.reduceMul, Nat.reduceLeDiff, Nat.reduceMod, UInt8.reduceOfNat, Nat.reduceLT, Int.reduceEq, Int.reduceAdd, Int.reduceSub, Int.reduceMul]
                                    all_goals rfl
                                | ok x =>
                                  obtain ⟨w, a1⟩ := x
                                  have hle := oneL_le hx
                                  rw [hx] at hgo; dsimp only at hgo
                                  simp -dsimp -implicitDefEqProofs only [S55, S55_0, S55r1, S55_1, S55r2, S55_2, S55r3, S55_3, S55r4, S55_4, S55r5, S55_5, S55r6, S55_6, S55r7, S55_7, S55r8, R55, hi3, hl1, hx, impF, CNext, CFail, CMkd, mkdR, CCmdN, rdr, unStr_rows, strRows_len, mkRows_len, mkRows_all, List.length_append, ↓Ev.P, Ev.Q, Bool.cond_true, Bool.cond_false, eq_self, forall_eq_or_imp, implies_true, forall_const, forall_eq, ↓reduceIte, reduceIte, Nat.reduceEqDiff, Nat.reduceAdd, reduceCtorEq, Nat.reduceSub, Int.reduceToNat, Int.reduceLE, Int.reduceLT, Int.reduceNeg, Nat.reduceBEq, Nat.reduceMul, Nat.reduceLeDiff, Nat.reduceMod, UInt8.reduceOfNat, Nat.reduceLT, Int.reduceEq, Int.reduceAdd, Int.reduceSub, Int.reduceMul]
                                  repeat' (first | with_reducible assumption | refine And.intro ?_ ?_ | intro _ | (rw [Ev.xStp_eq]; simp -dsimp -implicitDefEqProofs only [S55, S55_0, S55r1, S55_1, S55r2, S55_2, S55r3, S55_3, S55r4, S55_4, S55r5, S55_5, S55r6, S55_6, S55r7, S55_7, S55r8, R55, hi3, hl1, hx, impF, CNext, CFail, CMkd, mkdR, CCmdN, rdr, unStr_rows, strRows_len, mkRows_len, mkRows_all, List.length_append, ↓Ev.P, Ev.Q, Bool.cond_true, Bool.cond_false, eq_self, forall_eq_or_imp, implies_true, forall_const, forall_eq, ↓reduceIte, reduceIte, Nat.reduceEqDiff, Nat.reduceAdd, reduceCtorEq, Nat.reduceSub, Int.reduceToNat, Int.reduceLE, Int.reduceLT, Int.reduceNeg, Nat.reduceBEq, Nat.reduceMul, Nat.reduceLeDiff, Nat.reduceMod, UInt8.reduceOfNat, Nat.reduceLT, Int.reduceEq, Int.reduceAdd, Int.reduceSub, Int.reduceMul]))
                                  all_goals try omega
                                  all_goals
                                    refine xAgain_intro (BN - (i + 1) + 1) [0, 1, 2, 5] (by omega) (by simp -dsimp -implicitDefEqProofs only [↓Ev.xStp_eq, ↓Ev.P, Ev.Q, Bool.cond_true, Bool.cond_false, eq_self, forall_eq_or_imp, implies_true, forall_const, forall_eq, ↓reduceIte, reduceIte, Nat.reduceEqDiff, Nat.reduceAdd, reduceCtorEq, Nat.reduceSub, Int.reduceToNat, Int.reduceLE, Int.reduceLT, Int.reduceNeg, Nat.reduceBEq, Nat.reduceMul, Nat.reduceLeDiff, Nat.reduceMod, UInt8.reduceOfNat, Nat.reduceLT, Int.reduceEq, Int.reduceAdd, Int.reduceSub, Int.reduceMul]) ⟨i + 1, ms ++ [(43, w)], by omega, by rw [List.length_append, List.length_singleton]; omega, .inl ⟨rfl, a1, hle.2, by rw [show BN - (i + 1) = m by omega]; exact hgo, ?_⟩⟩
                                    rw [← mkRows_snoc]
                                    simp -dsimp -implicitDefEqProofs only [↓Ev.xStp_eq, ↓Ev.P, Ev.Q, Bool.cond_true, Bool.cond_false, eq_self, forall_eq_or_imp, implies_true, forall_const, forall_eq, ↓reduceIte, reduceIte, Nat.reduceEqDiff, Nat.reduceAdd, reduceCtorEq, Nat.reduceSub, Int.reduceToNat, Int.reduceLE, Int.reduceLT, Int.reduceNeg, Nat.reduceBEq, Nat.reduceMul, Nat.reduceLeDiff, Nat.reduceMod, UInt8.reduceOfNat, Nat.reduceLT, Int.reduceEq, Int.reduceAdd, Int.reduceSub, Int.reduceMul]
                                    all_goals rfl
                              · have hl1 : ((i : Int) = (BN : Int) - 1) = False := eq_false (by omega)
                                rw [decide_eq_false hl] at hgo
                                cases hx : oneL [62, 32] L false at_ with
                                | error xe =>
                                  obtain ⟨xa, xe⟩ := xe
                                  have hxe := oneL_err hx
                                  rw [hx] at hgo; dsimp only at hgo
                                  simp -dsimp -implicitDefEqProofs only [S55, S55_0, S55r1, S55_1, S55r2, S55_2, S55r3, S55_3, S55r4, S55_4, S55r5, S55_5, S55r6, S55_6, S55r7, S55_7, S55r8, R55, hi3, hl1, hx, hxe, impF, CNext, CFail, CMkd, mkdR, CCmdN, rdr, unStr_rows, strRows_len, mkRows_len, mkRows_all, List.length_append, ↓Ev.P, Ev.Q, Bool.cond_true, Bool.cond_false, eq_self, forall_eq_or_imp, implies_true, forall_const, forall_eq, ↓reduceIte, reduceIte, Nat.reduceEqDiff, Nat.reduceAdd, reduceCtorEq, Nat.reduceSub, Int.reduceToNat, Int.reduceLE, Int.reduceLT, Int.reduceNeg, Nat.reduceBEq, Nat.reduceMul, Nat.reduceLeDiff, Nat.reduceMod, UInt8.reduceOfNat, Nat.reduceLT, Int.reduceEq, Int.reduceAdd, Int.reduceSub, Int.reduceMul]
                                  repeat' (first | with_reducible assumption | refine And.intro ?_ ?_ | intro _ | (rw [Ev.xStp_eq]; simp -dsimp -implicitDefEqProofs only [S55, S55_0, S55r1, S55_1, S55r2, S55_2, S55r3, S55_3, S55r4, S55_4, S55r5, S55_5, S55r6, S55_6, S55r7, S55_7, S55r8, R55, hi3, hl1, hx, hxe, impF, CNext, CFail, CMkd, mkdR, CCmdN, rdr, unStr_rows, strRows_len, mkRows_len, mkRows_all, List.length_append, ↓Ev.P, Ev.Q, Bool.cond_true, Bool.cond_false, eq_self, forall_eq_or_imp, implies_true, forall_const, forall_eq, ↓reduceIte, reduceIte, Nat.reduceEqDiff, Nat.reduceAdd, reduceCtorEq, Nat.reduceSub, Int.reduceToNat, Int.reduceLE, Int.reduceLT, Int.reduceNeg, Nat.reduceBEq, Nat.reduceMul, Nat.reduceLeDiff, Nat.reduceMod, UInt8.reduceOfNat, Nat.reduceLT, Int.reduceEq, Int.reduceAdd, Int.reduceSub, Int.reduceMul]))
                                  all_goals try omega
                                  all_goals
                                    refine xAgain_intro 0 [0, 1, 2, 5] (by omega) (by simp -dsimp -implicitDefEqProofs only [↓Ev.xStp_eq, ↓Ev.P, Ev.Q, Bool.cond_true, Bool.cond_false, eq_self, forall_eq_or_imp, implies_true, forall_const, forall_eq, ↓reduceIte, reduceIte, Nat.reduceEqDiff, Nat.reduceAdd, reduceCtorEq, Nat.reduceSub, Int.reduceToNat, Int.reduceLE, Int.reduceLT, Int.reduceNeg, Nat.reduceBEq, Nat.reduceMul, Nat.reduceLeDiff, Nat.reduceMod, UInt8.reduceOfNat, Nat.reduceLT, Int.reduceEq, Int.reduceAdd, Int.reduceSub, Int.reduceMul]) ⟨i + 1, ms ++ [(43, [])], by omega, by rw [List.length_append, List.length_singleton]; omega, .inr ⟨rfl, xa, xe, hxe, hgo.symm, ?_⟩⟩
                                    rw [← mkRows_snoc]
                                    simp -dsimp -implicitDefEqProofs only [↓Ev.xStp_eq, ↓Ev.P, Ev.Q, Bool.cond_true, Bool.cond_false, eq_self, forall_eq_or_imp, implies_true, forall_const, forall_eq, ↓reduceIte, reduceIte, Nat.reduceEqDiff, Nat.reduceAdd, reduceCtorEq, Nat.reduceSub, Int.reduceToNat, Int.reduceLE, Int.reduceLT, Int.reduceNeg, Nat.reduceBEq, Nat.reduceMul, Nat.reduceLeDiff, Nat.reduceMod, UInt8.reduceOfNat, Nat.reduceLT, Int.reduceEq, Int.reduceAdd, Int.reduceSub, Int.reduceMul]
                                    all_goals rfl
                                | ok x =>
                                  obtain ⟨w, a1⟩ := x
                                  have hle := oneL_le hx
                                  rw [hx] at hgo; dsimp only at hgo
                                  simp -dsimp -implicitDefEqProofs only [S55, S55_0, S55r1, S55_1, S55r2, S55_2, S55r3, S55_3, S55r4, S55_4, S55r5, S55_5, S55r6, S55_6, S55r7, S55_7, S55r8, R55, hi3, hl1, hx, impF, CNext, CFail, CMkd, mkdR, CCmdN, rdr, unStr_rows, strRows_len, mkRows_len, mkRows_all, List.length_append, ↓Ev.P, Ev.Q, Bool.cond_true, Bool.cond_false, eq_self, forall_eq_or_imp, implies_true, forall_const, forall_eq, ↓reduceIte, reduceIte, Nat.reduceEqDiff, Nat.reduceAdd, reduceCtorEq, Nat.reduceSub, Int.reduceToNat, Int.reduceLE, Int.reduceLT, Int.reduceNeg, Nat.reduceBEq, Nat.reduceMul, Nat.reduceLeDiff, Nat.reduceMod, UInt8.reduceOfNat, Nat.reduceLT, Int.reduceEq, Int.reduceAdd, Int.reduceSub, Int.reduceMul]
                                  repeat' (first | with_reducible assumption | refine And.intro ?_ ?_ | intro _ | (rw [Ev.xStp_eq]; simp -dsimp -implicitDefEqProofs only [S55, S55_0, S55r1, S55_1, S55r2, S55_2, S55r3, S55_3, S55r4, S55_4, S55r5, S55_5, S55r6, S55_6, S55r7, S55_7, S55r8, R55, hi3, hl1, hx, impF, CNext, CFail, CMkd, mkdR, CCmdN, rdr, unStr_rows, strRows_len, mkRows_len, mkRows_all, List.length_append, ↓Ev.P, Ev.Q, Bool.cond_true, Bool.cond_false, eq_self, forall_eq_or_imp, implies_true, forall_const, forall_eq, ↓reduceIte, reduceIte, Nat.reduceEqDiff, Nat.reduceAdd, reduceCtorEq, Nat.reduceSub, Int.reduceToNat, Int.reduceLE, Int.reduceLT, Int.reduceNeg, Nat.reduceBEq, Nat.reduceMul, Nat.reduceLeDiff, Nat.reduceMod, UInt8.reduceOfNat, Nat.reduceLT, Int.reduceEq, Int.reduceAdd, Int.reduceSub, Int.reduceMul]))
                                  all_goals try omega
                                  all_goals
                                    refine xAgain_intro (BN - (i + 1) + 1) [0, 1, 2, 5] (by omega) (by simp -dsimp -implicitDefEqProofs only [↓Ev.xStp_eq, ↓Ev.P, Ev.Q, Bool.cond_true, Bool.cond_false, eq_self, forall_eq_or_imp, implies_true, forall_const, forall_eq, ↓reduceIte, reduceIte, Nat.reduceEqDiff, Nat.reduceAdd, reduceCtorEq, Nat.reduceSub, Int.reduceToNat, Int.reduceLE, Int.reduceLT, Int.reduceNeg, Nat.reduceBEq, Nat.reduceMul, Nat.reduceLeDiff, Nat.reduceMod, UInt8.reduceOfNat, Nat.reduceLT, Int.reduceEq, Int.reduceAdd, Int.reduceSub, Int.reduceMul]) ⟨i + 1, ms ++ [(43, w)], by omega, by rw [List.length_append, List.length_singleton]; omega, .inl ⟨rfl, a1, hle.2, by rw [show BN - (i + 1) = m by omega]; exact hgo, ?_⟩⟩
                                    rw [← mkRows_snoc]
                                    simp -dsimp -implicitDefEqProofs only [↓Ev.xStp_eq, ↓Ev.P, Ev.Q, Bool.cond_true, Bool.cond_false, eq_self, forall_eq_or_imp, implies_true, forall_const, forall_eq, ↓reduceIte, reduceIte, Nat.reduceEqDiff, Nat.reduceAdd, reduceCtorEq, Nat.reduceSub, Int.reduceToNat, Int.reduceLE, Int.reduceLT, Int.reduceNeg, Nat.reduceBEq, Nat.reduceMul, Nat.reduceLeDiff, Nat.reduceMod, UInt8.reduceOfNat, Nat.reduceLT, Int.reduceEq, Int.reduceAdd, Int.reduceSub, Int.reduceMul]
                                    all_goals rfl
                            · have hi3 : ¬ (i : Int) < (BN : Int) := by omega
                              rw [show BN - i = 0 by omega, mkL] at hgo
                              rw [← hgo] at hY; dsimp only at hY; subst hY; dsimp only [hkRK] at hk
                              simp -dsimp -implicitDefEqProofs only [S55, S55_0, S55r1, S55_1, S55r2, S55_2, S55r3, S55_3, S55r4, S55_4, S55r5, S55_5, S55r6, S55_6, S55r7, S55_7, S55r8, R55, hi3, impF, CNext, CFail, CMkd, mkdR, CCmdN, rdr, unStr_rows, strRows_len, mkRows_len, mkRows_all, List.length_append, ↓Ev.P, Ev.Q, Bool.cond_true, Bool.cond_false, eq_self, forall_eq_or_imp, implies_true, forall_const, forall_eq, ↓reduceIte, reduceIte, Nat.reduceEqDiff, Nat.reduceAdd, reduceCtorEq, Nat.reduceSub, Int.reduceToNat, Int.reduceLE, Int.reduceLT, Int.reduceNeg, Nat.reduceBEq, Nat.reduceMul, Nat.reduceLeDiff, Nat.reduceMod, UInt8.reduceOfNat, Nat.reduceLT, Int.reduceEq, Int.reduceAdd, Int.reduceSub, Int.reduceMul]
                              repeat' (first | with_reducible assumption | refine And.intro ?_ ?_ | intro _ | (rw [Ev.xStp_eq]; simp -dsimp -implicitDefEqProofs only [S55, S55_0, S55r1, S55_1, S55r2, S55_2, S55r3, S55_3, S55r4, S55_4, S55r5, S55_5, S55r6, S55_6, S55r7, S55_7, S55r8, R55, hi3, impF, CNext, CFail, CMkd, mkdR, CCmdN, rdr, unStr_rows, strRows_len, mkRows_len, mkRows_all, List.length_append, ↓Ev.P, Ev.Q, Bool.cond_true, Bool.cond_false, eq_self, forall_eq_or_imp, implies_true, forall_const, forall_eq, ↓reduceIte, reduceIte, Nat.reduceEqDiff, Nat.reduceAdd, reduceCtorEq, Nat.reduceSub, Int.reduceToNat, Int.reduceLE, Int.reduceLT, Int.reduceNeg, Nat.reduceBEq, Nat.reduceMul, Nat.reduceLeDiff, Nat.reduceMod, UInt8.reduceOfNat, Nat.reduceLT, Int.reduceEq, Int.reduceAdd, Int.reduceSub, Int.reduceMul]))
                              all_goals try omega
                              all_goals exact hk
                          · have _t := trivial
                            rw [hYe] at hY; dsimp only at hY; subst hY; dsimp only [hkRK] at hk
                            have hml2 : ms.length ≤ 8589934592 := by omega
                            simp -dsimp -implicitDefEqProofs only [S55, S55_0, S55r1, S55_1, S55r2, S55_2, S55r3, S55_3, S55r4, S55_4, S55r5, S55_5, S55r6, S55_6, S55r7, S55_7, S55r8, R55, he, impF, CNext, CFail, CMkd, mkdR, CCmdN, rdr, unStr_rows, strRows_len, mkRows_len, mkRows_all, List.length_append, ↓Ev.P, Ev.Q, Bool.cond_true, Bool.cond_false, eq_self, forall_eq_or_imp, implies_true, forall_const, forall_eq, ↓reduceIte, reduceIte, Nat.reduceEqDiff, Nat.reduceAdd, reduceCtorEq, Nat.reduceSub, Int.reduceToNat, Int.reduceLE, Int.reduceLT, Int.reduceNeg, Nat.reduceBEq, Nat.reduceMul, Nat.reduceLeDiff, Nat.reduceMod, UInt8.reduceOfNat, Nat.reduceLT, Int.reduceEq, Int.reduceAdd, Int.reduceSub, Int.reduceMul]
                            repeat' (first | with_reducible assumption | refine And.intro ?_ ?_ | intro _ | (rw [Ev.xStp_eq]; simp -dsimp -implicitDefEqProofs only [S55, S55_0, S55r1, S55_1, S55r2, S55_2, S55r3, S55_3, S55r4, S55_4, S55r5, S55_5, S55r6, S55_6, S55r7, S55_7, S55r8, R55, he, impF, CNext, CFail, CMkd, mkdR, CCmdN, rdr, unStr_rows, strRows_len, mkRows_len, mkRows_all, List.length_append, ↓Ev.P, Ev.Q, Bool.cond_true, Bool.cond_false, eq_self, forall_eq_or_imp, implies_true, forall_const, forall_eq, ↓reduceIte, reduceIte, Nat.reduceEqDiff, Nat.reduceAdd, reduceCtorEq, Nat.reduceSub, Int.reduceToNat, Int.reduceLE, Int.reduceLT, Int.reduceNeg, Nat.reduceBEq, Nat.reduceMul, Nat.reduceLeDiff, Nat.reduceMod, UInt8.reduceOfNat, Nat.reduceLT, Int.reduceEq, Int.reduceAdd, Int.reduceSub, Int.reduceMul]))
                            all_goals try omega
                            all_goals exact hk _ _ _ _ ms hml2
                  · rw [if_neg (fun h => hd1 h.1)] at hY; dsimp only at hY
                    simp -dsimp -implicitDefEqProofs only [S55, S55_0, S55r1, S55_1, S55r2, S55_2, S55r3, S55_3, S55r4, S55_4, S55r5, S55_5, S55r6, S55_6, S55r7, S55_7, S55r8, R55, hi3, hd1, impF, CNext, CFail, CMkd, mkdR, CCmdN, rdr, unStr_rows, strRows_len, mkRows_len, mkRows_all, List.length_append, ↓Ev.P, Ev.Q, Bool.cond_true, Bool.cond_false, eq_self, forall_eq_or_imp, implies_true, forall_const, forall_eq, ↓reduceIte, reduceIte, Nat.reduceEqDiff, Nat.reduceAdd, reduceCtorEq, Nat.reduceSub, Int.reduceToNat, Int.reduceLE, Int.reduceLT, Int.reduceNeg, Nat.reduceBEq, Nat.reduceMul, Nat.reduceLeDiff, Nat.reduceMod, UInt8.reduceOfNat, Nat.reduceLT, Int.reduceEq, Int.reduceAdd, Int.reduceSub, Int.reduceMul]
                    repeat' (first | with_reducible assumption | refine And.intro ?_ ?_ | intro _ | (rw [Ev.xStp_eq]; simp -dsimp -implicitDefEqProofs only [S55, S55_0, S55r1, S55_1, S55r2, S55_2, S55r3, S55_3, S55r4, S55_4, S55r5, S55_5, S55r6, S55_6, S55r7, S55_7, S55r8, R55, hi3, hd1, impF, CNext, CFail, CMkd, mkdR, CCmdN, rdr, unStr_rows, strRows_len, mkRows_len, mkRows_all, List.length_append, ↓Ev.P, Ev.Q, Bool.cond_true, Bool.cond_false, eq_self, forall_eq_or_imp, implies_true, forall_const, forall_eq, ↓reduceIte, reduceIte, Nat.reduceEqDiff, Nat.reduceAdd, reduceCtorEq, Nat.reduceSub, Int.reduceToNat, Int.reduceLE, Int.reduceLT, Int.reduceNeg, Nat.reduceBEq, Nat.reduceMul, Nat.reduceLeDiff, Nat.reduceMod, UInt8.reduceOfNat, Nat.reduceLT, Int.reduceEq, Int.reduceAdd, Int.reduceSub, Int.reduceMul]))
                    all_goals try omega
                    all_goals
                      generalize hY2 : mkL [62, 32] 43 L BN at_ ms = Y2 at hY
                      have hms0 : ms.length ≤ 2147483648 := by omega
                      refine xLoop_intro (fun n2 st => ∃ (i : Nat) (ms : List Mk), i ≤ BN ∧ ms.length ≤ 2147483648 + i ∧ ((n2 = BN - i + 1 ∧ ∃ (at_ : Nat), at_ ≤ L.length ∧ mkL [62, 32] 43 L (BN - i) at_ ms = Y2 ∧ st = ⟨[(0, .ptr 0 0), (4, .ptr 1 0), (5, .ptr 2 0), (8, .d (.v (.int .i64 (i : Nat))))], 4, [(0, .cells t [.d (.sl (strRows L)), .d (.v (.int .i64 (at_ : Nat))), .d (.v (.int .i64 fa)), .d (.v (.int .i64 0))]), (1, .cells 47 [.d (.v (.int .i64 0)), .d (.v (.int .i64 0)), .d (.v (.int .i64 0)), .d (.v (.int .i64 0)), .d (.v (.slice none 0 0))]), (2, .cells 47 [.d (.v (.int .i64 A)), .d (.v (.int .i64 (AN : Nat))), .d (.v (.int .i64 B)), .d (.v (.int .i64 (BN : Nat))), .own 3]), (3, .row 103 2 (mkRows ms))]⟩) ∨ (n2 = 0 ∧ ∃ (a e : Int), ¬ e = 0 ∧ Y2 = .error (a, e) ∧ st = ⟨[(0, .ptr 0 0), (4, .ptr 1 0), (5, .ptr 2 0), (8, .d (.v (.int .i64 (i : Nat))))], 4, [(0, .cells t [.d (.sl (strRows L)), .d (.v (.int .i64 a)), .d (.v (.int .i64 a)), .d (.v (.int .i64 e))]), (1, .cells 47 [.d (.v (.int .i64 0)), .d (.v (.int .i64 0)), .d (.v (.int .i64 0)), .d (.v (.int .i64 0)), .d (.v (.slice none 0 0))]), (2, .cells 47 [.d (.v (.int .i64 A)), .d (.v (.int .i64 (AN : Nat))), .d (.v (.int .i64 B)), .d (.v (.int .i64 (BN : Nat))), .own 3]), (3, .row 103 2 (mkRows ms))]⟩))) (BN + 1) [0, 1, 2, 3] ?_ ?_ ?_
                      · simp -dsimp -implicitDefEqProofs only [↓Ev.xStp_eq, ↓Ev.P, Ev.Q, Bool.cond_true, Bool.cond_false, eq_self, forall_eq_or_imp, implies_true, forall_const, forall_eq, ↓reduceIte, reduceIte, Nat.reduceEqDiff, Nat.reduceAdd, reduceCtorEq, Nat.reduceSub, Int.reduceToNat, Int.reduceLE, Int.reduceLT, Int.reduceNeg, Nat.reduceBEq, Nat.reduceMul, Nat.reduceLeDiff, Nat.reduceMod, UInt8.reduceOfNat, Nat.reduceLT, Int.reduceEq, Int.reduceAdd, Int.reduceSub, Int.reduceMul]
                      · simp -dsimp -implicitDefEqProofs only [↓Ev.xStp_eq, ↓Ev.P, Ev.Q, Bool.cond_true, Bool.cond_false, eq_self, forall_eq_or_imp, implies_true, forall_const, forall_eq, ↓reduceIte, reduceIte, Nat.reduceEqDiff, Nat.reduceAdd, reduceCtorEq, Nat.reduceSub, Int.reduceToNat, Int.reduceLE, Int.reduceLT, Int.reduceNeg, Nat.reduceBEq, Nat.reduceMul, Nat.reduceLeDiff, Nat.reduceMod, UInt8.reduceOfNat, Nat.reduceLT, Int.reduceEq, Int.reduceAdd, Int.reduceSub, Int.reduceMul]
                        refine ⟨0, ms, by omega, by first | omega | simp, .inl ⟨by omega, at_, by omega, hY2, ?_⟩⟩
                        all_goals rfl
                      · rintro n2 st2 ⟨i, ms, hi, hml, ⟨rfl, at_, hat, hgo, rfl⟩ | ⟨rfl, a, e, he, hYe, rfl⟩⟩
                        · by_cases hin : i < BN
                          · have hi3 : (i : Int) < (BN : Int) := by omega
                            obtain ⟨m, hm⟩ : ∃ m, BN - i = m + 1 := ⟨BN - i - 1, by omega⟩
                            rw [hm, mkL] at hgo
                            have hp0 : (0 : Nat) < 2 := by omega
                            by_cases hl : m = 0
                            · have hl1 : ((i : Int) = (BN : Int) - 1) = True := eq_true (by omega)
                              rw [decide_eq_true hl] at hgo
                              cases hx : oneL [62, 32] L true at_ with
                              | error xe =>
                                obtain ⟨xa, xe⟩ := xe
                                have hxe := oneL_err hx
                                rw [hx] at hgo; dsimp only at hgo
                                simp -dsimp -implicitDefEqProofs only [S55, S55_0, S55r1, S55_1, S55r2, S55_2, S55r3, S55_3, S55r4, S55_4, S55r5, S55_5, S55r6, S55_6, S55r7, S55_7, S55r8, R55, hi3, hl1, hx, hxe, impF, CNext, CFail, CMkd, mkdR, CCmdN, rdr, unStr_rows, strRows_len, mkRows_len, mkRows_all, List.length_append, ↓Ev.P, Ev.Q, Bool.cond_true, Bool.cond_false, eq_self, forall_eq_or_imp, implies_true, forall_const, forall_eq, ↓reduceIte, reduceIte, Nat.reduceEqDiff, Nat.reduceAdd, reduceCtorEq, Nat.reduceSub, Int.reduceToNat, Int.reduceLE, Int.reduceLT, Int.reduceNeg, Nat.reduceBEq, Nat.reduceMul, Nat.reduceLeDiff, Nat.reduceMod, UInt8.reduceOfNat, Nat.reduceLT, Int.reduceEq, Int.reduceAdd, Int.reduceSub, Int.reduceMul]
                                repeat' (first | with_reducible assumption | refine And.intro ?_ ?_ | intro _ | (rw [Ev.xStp_eq]; simp -dsimp -implicitDefEqProofs only [S55, S55_0, S55r1, S55_1, S55r2, S55_2, S55r3, S55_3, S55r4, S55_4, S55r5, S55_5, S55r6, S55_6, S55r7, S55_7, S55r8, R55, hi3, hl1, hx, hxe, impF, CNext, CFail, CMkd, mkdR, CCmdN, rdr, unStr_rows, strRows_len, mkRows_len, mkRows_all, List.length_append, ↓Ev.P, Ev.Q, Bool.cond_true, Bool.cond_false, eq_self, forall_eq_or_imp, implies_true, forall_const, forall_eq, ↓reduceIte, reduceIte, Nat.reduceEqDiff, Nat.reduceAdd, reduceCtorEq, Nat.reduceSub, Int.reduceToNat, Int.reduceLE, Int.reduceLT, Int.reduceNeg, Nat.reduceBEq, Nat.reduceMul, Nat.reduceLeDiff, Nat.reduceMod, UInt8.reduceOfNat, Nat.reduceLT, Int.reduceEq, Int.reduceAdd, Int.reduceSub, Int.reduceMul]))
                                all_goals try omega
                                all_goals
                                  refine xAgain_intro 0 [0, 1, 2, 5] (by omega) (by simp -dsimp -implicitDefEqProofs only [↓Ev.xStp_eq, ↓Ev.P, Ev.Q, Bool.cond_true, Bool.cond_false, eq_self, forall_eq_or_imp, implies_true, forall_const, forall_eq, ↓reduceIte, reduceIte, Nat.reduceEqDiff, Nat.reduceAdd, reduceCtorEq, Nat.reduceSub, Int.reduceToNat, Int.reduceLE, Int.reduceLT, Int.reduceNeg, Nat.reduceBEq, Nat.reduceMul, Nat.reduceLeDiff, Nat.reduceMod, UInt8.reduceOfNat, Nat.reduceLT, Int.reduceEq, Int.reduceAdd, Int.reduceSub, Int.reduceMul]) ⟨i + 1, ms ++ [(43, [])], by omega, by rw [List.length_append, List.length_singleton]; omega, .inr ⟨rfl, xa, xe, hxe, hgo.symm, ?_⟩⟩
                                  rw [← mkRows_snoc]
                                  simp -dsimp -implicitDefEqProofs only [↓Ev.xStp_eq, ↓Ev.P, Ev.Q, Bool.cond_true, Bool.cond_false, eq_self, forall_eq_or_imp, implies_true, forall_const, forall_eq, ↓reduceIte, reduceIte, Nat.reduceEqDiff, Nat.reduceAdd, reduceCtorEq, Nat.reduceSub, Int.reduceToNat, Int.reduceLE, Int.reduceLT, Int.reduceNeg, Nat.reduceBEq, Nat.reduceMul, Nat.reduceLeDiff, Nat.reduceMod, UInt8.reduceOfNat, Nat.reduceLT, Int.reduceEq, Int.reduceAdd, Int.reduceSub, Int.reduceMul]
                                  all_goals rfl
                              | ok x =>
                                obtain ⟨w, a1⟩ := x
                                have hle := oneL_le hx
                                rw [hx] at hgo; dsimp only at hgo
                                simp -dsimp -implicitDefEqProofs only [S55, S55_0, S55r1, S55_1, S55r2, S55_2, S55r3, S55_3, S55r4, S55_4, S55r5, S55_5, S55r6, S55_6, S55r7, S55_7, S55r8, R55, hi3, hl1, hx, impF, CNext, CFail, CMkd, mkdR, CCmdN, rdr, unStr_rows, strRows_len, mkRows_len, mkRows_all, List.length_append, ↓Ev.P, Ev.Q, Bool.cond_true, Bool.cond_false, eq_self, forall_eq_or_imp, implies_true, forall_const, forall_eq, ↓reduceIte, reduceIte, Nat.reduceEqDiff, Nat.reduceAdd, reduceCtorEq, Nat.reduceSub, Int.reduceToNat, Int.reduceLE, Int.reduceLT, Int.reduceNeg, Nat.reduceBEq, Nat.reduceMul, Nat.reduceLeDiff, Nat.reduceMod, UInt8.reduceOfNat, Nat.reduceLT, Int.reduceEq, Int.reduceAdd, Int.reduceSub, Int.reduceMul]
                                repeat' (first | with_reducible assumption | refine And.intro ?_ ?_ | intro _ | (rw [Ev.xStp_eq]; simp -dsimp -implicitDefEqProofs only [S55, S55_0, S55r1, S55_1, S55r2, S55_2, S55r3, S55_3, S55r4, S55_4, S55r5, S55_5, S55r6, S55_6, S55r7, S55_7, S55r8, R55, hi3, hl1, hx, impF, CNext, CFail, CMkd, mkdR, CCmdN, rdr, unStr_rows, strRows_len, mkRows_len, mkRows_all, List.length_append, ↓Ev.P, Ev.Q, Bool.cond_true, Bool.cond_false, eq_self, forall_eq_or_imp, implies_true, forall_const, forall_eq, ↓reduceIte, reduceIte, Nat.reduceEqDiff, Nat.reduceAdd, reduceCtorEq, Nat.reduceSub, Int.reduceToNat, Int.reduceLE, Int.reduceLT, Int.reduceNeg, Nat.reduceBEq, Nat.reduceMul, Nat.reduceLeDiff, Nat.reduceMod, UInt8.reduceOfNat, Nat.reduceLT, Int.reduceEq, Int.reduceAdd, Int.reduceSub, Int.reduceMul]))
                                all_goals try omega
                                all_goals
                                  refine xAgain_intro (BN - (i + 1) + 1) [0, 1, 2, 5] (by omega) (by simp -dsimp -implicitDefEqProofs only [↓Ev.xStp_eq, ↓Ev.P, Ev.Q, Bool.cond_true, Bool.cond_false, eq_self, forall_eq_or_imp, implies_true, forall_const, forall_eq, ↓reduceIte, reduceIte, Nat.reduceEqDiff, Nat.reduceAdd, reduceCtorEq, Nat.reduceSub, Int.reduceToNat, Int.reduceLE, Int.reduceLT, Int.reduceNeg, Nat.reduceBEq, Nat.reduceMul, Nat.reduceLeDiff, Nat.reduceMod, UInt8.reduceOfNat, Nat.reduceLT, Int.reduceEq, Int.reduceAdd, Int.reduceSub, Int.reduceMul]) ⟨i + 1, ms ++ [(43, w)], by omega, by rw [List.length_append, List.length_singleton]; omega, .inl ⟨rfl, a1, hle.2, by rw [show BN - (i + 1) = m by omega]; exact hgo, ?_⟩⟩
                                  rw [← mkRows_snoc]
                                  simp -dsimp -implicitDefEqProofs only [↓Ev.xStp_eq, ↓Ev.P, Ev.Q, Bool.cond_true, Bool.cond_false, eq_self, forall_eq_or_imp, implies_true, forall_const, forall_eq, ↓reduceIte, reduceIte, Nat.reduceEqDiff, Nat.reduceAdd, reduceCtorEq, Nat.reduceSub, Int.reduceToNat, Int.reduceLE, Int.reduceLT, Int.reduceNeg, Nat.reduceBEq, Nat.reduceMul, Nat.reduceLeDiff, Nat.reduceMod, UInt8.reduceOfNat, Nat.reduceLT, Int.reduceEq, Int.reduceAdd, Int.reduceSub, Int.reduceMul]
                                  all_goals rfl
                            · have hl1 : ((i : Int) = (BN : Int) - 1) = False := eq_false (by omega)
                              rw [decide_eq_false hl] at hgo
                              cases hx : oneL [62, 32] L false at_ with
                              | error xe =>
                                obtain ⟨xa, xe⟩ := xe
                                have hxe := oneL_err hx
                                rw [hx] at hgo; dsimp only at hgo
                                simp -dsimp -implicitDefEqProofs only [S55, S55_0, S55r1, S55_1, S55r2, S55_2, S55r3, S55_3, S55r4, S55_4, S55r5, S55_5, S55r6, S55_6, S55r7, S55_7, S55r8, R55, hi3, hl1, hx, hxe, impF, CNext, CFail, CMkd, mkdR, CCmdN, rdr, unStr_rows, strRows_len, mkRows_len, mkRows_all, List.length_append, ↓Ev.P, Ev.Q, Bool.cond_true, Bool.cond_false, eq_self, forall_eq_or_imp, implies_true, forall_const, forall_eq, ↓reduceIte, reduceIte, Nat.reduceEqDiff, Nat.reduceAdd, reduceCtorEq, Nat.reduceSub, Int.reduceToNat, Int.reduceLE, Int.reduceLT, Int.reduceNeg, Nat.reduceBEq, Nat.reduceMul, Nat.reduceLeDiff, Nat.reduceMod, UInt8.reduceOfNat, Nat.reduceLT, Int.reduceEq, Int.reduceAdd, Int.reduceSub, Int.reduceMul]
                                repeat' (first | with_reducible assumption | refine And.intro ?_ ?_ | intro _ | (rw [Ev.xStp_eq]; simp -dsimp -implicitDefEqProofs only [S55, S55_0, S55r1, S55_1, S55r2, S55_2, S55r3, S55_3, S55r4, S55_4, S55r5, S55_5, S55r6, S55_6, S55r7, S55_7, S55r8, R55, hi3, hl1, hx, hxe, impF, CNext, CFail, CMkd, mkdR, CCmdN, rdr, unStr_rows, strRows_len, mkRows_len, mkRows_all, List.length_append, ↓Ev.P, Ev.Q, Bool.cond_true, Bool.cond_false, eq_self, forall_eq_or_imp, implies_true, forall_const, forall_eq, ↓reduceIte, reduceIte, Nat.reduceEqDiff, Nat.reduceAdd, reduceCtorEq, Nat.reduceSub, Int.reduceToNat, Int.reduceLE, Int.reduceLT, Int.reduceNeg, Nat.reduceBEq, Nat.reduceMul, Nat.reduceLeDiff, Nat.reduceMod, UInt8.reduceOfNat, Nat.reduceLT, Int.reduceEq, Int.reduceAdd, Int.reduceSub, Int.reduceMul]))
                                all_goals try omega
                                all_goals
                                  refine xAgain_intro 0 [0, 1, 2, 5] (by omega) (by simp -dsimp -implicitDefEqProofs only [↓Ev.xStp_eq, ↓Ev.P, Ev.Q, Bool.cond_true, Bool.cond_false, eq_self, forall_eq_or_imp, implies_true, forall_const, forall_eq, ↓reduceIte, reduceIte, Nat.reduceEqDiff, Nat.reduceAdd, reduceCtorEq, Nat.reduceSub, Int.reduceToNat, Int.reduceLE, Int.reduceLT, Int.reduceNeg, Nat.reduceBEq, Nat.reduceMul, Nat.reduceLeDiff, Nat.reduceMod, UInt8.reduceOfNat, Nat.reduceLT, Int.reduceEq, Int.reduceAdd, Int.reduceSub, Int.reduceMul]) ⟨i + 1, ms ++ [(43, [])], by omega, by rw [List.length_append, List.length_singleton]; omega, .inr ⟨rfl, xa, xe, hxe, hgo.symm, ?_⟩⟩
                                  rw [← mkRows_snoc]
                                  simp -dsimp -implicitDefEqProofs only [↓Ev.xStp_eq, ↓Ev.P, Ev.Q, Bool.cond_true, Bool.cond_false, eq_self, forall_eq_or_imp, implies_true, forall_const, forall_eq, ↓reduceIte, reduceIte, Nat.reduceEqDiff, Nat.reduceAdd, reduceCtorEq, Nat.reduceSub, Int.reduceToNat, Int.reduceLE, Int.reduceLT, Int.reduceNeg, Nat.reduceBEq, Nat.reduceMul, Nat.reduceLeDiff, Nat.reduceMod, UInt8.reduceOfNat, Nat.reduceLT, Int.reduceEq, Int.reduceAdd, Int.reduceSub, Int.reduceMul]
                                  all_goals rfl
                              | ok x =>
                                obtain ⟨w, a1⟩ := x
                                have hle := oneL_le hx
                                rw [hx] at hgo; dsimp only at hgo
                                simp -dsimp -implicitDefEqProofs only [S55, S55_0, S55r1, S55_1, S55r2, S55_2, S55r3, S55_3, S55r4, S55_4, S55r5, S55_5, S55r6, S55_6, S55r7, S55_7, S55r8, R55, hi3, hl1, hx, impF, CNext, CFail, CMkd, mkdR, CCmdN, rdr, unStr_rows, strRows_len, mkRows_len, mkRows_all, List.length_append, ↓Ev.P, Ev.Q, Bool.cond_true, Bool.cond_false, eq_self, forall_eq_or_imp, implies_true, forall_const, forall_eq, ↓reduceIte, reduceIte, Nat.reduceEqDiff, Nat.reduceAdd, reduceCtorEq, Nat.reduceSub, Int.reduceToNat, Int.reduceLE, Int.reduceLT, Int.reduceNeg, Nat.reduceBEq, Nat.reduceMul, Nat.reduceLeDiff, Nat.reduceMod, UInt8.reduceOfNat, Nat.reduceLT, Int.reduceEq, Int.reduceAdd, Int.reduceSub, Int.reduceMul]
                                repeat' (first | with_reducible assumption | refine And.intro ?_ ?_ | intro _ | (rw [Ev.xStp_eq]; simp -dsimp -implicitDefEqProofs only [S55, S55_0, S55r1, S55_1, S55r2, S55_2, S55r3, S55_3, S55r4, S55_4, S55r5, S55_5, S55r6, S55_6, S55r7, S55_7, S55r8, R55, hi3, hl1, hx, impF, CNext, CFail, CMkd, mkdR, CCmdN, rdr, unStr_rows, strRows_len, mkRows_len, mkRows_all, List.length_append, ↓Ev.P, Ev.Q, Bool.cond_true, Bool.cond_false, eq_self, forall_eq_or_imp, implies_true, forall_const, forall_eq, ↓reduceIte, reduceIte, Nat.reduceEqDiff, Nat.reduceAdd, reduceCtorEq, Nat.reduceSub, Int.reduceToNat, Int.reduceLE, Int.reduceLT, Int.reduceNeg, Nat.reduceBEq, Nat.reduceMul, Nat.reduceLeDiff, Nat.reduceMod, UInt8.reduceOfNat, Nat.reduceLT, Int.reduceEq, Int.reduceAdd, Int.reduceSub, Int.reduceMul]))
                                all_goals try omega
                                all_goals
                                  refine xAgain_intro (BN - (i + 1) + 1) [0, 1, 2, 5] (by omega) (by simp -dsimp -implicitDefEqProofs only [↓Ev.xStp_eq, ↓Ev.P, Ev.Q, Bool.cond_true, Bool.cond_false, eq_self, forall_eq_or_imp, implies_true, forall_const, forall_eq, ↓reduceIte, reduceIte, Nat.reduceEqDiff, Nat.reduceAdd, reduceCtorEq, Nat.reduceSub, Int.reduceToNat, Int.reduceLE, Int.reduceLT, Int.reduceNeg, Nat.reduceBEq, Nat.reduceMul, Nat.reduceLeDiff, Nat.reduceMod, UInt8.reduceOfNat, Nat.reduceLT, Int.reduceEq, Int.reduceAdd, Int.reduceSub, Int.reduceMul]) ⟨i + 1, ms ++ [(43, w)], by omega, by rw [List.length_append, List.length_singleton]; omega, .inl ⟨rfl, a1, hle.2, by rw [show BN - (i + 1) = m by omega]; exact hgo, ?_⟩⟩
                                  rw [← mkRows_snoc]
                                  simp -dsimp -implicitDefEqProofs only [↓Ev.xStp_eq, ↓Ev.P, Ev.Q, Bool.cond_true, Bool.cond_false, eq_self, forall_eq_or_imp, implies_true, forall_const, forall_eq, ↓reduceIte, reduceIte, Nat.reduceEqDiff, Nat.reduceAdd, reduceCtorEq, Nat.reduceSub, Int.reduceToNat, Int.reduceLE, Int.reduceLT, Int.reduceNeg, Nat.reduceBEq, Nat.reduceMul, Nat.reduceLeDiff, Nat.reduceMod, UInt8.reduceOfNat, Nat.reduceLT, Int.reduceEq, Int.reduceAdd, Int.reduceSub, Int.reduceMul]
                                  all_goals rfl
                          · have hi3 : ¬ (i : Int) < (BN : Int) := by omega
                            rw [show BN - i = 0 by omega, mkL] at hgo
                            rw [← hgo] at hY; dsimp only at hY; subst hY; dsimp only [hkRK] at hk
                            simp -dsimp -implicitDefEqProofs only [S55, S55_0, S55r1, S55_1, S55r2, S55_2, S55r3, S55_3, S55r4, S55_4, S55r5, S55_5, S55r6, S55_6, S55r7, S55_7, S55r8, R55, hi3, impF, CNext, CFail, CMkd, mkdR, CCmdN, rdr, unStr_rows, strRows_len, mkRows_len, mkRows_all, List.length_append, ↓Ev.P, Ev.Q, Bool.cond_true, Bool.cond_false, eq_self, forall_eq_or_imp, implies_true, forall_const, forall_eq, ↓reduceIte, reduceIte, Nat.reduceEqDiff, Nat.reduceAdd, reduceCtorEq, Nat.reduceSub, Int.reduceToNat, Int.reduceLE, Int.reduceLT, Int.reduceNeg, Nat.reduceBEq, Nat.reduceMul, Nat.reduceLeDiff, Nat.reduceMod, UInt8.reduceOfNat, Nat.reduceLT, Int.reduceEq, Int.reduceAdd, Int.reduceSub, Int.reduceMul]
                            repeat' (first | with_reducible assumption | refine And.intro ?_ ?_ | intro _ | (rw [Ev.xStp_eq]; simp -dsimp -implicitDefEqProofs only [S55, S55_0, S55r1, S55_1, S55r2, S55_2, S55r3, S55_3, S55r4, S55_4, S55r5, S55_5, S55r6, S55_6, S55r7, S55_7, S55r8, R55, hi3, impF, CNext, CFail, CMkd, mkdR, CCmdN, rdr, unStr_rows, strRows_len, mkRows_len, mkRows_all, List.length_append, ↓Ev.P, Ev.Q, Bool.cond_true, Bool.cond_false, eq_self, forall_eq_or_imp, implies_true, forall_const, forall_eq, ↓reduceIte, reduceIte, Nat.reduceEqDiff, Nat.reduceAdd, reduceCtorEq, Nat.reduceSub, Int.reduceToNat, Int.reduceLE, Int.reduceLT, Int.reduceNeg, Nat.reduceBEq, Nat.reduceMul, Nat.reduceLeDiff, Nat.reduceMod, UInt8.reduceOfNat, Nat.reduceLT, Int.reduceEq, Int.reduceAdd, Int.reduceSub, Int.reduceMul]))
                            all_goals try omega
                            all_goals exact hk
                        · have _t := trivial
                          rw [hYe] at hY; dsimp only at hY; subst hY; dsimp only [hkRK] at hk
                          have hml2 : ms.length ≤ 8589934592 := by omega
                          simp -dsimp -implicitDefEqProofs only [S55, S55_0, S55r1, S55_1, S55r2, S55_2, S55r3, S55_3, S55r4, S55_4, S55r5, S55_5, S55r6, S55_6, S55r7, S55_7, S55r8, R55, he, impF, CNext, CFail, CMkd, mkdR, CCmdN, rdr, unStr_rows, strRows_len, mkRows_len, mkRows_all, List.length_append, ↓Ev.P, Ev.Q, Bool.cond_true, Bool.cond_false, eq_self, forall_eq_or_imp, implies_true, forall_const, forall_eq, ↓reduceIte, reduceIte, Nat.reduceEqDiff, Nat.reduceAdd, reduceCtorEq, Nat.reduceSub, Int.reduceToNat, Int.reduceLE, Int.reduceLT, Int.reduceNeg, Nat.reduceBEq, Nat.reduceMul, Nat.reduceLeDiff, Nat.reduceMod, UInt8.reduceOfNat, Nat.reduceLT, Int.reduceEq, Int.reduceAdd, Int.reduceSub, Int.reduceMul]
                          repeat' (first | with_reducible assumption | refine And.intro ?_ ?_ | intro _ | (rw [Ev.xStp_eq]; simp -dsimp -implicitDefEqProofs only [S55, S55_0, S55r1, S55_1, S55r2, S55_2, S55r3, S55_3, S55r4, S55_4, S55r5, S55_5, S55r6, S55_6, S55r7, S55_7, S55r8, R55, he, impF, CNext, CFail, CMkd, mkdR, CCmdN, rdr, unStr_rows, strRows_len, mkRows_len, mkRows_all, List.length_append, ↓Ev.P, Ev.Q, Bool.cond_true, Bool.cond_false, eq_self, forall_eq_or_imp, implies_true, forall_const, forall_eq, ↓reduceIte, reduceIte, Nat.reduceEqDiff, Nat.reduceAdd, reduceCtorEq, Nat.reduceSub, Int.reduceToNat, Int.reduceLE, Int.reduceLT, Int.reduceNeg, Nat.reduceBEq, Nat.reduceMul, Nat.reduceLeDiff, Nat.reduceMod, UInt8.reduceOfNat, Nat.reduceLT, Int.reduceEq, Int.reduceAdd, Int.reduceSub, Int.reduceMul]))
                          all_goals try omega
                          all_goals exact hk _ _ _ _ ms hml2
              · have _t := trivial
                rw [hYe] at hY; dsimp only at hY; subst hY; dsimp only [hkRK] at hk
                have hml2 : ms.length ≤ 8589934592 := by omega
                simp -dsimp -implicitDefEqProofs only [S55, S55_0, S55r1, S55_1, S55r2, S55_2, S55r3, S55_3, S55r4, S55_4, S55r5, S55_5, S55r6, S55_6, S55r7, S55_7, S55r8, R55, he, impF, CNext, CFail, CMkd, mkdR, CCmdN, rdr, unStr_rows, strRows_len, mkRows_len, mkRows_all, List.length_append, ↓Ev.P, Ev.Q, Bool.cond_true, Bool.cond_false, eq_self, forall_eq_or_imp, implies_true, forall_const, forall_eq, ↓reduceIte, reduceIte, Nat.reduceEqDiff, Nat.reduceAdd, reduceCtorEq, Nat.reduceSub, Int.reduceToNat, Int.reduceLE, Int.reduceLT, Int.reduceNeg, Nat.reduceBEq, Nat.reduceMul, Nat.reduceLeDiff, Nat.reduceMod, UInt8.reduceOfNat, Nat.reduceLT, Int.reduceEq, Int.reduceAdd, Int.reduceSub, Int.reduceMul]
                repeat' (first | with_reducible assumption | refine And.intro ?_ ?_ | intro _ | (rw [Ev.xStp_eq]; simp -dsimp -implicitDefEqProofs only [S55, S55_0, S55r1, S55_1, S55r2, S55_2, S55r3, S55_3, S55r4, S55_4, S55r5, S55_5, S55r6, S55_6, S55r7, S55_7, S55r8, R55, he, impF, CNext, CFail, CMkd, mkdR, CCmdN, rdr, unStr_rows, strRows_len, mkRows_len, mkRows_all, List.length_append, ↓Ev.P, Ev.Q, Bool.cond_true, Bool.cond_false, eq_self, forall_eq_or_imp, implies_true, forall_const, forall_eq, ↓reduceIte, reduceIte, Nat.reduceEqDiff, Nat.reduceAdd, reduceCtorEq, Nat.reduceSub, Int.reduceToNat, Int.reduceLE, Int.reduceLT, Int.reduceNeg, Nat.reduceBEq, Nat.reduceMul, Nat.reduceLeDiff, Nat.reduceMod, UInt8.reduceOfNat, Nat.reduceLT, Int.reduceEq, Int.reduceAdd, Int.reduceSub, Int.reduceMul]))
                all_goals try omega
                all_goals
                  refine xLoop_intro (fun n2 st => n2 = 0 ∧ st = ⟨[(0, .ptr 0 0), (4, .ptr 1 0), (5, .ptr 2 0), (8, .d (.v (.int .i64 ((0 : Nat) : Int))))], 4, [(0, .cells t [.d (.sl (strRows L)), .d (.v (.int .i64 a)), .d (.v (.int .i64 a)), .d (.v (.int .i64 e))]), (1, .cells 47 [.d (.v (.int .i64 0)), .d (.v (.int .i64 0)), .d (.v (.int .i64 0)), .d (.v (.int .i64 0)), .d (.v (.slice none 0 0))]), (2, .cells 47 [.d (.v (.int .i64 A)), .d (.v (.int .i64 (AN : Nat))), .d (.v (.int .i64 B)), .d (.v (.int .i64 (BN : Nat))), .own 3]), (3, .row 103 2 (mkRows ms))]⟩) 0 [0, 1, 2, 3] ?_ ?_ ?_
                  · simp -dsimp -implicitDefEqProofs only [↓Ev.xStp_eq, ↓Ev.P, Ev.Q, Bool.cond_true, Bool.cond_false, eq_self, forall_eq_or_imp, implies_true, forall_const, forall_eq, ↓reduceIte, reduceIte, Nat.reduceEqDiff, Nat.reduceAdd, reduceCtorEq, Nat.reduceSub, Int.reduceToNat, Int.reduceLE, Int.reduceLT, Int.reduceNeg, Nat.reduceBEq, Nat.reduceMul, Nat.reduceLeDiff, Nat.reduceMod, UInt8.reduceOfNat, Nat.reduceLT, Int.reduceEq, Int.reduceAdd, Int.reduceSub, Int.reduceMul]
                  · simp -dsimp -implicitDefEqProofs only [↓Ev.xStp_eq, ↓Ev.P, Ev.Q, Bool.cond_true, Bool.cond_false, eq_self, forall_eq_or_imp, implies_true, forall_const, forall_eq, ↓reduceIte, reduceIte, Nat.reduceEqDiff, Nat.reduceAdd, reduceCtorEq, Nat.reduceSub, Int.reduceToNat, Int.reduceLE, Int.reduceLT, Int.reduceNeg, Nat.reduceBEq, Nat.reduceMul, Nat.reduceLeDiff, Nat.reduceMod, UInt8.reduceOfNat, Nat.reduceLT, Int.reduceEq, Int.reduceAdd, Int.reduceSub, Int.reduceMul]
                    all_goals first | rfl | exact ⟨rfl, rfl⟩ | trivial
                  · rintro n2 st2 ⟨rfl, rfl⟩
                    simp -dsimp -implicitDefEqProofs only [S55, S55_0, S55r1, S55_1, S55r2, S55_2, S55r3, S55_3, S55r4, S55_4, S55r5, S55_5, S55r6, S55_6, S55r7, S55_7, S55r8, R55, he, impF, CNext, CFail, CMkd, mkdR, CCmdN, rdr, unStr_rows, strRows_len, mkRows_len, mkRows_all, List.length_append, ↓Ev.P, Ev.Q, Bool.cond_true, Bool.cond_false, eq_self, forall_eq_or_imp, implies_true, forall_const, forall_eq, ↓reduceIte, reduceIte, Nat.reduceEqDiff, Nat.reduceAdd, reduceCtorEq, Nat.reduceSub, Int.reduceToNat, Int.reduceLE, Int.reduceLT, Int.reduceNeg, Nat.reduceBEq, Nat.reduceMul, Nat.reduceLeDiff, Nat.reduceMod, UInt8.reduceOfNat, Nat.reduceLT, Int.reduceEq, Int.reduceAdd, Int.reduceSub, Int.reduceMul]
                    repeat' (first | with_reducible assumption | refine And.intro ?_ ?_ | intro _ | (rw [Ev.xStp_eq]; simp -dsimp -implicitDefEqProofs only [S55, S55_0, S55r1, S55_1, S55r2, S55_2, S55r3, S55_3, S55r4, S55_4, S55r5, S55_5, S55r6, S55_6, S55r7, S55_7, S55r8, R55, he, impF, CNext, CFail, CMkd, mkdR, CCmdN, rdr, unStr_rows, strRows_len, mkRows_len, mkRows_all, List.length_append, ↓Ev.P, Ev.Q, Bool.cond_true, Bool.cond_false, eq_self, forall_eq_or_imp, implies_true, forall_const, forall_eq, ↓reduceIte, reduceIte, Nat.reduceEqDiff, Nat.reduceAdd, reduceCtorEq, Nat.reduceSub, Int.reduceToNat, Int.reduceLE, Int.reduceLT, Int.reduceNeg, Nat.reduceBEq, Nat.reduceMul, Nat.reduceLeDiff, Nat.reduceMod, UInt8.reduceOfNat, Nat.reduceLT, Int.reduceEq, Int.reduceAdd, Int.reduceSub, Int.reduceMul]))
                    all_goals try omega
                    all_goals exact hk _ _ _ _ ms hml2
      · rw [if_neg hok] at hcm
        rw [hcm] at hY; dsimp only at hY; subst hY; dsimp only [hkRK] at hk
        simp only [ec] at hk
        have hno : (o1 && o2) = false := by cases o1 <;> cases o2 <;> first | rfl | exact absurd ⟨rfl, rfl⟩ hok
        rw [hno] at hcA
        simp -dsimp -implicitDefEqProofs only [S55, S55_0, S55r1, S55_1, S55r2, S55_2, S55r3, S55_3, S55r4, S55_4, S55r5, S55_5, S55r6, S55_6, S55r7, S55_7, S55r8, R55, hn, hcA, impF, CNext, CFail, CMkd, mkdR, CCmdN, rdr, unStr_rows, strRows_len, mkRows_len, mkRows_all, List.length_append, ↓Ev.P, Ev.Q, Bool.cond_true, Bool.cond_false, eq_self, forall_eq_or_imp, implies_true, forall_const, forall_eq, ↓reduceIte, reduceIte, Nat.reduceEqDiff, Nat.reduceAdd, reduceCtorEq, Nat.reduceSub, Int.reduceToNat, Int.reduceLE, Int.reduceLT, Int.reduceNeg, Nat.reduceBEq, Nat.reduceMul, Nat.reduceLeDiff, Nat.reduceMod, UInt8.reduceOfNat, Nat.reduceLT, Int.reduceEq, Int.reduceAdd, Int.reduceSub, Int.reduceMul]
        repeat' (first | with_reducible assumption | refine And.intro ?_ ?_ | intro _ | (rw [Ev.xStp_eq]; simp -dsimp -implicitDefEqProofs only [S55, S55_0, S55r1, S55_1, S55r2, S55_2, S55r3, S55_3, S55r4, S55_4, S55r5, S55_5, S55r6, S55_6, S55r7, S55_7, S55r8, R55, hn, hcA, impF, CNext, CFail, CMkd, mkdR, CCmdN, rdr, unStr_rows, strRows_len, mkRows_len, mkRows_all, List.length_append, ↓Ev.P, Ev.Q, Bool.cond_true, Bool.cond_false, eq_self, forall_eq_or_imp, implies_true, forall_const, forall_eq, ↓reduceIte, reduceIte, Nat.reduceEqDiff, Nat.reduceAdd, reduceCtorEq, Nat.reduceSub, Int.reduceToNat, Int.reduceLE, Int.reduceLT, Int.reduceNeg, Nat.reduceBEq, Nat.reduceMul, Nat.reduceLeDiff, Nat.reduceMod, UInt8.reduceOfNat, Nat.reduceLT, Int.reduceEq, Int.reduceAdd, Int.reduceSub, Int.reduceMul]))
        all_goals try omega
        all_goals exact hk _ _ _ _ [] (by simp)
    · have hcA : cmdA s = (.tup [.agg [.d (.v (.int .i64 0)), .d (.v (.int .i64 0)), .d (.v (.int .i64 0)), .d (.v (.int .i64 0)), .d (.sl [])], .d (.v (.bool false))], ⟨0, []⟩) := if_neg hf
      have hcm : cmdN s = none := if_neg hf
      rw [hcm] at hY; dsimp only at hY; subst hY; dsimp only [hkRK] at hk
      simp only [ec] at hk
      simp -dsimp -implicitDefEqProofs only [S55, S55_0, S55r1, S55_1, S55r2, S55_2, S55r3, S55_3, S55r4, S55_4, S55r5, S55_5, S55r6, S55_6, S55r7, S55_7, S55r8, R55, hn, hcA, impF, CNext, CFail, CMkd, mkdR, CCmdN, rdr, unStr_rows, strRows_len, mkRows_len, mkRows_all, List.length_append, ↓Ev.P, Ev.Q, Bool.cond_true, Bool.cond_false, eq_self, forall_eq_or_imp, implies_true, forall_const, forall_eq, ↓reduceIte, reduceIte, Nat.reduceEqDiff, Nat.reduceAdd, reduceCtorEq, Nat.reduceSub, Int.reduceToNat, Int.reduceLE, Int.reduceLT, Int.reduceNeg, Nat.reduceBEq, Nat.reduceMul, Nat.reduceLeDiff, Nat.reduceMod, UInt8.reduceOfNat, Nat.reduceLT, Int.reduceEq, Int.reduceAdd, Int.reduceSub, Int.reduceMul]
      repeat' (first | with_reducible assumption | refine And.intro ?_ ?_ | intro _ | (rw [Ev.xStp_eq]; simp -dsimp -implicitDefEqProofs only [S55, S55_0, S55r1, S55_1, S55r2, S55_2, S55r3, S55_3, S55r4, S55_4, S55r5, S55_5, S55r6, S55_6, S55r7, S55_7, S55r8, R55, hn, hcA, impF, CNext, CFail, CMkd, mkdR, CCmdN, rdr, unStr_rows, strRows_len, mkRows_len, mkRows_all, List.length_append, ↓Ev.P, Ev.Q, Bool.cond_true, Bool.cond_false, eq_self, forall_eq_or_imp, implies_true, forall_const, forall_eq, ↓reduceIte, reduceIte, Nat.reduceEqDiff, Nat.reduceAdd, reduceCtorEq, Nat.reduceSub, Int.reduceToNat, Int.reduceLE, Int.reduceLT, Int.reduceNeg, Nat.reduceBEq, Nat.reduceMul, Nat.reduceLeDiff, Nat.reduceMod, UInt8.reduceOfNat, Nat.reduceLT, Int.reduceEq, Int.reduceAdd, Int.reduceSub, Int.reduceMul]))
      all_goals try omega
      all_goals exact hk _ _ _ _ [] (by simp)
end Go.Proofs.YtlghobefhmpfkaaGreatDoor
set_option linter.unusedVariables false
set_option linter.unusedSimpArgs false
namespace Go.Proofs.YtlghobefhmpfkaaGreatDoor
open Go Go.Ev Go.Rcs
set_option maxRecDepth 100000
variable {G : World → Prop}
theorem lns_feed : ∀ (l : List UInt8), ∀ x ∈ lns l, ∀ k, k + 1 < x.length → x.getD k 0 ≠ 10
  | [], x, h, k, _ => by simp [lns] at h
  | c :: r, x, h, k, hk => by
    rw [lns] at h
    by_cases hc : c = 10
    · rw [if_pos hc] at h
      rcases List.mem_cons.1 h with rfl | h
      · simp at hk
      · exact lns_feed r x h k hk
    · rw [if_neg hc] at h
      cases hl : lns r with
      | nil =>
        rw [hl] at h
        simp only [List.mem_singleton] at h
        subst h
        simp at hk
      | cons p ps =>
        rw [hl] at h
        rcases List.mem_cons.1 h with rfl | h
        · cases k with
          | zero => simpa using hc
          | succ k =>
            have := lns_feed r p (by rw [hl]; simp) k (by simpa using hk)
            simpa using this
        · exact lns_feed r x (by rw [hl]; exact List.mem_cons_of_mem _ h) k hk
theorem lns_szN (s : List UInt8) (h : s.length ≤ 1048576) : (lns s).length ≤ 1048576 ∧ ∀ x ∈ lns s, x.length ≤ 1048576 := by
  refine ⟨Nat.le_trans (lns_len s) h, fun x hx => ?_⟩
  have h2 : x.length ≤ (lns s).flatten.length := by
    obtain ⟨a, b, e⟩ := List.append_of_mem hx
    rw [e]; simp; omega
  rw [lns_flat] at h2
  omega
theorem lns_okM (l : List UInt8) : okM (lns l) := by
  intro x hx h
  have h28 : (x.take 28).length = 28 := by rw [h]; rfl
  have h1 : 28 ≤ x.length := by rw [List.length_take] at h28; omega
  by_cases h2 : x.length = 28
  · rw [List.take_of_length_le (by omega)] at h; exact h
  · exfalso
    refine lns_feed l x hx 27 (by omega) ?_
    have h3 : (x.take 28).getD 27 0 = x.getD 27 0 := by simp [List.getD_eq_getElem?_getD, List.getElem?_take]
    rw [← h3, h]
    rfl
theorem hkN_le {L : List (List UInt8)} {ahead : Int} {k a : Nat} {h : Hk} (e : hkN L ahead k = .ok (h, a)) : k < a ∧ a ≤ L.length ∧ h.2.length ≤ L.length ∧ ahead < 4096 := by
  unfold hkN at e
  split at e
  · cases e
  · rename_i s a1 e1
    obtain ⟨rfl, hlt, _⟩ := nextL_le e1
    split at e
    · cases e
    · rename_i c e2
      split at e
      · cases e
      · rename_i hah
        unfold hkL at e
        split at e
        · cases e
        · rename_i m1 a2 e3
          obtain ⟨b1, b2, b3⟩ := mkL_le _ _ _ _ _ _ _ _ e3 (by omega)
          split at e
          · cases e
          · rename_i a3 e4
            have b4 : a2 ≤ a3 ∧ a3 ≤ L.length := by
              split at e4
              · unfold dashL at e4
                split at e4
                · cases e4
                · rename_i s2 a4 e5
                  obtain ⟨rfl, hl2, _⟩ := nextL_le e5
                  split at e4
                  · simp only [Except.ok.injEq] at e4; omega
                  · cases e4
              · simp only [Except.ok.injEq] at e4; omega
            split at e
            · cases e
            · rename_i m2 a4 e5
              obtain ⟨b5, b6, b7⟩ := mkL_le _ _ _ _ _ _ _ _ e5 b4.2
              simp only [Except.ok.injEq, Prod.mk.injEq] at e
              obtain ⟨rfl, rfl⟩ := e
              simp only [List.length_nil] at b3
              dsimp only
              omega
def pN (L : List (List UInt8)) : Nat → Nat → List Hk → Except Fl (List Hk)
  | 0, _, hs => .ok hs
  | n + 1, at_, hs => if at_ < L.length then match hkN L hs.length at_ with
      | .error e => .error e
      | .ok (h, a) => pN L n a (hs ++ [h])
    else .ok hs
theorem pN_end {L : List (List UInt8)} {n at_ : Nat} {hs : List Hk} (h : ¬ at_ < L.length) : pN L n at_ hs = .ok hs := by
  cases n with
  | zero => rfl
  | succ n => rw [pN, if_neg h]
def parN (s : List UInt8) : Except Fl (List Hk) := if 1048576 < s.length then .error (0, 9) else pN (lns s) (lns s).length 0 []
def parRr : Except Fl (List Hk) → SV × Store
  | .ok hs => (.tup [.own 0, .agg [.d (.v (.int .i64 0)), .d (.v (.int .i64 0))]], ⟨1, [(0, .row 47 5 (hkRows hs))]⟩)
  | .error (a, e) => (.tup [.d (.sl []), .agg [.d (.v (.int .i64 a)), .d (.v (.int .i64 e))]], ⟨0, []⟩)
def CParR : Contract := stC fun args st => match args, st with
  | [.d (.v (.string s))], ⟨0, []⟩ => some (s.size ≤ 1099511627776, parRr (parN s.data.toList))
  | _, _ => none
theorem hkN_err {L : List (List UInt8)} {ahead : Int} {k : Nat} {a e : Int} (h : hkN L ahead k = .error (a, e)) : ¬ e = 0 := by
  have hm : ∀ (p : List UInt8) (sg : Int) (n at_ : Nat) (acc : List Mk) (a e : Int), mkL p sg L n at_ acc = .error (a, e) → ¬ e = 0 := by
    intro p sg n
    induction n with
    | zero => intro at_ acc a e h; simp [mkL] at h
    | succ n ih =>
      intro at_ acc a e h
      rw [mkL] at h
      split at h
      · rename_i x hx
        cases h
        exact oneL_err hx
      · exact ih _ _ _ _ h
  unfold hkN at h
  split at h
  · rename_i x hx; cases h; exact (nx_next_err 0 hx).2.2
  · split at h
    · cases h; decide
    · split at h
      · cases h; decide
      · unfold hkL at h
        split at h
        · rename_i x hx; cases h; exact hm _ _ _ _ _ _ _ hx
        · split at h
          · rename_i x hx
            cases h
            split at hx
            · unfold dashL at hx
              split at hx
              · rename_i y hy; cases hx; exact (nx_next_err 0 hy).2.2
              · split at hx
                · cases hx
                · cases hx; decide
            · cases hx
          · split at h
            · rename_i x hx; cases h; exact hm _ _ _ _ _ _ _ hx
            · cases h
end Go.Proofs.YtlghobefhmpfkaaGreatDoor
set_option linter.unusedVariables false
set_option linter.unusedSimpArgs false
namespace Go.Proofs.YtlghobefhmpfkaaGreatDoor
open Go Go.Ev Go.Rcs
set_option maxRecDepth 100000
variable {G : World → Prop}
set_option maxHeartbeats 32000000 in
theorem s20 : Sound G Tryz.prog 20 CParR := by
  refine sd20 (T := tabT [(39, CRdr), (40, CMore), (55, CHunkR)]) (tab_cons s39 (tab_cons s40 (tab_cons s55 tab_nil))) (stC_lawful _) (st_hX fun args st pp x st' K h hp hk => ?_)
  split at h <;> simp only [Option.some.injEq, Prod.mk.injEq, reduceCtorEq] at h
  obtain ⟨rfl, h2⟩ := h
  rename_i s
  obtain ⟨s, rfl⟩ := ex_str s
  simp only [sem_str] at hp h2
  refine ⟨Nat.le_of_ble_eq_true rfl, ?_⟩
  by_cases h4 : 1048576 < s.length
  · have h5 : parN s = .error (0, 9) := by rw [parN, if_pos h4]
    rw [h5] at h2; simp only [parRr, Prod.mk.injEq] at h2; obtain ⟨rfl, rfl⟩ := h2
    refine ⟨[], ?_⟩
    simp -dsimp -implicitDefEqProofs only [S20, R20, h4, impF, CRdr, CMore, CHunkR_wp, hkRK, nilS, rdr, unStr_rows, strRows_len, hkRows_len, hkRows_all, mkRows_len, mkRows_all, hkRows_one, List.length_append, Ev.St.giveC, ↓Ev.P, Ev.Q, Bool.cond_true, Bool.cond_false, eq_self, forall_eq_or_imp, implies_true, forall_const, forall_eq, ↓reduceIte, reduceIte, Nat.reduceEqDiff, Nat.reduceAdd, reduceCtorEq, Nat.reduceSub, Int.reduceToNat, Int.reduceLE, Int.reduceLT, Int.reduceNeg, Nat.reduceBEq, Nat.reduceMul, Nat.reduceLeDiff, Nat.reduceMod, UInt8.reduceOfNat, Nat.reduceLT, Int.reduceEq, Int.reduceAdd, Int.reduceSub, Int.reduceMul]
    repeat' (first | with_reducible assumption | refine And.intro ?_ ?_ | intro _ | (rw [Ev.xStp_eq]; simp -dsimp -implicitDefEqProofs only [S20, R20, h4, impF, CRdr, CMore, CHunkR_wp, hkRK, nilS, rdr, unStr_rows, strRows_len, hkRows_len, hkRows_all, mkRows_len, mkRows_all, hkRows_one, List.length_append, Ev.St.giveC, ↓Ev.P, Ev.Q, Bool.cond_true, Bool.cond_false, eq_self, forall_eq_or_imp, implies_true, forall_const, forall_eq, ↓reduceIte, reduceIte, Nat.reduceEqDiff, Nat.reduceAdd, reduceCtorEq, Nat.reduceSub, Int.reduceToNat, Int.reduceLE, Int.reduceLT, Int.reduceNeg, Nat.reduceBEq, Nat.reduceMul, Nat.reduceLeDiff, Nat.reduceMod, UInt8.reduceOfNat, Nat.reduceLT, Int.reduceEq, Int.reduceAdd, Int.reduceSub, Int.reduceMul]))
    all_goals try omega
    refine xLoop_intro (fun n st => n = 0 ∧ st = ⟨[(3, .ptr 0 0), (4, .ptr 1 0), (5, .own 2)], 3, [(0, .cells 29 [.d (.v (.int .i64 0)), .d (.v (.int .i64 0))]), (1, .cells 77 [.d (.v (.slice none 0 0)), .d (.v (.int .i64 0)), .d (.v (.int .i64 0)), .d (.v (.int .i64 9))]), (2, .row 47 5 [])]⟩) 0 [0, 1, 2] ?_ ?_ ?_
    · simp -dsimp -implicitDefEqProofs only [↓Ev.xStp_eq, ↓Ev.P, Ev.Q, Bool.cond_true, Bool.cond_false, eq_self, forall_eq_or_imp, implies_true, forall_const, forall_eq, ↓reduceIte, reduceIte, Nat.reduceEqDiff, Nat.reduceAdd, reduceCtorEq, Nat.reduceSub, Int.reduceToNat, Int.reduceLE, Int.reduceLT, Int.reduceNeg, Nat.reduceBEq, Nat.reduceMul, Nat.reduceLeDiff, Nat.reduceMod, UInt8.reduceOfNat, Nat.reduceLT, Int.reduceEq, Int.reduceAdd, Int.reduceSub, Int.reduceMul]
    · simp -dsimp -implicitDefEqProofs only [nilS, ↓Ev.xStp_eq, ↓Ev.P, Ev.Q, Bool.cond_true, Bool.cond_false, eq_self, forall_eq_or_imp, implies_true, forall_const, forall_eq, ↓reduceIte, reduceIte, Nat.reduceEqDiff, Nat.reduceAdd, reduceCtorEq, Nat.reduceSub, Int.reduceToNat, Int.reduceLE, Int.reduceLT, Int.reduceNeg, Nat.reduceBEq, Nat.reduceMul, Nat.reduceLeDiff, Nat.reduceMod, UInt8.reduceOfNat, Nat.reduceLT, Int.reduceEq, Int.reduceAdd, Int.reduceSub, Int.reduceMul]
      all_goals first | rfl | exact ⟨rfl, rfl⟩ | trivial
    · rintro n2 st2 ⟨rfl, rfl⟩
      simp -dsimp -implicitDefEqProofs only [S20, R20, impF, CRdr, CMore, CHunkR_wp, hkRK, nilS, rdr, unStr_rows, strRows_len, hkRows_len, hkRows_all, mkRows_len, mkRows_all, hkRows_one, List.length_append, Ev.St.giveC, ↓Ev.P, Ev.Q, Bool.cond_true, Bool.cond_false, eq_self, forall_eq_or_imp, implies_true, forall_const, forall_eq, ↓reduceIte, reduceIte, Nat.reduceEqDiff, Nat.reduceAdd, reduceCtorEq, Nat.reduceSub, Int.reduceToNat, Int.reduceLE, Int.reduceLT, Int.reduceNeg, Nat.reduceBEq, Nat.reduceMul, Nat.reduceLeDiff, Nat.reduceMod, UInt8.reduceOfNat, Nat.reduceLT, Int.reduceEq, Int.reduceAdd, Int.reduceSub, Int.reduceMul]
      repeat' (first | with_reducible assumption | refine And.intro ?_ ?_ | intro _ | (rw [Ev.xStp_eq]; simp -dsimp -implicitDefEqProofs only [S20, R20, impF, CRdr, CMore, CHunkR_wp, hkRK, nilS, rdr, unStr_rows, strRows_len, hkRows_len, hkRows_all, mkRows_len, mkRows_all, hkRows_one, List.length_append, Ev.St.giveC, ↓Ev.P, Ev.Q, Bool.cond_true, Bool.cond_false, eq_self, forall_eq_or_imp, implies_true, forall_const, forall_eq, ↓reduceIte, reduceIte, Nat.reduceEqDiff, Nat.reduceAdd, reduceCtorEq, Nat.reduceSub, Int.reduceToNat, Int.reduceLE, Int.reduceLT, Int.reduceNeg, Nat.reduceBEq, Nat.reduceMul, Nat.reduceLeDiff, Nat.reduceMod, UInt8.reduceOfNat, Nat.reduceLT, Int.reduceEq, Int.reduceAdd, Int.reduceSub, Int.reduceMul]))
      all_goals try omega
      all_goals exact hk
  · have h5 : parN s = pN (lns s) (lns s).length 0 [] := by rw [parN, if_neg h4]
    rw [h5] at h2
    obtain ⟨hLl, hL0⟩ := lns_szN s (by omega)
    have hM := lns_okM s
    generalize hLs : lns s = L at h2 hLl hL0 hM
    have hL : ∀ x ∈ L, x.length ≤ 1099511627776 := fun x hx => Nat.le_trans (hL0 x hx) (by omega)
    have hsm : smL L := ⟨by omega, hL⟩
    cases hY : pN L L.length 0 [] with
    | error xe =>
      obtain ⟨a, e⟩ := xe
      rw [hY] at h2; simp only [parRr, Prod.mk.injEq] at h2; obtain ⟨rfl, rfl⟩ := h2
      refine ⟨[], ?_⟩
      simp -dsimp -implicitDefEqProofs only [S20, R20, h4, hLs, impF, CRdr, CMore, CHunkR_wp, hkRK, nilS, rdr, unStr_rows, strRows_len, hkRows_len, hkRows_all, mkRows_len, mkRows_all, hkRows_one, List.length_append, Ev.St.giveC, ↓Ev.P, Ev.Q, Bool.cond_true, Bool.cond_false, eq_self, forall_eq_or_imp, implies_true, forall_const, forall_eq, ↓reduceIte, reduceIte, Nat.reduceEqDiff, Nat.reduceAdd, reduceCtorEq, Nat.reduceSub, Int.reduceToNat, Int.reduceLE, Int.reduceLT, Int.reduceNeg, Nat.reduceBEq, Nat.reduceMul, Nat.reduceLeDiff, Nat.reduceMod, UInt8.reduceOfNat, Nat.reduceLT, Int.reduceEq, Int.reduceAdd, Int.reduceSub, Int.reduceMul]
      repeat' (first | with_reducible assumption | refine And.intro ?_ ?_ | intro _ | (rw [Ev.xStp_eq]; simp -dsimp -implicitDefEqProofs only [S20, R20, h4, hLs, impF, CRdr, CMore, CHunkR_wp, hkRK, nilS, rdr, unStr_rows, strRows_len, hkRows_len, hkRows_all, mkRows_len, mkRows_all, hkRows_one, List.length_append, Ev.St.giveC, ↓Ev.P, Ev.Q, Bool.cond_true, Bool.cond_false, eq_self, forall_eq_or_imp, implies_true, forall_const, forall_eq, ↓reduceIte, reduceIte, Nat.reduceEqDiff, Nat.reduceAdd, reduceCtorEq, Nat.reduceSub, Int.reduceToNat, Int.reduceLE, Int.reduceLT, Int.reduceNeg, Nat.reduceBEq, Nat.reduceMul, Nat.reduceLeDiff, Nat.reduceMod, UInt8.reduceOfNat, Nat.reduceLT, Int.reduceEq, Int.reduceAdd, Int.reduceSub, Int.reduceMul]))
      all_goals try omega
      refine xLoop_intro (fun n2 st => (∃ (f at_ : Nat) (hs : List Hk), at_ ≤ L.length ∧ n2 = L.length - at_ + 1 ∧ L.length - at_ ≤ f ∧ hs.length ≤ 4096 ∧ pN L f at_ hs = .error (a, e) ∧ st = ⟨[(3, .ptr 0 0), (4, .ptr 1 0), (5, .own 2)], 3, [(0, .cells 29 [.d (.v (.int .i64 0)), .d (.v (.int .i64 0))]), (1, .cells 77 [.d (.sl (strRows L)), .d (.v (.int .i64 (at_ : Nat))), .d (.v (.int .i64 0)), .d (.v (.int .i64 0))]), (2, .row 47 5 (hkRows hs))]⟩) ∨ (n2 = 0 ∧ ¬ e = 0 ∧ ∃ rw, st = ⟨[(3, .ptr 0 0), (4, .ptr 1 0), (5, .own 2)], 3, [(0, .cells 29 [.d (.v (.int .i64 0)), .d (.v (.int .i64 0))]), (1, .cells 77 [.d (.sl (strRows L)), .d (.v (.int .i64 a)), .d (.v (.int .i64 a)), .d (.v (.int .i64 e))]), (2, .row 47 5 rw)]⟩)) (L.length + 1) [0, 1, 2] ?_ ?_ ?_
      · simp -dsimp -implicitDefEqProofs only [↓Ev.xStp_eq, ↓Ev.P, Ev.Q, Bool.cond_true, Bool.cond_false, eq_self, forall_eq_or_imp, implies_true, forall_const, forall_eq, ↓reduceIte, reduceIte, Nat.reduceEqDiff, Nat.reduceAdd, reduceCtorEq, Nat.reduceSub, Int.reduceToNat, Int.reduceLE, Int.reduceLT, Int.reduceNeg, Nat.reduceBEq, Nat.reduceMul, Nat.reduceLeDiff, Nat.reduceMod, UInt8.reduceOfNat, Nat.reduceLT, Int.reduceEq, Int.reduceAdd, Int.reduceSub, Int.reduceMul]
      · simp -dsimp -implicitDefEqProofs only [↓Ev.xStp_eq, ↓Ev.P, Ev.Q, Bool.cond_true, Bool.cond_false, eq_self, forall_eq_or_imp, implies_true, forall_const, forall_eq, ↓reduceIte, reduceIte, Nat.reduceEqDiff, Nat.reduceAdd, reduceCtorEq, Nat.reduceSub, Int.reduceToNat, Int.reduceLE, Int.reduceLT, Int.reduceNeg, Nat.reduceBEq, Nat.reduceMul, Nat.reduceLeDiff, Nat.reduceMod, UInt8.reduceOfNat, Nat.reduceLT, Int.reduceEq, Int.reduceAdd, Int.reduceSub, Int.reduceMul]
        exact .inl ⟨L.length, 0, [], by omega, by omega, by omega, by simp, hY, rfl⟩
      · rintro n2 st2 (⟨f, at_, hs, hat, rfl, hf, hhs, hgo, rfl⟩ | ⟨rfl, he, rw_, rfl⟩)
        · by_cases hlt : at_ < L.length
          · have hi3 : (at_ : Int) < L.length := by omega
            obtain ⟨f, rfl⟩ : ∃ g, f = g + 1 := ⟨f - 1, by omega⟩
            rw [pN, if_pos hlt] at hgo
            cases hx : hkN L hs.length at_ with
            | error xe =>
              obtain ⟨xa, xe⟩ := xe
              have hne := hkN_err hx
              rw [hx] at hgo; cases hgo
              simp -dsimp -implicitDefEqProofs only [S20, R20, hi3, hx, impF, CRdr, CMore, CHunkR_wp, hkRK, nilS, rdr, unStr_rows, strRows_len, hkRows_len, hkRows_all, mkRows_len, mkRows_all, hkRows_one, List.length_append, Ev.St.giveC, ↓Ev.P, Ev.Q, Bool.cond_true, Bool.cond_false, eq_self, forall_eq_or_imp, implies_true, forall_const, forall_eq, ↓reduceIte, reduceIte, Nat.reduceEqDiff, Nat.reduceAdd, reduceCtorEq, Nat.reduceSub, Int.reduceToNat, Int.reduceLE, Int.reduceLT, Int.reduceNeg, Nat.reduceBEq, Nat.reduceMul, Nat.reduceLeDiff, Nat.reduceMod, UInt8.reduceOfNat, Nat.reduceLT, Int.reduceEq, Int.reduceAdd, Int.reduceSub, Int.reduceMul]
              repeat' (first | with_reducible assumption | refine And.intro ?_ ?_ | intro _ | (rw [Ev.xStp_eq]; simp -dsimp -implicitDefEqProofs only [S20, R20, hi3, hx, impF, CRdr, CMore, CHunkR_wp, hkRK, nilS, rdr, unStr_rows, strRows_len, hkRows_len, hkRows_all, mkRows_len, mkRows_all, hkRows_one, List.length_append, Ev.St.giveC, ↓Ev.P, Ev.Q, Bool.cond_true, Bool.cond_false, eq_self, forall_eq_or_imp, implies_true, forall_const, forall_eq, ↓reduceIte, reduceIte, Nat.reduceEqDiff, Nat.reduceAdd, reduceCtorEq, Nat.reduceSub, Int.reduceToNat, Int.reduceLE, Int.reduceLT, Int.reduceNeg, Nat.reduceBEq, Nat.reduceMul, Nat.reduceLeDiff, Nat.reduceMod, UInt8.reduceOfNat, Nat.reduceLT, Int.reduceEq, Int.reduceAdd, Int.reduceSub, Int.reduceMul]))
              all_goals try omega
              refine xAgain_intro 0 [0, 1, 4] (by omega) (by simp -dsimp -implicitDefEqProofs only [↓Ev.xStp_eq, ↓Ev.P, Ev.Q, Bool.cond_true, Bool.cond_false, eq_self, forall_eq_or_imp, implies_true, forall_const, forall_eq, ↓reduceIte, reduceIte, Nat.reduceEqDiff, Nat.reduceAdd, reduceCtorEq, Nat.reduceSub, Int.reduceToNat, Int.reduceLE, Int.reduceLT, Int.reduceNeg, Nat.reduceBEq, Nat.reduceMul, Nat.reduceLeDiff, Nat.reduceMod, UInt8.reduceOfNat, Nat.reduceLT, Int.reduceEq, Int.reduceAdd, Int.reduceSub, Int.reduceMul]) (.inr ⟨rfl, hne, ?_⟩)
              simp -dsimp -implicitDefEqProofs only [↓Ev.xStp_eq, ↓Ev.P, Ev.Q, Bool.cond_true, Bool.cond_false, eq_self, forall_eq_or_imp, implies_true, forall_const, forall_eq, ↓reduceIte, reduceIte, Nat.reduceEqDiff, Nat.reduceAdd, reduceCtorEq, Nat.reduceSub, Int.reduceToNat, Int.reduceLE, Int.reduceLT, Int.reduceNeg, Nat.reduceBEq, Nat.reduceMul, Nat.reduceLeDiff, Nat.reduceMod, UInt8.reduceOfNat, Nat.reduceLT, Int.reduceEq, Int.reduceAdd, Int.reduceSub, Int.reduceMul]
              all_goals exact ⟨_, rfl⟩
            | ok x =>
              obtain ⟨h, a1⟩ := x
              obtain ⟨b1, b2, b3, b4⟩ := hkN_le hx
              rw [hx] at hgo; dsimp only at hgo
              obtain ⟨⟨hA, hAN, hB, hBN⟩, hms⟩ := h
              simp -dsimp -implicitDefEqProofs only [S20, R20, hi3, hx, impF, CRdr, CMore, CHunkR_wp, hkRK, nilS, rdr, unStr_rows, strRows_len, hkRows_len, hkRows_all, mkRows_len, mkRows_all, hkRows_one, List.length_append, Ev.St.giveC, ↓Ev.P, Ev.Q, Bool.cond_true, Bool.cond_false, eq_self, forall_eq_or_imp, implies_true, forall_const, forall_eq, ↓reduceIte, reduceIte, Nat.reduceEqDiff, Nat.reduceAdd, reduceCtorEq, Nat.reduceSub, Int.reduceToNat, Int.reduceLE, Int.reduceLT, Int.reduceNeg, Nat.reduceBEq, Nat.reduceMul, Nat.reduceLeDiff, Nat.reduceMod, UInt8.reduceOfNat, Nat.reduceLT, Int.reduceEq, Int.reduceAdd, Int.reduceSub, Int.reduceMul]
              repeat' (first | with_reducible assumption | refine And.intro ?_ ?_ | intro _ | (rw [Ev.xStp_eq]; simp -dsimp -implicitDefEqProofs only [S20, R20, hi3, hx, impF, CRdr, CMore, CHunkR_wp, hkRK, nilS, rdr, unStr_rows, strRows_len, hkRows_len, hkRows_all, mkRows_len, mkRows_all, hkRows_one, List.length_append, Ev.St.giveC, ↓Ev.P, Ev.Q, Bool.cond_true, Bool.cond_false, eq_self, forall_eq_or_imp, implies_true, forall_const, forall_eq, ↓reduceIte, reduceIte, Nat.reduceEqDiff, Nat.reduceAdd, reduceCtorEq, Nat.reduceSub, Int.reduceToNat, Int.reduceLE, Int.reduceLT, Int.reduceNeg, Nat.reduceBEq, Nat.reduceMul, Nat.reduceLeDiff, Nat.reduceMod, UInt8.reduceOfNat, Nat.reduceLT, Int.reduceEq, Int.reduceAdd, Int.reduceSub, Int.reduceMul]))
              all_goals try omega
              refine xAgain_intro (L.length - a1 + 1) [0, 1, 4] (by omega) (by simp -dsimp -implicitDefEqProofs only [↓Ev.xStp_eq, ↓Ev.P, Ev.Q, Bool.cond_true, Bool.cond_false, eq_self, forall_eq_or_imp, implies_true, forall_const, forall_eq, ↓reduceIte, reduceIte, Nat.reduceEqDiff, Nat.reduceAdd, reduceCtorEq, Nat.reduceSub, Int.reduceToNat, Int.reduceLE, Int.reduceLT, Int.reduceNeg, Nat.reduceBEq, Nat.reduceMul, Nat.reduceLeDiff, Nat.reduceMod, UInt8.reduceOfNat, Nat.reduceLT, Int.reduceEq, Int.reduceAdd, Int.reduceSub, Int.reduceMul]) (.inl ⟨f, a1, hs ++ [((hA, hAN, hB, hBN), hms)], b2, rfl, by omega, by rw [List.length_append, List.length_singleton]; omega, hgo, ?_⟩)
              simp -dsimp -implicitDefEqProofs only [↓Ev.xStp_eq, ↓Ev.P, Ev.Q, Bool.cond_true, Bool.cond_false, eq_self, forall_eq_or_imp, implies_true, forall_const, forall_eq, ↓reduceIte, reduceIte, Nat.reduceEqDiff, Nat.reduceAdd, reduceCtorEq, Nat.reduceSub, Int.reduceToNat, Int.reduceLE, Int.reduceLT, Int.reduceNeg, Nat.reduceBEq, Nat.reduceMul, Nat.reduceLeDiff, Nat.reduceMod, UInt8.reduceOfNat, Nat.reduceLT, Int.reduceEq, Int.reduceAdd, Int.reduceSub, Int.reduceMul]
              all_goals rfl
          · have hi3 : ¬ (at_ : Int) < L.length := by omega
            rw [pN_end hlt] at hgo; cases hgo
        · have _t := trivial
          simp -dsimp -implicitDefEqProofs only [S20, R20, he, impF, CRdr, CMore, CHunkR_wp, hkRK, nilS, rdr, unStr_rows, strRows_len, hkRows_len, hkRows_all, mkRows_len, mkRows_all, hkRows_one, List.length_append, Ev.St.giveC, ↓Ev.P, Ev.Q, Bool.cond_true, Bool.cond_false, eq_self, forall_eq_or_imp, implies_true, forall_const, forall_eq, ↓reduceIte, reduceIte, Nat.reduceEqDiff, Nat.reduceAdd, reduceCtorEq, Nat.reduceSub, Int.reduceToNat, Int.reduceLE, Int.reduceLT, Int.reduceNeg, Nat.reduceBEq, Nat.reduceMul, Nat.reduceLeDiff, Nat.reduceMod, UInt8.reduceOfNat, Nat.reduceLT, Int.reduceEq, Int.reduceAdd, Int.reduceSub, Int.reduceMul]
          repeat' (first | with_reducible assumption | refine And.intro ?_ ?_ | intro _ | (rw [Ev.xStp_eq]; simp -dsimp -implicitDefEqProofs only [S20, R20, he, impF, CRdr, CMore, CHunkR_wp, hkRK, nilS, rdr, unStr_rows, strRows_len, hkRows_len, hkRows_all, mkRows_len, mkRows_all, hkRows_one, List.length_append, Ev.St.giveC, ↓Ev.P, Ev.Q, Bool.cond_true, Bool.cond_false, eq_self, forall_eq_or_imp, implies_true, forall_const, forall_eq, ↓reduceIte, reduceIte, Nat.reduceEqDiff, Nat.reduceAdd, reduceCtorEq, Nat.reduceSub, Int.reduceToNat, Int.reduceLE, Int.reduceLT, Int.reduceNeg, Nat.reduceBEq, Nat.reduceMul, Nat.reduceLeDiff, Nat.reduceMod, UInt8.reduceOfNat, Nat.reduceLT, Int.reduceEq, Int.reduceAdd, Int.reduceSub, Int.reduceMul]))
          all_goals try omega
          all_goals exact hk
    | ok hh =>
      rw [hY] at h2; simp only [parRr, Prod.mk.injEq] at h2; obtain ⟨rfl, rfl⟩ := h2
      refine ⟨[2], ?_⟩
      simp -dsimp -implicitDefEqProofs only [S20, R20, h4, hLs, impF, CRdr, CMore, CHunkR_wp, hkRK, nilS, rdr, unStr_rows, strRows_len, hkRows_len, hkRows_all, mkRows_len, mkRows_all, hkRows_one, List.length_append, Ev.St.giveC, ↓Ev.P, Ev.Q, Bool.cond_true, Bool.cond_false, eq_self, forall_eq_or_imp, implies_true, forall_const, forall_eq, ↓reduceIte, reduceIte, Nat.reduceEqDiff, Nat.reduceAdd, reduceCtorEq, Nat.reduceSub, Int.reduceToNat, Int.reduceLE, Int.reduceLT, Int.reduceNeg, Nat.reduceBEq, Nat.reduceMul, Nat.reduceLeDiff, Nat.reduceMod, UInt8.reduceOfNat, Nat.reduceLT, Int.reduceEq, Int.reduceAdd, Int.reduceSub, Int.reduceMul]
      repeat' (first | with_reducible assumption | refine And.intro ?_ ?_ | intro _ | (rw [Ev.xStp_eq]; simp -dsimp -implicitDefEqProofs only [S20, R20, h4, hLs, impF, CRdr, CMore, CHunkR_wp, hkRK, nilS, rdr, unStr_rows, strRows_len, hkRows_len, hkRows_all, mkRows_len, mkRows_all, hkRows_one, List.length_append, Ev.St.giveC, ↓Ev.P, Ev.Q, Bool.cond_true, Bool.cond_false, eq_self, forall_eq_or_imp, implies_true, forall_const, forall_eq, ↓reduceIte, reduceIte, Nat.reduceEqDiff, Nat.reduceAdd, reduceCtorEq, Nat.reduceSub, Int.reduceToNat, Int.reduceLE, Int.reduceLT, Int.reduceNeg, Nat.reduceBEq, Nat.reduceMul, Nat.reduceLeDiff, Nat.reduceMod, UInt8.reduceOfNat, Nat.reduceLT, Int.reduceEq, Int.reduceAdd, Int.reduceSub, Int.reduceMul]))
      all_goals try omega
      refine xLoop_intro (fun n2 st => (∃ (f at_ : Nat) (hs : List Hk), at_ ≤ L.length ∧ n2 = L.length - at_ + 1 ∧ L.length - at_ ≤ f ∧ hs.length ≤ 4096 ∧ pN L f at_ hs = .ok hh ∧ st = ⟨[(3, .ptr 0 0), (4, .ptr 1 0), (5, .own 2)], 3, [(0, .cells 29 [.d (.v (.int .i64 0)), .d (.v (.int .i64 0))]), (1, .cells 77 [.d (.sl (strRows L)), .d (.v (.int .i64 (at_ : Nat))), .d (.v (.int .i64 0)), .d (.v (.int .i64 0))]), (2, .row 47 5 (hkRows hs))]⟩)) (L.length + 1) [0, 1, 2] ?_ ?_ ?_
      · simp -dsimp -implicitDefEqProofs only [↓Ev.xStp_eq, ↓Ev.P, Ev.Q, Bool.cond_true, Bool.cond_false, eq_self, forall_eq_or_imp, implies_true, forall_const, forall_eq, ↓reduceIte, reduceIte, Nat.reduceEqDiff, Nat.reduceAdd, reduceCtorEq, Nat.reduceSub, Int.reduceToNat, Int.reduceLE, Int.reduceLT, Int.reduceNeg, Nat.reduceBEq, Nat.reduceMul, Nat.reduceLeDiff, Nat.reduceMod, UInt8.reduceOfNat, Nat.reduceLT, Int.reduceEq, Int.reduceAdd, Int.reduceSub, Int.reduceMul]
      · simp -dsimp -implicitDefEqProofs only [↓Ev.xStp_eq, ↓Ev.P, Ev.Q, Bool.cond_true, Bool.cond_false, eq_self, forall_eq_or_imp, implies_true, forall_const, forall_eq, ↓reduceIte, reduceIte, Nat.reduceEqDiff, Nat.reduceAdd, reduceCtorEq, Nat.reduceSub, Int.reduceToNat, Int.reduceLE, Int.reduceLT, Int.reduceNeg, Nat.reduceBEq, Nat.reduceMul, Nat.reduceLeDiff, Nat.reduceMod, UInt8.reduceOfNat, Nat.reduceLT, Int.reduceEq, Int.reduceAdd, Int.reduceSub, Int.reduceMul]
        exact ⟨L.length, 0, [], by omega, by omega, by omega, by simp, hY, rfl⟩
      · rintro n2 st2 ⟨f, at_, hs, hat, rfl, hf, hhs, hgo, rfl⟩
        by_cases hlt : at_ < L.length
        · have hi3 : (at_ : Int) < L.length := by omega
          obtain ⟨f, rfl⟩ : ∃ g, f = g + 1 := ⟨f - 1, by omega⟩
          rw [pN, if_pos hlt] at hgo
          cases hx : hkN L hs.length at_ with
          | error xe =>
            obtain ⟨xa, xe⟩ := xe
            rw [hx] at hgo; cases hgo
          | ok x =>
            obtain ⟨h, a1⟩ := x
            obtain ⟨b1, b2, b3, b4⟩ := hkN_le hx
            rw [hx] at hgo; dsimp only at hgo
            obtain ⟨⟨hA, hAN, hB, hBN⟩, hms⟩ := h
            simp -dsimp -implicitDefEqProofs only [S20, R20, hi3, hx, impF, CRdr, CMore, CHunkR_wp, hkRK, nilS, rdr, unStr_rows, strRows_len, hkRows_len, hkRows_all, mkRows_len, mkRows_all, hkRows_one, List.length_append, Ev.St.giveC, ↓Ev.P, Ev.Q, Bool.cond_true, Bool.cond_false, eq_self, forall_eq_or_imp, implies_true, forall_const, forall_eq, ↓reduceIte, reduceIte, Nat.reduceEqDiff, Nat.reduceAdd, reduceCtorEq, Nat.reduceSub, Int.reduceToNat, Int.reduceLE, Int.reduceLT, Int.reduceNeg, Nat.reduceBEq, Nat.reduceMul, Nat.reduceLeDiff, Nat.reduceMod, UInt8.reduceOfNat, Nat.reduceLT, Int.reduceEq, Int.reduceAdd, Int.reduceSub, Int.reduceMul]
            repeat' (first | with_reducible assumption | refine And.intro ?_ ?_ | intro _ | (rw [Ev.xStp_eq]; simp -dsimp -implicitDefEqProofs only [S20, R20, hi3, hx, impF, CRdr, CMore, CHunkR_wp, hkRK, nilS, rdr, unStr_rows, strRows_len, hkRows_len, hkRows_all, mkRows_len, mkRows_all, hkRows_one, List.length_append, Ev.St.giveC, ↓Ev.P, Ev.Q, Bool.cond_true, Bool.cond_false, eq_self, forall_eq_or_imp, implies_true, forall_const, forall_eq, ↓reduceIte, reduceIte, Nat.reduceEqDiff, Nat.reduceAdd, reduceCtorEq, Nat.reduceSub, Int.reduceToNat, Int.reduceLE, Int.reduceLT, Int.reduceNeg, Nat.reduceBEq, Nat.reduceMul, Nat.reduceLeDiff, Nat.reduceMod, UInt8.reduceOfNat, Nat.reduceLT, Int.reduceEq, Int.reduceAdd, Int.reduceSub, Int.reduceMul]))
            all_goals try omega
            refine xAgain_intro (L.length - a1 + 1) [0, 1, 4] (by omega) (by simp -dsimp -implicitDefEqProofs only [↓Ev.xStp_eq, ↓Ev.P, Ev.Q, Bool.cond_true, Bool.cond_false, eq_self, forall_eq_or_imp, implies_true, forall_const, forall_eq, ↓reduceIte, reduceIte, Nat.reduceEqDiff, Nat.reduceAdd, reduceCtorEq, Nat.reduceSub, Int.reduceToNat, Int.reduceLE, Int.reduceLT, Int.reduceNeg, Nat.reduceBEq, Nat.reduceMul, Nat.reduceLeDiff, Nat.reduceMod, UInt8.reduceOfNat, Nat.reduceLT, Int.reduceEq, Int.reduceAdd, Int.reduceSub, Int.reduceMul]) ⟨f, a1, hs ++ [((hA, hAN, hB, hBN), hms)], b2, rfl, by omega, by rw [List.length_append, List.length_singleton]; omega, hgo, ?_⟩
            simp -dsimp -implicitDefEqProofs only [↓Ev.xStp_eq, ↓Ev.P, Ev.Q, Bool.cond_true, Bool.cond_false, eq_self, forall_eq_or_imp, implies_true, forall_const, forall_eq, ↓reduceIte, reduceIte, Nat.reduceEqDiff, Nat.reduceAdd, reduceCtorEq, Nat.reduceSub, Int.reduceToNat, Int.reduceLE, Int.reduceLT, Int.reduceNeg, Nat.reduceBEq, Nat.reduceMul, Nat.reduceLeDiff, Nat.reduceMod, UInt8.reduceOfNat, Nat.reduceLT, Int.reduceEq, Int.reduceAdd, Int.reduceSub, Int.reduceMul]
            all_goals rfl
        · have hi3 : ¬ (at_ : Int) < L.length := by omega
          rw [pN_end hlt] at hgo; cases hgo
          simp -dsimp -implicitDefEqProofs only [S20, R20, hi3, impF, CRdr, CMore, CHunkR_wp, hkRK, nilS, rdr, unStr_rows, strRows_len, hkRows_len, hkRows_all, mkRows_len, mkRows_all, hkRows_one, List.length_append, Ev.St.giveC, ↓Ev.P, Ev.Q, Bool.cond_true, Bool.cond_false, eq_self, forall_eq_or_imp, implies_true, forall_const, forall_eq, ↓reduceIte, reduceIte, Nat.reduceEqDiff, Nat.reduceAdd, reduceCtorEq, Nat.reduceSub, Int.reduceToNat, Int.reduceLE, Int.reduceLT, Int.reduceNeg, Nat.reduceBEq, Nat.reduceMul, Nat.reduceLeDiff, Nat.reduceMod, UInt8.reduceOfNat, Nat.reduceLT, Int.reduceEq, Int.reduceAdd, Int.reduceSub, Int.reduceMul]
          repeat' (first | with_reducible assumption | refine And.intro ?_ ?_ | intro _ | (rw [Ev.xStp_eq]; simp -dsimp -implicitDefEqProofs only [S20, R20, hi3, impF, CRdr, CMore, CHunkR_wp, hkRK, nilS, rdr, unStr_rows, strRows_len, hkRows_len, hkRows_all, mkRows_len, mkRows_all, hkRows_one, List.length_append, Ev.St.giveC, ↓Ev.P, Ev.Q, Bool.cond_true, Bool.cond_false, eq_self, forall_eq_or_imp, implies_true, forall_const, forall_eq, ↓reduceIte, reduceIte, Nat.reduceEqDiff, Nat.reduceAdd, reduceCtorEq, Nat.reduceSub, Int.reduceToNat, Int.reduceLE, Int.reduceLT, Int.reduceNeg, Nat.reduceBEq, Nat.reduceMul, Nat.reduceLeDiff, Nat.reduceMod, UInt8.reduceOfNat, Nat.reduceLT, Int.reduceEq, Int.reduceAdd, Int.reduceSub, Int.reduceMul]))
          all_goals try omega
          all_goals exact hk
end Go.Proofs.YtlghobefhmpfkaaGreatDoor
set_option linter.unusedVariables false
set_option linter.unusedSimpArgs false
namespace Go.Proofs.YtlghobefhmpfkaaGreatDoor
open Go Go.RowKit
set_option maxRecDepth 100000
theorem ta_flt (v : Value) (xT : TypeId) (w : World) : (Instr.typeAssert (.iface 79 v) xT 79 true).run Tryz.prog w = .ok (.tuple #[v, .bool true]) w := by kernel_rfl
set_option maxHeartbeats 1000000 in
theorem catch_pan (p0 p1 : Addr) (q : Addr) (x0 x1 : Value) (w : World) (h0 : w.cell? p0 = some x0) (h1 : w.cell? p1 = some x1) (f0 : w.frozen? p0 = false) (f1 : w.frozen? p1 = false) (hne : p0.block ≠ p1.block) :
    CallsDIn Fence.wide 0 Tryz.prog 53 #[.pointer (some p0), .pointer (some p1)] (.panicking [{ v := .iface 79 (.pointer (some q)), recovered := false }]) w fun e u w' =>
      e = .returned (.tuple #[]) ∧ u = .panicking [{ v := .iface 79 (.pointer (some q)), recovered := true }] ∧ w' = (w.setCell p0 (.slice none 0 0)).setCell p1 (.iface 79 (.pointer (some q))) := by
  have hta := ta_flt
  refine callsDIn_of_wpSIn Tryz.func53 rfl trivial fun c₀ cs hu => ?_
  refine wpSIn_seq (wpSIn_region ?_)
  simp [wpOpsSIn, go_sem, recoverD, hu, Tryz.ntmps53, Exit.thenS]
  refine wpSIn_of_wpIn rfl (wpIn_wide.2 ?_)
  have f1' : (w.setCell p0 (.slice none 0 0)).frozen? p1 = false := by rw [World.frozen?_setCell]; exact f1
  have h1' : (w.setCell p0 (.slice none 0 0)).cell? p1 = some x1 := by rw [World.cell?_setCell_other _ _ _ _ (fun e => hne (by rw [e]))]; exact h1
  go_wp2
  exact ⟨rfl, _, rfl, _, results_none rfl _ _ _, rfl, rfl, rfl⟩
theorem catch_idle (p0 p1 : Addr) (w : World) :
    CallsDIn Fence.wide 0 Tryz.prog 53 #[.pointer (some p0), .pointer (some p1)] .returning w fun e u w' => e = .returned (.tuple #[]) ∧ u = .returning ∧ w' = w := by
  refine callsDIn_of_wpSIn Tryz.func53 rfl trivial fun c₀ cs hu => ?_
  refine wpSIn_seq (wpSIn_region ?_)
  simp [wpOpsSIn, go_sem, recoverD, hu, Tryz.ntmps53, Exit.thenS]
  refine wpSIn_of_wpIn rfl (wpIn_wide.2 ?_)
  go_wp2
  refine ⟨rfl, .returning, ?_, _, results_none rfl _ _ _, rfl, rfl, rfl⟩
  cases c₀
  simp_all
end Go.Proofs.YtlghobefhmpfkaaGreatDoor
set_option linter.unusedVariables false
set_option linter.unusedSimpArgs false
namespace Go.Proofs.YtlghobefhmpfkaaGreatDoor
open Go Go.Ev
set_option maxRecDepth 100000
variable {G : World → Prop}
def DCatch (tf : TypeId) : DCon := fun x caps s K => match x, caps with
  | none, [.ptr _ 0, .ptr _ 0] => K s
  | some (.d (.ifc t (.pt cells))), [.ptr o1 0, .ptr o2 0] => match lk s.ob o1, lk s.ob o2 with
    | some (.cells t1 [x1]), some (.cells t2 [x2]) => (t = tf ∧ o1 ≠ o2) ∧ K ⟨s.n, (o2, .cells t2 [.d (.ifc t (.pt cells))]) :: (o1, .cells t1 [.d (.v (.slice none 0 0))]) :: s.ob⟩
    | _, _ => False
  | _, _ => False
theorem heap_set {w : World} {b : Nat} {c : Value} {t : TypeId} (h : w.heap[b]? = some (.cells #[c] t (0, 0))) (u : Value) : (w.setCell ⟨b, 0, none⟩ u).heap[b]? = some (.cells #[u] t (0, 0)) := by
  simp only [World.setCell, Array.getElem?_modify, if_true, h, Option.map_some]
  rfl
theorem one_cell {cs : Array Value} {m : Nat → Value} {n : Nat} {c : Rdr} {x : SV} (h : CnL m n c [x] cs.toList) : ∃ v, cs = #[v] ∧ Cn m n c x v := by
  obtain ⟨l⟩ := cs
  match l, h with
  | [v], h => exact ⟨v, rfl, by simpa [CnL] using h⟩
  | [], h => simp [CnL] at h
  | _ :: _ :: _, h => simp [CnL] at h
theorem set_one {H : Hd G} {w : World} {m : Nat → Value} {B : Nat → Nat → Prop} {s : Store} (hO : SOk H w m B s) {o b : Nat} {t : TypeId} {x : SV} (ho : lk s.ob o = some (.cells t [x])) (hb : m o = .pointer (some ⟨b, 0, none⟩)) {y : SV} {u : Value} (hy : Cn m s.n (vw H w B s.ob) y u) (hu : u.oneCell' = true) :
    ∃ c, w.heap[b]? = some (.cells #[c] t (0, 0)) ∧ (∀ z, B o z ↔ z = b) ∧ ∃ B', Since w m B s (w.setCell ⟨b, 0, none⟩ u) m B' ⟨s.n, (o, .cells t [y]) :: s.ob⟩ ∧ SOk H (w.setCell ⟨b, 0, none⟩ u) m B' ⟨s.n, (o, .cells t [y]) :: s.ob⟩ ∧ ∀ k, k ≠ o → ∀ z, B' k z ↔ B k z := by
  obtain ⟨b', cs, g1, g2, g3, g4, g5⟩ := hO.obs o _ ho
  rw [hb] at g1
  simp only [Value.pointer.injEq, Option.some.injEq, Addr.mk.injEq, and_true] at g1
  subst g1
  obtain ⟨c, rfl, _⟩ := one_cell g3
  have hs := heap_set g2 u
  have hsz : (w.setCell ⟨b, 0, none⟩ u).heap.size = w.heap.size := by simp [World.setCell]
  have hup := SOk.upd (w1 := w.setCell ⟨b, 0, none⟩ u) hO o _ (.cells t [y]) ho rfl (fun z => z = b) rfl rfl rfl (by omega) (fun j _ hj => RowKit.Below.heap_setCell _ _ _ _ (fun e => hj ((g5 j).2 e)))
    (fun j _ hj => by subst hj; exact ⟨by rw [hsz]; exact (Array.getElem?_eq_some_iff.1 g2).1, .inl ((g5 j).2 rfl)⟩) (fun c' hc1 _ => by
      refine ⟨b, _, hb, hs, ?_, ?_, fun z => Iff.rfl⟩
      · simp only [CnL, and_true]; exact Cn_mono (Nat.le_refl _) (fun _ _ => rfl) hc1 _ _ hy
      · intro z hz; simp at hz; subst hz; exact hu)
  exact ⟨c, g2, g5, _, hup.1, hup.2, fun k hk z => by simp [hk]⟩
theorem sCatch : SoundD G Tryz.prog 53 (DCatch 79) := by
  intro H w m B s caps vs hO hc
  refine ⟨⟨Tryz.f53, by kernel_rfl, by kernel_rfl, by kernel_rfl⟩, fun K hK => ?_, fun x v K hx hK => ?_⟩
  · unfold DCatch at hK
    split at hK
    · rename_i o1 o2 _
      match vs, hc with
      | [a, b], hc =>
        simp only [CnL, Cn, and_true] at hc
        obtain ⟨⟨n1, b1, e1, rfl⟩, n2, b2, e2, rfl⟩ := hc
        refine (catch_idle ⟨b1, 0, none⟩ ⟨b2, 0, none⟩ w).mono ?_
        rintro e u w' ⟨rfl, rfl, rfl⟩
        exact ⟨⟨_, rfl⟩, rfl, m, B, s, hK, hO, Since.refl _ _ _ _⟩
      | [], hc => simp [CnL] at hc
      | [_], hc => simp [CnL] at hc
      | _ :: _ :: _ :: _, hc => simp [CnL] at hc
    · rename_i h; cases h
    · exact hK.elim
  · unfold DCatch at hK
    split at hK
    · rename_i h; cases h
    · rename_i t cells o1 o2 h
      simp only [Option.some.injEq] at h
      subst h
      split at hK
      · rename_i t1 x1 t2 x2 l1 l2
        obtain ⟨⟨rfl, hne⟩, hK⟩ := hK
        match vs, hc with
        | [a, b], hc =>
          simp only [CnL, Cn, and_true] at hc
          obtain ⟨⟨n1, b1, e1, rfl⟩, n2, b2, e2, rfl⟩ := hc
          simp only [Cn, Rd] at hx
          obtain ⟨z, rfl, ad, rfl, hcells⟩ := hx
          obtain ⟨c1, p1, p2, B1, p3, p4, p5⟩ := set_one hO l1 e1 (y := .d (.v (.slice none 0 0))) (u := .slice none 0 0) ⟨rfl, rfl⟩ rfl
          have l2' : lk ((o1, Ob.cells t1 [.d (.v (.slice none 0 0))]) :: s.ob) o2 = some (.cells t2 [x2]) := by rw [lk_cons, if_neg hne]; exact l2
          have hcells2 := RdCells_mono p3.vw ad 0 cells hcells
          obtain ⟨c2, q1, q2, B2, q3, q4, q5⟩ := set_one p4 l2' e2 (y := .d (.ifc 79 (.pt cells))) (u := .iface 79 (.pointer (some ad))) (by simp only [Cn, Rd]; exact ⟨_, rfl, ad, rfl, hcells2⟩) rfl
          obtain ⟨c2', q1', q2', _⟩ := set_one hO l2 e2 (y := .d (.v (.slice none 0 0))) (u := .slice none 0 0) ⟨rfl, rfl⟩ rfl
          have hb : b1 ≠ b2 := fun e => hO.sep o1 o2 _ _ l1 l2 rfl rfl hne b1 ((p2 b1).2 rfl) ((q2' b1).2 e)
          refine (catch_pan ⟨b1, 0, none⟩ ⟨b2, 0, none⟩ ad c1 c2' w (by rw [cell_at p1]; rfl) (by rw [cell_at q1']; rfl) ?_ ?_ hb).mono ?_
          · simp [World.frozen?, p1]
          · simp [World.frozen?, q1']
          · rintro e u w' ⟨rfl, rfl, rfl⟩
            exact ⟨⟨_, rfl⟩, rfl, m, B2, _, hK, q4, p3.trans q3⟩
        | [], hc => simp [CnL] at hc
        | [_], hc => simp [CnL] at hc
        | _ :: _ :: _ :: _, hc => simp [CnL] at hc
      · exact hK.elim
    · exact hK.elim
end Go.Proofs.YtlghobefhmpfkaaGreatDoor
set_option linter.unusedVariables false
set_option linter.unusedSimpArgs false
namespace Go.Proofs.YtlghobefhmpfkaaGreatDoor
open Go Go.Ev Go.Rcs
set_option maxRecDepth 100000
variable {G : World → Prop}
theorem defE_n {D : DCon} {rs : List RR} {n0 : Nat} {os : List Nat} {K : Out → Store → Prop} {caps : List SV} {st : St} : Ev.defE D rs n0 os K caps .normal st = Ev.defK D rs n0 os K none caps st := rfl
theorem defE_r {D : DCon} {rs : List RR} {n0 : Nat} {os : List Nat} {K : Out → Store → Prop} {caps : List SV} {st : St} : Ev.defE D rs n0 os K caps .ret st = Ev.defK D rs n0 os K none caps st := rfl
def parPr : Except Fl (List Hk) → SV × Store
  | .ok hs => (.tup [.own 0, .d (.v .nilIface)], ⟨1, [(0, .row 47 5 (hkRows hs))]⟩)
  | .error (a, e) => (.tup [.d (.sl []), .d (fltV a e)], ⟨0, []⟩)
def CParP : Contract := stC fun args st => match args, st with
  | [.d (.v (.string s))], ⟨0, []⟩ => some (s.size ≤ 1099511627776, parPr (parN s.data.toList))
  | _, _ => none
set_option maxHeartbeats 32000000 in
theorem s19 (hH : Sound G Tryz.prog 54 CHunkP) : Sound G Tryz.prog 19 CParP := by
  refine sd19 (T := tabT [(34, CSplit), (54, CHunkP)]) (tab_cons s34 (tab_cons hH tab_nil)) sCatch (stC_lawful _) (fun args st K hW => ?_)
  replace hW := (stC_wp _ args st K).mp hW
  obtain ⟨z, h, hp, hk⟩ := need_ex hW
  split at h <;> simp only [Option.some.injEq, Prod.mk.injEq, reduceCtorEq] at h
  obtain ⟨rfl⟩ := h
  rename_i s
  obtain ⟨s, rfl⟩ := ex_str s
  simp only [sem_str] at hp hk
  refine ⟨Nat.le_of_ble_eq_true rfl, ?_⟩
  by_cases h4 : 1048576 < s.length
  · have h4' : (1048576 : Int) < (s.length : Int) := by omega
    have h5 : parN s = .error (0, 9) := by rw [parN, if_pos h4]
    rw [h5] at hk; simp only [parPr] at hk; unfold fltV at hk
    refine ⟨[], ?_⟩
    simp -dsimp -implicitDefEqProofs only [S19, SP19, R19, h4', impF, CSplit, CHunkP, hkA, DCatch, Ev.defK, defE_n, defE_r, Ev.endK, Ev.xvs, thC_wp, thK_ok, thK_error, map_ok, map_error, fltV, unStr_rows, strRows_len, hkRows_len, hkRows_all, mkRows_len, mkRows_all, hkRows_one, List.length_append, Ev.St.giveC, ↓Ev.P, Ev.Q, Bool.cond_true, Bool.cond_false, eq_self, forall_eq_or_imp, implies_true, forall_const, forall_eq, ↓reduceIte, reduceIte, Nat.reduceEqDiff, Nat.reduceAdd, reduceCtorEq, Nat.reduceSub, Int.reduceToNat, Int.reduceLE, Int.reduceLT, Int.reduceNeg, Nat.reduceBEq, Nat.reduceMul, Nat.reduceLeDiff, Nat.reduceMod, UInt8.reduceOfNat, Nat.reduceLT, Int.reduceEq, Int.reduceAdd, Int.reduceSub, Int.reduceMul]
    repeat' (first | with_reducible assumption | refine And.intro ?_ ?_ | intro _ | (rw [Ev.xStp_eq]; simp -dsimp -implicitDefEqProofs only [S19, SP19, R19, h4', impF, CSplit, CHunkP, hkA, DCatch, Ev.defK, defE_n, defE_r, Ev.endK, Ev.xvs, thC_wp, thK_ok, thK_error, map_ok, map_error, fltV, unStr_rows, strRows_len, hkRows_len, hkRows_all, mkRows_len, mkRows_all, hkRows_one, List.length_append, Ev.St.giveC, ↓Ev.P, Ev.Q, Bool.cond_true, Bool.cond_false, eq_self, forall_eq_or_imp, implies_true, forall_const, forall_eq, ↓reduceIte, reduceIte, Nat.reduceEqDiff, Nat.reduceAdd, reduceCtorEq, Nat.reduceSub, Int.reduceToNat, Int.reduceLE, Int.reduceLT, Int.reduceNeg, Nat.reduceBEq, Nat.reduceMul, Nat.reduceLeDiff, Nat.reduceMod, UInt8.reduceOfNat, Nat.reduceLT, Int.reduceEq, Int.reduceAdd, Int.reduceSub, Int.reduceMul]))
    all_goals try omega
    all_goals exact hk
  · have h4' : ¬ (1048576 : Int) < (s.length : Int) := by omega
    have h5 : parN s = pN (lns s) (lns s).length 0 [] := by rw [parN, if_neg h4]
    rw [h5] at hk
    obtain ⟨hLl, hL0⟩ := lns_szN s (by omega)
    generalize hLs : lns s = L at hk hLl hL0
    have hL : ∀ x ∈ L, x.length ≤ 1099511627776 := fun x hx => Nat.le_trans (hL0 x hx) (by omega)
    have hsm : smL L := ⟨by omega, hL⟩
    cases hY : pN L L.length 0 [] with
    | error xe =>
      obtain ⟨a, e⟩ := xe
      rw [hY] at hk; simp only [parPr] at hk; unfold fltV at hk
      refine ⟨[], ?_⟩
      simp -dsimp -implicitDefEqProofs only [S19, SP19, R19, h4', hLs, impF, CSplit, CHunkP, hkA, DCatch, Ev.defK, defE_n, defE_r, Ev.endK, Ev.xvs, thC_wp, thK_ok, thK_error, map_ok, map_error, fltV, unStr_rows, strRows_len, hkRows_len, hkRows_all, mkRows_len, mkRows_all, hkRows_one, List.length_append, Ev.St.giveC, ↓Ev.P, Ev.Q, Bool.cond_true, Bool.cond_false, eq_self, forall_eq_or_imp, implies_true, forall_const, forall_eq, ↓reduceIte, reduceIte, Nat.reduceEqDiff, Nat.reduceAdd, reduceCtorEq, Nat.reduceSub, Int.reduceToNat, Int.reduceLE, Int.reduceLT, Int.reduceNeg, Nat.reduceBEq, Nat.reduceMul, Nat.reduceLeDiff, Nat.reduceMod, UInt8.reduceOfNat, Nat.reduceLT, Int.reduceEq, Int.reduceAdd, Int.reduceSub, Int.reduceMul]
      repeat' (first | with_reducible assumption | refine And.intro ?_ ?_ | intro _ | (rw [Ev.xStp_eq]; simp -dsimp -implicitDefEqProofs only [S19, SP19, R19, h4', hLs, impF, CSplit, CHunkP, hkA, DCatch, Ev.defK, defE_n, defE_r, Ev.endK, Ev.xvs, thC_wp, thK_ok, thK_error, map_ok, map_error, fltV, unStr_rows, strRows_len, hkRows_len, hkRows_all, mkRows_len, mkRows_all, hkRows_one, List.length_append, Ev.St.giveC, ↓Ev.P, Ev.Q, Bool.cond_true, Bool.cond_false, eq_self, forall_eq_or_imp, implies_true, forall_const, forall_eq, ↓reduceIte, reduceIte, Nat.reduceEqDiff, Nat.reduceAdd, reduceCtorEq, Nat.reduceSub, Int.reduceToNat, Int.reduceLE, Int.reduceLT, Int.reduceNeg, Nat.reduceBEq, Nat.reduceMul, Nat.reduceLeDiff, Nat.reduceMod, UInt8.reduceOfNat, Nat.reduceLT, Int.reduceEq, Int.reduceAdd, Int.reduceSub, Int.reduceMul]))
      all_goals try omega
      refine xLoop_intro (fun n2 st => (n2 = L.length + 2 ∧ st = ⟨[(2, .ptr 1 0), (3, .ptr 2 0), (4, .ptr 3 0)], 4, [(0, .row 47 5 (hkRows [])), (1, .cells 38 [.own 0]), (2, .cells 24 [.d (.v .nilIface)]), (3, .cells 99 [.d (.sl (strRows L)), .d (.v (.int .i64 0))])]⟩) ∨ (∃ (f at_ : Nat) (hs : List Hk), at_ ≤ L.length ∧ n2 = L.length - at_ + 1 ∧ L.length - at_ ≤ f ∧ hs.length ≤ 4096 ∧ pN L f at_ hs = .error (a, e) ∧ st = ⟨[(2, .ptr 1 0), (3, .ptr 2 0), (4, .ptr 3 0)], 5, [(0, .dead), (1, .cells 38 [.own 4]), (2, .cells 24 [.d (.v .nilIface)]), (3, .cells 99 [.d (.sl (strRows L)), .d (.v (.int .i64 (at_ : Nat)))]), (4, .row 47 5 (hkRows hs))]⟩)) (L.length + 2) [0, 1, 2, 3] ?_ ?_ ?_
      · simp -dsimp -implicitDefEqProofs only [↓Ev.xStp_eq, ↓Ev.P, Ev.Q, Bool.cond_true, Bool.cond_false, eq_self, forall_eq_or_imp, implies_true, forall_const, forall_eq, ↓reduceIte, reduceIte, Nat.reduceEqDiff, Nat.reduceAdd, reduceCtorEq, Nat.reduceSub, Int.reduceToNat, Int.reduceLE, Int.reduceLT, Int.reduceNeg, Nat.reduceBEq, Nat.reduceMul, Nat.reduceLeDiff, Nat.reduceMod, UInt8.reduceOfNat, Nat.reduceLT, Int.reduceEq, Int.reduceAdd, Int.reduceSub, Int.reduceMul]
      · simp -dsimp -implicitDefEqProofs only [↓Ev.xStp_eq, ↓Ev.P, Ev.Q, Bool.cond_true, Bool.cond_false, eq_self, forall_eq_or_imp, implies_true, forall_const, forall_eq, ↓reduceIte, reduceIte, Nat.reduceEqDiff, Nat.reduceAdd, reduceCtorEq, Nat.reduceSub, Int.reduceToNat, Int.reduceLE, Int.reduceLT, Int.reduceNeg, Nat.reduceBEq, Nat.reduceMul, Nat.reduceLeDiff, Nat.reduceMod, UInt8.reduceOfNat, Nat.reduceLT, Int.reduceEq, Int.reduceAdd, Int.reduceSub, Int.reduceMul]
        first | exact .inl ⟨rfl, rfl⟩ | exact .inl rfl
      · rintro n2 st2 (⟨rfl, rfl⟩ | ⟨f, at_, hs, hat, rfl, hf, hhs, hgo, rfl⟩)
        · have _t := trivial
          by_cases hlt : 0 < L.length
          · have hi3 : (0 : Int) < L.length := by omega
            have hgo := hY
            obtain ⟨f, hf⟩ : ∃ g, L.length = g + 1 := ⟨L.length - 1, by omega⟩
            rw [hf, pN, if_pos (by omega)] at hgo
            cases hx : hkN L ([] : List Hk).length 0 with
            | error xe =>
              obtain ⟨xa, xe⟩ := xe
              rw [hx] at hgo; cases hgo
              have hx0 := hx; simp only [List.length_nil, Int.natCast_zero] at hx0
              simp -dsimp -implicitDefEqProofs only [S19, SP19, R19, hi3, hx, hx0, impF, CSplit, CHunkP, hkA, DCatch, Ev.defK, defE_n, defE_r, Ev.endK, Ev.xvs, thC_wp, thK_ok, thK_error, map_ok, map_error, fltV, unStr_rows, strRows_len, hkRows_len, hkRows_all, mkRows_len, mkRows_all, hkRows_one, List.length_append, Ev.St.giveC, ↓Ev.P, Ev.Q, Bool.cond_true, Bool.cond_false, eq_self, forall_eq_or_imp, implies_true, forall_const, forall_eq, ↓reduceIte, reduceIte, Nat.reduceEqDiff, Nat.reduceAdd, reduceCtorEq, Nat.reduceSub, Int.reduceToNat, Int.reduceLE, Int.reduceLT, Int.reduceNeg, Nat.reduceBEq, Nat.reduceMul, Nat.reduceLeDiff, Nat.reduceMod, UInt8.reduceOfNat, Nat.reduceLT, Int.reduceEq, Int.reduceAdd, Int.reduceSub, Int.reduceMul]
              repeat' (first | with_reducible assumption | refine And.intro ?_ ?_ | intro _ | (rw [Ev.xStp_eq]; simp -dsimp -implicitDefEqProofs only [S19, SP19, R19, hi3, hx, hx0, impF, CSplit, CHunkP, hkA, DCatch, Ev.defK, defE_n, defE_r, Ev.endK, Ev.xvs, thC_wp, thK_ok, thK_error, map_ok, map_error, fltV, unStr_rows, strRows_len, hkRows_len, hkRows_all, mkRows_len, mkRows_all, hkRows_one, List.length_append, Ev.St.giveC, ↓Ev.P, Ev.Q, Bool.cond_true, Bool.cond_false, eq_self, forall_eq_or_imp, implies_true, forall_const, forall_eq, ↓reduceIte, reduceIte, Nat.reduceEqDiff, Nat.reduceAdd, reduceCtorEq, Nat.reduceSub, Int.reduceToNat, Int.reduceLE, Int.reduceLT, Int.reduceNeg, Nat.reduceBEq, Nat.reduceMul, Nat.reduceLeDiff, Nat.reduceMod, UInt8.reduceOfNat, Nat.reduceLT, Int.reduceEq, Int.reduceAdd, Int.reduceSub, Int.reduceMul]))
              all_goals try omega
              all_goals exact hk
            | ok x =>
              obtain ⟨h, a1⟩ := x
              obtain ⟨b1, b2, b3, b4⟩ := hkN_le hx
              rw [hx] at hgo; dsimp only at hgo
              obtain ⟨⟨hA, hAN, hB, hBN⟩, hms⟩ := h
              have hx0 := hx; simp only [List.length_nil, Int.natCast_zero] at hx0
              simp -dsimp -implicitDefEqProofs only [S19, SP19, R19, hi3, hx, hx0, impF, CSplit, CHunkP, hkA, DCatch, Ev.defK, defE_n, defE_r, Ev.endK, Ev.xvs, thC_wp, thK_ok, thK_error, map_ok, map_error, fltV, unStr_rows, strRows_len, hkRows_len, hkRows_all, mkRows_len, mkRows_all, hkRows_one, List.length_append, Ev.St.giveC, ↓Ev.P, Ev.Q, Bool.cond_true, Bool.cond_false, eq_self, forall_eq_or_imp, implies_true, forall_const, forall_eq, ↓reduceIte, reduceIte, Nat.reduceEqDiff, Nat.reduceAdd, reduceCtorEq, Nat.reduceSub, Int.reduceToNat, Int.reduceLE, Int.reduceLT, Int.reduceNeg, Nat.reduceBEq, Nat.reduceMul, Nat.reduceLeDiff, Nat.reduceMod, UInt8.reduceOfNat, Nat.reduceLT, Int.reduceEq, Int.reduceAdd, Int.reduceSub, Int.reduceMul]
              repeat' (first | with_reducible assumption | refine And.intro ?_ ?_ | intro _ | (rw [Ev.xStp_eq]; simp -dsimp -implicitDefEqProofs only [S19, SP19, R19, hi3, hx, hx0, impF, CSplit, CHunkP, hkA, DCatch, Ev.defK, defE_n, defE_r, Ev.endK, Ev.xvs, thC_wp, thK_ok, thK_error, map_ok, map_error, fltV, unStr_rows, strRows_len, hkRows_len, hkRows_all, mkRows_len, mkRows_all, hkRows_one, List.length_append, Ev.St.giveC, ↓Ev.P, Ev.Q, Bool.cond_true, Bool.cond_false, eq_self, forall_eq_or_imp, implies_true, forall_const, forall_eq, ↓reduceIte, reduceIte, Nat.reduceEqDiff, Nat.reduceAdd, reduceCtorEq, Nat.reduceSub, Int.reduceToNat, Int.reduceLE, Int.reduceLT, Int.reduceNeg, Nat.reduceBEq, Nat.reduceMul, Nat.reduceLeDiff, Nat.reduceMod, UInt8.reduceOfNat, Nat.reduceLT, Int.reduceEq, Int.reduceAdd, Int.reduceSub, Int.reduceMul]))
              all_goals try omega
              all_goals try refine xAgain_intro (L.length - a1 + 1) [0, 1, 2, 3, 5] (by omega) (by simp -dsimp -implicitDefEqProofs only [↓Ev.xStp_eq, ↓Ev.P, Ev.Q, Bool.cond_true, Bool.cond_false, eq_self, forall_eq_or_imp, implies_true, forall_const, forall_eq, ↓reduceIte, reduceIte, Nat.reduceEqDiff, Nat.reduceAdd, reduceCtorEq, Nat.reduceSub, Int.reduceToNat, Int.reduceLE, Int.reduceLT, Int.reduceNeg, Nat.reduceBEq, Nat.reduceMul, Nat.reduceLeDiff, Nat.reduceMod, UInt8.reduceOfNat, Nat.reduceLT, Int.reduceEq, Int.reduceAdd, Int.reduceSub, Int.reduceMul]) (.inr ⟨f, a1, [] ++ [((hA, hAN, hB, hBN), hms)], b2, rfl, by omega, by rw [List.length_append, List.length_singleton]; omega, hgo, ?_⟩)
              all_goals simp -dsimp -implicitDefEqProofs only [↓Ev.xStp_eq, ↓Ev.P, Ev.Q, Bool.cond_true, Bool.cond_false, eq_self, forall_eq_or_imp, implies_true, forall_const, forall_eq, ↓reduceIte, reduceIte, Nat.reduceEqDiff, Nat.reduceAdd, reduceCtorEq, Nat.reduceSub, Int.reduceToNat, Int.reduceLE, Int.reduceLT, Int.reduceNeg, Nat.reduceBEq, Nat.reduceMul, Nat.reduceLeDiff, Nat.reduceMod, UInt8.reduceOfNat, Nat.reduceLT, Int.reduceEq, Int.reduceAdd, Int.reduceSub, Int.reduceMul]
              all_goals rfl
          · have hi3 : ¬ (0 : Int) < L.length := by omega
            rw [pN_end (n := L.length) hlt] at hY; cases hY
        · have _t := trivial
          by_cases hlt : at_ < L.length
          · have hi3 : (at_ : Int) < L.length := by omega
            obtain ⟨f, rfl⟩ : ∃ g, f = g + 1 := ⟨f - 1, by omega⟩
            rw [pN, if_pos hlt] at hgo
            cases hx : hkN L (hs : List Hk).length at_ with
            | error xe =>
              obtain ⟨xa, xe⟩ := xe
              rw [hx] at hgo; cases hgo
              simp -dsimp -implicitDefEqProofs only [S19, SP19, R19, hi3, hx, impF, CSplit, CHunkP, hkA, DCatch, Ev.defK, defE_n, defE_r, Ev.endK, Ev.xvs, thC_wp, thK_ok, thK_error, map_ok, map_error, fltV, unStr_rows, strRows_len, hkRows_len, hkRows_all, mkRows_len, mkRows_all, hkRows_one, List.length_append, Ev.St.giveC, ↓Ev.P, Ev.Q, Bool.cond_true, Bool.cond_false, eq_self, forall_eq_or_imp, implies_true, forall_const, forall_eq, ↓reduceIte, reduceIte, Nat.reduceEqDiff, Nat.reduceAdd, reduceCtorEq, Nat.reduceSub, Int.reduceToNat, Int.reduceLE, Int.reduceLT, Int.reduceNeg, Nat.reduceBEq, Nat.reduceMul, Nat.reduceLeDiff, Nat.reduceMod, UInt8.reduceOfNat, Nat.reduceLT, Int.reduceEq, Int.reduceAdd, Int.reduceSub, Int.reduceMul]
              repeat' (first | with_reducible assumption | refine And.intro ?_ ?_ | intro _ | (rw [Ev.xStp_eq]; simp -dsimp -implicitDefEqProofs only [S19, SP19, R19, hi3, hx, impF, CSplit, CHunkP, hkA, DCatch, Ev.defK, defE_n, defE_r, Ev.endK, Ev.xvs, thC_wp, thK_ok, thK_error, map_ok, map_error, fltV, unStr_rows, strRows_len, hkRows_len, hkRows_all, mkRows_len, mkRows_all, hkRows_one, List.length_append, Ev.St.giveC, ↓Ev.P, Ev.Q, Bool.cond_true, Bool.cond_false, eq_self, forall_eq_or_imp, implies_true, forall_const, forall_eq, ↓reduceIte, reduceIte, Nat.reduceEqDiff, Nat.reduceAdd, reduceCtorEq, Nat.reduceSub, Int.reduceToNat, Int.reduceLE, Int.reduceLT, Int.reduceNeg, Nat.reduceBEq, Nat.reduceMul, Nat.reduceLeDiff, Nat.reduceMod, UInt8.reduceOfNat, Nat.reduceLT, Int.reduceEq, Int.reduceAdd, Int.reduceSub, Int.reduceMul]))
              all_goals try omega
              all_goals exact hk
            | ok x =>
              obtain ⟨h, a1⟩ := x
              obtain ⟨b1, b2, b3, b4⟩ := hkN_le hx
              rw [hx] at hgo; dsimp only at hgo
              obtain ⟨⟨hA, hAN, hB, hBN⟩, hms⟩ := h
              simp -dsimp -implicitDefEqProofs only [S19, SP19, R19, hi3, hx, impF, CSplit, CHunkP, hkA, DCatch, Ev.defK, defE_n, defE_r, Ev.endK, Ev.xvs, thC_wp, thK_ok, thK_error, map_ok, map_error, fltV, unStr_rows, strRows_len, hkRows_len, hkRows_all, mkRows_len, mkRows_all, hkRows_one, List.length_append, Ev.St.giveC, ↓Ev.P, Ev.Q, Bool.cond_true, Bool.cond_false, eq_self, forall_eq_or_imp, implies_true, forall_const, forall_eq, ↓reduceIte, reduceIte, Nat.reduceEqDiff, Nat.reduceAdd, reduceCtorEq, Nat.reduceSub, Int.reduceToNat, Int.reduceLE, Int.reduceLT, Int.reduceNeg, Nat.reduceBEq, Nat.reduceMul, Nat.reduceLeDiff, Nat.reduceMod, UInt8.reduceOfNat, Nat.reduceLT, Int.reduceEq, Int.reduceAdd, Int.reduceSub, Int.reduceMul]
              repeat' (first | with_reducible assumption | refine And.intro ?_ ?_ | intro _ | (rw [Ev.xStp_eq]; simp -dsimp -implicitDefEqProofs only [S19, SP19, R19, hi3, hx, impF, CSplit, CHunkP, hkA, DCatch, Ev.defK, defE_n, defE_r, Ev.endK, Ev.xvs, thC_wp, thK_ok, thK_error, map_ok, map_error, fltV, unStr_rows, strRows_len, hkRows_len, hkRows_all, mkRows_len, mkRows_all, hkRows_one, List.length_append, Ev.St.giveC, ↓Ev.P, Ev.Q, Bool.cond_true, Bool.cond_false, eq_self, forall_eq_or_imp, implies_true, forall_const, forall_eq, ↓reduceIte, reduceIte, Nat.reduceEqDiff, Nat.reduceAdd, reduceCtorEq, Nat.reduceSub, Int.reduceToNat, Int.reduceLE, Int.reduceLT, Int.reduceNeg, Nat.reduceBEq, Nat.reduceMul, Nat.reduceLeDiff, Nat.reduceMod, UInt8.reduceOfNat, Nat.reduceLT, Int.reduceEq, Int.reduceAdd, Int.reduceSub, Int.reduceMul]))
              all_goals try omega
              all_goals try refine xAgain_intro (L.length - a1 + 1) [0, 1, 2, 3, 6] (by omega) (by simp -dsimp -implicitDefEqProofs only [↓Ev.xStp_eq, ↓Ev.P, Ev.Q, Bool.cond_true, Bool.cond_false, eq_self, forall_eq_or_imp, implies_true, forall_const, forall_eq, ↓reduceIte, reduceIte, Nat.reduceEqDiff, Nat.reduceAdd, reduceCtorEq, Nat.reduceSub, Int.reduceToNat, Int.reduceLE, Int.reduceLT, Int.reduceNeg, Nat.reduceBEq, Nat.reduceMul, Nat.reduceLeDiff, Nat.reduceMod, UInt8.reduceOfNat, Nat.reduceLT, Int.reduceEq, Int.reduceAdd, Int.reduceSub, Int.reduceMul]) (.inr ⟨f, a1, hs ++ [((hA, hAN, hB, hBN), hms)], b2, rfl, by omega, by rw [List.length_append, List.length_singleton]; omega, hgo, ?_⟩)
              all_goals simp -dsimp -implicitDefEqProofs only [↓Ev.xStp_eq, ↓Ev.P, Ev.Q, Bool.cond_true, Bool.cond_false, eq_self, forall_eq_or_imp, implies_true, forall_const, forall_eq, ↓reduceIte, reduceIte, Nat.reduceEqDiff, Nat.reduceAdd, reduceCtorEq, Nat.reduceSub, Int.reduceToNat, Int.reduceLE, Int.reduceLT, Int.reduceNeg, Nat.reduceBEq, Nat.reduceMul, Nat.reduceLeDiff, Nat.reduceMod, UInt8.reduceOfNat, Nat.reduceLT, Int.reduceEq, Int.reduceAdd, Int.reduceSub, Int.reduceMul]
              all_goals rfl
          · have hi3 : ¬ (at_ : Int) < L.length := by omega
            rw [pN_end hlt] at hgo; cases hgo
    | ok hh =>
      rw [hY] at hk; simp only [parPr] at hk
      by_cases hl0 : 0 < L.length
      · refine ⟨[4], ?_⟩
        simp -dsimp -implicitDefEqProofs only [S19, SP19, R19, h4', hLs, impF, CSplit, CHunkP, hkA, DCatch, Ev.defK, defE_n, defE_r, Ev.endK, Ev.xvs, thC_wp, thK_ok, thK_error, map_ok, map_error, fltV, unStr_rows, strRows_len, hkRows_len, hkRows_all, mkRows_len, mkRows_all, hkRows_one, List.length_append, Ev.St.giveC, ↓Ev.P, Ev.Q, Bool.cond_true, Bool.cond_false, eq_self, forall_eq_or_imp, implies_true, forall_const, forall_eq, ↓reduceIte, reduceIte, Nat.reduceEqDiff, Nat.reduceAdd, reduceCtorEq, Nat.reduceSub, Int.reduceToNat, Int.reduceLE, Int.reduceLT, Int.reduceNeg, Nat.reduceBEq, Nat.reduceMul, Nat.reduceLeDiff, Nat.reduceMod, UInt8.reduceOfNat, Nat.reduceLT, Int.reduceEq, Int.reduceAdd, Int.reduceSub, Int.reduceMul]
        repeat' (first | with_reducible assumption | refine And.intro ?_ ?_ | intro _ | (rw [Ev.xStp_eq]; simp -dsimp -implicitDefEqProofs only [S19, SP19, R19, h4', hLs, impF, CSplit, CHunkP, hkA, DCatch, Ev.defK, defE_n, defE_r, Ev.endK, Ev.xvs, thC_wp, thK_ok, thK_error, map_ok, map_error, fltV, unStr_rows, strRows_len, hkRows_len, hkRows_all, mkRows_len, mkRows_all, hkRows_one, List.length_append, Ev.St.giveC, ↓Ev.P, Ev.Q, Bool.cond_true, Bool.cond_false, eq_self, forall_eq_or_imp, implies_true, forall_const, forall_eq, ↓reduceIte, reduceIte, Nat.reduceEqDiff, Nat.reduceAdd, reduceCtorEq, Nat.reduceSub, Int.reduceToNat, Int.reduceLE, Int.reduceLT, Int.reduceNeg, Nat.reduceBEq, Nat.reduceMul, Nat.reduceLeDiff, Nat.reduceMod, UInt8.reduceOfNat, Nat.reduceLT, Int.reduceEq, Int.reduceAdd, Int.reduceSub, Int.reduceMul]))
        all_goals try omega
        refine xLoop_intro (fun n2 st => (n2 = L.length + 2 ∧ st = ⟨[(2, .ptr 1 0), (3, .ptr 2 0), (4, .ptr 3 0)], 4, [(0, .row 47 5 (hkRows [])), (1, .cells 38 [.own 0]), (2, .cells 24 [.d (.v .nilIface)]), (3, .cells 99 [.d (.sl (strRows L)), .d (.v (.int .i64 0))])]⟩) ∨ (∃ (f at_ : Nat) (hs : List Hk), at_ ≤ L.length ∧ n2 = L.length - at_ + 1 ∧ L.length - at_ ≤ f ∧ hs.length ≤ 4096 ∧ pN L f at_ hs = .ok hh ∧ st = ⟨[(2, .ptr 1 0), (3, .ptr 2 0), (4, .ptr 3 0)], 5, [(0, .dead), (1, .cells 38 [.own 4]), (2, .cells 24 [.d (.v .nilIface)]), (3, .cells 99 [.d (.sl (strRows L)), .d (.v (.int .i64 (at_ : Nat)))]), (4, .row 47 5 (hkRows hs))]⟩)) (L.length + 2) [0, 1, 2, 3] ?_ ?_ ?_
        · simp -dsimp -implicitDefEqProofs only [↓Ev.xStp_eq, ↓Ev.P, Ev.Q, Bool.cond_true, Bool.cond_false, eq_self, forall_eq_or_imp, implies_true, forall_const, forall_eq, ↓reduceIte, reduceIte, Nat.reduceEqDiff, Nat.reduceAdd, reduceCtorEq, Nat.reduceSub, Int.reduceToNat, Int.reduceLE, Int.reduceLT, Int.reduceNeg, Nat.reduceBEq, Nat.reduceMul, Nat.reduceLeDiff, Nat.reduceMod, UInt8.reduceOfNat, Nat.reduceLT, Int.reduceEq, Int.reduceAdd, Int.reduceSub, Int.reduceMul]
        · simp -dsimp -implicitDefEqProofs only [↓Ev.xStp_eq, ↓Ev.P, Ev.Q, Bool.cond_true, Bool.cond_false, eq_self, forall_eq_or_imp, implies_true, forall_const, forall_eq, ↓reduceIte, reduceIte, Nat.reduceEqDiff, Nat.reduceAdd, reduceCtorEq, Nat.reduceSub, Int.reduceToNat, Int.reduceLE, Int.reduceLT, Int.reduceNeg, Nat.reduceBEq, Nat.reduceMul, Nat.reduceLeDiff, Nat.reduceMod, UInt8.reduceOfNat, Nat.reduceLT, Int.reduceEq, Int.reduceAdd, Int.reduceSub, Int.reduceMul]
          first | exact .inl ⟨rfl, rfl⟩ | exact .inl rfl
        · rintro n2 st2 (⟨rfl, rfl⟩ | ⟨f, at_, hs, hat, rfl, hf, hhs, hgo, rfl⟩)
          · have _t := trivial
            by_cases hlt : 0 < L.length
            · have hi3 : (0 : Int) < L.length := by omega
              have hgo := hY
              obtain ⟨f, hf⟩ : ∃ g, L.length = g + 1 := ⟨L.length - 1, by omega⟩
              rw [hf, pN, if_pos (by omega)] at hgo
              cases hx : hkN L ([] : List Hk).length 0 with
              | error xe =>
                obtain ⟨xa, xe⟩ := xe
                rw [hx] at hgo; cases hgo
              | ok x =>
                obtain ⟨h, a1⟩ := x
                obtain ⟨b1, b2, b3, b4⟩ := hkN_le hx
                rw [hx] at hgo; dsimp only at hgo
                obtain ⟨⟨hA, hAN, hB, hBN⟩, hms⟩ := h
                have hx0 := hx; simp only [List.length_nil, Int.natCast_zero] at hx0
                simp -dsimp -implicitDefEqProofs only [S19, SP19, R19, hi3, hx, hx0, impF, CSplit, CHunkP, hkA, DCatch, Ev.defK, defE_n, defE_r, Ev.endK, Ev.xvs, thC_wp, thK_ok, thK_error, map_ok, map_error, fltV, unStr_rows, strRows_len, hkRows_len, hkRows_all, mkRows_len, mkRows_all, hkRows_one, List.length_append, Ev.St.giveC, ↓Ev.P, Ev.Q, Bool.cond_true, Bool.cond_false, eq_self, forall_eq_or_imp, implies_true, forall_const, forall_eq, ↓reduceIte, reduceIte, Nat.reduceEqDiff, Nat.reduceAdd, reduceCtorEq, Nat.reduceSub, Int.reduceToNat, Int.reduceLE, Int.reduceLT, Int.reduceNeg, Nat.reduceBEq, Nat.reduceMul, Nat.reduceLeDiff, Nat.reduceMod, UInt8.reduceOfNat, Nat.reduceLT, Int.reduceEq, Int.reduceAdd, Int.reduceSub, Int.reduceMul]
                repeat' (first | with_reducible assumption | refine And.intro ?_ ?_ | intro _ | (rw [Ev.xStp_eq]; simp -dsimp -implicitDefEqProofs only [S19, SP19, R19, hi3, hx, hx0, impF, CSplit, CHunkP, hkA, DCatch, Ev.defK, defE_n, defE_r, Ev.endK, Ev.xvs, thC_wp, thK_ok, thK_error, map_ok, map_error, fltV, unStr_rows, strRows_len, hkRows_len, hkRows_all, mkRows_len, mkRows_all, hkRows_one, List.length_append, Ev.St.giveC, ↓Ev.P, Ev.Q, Bool.cond_true, Bool.cond_false, eq_self, forall_eq_or_imp, implies_true, forall_const, forall_eq, ↓reduceIte, reduceIte, Nat.reduceEqDiff, Nat.reduceAdd, reduceCtorEq, Nat.reduceSub, Int.reduceToNat, Int.reduceLE, Int.reduceLT, Int.reduceNeg, Nat.reduceBEq, Nat.reduceMul, Nat.reduceLeDiff, Nat.reduceMod, UInt8.reduceOfNat, Nat.reduceLT, Int.reduceEq, Int.reduceAdd, Int.reduceSub, Int.reduceMul]))
                all_goals try omega
                all_goals try refine xAgain_intro (L.length - a1 + 1) [0, 1, 2, 3, 5] (by omega) (by simp -dsimp -implicitDefEqProofs only [↓Ev.xStp_eq, ↓Ev.P, Ev.Q, Bool.cond_true, Bool.cond_false, eq_self, forall_eq_or_imp, implies_true, forall_const, forall_eq, ↓reduceIte, reduceIte, Nat.reduceEqDiff, Nat.reduceAdd, reduceCtorEq, Nat.reduceSub, Int.reduceToNat, Int.reduceLE, Int.reduceLT, Int.reduceNeg, Nat.reduceBEq, Nat.reduceMul, Nat.reduceLeDiff, Nat.reduceMod, UInt8.reduceOfNat, Nat.reduceLT, Int.reduceEq, Int.reduceAdd, Int.reduceSub, Int.reduceMul]) (.inr ⟨f, a1, [] ++ [((hA, hAN, hB, hBN), hms)], b2, rfl, by omega, by rw [List.length_append, List.length_singleton]; omega, hgo, ?_⟩)
                all_goals simp -dsimp -implicitDefEqProofs only [↓Ev.xStp_eq, ↓Ev.P, Ev.Q, Bool.cond_true, Bool.cond_false, eq_self, forall_eq_or_imp, implies_true, forall_const, forall_eq, ↓reduceIte, reduceIte, Nat.reduceEqDiff, Nat.reduceAdd, reduceCtorEq, Nat.reduceSub, Int.reduceToNat, Int.reduceLE, Int.reduceLT, Int.reduceNeg, Nat.reduceBEq, Nat.reduceMul, Nat.reduceLeDiff, Nat.reduceMod, UInt8.reduceOfNat, Nat.reduceLT, Int.reduceEq, Int.reduceAdd, Int.reduceSub, Int.reduceMul]
                all_goals rfl
            · have hi3 : ¬ (0 : Int) < L.length := by omega
              omega
          · have _t := trivial
            by_cases hlt : at_ < L.length
            · have hi3 : (at_ : Int) < L.length := by omega
              obtain ⟨f, rfl⟩ : ∃ g, f = g + 1 := ⟨f - 1, by omega⟩
              rw [pN, if_pos hlt] at hgo
              cases hx : hkN L (hs : List Hk).length at_ with
              | error xe =>
                obtain ⟨xa, xe⟩ := xe
                rw [hx] at hgo; cases hgo
              | ok x =>
                obtain ⟨h, a1⟩ := x
                obtain ⟨b1, b2, b3, b4⟩ := hkN_le hx
                rw [hx] at hgo; dsimp only at hgo
                obtain ⟨⟨hA, hAN, hB, hBN⟩, hms⟩ := h
                simp -dsimp -implicitDefEqProofs only [S19, SP19, R19, hi3, hx, impF, CSplit, CHunkP, hkA, DCatch, Ev.defK, defE_n, defE_r, Ev.endK, Ev.xvs, thC_wp, thK_ok, thK_error, map_ok, map_error, fltV, unStr_rows, strRows_len, hkRows_len, hkRows_all, mkRows_len, mkRows_all, hkRows_one, List.length_append, Ev.St.giveC, ↓Ev.P, Ev.Q, Bool.cond_true, Bool.cond_false, eq_self, forall_eq_or_imp, implies_true, forall_const, forall_eq, ↓reduceIte, reduceIte, Nat.reduceEqDiff, Nat.reduceAdd, reduceCtorEq, Nat.reduceSub, Int.reduceToNat, Int.reduceLE, Int.reduceLT, Int.reduceNeg, Nat.reduceBEq, Nat.reduceMul, Nat.reduceLeDiff, Nat.reduceMod, UInt8.reduceOfNat, Nat.reduceLT, Int.reduceEq, Int.reduceAdd, Int.reduceSub, Int.reduceMul]
                repeat' (first | with_reducible assumption | refine And.intro ?_ ?_ | intro _ | (rw [Ev.xStp_eq]; simp -dsimp -implicitDefEqProofs only [S19, SP19, R19, hi3, hx, impF, CSplit, CHunkP, hkA, DCatch, Ev.defK, defE_n, defE_r, Ev.endK, Ev.xvs, thC_wp, thK_ok, thK_error, map_ok, map_error, fltV, unStr_rows, strRows_len, hkRows_len, hkRows_all, mkRows_len, mkRows_all, hkRows_one, List.length_append, Ev.St.giveC, ↓Ev.P, Ev.Q, Bool.cond_true, Bool.cond_false, eq_self, forall_eq_or_imp, implies_true, forall_const, forall_eq, ↓reduceIte, reduceIte, Nat.reduceEqDiff, Nat.reduceAdd, reduceCtorEq, Nat.reduceSub, Int.reduceToNat, Int.reduceLE, Int.reduceLT, Int.reduceNeg, Nat.reduceBEq, Nat.reduceMul, Nat.reduceLeDiff, Nat.reduceMod, UInt8.reduceOfNat, Nat.reduceLT, Int.reduceEq, Int.reduceAdd, Int.reduceSub, Int.reduceMul]))
                all_goals try omega
                all_goals try refine xAgain_intro (L.length - a1 + 1) [0, 1, 2, 3, 6] (by omega) (by simp -dsimp -implicitDefEqProofs only [↓Ev.xStp_eq, ↓Ev.P, Ev.Q, Bool.cond_true, Bool.cond_false, eq_self, forall_eq_or_imp, implies_true, forall_const, forall_eq, ↓reduceIte, reduceIte, Nat.reduceEqDiff, Nat.reduceAdd, reduceCtorEq, Nat.reduceSub, Int.reduceToNat, Int.reduceLE, Int.reduceLT, Int.reduceNeg, Nat.reduceBEq, Nat.reduceMul, Nat.reduceLeDiff, Nat.reduceMod, UInt8.reduceOfNat, Nat.reduceLT, Int.reduceEq, Int.reduceAdd, Int.reduceSub, Int.reduceMul]) (.inr ⟨f, a1, hs ++ [((hA, hAN, hB, hBN), hms)], b2, rfl, by omega, by rw [List.length_append, List.length_singleton]; omega, hgo, ?_⟩)
                all_goals simp -dsimp -implicitDefEqProofs only [↓Ev.xStp_eq, ↓Ev.P, Ev.Q, Bool.cond_true, Bool.cond_false, eq_self, forall_eq_or_imp, implies_true, forall_const, forall_eq, ↓reduceIte, reduceIte, Nat.reduceEqDiff, Nat.reduceAdd, reduceCtorEq, Nat.reduceSub, Int.reduceToNat, Int.reduceLE, Int.reduceLT, Int.reduceNeg, Nat.reduceBEq, Nat.reduceMul, Nat.reduceLeDiff, Nat.reduceMod, UInt8.reduceOfNat, Nat.reduceLT, Int.reduceEq, Int.reduceAdd, Int.reduceSub, Int.reduceMul]
                all_goals rfl
            · have hi3 : ¬ (at_ : Int) < L.length := by omega
              rw [pN_end hlt] at hgo; cases hgo
              simp -dsimp -implicitDefEqProofs only [S19, SP19, R19, hi3, impF, CSplit, CHunkP, hkA, DCatch, Ev.defK, defE_n, defE_r, Ev.endK, Ev.xvs, thC_wp, thK_ok, thK_error, map_ok, map_error, fltV, unStr_rows, strRows_len, hkRows_len, hkRows_all, mkRows_len, mkRows_all, hkRows_one, List.length_append, Ev.St.giveC, ↓Ev.P, Ev.Q, Bool.cond_true, Bool.cond_false, eq_self, forall_eq_or_imp, implies_true, forall_const, forall_eq, ↓reduceIte, reduceIte, Nat.reduceEqDiff, Nat.reduceAdd, reduceCtorEq, Nat.reduceSub, Int.reduceToNat, Int.reduceLE, Int.reduceLT, Int.reduceNeg, Nat.reduceBEq, Nat.reduceMul, Nat.reduceLeDiff, Nat.reduceMod, UInt8.reduceOfNat, Nat.reduceLT, Int.reduceEq, Int.reduceAdd, Int.reduceSub, Int.reduceMul]
              repeat' (first | with_reducible assumption | refine And.intro ?_ ?_ | intro _ | (rw [Ev.xStp_eq]; simp -dsimp -implicitDefEqProofs only [S19, SP19, R19, hi3, impF, CSplit, CHunkP, hkA, DCatch, Ev.defK, defE_n, defE_r, Ev.endK, Ev.xvs, thC_wp, thK_ok, thK_error, map_ok, map_error, fltV, unStr_rows, strRows_len, hkRows_len, hkRows_all, mkRows_len, mkRows_all, hkRows_one, List.length_append, Ev.St.giveC, ↓Ev.P, Ev.Q, Bool.cond_true, Bool.cond_false, eq_self, forall_eq_or_imp, implies_true, forall_const, forall_eq, ↓reduceIte, reduceIte, Nat.reduceEqDiff, Nat.reduceAdd, reduceCtorEq, Nat.reduceSub, Int.reduceToNat, Int.reduceLE, Int.reduceLT, Int.reduceNeg, Nat.reduceBEq, Nat.reduceMul, Nat.reduceLeDiff, Nat.reduceMod, UInt8.reduceOfNat, Nat.reduceLT, Int.reduceEq, Int.reduceAdd, Int.reduceSub, Int.reduceMul]))
              all_goals try omega
              all_goals exact hk
      · refine ⟨[0], ?_⟩
        simp -dsimp -implicitDefEqProofs only [S19, SP19, R19, h4', hLs, impF, CSplit, CHunkP, hkA, DCatch, Ev.defK, defE_n, defE_r, Ev.endK, Ev.xvs, thC_wp, thK_ok, thK_error, map_ok, map_error, fltV, unStr_rows, strRows_len, hkRows_len, hkRows_all, mkRows_len, mkRows_all, hkRows_one, List.length_append, Ev.St.giveC, ↓Ev.P, Ev.Q, Bool.cond_true, Bool.cond_false, eq_self, forall_eq_or_imp, implies_true, forall_const, forall_eq, ↓reduceIte, reduceIte, Nat.reduceEqDiff, Nat.reduceAdd, reduceCtorEq, Nat.reduceSub, Int.reduceToNat, Int.reduceLE, Int.reduceLT, Int.reduceNeg, Nat.reduceBEq, Nat.reduceMul, Nat.reduceLeDiff, Nat.reduceMod, UInt8.reduceOfNat, Nat.reduceLT, Int.reduceEq, Int.reduceAdd, Int.reduceSub, Int.reduceMul]
        repeat' (first | with_reducible assumption | refine And.intro ?_ ?_ | intro _ | (rw [Ev.xStp_eq]; simp -dsimp -implicitDefEqProofs only [S19, SP19, R19, h4', hLs, impF, CSplit, CHunkP, hkA, DCatch, Ev.defK, defE_n, defE_r, Ev.endK, Ev.xvs, thC_wp, thK_ok, thK_error, map_ok, map_error, fltV, unStr_rows, strRows_len, hkRows_len, hkRows_all, mkRows_len, mkRows_all, hkRows_one, List.length_append, Ev.St.giveC, ↓Ev.P, Ev.Q, Bool.cond_true, Bool.cond_false, eq_self, forall_eq_or_imp, implies_true, forall_const, forall_eq, ↓reduceIte, reduceIte, Nat.reduceEqDiff, Nat.reduceAdd, reduceCtorEq, Nat.reduceSub, Int.reduceToNat, Int.reduceLE, Int.reduceLT, Int.reduceNeg, Nat.reduceBEq, Nat.reduceMul, Nat.reduceLeDiff, Nat.reduceMod, UInt8.reduceOfNat, Nat.reduceLT, Int.reduceEq, Int.reduceAdd, Int.reduceSub, Int.reduceMul]))
        all_goals try omega
        refine xLoop_intro (fun n2 st => (n2 = L.length + 2 ∧ st = ⟨[(2, .ptr 1 0), (3, .ptr 2 0), (4, .ptr 3 0)], 4, [(0, .row 47 5 (hkRows [])), (1, .cells 38 [.own 0]), (2, .cells 24 [.d (.v .nilIface)]), (3, .cells 99 [.d (.sl (strRows L)), .d (.v (.int .i64 0))])]⟩)) (L.length + 2) [0, 1, 2, 3] ?_ ?_ ?_
        · simp -dsimp -implicitDefEqProofs only [↓Ev.xStp_eq, ↓Ev.P, Ev.Q, Bool.cond_true, Bool.cond_false, eq_self, forall_eq_or_imp, implies_true, forall_const, forall_eq, ↓reduceIte, reduceIte, Nat.reduceEqDiff, Nat.reduceAdd, reduceCtorEq, Nat.reduceSub, Int.reduceToNat, Int.reduceLE, Int.reduceLT, Int.reduceNeg, Nat.reduceBEq, Nat.reduceMul, Nat.reduceLeDiff, Nat.reduceMod, UInt8.reduceOfNat, Nat.reduceLT, Int.reduceEq, Int.reduceAdd, Int.reduceSub, Int.reduceMul]
        · simp -dsimp -implicitDefEqProofs only [↓Ev.xStp_eq, ↓Ev.P, Ev.Q, Bool.cond_true, Bool.cond_false, eq_self, forall_eq_or_imp, implies_true, forall_const, forall_eq, ↓reduceIte, reduceIte, Nat.reduceEqDiff, Nat.reduceAdd, reduceCtorEq, Nat.reduceSub, Int.reduceToNat, Int.reduceLE, Int.reduceLT, Int.reduceNeg, Nat.reduceBEq, Nat.reduceMul, Nat.reduceLeDiff, Nat.reduceMod, UInt8.reduceOfNat, Nat.reduceLT, Int.reduceEq, Int.reduceAdd, Int.reduceSub, Int.reduceMul]
          all_goals first | rfl | exact ⟨rfl, rfl⟩ | trivial
        · rintro n2 st2 ⟨rfl, rfl⟩
          · have _t := trivial
            by_cases hlt : 0 < L.length
            · have hi3 : (0 : Int) < L.length := by omega
              omega
            · have hi3 : ¬ (0 : Int) < L.length := by omega
              rw [pN_end (n := L.length) hlt] at hY; cases hY
              simp -dsimp -implicitDefEqProofs only [S19, SP19, R19, hi3, impF, CSplit, CHunkP, hkA, DCatch, Ev.defK, defE_n, defE_r, Ev.endK, Ev.xvs, thC_wp, thK_ok, thK_error, map_ok, map_error, fltV, unStr_rows, strRows_len, hkRows_len, hkRows_all, mkRows_len, mkRows_all, hkRows_one, List.length_append, Ev.St.giveC, ↓Ev.P, Ev.Q, Bool.cond_true, Bool.cond_false, eq_self, forall_eq_or_imp, implies_true, forall_const, forall_eq, ↓reduceIte, reduceIte, Nat.reduceEqDiff, Nat.reduceAdd, reduceCtorEq, Nat.reduceSub, Int.reduceToNat, Int.reduceLE, Int.reduceLT, Int.reduceNeg, Nat.reduceBEq, Nat.reduceMul, Nat.reduceLeDiff, Nat.reduceMod, UInt8.reduceOfNat, Nat.reduceLT, Int.reduceEq, Int.reduceAdd, Int.reduceSub, Int.reduceMul]
              repeat' (first | with_reducible assumption | refine And.intro ?_ ?_ | intro _ | (rw [Ev.xStp_eq]; simp -dsimp -implicitDefEqProofs only [S19, SP19, R19, hi3, impF, CSplit, CHunkP, hkA, DCatch, Ev.defK, defE_n, defE_r, Ev.endK, Ev.xvs, thC_wp, thK_ok, thK_error, map_ok, map_error, fltV, unStr_rows, strRows_len, hkRows_len, hkRows_all, mkRows_len, mkRows_all, hkRows_one, List.length_append, Ev.St.giveC, ↓Ev.P, Ev.Q, Bool.cond_true, Bool.cond_false, eq_self, forall_eq_or_imp, implies_true, forall_const, forall_eq, ↓reduceIte, reduceIte, Nat.reduceEqDiff, Nat.reduceAdd, reduceCtorEq, Nat.reduceSub, Int.reduceToNat, Int.reduceLE, Int.reduceLT, Int.reduceNeg, Nat.reduceBEq, Nat.reduceMul, Nat.reduceLeDiff, Nat.reduceMod, UInt8.reduceOfNat, Nat.reduceLT, Int.reduceEq, Int.reduceAdd, Int.reduceSub, Int.reduceMul]))
              all_goals try omega
              all_goals exact hk
end Go.Proofs.YtlghobefhmpfkaaGreatDoor
set_option linter.unusedVariables false
set_option linter.unusedSimpArgs false
namespace Go.Proofs.YtlghobefhmpfkaaGreatDoor
open Go Go.Ev Go.Rcs
set_option maxRecDepth 100000
variable {G : World → Prop}
theorem mkRows_nil' : mkRows [] = [] := rfl
theorem mkIn_nil (L : List (List UInt8)) : mkIn (strRows L) [] = some (L, []) := mkIn_rows L []
set_option maxHeartbeats 32000000 in
theorem s54 (hE : ∀ w, G w → ErrR w) (hIx : Sound G Tryz.prog 109 CIdxV) : Sound G Tryz.prog 54 CHunkP := by
  refine sd54 (T := tabT [(108, CNextP), (109, CIdxV), (110, CStop), (111, CSide), (112, CMark)]) (tab_cons s108 (tab_cons hIx (tab_cons s110 (tab_cons (s111 hE) (tab_cons s112 tab_nil))))) (thC_lawful _) (th_hX fun t L at_ rest pp z K h hp hk => ?_)
  split at h <;> simp only [Option.some.injEq, Prod.mk.injEq, reduceCtorEq] at h
  obtain ⟨rfl, rfl⟩ := h
  rename_i ahead
  obtain ⟨⟨h1, h3⟩, hLl, hL⟩ := hp
  have hsm : smL L := ⟨hLl, hL⟩
  obtain ⟨k0, rfl⟩ := Int.eq_ofNat_of_zero_le h1
  rw [Int.toNat_natCast] at hk
  refine ⟨Nat.le_of_ble_eq_true rfl, ?_⟩
  generalize hY : hkN L ahead k0 = Y at hk
  unfold hkN at hY
  cases hx : nextL L k0 with
  | error xe =>
    obtain ⟨xa, xe⟩ := xe
    rw [hx] at hY; dsimp only at hY; subst hY
    rw [map_error, thK_error] at hk; unfold fltV at hk
    simp -dsimp -implicitDefEqProofs only [S54, S54_0, S54r1, S54_1, S54r2, S54_2, S54r3, S54_3, S54r4, S54_4, S54r5, S54_5, S54r6, S54_6, S54r7, S54_7, S54r8, S54_8, S54r9, S54_9, S54r10, S54_10, S54r11, S54_11, S54r12, S54_12, S54r13, S54_13, S54r14, R54, hx, impF, CNextP, CStop, CIdxV, CSide, tri, CMark_wp, mkIn_rows, mkK, fltV, Ev.panK, thC_wp, thK_ok, thK_error, map_ok, map_error, strA, unStr_rows, strRows_len, mkRows_nil', ↓Ev.P, Ev.Q, Bool.cond_true, Bool.cond_false, eq_self, forall_eq_or_imp, implies_true, forall_const, forall_eq, ↓reduceIte, reduceIte, Nat.reduceEqDiff, Nat.reduceAdd, reduceCtorEq, Nat.reduceSub, Int.reduceToNat, Int.reduceLE, Int.reduceLT, Int.reduceNeg, Nat.reduceBEq, Nat.reduceMul, Nat.reduceLeDiff, Nat.reduceMod, UInt8.reduceOfNat, Nat.reduceLT, Int.reduceEq, Int.reduceAdd, Int.reduceSub, Int.reduceMul]
    repeat' (first | with_reducible assumption | refine And.intro ?_ ?_ | intro _ | (rw [Ev.xStp_eq]; simp -dsimp -implicitDefEqProofs only [S54, S54_0, S54r1, S54_1, S54r2, S54_2, S54r3, S54_3, S54r4, S54_4, S54r5, S54_5, S54r6, S54_6, S54r7, S54_7, S54r8, S54_8, S54r9, S54_9, S54r10, S54_10, S54r11, S54_11, S54r12, S54_12, S54r13, S54_13, S54r14, R54, hx, impF, CNextP, CStop, CIdxV, CSide, tri, CMark_wp, mkIn_rows, mkK, fltV, Ev.panK, thC_wp, thK_ok, thK_error, map_ok, map_error, strA, unStr_rows, strRows_len, mkRows_nil', ↓Ev.P, Ev.Q, Bool.cond_true, Bool.cond_false, eq_self, forall_eq_or_imp, implies_true, forall_const, forall_eq, ↓reduceIte, reduceIte, Nat.reduceEqDiff, Nat.reduceAdd, reduceCtorEq, Nat.reduceSub, Int.reduceToNat, Int.reduceLE, Int.reduceLT, Int.reduceNeg, Nat.reduceBEq, Nat.reduceMul, Nat.reduceLeDiff, Nat.reduceMod, UInt8.reduceOfNat, Nat.reduceLT, Int.reduceEq, Int.reduceAdd, Int.reduceSub, Int.reduceMul]))
    all_goals try omega
    all_goals exact hk
  | ok x =>
    obtain ⟨s, a⟩ := x
    obtain ⟨rfl, hlt, hs⟩ := nextL_le hx
    have hsz := hL _ (getD_in hlt)
    have hsl : s.length ≤ 1099511627776 := by rw [hs]; exact Nat.le_trans (bare_len _) hsz
    rw [hx] at hY; dsimp only at hY
    clear hs hsz
    have ec : ((k0 + 1 : Nat) : Int) = (k0 : Int) + 1 := by omega
    by_cases hf : fstV s < s.length
    · have hv := fstV_is hf
      obtain ⟨L1, L2⟩ := side_left s (fstV s)
      obtain ⟨R1, R2⟩ := side_right s (fstV s)
      have hcm : cmdN s = if (lefT s (fstV s)).2 = true ∧ (rigT s (fstV s)).2 = true then some ((lefT s (fstV s)).1.1, (lefT s (fstV s)).1.2, (rigT s (fstV s)).1.1, (rigT s (fstV s)).1.2) else none := if_pos hf
      have B1 := fun h => @lefT_bd s (fstV s) h
      have B2 := fun h => @rigT_bd s (fstV s) h
      generalize lefT s (fstV s) = l at L1 L2 B1 hcm
      generalize rigT s (fstV s) = r at R1 R2 B2 hcm
      generalize hfk : fstV s = k at hf hv L1 L2 R1 R2 B1 B2
      have hix : (if fstV s < s.length then (fstV s : Int) else -1) = (k : Int) := by rw [hfk]; exact if_pos hf
      have e1 : ((k : Int) + 1).toNat = k + 1 := by omega
      have hk0 : ((k : Int) < 0) = False := eq_false (by omega)
      have hts : (s.drop (k + 1)).take (s.length - (k + 1)) = s.drop (k + 1) := List.take_of_length_le (by rw [List.length_drop]; omega)
      have hts2 : s.take s.length = s := List.take_length
      have ll1 : (s.take k).length ≤ 1099511627776 := by rw [List.length_take]; omega
      have ll2 : (s.drop (k + 1)).length ≤ 1099511627776 := by rw [List.length_drop]; omega
      have v1 : (((s.getD k 0).toNat : Int) = 97) = (s.getD k 0 = 97) := u8_k _ 97 (by decide)
      have v2 : (((s.getD k 0).toNat : Int) = 99) = (s.getD k 0 = 99) := u8_k _ 99 (by decide)
      have v3 : (((s.getD k 0).toNat : Int) = 100) = (s.getD k 0 = 100) := u8_k _ 100 (by decide)
      simp only [isV, Bool.or_eq_true, decide_eq_true_eq] at hv
      rcases hv with (hv | hv) | hv
      · have w1 := v1.trans (eq_true hv)
        have w2 := v2.trans (eq_false (by rw [hv]; decide))
        have w3 := v3.trans (eq_false (by rw [hv]; decide))
        rw [decide_eq_true (hv)] at L1 L2
        rw [decide_eq_false (by rw [hv]; decide)] at R1 R2
        clear v1 v2 v3
        generalize hsL : sideP (s.take k) true = sl at L1 L2
        generalize hsR : sideP (s.drop (k + 1)) false = sr at R1 R2
        obtain ⟨⟨A, AN⟩, o1⟩ := sl
        obtain ⟨⟨B, BN⟩, o2⟩ := sr
        dsimp only at L1 L2 R1 R2
        by_cases hok : l.2 = true ∧ r.2 = true
        · rw [if_pos hok] at hcm
          have q1 := L2 hok.1
          have q2 := R2 hok.2
          rw [← q1, ← q2] at hcm; dsimp only at hcm
          have b1 := B1 hok.1; have b2 := B2 hok.2
          rw [← q1] at b1; rw [← q2] at b2; dsimp only at b1 b2
          obtain rfl : o1 = true := L1.trans hok.1
          obtain rfl : o2 = true := R1.trans hok.2
          have a0 : AN = 0 := b1.1 hv
          have b0 := b2.2 (by rw [hv]; decide)
          subst a0
          clear b1 b2 q1 q2 hok L1 L2 R1 R2 B1 B2
          rw [hcm] at hY; dsimp only at hY
          by_cases ha : 4096 ≤ ahead
          · rw [if_pos ha] at hY; subst hY
            rw [map_error, thK_error] at hk; unfold fltV at hk
            simp only [ec] at hk
            simp -dsimp -implicitDefEqProofs only [S54, S54_0, S54r1, S54_1, S54r2, S54_2, S54r3, S54_3, S54r4, S54_4, S54r5, S54_5, S54r6, S54_6, S54r7, S54_7, S54r8, S54_8, S54r9, S54_9, S54r10, S54_10, S54r11, S54_11, S54r12, S54_12, S54r13, S54_13, S54r14, R54, hx, hix, e1, hk0, hts, hts2, w1, w2, w3, hsL, hsR, ha, impF, CNextP, CStop, CIdxV, CSide, tri, CMark_wp, mkIn_rows, mkK, fltV, Ev.panK, thC_wp, thK_ok, thK_error, map_ok, map_error, strA, unStr_rows, strRows_len, mkRows_nil', ↓Ev.P, Ev.Q, Bool.cond_true, Bool.cond_false, eq_self, forall_eq_or_imp, implies_true, forall_const, forall_eq, ↓reduceIte, reduceIte, Nat.reduceEqDiff, Nat.reduceAdd, reduceCtorEq, Nat.reduceSub, Int.reduceToNat, Int.reduceLE, Int.reduceLT, Int.reduceNeg, Nat.reduceBEq, Nat.reduceMul, Nat.reduceLeDiff, Nat.reduceMod, UInt8.reduceOfNat, Nat.reduceLT, Int.reduceEq, Int.reduceAdd, Int.reduceSub, Int.reduceMul]
            repeat' (first | with_reducible assumption | refine And.intro ?_ ?_ | intro _ | (rw [Ev.xStp_eq]; simp -dsimp -implicitDefEqProofs only [S54, S54_0, S54r1, S54_1, S54r2, S54_2, S54r3, S54_3, S54r4, S54_4, S54r5, S54_5, S54r6, S54_6, S54r7, S54_7, S54r8, S54_8, S54r9, S54_9, S54r10, S54_10, S54r11, S54_11, S54r12, S54_12, S54r13, S54_13, S54r14, R54, hx, hix, e1, hk0, hts, hts2, w1, w2, w3, hsL, hsR, ha, impF, CNextP, CStop, CIdxV, CSide, tri, CMark_wp, mkIn_rows, mkK, fltV, Ev.panK, thC_wp, thK_ok, thK_error, map_ok, map_error, strA, unStr_rows, strRows_len, mkRows_nil', ↓Ev.P, Ev.Q, Bool.cond_true, Bool.cond_false, eq_self, forall_eq_or_imp, implies_true, forall_const, forall_eq, ↓reduceIte, reduceIte, Nat.reduceEqDiff, Nat.reduceAdd, reduceCtorEq, Nat.reduceSub, Int.reduceToNat, Int.reduceLE, Int.reduceLT, Int.reduceNeg, Nat.reduceBEq, Nat.reduceMul, Nat.reduceLeDiff, Nat.reduceMod, UInt8.reduceOfNat, Nat.reduceLT, Int.reduceEq, Int.reduceAdd, Int.reduceSub, Int.reduceMul]))
            all_goals try omega
            all_goals exact hk
          · rw [if_neg ha] at hY; unfold hkL at hY; dsimp only at hY
            rw [show (0 : Int).toNat = 0 from rfl, mkL] at hY; dsimp only at hY
            rw [if_neg (fun h => by have := h.1; omega)] at hY; dsimp only at hY
            have m0 : mkL [60, 32] 45 L 0 (k0 + 1) [] = .ok ([], k0 + 1) := rfl
            have n2 : (BN ≤ 0) = False := eq_false (by omega)
            cases hm2 : mkL [62, 32] 43 L BN.toNat (k0 + 1) [] with
            | error xe =>
              obtain ⟨xa, xe⟩ := xe
              rw [hm2] at hY; dsimp only at hY; subst hY
              rw [map_error, thK_error] at hk; unfold fltV at hk
              simp -dsimp -implicitDefEqProofs only [S54, S54_0, S54r1, S54_1, S54r2, S54_2, S54r3, S54_3, S54r4, S54_4, S54r5, S54_5, S54r6, S54_6, S54r7, S54_7, S54r8, S54_8, S54r9, S54_9, S54r10, S54_10, S54r11, S54_11, S54r12, S54_12, S54r13, S54_13, S54r14, R54, hx, hix, e1, hk0, hts, hts2, w1, w2, w3, hsL, hsR, ha, mkIn_nil, m0, n2, hm2, impF, CNextP, CStop, CIdxV, CSide, tri, CMark_wp, mkIn_rows, mkK, fltV, Ev.panK, thC_wp, thK_ok, thK_error, map_ok, map_error, strA, unStr_rows, strRows_len, mkRows_nil', ↓Ev.P, Ev.Q, Bool.cond_true, Bool.cond_false, eq_self, forall_eq_or_imp, implies_true, forall_const, forall_eq, ↓reduceIte, reduceIte, Nat.reduceEqDiff, Nat.reduceAdd, reduceCtorEq, Nat.reduceSub, Int.reduceToNat, Int.reduceLE, Int.reduceLT, Int.reduceNeg, Nat.reduceBEq, Nat.reduceMul, Nat.reduceLeDiff, Nat.reduceMod, UInt8.reduceOfNat, Nat.reduceLT, Int.reduceEq, Int.reduceAdd, Int.reduceSub, Int.reduceMul]
              repeat' (first | with_reducible assumption | refine And.intro ?_ ?_ | intro _ | (rw [Ev.xStp_eq]; simp -dsimp -implicitDefEqProofs only [S54, S54_0, S54r1, S54_1, S54r2, S54_2, S54r3, S54_3, S54r4, S54_4, S54r5, S54_5, S54r6, S54_6, S54r7, S54_7, S54r8, S54_8, S54r9, S54_9, S54r10, S54_10, S54r11, S54_11, S54r12, S54_12, S54r13, S54_13, S54r14, R54, hx, hix, e1, hk0, hts, hts2, w1, w2, w3, hsL, hsR, ha, mkIn_nil, m0, n2, hm2, impF, CNextP, CStop, CIdxV, CSide, tri, CMark_wp, mkIn_rows, mkK, fltV, Ev.panK, thC_wp, thK_ok, thK_error, map_ok, map_error, strA, unStr_rows, strRows_len, mkRows_nil', ↓Ev.P, Ev.Q, Bool.cond_true, Bool.cond_false, eq_self, forall_eq_or_imp, implies_true, forall_const, forall_eq, ↓reduceIte, reduceIte, Nat.reduceEqDiff, Nat.reduceAdd, reduceCtorEq, Nat.reduceSub, Int.reduceToNat, Int.reduceLE, Int.reduceLT, Int.reduceNeg, Nat.reduceBEq, Nat.reduceMul, Nat.reduceLeDiff, Nat.reduceMod, UInt8.reduceOfNat, Nat.reduceLT, Int.reduceEq, Int.reduceAdd, Int.reduceSub, Int.reduceMul]))
              all_goals try omega
              all_goals exact hk
            | ok x =>
              obtain ⟨m2, a4⟩ := x
              rw [hm2] at hY; dsimp only at hY; subst hY
              rw [map_ok, hkA, thK_ok] at hk; dsimp only at hk
              simp -dsimp -implicitDefEqProofs only [S54, S54_0, S54r1, S54_1, S54r2, S54_2, S54r3, S54_3, S54r4, S54_4, S54r5, S54_5, S54r6, S54_6, S54r7, S54_7, S54r8, S54_8, S54r9, S54_9, S54r10, S54_10, S54r11, S54_11, S54r12, S54_12, S54r13, S54_13, S54r14, R54, hx, hix, e1, hk0, hts, hts2, w1, w2, w3, hsL, hsR, ha, mkIn_nil, m0, n2, hm2, impF, CNextP, CStop, CIdxV, CSide, tri, CMark_wp, mkIn_rows, mkK, fltV, Ev.panK, thC_wp, thK_ok, thK_error, map_ok, map_error, strA, unStr_rows, strRows_len, mkRows_nil', ↓Ev.P, Ev.Q, Bool.cond_true, Bool.cond_false, eq_self, forall_eq_or_imp, implies_true, forall_const, forall_eq, ↓reduceIte, reduceIte, Nat.reduceEqDiff, Nat.reduceAdd, reduceCtorEq, Nat.reduceSub, Int.reduceToNat, Int.reduceLE, Int.reduceLT, Int.reduceNeg, Nat.reduceBEq, Nat.reduceMul, Nat.reduceLeDiff, Nat.reduceMod, UInt8.reduceOfNat, Nat.reduceLT, Int.reduceEq, Int.reduceAdd, Int.reduceSub, Int.reduceMul]
              repeat' (first | with_reducible assumption | refine And.intro ?_ ?_ | intro _ | (rw [Ev.xStp_eq]; simp -dsimp -implicitDefEqProofs only [S54, S54_0, S54r1, S54_1, S54r2, S54_2, S54r3, S54_3, S54r4, S54_4, S54r5, S54_5, S54r6, S54_6, S54r7, S54_7, S54r8, S54_8, S54r9, S54_9, S54r10, S54_10, S54r11, S54_11, S54r12, S54_12, S54r13, S54_13, S54r14, R54, hx, hix, e1, hk0, hts, hts2, w1, w2, w3, hsL, hsR, ha, mkIn_nil, m0, n2, hm2, impF, CNextP, CStop, CIdxV, CSide, tri, CMark_wp, mkIn_rows, mkK, fltV, Ev.panK, thC_wp, thK_ok, thK_error, map_ok, map_error, strA, unStr_rows, strRows_len, mkRows_nil', ↓Ev.P, Ev.Q, Bool.cond_true, Bool.cond_false, eq_self, forall_eq_or_imp, implies_true, forall_const, forall_eq, ↓reduceIte, reduceIte, Nat.reduceEqDiff, Nat.reduceAdd, reduceCtorEq, Nat.reduceSub, Int.reduceToNat, Int.reduceLE, Int.reduceLT, Int.reduceNeg, Nat.reduceBEq, Nat.reduceMul, Nat.reduceLeDiff, Nat.reduceMod, UInt8.reduceOfNat, Nat.reduceLT, Int.reduceEq, Int.reduceAdd, Int.reduceSub, Int.reduceMul]))
              all_goals try omega
              all_goals exact hk
        · rw [if_neg hok] at hcm
          rw [hcm] at hY; dsimp only at hY; subst hY
          rw [map_error, thK_error] at hk; unfold fltV at hk
          simp only [ec] at hk
          have hno : ¬ (o1 = true ∧ o2 = true) := fun h => hok ⟨L1.symm.trans h.1, R1.symm.trans h.2⟩
          cases o1 <;> cases o2 <;> first | exact absurd ⟨rfl, rfl⟩ hno | skip
          all_goals
            simp -dsimp -implicitDefEqProofs only [S54, S54_0, S54r1, S54_1, S54r2, S54_2, S54r3, S54_3, S54r4, S54_4, S54r5, S54_5, S54r6, S54_6, S54r7, S54_7, S54r8, S54_8, S54r9, S54_9, S54r10, S54_10, S54r11, S54_11, S54r12, S54_12, S54r13, S54_13, S54r14, R54, hx, hix, e1, hk0, hts, hts2, w1, w2, w3, hsL, hsR, impF, CNextP, CStop, CIdxV, CSide, tri, CMark_wp, mkIn_rows, mkK, fltV, Ev.panK, thC_wp, thK_ok, thK_error, map_ok, map_error, strA, unStr_rows, strRows_len, mkRows_nil', ↓Ev.P, Ev.Q, Bool.cond_true, Bool.cond_false, eq_self, forall_eq_or_imp, implies_true, forall_const, forall_eq, ↓reduceIte, reduceIte, Nat.reduceEqDiff, Nat.reduceAdd, reduceCtorEq, Nat.reduceSub, Int.reduceToNat, Int.reduceLE, Int.reduceLT, Int.reduceNeg, Nat.reduceBEq, Nat.reduceMul, Nat.reduceLeDiff, Nat.reduceMod, UInt8.reduceOfNat, Nat.reduceLT, Int.reduceEq, Int.reduceAdd, Int.reduceSub, Int.reduceMul]
            repeat' (first | with_reducible assumption | refine And.intro ?_ ?_ | intro _ | (rw [Ev.xStp_eq]; simp -dsimp -implicitDefEqProofs only [S54, S54_0, S54r1, S54_1, S54r2, S54_2, S54r3, S54_3, S54r4, S54_4, S54r5, S54_5, S54r6, S54_6, S54r7, S54_7, S54r8, S54_8, S54r9, S54_9, S54r10, S54_10, S54r11, S54_11, S54r12, S54_12, S54r13, S54_13, S54r14, R54, hx, hix, e1, hk0, hts, hts2, w1, w2, w3, hsL, hsR, impF, CNextP, CStop, CIdxV, CSide, tri, CMark_wp, mkIn_rows, mkK, fltV, Ev.panK, thC_wp, thK_ok, thK_error, map_ok, map_error, strA, unStr_rows, strRows_len, mkRows_nil', ↓Ev.P, Ev.Q, Bool.cond_true, Bool.cond_false, eq_self, forall_eq_or_imp, implies_true, forall_const, forall_eq, ↓reduceIte, reduceIte, Nat.reduceEqDiff, Nat.reduceAdd, reduceCtorEq, Nat.reduceSub, Int.reduceToNat, Int.reduceLE, Int.reduceLT, Int.reduceNeg, Nat.reduceBEq, Nat.reduceMul, Nat.reduceLeDiff, Nat.reduceMod, UInt8.reduceOfNat, Nat.reduceLT, Int.reduceEq, Int.reduceAdd, Int.reduceSub, Int.reduceMul]))
            all_goals try omega
            all_goals exact hk
      · have w1 := v1.trans (eq_false (by rw [hv]; decide))
        have w2 := v2.trans (eq_true hv)
        have w3 := v3.trans (eq_false (by rw [hv]; decide))
        rw [decide_eq_false (by rw [hv]; decide)] at L1 L2
        rw [decide_eq_false (by rw [hv]; decide)] at R1 R2
        clear v1 v2 v3
        generalize hsL : sideP (s.take k) false = sl at L1 L2
        generalize hsR : sideP (s.drop (k + 1)) false = sr at R1 R2
        obtain ⟨⟨A, AN⟩, o1⟩ := sl
        obtain ⟨⟨B, BN⟩, o2⟩ := sr
        dsimp only at L1 L2 R1 R2
        by_cases hok : l.2 = true ∧ r.2 = true
        · rw [if_pos hok] at hcm
          have q1 := L2 hok.1
          have q2 := R2 hok.2
          rw [← q1, ← q2] at hcm; dsimp only at hcm
          have b1 := B1 hok.1; have b2 := B2 hok.2
          rw [← q1] at b1; rw [← q2] at b2; dsimp only at b1 b2
          obtain rfl : o1 = true := L1.trans hok.1
          obtain rfl : o2 = true := R1.trans hok.2
          have a0 := b1.2 (by rw [hv]; decide)
          have b0 := b2.2 (by rw [hv]; decide)
          clear b1 b2 q1 q2 hok L1 L2 R1 R2 B1 B2
          rw [hcm] at hY; dsimp only at hY
          by_cases ha : 4096 ≤ ahead
          · rw [if_pos ha] at hY; subst hY
            rw [map_error, thK_error] at hk; unfold fltV at hk
            simp only [ec] at hk
            simp -dsimp -implicitDefEqProofs only [S54, S54_0, S54r1, S54_1, S54r2, S54_2, S54r3, S54_3, S54r4, S54_4, S54r5, S54_5, S54r6, S54_6, S54r7, S54_7, S54r8, S54_8, S54r9, S54_9, S54r10, S54_10, S54r11, S54_11, S54r12, S54_12, S54r13, S54_13, S54r14, R54, hx, hix, e1, hk0, hts, hts2, w1, w2, w3, hsL, hsR, ha, impF, CNextP, CStop, CIdxV, CSide, tri, CMark_wp, mkIn_rows, mkK, fltV, Ev.panK, thC_wp, thK_ok, thK_error, map_ok, map_error, strA, unStr_rows, strRows_len, mkRows_nil', ↓Ev.P, Ev.Q, Bool.cond_true, Bool.cond_false, eq_self, forall_eq_or_imp, implies_true, forall_const, forall_eq, ↓reduceIte, reduceIte, Nat.reduceEqDiff, Nat.reduceAdd, reduceCtorEq, Nat.reduceSub, Int.reduceToNat, Int.reduceLE, Int.reduceLT, Int.reduceNeg, Nat.reduceBEq, Nat.reduceMul, Nat.reduceLeDiff, Nat.reduceMod, UInt8.reduceOfNat, Nat.reduceLT, Int.reduceEq, Int.reduceAdd, Int.reduceSub, Int.reduceMul]
            repeat' (first | with_reducible assumption | refine And.intro ?_ ?_ | intro _ | (rw [Ev.xStp_eq]; simp -dsimp -implicitDefEqProofs only [S54, S54_0, S54r1, S54_1, S54r2, S54_2, S54r3, S54_3, S54r4, S54_4, S54r5, S54_5, S54r6, S54_6, S54r7, S54_7, S54r8, S54_8, S54r9, S54_9, S54r10, S54_10, S54r11, S54_11, S54r12, S54_12, S54r13, S54_13, S54r14, R54, hx, hix, e1, hk0, hts, hts2, w1, w2, w3, hsL, hsR, ha, impF, CNextP, CStop, CIdxV, CSide, tri, CMark_wp, mkIn_rows, mkK, fltV, Ev.panK, thC_wp, thK_ok, thK_error, map_ok, map_error, strA, unStr_rows, strRows_len, mkRows_nil', ↓Ev.P, Ev.Q, Bool.cond_true, Bool.cond_false, eq_self, forall_eq_or_imp, implies_true, forall_const, forall_eq, ↓reduceIte, reduceIte, Nat.reduceEqDiff, Nat.reduceAdd, reduceCtorEq, Nat.reduceSub, Int.reduceToNat, Int.reduceLE, Int.reduceLT, Int.reduceNeg, Nat.reduceBEq, Nat.reduceMul, Nat.reduceLeDiff, Nat.reduceMod, UInt8.reduceOfNat, Nat.reduceLT, Int.reduceEq, Int.reduceAdd, Int.reduceSub, Int.reduceMul]))
            all_goals try omega
            all_goals exact hk
          · rw [if_neg ha] at hY; unfold hkL at hY; dsimp only at hY
            have n1 : (AN ≤ 0) = False := eq_false (by omega)
            cases hm1 : mkL [60, 32] 45 L AN.toNat (k0 + 1) [] with
            | error xe =>
              obtain ⟨xa, xe⟩ := xe
              rw [hm1] at hY; dsimp only at hY; subst hY
              rw [map_error, thK_error] at hk; unfold fltV at hk
              simp -dsimp -implicitDefEqProofs only [S54, S54_0, S54r1, S54_1, S54r2, S54_2, S54r3, S54_3, S54r4, S54_4, S54r5, S54_5, S54r6, S54_6, S54r7, S54_7, S54r8, S54_8, S54r9, S54_9, S54r10, S54_10, S54r11, S54_11, S54r12, S54_12, S54r13, S54_13, S54r14, R54, hx, hix, e1, hk0, hts, hts2, w1, w2, w3, hsL, hsR, ha, mkIn_nil, n1, hm1, impF, CNextP, CStop, CIdxV, CSide, tri, CMark_wp, mkIn_rows, mkK, fltV, Ev.panK, thC_wp, thK_ok, thK_error, map_ok, map_error, strA, unStr_rows, strRows_len, mkRows_nil', ↓Ev.P, Ev.Q, Bool.cond_true, Bool.cond_false, eq_self, forall_eq_or_imp, implies_true, forall_const, forall_eq, ↓reduceIte, reduceIte, Nat.reduceEqDiff, Nat.reduceAdd, reduceCtorEq, Nat.reduceSub, Int.reduceToNat, Int.reduceLE, Int.reduceLT, Int.reduceNeg, Nat.reduceBEq, Nat.reduceMul, Nat.reduceLeDiff, Nat.reduceMod, UInt8.reduceOfNat, Nat.reduceLT, Int.reduceEq, Int.reduceAdd, Int.reduceSub, Int.reduceMul]
              repeat' (first | with_reducible assumption | refine And.intro ?_ ?_ | intro _ | (rw [Ev.xStp_eq]; simp -dsimp -implicitDefEqProofs only [S54, S54_0, S54r1, S54_1, S54r2, S54_2, S54r3, S54_3, S54r4, S54_4, S54r5, S54_5, S54r6, S54_6, S54r7, S54_7, S54r8, S54_8, S54r9, S54_9, S54r10, S54_10, S54r11, S54_11, S54r12, S54_12, S54r13, S54_13, S54r14, R54, hx, hix, e1, hk0, hts, hts2, w1, w2, w3, hsL, hsR, ha, mkIn_nil, n1, hm1, impF, CNextP, CStop, CIdxV, CSide, tri, CMark_wp, mkIn_rows, mkK, fltV, Ev.panK, thC_wp, thK_ok, thK_error, map_ok, map_error, strA, unStr_rows, strRows_len, mkRows_nil', ↓Ev.P, Ev.Q, Bool.cond_true, Bool.cond_false, eq_self, forall_eq_or_imp, implies_true, forall_const, forall_eq, ↓reduceIte, reduceIte, Nat.reduceEqDiff, Nat.reduceAdd, reduceCtorEq, Nat.reduceSub, Int.reduceToNat, Int.reduceLE, Int.reduceLT, Int.reduceNeg, Nat.reduceBEq, Nat.reduceMul, Nat.reduceLeDiff, Nat.reduceMod, UInt8.reduceOfNat, Nat.reduceLT, Int.reduceEq, Int.reduceAdd, Int.reduceSub, Int.reduceMul]))
              all_goals try omega
              all_goals exact hk
            | ok x =>
              obtain ⟨m1, a2⟩ := x
              obtain ⟨l1, l2, l3⟩ := mkL_le _ _ _ _ _ _ _ _ hm1 (by omega)
              simp only [List.length_nil] at l3
              rw [hm1] at hY; dsimp only at hY
              rw [if_pos ⟨by omega, by omega⟩] at hY; unfold dashL at hY
              have n2 : (BN ≤ 0) = False := eq_false (by omega)
              cases hd : nextL L a2 with
              | error xe =>
                obtain ⟨xa, xe⟩ := xe
                rw [hd] at hY; dsimp only at hY; subst hY
                rw [map_error, thK_error] at hk; unfold fltV at hk
                simp -dsimp -implicitDefEqProofs only [S54, S54_0, S54r1, S54_1, S54r2, S54_2, S54r3, S54_3, S54r4, S54_4, S54r5, S54_5, S54r6, S54_6, S54r7, S54_7, S54r8, S54_8, S54r9, S54_9, S54r10, S54_10, S54r11, S54_11, S54r12, S54_12, S54r13, S54_13, S54r14, R54, hx, hix, e1, hk0, hts, hts2, w1, w2, w3, hsL, hsR, ha, mkIn_nil, n1, hm1, hd, impF, CNextP, CStop, CIdxV, CSide, tri, CMark_wp, mkIn_rows, mkK, fltV, Ev.panK, thC_wp, thK_ok, thK_error, map_ok, map_error, strA, unStr_rows, strRows_len, mkRows_nil', ↓Ev.P, Ev.Q, Bool.cond_true, Bool.cond_false, eq_self, forall_eq_or_imp, implies_true, forall_const, forall_eq, ↓reduceIte, reduceIte, Nat.reduceEqDiff, Nat.reduceAdd, reduceCtorEq, Nat.reduceSub, Int.reduceToNat, Int.reduceLE, Int.reduceLT, Int.reduceNeg, Nat.reduceBEq, Nat.reduceMul, Nat.reduceLeDiff, Nat.reduceMod, UInt8.reduceOfNat, Nat.reduceLT, Int.reduceEq, Int.reduceAdd, Int.reduceSub, Int.reduceMul]
                repeat' (first | with_reducible assumption | refine And.intro ?_ ?_ | intro _ | (rw [Ev.xStp_eq]; simp -dsimp -implicitDefEqProofs only [S54, S54_0, S54r1, S54_1, S54r2, S54_2, S54r3, S54_3, S54r4, S54_4, S54r5, S54_5, S54r6, S54_6, S54r7, S54_7, S54r8, S54_8, S54r9, S54_9, S54r10, S54_10, S54r11, S54_11, S54r12, S54_12, S54r13, S54_13, S54r14, R54, hx, hix, e1, hk0, hts, hts2, w1, w2, w3, hsL, hsR, ha, mkIn_nil, n1, hm1, hd, impF, CNextP, CStop, CIdxV, CSide, tri, CMark_wp, mkIn_rows, mkK, fltV, Ev.panK, thC_wp, thK_ok, thK_error, map_ok, map_error, strA, unStr_rows, strRows_len, mkRows_nil', ↓Ev.P, Ev.Q, Bool.cond_true, Bool.cond_false, eq_self, forall_eq_or_imp, implies_true, forall_const, forall_eq, ↓reduceIte, reduceIte, Nat.reduceEqDiff, Nat.reduceAdd, reduceCtorEq, Nat.reduceSub, Int.reduceToNat, Int.reduceLE, Int.reduceLT, Int.reduceNeg, Nat.reduceBEq, Nat.reduceMul, Nat.reduceLeDiff, Nat.reduceMod, UInt8.reduceOfNat, Nat.reduceLT, Int.reduceEq, Int.reduceAdd, Int.reduceSub, Int.reduceMul]))
                all_goals try omega
                all_goals exact hk
              | ok x =>
                obtain ⟨ds, a3⟩ := x
                obtain ⟨rfl, hlt3, hs3⟩ := nextL_le hd
                rw [hd] at hY; dsimp only at hY
                clear hs3
                have ec3 : ((a2 + 1 : Nat) : Int) = (a2 : Int) + 1 := by omega
                by_cases hds : ds = [45, 45, 45]
                · rw [if_pos hds] at hY; dsimp only at hY
                  subst hds
                  cases hm2 : mkL [62, 32] 43 L BN.toNat (a2 + 1) m1 with
                  | error xe =>
                    obtain ⟨xa, xe⟩ := xe
                    rw [hm2] at hY; dsimp only at hY; subst hY
                    rw [map_error, thK_error] at hk; unfold fltV at hk
                    simp -dsimp -implicitDefEqProofs only [S54, S54_0, S54r1, S54_1, S54r2, S54_2, S54r3, S54_3, S54r4, S54_4, S54r5, S54_5, S54r6, S54_6, S54r7, S54_7, S54r8, S54_8, S54r9, S54_9, S54r10, S54_10, S54r11, S54_11, S54r12, S54_12, S54r13, S54_13, S54r14, R54, hx, hix, e1, hk0, hts, hts2, w1, w2, w3, hsL, hsR, ha, mkIn_nil, n1, n2, hm1, hd, hm2, impF, CNextP, CStop, CIdxV, CSide, tri, CMark_wp, mkIn_rows, mkK, fltV, Ev.panK, thC_wp, thK_ok, thK_error, map_ok, map_error, strA, unStr_rows, strRows_len, mkRows_nil', ↓Ev.P, Ev.Q, Bool.cond_true, Bool.cond_false, eq_self, forall_eq_or_imp, implies_true, forall_const, forall_eq, ↓reduceIte, reduceIte, Nat.reduceEqDiff, Nat.reduceAdd, reduceCtorEq, Nat.reduceSub, Int.reduceToNat, Int.reduceLE, Int.reduceLT, Int.reduceNeg, Nat.reduceBEq, Nat.reduceMul, Nat.reduceLeDiff, Nat.reduceMod, UInt8.reduceOfNat, Nat.reduceLT, Int.reduceEq, Int.reduceAdd, Int.reduceSub, Int.reduceMul]
                    repeat' (first | with_reducible assumption | refine And.intro ?_ ?_ | intro _ | (rw [Ev.xStp_eq]; simp -dsimp -implicitDefEqProofs only [S54, S54_0, S54r1, S54_1, S54r2, S54_2, S54r3, S54_3, S54r4, S54_4, S54r5, S54_5, S54r6, S54_6, S54r7, S54_7, S54r8, S54_8, S54r9, S54_9, S54r10, S54_10, S54r11, S54_11, S54r12, S54_12, S54r13, S54_13, S54r14, R54, hx, hix, e1, hk0, hts, hts2, w1, w2, w3, hsL, hsR, ha, mkIn_nil, n1, n2, hm1, hd, hm2, impF, CNextP, CStop, CIdxV, CSide, tri, CMark_wp, mkIn_rows, mkK, fltV, Ev.panK, thC_wp, thK_ok, thK_error, map_ok, map_error, strA, unStr_rows, strRows_len, mkRows_nil', ↓Ev.P, Ev.Q, Bool.cond_true, Bool.cond_false, eq_self, forall_eq_or_imp, implies_true, forall_const, forall_eq, ↓reduceIte, reduceIte, Nat.reduceEqDiff, Nat.reduceAdd, reduceCtorEq, Nat.reduceSub, Int.reduceToNat, Int.reduceLE, Int.reduceLT, Int.reduceNeg, Nat.reduceBEq, Nat.reduceMul, Nat.reduceLeDiff, Nat.reduceMod, UInt8.reduceOfNat, Nat.reduceLT, Int.reduceEq, Int.reduceAdd, Int.reduceSub, Int.reduceMul]))
                    all_goals try omega
                    all_goals exact hk
                  | ok x =>
                    obtain ⟨m2, a4⟩ := x
                    rw [hm2] at hY; dsimp only at hY; subst hY
                    rw [map_ok, hkA, thK_ok] at hk; dsimp only at hk
                    simp -dsimp -implicitDefEqProofs only [S54, S54_0, S54r1, S54_1, S54r2, S54_2, S54r3, S54_3, S54r4, S54_4, S54r5, S54_5, S54r6, S54_6, S54r7, S54_7, S54r8, S54_8, S54r9, S54_9, S54r10, S54_10, S54r11, S54_11, S54r12, S54_12, S54r13, S54_13, S54r14, R54, hx, hix, e1, hk0, hts, hts2, w1, w2, w3, hsL, hsR, ha, mkIn_nil, n1, n2, hm1, hd, hm2, impF, CNextP, CStop, CIdxV, CSide, tri, CMark_wp, mkIn_rows, mkK, fltV, Ev.panK, thC_wp, thK_ok, thK_error, map_ok, map_error, strA, unStr_rows, strRows_len, mkRows_nil', ↓Ev.P, Ev.Q, Bool.cond_true, Bool.cond_false, eq_self, forall_eq_or_imp, implies_true, forall_const, forall_eq, ↓reduceIte, reduceIte, Nat.reduceEqDiff, Nat.reduceAdd, reduceCtorEq, Nat.reduceSub, Int.reduceToNat, Int.reduceLE, Int.reduceLT, Int.reduceNeg, Nat.reduceBEq, Nat.reduceMul, Nat.reduceLeDiff, Nat.reduceMod, UInt8.reduceOfNat, Nat.reduceLT, Int.reduceEq, Int.reduceAdd, Int.reduceSub, Int.reduceMul]
                    repeat' (first | with_reducible assumption | refine And.intro ?_ ?_ | intro _ | (rw [Ev.xStp_eq]; simp -dsimp -implicitDefEqProofs only [S54, S54_0, S54r1, S54_1, S54r2, S54_2, S54r3, S54_3, S54r4, S54_4, S54r5, S54_5, S54r6, S54_6, S54r7, S54_7, S54r8, S54_8, S54r9, S54_9, S54r10, S54_10, S54r11, S54_11, S54r12, S54_12, S54r13, S54_13, S54r14, R54, hx, hix, e1, hk0, hts, hts2, w1, w2, w3, hsL, hsR, ha, mkIn_nil, n1, n2, hm1, hd, hm2, impF, CNextP, CStop, CIdxV, CSide, tri, CMark_wp, mkIn_rows, mkK, fltV, Ev.panK, thC_wp, thK_ok, thK_error, map_ok, map_error, strA, unStr_rows, strRows_len, mkRows_nil', ↓Ev.P, Ev.Q, Bool.cond_true, Bool.cond_false, eq_self, forall_eq_or_imp, implies_true, forall_const, forall_eq, ↓reduceIte, reduceIte, Nat.reduceEqDiff, Nat.reduceAdd, reduceCtorEq, Nat.reduceSub, Int.reduceToNat, Int.reduceLE, Int.reduceLT, Int.reduceNeg, Nat.reduceBEq, Nat.reduceMul, Nat.reduceLeDiff, Nat.reduceMod, UInt8.reduceOfNat, Nat.reduceLT, Int.reduceEq, Int.reduceAdd, Int.reduceSub, Int.reduceMul]))
                    all_goals try omega
                    all_goals exact hk
                · rw [if_neg hds] at hY; dsimp only at hY; subst hY
                  rw [map_error, thK_error] at hk; unfold fltV at hk
                  simp only [ec3] at hk
                  simp -dsimp -implicitDefEqProofs only [S54, S54_0, S54r1, S54_1, S54r2, S54_2, S54r3, S54_3, S54r4, S54_4, S54r5, S54_5, S54r6, S54_6, S54r7, S54_7, S54r8, S54_8, S54r9, S54_9, S54r10, S54_10, S54r11, S54_11, S54r12, S54_12, S54r13, S54_13, S54r14, R54, hx, hix, e1, hk0, hts, hts2, w1, w2, w3, hsL, hsR, ha, mkIn_nil, n1, hm1, hd, hds, impF, CNextP, CStop, CIdxV, CSide, tri, CMark_wp, mkIn_rows, mkK, fltV, Ev.panK, thC_wp, thK_ok, thK_error, map_ok, map_error, strA, unStr_rows, strRows_len, mkRows_nil', ↓Ev.P, Ev.Q, Bool.cond_true, Bool.cond_false, eq_self, forall_eq_or_imp, implies_true, forall_const, forall_eq, ↓reduceIte, reduceIte, Nat.reduceEqDiff, Nat.reduceAdd, reduceCtorEq, Nat.reduceSub, Int.reduceToNat, Int.reduceLE, Int.reduceLT, Int.reduceNeg, Nat.reduceBEq, Nat.reduceMul, Nat.reduceLeDiff, Nat.reduceMod, UInt8.reduceOfNat, Nat.reduceLT, Int.reduceEq, Int.reduceAdd, Int.reduceSub, Int.reduceMul]
                  repeat' (first | with_reducible assumption | refine And.intro ?_ ?_ | intro _ | (rw [Ev.xStp_eq]; simp -dsimp -implicitDefEqProofs only [S54, S54_0, S54r1, S54_1, S54r2, S54_2, S54r3, S54_3, S54r4, S54_4, S54r5, S54_5, S54r6, S54_6, S54r7, S54_7, S54r8, S54_8, S54r9, S54_9, S54r10, S54_10, S54r11, S54_11, S54r12, S54_12, S54r13, S54_13, S54r14, R54, hx, hix, e1, hk0, hts, hts2, w1, w2, w3, hsL, hsR, ha, mkIn_nil, n1, hm1, hd, hds, impF, CNextP, CStop, CIdxV, CSide, tri, CMark_wp, mkIn_rows, mkK, fltV, Ev.panK, thC_wp, thK_ok, thK_error, map_ok, map_error, strA, unStr_rows, strRows_len, mkRows_nil', ↓Ev.P, Ev.Q, Bool.cond_true, Bool.cond_false, eq_self, forall_eq_or_imp, implies_true, forall_const, forall_eq, ↓reduceIte, reduceIte, Nat.reduceEqDiff, Nat.reduceAdd, reduceCtorEq, Nat.reduceSub, Int.reduceToNat, Int.reduceLE, Int.reduceLT, Int.reduceNeg, Nat.reduceBEq, Nat.reduceMul, Nat.reduceLeDiff, Nat.reduceMod, UInt8.reduceOfNat, Nat.reduceLT, Int.reduceEq, Int.reduceAdd, Int.reduceSub, Int.reduceMul]))
                  all_goals try omega
                  all_goals exact hk
        · rw [if_neg hok] at hcm
          rw [hcm] at hY; dsimp only at hY; subst hY
          rw [map_error, thK_error] at hk; unfold fltV at hk
          simp only [ec] at hk
          have hno : ¬ (o1 = true ∧ o2 = true) := fun h => hok ⟨L1.symm.trans h.1, R1.symm.trans h.2⟩
          cases o1 <;> cases o2 <;> first | exact absurd ⟨rfl, rfl⟩ hno | skip
          all_goals
            simp -dsimp -implicitDefEqProofs only [S54, S54_0, S54r1, S54_1, S54r2, S54_2, S54r3, S54_3, S54r4, S54_4, S54r5, S54_5, S54r6, S54_6, S54r7, S54_7, S54r8, S54_8, S54r9, S54_9, S54r10, S54_10, S54r11, S54_11, S54r12, S54_12, S54r13, S54_13, S54r14, R54, hx, hix, e1, hk0, hts, hts2, w1, w2, w3, hsL, hsR, impF, CNextP, CStop, CIdxV, CSide, tri, CMark_wp, mkIn_rows, mkK, fltV, Ev.panK, thC_wp, thK_ok, thK_error, map_ok, map_error, strA, unStr_rows, strRows_len, mkRows_nil', ↓Ev.P, Ev.Q, Bool.cond_true, Bool.cond_false, eq_self, forall_eq_or_imp, implies_true, forall_const, forall_eq, ↓reduceIte, reduceIte, Nat.reduceEqDiff, Nat.reduceAdd, reduceCtorEq, Nat.reduceSub, Int.reduceToNat, Int.reduceLE, Int.reduceLT, Int.reduceNeg, Nat.reduceBEq, Nat.reduceMul, Nat.reduceLeDiff, Nat.reduceMod, UInt8.reduceOfNat, Nat.reduceLT, Int.reduceEq, Int.reduceAdd, Int.reduceSub, Int.reduceMul]
            repeat' (first | with_reducible assumption | refine And.intro ?_ ?_ | intro _ | (rw [Ev.xStp_eq]; simp -dsimp -implicitDefEqProofs only [S54, S54_0, S54r1, S54_1, S54r2, S54_2, S54r3, S54_3, S54r4, S54_4, S54r5, S54_5, S54r6, S54_6, S54r7, S54_7, S54r8, S54_8, S54r9, S54_9, S54r10, S54_10, S54r11, S54_11, S54r12, S54_12, S54r13, S54_13, S54r14, R54, hx, hix, e1, hk0, hts, hts2, w1, w2, w3, hsL, hsR, impF, CNextP, CStop, CIdxV, CSide, tri, CMark_wp, mkIn_rows, mkK, fltV, Ev.panK, thC_wp, thK_ok, thK_error, map_ok, map_error, strA, unStr_rows, strRows_len, mkRows_nil', ↓Ev.P, Ev.Q, Bool.cond_true, Bool.cond_false, eq_self, forall_eq_or_imp, implies_true, forall_const, forall_eq, ↓reduceIte, reduceIte, Nat.reduceEqDiff, Nat.reduceAdd, reduceCtorEq, Nat.reduceSub, Int.reduceToNat, Int.reduceLE, Int.reduceLT, Int.reduceNeg, Nat.reduceBEq, Nat.reduceMul, Nat.reduceLeDiff, Nat.reduceMod, UInt8.reduceOfNat, Nat.reduceLT, Int.reduceEq, Int.reduceAdd, Int.reduceSub, Int.reduceMul]))
            all_goals try omega
            all_goals exact hk
      · have w1 := v1.trans (eq_false (by rw [hv]; decide))
        have w2 := v2.trans (eq_false (by rw [hv]; decide))
        have w3 := v3.trans (eq_true hv)
        rw [decide_eq_false (by rw [hv]; decide)] at L1 L2
        rw [decide_eq_true (hv)] at R1 R2
        clear v1 v2 v3
        generalize hsL : sideP (s.take k) false = sl at L1 L2
        generalize hsR : sideP (s.drop (k + 1)) true = sr at R1 R2
        obtain ⟨⟨A, AN⟩, o1⟩ := sl
        obtain ⟨⟨B, BN⟩, o2⟩ := sr
        dsimp only at L1 L2 R1 R2
        by_cases hok : l.2 = true ∧ r.2 = true
        · rw [if_pos hok] at hcm
          have q1 := L2 hok.1
          have q2 := R2 hok.2
          rw [← q1, ← q2] at hcm; dsimp only at hcm
          have b1 := B1 hok.1; have b2 := B2 hok.2
          rw [← q1] at b1; rw [← q2] at b2; dsimp only at b1 b2
          obtain rfl : o1 = true := L1.trans hok.1
          obtain rfl : o2 = true := R1.trans hok.2
          have b0 : BN = 0 := b2.1 hv
          have a0 := b1.2 (by rw [hv]; decide)
          subst b0
          clear b1 b2 q1 q2 hok L1 L2 R1 R2 B1 B2
          rw [hcm] at hY; dsimp only at hY
          by_cases ha : 4096 ≤ ahead
          · rw [if_pos ha] at hY; subst hY
            rw [map_error, thK_error] at hk; unfold fltV at hk
            simp only [ec] at hk
            simp -dsimp -implicitDefEqProofs only [S54, S54_0, S54r1, S54_1, S54r2, S54_2, S54r3, S54_3, S54r4, S54_4, S54r5, S54_5, S54r6, S54_6, S54r7, S54_7, S54r8, S54_8, S54r9, S54_9, S54r10, S54_10, S54r11, S54_11, S54r12, S54_12, S54r13, S54_13, S54r14, R54, hx, hix, e1, hk0, hts, hts2, w1, w2, w3, hsL, hsR, ha, impF, CNextP, CStop, CIdxV, CSide, tri, CMark_wp, mkIn_rows, mkK, fltV, Ev.panK, thC_wp, thK_ok, thK_error, map_ok, map_error, strA, unStr_rows, strRows_len, mkRows_nil', ↓Ev.P, Ev.Q, Bool.cond_true, Bool.cond_false, eq_self, forall_eq_or_imp, implies_true, forall_const, forall_eq, ↓reduceIte, reduceIte, Nat.reduceEqDiff, Nat.reduceAdd, reduceCtorEq, Nat.reduceSub, Int.reduceToNat, Int.reduceLE, Int.reduceLT, Int.reduceNeg, Nat.reduceBEq, Nat.reduceMul, Nat.reduceLeDiff, Nat.reduceMod, UInt8.reduceOfNat, Nat.reduceLT, Int.reduceEq, Int.reduceAdd, Int.reduceSub, Int.reduceMul]
            repeat' (first | with_reducible assumption | refine And.intro ?_ ?_ | intro _ | (rw [Ev.xStp_eq]; simp -dsimp -implicitDefEqProofs only [S54, S54_0, S54r1, S54_1, S54r2, S54_2, S54r3, S54_3, S54r4, S54_4, S54r5, S54_5, S54r6, S54_6, S54r7, S54_7, S54r8, S54_8, S54r9, S54_9, S54r10, S54_10, S54r11, S54_11, S54r12, S54_12, S54r13, S54_13, S54r14, R54, hx, hix, e1, hk0, hts, hts2, w1, w2, w3, hsL, hsR, ha, impF, CNextP, CStop, CIdxV, CSide, tri, CMark_wp, mkIn_rows, mkK, fltV, Ev.panK, thC_wp, thK_ok, thK_error, map_ok, map_error, strA, unStr_rows, strRows_len, mkRows_nil', ↓Ev.P, Ev.Q, Bool.cond_true, Bool.cond_false, eq_self, forall_eq_or_imp, implies_true, forall_const, forall_eq, ↓reduceIte, reduceIte, Nat.reduceEqDiff, Nat.reduceAdd, reduceCtorEq, Nat.reduceSub, Int.reduceToNat, Int.reduceLE, Int.reduceLT, Int.reduceNeg, Nat.reduceBEq, Nat.reduceMul, Nat.reduceLeDiff, Nat.reduceMod, UInt8.reduceOfNat, Nat.reduceLT, Int.reduceEq, Int.reduceAdd, Int.reduceSub, Int.reduceMul]))
            all_goals try omega
            all_goals exact hk
          · rw [if_neg ha] at hY; unfold hkL at hY; dsimp only at hY
            have n1 : (AN ≤ 0) = False := eq_false (by omega)
            cases hm1 : mkL [60, 32] 45 L AN.toNat (k0 + 1) [] with
            | error xe =>
              obtain ⟨xa, xe⟩ := xe
              rw [hm1] at hY; dsimp only at hY; subst hY
              rw [map_error, thK_error] at hk; unfold fltV at hk
              simp -dsimp -implicitDefEqProofs only [S54, S54_0, S54r1, S54_1, S54r2, S54_2, S54r3, S54_3, S54r4, S54_4, S54r5, S54_5, S54r6, S54_6, S54r7, S54_7, S54r8, S54_8, S54r9, S54_9, S54r10, S54_10, S54r11, S54_11, S54r12, S54_12, S54r13, S54_13, S54r14, R54, hx, hix, e1, hk0, hts, hts2, w1, w2, w3, hsL, hsR, ha, mkIn_nil, n1, hm1, impF, CNextP, CStop, CIdxV, CSide, tri, CMark_wp, mkIn_rows, mkK, fltV, Ev.panK, thC_wp, thK_ok, thK_error, map_ok, map_error, strA, unStr_rows, strRows_len, mkRows_nil', ↓Ev.P, Ev.Q, Bool.cond_true, Bool.cond_false, eq_self, forall_eq_or_imp, implies_true, forall_const, forall_eq, ↓reduceIte, reduceIte, Nat.reduceEqDiff, Nat.reduceAdd, reduceCtorEq, Nat.reduceSub, Int.reduceToNat, Int.reduceLE, Int.reduceLT, Int.reduceNeg, Nat.reduceBEq, Nat.reduceMul, Nat.reduceLeDiff, Nat.reduceMod, UInt8.reduceOfNat, Nat.reduceLT, Int.reduceEq, Int.reduceAdd, Int.reduceSub, Int.reduceMul]
              repeat' (first | with_reducible assumption | refine And.intro ?_ ?_ | intro _ | (rw [Ev.xStp_eq]; simp -dsimp -implicitDefEqProofs only [S54, S54_0, S54r1, S54_1, S54r2, S54_2, S54r3, S54_3, S54r4, S54_4, S54r5, S54_5, S54r6, S54_6, S54r7, S54_7, S54r8, S54_8, S54r9, S54_9, S54r10, S54_10, S54r11, S54_11, S54r12, S54_12, S54r13, S54_13, S54r14, R54, hx, hix, e1, hk0, hts, hts2, w1, w2, w3, hsL, hsR, ha, mkIn_nil, n1, hm1, impF, CNextP, CStop, CIdxV, CSide, tri, CMark_wp, mkIn_rows, mkK, fltV, Ev.panK, thC_wp, thK_ok, thK_error, map_ok, map_error, strA, unStr_rows, strRows_len, mkRows_nil', ↓Ev.P, Ev.Q, Bool.cond_true, Bool.cond_false, eq_self, forall_eq_or_imp, implies_true, forall_const, forall_eq, ↓reduceIte, reduceIte, Nat.reduceEqDiff, Nat.reduceAdd, reduceCtorEq, Nat.reduceSub, Int.reduceToNat, Int.reduceLE, Int.reduceLT, Int.reduceNeg, Nat.reduceBEq, Nat.reduceMul, Nat.reduceLeDiff, Nat.reduceMod, UInt8.reduceOfNat, Nat.reduceLT, Int.reduceEq, Int.reduceAdd, Int.reduceSub, Int.reduceMul]))
              all_goals try omega
              all_goals exact hk
            | ok x =>
              obtain ⟨m1, a2⟩ := x
              obtain ⟨l1, l2, l3⟩ := mkL_le _ _ _ _ _ _ _ _ hm1 (by omega)
              simp only [List.length_nil] at l3
              rw [hm1] at hY; dsimp only at hY
              rw [if_neg (fun h => by have := h.2; omega), show (0 : Int).toNat = 0 from rfl] at hY; dsimp only [mkL] at hY; subst hY
              rw [map_ok, hkA, thK_ok] at hk; dsimp only at hk
              have m0 : mkL [62, 32] 43 L 0 a2 m1 = .ok (m1, a2) := rfl
              simp -dsimp -implicitDefEqProofs only [S54, S54_0, S54r1, S54_1, S54r2, S54_2, S54r3, S54_3, S54r4, S54_4, S54r5, S54_5, S54r6, S54_6, S54r7, S54_7, S54r8, S54_8, S54r9, S54_9, S54r10, S54_10, S54r11, S54_11, S54r12, S54_12, S54r13, S54_13, S54r14, R54, hx, hix, e1, hk0, hts, hts2, w1, w2, w3, hsL, hsR, ha, mkIn_nil, n1, hm1, m0, impF, CNextP, CStop, CIdxV, CSide, tri, CMark_wp, mkIn_rows, mkK, fltV, Ev.panK, thC_wp, thK_ok, thK_error, map_ok, map_error, strA, unStr_rows, strRows_len, mkRows_nil', ↓Ev.P, Ev.Q, Bool.cond_true, Bool.cond_false, eq_self, forall_eq_or_imp, implies_true, forall_const, forall_eq, ↓reduceIte, reduceIte, Nat.reduceEqDiff, Nat.reduceAdd, reduceCtorEq, Nat.reduceSub, Int.reduceToNat, Int.reduceLE, Int.reduceLT, Int.reduceNeg, Nat.reduceBEq, Nat.reduceMul, Nat.reduceLeDiff, Nat.reduceMod, UInt8.reduceOfNat, Nat.reduceLT, Int.reduceEq, Int.reduceAdd, Int.reduceSub, Int.reduceMul]
              repeat' (first | with_reducible assumption | refine And.intro ?_ ?_ | intro _ | (rw [Ev.xStp_eq]; simp -dsimp -implicitDefEqProofs only [S54, S54_0, S54r1, S54_1, S54r2, S54_2, S54r3, S54_3, S54r4, S54_4, S54r5, S54_5, S54r6, S54_6, S54r7, S54_7, S54r8, S54_8, S54r9, S54_9, S54r10, S54_10, S54r11, S54_11, S54r12, S54_12, S54r13, S54_13, S54r14, R54, hx, hix, e1, hk0, hts, hts2, w1, w2, w3, hsL, hsR, ha, mkIn_nil, n1, hm1, m0, impF, CNextP, CStop, CIdxV, CSide, tri, CMark_wp, mkIn_rows, mkK, fltV, Ev.panK, thC_wp, thK_ok, thK_error, map_ok, map_error, strA, unStr_rows, strRows_len, mkRows_nil', ↓Ev.P, Ev.Q, Bool.cond_true, Bool.cond_false, eq_self, forall_eq_or_imp, implies_true, forall_const, forall_eq, ↓reduceIte, reduceIte, Nat.reduceEqDiff, Nat.reduceAdd, reduceCtorEq, Nat.reduceSub, Int.reduceToNat, Int.reduceLE, Int.reduceLT, Int.reduceNeg, Nat.reduceBEq, Nat.reduceMul, Nat.reduceLeDiff, Nat.reduceMod, UInt8.reduceOfNat, Nat.reduceLT, Int.reduceEq, Int.reduceAdd, Int.reduceSub, Int.reduceMul]))
              all_goals try omega
              all_goals exact hk
        · rw [if_neg hok] at hcm
          rw [hcm] at hY; dsimp only at hY; subst hY
          rw [map_error, thK_error] at hk; unfold fltV at hk
          simp only [ec] at hk
          have hno : ¬ (o1 = true ∧ o2 = true) := fun h => hok ⟨L1.symm.trans h.1, R1.symm.trans h.2⟩
          cases o1 <;> cases o2 <;> first | exact absurd ⟨rfl, rfl⟩ hno | skip
          all_goals
            simp -dsimp -implicitDefEqProofs only [S54, S54_0, S54r1, S54_1, S54r2, S54_2, S54r3, S54_3, S54r4, S54_4, S54r5, S54_5, S54r6, S54_6, S54r7, S54_7, S54r8, S54_8, S54r9, S54_9, S54r10, S54_10, S54r11, S54_11, S54r12, S54_12, S54r13, S54_13, S54r14, R54, hx, hix, e1, hk0, hts, hts2, w1, w2, w3, hsL, hsR, impF, CNextP, CStop, CIdxV, CSide, tri, CMark_wp, mkIn_rows, mkK, fltV, Ev.panK, thC_wp, thK_ok, thK_error, map_ok, map_error, strA, unStr_rows, strRows_len, mkRows_nil', ↓Ev.P, Ev.Q, Bool.cond_true, Bool.cond_false, eq_self, forall_eq_or_imp, implies_true, forall_const, forall_eq, ↓reduceIte, reduceIte, Nat.reduceEqDiff, Nat.reduceAdd, reduceCtorEq, Nat.reduceSub, Int.reduceToNat, Int.reduceLE, Int.reduceLT, Int.reduceNeg, Nat.reduceBEq, Nat.reduceMul, Nat.reduceLeDiff, Nat.reduceMod, UInt8.reduceOfNat, Nat.reduceLT, Int.reduceEq, Int.reduceAdd, Int.reduceSub, Int.reduceMul]
            repeat' (first | with_reducible assumption | refine And.intro ?_ ?_ | intro _ | (rw [Ev.xStp_eq]; simp -dsimp -implicitDefEqProofs only [S54, S54_0, S54r1, S54_1, S54r2, S54_2, S54r3, S54_3, S54r4, S54_4, S54r5, S54_5, S54r6, S54_6, S54r7, S54_7, S54r8, S54_8, S54r9, S54_9, S54r10, S54_10, S54r11, S54_11, S54r12, S54_12, S54r13, S54_13, S54r14, R54, hx, hix, e1, hk0, hts, hts2, w1, w2, w3, hsL, hsR, impF, CNextP, CStop, CIdxV, CSide, tri, CMark_wp, mkIn_rows, mkK, fltV, Ev.panK, thC_wp, thK_ok, thK_error, map_ok, map_error, strA, unStr_rows, strRows_len, mkRows_nil', ↓Ev.P, Ev.Q, Bool.cond_true, Bool.cond_false, eq_self, forall_eq_or_imp, implies_true, forall_const, forall_eq, ↓reduceIte, reduceIte, Nat.reduceEqDiff, Nat.reduceAdd, reduceCtorEq, Nat.reduceSub, Int.reduceToNat, Int.reduceLE, Int.reduceLT, Int.reduceNeg, Nat.reduceBEq, Nat.reduceMul, Nat.reduceLeDiff, Nat.reduceMod, UInt8.reduceOfNat, Nat.reduceLT, Int.reduceEq, Int.reduceAdd, Int.reduceSub, Int.reduceMul]))
            all_goals try omega
            all_goals exact hk
    · have hix : (if fstV s < s.length then (fstV s : Int) else -1) = -1 := if_neg hf
      have hcm : cmdN s = none := if_neg hf
      rw [hcm] at hY; dsimp only at hY; subst hY
      rw [map_error, thK_error] at hk; unfold fltV at hk
      simp only [ec] at hk
      simp -dsimp -implicitDefEqProofs only [S54, S54_0, S54r1, S54_1, S54r2, S54_2, S54r3, S54_3, S54r4, S54_4, S54r5, S54_5, S54r6, S54_6, S54r7, S54_7, S54r8, S54_8, S54r9, S54_9, S54r10, S54_10, S54r11, S54_11, S54r12, S54_12, S54r13, S54_13, S54r14, R54, hx, hix, impF, CNextP, CStop, CIdxV, CSide, tri, CMark_wp, mkIn_rows, mkK, fltV, Ev.panK, thC_wp, thK_ok, thK_error, map_ok, map_error, strA, unStr_rows, strRows_len, mkRows_nil', ↓Ev.P, Ev.Q, Bool.cond_true, Bool.cond_false, eq_self, forall_eq_or_imp, implies_true, forall_const, forall_eq, ↓reduceIte, reduceIte, Nat.reduceEqDiff, Nat.reduceAdd, reduceCtorEq, Nat.reduceSub, Int.reduceToNat, Int.reduceLE, Int.reduceLT, Int.reduceNeg, Nat.reduceBEq, Nat.reduceMul, Nat.reduceLeDiff, Nat.reduceMod, UInt8.reduceOfNat, Nat.reduceLT, Int.reduceEq, Int.reduceAdd, Int.reduceSub, Int.reduceMul]
      repeat' (first | with_reducible assumption | refine And.intro ?_ ?_ | intro _ | (rw [Ev.xStp_eq]; simp -dsimp -implicitDefEqProofs only [S54, S54_0, S54r1, S54_1, S54r2, S54_2, S54r3, S54_3, S54r4, S54_4, S54r5, S54_5, S54r6, S54_6, S54r7, S54_7, S54r8, S54_8, S54r9, S54_9, S54r10, S54_10, S54r11, S54_11, S54r12, S54_12, S54r13, S54_13, S54r14, R54, hx, hix, impF, CNextP, CStop, CIdxV, CSide, tri, CMark_wp, mkIn_rows, mkK, fltV, Ev.panK, thC_wp, thK_ok, thK_error, map_ok, map_error, strA, unStr_rows, strRows_len, mkRows_nil', ↓Ev.P, Ev.Q, Bool.cond_true, Bool.cond_false, eq_self, forall_eq_or_imp, implies_true, forall_const, forall_eq, ↓reduceIte, reduceIte, Nat.reduceEqDiff, Nat.reduceAdd, reduceCtorEq, Nat.reduceSub, Int.reduceToNat, Int.reduceLE, Int.reduceLT, Int.reduceNeg, Nat.reduceBEq, Nat.reduceMul, Nat.reduceLeDiff, Nat.reduceMod, UInt8.reduceOfNat, Nat.reduceLT, Int.reduceEq, Int.reduceAdd, Int.reduceSub, Int.reduceMul]))
      all_goals try omega
      all_goals exact hk
end Go.Proofs.YtlghobefhmpfkaaGreatDoor
set_option linter.unusedVariables false
set_option linter.unusedSimpArgs false
namespace Go.Proofs.YtlghobefhmpfkaaGreatDoor
open Go Go.Ev Go.Rcs
set_option maxRecDepth 100000
variable {G : World → Prop}
def feedE (L : List (List UInt8)) : Prop := ∀ x ∈ L, ∀ k, k + 1 < x.length → x.getD k 0 ≠ 10
theorem bare_no {x : List UInt8} (h : ∀ k, k + 1 < x.length → x.getD k 0 ≠ 10) (hb : (bareS x).2 = true) : 10 ∉ (bareS x).1 := by
  unfold bareS at hb ⊢
  split at hb
  · rename_i hl
    rw [if_pos hl]
    intro hm
    obtain ⟨k, hk, e⟩ := List.mem_iff_getElem.1 hm
    simp only [List.length_dropLast] at hk
    refine h k (by omega) ?_
    rw [List.getElem_dropLast] at e
    rw [List.getD_eq_getElem?_getD, List.getElem?_eq_getElem (by omega), Option.getD_some]
    exact e
  · cases hb
theorem cut_sub {p s : List UInt8} {c : UInt8} (h : c ∉ s) : c ∉ (cutPre p s).1 := by
  unfold cutPre
  split
  · exact fun hm => h (List.mem_of_mem_drop hm)
  · exact h
theorem oneL_good {p : List UInt8} {L : List (List UInt8)} {last : Bool} {k a : Nat} {w : List UInt8} (hL : feedE L) (h : oneL p L last k = .ok (w, a)) : (lineQ w).1 = true ∧ ((lineQ w).2 = true ∨ last = true) := by
  unfold oneL at h
  split at h
  · cases h
  · rename_i s a1 hx
    have h10 : 10 ∉ s := by
      unfold nextL at hx
      split at hx
      · rename_i hlt
        split at hx
        · rename_i hb
          simp only [Except.ok.injEq, Prod.mk.injEq] at hx
          rw [← hx.1]
          refine bare_no (hL _ ?_) hb
          rw [List.getD_eq_getElem?_getD, List.getElem?_eq_getElem hlt, Option.getD_some]
          exact List.getElem_mem hlt
        · cases hx
      · cases hx
    have ht := cut_sub (p := p) h10
    split at h
    · generalize (cutPre p s).1 = t at h ht
      split at h
      · rename_i hc
        split at h
        · cases h
        · rename_i hne
          simp only [Except.ok.injEq, Prod.mk.injEq] at h
          rw [← h.1]
          refine ⟨?_, .inr hc.1⟩
          rw [lineQ, if_neg]
          rintro (e | e)
          · exact hne e
          · exact ht (List.dropLast_subset _ e)
      · simp only [Except.ok.injEq, Prod.mk.injEq] at h
        rw [← h.1]
        have : lineQ (t ++ [10]) = (true, true) := by
          rw [lineQ, if_neg]
          · simp
          · rintro (e | e)
            · simp at e
            · simp at e; exact ht e
        rw [this]
        exact ⟨rfl, .inl rfl⟩
    · cases h
def okRM : List Mk → Prop
  | [] => True
  | m :: r => ((lineQ m.2).1 = true ∧ ((lineQ m.2).2 = true ∨ r = [])) ∧ okRM r
theorem mkL_good (p : List UInt8) (sg : Int) {L : List (List UInt8)} (hL : feedE L) : ∀ (n at_ : Nat) (acc ms : List Mk) (a : Nat), mkL p sg L n at_ acc = .ok (ms, a) → ∃ l, ms = acc ++ l ∧ l.length = n ∧ (∀ m ∈ l, m.1 = sg) ∧ okRM l
  | 0, at_, acc, ms, a, h => by
    simp only [mkL, Except.ok.injEq, Prod.mk.injEq] at h
    exact ⟨[], by simp [h.1], rfl, by simp, trivial⟩
  | n + 1, at_, acc, ms, a, h => by
    simp only [mkL] at h
    split at h
    · cases h
    · rename_i t a1 hx
      obtain ⟨h1, h2⟩ := oneL_good hL hx
      obtain ⟨l, e1, e2, e3, e4⟩ := mkL_good p sg hL n a1 _ ms a h
      refine ⟨(sg, t) :: l, by rw [e1]; simp, by simp [e2], ?_, ⟨⟨h1, h2.imp_right fun e => ?_⟩, e4⟩⟩
      · intro m hm
        rcases List.mem_cons.1 hm with rfl | hm
        · rfl
        · exact e3 m hm
      · have : n = 0 := by simpa using e
        exact List.length_eq_zero_iff.1 (by omega)
theorem any_none {f : Mk → Bool} {l : List Mk} (h : ∀ m ∈ l, f m = false) : l.any f = false := by
  rw [List.any_eq_false]; intro m hm; rw [h m hm]; decide
theorem fields_new : ∀ l : List Mk, (∀ m ∈ l, m.1 = 43) → okRM l → fieldsT l = true
  | [], _, _ => rfl
  | m :: r, hs, ⟨⟨h1, h2⟩, h3⟩ => by
    have hm := hs m (by simp)
    have hN : isN m = true := by simp [isN, hm]
    have hO : isO m = false := by simp [isO, hm]
    rw [fieldsT, fields_new r (fun x hx => hs x (List.mem_cons_of_mem _ hx)) h3, okAt, h1, hN, hO]
    rcases h2 with h2 | rfl
    · rw [h2]; rfl
    · simp
theorem fields_old {l2 : List Mk} (hs2 : ∀ m ∈ l2, m.1 = 43) (h2' : okRM l2) : ∀ l : List Mk, (∀ m ∈ l, m.1 = 45) → okRM l → fieldsT (l ++ l2) = true
  | [], _, _ => fields_new l2 hs2 h2'
  | m :: r, hs, ⟨⟨h1, h2⟩, h3⟩ => by
    have hm := hs m (by simp)
    have hN : isN m = false := by simp [isN, hm]
    have hO : isO m = true := by simp [isO, hm]
    rw [List.cons_append, fieldsT, fields_old hs2 h2' r (fun x hx => hs x (List.mem_cons_of_mem _ hx)) h3, okAt, h1, hN, hO]
    rcases h2 with h2 | rfl
    · rw [h2]; rfl
    · rw [List.nil_append, any_none (f := isO) (fun m hm => by simp [isO, hs2 m hm])]
      simp
theorem pick_two {l1 l2 : List Mk} (h1 : ∀ m ∈ l1, m.1 = 45) (h2 : ∀ m ∈ l2, m.1 = 43) : (pickT 45 (l1 ++ l2)).length = l1.length ∧ (pickT 43 (l1 ++ l2)).length = l2.length := by
  have f1 : l1.filter (fun m => decide (m.1 = 45) || decide (m.1 = 32)) = l1 := List.filter_eq_self.2 fun m hm => by simp [h1 m hm]
  have f2 : l2.filter (fun m => decide (m.1 = 45) || decide (m.1 = 32)) = [] := List.filter_eq_nil_iff.2 fun m hm => by simp [h2 m hm]
  have f3 : l1.filter (fun m => decide (m.1 = 43) || decide (m.1 = 32)) = [] := List.filter_eq_nil_iff.2 fun m hm => by simp [h1 m hm]
  have f4 : l2.filter (fun m => decide (m.1 = 43) || decide (m.1 = 32)) = l2 := List.filter_eq_self.2 fun m hm => by simp [h2 m hm]
  unfold pickT
  rw [List.length_map, List.length_map, List.filter_append, List.filter_append, f1, f2, f3, f4]
  simp
theorem sevL_all {s : List UInt8} (h : (sevL s).2 = true) : 1 ≤ (sevL s).1.1 ∧ (sevL s).1.1 ≤ 2147483647 := by
  unfold sevL at h ⊢
  split at h
  · have b := parseS_bd s
    simp only [decide_eq_true_eq] at h
    dsimp only
    omega
  · rename_i p q e
    have b1 := parseS_bd p
    simp only [decide_eq_true_eq] at h
    dsimp only
    omega
theorem lefT_all {s : List UInt8} {k : Nat} (h : (lefT s k).2 = true) : 0 ≤ (lefT s k).1.1 ∧ (lefT s k).1.1 ≤ 2147483647 ∧ (0 < (lefT s k).1.2 → ¬ (lefT s k).1.1 = 0) := by
  unfold lefT at h ⊢
  by_cases e : s.getD k 0 = 97
  · rw [if_pos e]
    have b := parseS_bd (s.take k)
    exact ⟨b.1, b.2, fun h => by simp at h⟩
  · rw [if_neg e] at h ⊢
    have b := sevL_all h
    exact ⟨by omega, b.2, fun _ => by omega⟩
theorem rigT_all {s : List UInt8} {k : Nat} (h : (rigT s k).2 = true) : 0 ≤ (rigT s k).1.1 ∧ (rigT s k).1.1 ≤ 2147483647 ∧ (0 < (rigT s k).1.2 → ¬ (rigT s k).1.1 = 0) := by
  unfold rigT at h ⊢
  by_cases e : s.getD k 0 = 100
  · rw [if_pos e]
    have b := parseS_bd (s.drop (k + 1))
    exact ⟨b.1, b.2, fun h => by simp at h⟩
  · rw [if_neg e] at h ⊢
    have b := sevL_all h
    exact ⟨by omega, b.2, fun _ => by omega⟩
theorem cnt_inN {n : Int} (h : 0 ≤ n ∧ n ≤ 2147483647) : cntB n = true := by simpa [cntB] using h
theorem hkChk_zero {A AN B BN : Int} {l1 l2 : List Mk} (hA : 0 ≤ A ∧ A ≤ 2147483647) (hAN : 0 ≤ AN ∧ AN ≤ 2147483647) (hB : 0 ≤ B ∧ B ≤ 2147483647) (hBN : 0 ≤ BN ∧ BN ≤ 2147483647) (a0 : 0 < AN → ¬ A = 0) (b0 : 0 < BN → ¬ B = 0)
    (h1 : ∀ m ∈ l1, m.1 = 45) (h2 : ∀ m ∈ l2, m.1 = 43) (o1 : okRM l1) (o2 : okRM l2) (e1 : (l1.length : Int) = AN) (e2 : (l2.length : Int) = BN) (hz : 0 < AN ∨ 0 < BN) : hkChk A AN B BN (l1 ++ l2) = 0 := by
  have c := cnt_inN hA
  have c2 := cnt_inN hAN
  have c3 := cnt_inN hB
  have c4 := cnt_inN hBN
  obtain ⟨p1, p2⟩ := pick_two h1 h2
  have hne : (l1 ++ l2).any chgM = true := by
    cases l1 with
    | cons m r =>
      have := h1 m (by simp)
      simp [chgM, this]
    | nil => cases l2 with
      | cons m r =>
        have := h2 m (by simp)
        simp [chgM, this]
      | nil => simp at e1 e2; omega
  unfold hkChk
  rw [if_neg, if_neg (by rw [fields_old h2 o2 l1 h1 o1]; decide), if_neg, if_neg (by rw [hne]; decide)]
  · rw [p1, p2]; omega
  · rw [c, c2, c3, c4]
    simp only [Bool.true_eq_false, false_or]
    rintro (⟨h, h'⟩ | ⟨h, h'⟩)
    · exact a0 h' h
    · exact b0 h' h
theorem hkN_good {L : List (List UInt8)} (hL : feedE L) {ahead : Int} {k a : Nat} {h : Hk} (e : hkN L ahead k = .ok (h, a)) : chkH h = 0 := by
  unfold hkN at e
  split at e
  · cases e
  · rename_i s a1 e1
    split at e
    · cases e
    · rename_i c e2
      split at e
      · cases e
      · unfold cmdN at e2
        split at e2
        · rename_i hf
          split at e2
          · rename_i hlr
            simp only [Option.some.injEq] at e2
            subst e2
            have v := fstV_is hf
            obtain ⟨l1, l2⟩ := lefT_bd hlr.1
            obtain ⟨r1, r2⟩ := rigT_bd hlr.2
            have la := lefT_all hlr.1
            have ra := rigT_all hlr.2
            unfold hkL at e
            split at e
            · cases e
            · rename_i m1 a2 e3
              split at e
              · cases e
              · split at e
                · cases e
                · rename_i m2 a4 e5
                  simp only [Except.ok.injEq, Prod.mk.injEq] at e
                  obtain ⟨q1, z1, z2, z3, z4⟩ := mkL_good _ _ hL _ _ _ _ _ e3
                  obtain ⟨q2, y1, y2, y3, y4⟩ := mkL_good _ _ hL _ _ _ _ _ e5
                  rw [← e.1]
                  unfold chkH
                  dsimp only
                  rw [y1, z1, List.nil_append]
                  dsimp only at z2 y2
                  generalize s.getD (fstV s) 0 = vb at v l1 l2 r1 r2
                  generalize (lefT s (fstV s)).1 = x at *
                  generalize (rigT s (fstV s)).1 = y at *
                  have d1 : 0 ≤ x.2 ∧ x.2 ≤ 2147483647 := by
                    by_cases hv : vb = 97
                    · rw [l1 hv]; decide
                    · have := l2 hv; omega
                  have d2 : 0 ≤ y.2 ∧ y.2 ≤ 2147483647 := by
                    by_cases hv : vb = 100
                    · rw [r1 hv]; decide
                    · have := r2 hv; omega
                  refine hkChk_zero ⟨la.1, la.2.1⟩ d1 ⟨ra.1, ra.2.1⟩ d2 la.2.2 ra.2.2 z3 y3 z4 y4 (by omega) (by omega) ?_
                  by_cases hv : vb = 97
                  · have := r2 (by rw [hv]; decide)
                    omega
                  · have := l2 hv
                    omega
          · cases e2
        · cases e2
theorem pN_good {L : List (List UInt8)} (hL : feedE L) : ∀ (n at_ : Nat) (hs hh : List Hk), pN L n at_ hs = .ok hh → (∀ h ∈ hs, chkH h = 0) → ∀ h ∈ hh, chkH h = 0
  | 0, at_, hs, hh, e, h0 => by
    simp only [pN, Except.ok.injEq] at e
    rw [← e]; exact h0
  | n + 1, at_, hs, hh, e, h0 => by
    rw [pN] at e
    split at e
    · split at e
      · cases e
      · rename_i h a hx
        refine pN_good hL n a _ hh e fun x hxm => ?_
        rcases List.mem_append.1 hxm with hm | hm
        · exact h0 x hm
        · rw [List.mem_singleton.1 hm]; exact hkN_good hL hx
    · simp only [Except.ok.injEq] at e
      rw [← e]; exact h0
theorem parN_good {s : List UInt8} {hh : List Hk} (e : parN s = .ok hh) : ∀ h ∈ hh, chkH h = 0 := by
  unfold parN at e
  split at e
  · cases e
  · exact pN_good (lns_feed s) _ _ _ _ e (by simp)
end Go.Proofs.YtlghobefhmpfkaaGreatDoor
set_option linter.unusedVariables false
set_option linter.unusedSimpArgs false
namespace Go.Proofs.YtlghobefhmpfkaaGreatDoor
open Go Go.Ev Go.Rcs
set_option maxRecDepth 100000
variable {G : World → Prop}
theorem cut_len (p s : List UInt8) : (cutPre p s).1.length ≤ s.length := by
  unfold cutPre; split <;> simp
theorem oneL_sz {p : List UInt8} {L : List (List UInt8)} {last : Bool} {k a : Nat} {w : List UInt8} (hL : ∀ x ∈ L, x.length ≤ 1048576) (h : oneL p L last k = .ok (w, a)) : w.length ≤ 1048577 := by
  unfold oneL at h
  split at h
  · cases h
  · rename_i s a1 hx
    obtain ⟨_, hlt, hs⟩ := nextL_le hx
    have h1 : s.length ≤ 1048576 := by
      rw [hs]
      refine Nat.le_trans (bare_len _) (hL _ ?_)
      rw [List.getD_eq_getElem?_getD, List.getElem?_eq_getElem hlt, Option.getD_some]
      exact List.getElem_mem hlt
    have h2 := cut_len p s
    split at h
    · split at h
      · split at h
        · cases h
        · simp only [Except.ok.injEq, Prod.mk.injEq] at h
          rw [← h.1]; omega
      · simp only [Except.ok.injEq, Prod.mk.injEq] at h
        rw [← h.1, List.length_append, List.length_singleton]; omega
    · cases h
theorem mkL_sz (p : List UInt8) (sg : Int) {L : List (List UInt8)} (hL : ∀ x ∈ L, x.length ≤ 1048576) : ∀ (n at_ : Nat) (acc ms : List Mk) (a : Nat), mkL p sg L n at_ acc = .ok (ms, a) → (∀ m ∈ acc, m.2.length ≤ 1048577) → ∀ m ∈ ms, m.2.length ≤ 1048577
  | 0, at_, acc, ms, a, h, h0 => by
    simp only [mkL, Except.ok.injEq, Prod.mk.injEq] at h
    rw [← h.1]; exact h0
  | n + 1, at_, acc, ms, a, h, h0 => by
    simp only [mkL] at h
    split at h
    · cases h
    · rename_i t a1 hx
      refine mkL_sz p sg hL n a1 _ ms a h fun m hm => ?_
      rcases List.mem_append.1 hm with hm | hm
      · exact h0 m hm
      · rw [List.mem_singleton.1 hm]; exact oneL_sz hL hx
theorem hkN_sz {L : List (List UInt8)} (hL : ∀ x ∈ L, x.length ≤ 1048576) {ahead : Int} {k a : Nat} {h : Hk} (e : hkN L ahead k = .ok (h, a)) : ∀ m ∈ h.2, m.2.length ≤ 1048577 := by
  unfold hkN at e
  split at e
  · cases e
  · split at e
    · cases e
    · split at e
      · cases e
      · unfold hkL at e
        split at e
        · cases e
        · rename_i m1 a2 e3
          split at e
          · cases e
          · split at e
            · cases e
            · rename_i m2 a4 e5
              simp only [Except.ok.injEq, Prod.mk.injEq] at e
              rw [← e.1]
              exact mkL_sz _ _ hL _ _ _ _ _ e5 (mkL_sz _ _ hL _ _ _ _ _ e3 (by simp))
theorem pN_sz {L : List (List UInt8)} (hL : ∀ x ∈ L, x.length ≤ 1048576) (hl : L.length ≤ 1048576) : ∀ (n at_ : Nat) (hs hh : List Hk), pN L n at_ hs = .ok hh → (hs.length ≤ 4096 ∧ ∀ h ∈ hs, h.2.length ≤ 1048576 ∧ ∀ m ∈ h.2, m.2.length ≤ 1048577) → hh.length ≤ 4096 ∧ ∀ h ∈ hh, h.2.length ≤ 1048576 ∧ ∀ m ∈ h.2, m.2.length ≤ 1048577
  | 0, at_, hs, hh, e, h0 => by
    simp only [pN, Except.ok.injEq] at e
    rw [← e]; exact h0
  | n + 1, at_, hs, hh, e, h0 => by
    rw [pN] at e
    split at e
    · split at e
      · cases e
      · rename_i h a hx
        obtain ⟨b1, b2, b3, b4⟩ := hkN_le hx
        refine pN_sz hL hl n a _ hh e ⟨by rw [List.length_append, List.length_singleton]; omega, fun x hxm => ?_⟩
        rcases List.mem_append.1 hxm with hm | hm
        · exact h0.2 x hm
        · rw [List.mem_singleton.1 hm]; exact ⟨by omega, hkN_sz hL hx⟩
    · simp only [Except.ok.injEq] at e
      rw [← e]; exact h0
theorem parN_sz {s : List UInt8} {hh : List Hk} (e : parN s = .ok hh) : hh.length ≤ 4096 ∧ ∀ h ∈ hh, h.2.length ≤ 1048576 ∧ ∀ m ∈ h.2, m.2.length ≤ 1048577 := by
  unfold parN at e
  split at e
  · cases e
  · rename_i h4
    obtain ⟨h1, h2⟩ := lns_szN s (by omega)
    exact pN_sz h2 h1 _ _ _ _ e ⟨by simp, by simp⟩
theorem parN_smH {s : List UInt8} {hh : List Hk} (e : parN s = .ok hh) : smH hh := by
  obtain ⟨h1, h2⟩ := parN_sz e
  exact ⟨by omega, fun h hm => ⟨by have := (h2 h hm).1; omega, fun m hmm => by have := (h2 h hm).2 m hmm; omega⟩⟩
end Go.Proofs.YtlghobefhmpfkaaGreatDoor
