/- Any patch is written in the unified form, or refused. Part 6 of 6. -/
import Derived.SliceStrings
import Derived.Lib.LaidTab
import Derived.Below
import Derived.ChangeSame
import Derived.ProofKit
import Derived.OpenShut
import Derived.Test.YtpbkdcfjlbdgfaaDoorRows
import Derived.WalkKit
import Derived.Deep.Slices
import Derived.Deep.Fields
import Derived.JoinedCond
import Derived.Test.YtpbkdcfjlbdgfaaDoorCards
import Derived.Test.YtpbkdcfjlbdgfaaDoorTie
import Derived.Deep.DeepHandedRow
import Derived.Stop.LaidErr
import Derived.Test.YtpbkdcfjlbdgfaaDoorMu1
import Derived.Test.YtpbkdcfjlbdgfaaDoorMu2
import Derived.Test.YtpbkdcfjlbdgfaaDoorMu3
import Derived.Test.YtpbkdcfjlbdgfaaDoorMu4
import Derived.Test.YtpbkdcfjlbdgfaaDoorMu5
set_option linter.unusedVariables false
set_option linter.unusedSimpArgs false
namespace Go.Proofs.YtpbkdcfjlbdgfaaDoor
open Go Go.Ev
set_option maxRecDepth 100000
variable {G : World → Prop}
theorem s144 : Sound G Tryd.prog 144 (CBackF 91 172) := by
  refine sd144 (T := tabT []) tab_nil (stC_lawful _) (st_hX fun args st p x st' K h hp hk => ?_)
  split at h <;> simp only [Option.some.injEq, Prod.mk.injEq, reduceCtorEq] at h
  obtain ⟨rfl, rfl, rfl⟩ := h
  refine ⟨Nat.le_of_ble_eq_true rfl, [0], ?_⟩
  simp -dsimp -implicitDefEqProofs only [S144, R144, ↓Ev.xStp_eq, ↓Ev.P, Ev.Q, eq_self, forall_eq_or_imp, implies_true, forall_const, forall_eq, ↓reduceIte, reduceIte, Nat.reduceEqDiff, Nat.reduceAdd, reduceCtorEq, Nat.reduceSub, Int.reduceToNat, Int.reduceLE, Int.reduceLT, Int.reduceNeg, Nat.reduceBEq, Nat.reduceMul, Nat.reduceLeDiff, Nat.reduceMod, UInt8.reduceOfNat, Nat.reduceLT, Int.reduceEq, Int.reduceAdd, Int.reduceSub, Int.reduceMul]
  exact hk
theorem it172 : Sound G Tryd.prog 172 (CBackIt 2) := by
  obtain ⟨b, hb, hc⟩ := bd172
  refine ⟨fun _ _ _ _ h => (nomatch h), fun _ _ _ _ _ _ _ _ h => h.elim, soundIt_of_itv (T := tabT []) fn172 hb nm172 hc (by simp only [Tryd.f172, Option.some.injEq] at hb; subst hb; kernel_rfl) (by kernel_rfl) fun cs p xs h hp => ?_⟩
  simp only [CBackIt, backIt] at h
  split at h <;> simp only [Option.some.injEq, Prod.mk.injEq, reduceCtorEq] at h
  obtain ⟨rfl, rfl⟩ := h
  rename_i rows
  obtain ⟨h1, h2⟩ := hp
  refine ⟨Nat.le_of_ble_eq_true rfl, ?_⟩
  rw [backXs_len]
  simp -dsimp -implicitDefEqProofs only [S172, itv, itOps, itK, itKs, niO, isTk, isPV, ↓Ev.xStp_eq, ↓Ev.P, Ev.Q, eq_self, forall_eq_or_imp, implies_true, forall_const, forall_eq, ↓reduceIte, reduceIte, Nat.reduceEqDiff, Nat.reduceAdd, reduceCtorEq, Nat.reduceSub, Int.reduceToNat, Int.reduceLE, Int.reduceLT, Int.reduceNeg, Nat.reduceBEq, Nat.reduceMul, Nat.reduceLeDiff, Nat.reduceMod, UInt8.reduceOfNat, Nat.reduceLT, Int.reduceEq, Int.reduceAdd, Int.reduceSub, Int.reduceMul]
  refine ⟨by omega, ?_⟩
  refine itLoop_intro (fun n st md => ∃ k : Nat, k ≤ rows.length ∧ md = some k ∧ n = rows.length - k ∧ st = ⟨[(0, .any), (1, .d (.pt [.sl rows])), (3, .d (.v (.int .i64 ((rows.length : Int) - 1 - k))))], 0, []⟩) rows.length ?_ ?_
  · simp -dsimp -implicitDefEqProofs only [↓Ev.xStp_eq, ↓Ev.P, Ev.Q, eq_self, forall_eq_or_imp, implies_true, forall_const, forall_eq, ↓reduceIte, reduceIte, Nat.reduceEqDiff, Nat.reduceAdd, reduceCtorEq, Nat.reduceSub, Int.reduceToNat, Int.reduceLE, Int.reduceLT, Int.reduceNeg, Nat.reduceBEq, Nat.reduceMul, Nat.reduceLeDiff, Nat.reduceMod, UInt8.reduceOfNat, Nat.reduceLT, Int.reduceEq, Int.reduceAdd, Int.reduceSub, Int.reduceMul]
    exact ⟨0, by omega, rfl, by omega, by simp⟩
  · rintro n st md ⟨k, hk, rfl, hn, rfl⟩
    by_cases hkl : k < rows.length
    · have hi : (0 : Int) ≤ (rows.length : Int) - 1 - k := by omega
      have hj : ((rows.length : Int) - 1 - k).toNat = rows.length - 1 - k := by omega
      have hl : rows.length - 1 - k < rows.length := by omega
      have hx := backXs_get hkl
      have hr : rows[rows.length - 1 - k]? = some (rows.getD (rows.length - 1 - k) []) := by simp [List.getD_eq_getElem?_getD, List.getElem?_eq_getElem hl]
      have h4 : (rows.getD (rows.length - 1 - k) []).length = 2 := h2 _ (by rw [List.getD_eq_getElem?_getD, List.getElem?_eq_getElem hl]; exact List.getElem_mem hl)
      have ht : (rows.getD (rows.length - 1 - k) []).take 2 = rows.getD (rows.length - 1 - k) [] := List.take_of_length_le (by omega)
      simp -dsimp -implicitDefEqProofs only [itv, itOps, itK, itKs, niO, isTk, isPV, hi, hj, hr, h4, ht, hx, ↓Ev.xStp_eq, ↓Ev.P, Ev.Q, eq_self, forall_eq_or_imp, implies_true, forall_const, forall_eq, ↓reduceIte, reduceIte, Nat.reduceEqDiff, Nat.reduceAdd, reduceCtorEq, Nat.reduceSub, Int.reduceToNat, Int.reduceLE, Int.reduceLT, Int.reduceNeg, Nat.reduceBEq, Nat.reduceMul, Nat.reduceLeDiff, Nat.reduceMod, UInt8.reduceOfNat, Nat.reduceLT, Int.reduceEq, Int.reduceAdd, Int.reduceSub, Int.reduceMul]
      refine ⟨⟨by omega, itAgain_intro (rows.length - (k + 1)) (by simp) (by omega) ⟨k + 1, by omega, rfl, rfl, ?_⟩⟩, .inr rfl⟩
      simp -dsimp -implicitDefEqProofs only [↓Ev.xStp_eq, ↓Ev.P, Ev.Q, eq_self, forall_eq_or_imp, implies_true, forall_const, forall_eq, ↓reduceIte, reduceIte, Nat.reduceEqDiff, Nat.reduceAdd, reduceCtorEq, Nat.reduceSub, Int.reduceToNat, Int.reduceLE, Int.reduceLT, Int.reduceNeg, Nat.reduceBEq, Nat.reduceMul, Nat.reduceLeDiff, Nat.reduceMod, UInt8.reduceOfNat, Nat.reduceLT, Int.reduceEq, Int.reduceAdd, Int.reduceSub, Int.reduceMul]
      rw [show (rows.length : Int) - 1 - k - 1 = (rows.length : Int) - 1 - ((k + 1 : Nat) : Int) by omega]
    · have hi : ¬ (0 : Int) ≤ (rows.length : Int) - 1 - k := by omega
      simp -dsimp -implicitDefEqProofs only [itv, itOps, itK, itKs, niO, isTk, isPV, hi, ↓Ev.xStp_eq, ↓Ev.P, Ev.Q, eq_self, forall_eq_or_imp, implies_true, forall_const, forall_eq, ↓reduceIte, reduceIte, Nat.reduceEqDiff, Nat.reduceAdd, reduceCtorEq, Nat.reduceSub, Int.reduceToNat, Int.reduceLE, Int.reduceLT, Int.reduceNeg, Nat.reduceBEq, Nat.reduceMul, Nat.reduceLeDiff, Nat.reduceMod, UInt8.reduceOfNat, Nat.reduceLT, Int.reduceEq, Int.reduceAdd, Int.reduceSub, Int.reduceMul]
      exact .inl (by rw [show k = rows.length by omega])
theorem idx10 {s : List UInt8} (h : s ≠ []) : ((0 : Int) ≤ Lib.indexByte s 10 ∧ Lib.indexByte s 10 < (s.length : Int) - 1 ↔ 10 ∈ s.dropLast) ∧ (Lib.indexByte s 10 < 0 ↔ ¬ 10 ∈ s) := by
  have hl : 0 < s.length := List.length_pos_iff.2 h
  have hge := Lib.indexByte_ge s 10
  by_cases h0 : Lib.indexByte s 10 < 0
  · have e : Lib.indexByte s 10 = -1 := by omega
    have hn := Lib.indexByte_none e
    have hm : ¬ (10 : UInt8) ∈ s := fun hm => by
      obtain ⟨k, hk, e⟩ := List.getElem_of_mem hm
      exact hn k (by rw [List.getElem?_eq_getElem hk, e])
    exact ⟨⟨fun h => by omega, fun h => absurd ((List.dropLast_sublist s).subset h) hm⟩, ⟨fun _ => hm, fun _ => h0⟩⟩
  · obtain ⟨o, ho⟩ := Int.eq_ofNat_of_zero_le (show (0 : Int) ≤ Lib.indexByte s 10 by omega)
    obtain ⟨k1, k2⟩ := Lib.indexByte_some ho
    have hol := (List.getElem?_eq_some_iff.1 k1).1
    have hm : (10 : UInt8) ∈ s := List.mem_of_getElem? k1
    rw [ho]
    refine ⟨⟨fun hh => ?_, fun hh => ?_⟩, ⟨fun hh => by omega, fun hh => absurd hm hh⟩⟩
    · have hd : o < s.dropLast.length := by simp; omega
      have : s.dropLast[o] = 10 := by
        rw [List.getElem_dropLast]
        exact (List.getElem?_eq_some_iff.1 k1).2
      rw [← this]; exact List.getElem_mem hd
    · obtain ⟨j, hj, e⟩ := List.getElem_of_mem hh
      simp only [List.length_dropLast] at hj
      rw [List.getElem_dropLast] at e
      have : ¬ j < o := fun hjo => k2 j hjo (by rw [List.getElem?_eq_getElem (by omega), e])
      omega
theorem line10 {s : List UInt8} (h : s ≠ []) (h2 : ¬ 10 ∈ s.dropLast) : lineQ s = (true, decide (10 ∈ s)) := by
  rw [lineQ, if_neg (by rintro (e | e); exact h e; exact h2 e)]
  congr 1
  have hs : s = s.dropLast ++ [s.getLast h] := (List.dropLast_concat_getLast h).symm
  have hg : s.getLast? = some (s.getLast h) := List.getLast?_eq_some_getLast h
  rw [hg]
  by_cases e : s.getLast h = 10
  · have : (10 : UInt8) ∈ s := by rw [← e]; exact List.getLast_mem h
    simp [e, this]
  · have : ¬ (10 : UInt8) ∈ s := fun hm => by
      rw [hs, List.mem_append] at hm
      rcases hm with hm | hm
      · exact h2 hm
      · simp only [List.mem_singleton] at hm; exact e hm.symm
    simp [e, this]
theorem ten8 : (10 : Int).toNat.toUInt8 = 10 := by decide
end Go.Proofs.YtpbkdcfjlbdgfaaDoor
set_option linter.unusedVariables false
set_option linter.unusedSimpArgs false
namespace Go.Proofs.YtpbkdcfjlbdgfaaDoor
open Go Go.Ev
set_option maxRecDepth 100000
variable {G : World → Prop}
theorem ten8b : Nat.toUInt8 10 = (10 : UInt8) := by decide
theorem mk_dropL {l : List Mk} {i : Nat} (h : i < l.length) : l.drop (l.length - (i + 1)) = l.getD (l.length - 1 - i) mk0 :: l.drop (l.length - i) := by
  rw [show l.length - (i + 1) = l.length - 1 - i by omega, mk_drop (by omega), show l.length - 1 - i + 1 = l.length - i by omega]
set_option maxHeartbeats 4000000 in
theorem s110 : Sound G Tryd.prog 110 CFields := by
  refine sd110 (T := tabT [(135, C168), (144, CBackF 91 172), (172, CBackIt 2)])
    (tab_cons s135 (tab_cons s144 (tab_cons it172 tab_nil))) (pureC_lawful _) (pure_hX fun args p x K h hp hk => ?_)
  split at h <;> simp only [Option.map_eq_some_iff, Prod.mk.injEq, reduceCtorEq] at h
  obtain ⟨l, hl, rfl, rfl⟩ := h
  rw [unMk_eq hl] at *
  rename_i A AN B BN rows
  obtain ⟨h1, h2⟩ := hp
  refine ⟨Nat.le_of_ble_eq_true rfl, ?_⟩
  simp -dsimp -implicitDefEqProofs only [S110, R110, CBackF, ↓Ev.xStp_eq, ↓Ev.P, Ev.Q, eq_self, forall_eq_or_imp, implies_true, forall_const, forall_eq, ↓reduceIte, reduceIte, Nat.reduceEqDiff, Nat.reduceAdd, reduceCtorEq, Nat.reduceSub, Int.reduceToNat, Int.reduceLE, Int.reduceLT, Int.reduceNeg, Nat.reduceBEq, Nat.reduceMul, Nat.reduceLeDiff, Nat.reduceMod, UInt8.reduceOfNat, Nat.reduceLT, Int.reduceEq, Int.reduceAdd, Int.reduceSub, Int.reduceMul]
  refine xEach_intro (fun i s => i ≤ l.length ∧ fieldsT (l.drop (l.length - i)) = true ∧ s = ⟨3, [(0, .cells 4 [.d (.v (.bool false))]), (1, .cells 4 [.d (.v (.bool ((l.drop (l.length - i)).any isO)))]), (2, .cells 4 [.d (.v (.bool ((l.drop (l.length - i)).any isN)))])]⟩) [1, 2, 3] rfl rfl ?_ ?_ ?_ ?_ ?_
  · exact ⟨by rw [mkRows_len]; omega, by rw [mkRows_all]; trivial⟩
  · simp -dsimp -implicitDefEqProofs only [↓Ev.xStp_eq, ↓Ev.P, Ev.Q, eq_self, forall_eq_or_imp, implies_true, forall_const, forall_eq, ↓reduceIte, reduceIte, Nat.reduceEqDiff, Nat.reduceAdd, reduceCtorEq, Nat.reduceSub, Int.reduceToNat, Int.reduceLE, Int.reduceLT, Int.reduceNeg, Nat.reduceBEq, Nat.reduceMul, Nat.reduceLeDiff, Nat.reduceMod, UInt8.reduceOfNat, Nat.reduceLT, Int.reduceEq, Int.reduceAdd, Int.reduceSub, Int.reduceMul]
  · refine ⟨by omega, by simp [fieldsT], ?_⟩
    simp -dsimp -implicitDefEqProofs only [↓Ev.xStp_eq, ↓Ev.P, Ev.Q, eq_self, forall_eq_or_imp, implies_true, forall_const, forall_eq, ↓reduceIte, reduceIte, Nat.reduceEqDiff, Nat.reduceAdd, reduceCtorEq, Nat.reduceSub, Int.reduceToNat, Int.reduceLE, Int.reduceLT, Int.reduceNeg, Nat.reduceBEq, Nat.reduceMul, Nat.reduceLeDiff, Nat.reduceMod, UInt8.reduceOfNat, Nat.reduceLT, Int.reduceEq, Int.reduceAdd, Int.reduceSub, Int.reduceMul]
    simp
  · rintro i s x ⟨hi, hf, rfl⟩ hx
    have hil : i < l.length := by
      have := (List.getElem?_eq_some_iff.1 hx).1
      rwa [backXs_len, mkRows_len] at this
    rw [backXs_get (by rw [mkRows_len]; exact hil), mkRows_len] at hx
    simp only [Option.some.injEq] at hx
    subst hx
    refine ⟨rfl, ?_⟩
    have hlt : l.length - 1 - i < l.length := by omega
    have hg2 := mkRows_getD hlt
    have hmx := h2 _ (mk_mem hlt)
    have hdl := mk_dropL hil
    have hbad := fields_bad hlt
    rw [show l.length - 1 - i + 1 = l.length - i by omega] at hbad
    rw [hg2]
    generalize l.getD (l.length - 1 - i) mk0 = m at hmx hdl hbad ⊢
    obtain ⟨c, t⟩ := m
    simp only at hmx
    generalize l.drop (l.length - i) = r at hf hdl hbad ⊢
    have ho : ∀ q1 q2, lineQ t = (q1, q2) → okAt (c, t) r = (q1 && (isO (c, t) || isN (c, t)) && (q2 || !((isO (c, t) && r.any isO) || (isN (c, t) && r.any isN)))) := fun q1 q2 e => by rw [okAt, e]
    have hno : (l.drop (l.length - (i + 1))).any isO = (isO (c, t) || r.any isO) := by rw [hdl, List.any_cons]
    have hnn : (l.drop (l.length - (i + 1))).any isN = (isN (c, t) || r.any isN) := by rw [hdl, List.any_cons]
    have hnf : fieldsT (l.drop (l.length - (i + 1))) = okAt (c, t) r := by rw [hdl, fieldsT, hf, Bool.and_true]
    generalize r.any isO = xo at ho hno ⊢
    generalize r.any isN = xn at ho hnn ⊢
    have hge := Lib.indexByte_ge t 10
    have h10 := fun h => idx10 (s := t) h
    have l10 := fun h h2 => line10 (s := t) h h2
    simp -dsimp -implicitDefEqProofs only [mkRow, C168, ten8, ten8b, ↓Ev.P, Ev.Q, eq_self, forall_eq_or_imp, implies_true, forall_const, forall_eq, ↓reduceIte, reduceIte, Nat.reduceEqDiff, Nat.reduceAdd, reduceCtorEq, Nat.reduceSub, Int.reduceToNat, Int.reduceLE, Int.reduceLT, Int.reduceNeg, Nat.reduceBEq, Nat.reduceMul, Nat.reduceLeDiff, Nat.reduceMod, UInt8.reduceOfNat, Nat.reduceLT, Int.reduceEq, Int.reduceAdd, Int.reduceSub, Int.reduceMul]
    repeat' (first | with_reducible assumption | refine And.intro ?_ ?_ | intro _ | (rw [Ev.xStp_eq]; simp -dsimp -implicitDefEqProofs only [C168, ten8, ten8b, ↓Ev.P, Ev.Q, eq_self, forall_eq_or_imp, implies_true, forall_const, forall_eq, ↓reduceIte, reduceIte, Nat.reduceEqDiff, Nat.reduceAdd, reduceCtorEq, Nat.reduceSub, Int.reduceToNat, Int.reduceLE, Int.reduceLT, Int.reduceNeg, Nat.reduceBEq, Nat.reduceMul, Nat.reduceLeDiff, Nat.reduceMod, UInt8.reduceOfNat, Nat.reduceLT, Int.reduceEq, Int.reduceAdd, Int.reduceSub, Int.reduceMul]))
    all_goals try omega
    · rename_i hh
      have hb : okAt (c, t) r = false := by
        rcases hh with (h | h) | h
        · rcases hq : lineQ t with ⟨q1, q2⟩
          rw [ho q1 q2 hq]
          obtain ⟨⟨e1, e2⟩, -, e3⟩ := h
          simp [isO, isN, e1, e2, e3]
        · rw [ho false false (by rw [h]; rfl)]; rfl
        · by_cases ht : t = []
          · rw [ho false false (by rw [ht]; rfl)]; rfl
          · have := (h10 ht).1.1 h
            rw [ho false false (by rw [lineQ, if_pos (.inr this)])]; rfl
      rw [hbad hb] at hk
      exact hk
    · rename_i hh hh2
      obtain ⟨⟨hc, ht⟩, hnd⟩ := hh
      obtain ⟨hat, hh2⟩ := hh2
      have hd : ¬ (10 : UInt8) ∈ t.dropLast := fun h => by
        obtain ⟨k1, k2⟩ := (h10 ht).1.2 h
        exact hnd.elim (fun e => e k1) (fun e => e k2)
      have hb : okAt (c, t) r = false := by
        rw [ho _ _ (l10 ht hd), decide_eq_false ((h10 ht).2.1 hat)]
        clear ho hno hnn hnf hbad
        rcases hh2 with ⟨(rfl | rfl), e⟩ | ⟨(rfl | rfl), e⟩ <;> rw [e] <;> simp [isO, isN]
      rw [hbad hb] at hk
      exact hk
    · rename_i hh hh2
      obtain ⟨⟨hc, ht⟩, hnd⟩ := hh
      have hd : ¬ (10 : UInt8) ∈ t.dropLast := fun h => by
        obtain ⟨k1, k2⟩ := (h10 ht).1.2 h
        exact hnd.elim (fun e => e k1) (fun e => e k2)
      have hb : okAt (c, t) r = true := by
        rw [ho _ _ (l10 ht hd)]
        have h3 : (10 : UInt8) ∈ t ∨ ((¬c = 32 ∧ ¬c = 45) ∨ xo = false) ∧ ((¬c = 32 ∧ ¬c = 43) ∨ xn = false) := hh2.imp (fun e => Classical.not_not.1 fun hn => e ((h10 ht).2.2 hn)) (fun e => ⟨e.1.elim (fun a => .inl a) .inr, e.2.elim (fun a => .inl a) .inr⟩)
        clear ho hno hnn hnf hbad hh2
        generalize hm : decide ((10 : UInt8) ∈ t) = b10
        have h4 : b10 = true ∨ ((¬c = 32 ∧ ¬c = 45) ∨ xo = false) ∧ ((¬c = 32 ∧ ¬c = 43) ∨ xn = false) := h3.imp (fun e => by rw [← hm]; exact decide_eq_true e) id
        clear h3 hm
        rcases hc with (rfl | rfl) | (rfl | rfl) <;> cases b10 <;> cases xo <;> cases xn <;> simp [isO, isN] at h4 ⊢
      refine xOnce_intro [0, 1, 2] (by simp -dsimp -implicitDefEqProofs only [↓Ev.xStp_eq, ↓Ev.P, Ev.Q, eq_self, forall_eq_or_imp, implies_true, forall_const, forall_eq, ↓reduceIte, reduceIte, Nat.reduceEqDiff, Nat.reduceAdd, reduceCtorEq, Nat.reduceSub, Int.reduceToNat, Int.reduceLE, Int.reduceLT, Int.reduceNeg, Nat.reduceBEq, Nat.reduceMul, Nat.reduceLeDiff, Nat.reduceMod, UInt8.reduceOfNat, Nat.reduceLT, Int.reduceEq, Int.reduceAdd, Int.reduceSub, Int.reduceMul]) ⟨by omega, by rw [hnf, hb], ?_⟩
      rw [hno, hnn]
      simp -dsimp -implicitDefEqProofs only [↓Ev.xStp_eq, ↓Ev.P, Ev.Q, eq_self, forall_eq_or_imp, implies_true, forall_const, forall_eq, ↓reduceIte, reduceIte, Nat.reduceEqDiff, Nat.reduceAdd, reduceCtorEq, Nat.reduceSub, Int.reduceToNat, Int.reduceLE, Int.reduceLT, Int.reduceNeg, Nat.reduceBEq, Nat.reduceMul, Nat.reduceLeDiff, Nat.reduceMod, UInt8.reduceOfNat, Nat.reduceLT, Int.reduceEq, Int.reduceAdd, Int.reduceSub, Int.reduceMul]
      simp only [isO, isN]
      rw [Bool.or_comm xo, Bool.or_comm xn]
  · rintro s ⟨hi, hf, rfl⟩
    rw [backXs_len, mkRows_len, Nat.sub_self, List.drop_zero] at hf
    rw [hf] at hk
    simp -dsimp -implicitDefEqProofs only [↓Ev.xStp_eq, ↓Ev.P, Ev.Q, eq_self, forall_eq_or_imp, implies_true, forall_const, forall_eq, ↓reduceIte, reduceIte, Nat.reduceEqDiff, Nat.reduceAdd, reduceCtorEq, Nat.reduceSub, Int.reduceToNat, Int.reduceLE, Int.reduceLT, Int.reduceNeg, Nat.reduceBEq, Nat.reduceMul, Nat.reduceLeDiff, Nat.reduceMod, UInt8.reduceOfNat, Nat.reduceLT, Int.reduceEq, Int.reduceAdd, Int.reduceSub, Int.reduceMul]
    exact hk
end Go.Proofs.YtpbkdcfjlbdgfaaDoor
set_option linter.unusedVariables false
set_option linter.unusedSimpArgs false
namespace Go.Proofs.YtpbkdcfjlbdgfaaDoor
open Go Go.Ev
set_option maxRecDepth 100000
variable {G : World → Prop}
/-- The first line that a test takes. -/
def firstM (f : Mk → Bool) (l : List Mk) : Int := match l.findIdx? f with
  | some i => i
  | none => -1
theorem first_hit {f : Mk → Bool} {l : List Mk} {i : Nat} (h : i < l.length) (hn : ∀ j, j < i → f (l.getD j mk0) = false) (hy : f (l.getD i mk0) = true) : firstM f l = i := by
  have : l.findIdx? f = some i := by
    rw [List.findIdx?_eq_some_iff_getElem]
    refine ⟨h, ?_, fun j hj => ?_⟩
    · rw [List.getD_eq_getElem?_getD, List.getElem?_eq_getElem h] at hy; exact hy
    · have := hn j hj
      rw [List.getD_eq_getElem?_getD, List.getElem?_eq_getElem (by omega)] at this
      simpa using this
  rw [firstM, this]
theorem first_miss {f : Mk → Bool} {l : List Mk} (hn : ∀ j, j < l.length → f (l.getD j mk0) = false) : firstM f l = -1 := by
  have : l.findIdx? f = none := by
    rw [List.findIdx?_eq_none_iff]
    intro x hx
    obtain ⟨j, hj, e⟩ := List.getElem_of_mem hx
    have := hn j hj
    rw [List.getD_eq_getElem?_getD, List.getElem?_eq_getElem hj] at this
    simpa [e] using this
  rw [firstM, this]
theorem first_any (f : Mk → Bool) (l : List Mk) : decide (0 ≤ firstM f l) = l.any f := by
  rw [firstM]
  cases e : l.findIdx? f with
  | none =>
    rw [List.findIdx?_eq_none_iff] at e
    have : l.any f = false := by
      rw [List.any_eq_false]
      intro x hx; simpa using e x hx
    rw [this]; decide
  | some i =>
    rw [List.findIdx?_eq_some_iff_getElem] at e
    obtain ⟨h, e, _⟩ := e
    have : l.any f = true := List.any_eq_true.2 ⟨_, List.getElem_mem h, e⟩
    rw [this]; simp
def chgM (m : Mk) : Bool := !decide (m.1 = 32)
def sgnM (s : Int) (m : Mk) : Bool := decide (m.1 = s)
def CChg : Contract := pureC fun args => match args with
  | [.agg [.d (.v (.int .u8 c)), .d (.v (.string t))]] => some (True, .d (.v (.bool (chgM (c, t.data.toList)))))
  | _ => none
theorem s108 : Sound G Tryd.prog 108 CChg := by
  refine sd108 (T := tabT []) tab_nil (pureC_lawful _) (pure_hX fun args p x K h hp hk => ?_)
  split at h <;> simp only [Option.some.injEq, Prod.mk.injEq, reduceCtorEq] at h
  obtain ⟨rfl, rfl⟩ := h
  refine ⟨Nat.le_of_ble_eq_true rfl, ?_⟩
  simp -dsimp -implicitDefEqProofs only [S108, R108, ↓Ev.xStp_eq, ↓Ev.P, Ev.Q, eq_self, forall_eq_or_imp, implies_true, forall_const, forall_eq, ↓reduceIte, reduceIte, Nat.reduceEqDiff, Nat.reduceAdd, reduceCtorEq, Nat.reduceSub, Int.reduceToNat, Int.reduceLE, Int.reduceLT, Int.reduceNeg, Nat.reduceBEq, Nat.reduceMul, Nat.reduceLeDiff, Nat.reduceMod, UInt8.reduceOfNat, Nat.reduceLT, Int.reduceEq, Int.reduceAdd, Int.reduceSub, Int.reduceMul]
  exact hk
def CIdxF : Contract := stC fun args st => match args, st with
  | [.d (.sl rows), .fn 108 []], ⟨0, []⟩ => (unMk rows).map fun l => (l.length ≤ 1099511627776, .d (.v (.int .i64 (firstM chgM l))), ⟨0, []⟩)
  | _, _ => none
def CCtF : Contract := stC fun args st => match args, st with
  | [.d (.sl rows), .fn 108 []], ⟨0, []⟩ => (unMk rows).map fun l => (l.length ≤ 1099511627776, .d (.v (.bool (l.any chgM))), ⟨0, []⟩)
  | _, _ => none
theorem s146 : Sound G Tryd.prog 146 CIdxF := by
  refine sd146 (T := tabT [(108, CChg)]) (tab_cons s108 tab_nil) (stC_lawful _) (st_hX fun args st p x st' K h hp hk => ?_)
  split at h <;> simp only [Option.map_eq_some_iff, Prod.mk.injEq, reduceCtorEq] at h
  obtain ⟨l, hl, rfl, rfl, rfl⟩ := h
  rw [unMk_eq hl] at *
  refine ⟨Nat.le_of_ble_eq_true rfl, [], ?_⟩
  simp -dsimp -implicitDefEqProofs only [S146, R146, mkRows_len, ↓Ev.xStp_eq, ↓Ev.P, Ev.Q, eq_self, forall_eq_or_imp, implies_true, forall_const, forall_eq, ↓reduceIte, reduceIte, Nat.reduceEqDiff, Nat.reduceAdd, reduceCtorEq, Nat.reduceSub, Int.reduceToNat, Int.reduceLE, Int.reduceLT, Int.reduceNeg, Nat.reduceBEq, Nat.reduceMul, Nat.reduceLeDiff, Nat.reduceMod, UInt8.reduceOfNat, Nat.reduceLT, Int.reduceEq, Int.reduceAdd, Int.reduceSub, Int.reduceMul]
  refine xLoop_intro (fun n st => ∃ i : Nat, i ≤ l.length ∧ n = l.length - i ∧ (∀ j, j < i → chgM (l.getD j mk0) = false) ∧
      st = ⟨[(0, .d (.sl (mkRows l))), (1, .fn 108 []), (7, .d (.v (.int .i64 l.length))), (8, .d (.v (.int .i64 i)))], 0, []⟩) l.length [] ?_ ?_ ?_
  · simp -dsimp -implicitDefEqProofs only [↓Ev.xStp_eq, ↓Ev.P, Ev.Q, eq_self, forall_eq_or_imp, implies_true, forall_const, forall_eq, ↓reduceIte, reduceIte, Nat.reduceEqDiff, Nat.reduceAdd, reduceCtorEq, Nat.reduceSub, Int.reduceToNat, Int.reduceLE, Int.reduceLT, Int.reduceNeg, Nat.reduceBEq, Nat.reduceMul, Nat.reduceLeDiff, Nat.reduceMod, UInt8.reduceOfNat, Nat.reduceLT, Int.reduceEq, Int.reduceAdd, Int.reduceSub, Int.reduceMul]
  · simp -dsimp -implicitDefEqProofs only [↓Ev.xStp_eq, ↓Ev.P, Ev.Q, eq_self, forall_eq_or_imp, implies_true, forall_const, forall_eq, ↓reduceIte, reduceIte, Nat.reduceEqDiff, Nat.reduceAdd, reduceCtorEq, Nat.reduceSub, Int.reduceToNat, Int.reduceLE, Int.reduceLT, Int.reduceNeg, Nat.reduceBEq, Nat.reduceMul, Nat.reduceLeDiff, Nat.reduceMod, UInt8.reduceOfNat, Nat.reduceLT, Int.reduceEq, Int.reduceAdd, Int.reduceSub, Int.reduceMul]
    exact ⟨0, by omega, by omega, fun _ h => by omega, rfl⟩
  · rintro n st ⟨i, hi, hn, hj, rfl⟩
    by_cases hil : i < l.length
    · have hi3 : (i : Int) < l.length := by omega
      have hg := mkRows_get hil
      have hx := fun hy => first_hit (f := chgM) hil hj hy
      have hj2 : chgM (l.getD i mk0) = false → ∀ j, j < i + 1 → chgM (l.getD j mk0) = false := fun h j hji => by
        by_cases e : j = i
        · subst e; exact h
        · exact hj j (by omega)
      generalize l.getD i mk0 = m at hg hx hj2
      obtain ⟨c, t⟩ := m
      simp -dsimp -implicitDefEqProofs only [hg, hi3, mkRow, CChg, Ev.St.giveC, ↓Ev.xStp_eq, ↓Ev.P, Ev.Q, eq_self, forall_eq_or_imp, implies_true, forall_const, forall_eq, ↓reduceIte, reduceIte, Nat.reduceEqDiff, Nat.reduceAdd, reduceCtorEq, Nat.reduceSub, Int.reduceToNat, Int.reduceLE, Int.reduceLT, Int.reduceNeg, Nat.reduceBEq, Nat.reduceMul, Nat.reduceLeDiff, Nat.reduceMod, UInt8.reduceOfNat, Nat.reduceLT, Int.reduceEq, Int.reduceAdd, Int.reduceSub, Int.reduceMul]
      repeat' (first | with_reducible assumption | refine And.intro ?_ ?_ | intro _)
      all_goals try omega
      · rename_i hc
        rw [hx hc] at hk
        exact hk
      · rename_i hc
        refine xAgain_intro (l.length - (i + 1)) [] (by omega) (by simp -dsimp -implicitDefEqProofs only [↓Ev.xStp_eq, ↓Ev.P, Ev.Q, eq_self, forall_eq_or_imp, implies_true, forall_const, forall_eq, ↓reduceIte, reduceIte, Nat.reduceEqDiff, Nat.reduceAdd, reduceCtorEq, Nat.reduceSub, Int.reduceToNat, Int.reduceLE, Int.reduceLT, Int.reduceNeg, Nat.reduceBEq, Nat.reduceMul, Nat.reduceLeDiff, Nat.reduceMod, UInt8.reduceOfNat, Nat.reduceLT, Int.reduceEq, Int.reduceAdd, Int.reduceSub, Int.reduceMul]) ⟨i + 1, by omega, rfl, hj2 hc, ?_⟩
        simp -dsimp -implicitDefEqProofs only [↓Ev.xStp_eq, ↓Ev.P, Ev.Q, eq_self, forall_eq_or_imp, implies_true, forall_const, forall_eq, ↓reduceIte, reduceIte, Nat.reduceEqDiff, Nat.reduceAdd, reduceCtorEq, Nat.reduceSub, Int.reduceToNat, Int.reduceLE, Int.reduceLT, Int.reduceNeg, Nat.reduceBEq, Nat.reduceMul, Nat.reduceLeDiff, Nat.reduceMod, UInt8.reduceOfNat, Nat.reduceLT, Int.reduceEq, Int.reduceAdd, Int.reduceSub, Int.reduceMul]
        rfl
    · have hi3 : ¬ (i : Int) < l.length := by omega
      simp -dsimp -implicitDefEqProofs only [hi3, ↓Ev.xStp_eq, ↓Ev.P, Ev.Q, eq_self, forall_eq_or_imp, implies_true, forall_const, forall_eq, ↓reduceIte, reduceIte, Nat.reduceEqDiff, Nat.reduceAdd, reduceCtorEq, Nat.reduceSub, Int.reduceToNat, Int.reduceLE, Int.reduceLT, Int.reduceNeg, Nat.reduceBEq, Nat.reduceMul, Nat.reduceLeDiff, Nat.reduceMod, UInt8.reduceOfNat, Nat.reduceLT, Int.reduceEq, Int.reduceAdd, Int.reduceSub, Int.reduceMul]
      rw [first_miss (fun j h => hj j (by omega))] at hk
      exact hk
theorem s113 : Sound G Tryd.prog 113 CCtF := by
  refine sd113 (T := tabT [(146, CIdxF)]) (tab_cons s146 tab_nil) (stC_lawful _) (st_hX fun args st p x st' K h hp hk => ?_)
  split at h <;> simp only [Option.map_eq_some_iff, Prod.mk.injEq, reduceCtorEq] at h
  obtain ⟨l, hl, rfl, rfl, rfl⟩ := h
  rw [unMk_eq hl] at *
  refine ⟨Nat.le_of_ble_eq_true rfl, [], ?_⟩
  simp -dsimp -implicitDefEqProofs only [S113, R113, CIdxF, unMk_rows, ↓Ev.xStp_eq, ↓Ev.P, Ev.Q, eq_self, forall_eq_or_imp, implies_true, forall_const, forall_eq, ↓reduceIte, reduceIte, Nat.reduceEqDiff, Nat.reduceAdd, reduceCtorEq, Nat.reduceSub, Int.reduceToNat, Int.reduceLE, Int.reduceLT, Int.reduceNeg, Nat.reduceBEq, Nat.reduceMul, Nat.reduceLeDiff, Nat.reduceMod, UInt8.reduceOfNat, Nat.reduceLT, Int.reduceEq, Int.reduceAdd, Int.reduceSub, Int.reduceMul]
  rw [first_any]
  exact ⟨hp, hk⟩
/-- What is wrong with a hunk. -/
def hkChk (A AN B BN : Int) (l : List Mk) : Int :=
  if (((((cntB A = false ∨ cntB AN = false) ∨ cntB B = false) ∨ cntB BN = false) ∨ (A = 0 ∧ 0 < AN)) ∨ (B = 0 ∧ 0 < BN)) then 2
  else if fieldsT l = false then 6
  else if ¬ AN = (pickT 45 l).length ∨ ¬ BN = (pickT 43 l).length then 120
  else if l.any chgM = false then 50 else 0
def CHk : Contract := pureC fun args => match args with
  | [.agg [.d (.v (.int .i64 A)), .d (.v (.int .i64 AN)), .d (.v (.int .i64 B)), .d (.v (.int .i64 BN)), .d (.sl rows)]] => (unMk rows).map fun l => (l.length ≤ 1099511627776 ∧ ∀ m ∈ l, m.2.length ≤ 1099511627776, .d (.v (.int .i64 (hkChk A AN B BN l))))
  | _ => none
end Go.Proofs.YtpbkdcfjlbdgfaaDoor
set_option linter.unusedVariables false
set_option linter.unusedSimpArgs false
namespace Go.Proofs.YtpbkdcfjlbdgfaaDoor
open Go Go.Ev
set_option maxRecDepth 100000
variable {G : World → Prop}
theorem cnt_true {n : Int} (h : cntB n = true) : 0 ≤ n ∧ n ≤ 2147483647 := by simpa [cntB] using h
set_option maxHeartbeats 4000000 in
theorem s62 : Sound G Tryd.prog 62 CHk := by
  refine sd62 (T := tabT [(109, CNum), (110, CFields), (111, COld 45), (112, COld 43), (113, CCtF)])
    (tab_cons s109 (tab_cons s110 (tab_cons s111 (tab_cons s112 (tab_cons s113 tab_nil))))) (pureC_lawful _) (pure_hX fun args p x K h hp hk => ?_)
  split at h <;> simp only [Option.map_eq_some_iff, Prod.mk.injEq, reduceCtorEq] at h
  obtain ⟨l, hl, rfl, rfl⟩ := h
  rw [unMk_eq hl] at *
  rename_i A AN B BN rows
  obtain ⟨h1, h2⟩ := hp
  refine ⟨Nat.le_of_ble_eq_true rfl, ?_⟩
  have l1 := pick_len 45 l
  have l2 := pick_len 43 l
  unfold hkChk at hk
  by_cases hn : ((cntB A = true ∧ cntB AN = true) ∧ cntB B = true) ∧ cntB BN = true
  · obtain ⟨⟨⟨e1, e2⟩, e3⟩, e4⟩ := hn
    have c1 := cnt_true e1
    have c2 := cnt_true e2
    have c3 := cnt_true e3
    have c4 := cnt_true e4
    by_cases hm : A < min 1 AN ∨ B < min 1 BN
    · rw [if_pos (by omega)] at hk
      by_cases m1 : A < min 1 AN
      · simp -dsimp -implicitDefEqProofs only [S62, R62, CNum, e1, e2, e3, e4, m1, ↓Ev.P, Ev.Q, eq_self, forall_eq_or_imp, implies_true, forall_const, forall_eq, ↓reduceIte, reduceIte, Nat.reduceEqDiff, Nat.reduceAdd, reduceCtorEq, Nat.reduceSub, Int.reduceToNat, Int.reduceLE, Int.reduceLT, Int.reduceNeg, Nat.reduceBEq, Nat.reduceMul, Nat.reduceLeDiff, Nat.reduceMod, UInt8.reduceOfNat, Nat.reduceLT, Int.reduceEq, Int.reduceAdd, Int.reduceSub, Int.reduceMul]
        repeat' (first | with_reducible assumption | refine And.intro ?_ ?_ | intro _ | (rw [Ev.xStp_eq]; simp -dsimp -implicitDefEqProofs only [CNum, e1, e2, e3, e4, m1, ↓Ev.P, Ev.Q, eq_self, forall_eq_or_imp, implies_true, forall_const, forall_eq, ↓reduceIte, reduceIte, Nat.reduceEqDiff, Nat.reduceAdd, reduceCtorEq, Nat.reduceSub, Int.reduceToNat, Int.reduceLE, Int.reduceLT, Int.reduceNeg, Nat.reduceBEq, Nat.reduceMul, Nat.reduceLeDiff, Nat.reduceMod, UInt8.reduceOfNat, Nat.reduceLT, Int.reduceEq, Int.reduceAdd, Int.reduceSub, Int.reduceMul]))
      · have m2 := hm.resolve_left m1
        simp -dsimp -implicitDefEqProofs only [S62, R62, CNum, e1, e2, e3, e4, m1, m2, ↓Ev.P, Ev.Q, eq_self, forall_eq_or_imp, implies_true, forall_const, forall_eq, ↓reduceIte, reduceIte, Nat.reduceEqDiff, Nat.reduceAdd, reduceCtorEq, Nat.reduceSub, Int.reduceToNat, Int.reduceLE, Int.reduceLT, Int.reduceNeg, Nat.reduceBEq, Nat.reduceMul, Nat.reduceLeDiff, Nat.reduceMod, UInt8.reduceOfNat, Nat.reduceLT, Int.reduceEq, Int.reduceAdd, Int.reduceSub, Int.reduceMul]
        repeat' (first | with_reducible assumption | refine And.intro ?_ ?_ | intro _ | (rw [Ev.xStp_eq]; simp -dsimp -implicitDefEqProofs only [CNum, e1, e2, e3, e4, m1, m2, ↓Ev.P, Ev.Q, eq_self, forall_eq_or_imp, implies_true, forall_const, forall_eq, ↓reduceIte, reduceIte, Nat.reduceEqDiff, Nat.reduceAdd, reduceCtorEq, Nat.reduceSub, Int.reduceToNat, Int.reduceLE, Int.reduceLT, Int.reduceNeg, Nat.reduceBEq, Nat.reduceMul, Nat.reduceLeDiff, Nat.reduceMod, UInt8.reduceOfNat, Nat.reduceLT, Int.reduceEq, Int.reduceAdd, Int.reduceSub, Int.reduceMul]))
    · have m1 : ¬ A < min 1 AN := fun h => hm (.inl h)
      have m2 : ¬ B < min 1 BN := fun h => hm (.inr h)
      rw [if_neg (by rw [e1, e2, e3, e4]; simp; omega)] at hk
      cases hf : fieldsT l with
      | false =>
        rw [if_pos hf] at hk
        simp -dsimp -implicitDefEqProofs only [S62, R62, CNum, e1, e2, e3, e4, m1, m2, ↓Ev.P, Ev.Q, eq_self, forall_eq_or_imp, implies_true, forall_const, forall_eq, ↓reduceIte, reduceIte, Nat.reduceEqDiff, Nat.reduceAdd, reduceCtorEq, Nat.reduceSub, Int.reduceToNat, Int.reduceLE, Int.reduceLT, Int.reduceNeg, Nat.reduceBEq, Nat.reduceMul, Nat.reduceLeDiff, Nat.reduceMod, UInt8.reduceOfNat, Nat.reduceLT, Int.reduceEq, Int.reduceAdd, Int.reduceSub, Int.reduceMul]
        repeat' (first | with_reducible assumption | refine And.intro ?_ ?_ | intro _ | (rw [Ev.xStp_eq]; simp -dsimp -implicitDefEqProofs only [CNum, e1, e2, e3, e4, m1, m2, CFields, unMk_rows, hf, Ev.St.giveC, ↓Ev.P, Ev.Q, eq_self, forall_eq_or_imp, implies_true, forall_const, forall_eq, ↓reduceIte, reduceIte, Nat.reduceEqDiff, Nat.reduceAdd, reduceCtorEq, Nat.reduceSub, Int.reduceToNat, Int.reduceLE, Int.reduceLT, Int.reduceNeg, Nat.reduceBEq, Nat.reduceMul, Nat.reduceLeDiff, Nat.reduceMod, UInt8.reduceOfNat, Nat.reduceLT, Int.reduceEq, Int.reduceAdd, Int.reduceSub, Int.reduceMul]))
      | true =>
        rw [if_neg (by rw [hf]; simp)] at hk
        have ha : l.any chgM = false ∨ l.any chgM = true := by cases l.any chgM <;> simp
        by_cases ho : AN = (pickT 45 l).length
        · by_cases hw : BN = (pickT 43 l).length
          · rw [if_neg (by rintro (h | h); exact h ho; exact h hw)] at hk
            have ho' : (AN = (pickT 45 l).length) = True := eq_true ho
            have hw' : (BN = (pickT 43 l).length) = True := eq_true hw
            rcases ha with ha | ha <;>
            · rw [ha] at hk
              simp only [if_true, Bool.true_eq_false, if_false] at hk
              simp -dsimp -implicitDefEqProofs only [S62, R62, CNum, e1, e2, e3, e4, m1, m2, ↓Ev.P, Ev.Q, eq_self, forall_eq_or_imp, implies_true, forall_const, forall_eq, ↓reduceIte, reduceIte, Nat.reduceEqDiff, Nat.reduceAdd, reduceCtorEq, Nat.reduceSub, Int.reduceToNat, Int.reduceLE, Int.reduceLT, Int.reduceNeg, Nat.reduceBEq, Nat.reduceMul, Nat.reduceLeDiff, Nat.reduceMod, UInt8.reduceOfNat, Nat.reduceLT, Int.reduceEq, Int.reduceAdd, Int.reduceSub, Int.reduceMul]
              repeat' (first | with_reducible assumption | refine And.intro ?_ ?_ | intro _ | (rw [Ev.xStp_eq]; simp -dsimp -implicitDefEqProofs only [CNum, e1, e2, e3, e4, m1, m2, CFields, COld, CCtF, unMk_rows, strRows_len, hf, ho', hw', ha, Ev.St.giveC, ↓Ev.P, Ev.Q, eq_self, forall_eq_or_imp, implies_true, forall_const, forall_eq, ↓reduceIte, reduceIte, Nat.reduceEqDiff, Nat.reduceAdd, reduceCtorEq, Nat.reduceSub, Int.reduceToNat, Int.reduceLE, Int.reduceLT, Int.reduceNeg, Nat.reduceBEq, Nat.reduceMul, Nat.reduceLeDiff, Nat.reduceMod, UInt8.reduceOfNat, Nat.reduceLT, Int.reduceEq, Int.reduceAdd, Int.reduceSub, Int.reduceMul]))
          · rw [if_pos (.inr hw)] at hk
            have ho' : (AN = (pickT 45 l).length) = True := eq_true ho
            have hw' : (BN = (pickT 43 l).length) = False := eq_false hw
            simp -dsimp -implicitDefEqProofs only [S62, R62, CNum, e1, e2, e3, e4, m1, m2, ↓Ev.P, Ev.Q, eq_self, forall_eq_or_imp, implies_true, forall_const, forall_eq, ↓reduceIte, reduceIte, Nat.reduceEqDiff, Nat.reduceAdd, reduceCtorEq, Nat.reduceSub, Int.reduceToNat, Int.reduceLE, Int.reduceLT, Int.reduceNeg, Nat.reduceBEq, Nat.reduceMul, Nat.reduceLeDiff, Nat.reduceMod, UInt8.reduceOfNat, Nat.reduceLT, Int.reduceEq, Int.reduceAdd, Int.reduceSub, Int.reduceMul]
            repeat' (first | with_reducible assumption | refine And.intro ?_ ?_ | intro _ | (rw [Ev.xStp_eq]; simp -dsimp -implicitDefEqProofs only [CNum, e1, e2, e3, e4, m1, m2, CFields, COld, CCtF, unMk_rows, strRows_len, hf, ho', hw', Ev.St.giveC, ↓Ev.P, Ev.Q, eq_self, forall_eq_or_imp, implies_true, forall_const, forall_eq, ↓reduceIte, reduceIte, Nat.reduceEqDiff, Nat.reduceAdd, reduceCtorEq, Nat.reduceSub, Int.reduceToNat, Int.reduceLE, Int.reduceLT, Int.reduceNeg, Nat.reduceBEq, Nat.reduceMul, Nat.reduceLeDiff, Nat.reduceMod, UInt8.reduceOfNat, Nat.reduceLT, Int.reduceEq, Int.reduceAdd, Int.reduceSub, Int.reduceMul]))
        · rw [if_pos (.inl ho)] at hk
          have ho' : (AN = (pickT 45 l).length) = False := eq_false ho
          simp -dsimp -implicitDefEqProofs only [S62, R62, CNum, e1, e2, e3, e4, m1, m2, ↓Ev.P, Ev.Q, eq_self, forall_eq_or_imp, implies_true, forall_const, forall_eq, ↓reduceIte, reduceIte, Nat.reduceEqDiff, Nat.reduceAdd, reduceCtorEq, Nat.reduceSub, Int.reduceToNat, Int.reduceLE, Int.reduceLT, Int.reduceNeg, Nat.reduceBEq, Nat.reduceMul, Nat.reduceLeDiff, Nat.reduceMod, UInt8.reduceOfNat, Nat.reduceLT, Int.reduceEq, Int.reduceAdd, Int.reduceSub, Int.reduceMul]
          repeat' (first | with_reducible assumption | refine And.intro ?_ ?_ | intro _ | (rw [Ev.xStp_eq]; simp -dsimp -implicitDefEqProofs only [CNum, e1, e2, e3, e4, m1, m2, CFields, COld, CCtF, unMk_rows, strRows_len, hf, ho', Ev.St.giveC, ↓Ev.P, Ev.Q, eq_self, forall_eq_or_imp, implies_true, forall_const, forall_eq, ↓reduceIte, reduceIte, Nat.reduceEqDiff, Nat.reduceAdd, reduceCtorEq, Nat.reduceSub, Int.reduceToNat, Int.reduceLE, Int.reduceLT, Int.reduceNeg, Nat.reduceBEq, Nat.reduceMul, Nat.reduceLeDiff, Nat.reduceMod, UInt8.reduceOfNat, Nat.reduceLT, Int.reduceEq, Int.reduceAdd, Int.reduceSub, Int.reduceMul]))
  · rw [if_pos (by revert hn; cases cntB A <;> cases cntB AN <;> cases cntB B <;> cases cntB BN <;> simp)] at hk
    cases e1 : cntB A with
    | false =>
      simp -dsimp -implicitDefEqProofs only [S62, R62, CNum, e1, ↓Ev.P, Ev.Q, eq_self, forall_eq_or_imp, implies_true, forall_const, forall_eq, ↓reduceIte, reduceIte, Nat.reduceEqDiff, Nat.reduceAdd, reduceCtorEq, Nat.reduceSub, Int.reduceToNat, Int.reduceLE, Int.reduceLT, Int.reduceNeg, Nat.reduceBEq, Nat.reduceMul, Nat.reduceLeDiff, Nat.reduceMod, UInt8.reduceOfNat, Nat.reduceLT, Int.reduceEq, Int.reduceAdd, Int.reduceSub, Int.reduceMul]
      repeat' (first | with_reducible assumption | refine And.intro ?_ ?_ | intro _ | (rw [Ev.xStp_eq]; simp -dsimp -implicitDefEqProofs only [CNum, e1, ↓Ev.P, Ev.Q, eq_self, forall_eq_or_imp, implies_true, forall_const, forall_eq, ↓reduceIte, reduceIte, Nat.reduceEqDiff, Nat.reduceAdd, reduceCtorEq, Nat.reduceSub, Int.reduceToNat, Int.reduceLE, Int.reduceLT, Int.reduceNeg, Nat.reduceBEq, Nat.reduceMul, Nat.reduceLeDiff, Nat.reduceMod, UInt8.reduceOfNat, Nat.reduceLT, Int.reduceEq, Int.reduceAdd, Int.reduceSub, Int.reduceMul]))
    | true =>
      cases e2 : cntB AN with
      | false =>
        simp -dsimp -implicitDefEqProofs only [S62, R62, CNum, e1, e2, ↓Ev.P, Ev.Q, eq_self, forall_eq_or_imp, implies_true, forall_const, forall_eq, ↓reduceIte, reduceIte, Nat.reduceEqDiff, Nat.reduceAdd, reduceCtorEq, Nat.reduceSub, Int.reduceToNat, Int.reduceLE, Int.reduceLT, Int.reduceNeg, Nat.reduceBEq, Nat.reduceMul, Nat.reduceLeDiff, Nat.reduceMod, UInt8.reduceOfNat, Nat.reduceLT, Int.reduceEq, Int.reduceAdd, Int.reduceSub, Int.reduceMul]
        repeat' (first | with_reducible assumption | refine And.intro ?_ ?_ | intro _ | (rw [Ev.xStp_eq]; simp -dsimp -implicitDefEqProofs only [CNum, e1, e2, ↓Ev.P, Ev.Q, eq_self, forall_eq_or_imp, implies_true, forall_const, forall_eq, ↓reduceIte, reduceIte, Nat.reduceEqDiff, Nat.reduceAdd, reduceCtorEq, Nat.reduceSub, Int.reduceToNat, Int.reduceLE, Int.reduceLT, Int.reduceNeg, Nat.reduceBEq, Nat.reduceMul, Nat.reduceLeDiff, Nat.reduceMod, UInt8.reduceOfNat, Nat.reduceLT, Int.reduceEq, Int.reduceAdd, Int.reduceSub, Int.reduceMul]))
      | true =>
        cases e3 : cntB B with
        | false =>
          simp -dsimp -implicitDefEqProofs only [S62, R62, CNum, e1, e2, e3, ↓Ev.P, Ev.Q, eq_self, forall_eq_or_imp, implies_true, forall_const, forall_eq, ↓reduceIte, reduceIte, Nat.reduceEqDiff, Nat.reduceAdd, reduceCtorEq, Nat.reduceSub, Int.reduceToNat, Int.reduceLE, Int.reduceLT, Int.reduceNeg, Nat.reduceBEq, Nat.reduceMul, Nat.reduceLeDiff, Nat.reduceMod, UInt8.reduceOfNat, Nat.reduceLT, Int.reduceEq, Int.reduceAdd, Int.reduceSub, Int.reduceMul]
          repeat' (first | with_reducible assumption | refine And.intro ?_ ?_ | intro _ | (rw [Ev.xStp_eq]; simp -dsimp -implicitDefEqProofs only [CNum, e1, e2, e3, ↓Ev.P, Ev.Q, eq_self, forall_eq_or_imp, implies_true, forall_const, forall_eq, ↓reduceIte, reduceIte, Nat.reduceEqDiff, Nat.reduceAdd, reduceCtorEq, Nat.reduceSub, Int.reduceToNat, Int.reduceLE, Int.reduceLT, Int.reduceNeg, Nat.reduceBEq, Nat.reduceMul, Nat.reduceLeDiff, Nat.reduceMod, UInt8.reduceOfNat, Nat.reduceLT, Int.reduceEq, Int.reduceAdd, Int.reduceSub, Int.reduceMul]))
        | true =>
          have e4 : cntB BN = false := by
            cases e4 : cntB BN with
            | false => rfl
            | true => exact absurd ⟨⟨⟨e1, e2⟩, e3⟩, e4⟩ hn
          simp -dsimp -implicitDefEqProofs only [S62, R62, CNum, e1, e2, e3, e4, ↓Ev.P, Ev.Q, eq_self, forall_eq_or_imp, implies_true, forall_const, forall_eq, ↓reduceIte, reduceIte, Nat.reduceEqDiff, Nat.reduceAdd, reduceCtorEq, Nat.reduceSub, Int.reduceToNat, Int.reduceLE, Int.reduceLT, Int.reduceNeg, Nat.reduceBEq, Nat.reduceMul, Nat.reduceLeDiff, Nat.reduceMod, UInt8.reduceOfNat, Nat.reduceLT, Int.reduceEq, Int.reduceAdd, Int.reduceSub, Int.reduceMul]
          repeat' (first | with_reducible assumption | refine And.intro ?_ ?_ | intro _ | (rw [Ev.xStp_eq]; simp -dsimp -implicitDefEqProofs only [CNum, e1, e2, e3, e4, ↓Ev.P, Ev.Q, eq_self, forall_eq_or_imp, implies_true, forall_const, forall_eq, ↓reduceIte, reduceIte, Nat.reduceEqDiff, Nat.reduceAdd, reduceCtorEq, Nat.reduceSub, Int.reduceToNat, Int.reduceLE, Int.reduceLT, Int.reduceNeg, Nat.reduceBEq, Nat.reduceMul, Nat.reduceLeDiff, Nat.reduceMod, UInt8.reduceOfNat, Nat.reduceLT, Int.reduceEq, Int.reduceAdd, Int.reduceSub, Int.reduceMul]))
end Go.Proofs.YtpbkdcfjlbdgfaaDoor
set_option linter.unusedVariables false
set_option linter.unusedSimpArgs false
namespace Go.Proofs.YtpbkdcfjlbdgfaaDoor
open Go Go.Ev
set_option maxRecDepth 100000
variable {G : World → Prop}
theorem any_false {l : List Mk} (h : ∀ j, j < l.length → chgM (l.getD j mk0) = false) : l.any chgM = false := by
  rw [List.any_eq_false]
  intro x hx
  obtain ⟨j, hj, e⟩ := List.getElem_of_mem hx
  have := h j hj
  rw [List.getD_eq_getElem?_getD, List.getElem?_eq_getElem hj] at this
  simpa [e] using this
set_option maxHeartbeats 4000000 in
theorem rchk_rest {T : FuncId → Contract} (t1 : T 150 = CFields) (t2 : T 151 = COld 45) (t3 : T 152 = COld 43) (A AN B BN : Int) (l : List Mk) (h1 : l.length ≤ 1099511627776) (h2 : ∀ m ∈ l, m.2.length ≤ 1099511627776) (K : Out → Store → Prop)
    (hk : K (.ret (.d (.v (.int .i64 (if fieldsT l = false then 6 else if ¬ AN = (pickT 45 l).length ∨ ¬ BN = (pickT 43 l).length then 120 else if l.any chgM = false then 50 else 0))))) ⟨0, []⟩) :
    ∀ sl : List (Nat × SV), lk sl 1 = some (.ptr 0 0) → xv T 0 S120r2 ⟨sl, 1, [(0, .cells 93 [.d (.v (.int .i64 A)), .d (.v (.int .i64 AN)), .d (.v (.int .i64 B)), .d (.v (.int .i64 BN)), .d (.sl (mkRows l))])]⟩ (retK R120 0 [] K) (panK 0 [] K) := by
  intro sl q1
  have l1 := pick_len 45 l
  have l2 := pick_len 43 l
  have loop : ∀ (fl : fieldsT l = true) (ho : AN = (pickT 45 l).length) (hw : BN = (pickT 43 l).length), ∀ sl : List (Nat × SV), lk sl 1 = some (.ptr 0 0) → ∀ n ob, lk ob 0 = some (.cells 93 [.d (.v (.int .i64 A)), .d (.v (.int .i64 AN)), .d (.v (.int .i64 B)), .d (.v (.int .i64 BN)), .d (.sl (mkRows l))]) →
      xv T 0 S120r4 ⟨sl, n, ob⟩ (retK R120 0 [] K) (panK 0 [] K) := by
    intro fl ho hw sl q1 n ob qo
    rw [if_neg (by rw [fl]; simp), if_neg (by rintro (h | h); exact h ho; exact h hw)] at hk
    simp -dsimp -implicitDefEqProofs only [S120r4, S120_4, S120r5, S120_5, S120r6, R120, q1, qo, ↓Ev.xStp_eq, ↓Ev.P, Ev.Q, eq_self, forall_eq_or_imp, implies_true, forall_const, forall_eq, ↓reduceIte, reduceIte, Nat.reduceEqDiff, Nat.reduceAdd, reduceCtorEq, Nat.reduceSub, Int.reduceToNat, Int.reduceLE, Int.reduceLT, Int.reduceNeg, Nat.reduceBEq, Nat.reduceMul, Nat.reduceLeDiff, Nat.reduceMod, UInt8.reduceOfNat, Nat.reduceLT, Int.reduceEq, Int.reduceAdd, Int.reduceSub, Int.reduceMul]
    refine xLoop_intro (fun n st => ∃ i : Nat, i ≤ l.length ∧ n = l.length - i ∧ (∀ j, j < i → chgM (l.getD j mk0) = false) ∧
      st = ⟨[(1, .ptr 0 0), (3, .d (.v (.int .i64 i)))], 1, [(0, .cells 93 [.d (.v (.int .i64 A)), .d (.v (.int .i64 AN)), .d (.v (.int .i64 B)), .d (.v (.int .i64 BN)), .d (.sl (mkRows l))])]⟩) l.length [0] ?_ ?_ ?_
    · simp -dsimp -implicitDefEqProofs only [qo, ↓Ev.xStp_eq, ↓Ev.P, Ev.Q, eq_self, forall_eq_or_imp, implies_true, forall_const, forall_eq, ↓reduceIte, reduceIte, Nat.reduceEqDiff, Nat.reduceAdd, reduceCtorEq, Nat.reduceSub, Int.reduceToNat, Int.reduceLE, Int.reduceLT, Int.reduceNeg, Nat.reduceBEq, Nat.reduceMul, Nat.reduceLeDiff, Nat.reduceMod, UInt8.reduceOfNat, Nat.reduceLT, Int.reduceEq, Int.reduceAdd, Int.reduceSub, Int.reduceMul]
    · simp -dsimp -implicitDefEqProofs only [q1, qo, ↓Ev.xStp_eq, ↓Ev.P, Ev.Q, eq_self, forall_eq_or_imp, implies_true, forall_const, forall_eq, ↓reduceIte, reduceIte, Nat.reduceEqDiff, Nat.reduceAdd, reduceCtorEq, Nat.reduceSub, Int.reduceToNat, Int.reduceLE, Int.reduceLT, Int.reduceNeg, Nat.reduceBEq, Nat.reduceMul, Nat.reduceLeDiff, Nat.reduceMod, UInt8.reduceOfNat, Nat.reduceLT, Int.reduceEq, Int.reduceAdd, Int.reduceSub, Int.reduceMul]
      exact ⟨0, by omega, by omega, fun _ h => by omega, rfl⟩
    · rintro n st ⟨i, hi, hn, hj, rfl⟩
      by_cases hil : i < l.length
      · have hi3 : (i : Int) < l.length := by omega
        have hg := mkRows_get hil
        have hmem := mk_mem hil
        have hj2 : chgM (l.getD i mk0) = false → ∀ j, j < i + 1 → chgM (l.getD j mk0) = false := fun h j hji => by
          by_cases e : j = i
          · subst e; exact h
          · exact hj j (by omega)
        generalize l.getD i mk0 = m at hg hj2 hmem
        obtain ⟨c, t⟩ := m
        by_cases hc : c = 32
        · subst hc
          simp -dsimp -implicitDefEqProofs only [hg, hi3, mkRow, mkRows_len, ↓Ev.xStp_eq, ↓Ev.P, Ev.Q, eq_self, forall_eq_or_imp, implies_true, forall_const, forall_eq, ↓reduceIte, reduceIte, Nat.reduceEqDiff, Nat.reduceAdd, reduceCtorEq, Nat.reduceSub, Int.reduceToNat, Int.reduceLE, Int.reduceLT, Int.reduceNeg, Nat.reduceBEq, Nat.reduceMul, Nat.reduceLeDiff, Nat.reduceMod, UInt8.reduceOfNat, Nat.reduceLT, Int.reduceEq, Int.reduceAdd, Int.reduceSub, Int.reduceMul]
          repeat' (first | with_reducible assumption | refine And.intro ?_ ?_ | intro _)
          all_goals try omega
          refine xAgain_intro (l.length - (i + 1)) [0] (by omega) (by simp -dsimp -implicitDefEqProofs only [↓Ev.xStp_eq, ↓Ev.P, Ev.Q, eq_self, forall_eq_or_imp, implies_true, forall_const, forall_eq, ↓reduceIte, reduceIte, Nat.reduceEqDiff, Nat.reduceAdd, reduceCtorEq, Nat.reduceSub, Int.reduceToNat, Int.reduceLE, Int.reduceLT, Int.reduceNeg, Nat.reduceBEq, Nat.reduceMul, Nat.reduceLeDiff, Nat.reduceMod, UInt8.reduceOfNat, Nat.reduceLT, Int.reduceEq, Int.reduceAdd, Int.reduceSub, Int.reduceMul]) ⟨i + 1, by omega, rfl, hj2 rfl, ?_⟩
          simp -dsimp -implicitDefEqProofs only [↓Ev.xStp_eq, ↓Ev.P, Ev.Q, eq_self, forall_eq_or_imp, implies_true, forall_const, forall_eq, ↓reduceIte, reduceIte, Nat.reduceEqDiff, Nat.reduceAdd, reduceCtorEq, Nat.reduceSub, Int.reduceToNat, Int.reduceLE, Int.reduceLT, Int.reduceNeg, Nat.reduceBEq, Nat.reduceMul, Nat.reduceLeDiff, Nat.reduceMod, UInt8.reduceOfNat, Nat.reduceLT, Int.reduceEq, Int.reduceAdd, Int.reduceSub, Int.reduceMul]
          rfl
        · have : l.any chgM = true := List.any_eq_true.2 ⟨_, hmem, by simp [chgM, hc]⟩
          rw [this, if_neg (by simp)] at hk
          simp -dsimp -implicitDefEqProofs only [hg, hi3, hc, mkRow, mkRows_len, ↓Ev.xStp_eq, ↓Ev.P, Ev.Q, eq_self, forall_eq_or_imp, implies_true, forall_const, forall_eq, ↓reduceIte, reduceIte, Nat.reduceEqDiff, Nat.reduceAdd, reduceCtorEq, Nat.reduceSub, Int.reduceToNat, Int.reduceLE, Int.reduceLT, Int.reduceNeg, Nat.reduceBEq, Nat.reduceMul, Nat.reduceLeDiff, Nat.reduceMod, UInt8.reduceOfNat, Nat.reduceLT, Int.reduceEq, Int.reduceAdd, Int.reduceSub, Int.reduceMul]
          repeat' (first | with_reducible assumption | refine And.intro ?_ ?_ | intro _)
          all_goals first | omega | exact hk
      · have hi3 : ¬ (i : Int) < l.length := by omega
        rw [if_pos (any_false fun j h => hj j (by omega))] at hk
        simp -dsimp -implicitDefEqProofs only [hi3, mkRows_len, ↓Ev.xStp_eq, ↓Ev.P, Ev.Q, eq_self, forall_eq_or_imp, implies_true, forall_const, forall_eq, ↓reduceIte, reduceIte, Nat.reduceEqDiff, Nat.reduceAdd, reduceCtorEq, Nat.reduceSub, Int.reduceToNat, Int.reduceLE, Int.reduceLT, Int.reduceNeg, Nat.reduceBEq, Nat.reduceMul, Nat.reduceLeDiff, Nat.reduceMod, UInt8.reduceOfNat, Nat.reduceLT, Int.reduceEq, Int.reduceAdd, Int.reduceSub, Int.reduceMul]
        exact hk
  cases hf : fieldsT l with
  | false =>
    rw [if_pos hf] at hk
    simp -dsimp -implicitDefEqProofs only [S120r2, S120_2, S120r3, R120, q1, ↓Ev.P, Ev.Q, eq_self, forall_eq_or_imp, implies_true, forall_const, forall_eq, ↓reduceIte, reduceIte, Nat.reduceEqDiff, Nat.reduceAdd, reduceCtorEq, Nat.reduceSub, Int.reduceToNat, Int.reduceLE, Int.reduceLT, Int.reduceNeg, Nat.reduceBEq, Nat.reduceMul, Nat.reduceLeDiff, Nat.reduceMod, UInt8.reduceOfNat, Nat.reduceLT, Int.reduceEq, Int.reduceAdd, Int.reduceSub, Int.reduceMul]
    repeat' (first | with_reducible assumption | refine And.intro ?_ ?_ | intro _ | (rw [Ev.xStp_eq]; simp -dsimp -implicitDefEqProofs only [t1, CFields, unMk_rows, hf, Ev.St.giveC, q1, ↓Ev.P, Ev.Q, eq_self, forall_eq_or_imp, implies_true, forall_const, forall_eq, ↓reduceIte, reduceIte, Nat.reduceEqDiff, Nat.reduceAdd, reduceCtorEq, Nat.reduceSub, Int.reduceToNat, Int.reduceLE, Int.reduceLT, Int.reduceNeg, Nat.reduceBEq, Nat.reduceMul, Nat.reduceLeDiff, Nat.reduceMod, UInt8.reduceOfNat, Nat.reduceLT, Int.reduceEq, Int.reduceAdd, Int.reduceSub, Int.reduceMul]))
  | true =>
    by_cases ho : AN = (pickT 45 l).length
    · have ho' : (AN = (pickT 45 l).length) = True := eq_true ho
      by_cases hw : BN = (pickT 43 l).length
      · have hw' : (BN = (pickT 43 l).length) = True := eq_true hw
        have loop := loop hf ho hw
        simp -dsimp -implicitDefEqProofs only [S120r2, S120_2, S120r3, S120_3, R120, q1, ↓Ev.P, Ev.Q, eq_self, forall_eq_or_imp, implies_true, forall_const, forall_eq, ↓reduceIte, reduceIte, Nat.reduceEqDiff, Nat.reduceAdd, reduceCtorEq, Nat.reduceSub, Int.reduceToNat, Int.reduceLE, Int.reduceLT, Int.reduceNeg, Nat.reduceBEq, Nat.reduceMul, Nat.reduceLeDiff, Nat.reduceMod, UInt8.reduceOfNat, Nat.reduceLT, Int.reduceEq, Int.reduceAdd, Int.reduceSub, Int.reduceMul]
        repeat' (first | with_reducible assumption | refine And.intro ?_ ?_ | intro _ | (rw [Ev.xStp_eq]; simp -dsimp -implicitDefEqProofs only [t1, t2, t3, CFields, COld, unMk_rows, strRows_len, hf, ho', hw', Ev.St.giveC, q1, ↓Ev.P, Ev.Q, eq_self, forall_eq_or_imp, implies_true, forall_const, forall_eq, ↓reduceIte, reduceIte, Nat.reduceEqDiff, Nat.reduceAdd, reduceCtorEq, Nat.reduceSub, Int.reduceToNat, Int.reduceLE, Int.reduceLT, Int.reduceNeg, Nat.reduceBEq, Nat.reduceMul, Nat.reduceLeDiff, Nat.reduceMod, UInt8.reduceOfNat, Nat.reduceLT, Int.reduceEq, Int.reduceAdd, Int.reduceSub, Int.reduceMul]))
        exact loop _ (by simp -dsimp -implicitDefEqProofs only [↓Ev.xStp_eq, ↓Ev.P, Ev.Q, eq_self, forall_eq_or_imp, implies_true, forall_const, forall_eq, ↓reduceIte, reduceIte, Nat.reduceEqDiff, Nat.reduceAdd, reduceCtorEq, Nat.reduceSub, Int.reduceToNat, Int.reduceLE, Int.reduceLT, Int.reduceNeg, Nat.reduceBEq, Nat.reduceMul, Nat.reduceLeDiff, Nat.reduceMod, UInt8.reduceOfNat, Nat.reduceLT, Int.reduceEq, Int.reduceAdd, Int.reduceSub, Int.reduceMul]) _ _ (by simp -dsimp -implicitDefEqProofs only [↓Ev.xStp_eq, ↓Ev.P, Ev.Q, eq_self, forall_eq_or_imp, implies_true, forall_const, forall_eq, ↓reduceIte, reduceIte, Nat.reduceEqDiff, Nat.reduceAdd, reduceCtorEq, Nat.reduceSub, Int.reduceToNat, Int.reduceLE, Int.reduceLT, Int.reduceNeg, Nat.reduceBEq, Nat.reduceMul, Nat.reduceLeDiff, Nat.reduceMod, UInt8.reduceOfNat, Nat.reduceLT, Int.reduceEq, Int.reduceAdd, Int.reduceSub, Int.reduceMul])
      · have hw' : (BN = (pickT 43 l).length) = False := eq_false hw
        rw [if_neg (by rw [hf]; simp), if_pos (.inr hw)] at hk
        simp -dsimp -implicitDefEqProofs only [S120r2, S120_2, S120r3, S120_3, R120, q1, ↓Ev.P, Ev.Q, eq_self, forall_eq_or_imp, implies_true, forall_const, forall_eq, ↓reduceIte, reduceIte, Nat.reduceEqDiff, Nat.reduceAdd, reduceCtorEq, Nat.reduceSub, Int.reduceToNat, Int.reduceLE, Int.reduceLT, Int.reduceNeg, Nat.reduceBEq, Nat.reduceMul, Nat.reduceLeDiff, Nat.reduceMod, UInt8.reduceOfNat, Nat.reduceLT, Int.reduceEq, Int.reduceAdd, Int.reduceSub, Int.reduceMul]
        repeat' (first | with_reducible assumption | refine And.intro ?_ ?_ | intro _ | (rw [Ev.xStp_eq]; simp -dsimp -implicitDefEqProofs only [t1, t2, t3, CFields, COld, unMk_rows, strRows_len, hf, ho', hw', Ev.St.giveC, q1, ↓Ev.P, Ev.Q, eq_self, forall_eq_or_imp, implies_true, forall_const, forall_eq, ↓reduceIte, reduceIte, Nat.reduceEqDiff, Nat.reduceAdd, reduceCtorEq, Nat.reduceSub, Int.reduceToNat, Int.reduceLE, Int.reduceLT, Int.reduceNeg, Nat.reduceBEq, Nat.reduceMul, Nat.reduceLeDiff, Nat.reduceMod, UInt8.reduceOfNat, Nat.reduceLT, Int.reduceEq, Int.reduceAdd, Int.reduceSub, Int.reduceMul]))
    · have ho' : (AN = (pickT 45 l).length) = False := eq_false ho
      rw [if_neg (by rw [hf]; simp), if_pos (.inl ho)] at hk
      simp -dsimp -implicitDefEqProofs only [S120r2, S120_2, S120r3, S120_3, R120, q1, ↓Ev.P, Ev.Q, eq_self, forall_eq_or_imp, implies_true, forall_const, forall_eq, ↓reduceIte, reduceIte, Nat.reduceEqDiff, Nat.reduceAdd, reduceCtorEq, Nat.reduceSub, Int.reduceToNat, Int.reduceLE, Int.reduceLT, Int.reduceNeg, Nat.reduceBEq, Nat.reduceMul, Nat.reduceLeDiff, Nat.reduceMod, UInt8.reduceOfNat, Nat.reduceLT, Int.reduceEq, Int.reduceAdd, Int.reduceSub, Int.reduceMul]
      repeat' (first | with_reducible assumption | refine And.intro ?_ ?_ | intro _ | (rw [Ev.xStp_eq]; simp -dsimp -implicitDefEqProofs only [t1, t2, t3, CFields, COld, unMk_rows, strRows_len, hf, ho', Ev.St.giveC, q1, ↓Ev.P, Ev.Q, eq_self, forall_eq_or_imp, implies_true, forall_const, forall_eq, ↓reduceIte, reduceIte, Nat.reduceEqDiff, Nat.reduceAdd, reduceCtorEq, Nat.reduceSub, Int.reduceToNat, Int.reduceLE, Int.reduceLT, Int.reduceNeg, Nat.reduceBEq, Nat.reduceMul, Nat.reduceLeDiff, Nat.reduceMod, UInt8.reduceOfNat, Nat.reduceLT, Int.reduceEq, Int.reduceAdd, Int.reduceSub, Int.reduceMul]))
set_option maxHeartbeats 4000000 in
theorem s120 : Sound G Tryd.prog 120 CHk := by
  refine sd120 (T := tabT [(149, CNum), (150, CFields), (151, COld 45), (152, COld 43)])
    (tab_cons s149 (tab_cons s150 (tab_cons s151 (tab_cons s152 tab_nil)))) (pureC_lawful _) (pure_hX fun args p x K h hp hk => ?_)
  split at h <;> simp only [Option.map_eq_some_iff, Prod.mk.injEq, reduceCtorEq] at h
  obtain ⟨l, hl, rfl, rfl⟩ := h
  rw [unMk_eq hl] at *
  rename_i A AN B BN rows
  obtain ⟨h1, h2⟩ := hp
  refine ⟨Nat.le_of_ble_eq_true rfl, ?_⟩
  unfold hkChk at hk
  have rest := rchk_rest (T := tabT [(149, CNum), (150, CFields), (151, COld 45), (152, COld 43)]) rfl rfl rfl A AN B BN l h1 h2 K
  by_cases hn : ((cntB A = true ∧ cntB AN = true) ∧ cntB B = true) ∧ cntB BN = true
  · obtain ⟨⟨⟨e1, e2⟩, e3⟩, e4⟩ := hn
    by_cases zA : A = 0
    · by_cases yA : 0 < AN
      · rw [if_pos (.inl (.inr ⟨zA, yA⟩))] at hk
        simp -dsimp -implicitDefEqProofs only [S120, S120_0, S120r1, S120_1, R120, CNum, e1, e2, e3, e4, zA, yA, ↓Ev.P, Ev.Q, eq_self, forall_eq_or_imp, implies_true, forall_const, forall_eq, ↓reduceIte, reduceIte, Nat.reduceEqDiff, Nat.reduceAdd, reduceCtorEq, Nat.reduceSub, Int.reduceToNat, Int.reduceLE, Int.reduceLT, Int.reduceNeg, Nat.reduceBEq, Nat.reduceMul, Nat.reduceLeDiff, Nat.reduceMod, UInt8.reduceOfNat, Nat.reduceLT, Int.reduceEq, Int.reduceAdd, Int.reduceSub, Int.reduceMul]
        repeat' (first | with_reducible assumption | refine And.intro ?_ ?_ | intro _ | (rw [Ev.xStp_eq]; simp -dsimp -implicitDefEqProofs only [CNum, e1, e2, e3, e4, zA, yA, ↓Ev.P, Ev.Q, eq_self, forall_eq_or_imp, implies_true, forall_const, forall_eq, ↓reduceIte, reduceIte, Nat.reduceEqDiff, Nat.reduceAdd, reduceCtorEq, Nat.reduceSub, Int.reduceToNat, Int.reduceLE, Int.reduceLT, Int.reduceNeg, Nat.reduceBEq, Nat.reduceMul, Nat.reduceLeDiff, Nat.reduceMod, UInt8.reduceOfNat, Nat.reduceLT, Int.reduceEq, Int.reduceAdd, Int.reduceSub, Int.reduceMul]))
      · by_cases zB : B = 0
        · by_cases yB : 0 < BN
          · rw [if_pos (.inr ⟨zB, yB⟩)] at hk
            simp -dsimp -implicitDefEqProofs only [S120, S120_0, S120r1, S120_1, R120, CNum, e1, e2, e3, e4, zA, yA, zB, yB, ↓Ev.P, Ev.Q, eq_self, forall_eq_or_imp, implies_true, forall_const, forall_eq, ↓reduceIte, reduceIte, Nat.reduceEqDiff, Nat.reduceAdd, reduceCtorEq, Nat.reduceSub, Int.reduceToNat, Int.reduceLE, Int.reduceLT, Int.reduceNeg, Nat.reduceBEq, Nat.reduceMul, Nat.reduceLeDiff, Nat.reduceMod, UInt8.reduceOfNat, Nat.reduceLT, Int.reduceEq, Int.reduceAdd, Int.reduceSub, Int.reduceMul]
            repeat' (first | with_reducible assumption | refine And.intro ?_ ?_ | intro _ | (rw [Ev.xStp_eq]; simp -dsimp -implicitDefEqProofs only [CNum, e1, e2, e3, e4, zA, yA, zB, yB, ↓Ev.P, Ev.Q, eq_self, forall_eq_or_imp, implies_true, forall_const, forall_eq, ↓reduceIte, reduceIte, Nat.reduceEqDiff, Nat.reduceAdd, reduceCtorEq, Nat.reduceSub, Int.reduceToNat, Int.reduceLE, Int.reduceLT, Int.reduceNeg, Nat.reduceBEq, Nat.reduceMul, Nat.reduceLeDiff, Nat.reduceMod, UInt8.reduceOfNat, Nat.reduceLT, Int.reduceEq, Int.reduceAdd, Int.reduceSub, Int.reduceMul]))
          · rw [if_neg (by rw [e1, e2, e3, e4]; simp [yA, yB])] at hk
            have rest := rest hk
            subst zA
            subst zB
            simp -dsimp -implicitDefEqProofs only [S120, S120_0, S120r1, S120_1, R120, CNum, e1, e2, e3, e4, yA, yB, ↓Ev.P, Ev.Q, eq_self, forall_eq_or_imp, implies_true, forall_const, forall_eq, ↓reduceIte, reduceIte, Nat.reduceEqDiff, Nat.reduceAdd, reduceCtorEq, Nat.reduceSub, Int.reduceToNat, Int.reduceLE, Int.reduceLT, Int.reduceNeg, Nat.reduceBEq, Nat.reduceMul, Nat.reduceLeDiff, Nat.reduceMod, UInt8.reduceOfNat, Nat.reduceLT, Int.reduceEq, Int.reduceAdd, Int.reduceSub, Int.reduceMul]
            repeat' (first | with_reducible assumption | refine And.intro ?_ ?_ | intro _ | (rw [Ev.xStp_eq]; simp -dsimp -implicitDefEqProofs only [CNum, e1, e2, e3, e4, yA, yB, ↓Ev.P, Ev.Q, eq_self, forall_eq_or_imp, implies_true, forall_const, forall_eq, ↓reduceIte, reduceIte, Nat.reduceEqDiff, Nat.reduceAdd, reduceCtorEq, Nat.reduceSub, Int.reduceToNat, Int.reduceLE, Int.reduceLT, Int.reduceNeg, Nat.reduceBEq, Nat.reduceMul, Nat.reduceLeDiff, Nat.reduceMod, UInt8.reduceOfNat, Nat.reduceLT, Int.reduceEq, Int.reduceAdd, Int.reduceSub, Int.reduceMul]))
            all_goals exact rest _ (by simp -dsimp -implicitDefEqProofs only [↓Ev.xStp_eq, ↓Ev.P, Ev.Q, eq_self, forall_eq_or_imp, implies_true, forall_const, forall_eq, ↓reduceIte, reduceIte, Nat.reduceEqDiff, Nat.reduceAdd, reduceCtorEq, Nat.reduceSub, Int.reduceToNat, Int.reduceLE, Int.reduceLT, Int.reduceNeg, Nat.reduceBEq, Nat.reduceMul, Nat.reduceLeDiff, Nat.reduceMod, UInt8.reduceOfNat, Nat.reduceLT, Int.reduceEq, Int.reduceAdd, Int.reduceSub, Int.reduceMul])
        · rw [if_neg (by rw [e1, e2, e3, e4]; simp [yA, zB])] at hk
          have rest := rest hk
          subst zA
          simp -dsimp -implicitDefEqProofs only [S120, S120_0, S120r1, S120_1, R120, CNum, e1, e2, e3, e4, yA, zB, ↓Ev.P, Ev.Q, eq_self, forall_eq_or_imp, implies_true, forall_const, forall_eq, ↓reduceIte, reduceIte, Nat.reduceEqDiff, Nat.reduceAdd, reduceCtorEq, Nat.reduceSub, Int.reduceToNat, Int.reduceLE, Int.reduceLT, Int.reduceNeg, Nat.reduceBEq, Nat.reduceMul, Nat.reduceLeDiff, Nat.reduceMod, UInt8.reduceOfNat, Nat.reduceLT, Int.reduceEq, Int.reduceAdd, Int.reduceSub, Int.reduceMul]
          repeat' (first | with_reducible assumption | refine And.intro ?_ ?_ | intro _ | (rw [Ev.xStp_eq]; simp -dsimp -implicitDefEqProofs only [CNum, e1, e2, e3, e4, yA, zB, ↓Ev.P, Ev.Q, eq_self, forall_eq_or_imp, implies_true, forall_const, forall_eq, ↓reduceIte, reduceIte, Nat.reduceEqDiff, Nat.reduceAdd, reduceCtorEq, Nat.reduceSub, Int.reduceToNat, Int.reduceLE, Int.reduceLT, Int.reduceNeg, Nat.reduceBEq, Nat.reduceMul, Nat.reduceLeDiff, Nat.reduceMod, UInt8.reduceOfNat, Nat.reduceLT, Int.reduceEq, Int.reduceAdd, Int.reduceSub, Int.reduceMul]))
          all_goals exact rest _ (by simp -dsimp -implicitDefEqProofs only [↓Ev.xStp_eq, ↓Ev.P, Ev.Q, eq_self, forall_eq_or_imp, implies_true, forall_const, forall_eq, ↓reduceIte, reduceIte, Nat.reduceEqDiff, Nat.reduceAdd, reduceCtorEq, Nat.reduceSub, Int.reduceToNat, Int.reduceLE, Int.reduceLT, Int.reduceNeg, Nat.reduceBEq, Nat.reduceMul, Nat.reduceLeDiff, Nat.reduceMod, UInt8.reduceOfNat, Nat.reduceLT, Int.reduceEq, Int.reduceAdd, Int.reduceSub, Int.reduceMul])
    · by_cases zB : B = 0
      · by_cases yB : 0 < BN
        · rw [if_pos (.inr ⟨zB, yB⟩)] at hk
          simp -dsimp -implicitDefEqProofs only [S120, S120_0, S120r1, S120_1, R120, CNum, e1, e2, e3, e4, zA, zB, yB, ↓Ev.P, Ev.Q, eq_self, forall_eq_or_imp, implies_true, forall_const, forall_eq, ↓reduceIte, reduceIte, Nat.reduceEqDiff, Nat.reduceAdd, reduceCtorEq, Nat.reduceSub, Int.reduceToNat, Int.reduceLE, Int.reduceLT, Int.reduceNeg, Nat.reduceBEq, Nat.reduceMul, Nat.reduceLeDiff, Nat.reduceMod, UInt8.reduceOfNat, Nat.reduceLT, Int.reduceEq, Int.reduceAdd, Int.reduceSub, Int.reduceMul]
          repeat' (first | with_reducible assumption | refine And.intro ?_ ?_ | intro _ | (rw [Ev.xStp_eq]; simp -dsimp -implicitDefEqProofs only [CNum, e1, e2, e3, e4, zA, zB, yB, ↓Ev.P, Ev.Q, eq_self, forall_eq_or_imp, implies_true, forall_const, forall_eq, ↓reduceIte, reduceIte, Nat.reduceEqDiff, Nat.reduceAdd, reduceCtorEq, Nat.reduceSub, Int.reduceToNat, Int.reduceLE, Int.reduceLT, Int.reduceNeg, Nat.reduceBEq, Nat.reduceMul, Nat.reduceLeDiff, Nat.reduceMod, UInt8.reduceOfNat, Nat.reduceLT, Int.reduceEq, Int.reduceAdd, Int.reduceSub, Int.reduceMul]))
        · rw [if_neg (by rw [e1, e2, e3, e4]; simp [zA, yB])] at hk
          have rest := rest hk
          subst zB
          simp -dsimp -implicitDefEqProofs only [S120, S120_0, S120r1, S120_1, R120, CNum, e1, e2, e3, e4, zA, yB, ↓Ev.P, Ev.Q, eq_self, forall_eq_or_imp, implies_true, forall_const, forall_eq, ↓reduceIte, reduceIte, Nat.reduceEqDiff, Nat.reduceAdd, reduceCtorEq, Nat.reduceSub, Int.reduceToNat, Int.reduceLE, Int.reduceLT, Int.reduceNeg, Nat.reduceBEq, Nat.reduceMul, Nat.reduceLeDiff, Nat.reduceMod, UInt8.reduceOfNat, Nat.reduceLT, Int.reduceEq, Int.reduceAdd, Int.reduceSub, Int.reduceMul]
          repeat' (first | with_reducible assumption | refine And.intro ?_ ?_ | intro _ | (rw [Ev.xStp_eq]; simp -dsimp -implicitDefEqProofs only [CNum, e1, e2, e3, e4, zA, yB, ↓Ev.P, Ev.Q, eq_self, forall_eq_or_imp, implies_true, forall_const, forall_eq, ↓reduceIte, reduceIte, Nat.reduceEqDiff, Nat.reduceAdd, reduceCtorEq, Nat.reduceSub, Int.reduceToNat, Int.reduceLE, Int.reduceLT, Int.reduceNeg, Nat.reduceBEq, Nat.reduceMul, Nat.reduceLeDiff, Nat.reduceMod, UInt8.reduceOfNat, Nat.reduceLT, Int.reduceEq, Int.reduceAdd, Int.reduceSub, Int.reduceMul]))
          all_goals exact rest _ (by simp -dsimp -implicitDefEqProofs only [↓Ev.xStp_eq, ↓Ev.P, Ev.Q, eq_self, forall_eq_or_imp, implies_true, forall_const, forall_eq, ↓reduceIte, reduceIte, Nat.reduceEqDiff, Nat.reduceAdd, reduceCtorEq, Nat.reduceSub, Int.reduceToNat, Int.reduceLE, Int.reduceLT, Int.reduceNeg, Nat.reduceBEq, Nat.reduceMul, Nat.reduceLeDiff, Nat.reduceMod, UInt8.reduceOfNat, Nat.reduceLT, Int.reduceEq, Int.reduceAdd, Int.reduceSub, Int.reduceMul])
      · rw [if_neg (by rw [e1, e2, e3, e4]; simp [zA, zB])] at hk
        have rest := rest hk
        simp -dsimp -implicitDefEqProofs only [S120, S120_0, S120r1, S120_1, R120, CNum, e1, e2, e3, e4, zA, zB, ↓Ev.P, Ev.Q, eq_self, forall_eq_or_imp, implies_true, forall_const, forall_eq, ↓reduceIte, reduceIte, Nat.reduceEqDiff, Nat.reduceAdd, reduceCtorEq, Nat.reduceSub, Int.reduceToNat, Int.reduceLE, Int.reduceLT, Int.reduceNeg, Nat.reduceBEq, Nat.reduceMul, Nat.reduceLeDiff, Nat.reduceMod, UInt8.reduceOfNat, Nat.reduceLT, Int.reduceEq, Int.reduceAdd, Int.reduceSub, Int.reduceMul]
        repeat' (first | with_reducible assumption | refine And.intro ?_ ?_ | intro _ | (rw [Ev.xStp_eq]; simp -dsimp -implicitDefEqProofs only [CNum, e1, e2, e3, e4, zA, zB, ↓Ev.P, Ev.Q, eq_self, forall_eq_or_imp, implies_true, forall_const, forall_eq, ↓reduceIte, reduceIte, Nat.reduceEqDiff, Nat.reduceAdd, reduceCtorEq, Nat.reduceSub, Int.reduceToNat, Int.reduceLE, Int.reduceLT, Int.reduceNeg, Nat.reduceBEq, Nat.reduceMul, Nat.reduceLeDiff, Nat.reduceMod, UInt8.reduceOfNat, Nat.reduceLT, Int.reduceEq, Int.reduceAdd, Int.reduceSub, Int.reduceMul]))
        all_goals exact rest _ (by simp -dsimp -implicitDefEqProofs only [↓Ev.xStp_eq, ↓Ev.P, Ev.Q, eq_self, forall_eq_or_imp, implies_true, forall_const, forall_eq, ↓reduceIte, reduceIte, Nat.reduceEqDiff, Nat.reduceAdd, reduceCtorEq, Nat.reduceSub, Int.reduceToNat, Int.reduceLE, Int.reduceLT, Int.reduceNeg, Nat.reduceBEq, Nat.reduceMul, Nat.reduceLeDiff, Nat.reduceMod, UInt8.reduceOfNat, Nat.reduceLT, Int.reduceEq, Int.reduceAdd, Int.reduceSub, Int.reduceMul])
  · rw [if_pos (by revert hn; cases cntB A <;> cases cntB AN <;> cases cntB B <;> cases cntB BN <;> simp)] at hk
    cases e1 : cntB A with
    | false =>
      simp -dsimp -implicitDefEqProofs only [S120, S120_0, S120r1, S120_1, R120, CNum, e1, ↓Ev.P, Ev.Q, eq_self, forall_eq_or_imp, implies_true, forall_const, forall_eq, ↓reduceIte, reduceIte, Nat.reduceEqDiff, Nat.reduceAdd, reduceCtorEq, Nat.reduceSub, Int.reduceToNat, Int.reduceLE, Int.reduceLT, Int.reduceNeg, Nat.reduceBEq, Nat.reduceMul, Nat.reduceLeDiff, Nat.reduceMod, UInt8.reduceOfNat, Nat.reduceLT, Int.reduceEq, Int.reduceAdd, Int.reduceSub, Int.reduceMul]
      repeat' (first | with_reducible assumption | refine And.intro ?_ ?_ | intro _ | (rw [Ev.xStp_eq]; simp -dsimp -implicitDefEqProofs only [CNum, e1, ↓Ev.P, Ev.Q, eq_self, forall_eq_or_imp, implies_true, forall_const, forall_eq, ↓reduceIte, reduceIte, Nat.reduceEqDiff, Nat.reduceAdd, reduceCtorEq, Nat.reduceSub, Int.reduceToNat, Int.reduceLE, Int.reduceLT, Int.reduceNeg, Nat.reduceBEq, Nat.reduceMul, Nat.reduceLeDiff, Nat.reduceMod, UInt8.reduceOfNat, Nat.reduceLT, Int.reduceEq, Int.reduceAdd, Int.reduceSub, Int.reduceMul]))
    | true =>
      cases e2 : cntB AN with
      | false =>
        simp -dsimp -implicitDefEqProofs only [S120, S120_0, S120r1, S120_1, R120, CNum, e1, e2, ↓Ev.P, Ev.Q, eq_self, forall_eq_or_imp, implies_true, forall_const, forall_eq, ↓reduceIte, reduceIte, Nat.reduceEqDiff, Nat.reduceAdd, reduceCtorEq, Nat.reduceSub, Int.reduceToNat, Int.reduceLE, Int.reduceLT, Int.reduceNeg, Nat.reduceBEq, Nat.reduceMul, Nat.reduceLeDiff, Nat.reduceMod, UInt8.reduceOfNat, Nat.reduceLT, Int.reduceEq, Int.reduceAdd, Int.reduceSub, Int.reduceMul]
        repeat' (first | with_reducible assumption | refine And.intro ?_ ?_ | intro _ | (rw [Ev.xStp_eq]; simp -dsimp -implicitDefEqProofs only [CNum, e1, e2, ↓Ev.P, Ev.Q, eq_self, forall_eq_or_imp, implies_true, forall_const, forall_eq, ↓reduceIte, reduceIte, Nat.reduceEqDiff, Nat.reduceAdd, reduceCtorEq, Nat.reduceSub, Int.reduceToNat, Int.reduceLE, Int.reduceLT, Int.reduceNeg, Nat.reduceBEq, Nat.reduceMul, Nat.reduceLeDiff, Nat.reduceMod, UInt8.reduceOfNat, Nat.reduceLT, Int.reduceEq, Int.reduceAdd, Int.reduceSub, Int.reduceMul]))
      | true =>
        cases e3 : cntB B with
        | false =>
          simp -dsimp -implicitDefEqProofs only [S120, S120_0, S120r1, S120_1, R120, CNum, e1, e2, e3, ↓Ev.P, Ev.Q, eq_self, forall_eq_or_imp, implies_true, forall_const, forall_eq, ↓reduceIte, reduceIte, Nat.reduceEqDiff, Nat.reduceAdd, reduceCtorEq, Nat.reduceSub, Int.reduceToNat, Int.reduceLE, Int.reduceLT, Int.reduceNeg, Nat.reduceBEq, Nat.reduceMul, Nat.reduceLeDiff, Nat.reduceMod, UInt8.reduceOfNat, Nat.reduceLT, Int.reduceEq, Int.reduceAdd, Int.reduceSub, Int.reduceMul]
          repeat' (first | with_reducible assumption | refine And.intro ?_ ?_ | intro _ | (rw [Ev.xStp_eq]; simp -dsimp -implicitDefEqProofs only [CNum, e1, e2, e3, ↓Ev.P, Ev.Q, eq_self, forall_eq_or_imp, implies_true, forall_const, forall_eq, ↓reduceIte, reduceIte, Nat.reduceEqDiff, Nat.reduceAdd, reduceCtorEq, Nat.reduceSub, Int.reduceToNat, Int.reduceLE, Int.reduceLT, Int.reduceNeg, Nat.reduceBEq, Nat.reduceMul, Nat.reduceLeDiff, Nat.reduceMod, UInt8.reduceOfNat, Nat.reduceLT, Int.reduceEq, Int.reduceAdd, Int.reduceSub, Int.reduceMul]))
        | true =>
          have e4 : cntB BN = false := by
            cases e4 : cntB BN with
            | false => rfl
            | true => exact absurd ⟨⟨⟨e1, e2⟩, e3⟩, e4⟩ hn
          simp -dsimp -implicitDefEqProofs only [S120, S120_0, S120r1, S120_1, R120, CNum, e1, e2, e3, e4, ↓Ev.P, Ev.Q, eq_self, forall_eq_or_imp, implies_true, forall_const, forall_eq, ↓reduceIte, reduceIte, Nat.reduceEqDiff, Nat.reduceAdd, reduceCtorEq, Nat.reduceSub, Int.reduceToNat, Int.reduceLE, Int.reduceLT, Int.reduceNeg, Nat.reduceBEq, Nat.reduceMul, Nat.reduceLeDiff, Nat.reduceMod, UInt8.reduceOfNat, Nat.reduceLT, Int.reduceEq, Int.reduceAdd, Int.reduceSub, Int.reduceMul]
          repeat' (first | with_reducible assumption | refine And.intro ?_ ?_ | intro _ | (rw [Ev.xStp_eq]; simp -dsimp -implicitDefEqProofs only [CNum, e1, e2, e3, e4, ↓Ev.P, Ev.Q, eq_self, forall_eq_or_imp, implies_true, forall_const, forall_eq, ↓reduceIte, reduceIte, Nat.reduceEqDiff, Nat.reduceAdd, reduceCtorEq, Nat.reduceSub, Int.reduceToNat, Int.reduceLE, Int.reduceLT, Int.reduceNeg, Nat.reduceBEq, Nat.reduceMul, Nat.reduceLeDiff, Nat.reduceMod, UInt8.reduceOfNat, Nat.reduceLT, Int.reduceEq, Int.reduceAdd, Int.reduceSub, Int.reduceMul]))
end Go.Proofs.YtpbkdcfjlbdgfaaDoor
set_option linter.unusedVariables false
set_option linter.unusedSimpArgs false
namespace Go.Proofs.YtpbkdcfjlbdgfaaDoor
open Go Go.Ev
set_option maxRecDepth 100000
variable {G : World → Prop}
/-- A hunk: its four numbers, its lines. -/
abbrev Hk := (Int × Int × Int × Int) × List Mk
abbrev hk0 : Hk := ((0, 0, 0, 0), [])
def hkRow (h : Hk) : List D := [.v (.int .i64 h.1.1), .v (.int .i64 h.1.2.1), .v (.int .i64 h.1.2.2.1), .v (.int .i64 h.1.2.2.2), .sl (mkRows h.2)]
def hkRows (l : List Hk) : List (List D) := l.map hkRow
theorem hkRows_len (l : List Hk) : (hkRows l).length = l.length := by simp [hkRows]
theorem hkRows_get {l : List Hk} {i : Nat} (h : i < l.length) : (hkRows l)[i]? = some (hkRow (l.getD i hk0)) := by
  simp [hkRows, List.getD_eq_getElem?_getD, List.getElem?_eq_getElem h]
theorem hkRows_getD {l : List Hk} {i : Nat} (h : i < l.length) : (hkRows l).getD i [] = hkRow (l.getD i hk0) := by rw [List.getD_eq_getElem?_getD, hkRows_get h]; rfl
theorem hkRows_all (l : List Hk) : (∀ r ∈ hkRows l, r.length = 5) = True := by
  refine eq_true fun r hr => ?_
  obtain ⟨m, _, rfl⟩ := List.mem_map.1 hr
  rfl
def unHk : List (List D) → Option (List Hk)
  | [] => some []
  | [.v (.int .i64 a), .v (.int .i64 b), .v (.int .i64 c), .v (.int .i64 d), .sl rows] :: r => (unMk rows).bind fun l => (unHk r).map (((a, b, c, d), l) :: ·)
  | _ => none
theorem unHk_rows : ∀ l : List Hk, unHk (hkRows l) = some l
  | [] => rfl
  | h :: r => by
    have := unHk_rows r
    unfold hkRows at this
    simp [hkRows, hkRow, unHk, unMk_rows, this]
theorem unHk_eq : ∀ {rows : List (List D)} {l : List Hk}, unHk rows = some l → rows = hkRows l
  | [], l, h => by simp only [unHk, Option.some.injEq] at h; subst h; rfl
  | x :: r, l, h => by
    unfold unHk at h
    split at h
    · rename_i e; cases e
    · rename_i a b c d rows r' e
      simp only [List.cons.injEq] at e
      obtain ⟨rfl, rfl⟩ := e
      obtain ⟨m, h1, h3⟩ := Option.bind_eq_some_iff.1 h
      obtain ⟨k, h2, rfl⟩ := Option.map_eq_some_iff.1 h3
      rw [unHk_eq h2, unMk_eq h1]
      simp [hkRows, hkRow]
    · cases h
theorem hk_mem {l : List Hk} {i : Nat} (h : i < l.length) : l.getD i hk0 ∈ l := by simp [List.getD_eq_getElem?_getD, List.getElem?_eq_getElem h]
theorem hk_drop {l : List Hk} {i : Nat} (h : i < l.length) : l.drop i = l.getD i hk0 :: l.drop (i + 1) := by
  rw [List.drop_eq_getElem_cons h]; simp [List.getD_eq_getElem?_getD, List.getElem?_eq_getElem h]
theorem hk_take {l : List Hk} {i : Nat} (h : i < l.length) : l.take (i + 1) = l.take i ++ [l.getD i hk0] := by
  rw [List.take_succ_eq_append_getElem h]; simp [List.getD_eq_getElem?_getD, List.getElem?_eq_getElem h]
def chkH (h : Hk) : Int := hkChk h.1.1 h.1.2.1 h.1.2.2.1 h.1.2.2.2 h.2
/-- Hunks of a size that a machine can hold. -/
def smH (l : List Hk) : Prop := l.length ≤ 1099511627776 ∧ ∀ h ∈ l, h.2.length ≤ 1099511627776 ∧ ∀ m ∈ h.2, m.2.length ≤ 1099511627776
def badHs : List Hk → Int
  | [] => 0
  | h :: r => if chkH h = 0 then badHs r else chkH h
def wrongT (o n : List UInt8) (l : List Hk) : Int := if 64 < o.length ∨ 64 < n.length then 253 else if 4096 < l.length then 9 else badHs l
def CWrong : Contract := pureC fun args => match args with
  | [.agg [.d (.v (.string o)), .d (.v (.string n)), .d (.sl rows)]] => (unHk rows).map fun l => (smH l, .d (.v (.int .i64 (wrongT o.data.toList n.data.toList l))))
  | _ => none
set_option maxHeartbeats 4000000 in
theorem s73 : Sound G Tryd.prog 73 CWrong := by
  refine sd73 (T := tabT [(120, CHk)]) (tab_cons s120 tab_nil) (pureC_lawful _) (pure_hX fun args p x K h hp hk => ?_)
  split at h <;> simp only [Option.map_eq_some_iff, Prod.mk.injEq, reduceCtorEq] at h
  obtain ⟨l, hl, rfl, rfl⟩ := h
  rw [unHk_eq hl] at *
  rename_i o n rows
  obtain ⟨o, rfl⟩ := ex_str o
  obtain ⟨n, rfl⟩ := ex_str n
  simp only [sem_str] at hk
  obtain ⟨h1, h2⟩ := hp
  unfold wrongT at hk
  refine ⟨Nat.le_of_ble_eq_true rfl, ?_⟩
  by_cases ho : (64 : Int) < o.length
  · rw [if_pos (.inl (by omega))] at hk
    simp -dsimp -implicitDefEqProofs only [S73, R73, ho, ↓Ev.P, Ev.Q, eq_self, forall_eq_or_imp, implies_true, forall_const, forall_eq, ↓reduceIte, reduceIte, Nat.reduceEqDiff, Nat.reduceAdd, reduceCtorEq, Nat.reduceSub, Int.reduceToNat, Int.reduceLE, Int.reduceLT, Int.reduceNeg, Nat.reduceBEq, Nat.reduceMul, Nat.reduceLeDiff, Nat.reduceMod, UInt8.reduceOfNat, Nat.reduceLT, Int.reduceEq, Int.reduceAdd, Int.reduceSub, Int.reduceMul]
    repeat' (first | with_reducible assumption | refine And.intro ?_ ?_ | intro _ | (rw [Ev.xStp_eq]; simp -dsimp -implicitDefEqProofs only [ho, ↓Ev.P, Ev.Q, eq_self, forall_eq_or_imp, implies_true, forall_const, forall_eq, ↓reduceIte, reduceIte, Nat.reduceEqDiff, Nat.reduceAdd, reduceCtorEq, Nat.reduceSub, Int.reduceToNat, Int.reduceLE, Int.reduceLT, Int.reduceNeg, Nat.reduceBEq, Nat.reduceMul, Nat.reduceLeDiff, Nat.reduceMod, UInt8.reduceOfNat, Nat.reduceLT, Int.reduceEq, Int.reduceAdd, Int.reduceSub, Int.reduceMul]))
  · by_cases hn : (64 : Int) < n.length
    · rw [if_pos (.inr (by omega))] at hk
      simp -dsimp -implicitDefEqProofs only [S73, R73, ho, hn, ↓Ev.P, Ev.Q, eq_self, forall_eq_or_imp, implies_true, forall_const, forall_eq, ↓reduceIte, reduceIte, Nat.reduceEqDiff, Nat.reduceAdd, reduceCtorEq, Nat.reduceSub, Int.reduceToNat, Int.reduceLE, Int.reduceLT, Int.reduceNeg, Nat.reduceBEq, Nat.reduceMul, Nat.reduceLeDiff, Nat.reduceMod, UInt8.reduceOfNat, Nat.reduceLT, Int.reduceEq, Int.reduceAdd, Int.reduceSub, Int.reduceMul]
      repeat' (first | with_reducible assumption | refine And.intro ?_ ?_ | intro _ | (rw [Ev.xStp_eq]; simp -dsimp -implicitDefEqProofs only [ho, hn, ↓Ev.P, Ev.Q, eq_self, forall_eq_or_imp, implies_true, forall_const, forall_eq, ↓reduceIte, reduceIte, Nat.reduceEqDiff, Nat.reduceAdd, reduceCtorEq, Nat.reduceSub, Int.reduceToNat, Int.reduceLE, Int.reduceLT, Int.reduceNeg, Nat.reduceBEq, Nat.reduceMul, Nat.reduceLeDiff, Nat.reduceMod, UInt8.reduceOfNat, Nat.reduceLT, Int.reduceEq, Int.reduceAdd, Int.reduceSub, Int.reduceMul]))
    · rw [if_neg (by omega)] at hk
      by_cases hh : (4096 : Int) < l.length
      · rw [if_pos (by omega)] at hk
        simp -dsimp -implicitDefEqProofs only [S73, R73, ho, hn, hh, hkRows_len, ↓Ev.P, Ev.Q, eq_self, forall_eq_or_imp, implies_true, forall_const, forall_eq, ↓reduceIte, reduceIte, Nat.reduceEqDiff, Nat.reduceAdd, reduceCtorEq, Nat.reduceSub, Int.reduceToNat, Int.reduceLE, Int.reduceLT, Int.reduceNeg, Nat.reduceBEq, Nat.reduceMul, Nat.reduceLeDiff, Nat.reduceMod, UInt8.reduceOfNat, Nat.reduceLT, Int.reduceEq, Int.reduceAdd, Int.reduceSub, Int.reduceMul]
        repeat' (first | with_reducible assumption | refine And.intro ?_ ?_ | intro _ | (rw [Ev.xStp_eq]; simp -dsimp -implicitDefEqProofs only [ho, hn, hh, hkRows_len, ↓Ev.P, Ev.Q, eq_self, forall_eq_or_imp, implies_true, forall_const, forall_eq, ↓reduceIte, reduceIte, Nat.reduceEqDiff, Nat.reduceAdd, reduceCtorEq, Nat.reduceSub, Int.reduceToNat, Int.reduceLE, Int.reduceLT, Int.reduceNeg, Nat.reduceBEq, Nat.reduceMul, Nat.reduceLeDiff, Nat.reduceMod, UInt8.reduceOfNat, Nat.reduceLT, Int.reduceEq, Int.reduceAdd, Int.reduceSub, Int.reduceMul]))
      · rw [if_neg (by omega)] at hk
        simp -dsimp -implicitDefEqProofs only [S73, R73, ho, hn, hh, hkRows_len, ↓Ev.P, Ev.Q, eq_self, forall_eq_or_imp, implies_true, forall_const, forall_eq, ↓reduceIte, reduceIte, Nat.reduceEqDiff, Nat.reduceAdd, reduceCtorEq, Nat.reduceSub, Int.reduceToNat, Int.reduceLE, Int.reduceLT, Int.reduceNeg, Nat.reduceBEq, Nat.reduceMul, Nat.reduceLeDiff, Nat.reduceMod, UInt8.reduceOfNat, Nat.reduceLT, Int.reduceEq, Int.reduceAdd, Int.reduceSub, Int.reduceMul]
        repeat' (first | with_reducible assumption | refine And.intro ?_ ?_ | intro _ | (rw [Ev.xStp_eq]; simp -dsimp -implicitDefEqProofs only [ho, hn, hh, hkRows_len, ↓Ev.P, Ev.Q, eq_self, forall_eq_or_imp, implies_true, forall_const, forall_eq, ↓reduceIte, reduceIte, Nat.reduceEqDiff, Nat.reduceAdd, reduceCtorEq, Nat.reduceSub, Int.reduceToNat, Int.reduceLE, Int.reduceLT, Int.reduceNeg, Nat.reduceBEq, Nat.reduceMul, Nat.reduceLeDiff, Nat.reduceMod, UInt8.reduceOfNat, Nat.reduceLT, Int.reduceEq, Int.reduceAdd, Int.reduceSub, Int.reduceMul]))
        refine xLoop_intro (fun k st => ∃ i : Nat, i ≤ l.length ∧ k = l.length - i ∧ badHs (l.drop i) = badHs l ∧
          st = ⟨[(1, .ptr 0 0), (3, .d (.v (.int .i64 i)))], 1, [(0, .cells 34 [.d (.v (.string ⟨o.toArray⟩)), .d (.v (.string ⟨n.toArray⟩)), .d (.sl (hkRows l))])]⟩) l.length [0] ?_ ?_ ?_
        · simp -dsimp -implicitDefEqProofs only [↓Ev.xStp_eq, ↓Ev.P, Ev.Q, eq_self, forall_eq_or_imp, implies_true, forall_const, forall_eq, ↓reduceIte, reduceIte, Nat.reduceEqDiff, Nat.reduceAdd, reduceCtorEq, Nat.reduceSub, Int.reduceToNat, Int.reduceLE, Int.reduceLT, Int.reduceNeg, Nat.reduceBEq, Nat.reduceMul, Nat.reduceLeDiff, Nat.reduceMod, UInt8.reduceOfNat, Nat.reduceLT, Int.reduceEq, Int.reduceAdd, Int.reduceSub, Int.reduceMul]
        · simp -dsimp -implicitDefEqProofs only [↓Ev.xStp_eq, ↓Ev.P, Ev.Q, eq_self, forall_eq_or_imp, implies_true, forall_const, forall_eq, ↓reduceIte, reduceIte, Nat.reduceEqDiff, Nat.reduceAdd, reduceCtorEq, Nat.reduceSub, Int.reduceToNat, Int.reduceLE, Int.reduceLT, Int.reduceNeg, Nat.reduceBEq, Nat.reduceMul, Nat.reduceLeDiff, Nat.reduceMod, UInt8.reduceOfNat, Nat.reduceLT, Int.reduceEq, Int.reduceAdd, Int.reduceSub, Int.reduceMul]
          exact ⟨0, by omega, by omega, rfl, rfl⟩
        · rintro k st ⟨i, hi, hk2, hb, rfl⟩
          by_cases hil : i < l.length
          · have hi3 : (i : Int) < l.length := by omega
            have hg := hkRows_get hil
            have hd := hk_drop hil
            have hm := h2 _ (hk_mem hil)
            generalize l.getD i hk0 = h at hg hd hm
            obtain ⟨⟨A, AN, B, BN⟩, ml⟩ := h
            rw [hd, badHs] at hb
            simp only at hm
            by_cases hc : hkChk A AN B BN ml = 0
            · rw [if_pos (show chkH ((A, AN, B, BN), ml) = 0 from hc)] at hb
              simp -dsimp -implicitDefEqProofs only [hg, hi3, hc, hkRow, hkRows_len, CHk, unMk_rows, Ev.St.giveC, ↓Ev.xStp_eq, ↓Ev.P, Ev.Q, eq_self, forall_eq_or_imp, implies_true, forall_const, forall_eq, ↓reduceIte, reduceIte, Nat.reduceEqDiff, Nat.reduceAdd, reduceCtorEq, Nat.reduceSub, Int.reduceToNat, Int.reduceLE, Int.reduceLT, Int.reduceNeg, Nat.reduceBEq, Nat.reduceMul, Nat.reduceLeDiff, Nat.reduceMod, UInt8.reduceOfNat, Nat.reduceLT, Int.reduceEq, Int.reduceAdd, Int.reduceSub, Int.reduceMul]
              repeat' (first | with_reducible assumption | refine And.intro ?_ ?_ | intro _)
              all_goals first | omega | exact hm.2 | skip
              refine xAgain_intro (l.length - (i + 1)) [0] (by omega) (by simp -dsimp -implicitDefEqProofs only [↓Ev.xStp_eq, ↓Ev.P, Ev.Q, eq_self, forall_eq_or_imp, implies_true, forall_const, forall_eq, ↓reduceIte, reduceIte, Nat.reduceEqDiff, Nat.reduceAdd, reduceCtorEq, Nat.reduceSub, Int.reduceToNat, Int.reduceLE, Int.reduceLT, Int.reduceNeg, Nat.reduceBEq, Nat.reduceMul, Nat.reduceLeDiff, Nat.reduceMod, UInt8.reduceOfNat, Nat.reduceLT, Int.reduceEq, Int.reduceAdd, Int.reduceSub, Int.reduceMul]) ⟨i + 1, by omega, rfl, hb, ?_⟩
              simp -dsimp -implicitDefEqProofs only [↓Ev.xStp_eq, ↓Ev.P, Ev.Q, eq_self, forall_eq_or_imp, implies_true, forall_const, forall_eq, ↓reduceIte, reduceIte, Nat.reduceEqDiff, Nat.reduceAdd, reduceCtorEq, Nat.reduceSub, Int.reduceToNat, Int.reduceLE, Int.reduceLT, Int.reduceNeg, Nat.reduceBEq, Nat.reduceMul, Nat.reduceLeDiff, Nat.reduceMod, UInt8.reduceOfNat, Nat.reduceLT, Int.reduceEq, Int.reduceAdd, Int.reduceSub, Int.reduceMul]
              rfl
            · rw [if_neg (show ¬ chkH ((A, AN, B, BN), ml) = 0 from hc)] at hb
              rw [← (show hkChk A AN B BN ml = badHs l from hb)] at hk
              simp -dsimp -implicitDefEqProofs only [hg, hi3, hc, hkRow, hkRows_len, CHk, unMk_rows, Ev.St.giveC, ↓Ev.xStp_eq, ↓Ev.P, Ev.Q, eq_self, forall_eq_or_imp, implies_true, forall_const, forall_eq, ↓reduceIte, reduceIte, Nat.reduceEqDiff, Nat.reduceAdd, reduceCtorEq, Nat.reduceSub, Int.reduceToNat, Int.reduceLE, Int.reduceLT, Int.reduceNeg, Nat.reduceBEq, Nat.reduceMul, Nat.reduceLeDiff, Nat.reduceMod, UInt8.reduceOfNat, Nat.reduceLT, Int.reduceEq, Int.reduceAdd, Int.reduceSub, Int.reduceMul]
              repeat' (first | with_reducible assumption | refine And.intro ?_ ?_ | intro _)
              all_goals first | omega | exact hm.2 | skip
          · have hi3 : ¬ (i : Int) < l.length := by omega
            rw [← hb, List.drop_of_length_le (by omega)] at hk
            simp -dsimp -implicitDefEqProofs only [hi3, hkRows_len, ↓Ev.xStp_eq, ↓Ev.P, Ev.Q, eq_self, forall_eq_or_imp, implies_true, forall_const, forall_eq, ↓reduceIte, reduceIte, Nat.reduceEqDiff, Nat.reduceAdd, reduceCtorEq, Nat.reduceSub, Int.reduceToNat, Int.reduceLE, Int.reduceLT, Int.reduceNeg, Nat.reduceBEq, Nat.reduceMul, Nat.reduceLeDiff, Nat.reduceMod, UInt8.reduceOfNat, Nat.reduceLT, Int.reduceEq, Int.reduceAdd, Int.reduceSub, Int.reduceMul]
            exact hk
theorem s65 : Sound G Tryd.prog 65 CWrong := by
  refine sd65 (T := tabT [(73, CWrong)]) (tab_cons s73 tab_nil) (pureC_lawful _) (pure_hX fun args p x K h hp hk => ?_)
  split at h <;> simp only [Option.map_eq_some_iff, Prod.mk.injEq, reduceCtorEq] at h
  obtain ⟨l, hl, rfl, rfl⟩ := h
  rw [unHk_eq hl] at *
  refine ⟨Nat.le_of_ble_eq_true rfl, ?_⟩
  simp -dsimp -implicitDefEqProofs only [S65, R65, CWrong, unHk_rows, Ev.St.giveC, ↓Ev.xStp_eq, ↓Ev.P, Ev.Q, eq_self, forall_eq_or_imp, implies_true, forall_const, forall_eq, ↓reduceIte, reduceIte, Nat.reduceEqDiff, Nat.reduceAdd, reduceCtorEq, Nat.reduceSub, Int.reduceToNat, Int.reduceLE, Int.reduceLT, Int.reduceNeg, Nat.reduceBEq, Nat.reduceMul, Nat.reduceLeDiff, Nat.reduceMod, UInt8.reduceOfNat, Nat.reduceLT, Int.reduceEq, Int.reduceAdd, Int.reduceSub, Int.reduceMul]
  exact ⟨hp, hk⟩
def cntT (p n : Int) : List UInt8 := if n = 1 then Lib.itoa p else Lib.itoa p ++ [44] ++ Lib.itoa n
def CCnt : Contract := pureC fun args => match args with
  | [.d (.v (.int .i64 a)), .d (.v (.int .i64 n))] => some ((0 ≤ a ∧ a ≤ 4294967296) ∧ (0 ≤ n ∧ n ≤ 4294967296), .d (.v (str (cntT a n))))
  | _ => none
theorem cnt_len {a n : Int} (h : (0 ≤ a ∧ a ≤ 4294967296) ∧ (0 ≤ n ∧ n ≤ 4294967296)) : (cntT a n).length ≤ 43 := by
  have h1 := itoa_len (n := a) (by omega)
  have h2 := itoa_len (n := n) (by omega)
  unfold cntT
  split
  · omega
  · simp only [List.length_append, List.length_cons, List.length_nil]; omega
theorem s64 (hG : ∀ w, G w → Pow10 w) : Sound G Tryd.prog 64 CCnt := by
  refine sd64 (T := tabT [(32, CItoa)]) (tab_cons (s32 hG) tab_nil) (pureC_lawful _) (pure_hX fun args p x K h hp hk => ?_)
  split at h <;> simp only [Option.some.injEq, Prod.mk.injEq, reduceCtorEq] at h
  obtain ⟨rfl, rfl⟩ := h
  refine ⟨Nat.le_of_ble_eq_true rfl, ?_⟩
  rename_i a n
  have h1 := itoa_len (n := a) (by omega)
  have h2 := itoa_len (n := n) (by omega)
  simp -dsimp -implicitDefEqProofs only [S64, R64, CItoa, List.length_append, ↓Ev.xStp_eq, ↓Ev.P, Ev.Q, eq_self, forall_eq_or_imp, implies_true, forall_const, forall_eq, ↓reduceIte, reduceIte, Nat.reduceEqDiff, Nat.reduceAdd, reduceCtorEq, Nat.reduceSub, Int.reduceToNat, Int.reduceLE, Int.reduceLT, Int.reduceNeg, Nat.reduceBEq, Nat.reduceMul, Nat.reduceLeDiff, Nat.reduceMod, UInt8.reduceOfNat, Nat.reduceLT, Int.reduceEq, Int.reduceAdd, Int.reduceSub, Int.reduceMul]
  by_cases hn : n = 1
  · rw [cntT, if_pos hn] at hk
    repeat' (first | with_reducible assumption | refine And.intro ?_ ?_ | intro _)
    all_goals first | omega | exact hk
  · rw [cntT, if_neg hn] at hk
    repeat' (first | with_reducible assumption | refine And.intro ?_ ?_ | intro _)
    all_goals first | omega | exact hk
theorem s67 : Sound G Tryd.prog 67 CCnt := by
  refine sd67 (T := tabT [(33, CItoa)]) (tab_cons s33 tab_nil) (pureC_lawful _) (pure_hX fun args p x K h hp hk => ?_)
  split at h <;> simp only [Option.some.injEq, Prod.mk.injEq, reduceCtorEq] at h
  obtain ⟨rfl, rfl⟩ := h
  refine ⟨Nat.le_of_ble_eq_true rfl, ?_⟩
  rename_i a n
  have h1 := itoa_len (n := a) (by omega)
  have h2 := itoa_len (n := n) (by omega)
  simp -dsimp -implicitDefEqProofs only [S67, R67, CItoa, List.length_append, ↓Ev.xStp_eq, ↓Ev.P, Ev.Q, eq_self, forall_eq_or_imp, implies_true, forall_const, forall_eq, ↓reduceIte, reduceIte, Nat.reduceEqDiff, Nat.reduceAdd, reduceCtorEq, Nat.reduceSub, Int.reduceToNat, Int.reduceLE, Int.reduceLT, Int.reduceNeg, Nat.reduceBEq, Nat.reduceMul, Nat.reduceLeDiff, Nat.reduceMod, UInt8.reduceOfNat, Nat.reduceLT, Int.reduceEq, Int.reduceAdd, Int.reduceSub, Int.reduceMul]
  by_cases hn : n = 1
  · rw [cntT, if_pos hn] at hk
    repeat' (first | with_reducible assumption | refine And.intro ?_ ?_ | intro _)
    all_goals first | omega | exact hk
  · rw [cntT, if_neg hn] at hk
    repeat' (first | with_reducible assumption | refine And.intro ?_ ?_ | intro _)
    all_goals first | omega | exact hk
end Go.Proofs.YtpbkdcfjlbdgfaaDoor
set_option linter.unusedVariables false
set_option linter.unusedSimpArgs false
namespace Go.Proofs.YtpbkdcfjlbdgfaaDoor
open Go Go.Ev
set_option maxRecDepth 100000
variable {G : World → Prop}
theorem hkRows_one (l : List Hk) (A AN B BN : Int) (m : List Mk) : hkRows l ++ [[.v (.int .i64 A), .v (.int .i64 AN), .v (.int .i64 B), .v (.int .i64 BN), .sl (mkRows m)]] = hkRows (l ++ [((A, AN, B, BN), m)]) := by simp [hkRows, hkRow]
def CCopyH : Contract := stC fun args st => match args, st with
  | [.d (.sl rows)], ⟨0, []⟩ => (unHk rows).map fun l => (smH l, .own 0, ⟨1, [(0, .row 93 5 (hkRows l))]⟩)
  | _, _ => none
set_option maxHeartbeats 1000000 in
theorem s69 : Sound G Tryd.prog 69 CCopyH := by
  refine sd69 (T := tabT []) tab_nil (stC_lawful _) (st_hX fun args st p x st' K h hp hk => ?_)
  split at h <;> simp only [Option.map_eq_some_iff, Prod.mk.injEq, reduceCtorEq] at h
  obtain ⟨l, hl, rfl, rfl, rfl⟩ := h
  rw [unHk_eq hl] at *
  obtain ⟨h1, h2⟩ := hp
  refine ⟨Nat.le_of_ble_eq_true rfl, [0], ?_⟩
  simp -dsimp -implicitDefEqProofs only [S69, R69, ↓Ev.xStp_eq, ↓Ev.P, Ev.Q, Bool.cond_true, Bool.cond_false, eq_self, forall_eq_or_imp, implies_true, forall_const, forall_eq, ↓reduceIte, reduceIte, Nat.reduceEqDiff, Nat.reduceAdd, reduceCtorEq, Nat.reduceSub, Int.reduceToNat, Int.reduceLE, Int.reduceLT, Int.reduceNeg, Nat.reduceBEq, Nat.reduceMul, Nat.reduceLeDiff, Nat.reduceMod, UInt8.reduceOfNat, Nat.reduceLT, Int.reduceEq, Int.reduceAdd, Int.reduceSub, Int.reduceMul]
  refine xLoop_intro (fun n st => ∃ i : Nat, i ≤ l.length ∧ n = l.length - i ∧
      st = ⟨[(0, .d (.sl (hkRows l))), (3, .own 0), (4, .d (.v (.int .i64 i)))], 1, [(0, .row 93 5 (hkRows (l.take i)))]⟩) l.length [0] ?_ ?_ ?_
  · simp -dsimp -implicitDefEqProofs only [↓Ev.xStp_eq, ↓Ev.P, Ev.Q, Bool.cond_true, Bool.cond_false, eq_self, forall_eq_or_imp, implies_true, forall_const, forall_eq, ↓reduceIte, reduceIte, Nat.reduceEqDiff, Nat.reduceAdd, reduceCtorEq, Nat.reduceSub, Int.reduceToNat, Int.reduceLE, Int.reduceLT, Int.reduceNeg, Nat.reduceBEq, Nat.reduceMul, Nat.reduceLeDiff, Nat.reduceMod, UInt8.reduceOfNat, Nat.reduceLT, Int.reduceEq, Int.reduceAdd, Int.reduceSub, Int.reduceMul]
  · simp -dsimp -implicitDefEqProofs only [↓Ev.xStp_eq, ↓Ev.P, Ev.Q, Bool.cond_true, Bool.cond_false, eq_self, forall_eq_or_imp, implies_true, forall_const, forall_eq, ↓reduceIte, reduceIte, Nat.reduceEqDiff, Nat.reduceAdd, reduceCtorEq, Nat.reduceSub, Int.reduceToNat, Int.reduceLE, Int.reduceLT, Int.reduceNeg, Nat.reduceBEq, Nat.reduceMul, Nat.reduceLeDiff, Nat.reduceMod, UInt8.reduceOfNat, Nat.reduceLT, Int.reduceEq, Int.reduceAdd, Int.reduceSub, Int.reduceMul]
    exact ⟨0, by omega, by omega, rfl⟩
  · rintro n st ⟨i, hi, hn, rfl⟩
    by_cases hil : i < l.length
    · have hi3 : (i : Int) < l.length := by omega
      have hg := hkRows_get hil
      have hsn := hk_take hil
      have hm := h2 _ (hk_mem hil)
      have hti : (l.take i).length = i := by simp; omega
      generalize l.getD i hk0 = h at hg hsn hm
      obtain ⟨⟨A, AN, B, BN⟩, m⟩ := h
      simp only at hm
      simp -dsimp -implicitDefEqProofs only [hg, hi3, hkRow, hkRows_len, mkRows_len, mkRows_all, hkRows_one, hti, ↓Ev.xStp_eq, ↓Ev.P, Ev.Q, Bool.cond_true, Bool.cond_false, eq_self, forall_eq_or_imp, implies_true, forall_const, forall_eq, ↓reduceIte, reduceIte, Nat.reduceEqDiff, Nat.reduceAdd, reduceCtorEq, Nat.reduceSub, Int.reduceToNat, Int.reduceLE, Int.reduceLT, Int.reduceNeg, Nat.reduceBEq, Nat.reduceMul, Nat.reduceLeDiff, Nat.reduceMod, UInt8.reduceOfNat, Nat.reduceLT, Int.reduceEq, Int.reduceAdd, Int.reduceSub, Int.reduceMul]
      repeat' (first | with_reducible assumption | refine And.intro ?_ ?_ | intro _)
      all_goals first | omega | skip
      refine xAgain_intro (l.length - (i + 1)) [5] (by omega) (by simp -dsimp -implicitDefEqProofs only [↓Ev.xStp_eq, ↓Ev.P, Ev.Q, Bool.cond_true, Bool.cond_false, eq_self, forall_eq_or_imp, implies_true, forall_const, forall_eq, ↓reduceIte, reduceIte, Nat.reduceEqDiff, Nat.reduceAdd, reduceCtorEq, Nat.reduceSub, Int.reduceToNat, Int.reduceLE, Int.reduceLT, Int.reduceNeg, Nat.reduceBEq, Nat.reduceMul, Nat.reduceLeDiff, Nat.reduceMod, UInt8.reduceOfNat, Nat.reduceLT, Int.reduceEq, Int.reduceAdd, Int.reduceSub, Int.reduceMul]) ⟨i + 1, by omega, rfl, ?_⟩
      rw [hsn]
      simp -dsimp -implicitDefEqProofs only [↓Ev.xStp_eq, ↓Ev.P, Ev.Q, Bool.cond_true, Bool.cond_false, eq_self, forall_eq_or_imp, implies_true, forall_const, forall_eq, ↓reduceIte, reduceIte, Nat.reduceEqDiff, Nat.reduceAdd, reduceCtorEq, Nat.reduceSub, Int.reduceToNat, Int.reduceLE, Int.reduceLT, Int.reduceNeg, Nat.reduceBEq, Nat.reduceMul, Nat.reduceLeDiff, Nat.reduceMod, UInt8.reduceOfNat, Nat.reduceLT, Int.reduceEq, Int.reduceAdd, Int.reduceSub, Int.reduceMul]
      rfl
    · have hi3 : ¬ (i : Int) < l.length := by omega
      simp -dsimp -implicitDefEqProofs only [hi3, hkRows_len, ↓Ev.xStp_eq, ↓Ev.P, Ev.Q, Bool.cond_true, Bool.cond_false, eq_self, forall_eq_or_imp, implies_true, forall_const, forall_eq, ↓reduceIte, reduceIte, Nat.reduceEqDiff, Nat.reduceAdd, reduceCtorEq, Nat.reduceSub, Int.reduceToNat, Int.reduceLE, Int.reduceLT, Int.reduceNeg, Nat.reduceBEq, Nat.reduceMul, Nat.reduceLeDiff, Nat.reduceMod, UInt8.reduceOfNat, Nat.reduceLT, Int.reduceEq, Int.reduceAdd, Int.reduceSub, Int.reduceMul]
      rw [List.take_of_length_le (by omega)]
      exact hk
/-- A patch: two names, hunks. -/
abbrev Pt := (List UInt8 × List UInt8) × List Hk
abbrev pt0 : Pt := (([], []), [])
def ptRow (p : Pt) : List D := [.v (.string ⟨p.1.1.toArray⟩), .v (.string ⟨p.1.2.toArray⟩), .sl (hkRows p.2)]
def ptRows (l : List Pt) : List (List D) := l.map ptRow
theorem ptRows_len (l : List Pt) : (ptRows l).length = l.length := by simp [ptRows]
theorem ptRows_get {l : List Pt} {i : Nat} (h : i < l.length) : (ptRows l)[i]? = some (ptRow (l.getD i pt0)) := by
  simp [ptRows, List.getD_eq_getElem?_getD, List.getElem?_eq_getElem h]
theorem ptRows_all (l : List Pt) : (∀ r ∈ ptRows l, r.length = 3) = True := by
  refine eq_true fun r hr => ?_
  obtain ⟨m, _, rfl⟩ := List.mem_map.1 hr
  rfl
def unPt : List (List D) → Option (List Pt)
  | [] => some []
  | [.v (.string o), .v (.string n), .sl rows] :: r => (unHk rows).bind fun l => (unPt r).map (((o.data.toList, n.data.toList), l) :: ·)
  | _ => none
theorem unPt_rows : ∀ l : List Pt, unPt (ptRows l) = some l
  | [] => rfl
  | h :: r => by
    have := unPt_rows r
    unfold ptRows at this
    simp [ptRows, ptRow, unPt, unHk_rows, this]
theorem unPt_eq : ∀ {rows : List (List D)} {l : List Pt}, unPt rows = some l → rows = ptRows l
  | [], l, h => by simp only [unPt, Option.some.injEq] at h; subst h; rfl
  | x :: r, l, h => by
    unfold unPt at h
    split at h
    · rename_i e; cases e
    · rename_i o n rows r' e
      simp only [List.cons.injEq] at e
      obtain ⟨rfl, rfl⟩ := e
      obtain ⟨m, h1, h3⟩ := Option.bind_eq_some_iff.1 h
      obtain ⟨k, h2, rfl⟩ := Option.map_eq_some_iff.1 h3
      rw [unPt_eq h2, unHk_eq h1]
      obtain ⟨o, rfl⟩ := ex_str o
      obtain ⟨n, rfl⟩ := ex_str n
      simp [ptRows, ptRow]
    · cases h
theorem pt_mem {l : List Pt} {i : Nat} (h : i < l.length) : l.getD i pt0 ∈ l := by simp [List.getD_eq_getElem?_getD, List.getElem?_eq_getElem h]
theorem pt_take {l : List Pt} {i : Nat} (h : i < l.length) : l.take (i + 1) = l.take i ++ [l.getD i pt0] := by
  rw [List.take_succ_eq_append_getElem h]; simp [List.getD_eq_getElem?_getD, List.getElem?_eq_getElem h]
theorem ptRows_one (l : List Pt) (o n : List UInt8) (h : List Hk) : ptRows l ++ [[.v (.string ⟨o.toArray⟩), .v (.string ⟨n.toArray⟩), .sl (hkRows h)]] = ptRows (l ++ [((o, n), h)]) := by simp [ptRows, ptRow]
def smP (l : List Pt) : Prop := l.length ≤ 1099511627776 ∧ ∀ p ∈ l, smH p.2
def CCopyP : Contract := stC fun args st => match args, st with
  | [.d (.sl rows)], ⟨0, []⟩ => (unPt rows).map fun l => (smP l, .own 0, ⟨1, [(0, .row 34 3 (ptRows l))]⟩)
  | _, _ => none
set_option maxHeartbeats 1000000 in
theorem s26 : Sound G Tryd.prog 26 CCopyP := by
  refine sd26 (T := tabT [(69, CCopyH)]) (tab_cons s69 tab_nil) (stC_lawful _) (st_hX fun args st p x st' K h hp hk => ?_)
  split at h <;> simp only [Option.map_eq_some_iff, Prod.mk.injEq, reduceCtorEq] at h
  obtain ⟨l, hl, rfl, rfl, rfl⟩ := h
  rw [unPt_eq hl] at *
  obtain ⟨h1, h2⟩ := hp
  refine ⟨Nat.le_of_ble_eq_true rfl, [0], ?_⟩
  simp -dsimp -implicitDefEqProofs only [S26, R26, ↓Ev.xStp_eq, ↓Ev.P, Ev.Q, Bool.cond_true, Bool.cond_false, eq_self, forall_eq_or_imp, implies_true, forall_const, forall_eq, ↓reduceIte, reduceIte, Nat.reduceEqDiff, Nat.reduceAdd, reduceCtorEq, Nat.reduceSub, Int.reduceToNat, Int.reduceLE, Int.reduceLT, Int.reduceNeg, Nat.reduceBEq, Nat.reduceMul, Nat.reduceLeDiff, Nat.reduceMod, UInt8.reduceOfNat, Nat.reduceLT, Int.reduceEq, Int.reduceAdd, Int.reduceSub, Int.reduceMul]
  refine xLoop_intro (fun n st => ∃ i : Nat, i ≤ l.length ∧ n = l.length - i ∧
      st = ⟨[(0, .d (.sl (ptRows l))), (3, .own 0), (4, .d (.v (.int .i64 i)))], 1, [(0, .row 34 3 (ptRows (l.take i)))]⟩) l.length [0] ?_ ?_ ?_
  · simp -dsimp -implicitDefEqProofs only [↓Ev.xStp_eq, ↓Ev.P, Ev.Q, Bool.cond_true, Bool.cond_false, eq_self, forall_eq_or_imp, implies_true, forall_const, forall_eq, ↓reduceIte, reduceIte, Nat.reduceEqDiff, Nat.reduceAdd, reduceCtorEq, Nat.reduceSub, Int.reduceToNat, Int.reduceLE, Int.reduceLT, Int.reduceNeg, Nat.reduceBEq, Nat.reduceMul, Nat.reduceLeDiff, Nat.reduceMod, UInt8.reduceOfNat, Nat.reduceLT, Int.reduceEq, Int.reduceAdd, Int.reduceSub, Int.reduceMul]
  · simp -dsimp -implicitDefEqProofs only [↓Ev.xStp_eq, ↓Ev.P, Ev.Q, Bool.cond_true, Bool.cond_false, eq_self, forall_eq_or_imp, implies_true, forall_const, forall_eq, ↓reduceIte, reduceIte, Nat.reduceEqDiff, Nat.reduceAdd, reduceCtorEq, Nat.reduceSub, Int.reduceToNat, Int.reduceLE, Int.reduceLT, Int.reduceNeg, Nat.reduceBEq, Nat.reduceMul, Nat.reduceLeDiff, Nat.reduceMod, UInt8.reduceOfNat, Nat.reduceLT, Int.reduceEq, Int.reduceAdd, Int.reduceSub, Int.reduceMul]
    exact ⟨0, by omega, by omega, rfl⟩
  · rintro n st ⟨i, hi, hn, rfl⟩
    by_cases hil : i < l.length
    · have hi3 : (i : Int) < l.length := by omega
      have hg := ptRows_get hil
      have hsn := pt_take hil
      have hm := h2 _ (pt_mem hil)
      have hti : (l.take i).length = i := by simp; omega
      generalize l.getD i pt0 = p at hg hsn hm
      obtain ⟨⟨o, nn⟩, hs⟩ := p
      simp only at hm
      simp -dsimp -implicitDefEqProofs only [hg, hi3, ptRow, ptRows_len, ptRows_one, hti, CCopyH, unHk_rows, ↓Ev.xStp_eq, ↓Ev.P, Ev.Q, Bool.cond_true, Bool.cond_false, eq_self, forall_eq_or_imp, implies_true, forall_const, forall_eq, ↓reduceIte, reduceIte, Nat.reduceEqDiff, Nat.reduceAdd, reduceCtorEq, Nat.reduceSub, Int.reduceToNat, Int.reduceLE, Int.reduceLT, Int.reduceNeg, Nat.reduceBEq, Nat.reduceMul, Nat.reduceLeDiff, Nat.reduceMod, UInt8.reduceOfNat, Nat.reduceLT, Int.reduceEq, Int.reduceAdd, Int.reduceSub, Int.reduceMul]
      repeat' (first | with_reducible assumption | refine And.intro ?_ ?_ | intro _)
      all_goals first | omega | skip
      refine xAgain_intro (l.length - (i + 1)) [4] (by omega) (by simp -dsimp -implicitDefEqProofs only [↓Ev.xStp_eq, ↓Ev.P, Ev.Q, Bool.cond_true, Bool.cond_false, eq_self, forall_eq_or_imp, implies_true, forall_const, forall_eq, ↓reduceIte, reduceIte, Nat.reduceEqDiff, Nat.reduceAdd, reduceCtorEq, Nat.reduceSub, Int.reduceToNat, Int.reduceLE, Int.reduceLT, Int.reduceNeg, Nat.reduceBEq, Nat.reduceMul, Nat.reduceLeDiff, Nat.reduceMod, UInt8.reduceOfNat, Nat.reduceLT, Int.reduceEq, Int.reduceAdd, Int.reduceSub, Int.reduceMul]) ⟨i + 1, by omega, rfl, ?_⟩
      rw [hsn]
      simp -dsimp -implicitDefEqProofs only [↓Ev.xStp_eq, ↓Ev.P, Ev.Q, Bool.cond_true, Bool.cond_false, eq_self, forall_eq_or_imp, implies_true, forall_const, forall_eq, ↓reduceIte, reduceIte, Nat.reduceEqDiff, Nat.reduceAdd, reduceCtorEq, Nat.reduceSub, Int.reduceToNat, Int.reduceLE, Int.reduceLT, Int.reduceNeg, Nat.reduceBEq, Nat.reduceMul, Nat.reduceLeDiff, Nat.reduceMod, UInt8.reduceOfNat, Nat.reduceLT, Int.reduceEq, Int.reduceAdd, Int.reduceSub, Int.reduceMul]
      rfl
    · have hi3 : ¬ (i : Int) < l.length := by omega
      simp -dsimp -implicitDefEqProofs only [hi3, ptRows_len, ↓Ev.xStp_eq, ↓Ev.P, Ev.Q, Bool.cond_true, Bool.cond_false, eq_self, forall_eq_or_imp, implies_true, forall_const, forall_eq, ↓reduceIte, reduceIte, Nat.reduceEqDiff, Nat.reduceAdd, reduceCtorEq, Nat.reduceSub, Int.reduceToNat, Int.reduceLE, Int.reduceLT, Int.reduceNeg, Nat.reduceBEq, Nat.reduceMul, Nat.reduceLeDiff, Nat.reduceMod, UInt8.reduceOfNat, Nat.reduceLT, Int.reduceEq, Int.reduceAdd, Int.reduceSub, Int.reduceMul]
      rw [List.take_of_length_le (by omega)]
      exact hk
theorem s22 : Sound G Tryd.prog 22 CCopyP := by
  refine sd22 (T := tabT [(26, CCopyP)]) (tab_cons s26 tab_nil) (stC_lawful _) (st_hX fun args st p x st' K h hp hk => ?_)
  split at h <;> simp only [Option.map_eq_some_iff, Prod.mk.injEq, reduceCtorEq] at h
  obtain ⟨l, hl, rfl, rfl, rfl⟩ := h
  rw [unPt_eq hl] at *
  refine ⟨Nat.le_of_ble_eq_true rfl, [0], ?_⟩
  simp -dsimp -implicitDefEqProofs only [S22, R22, CCopyP, unPt_rows, ↓Ev.xStp_eq, ↓Ev.P, Ev.Q, Bool.cond_true, Bool.cond_false, eq_self, forall_eq_or_imp, implies_true, forall_const, forall_eq, ↓reduceIte, reduceIte, Nat.reduceEqDiff, Nat.reduceAdd, reduceCtorEq, Nat.reduceSub, Int.reduceToNat, Int.reduceLE, Int.reduceLT, Int.reduceNeg, Nat.reduceBEq, Nat.reduceMul, Nat.reduceLeDiff, Nat.reduceMod, UInt8.reduceOfNat, Nat.reduceLT, Int.reduceEq, Int.reduceAdd, Int.reduceSub, Int.reduceMul]
  exact ⟨hp, hk⟩
/-- The same hunk. -/
def CSame1 : Contract := pureC fun args => match args with
  | [.agg [.d (.v (.int .i64 A)), .d (.v (.int .i64 AN)), .d (.v (.int .i64 B)), .d (.v (.int .i64 BN)), .d (.sl rows)], .agg [.d (.v (.int .i64 A')), .d (.v (.int .i64 AN')), .d (.v (.int .i64 B')), .d (.v (.int .i64 BN')), .d (.sl rows')]] =>
      (unMk rows).bind fun l => (unMk rows').map fun m => (((A, AN, B, BN) = (A', AN', B', BN') ∧ l = m) ∧ l.length ≤ 1099511627776, .d (.v (.bool true)))
  | _ => none
set_option maxHeartbeats 1000000 in
theorem s123 : Sound G Tryd.prog 123 CSame1 := by
  refine sd123 (T := tabT []) tab_nil (pureC_lawful _) (pure_hX fun args p x K h hp hk => ?_)
  split at h <;> simp only [Option.bind_eq_some_iff, Option.map_eq_some_iff, Prod.mk.injEq, reduceCtorEq] at h
  obtain ⟨l, hl, m, hm, rfl, rfl⟩ := h
  rw [unMk_eq hl, unMk_eq hm] at *
  rename_i A AN B BN rows A' AN' B' BN' rows'
  obtain ⟨⟨e, rfl⟩, h1⟩ := hp
  obtain ⟨rfl, rfl, rfl, rfl⟩ := e
  refine ⟨Nat.le_of_ble_eq_true rfl, ?_⟩
  simp -dsimp -implicitDefEqProofs only [S123, R123, mkRows_len, ↓Ev.P, Ev.Q, Bool.cond_true, Bool.cond_false, eq_self, forall_eq_or_imp, implies_true, forall_const, forall_eq, ↓reduceIte, reduceIte, Nat.reduceEqDiff, Nat.reduceAdd, reduceCtorEq, Nat.reduceSub, Int.reduceToNat, Int.reduceLE, Int.reduceLT, Int.reduceNeg, Nat.reduceBEq, Nat.reduceMul, Nat.reduceLeDiff, Nat.reduceMod, UInt8.reduceOfNat, Nat.reduceLT, Int.reduceEq, Int.reduceAdd, Int.reduceSub, Int.reduceMul]
  repeat' (first | with_reducible assumption | refine And.intro ?_ ?_ | intro _ | (rw [Ev.xStp_eq]; simp -dsimp -implicitDefEqProofs only [mkRows_len, ↓Ev.P, Ev.Q, Bool.cond_true, Bool.cond_false, eq_self, forall_eq_or_imp, implies_true, forall_const, forall_eq, ↓reduceIte, reduceIte, Nat.reduceEqDiff, Nat.reduceAdd, reduceCtorEq, Nat.reduceSub, Int.reduceToNat, Int.reduceLE, Int.reduceLT, Int.reduceNeg, Nat.reduceBEq, Nat.reduceMul, Nat.reduceLeDiff, Nat.reduceMod, UInt8.reduceOfNat, Nat.reduceLT, Int.reduceEq, Int.reduceAdd, Int.reduceSub, Int.reduceMul]))
  refine xLoop_intro (fun n st => ∃ i : Nat, i ≤ l.length ∧ n = l.length - i ∧
      st = ⟨[(2, .ptr 0 0), (3, .ptr 1 0), (5, .d (.v (.int .i64 i)))], 2, [(0, .cells 93 [.d (.v (.int .i64 A)), .d (.v (.int .i64 AN)), .d (.v (.int .i64 B)), .d (.v (.int .i64 BN)), .d (.sl (mkRows l))]), (1, .cells 93 [.d (.v (.int .i64 A)), .d (.v (.int .i64 AN)), .d (.v (.int .i64 B)), .d (.v (.int .i64 BN)), .d (.sl (mkRows l))])]⟩) l.length [0, 1] ?_ ?_ ?_
  · simp -dsimp -implicitDefEqProofs only [↓Ev.xStp_eq, ↓Ev.P, Ev.Q, Bool.cond_true, Bool.cond_false, eq_self, forall_eq_or_imp, implies_true, forall_const, forall_eq, ↓reduceIte, reduceIte, Nat.reduceEqDiff, Nat.reduceAdd, reduceCtorEq, Nat.reduceSub, Int.reduceToNat, Int.reduceLE, Int.reduceLT, Int.reduceNeg, Nat.reduceBEq, Nat.reduceMul, Nat.reduceLeDiff, Nat.reduceMod, UInt8.reduceOfNat, Nat.reduceLT, Int.reduceEq, Int.reduceAdd, Int.reduceSub, Int.reduceMul]
  · simp -dsimp -implicitDefEqProofs only [↓Ev.xStp_eq, ↓Ev.P, Ev.Q, Bool.cond_true, Bool.cond_false, eq_self, forall_eq_or_imp, implies_true, forall_const, forall_eq, ↓reduceIte, reduceIte, Nat.reduceEqDiff, Nat.reduceAdd, reduceCtorEq, Nat.reduceSub, Int.reduceToNat, Int.reduceLE, Int.reduceLT, Int.reduceNeg, Nat.reduceBEq, Nat.reduceMul, Nat.reduceLeDiff, Nat.reduceMod, UInt8.reduceOfNat, Nat.reduceLT, Int.reduceEq, Int.reduceAdd, Int.reduceSub, Int.reduceMul]
    exact ⟨0, by omega, by omega, rfl⟩
  · rintro n st ⟨i, hi, hn, rfl⟩
    by_cases hil : i < l.length
    · have hi3 : (i : Int) < l.length := by omega
      have hg := mkRows_get hil
      generalize l.getD i mk0 = m at hg
      obtain ⟨c, t⟩ := m
      simp -dsimp -implicitDefEqProofs only [hg, hi3, mkRow, mkRows_len, ↓Ev.xStp_eq, ↓Ev.P, Ev.Q, Bool.cond_true, Bool.cond_false, eq_self, forall_eq_or_imp, implies_true, forall_const, forall_eq, ↓reduceIte, reduceIte, Nat.reduceEqDiff, Nat.reduceAdd, reduceCtorEq, Nat.reduceSub, Int.reduceToNat, Int.reduceLE, Int.reduceLT, Int.reduceNeg, Nat.reduceBEq, Nat.reduceMul, Nat.reduceLeDiff, Nat.reduceMod, UInt8.reduceOfNat, Nat.reduceLT, Int.reduceEq, Int.reduceAdd, Int.reduceSub, Int.reduceMul]
      repeat' (first | with_reducible assumption | refine And.intro ?_ ?_ | intro _)
      all_goals first | omega | skip
      refine xAgain_intro (l.length - (i + 1)) [0, 1] (by omega) (by simp -dsimp -implicitDefEqProofs only [↓Ev.xStp_eq, ↓Ev.P, Ev.Q, Bool.cond_true, Bool.cond_false, eq_self, forall_eq_or_imp, implies_true, forall_const, forall_eq, ↓reduceIte, reduceIte, Nat.reduceEqDiff, Nat.reduceAdd, reduceCtorEq, Nat.reduceSub, Int.reduceToNat, Int.reduceLE, Int.reduceLT, Int.reduceNeg, Nat.reduceBEq, Nat.reduceMul, Nat.reduceLeDiff, Nat.reduceMod, UInt8.reduceOfNat, Nat.reduceLT, Int.reduceEq, Int.reduceAdd, Int.reduceSub, Int.reduceMul]) ⟨i + 1, by omega, rfl, ?_⟩
      simp -dsimp -implicitDefEqProofs only [↓Ev.xStp_eq, ↓Ev.P, Ev.Q, Bool.cond_true, Bool.cond_false, eq_self, forall_eq_or_imp, implies_true, forall_const, forall_eq, ↓reduceIte, reduceIte, Nat.reduceEqDiff, Nat.reduceAdd, reduceCtorEq, Nat.reduceSub, Int.reduceToNat, Int.reduceLE, Int.reduceLT, Int.reduceNeg, Nat.reduceBEq, Nat.reduceMul, Nat.reduceLeDiff, Nat.reduceMod, UInt8.reduceOfNat, Nat.reduceLT, Int.reduceEq, Int.reduceAdd, Int.reduceSub, Int.reduceMul]
      rfl
    · have hi3 : ¬ (i : Int) < l.length := by omega
      simp -dsimp -implicitDefEqProofs only [hi3, mkRows_len, ↓Ev.xStp_eq, ↓Ev.P, Ev.Q, Bool.cond_true, Bool.cond_false, eq_self, forall_eq_or_imp, implies_true, forall_const, forall_eq, ↓reduceIte, reduceIte, Nat.reduceEqDiff, Nat.reduceAdd, reduceCtorEq, Nat.reduceSub, Int.reduceToNat, Int.reduceLE, Int.reduceLT, Int.reduceNeg, Nat.reduceBEq, Nat.reduceMul, Nat.reduceLeDiff, Nat.reduceMod, UInt8.reduceOfNat, Nat.reduceLT, Int.reduceEq, Int.reduceAdd, Int.reduceSub, Int.reduceMul]
      exact hk
def CSameHs : Contract := pureC fun args => match args with
  | [.d (.sl rows), .d (.sl rows')] => (unHk rows).bind fun l => (unHk rows').map fun m => (l = m ∧ smH l, .d (.v (.bool true)))
  | _ => none
set_option maxHeartbeats 1000000 in
theorem s77 : Sound G Tryd.prog 77 CSameHs := by
  refine sd77 (T := tabT [(123, CSame1)]) (tab_cons s123 tab_nil) (pureC_lawful _) (pure_hX fun args p x K h hp hk => ?_)
  split at h <;> simp only [Option.bind_eq_some_iff, Option.map_eq_some_iff, Prod.mk.injEq, reduceCtorEq] at h
  obtain ⟨l, hl, m, hm, rfl, rfl⟩ := h
  rw [unHk_eq hl, unHk_eq hm] at *
  obtain ⟨rfl, h1, h2⟩ := hp
  refine ⟨Nat.le_of_ble_eq_true rfl, ?_⟩
  simp -dsimp -implicitDefEqProofs only [S77, R77, hkRows_len, ↓Ev.xStp_eq, ↓Ev.P, Ev.Q, Bool.cond_true, Bool.cond_false, eq_self, forall_eq_or_imp, implies_true, forall_const, forall_eq, ↓reduceIte, reduceIte, Nat.reduceEqDiff, Nat.reduceAdd, reduceCtorEq, Nat.reduceSub, Int.reduceToNat, Int.reduceLE, Int.reduceLT, Int.reduceNeg, Nat.reduceBEq, Nat.reduceMul, Nat.reduceLeDiff, Nat.reduceMod, UInt8.reduceOfNat, Nat.reduceLT, Int.reduceEq, Int.reduceAdd, Int.reduceSub, Int.reduceMul]
  refine xLoop_intro (fun n st => ∃ i : Nat, i ≤ l.length ∧ n = l.length - i ∧
      st = ⟨[(0, .d (.sl (hkRows l))), (1, .d (.sl (hkRows l))), (5, .d (.v (.int .i64 i)))], 0, []⟩) l.length [] ?_ ?_ ?_
  · simp -dsimp -implicitDefEqProofs only [↓Ev.xStp_eq, ↓Ev.P, Ev.Q, Bool.cond_true, Bool.cond_false, eq_self, forall_eq_or_imp, implies_true, forall_const, forall_eq, ↓reduceIte, reduceIte, Nat.reduceEqDiff, Nat.reduceAdd, reduceCtorEq, Nat.reduceSub, Int.reduceToNat, Int.reduceLE, Int.reduceLT, Int.reduceNeg, Nat.reduceBEq, Nat.reduceMul, Nat.reduceLeDiff, Nat.reduceMod, UInt8.reduceOfNat, Nat.reduceLT, Int.reduceEq, Int.reduceAdd, Int.reduceSub, Int.reduceMul]
  · simp -dsimp -implicitDefEqProofs only [↓Ev.xStp_eq, ↓Ev.P, Ev.Q, Bool.cond_true, Bool.cond_false, eq_self, forall_eq_or_imp, implies_true, forall_const, forall_eq, ↓reduceIte, reduceIte, Nat.reduceEqDiff, Nat.reduceAdd, reduceCtorEq, Nat.reduceSub, Int.reduceToNat, Int.reduceLE, Int.reduceLT, Int.reduceNeg, Nat.reduceBEq, Nat.reduceMul, Nat.reduceLeDiff, Nat.reduceMod, UInt8.reduceOfNat, Nat.reduceLT, Int.reduceEq, Int.reduceAdd, Int.reduceSub, Int.reduceMul]
    exact ⟨0, by omega, by omega, rfl⟩
  · rintro n st ⟨i, hi, hn, rfl⟩
    by_cases hil : i < l.length
    · have hi3 : (i : Int) < l.length := by omega
      have hg := hkRows_get hil
      have hg2 := hkRows_getD hil
      have hm := h2 _ (hk_mem hil)
      generalize l.getD i hk0 = h at hg hg2 hm
      obtain ⟨⟨A, AN, B, BN⟩, m⟩ := h
      simp only at hm
      simp -dsimp -implicitDefEqProofs only [hg, hg2, hi3, hkRow, hkRows_len, CSame1, unMk_rows, Ev.St.giveC, ↓Ev.xStp_eq, ↓Ev.P, Ev.Q, Bool.cond_true, Bool.cond_false, eq_self, forall_eq_or_imp, implies_true, forall_const, forall_eq, ↓reduceIte, reduceIte, Nat.reduceEqDiff, Nat.reduceAdd, reduceCtorEq, Nat.reduceSub, Int.reduceToNat, Int.reduceLE, Int.reduceLT, Int.reduceNeg, Nat.reduceBEq, Nat.reduceMul, Nat.reduceLeDiff, Nat.reduceMod, UInt8.reduceOfNat, Nat.reduceLT, Int.reduceEq, Int.reduceAdd, Int.reduceSub, Int.reduceMul]
      repeat' (first | with_reducible assumption | refine And.intro ?_ ?_ | intro _)
      all_goals first | omega | rfl | exact hm.1 | skip
      refine xAgain_intro (l.length - (i + 1)) [] (by omega) (by simp -dsimp -implicitDefEqProofs only [↓Ev.xStp_eq, ↓Ev.P, Ev.Q, Bool.cond_true, Bool.cond_false, eq_self, forall_eq_or_imp, implies_true, forall_const, forall_eq, ↓reduceIte, reduceIte, Nat.reduceEqDiff, Nat.reduceAdd, reduceCtorEq, Nat.reduceSub, Int.reduceToNat, Int.reduceLE, Int.reduceLT, Int.reduceNeg, Nat.reduceBEq, Nat.reduceMul, Nat.reduceLeDiff, Nat.reduceMod, UInt8.reduceOfNat, Nat.reduceLT, Int.reduceEq, Int.reduceAdd, Int.reduceSub, Int.reduceMul]) ⟨i + 1, by omega, rfl, ?_⟩
      simp -dsimp -implicitDefEqProofs only [↓Ev.xStp_eq, ↓Ev.P, Ev.Q, Bool.cond_true, Bool.cond_false, eq_self, forall_eq_or_imp, implies_true, forall_const, forall_eq, ↓reduceIte, reduceIte, Nat.reduceEqDiff, Nat.reduceAdd, reduceCtorEq, Nat.reduceSub, Int.reduceToNat, Int.reduceLE, Int.reduceLT, Int.reduceNeg, Nat.reduceBEq, Nat.reduceMul, Nat.reduceLeDiff, Nat.reduceMod, UInt8.reduceOfNat, Nat.reduceLT, Int.reduceEq, Int.reduceAdd, Int.reduceSub, Int.reduceMul]
      rfl
    · have hi3 : ¬ (i : Int) < l.length := by omega
      simp -dsimp -implicitDefEqProofs only [hi3, hkRows_len, ↓Ev.xStp_eq, ↓Ev.P, Ev.Q, Bool.cond_true, Bool.cond_false, eq_self, forall_eq_or_imp, implies_true, forall_const, forall_eq, ↓reduceIte, reduceIte, Nat.reduceEqDiff, Nat.reduceAdd, reduceCtorEq, Nat.reduceSub, Int.reduceToNat, Int.reduceLE, Int.reduceLT, Int.reduceNeg, Nat.reduceBEq, Nat.reduceMul, Nat.reduceLeDiff, Nat.reduceMod, UInt8.reduceOfNat, Nat.reduceLT, Int.reduceEq, Int.reduceAdd, Int.reduceSub, Int.reduceMul]
      exact hk
def CSameP : Contract := pureC fun args => match args with
  | [.agg [.d (.v (.string o)), .d (.v (.string n)), .d (.sl rows)], .agg [.d (.v (.string o')), .d (.v (.string n')), .d (.sl rows')]] => (unHk rows).bind fun l => (unHk rows').map fun m => ((o = o' ∧ n = n' ∧ l = m) ∧ smH l, .d (.v (.bool true)))
  | _ => none
theorem s29 : Sound G Tryd.prog 29 CSameP := by
  refine sd29 (T := tabT [(77, CSameHs)]) (tab_cons s77 tab_nil) (pureC_lawful _) (pure_hX fun args p x K h hp hk => ?_)
  split at h <;> simp only [Option.bind_eq_some_iff, Option.map_eq_some_iff, Prod.mk.injEq, reduceCtorEq] at h
  obtain ⟨l, hl, m, hm, rfl, rfl⟩ := h
  rw [unHk_eq hl, unHk_eq hm] at *
  obtain ⟨⟨rfl, rfl, rfl⟩, h1⟩ := hp
  refine ⟨Nat.le_of_ble_eq_true rfl, ?_⟩
  simp -dsimp -implicitDefEqProofs only [S29, R29, CSameHs, unHk_rows, Ev.St.giveC, ↓Ev.P, Ev.Q, Bool.cond_true, Bool.cond_false, eq_self, forall_eq_or_imp, implies_true, forall_const, forall_eq, ↓reduceIte, reduceIte, Nat.reduceEqDiff, Nat.reduceAdd, reduceCtorEq, Nat.reduceSub, Int.reduceToNat, Int.reduceLE, Int.reduceLT, Int.reduceNeg, Nat.reduceBEq, Nat.reduceMul, Nat.reduceLeDiff, Nat.reduceMod, UInt8.reduceOfNat, Nat.reduceLT, Int.reduceEq, Int.reduceAdd, Int.reduceSub, Int.reduceMul]
  repeat' (first | with_reducible assumption | refine And.intro ?_ ?_ | intro _ | (rw [Ev.xStp_eq]; simp -dsimp -implicitDefEqProofs only [CSameHs, unHk_rows, Ev.St.giveC, ↓Ev.P, Ev.Q, Bool.cond_true, Bool.cond_false, eq_self, forall_eq_or_imp, implies_true, forall_const, forall_eq, ↓reduceIte, reduceIte, Nat.reduceEqDiff, Nat.reduceAdd, reduceCtorEq, Nat.reduceSub, Int.reduceToNat, Int.reduceLE, Int.reduceLT, Int.reduceNeg, Nat.reduceBEq, Nat.reduceMul, Nat.reduceLeDiff, Nat.reduceMod, UInt8.reduceOfNat, Nat.reduceLT, Int.reduceEq, Int.reduceAdd, Int.reduceSub, Int.reduceMul]))
theorem s25 : Sound G Tryd.prog 25 CSameP := by
  refine sd25 (T := tabT [(29, CSameP)]) (tab_cons s29 tab_nil) (pureC_lawful _) (pure_hX fun args p x K h hp hk => ?_)
  split at h <;> simp only [Option.bind_eq_some_iff, Option.map_eq_some_iff, Prod.mk.injEq, reduceCtorEq] at h
  obtain ⟨l, hl, m, hm, rfl, rfl⟩ := h
  rw [unHk_eq hl, unHk_eq hm] at *
  obtain ⟨⟨rfl, rfl, rfl⟩, h1⟩ := hp
  refine ⟨Nat.le_of_ble_eq_true rfl, ?_⟩
  simp -dsimp -implicitDefEqProofs only [S25, R25, CSameP, unHk_rows, Ev.St.giveC, ↓Ev.P, Ev.Q, Bool.cond_true, Bool.cond_false, eq_self, forall_eq_or_imp, implies_true, forall_const, forall_eq, ↓reduceIte, reduceIte, Nat.reduceEqDiff, Nat.reduceAdd, reduceCtorEq, Nat.reduceSub, Int.reduceToNat, Int.reduceLE, Int.reduceLT, Int.reduceNeg, Nat.reduceBEq, Nat.reduceMul, Nat.reduceLeDiff, Nat.reduceMod, UInt8.reduceOfNat, Nat.reduceLT, Int.reduceEq, Int.reduceAdd, Int.reduceSub, Int.reduceMul]
  repeat' (first | with_reducible assumption | refine And.intro ?_ ?_ | intro _ | (rw [Ev.xStp_eq]; simp -dsimp -implicitDefEqProofs only [CSameP, unHk_rows, Ev.St.giveC, ↓Ev.P, Ev.Q, Bool.cond_true, Bool.cond_false, eq_self, forall_eq_or_imp, implies_true, forall_const, forall_eq, ↓reduceIte, reduceIte, Nat.reduceEqDiff, Nat.reduceAdd, reduceCtorEq, Nat.reduceSub, Int.reduceToNat, Int.reduceLE, Int.reduceLT, Int.reduceNeg, Nat.reduceBEq, Nat.reduceMul, Nat.reduceLeDiff, Nat.reduceMod, UInt8.reduceOfNat, Nat.reduceLT, Int.reduceEq, Int.reduceAdd, Int.reduceSub, Int.reduceMul]))
end Go.Proofs.YtpbkdcfjlbdgfaaDoor
set_option linter.unusedVariables false
set_option linter.unusedSimpArgs false
namespace Go.Proofs.YtpbkdcfjlbdgfaaDoor
open Go Go.Ev
set_option maxRecDepth 100000
variable {G : World → Prop}
def uLn (m : Mk) : List UInt8 := lineT [UInt8.ofNat m.1.toNat] m.2
def uHd (A AN B BN : Int) : List UInt8 := [64, 64, 32, 45] ++ cntT A AN ++ [32, 43] ++ cntT B BN ++ [32, 64, 64, 10]
def uHk (h : Hk) : List UInt8 := uHd h.1.1 h.1.2.1 h.1.2.2.1 h.1.2.2.2 ++ h.2.flatMap uLn
def uTop (o n : List UInt8) : List UInt8 := [45, 45, 45, 32] ++ nameS o ++ [10, 43, 43, 43, 32] ++ nameS n ++ [10]
def uPt (o n : List UInt8) (l : List Hk) : List UInt8 := if l = [] then [] else uTop o n ++ l.flatMap uHk
theorem uHk_snoc {l : List Hk} {i : Nat} (h : i < l.length) : (l.take (i + 1)).flatMap uHk = (l.take i).flatMap uHk ++ uHk (l.getD i hk0) := by
  rw [hk_take h, List.flatMap_append]; simp
theorem uHk_le (l : List Hk) (i : Nat) : ((l.take i).flatMap uHk).length ≤ (l.flatMap uHk).length := by
  conv => rhs; rw [← List.take_append_drop i l, List.flatMap_append, List.length_append]
  exact Nat.le_add_right _ _
theorem uLn_snoc {l : List Mk} {i : Nat} (h : i < l.length) : (l.take (i + 1)).flatMap uLn = (l.take i).flatMap uLn ++ uLn (l.getD i mk0) := by
  rw [mk_take h, List.flatMap_append]; simp
theorem uLn_le (l : List Mk) (i : Nat) : ((l.take i).flatMap uLn).length ≤ (l.flatMap uLn).length := by
  conv => rhs; rw [← List.take_append_drop i l, List.flatMap_append, List.length_append]
  exact Nat.le_add_right _ _
theorem chk_ok {A AN B BN : Int} {l : List Mk} (h : hkChk A AN B BN l = 0) : (0 ≤ A ∧ A ≤ 2147483647) ∧ (0 ≤ AN ∧ AN ≤ 2147483647) ∧ (0 ≤ B ∧ B ≤ 2147483647) ∧ (0 ≤ BN ∧ BN ≤ 2147483647) ∧ fieldsT l = true := by
  unfold hkChk at h
  split at h
  · cases h
  · rename_i hn
    split at h
    · cases h
    · rename_i hf
      have k : ∀ n, ¬ cntB n = false → 0 ≤ n ∧ n ≤ 2147483647 := fun n h => cnt_true (by simpa using h)
      exact ⟨k A fun e => hn (.inl (.inl (.inl (.inl (.inl e))))), k AN fun e => hn (.inl (.inl (.inl (.inl (.inr e))))), k B fun e => hn (.inl (.inl (.inl (.inr e)))), k BN fun e => hn (.inl (.inl (.inr e))), by simpa using hf⟩
theorem sign_ok : ∀ {l : List Mk}, fieldsT l = true → ∀ m ∈ l, m.1 = 32 ∨ m.1 = 45 ∨ m.1 = 43
  | m :: r, h, x, hx => by
    simp only [fieldsT, Bool.and_eq_true] at h
    rcases List.mem_cons.1 hx with rfl | hx
    · have := h.1
      simp only [okAt, isO, isN, Bool.and_eq_true, Bool.or_eq_true, decide_eq_true_eq] at this
      rcases this.1.2 with (e | e) | (e | e)
      · exact .inl e
      · exact .inr (.inl e)
      · exact .inl e
      · exact .inr (.inr e)
    · exact sign_ok h.2 x hx
theorem badHs_ok : ∀ {l : List Hk}, badHs l = 0 → ∀ h ∈ l, chkH h = 0
  | h :: r, hb, x, hx => by
    rw [badHs] at hb
    split at hb
    · rename_i h0
      rcases List.mem_cons.1 hx with rfl | hx
      · exact h0
      · exact badHs_ok hb x hx
    · rename_i h0; exact absurd hb h0
theorem wrong_ok {o n : List UInt8} {l : List Hk} (h : wrongT o n l = 0) : o.length ≤ 64 ∧ n.length ≤ 64 ∧ l.length ≤ 4096 ∧ badHs l = 0 := by
  unfold wrongT at h
  split at h
  · cases h
  · split at h
    · cases h
    · exact ⟨by omega, by omega, by omega, h⟩
def CUPrint : Contract := pureC fun args => match args with
  | [.agg [.d (.v (.string o)), .d (.v (.string n)), .d (.sl rows)]] => (unHk rows).map fun l => (smH l ∧ (uPt o.data.toList n.data.toList l).length ≤ 70368744177664,
      .tup [.d (.v (str (if wrongT o.data.toList n.data.toList l = 0 then uPt o.data.toList n.data.toList l else []))), .d (.v (.int .i64 (wrongT o.data.toList n.data.toList l)))])
  | _ => none
set_option maxHeartbeats 4000000 in
theorem s24 : Sound G Tryd.prog 24 CUPrint := by
  refine sd24 (T := tabT [(65, CWrong), (66, C63), (67, CCnt), (68, CLine)]) (tab_cons s65 (tab_cons s66 (tab_cons s67 (tab_cons s68 tab_nil)))) (pureC_lawful _) (pure_hX fun args p x K h hp hk => ?_)
  split at h <;> simp only [Option.map_eq_some_iff, Prod.mk.injEq, reduceCtorEq] at h
  obtain ⟨l, hl, rfl, rfl⟩ := h
  rw [unHk_eq hl] at *
  rename_i o n rows
  obtain ⟨o, rfl⟩ := ex_str o
  obtain ⟨n, rfl⟩ := ex_str n
  simp only [sem_str] at hk hp
  obtain ⟨⟨h1, h2⟩, h3⟩ := hp
  refine ⟨Nat.le_of_ble_eq_true rfl, ?_⟩
  generalize hw : wrongT o n l = e at hk
  have sm : smH l := ⟨h1, h2⟩
  by_cases he : e = 0
  · subst he
    rw [if_pos rfl] at hk
    obtain ⟨w1, w2, w3, w4⟩ := wrong_ok hw
    by_cases h0 : l = []
    · subst h0
      simp -dsimp -implicitDefEqProofs only [S24, R24, ↓Ev.P, Ev.Q, Bool.cond_true, Bool.cond_false, eq_self, forall_eq_or_imp, implies_true, forall_const, forall_eq, ↓reduceIte, reduceIte, Nat.reduceEqDiff, Nat.reduceAdd, reduceCtorEq, Nat.reduceSub, Int.reduceToNat, Int.reduceLE, Int.reduceLT, Int.reduceNeg, Nat.reduceBEq, Nat.reduceMul, Nat.reduceLeDiff, Nat.reduceMod, UInt8.reduceOfNat, Nat.reduceLT, Int.reduceEq, Int.reduceAdd, Int.reduceSub, Int.reduceMul]
      repeat' (first | with_reducible assumption | refine And.intro ?_ ?_ | intro _ | (rw [Ev.xStp_eq]; simp -dsimp -implicitDefEqProofs only [CWrong, unHk_rows, hw, hkRows_len, Ev.St.giveC, ↓Ev.P, Ev.Q, Bool.cond_true, Bool.cond_false, eq_self, forall_eq_or_imp, implies_true, forall_const, forall_eq, ↓reduceIte, reduceIte, Nat.reduceEqDiff, Nat.reduceAdd, reduceCtorEq, Nat.reduceSub, Int.reduceToNat, Int.reduceLE, Int.reduceLT, Int.reduceNeg, Nat.reduceBEq, Nat.reduceMul, Nat.reduceLeDiff, Nat.reduceMod, UInt8.reduceOfNat, Nat.reduceLT, Int.reduceEq, Int.reduceAdd, Int.reduceSub, Int.reduceMul]))
      rw [uPt, if_pos rfl] at hk
      exact hk
    · have hl0 : ¬ (l.length : Int) = 0 := by have := List.length_pos_iff.2 h0; omega
      rw [uPt, if_neg h0] at hk h3
      have n1 := nameS_len o
      have n2 := nameS_len n
      simp -dsimp -implicitDefEqProofs only [S24, R24, ↓Ev.P, Ev.Q, Bool.cond_true, Bool.cond_false, eq_self, forall_eq_or_imp, implies_true, forall_const, forall_eq, ↓reduceIte, reduceIte, Nat.reduceEqDiff, Nat.reduceAdd, reduceCtorEq, Nat.reduceSub, Int.reduceToNat, Int.reduceLE, Int.reduceLT, Int.reduceNeg, Nat.reduceBEq, Nat.reduceMul, Nat.reduceLeDiff, Nat.reduceMod, UInt8.reduceOfNat, Nat.reduceLT, Int.reduceEq, Int.reduceAdd, Int.reduceSub, Int.reduceMul]
      repeat' (first | with_reducible assumption | refine And.intro ?_ ?_ | intro _ | (rw [Ev.xStp_eq]; simp -dsimp -implicitDefEqProofs only [CWrong, C63, unHk_rows, hw, hl0, hkRows_len, List.length_append, Ev.St.giveC, ↓Ev.P, Ev.Q, Bool.cond_true, Bool.cond_false, eq_self, forall_eq_or_imp, implies_true, forall_const, forall_eq, ↓reduceIte, reduceIte, Nat.reduceEqDiff, Nat.reduceAdd, reduceCtorEq, Nat.reduceSub, Int.reduceToNat, Int.reduceLE, Int.reduceLT, Int.reduceNeg, Nat.reduceBEq, Nat.reduceMul, Nat.reduceLeDiff, Nat.reduceMod, UInt8.reduceOfNat, Nat.reduceLT, Int.reduceEq, Int.reduceAdd, Int.reduceSub, Int.reduceMul]))
      all_goals try omega
      refine xLoop_intro (fun k st => ∃ i : Nat, i ≤ l.length ∧ k = l.length - i ∧
        st = ⟨[(1, .ptr 0 0), (5, .d (.v (.string ⟨(uTop o n ++ (l.take i).flatMap uHk).toArray⟩))), (6, .d (.v (.int .i64 i)))], 1, [(0, .cells 34 [.d (.v (.string ⟨o.toArray⟩)), .d (.v (.string ⟨n.toArray⟩)), .d (.sl (hkRows l))])]⟩) l.length [0] ?_ ?_ ?_
      · simp -dsimp -implicitDefEqProofs only [↓Ev.xStp_eq, ↓Ev.P, Ev.Q, Bool.cond_true, Bool.cond_false, eq_self, forall_eq_or_imp, implies_true, forall_const, forall_eq, ↓reduceIte, reduceIte, Nat.reduceEqDiff, Nat.reduceAdd, reduceCtorEq, Nat.reduceSub, Int.reduceToNat, Int.reduceLE, Int.reduceLT, Int.reduceNeg, Nat.reduceBEq, Nat.reduceMul, Nat.reduceLeDiff, Nat.reduceMod, UInt8.reduceOfNat, Nat.reduceLT, Int.reduceEq, Int.reduceAdd, Int.reduceSub, Int.reduceMul]
      · simp -dsimp -implicitDefEqProofs only [↓Ev.xStp_eq, ↓Ev.P, Ev.Q, Bool.cond_true, Bool.cond_false, eq_self, forall_eq_or_imp, implies_true, forall_const, forall_eq, ↓reduceIte, reduceIte, Nat.reduceEqDiff, Nat.reduceAdd, reduceCtorEq, Nat.reduceSub, Int.reduceToNat, Int.reduceLE, Int.reduceLT, Int.reduceNeg, Nat.reduceBEq, Nat.reduceMul, Nat.reduceLeDiff, Nat.reduceMod, UInt8.reduceOfNat, Nat.reduceLT, Int.reduceEq, Int.reduceAdd, Int.reduceSub, Int.reduceMul]
        exact ⟨0, by omega, by omega, by simp [uTop]⟩
      · rintro k st ⟨i, hi, hk2, rfl⟩
        by_cases hil : i < l.length
        · have hi3 : (i : Int) < l.length := by omega
          have hg := hkRows_get hil
          have hsn := uHk_snoc hil
          have hle := uHk_le l (i + 1)
          have hm := h2 _ (hk_mem hil)
          have hc := badHs_ok w4 _ (hk_mem hil)
          rw [hsn, List.length_append] at hle
          generalize l.getD i hk0 = h at hg hsn hle hm hc
          obtain ⟨⟨A, AN, B, BN⟩, m⟩ := h
          obtain ⟨c1, c2, c3, c4, c5⟩ := chk_ok (show hkChk A AN B BN m = 0 from hc)
          simp only at hm
          have g1 := cnt_len (a := A) (n := AN) (by omega)
          have g2 := cnt_len (a := B) (n := BN) (by omega)
          simp only [uHk, uHd, List.length_append, List.length_cons, List.length_nil] at hle h3
          simp -dsimp -implicitDefEqProofs only [hg, hi3, hkRow, hkRows_len, CCnt, List.length_append, Ev.St.giveC, ↓Ev.P, Ev.Q, Bool.cond_true, Bool.cond_false, eq_self, forall_eq_or_imp, implies_true, forall_const, forall_eq, ↓reduceIte, reduceIte, Nat.reduceEqDiff, Nat.reduceAdd, reduceCtorEq, Nat.reduceSub, Int.reduceToNat, Int.reduceLE, Int.reduceLT, Int.reduceNeg, Nat.reduceBEq, Nat.reduceMul, Nat.reduceLeDiff, Nat.reduceMod, UInt8.reduceOfNat, Nat.reduceLT, Int.reduceEq, Int.reduceAdd, Int.reduceSub, Int.reduceMul]
          repeat' (first | with_reducible assumption | refine And.intro ?_ ?_ | intro _ | (rw [Ev.xStp_eq]; simp -dsimp -implicitDefEqProofs only [hg, hi3, hkRow, hkRows_len, CCnt, List.length_append, Ev.St.giveC, ↓Ev.P, Ev.Q, Bool.cond_true, Bool.cond_false, eq_self, forall_eq_or_imp, implies_true, forall_const, forall_eq, ↓reduceIte, reduceIte, Nat.reduceEqDiff, Nat.reduceAdd, reduceCtorEq, Nat.reduceSub, Int.reduceToNat, Int.reduceLE, Int.reduceLT, Int.reduceNeg, Nat.reduceBEq, Nat.reduceMul, Nat.reduceLeDiff, Nat.reduceMod, UInt8.reduceOfNat, Nat.reduceLT, Int.reduceEq, Int.reduceAdd, Int.reduceSub, Int.reduceMul]))
          all_goals try omega
          obtain ⟨X, hX⟩ : ∃ X, X = uTop o n ++ (l.take i).flatMap uHk ++ uHd A AN B BN := ⟨_, rfl⟩
          have hXl : X.length = (uTop o n).length + ((l.take i).flatMap uHk).length + (uHd A AN B BN).length := by rw [hX]; simp only [List.length_append]
          simp only [uHd, List.length_append, List.length_cons, List.length_nil] at hXl
          refine xLoop_intro (fun k st => ∃ j : Nat, j ≤ m.length ∧ k = m.length - j ∧
            st = ⟨[(1, .ptr 0 0), (5, .d (.v (.string ⟨(X ++ (m.take j).flatMap uLn).toArray⟩))), (6, .d (.v (.int .i64 i))), (7, .ptr 1 0), (8, .d (.v (.int .i64 j)))], 2, [(0, .cells 34 [.d (.v (.string ⟨o.toArray⟩)), .d (.v (.string ⟨n.toArray⟩)), .d (.sl (hkRows l))]), (1, .cells 93 [.d (.v (.int .i64 A)), .d (.v (.int .i64 AN)), .d (.v (.int .i64 B)), .d (.v (.int .i64 BN)), .d (.sl (mkRows m))])]⟩) m.length [0, 1] ?_ ?_ ?_
          · simp -dsimp -implicitDefEqProofs only [↓Ev.xStp_eq, ↓Ev.P, Ev.Q, Bool.cond_true, Bool.cond_false, eq_self, forall_eq_or_imp, implies_true, forall_const, forall_eq, ↓reduceIte, reduceIte, Nat.reduceEqDiff, Nat.reduceAdd, reduceCtorEq, Nat.reduceSub, Int.reduceToNat, Int.reduceLE, Int.reduceLT, Int.reduceNeg, Nat.reduceBEq, Nat.reduceMul, Nat.reduceLeDiff, Nat.reduceMod, UInt8.reduceOfNat, Nat.reduceLT, Int.reduceEq, Int.reduceAdd, Int.reduceSub, Int.reduceMul]
          · simp -dsimp -implicitDefEqProofs only [↓Ev.xStp_eq, ↓Ev.P, Ev.Q, Bool.cond_true, Bool.cond_false, eq_self, forall_eq_or_imp, implies_true, forall_const, forall_eq, ↓reduceIte, reduceIte, Nat.reduceEqDiff, Nat.reduceAdd, reduceCtorEq, Nat.reduceSub, Int.reduceToNat, Int.reduceLE, Int.reduceLT, Int.reduceNeg, Nat.reduceBEq, Nat.reduceMul, Nat.reduceLeDiff, Nat.reduceMod, UInt8.reduceOfNat, Nat.reduceLT, Int.reduceEq, Int.reduceAdd, Int.reduceSub, Int.reduceMul]
            exact ⟨0, by omega, by omega, by rw [hX]; simp [uHd]⟩
          · rintro k' st ⟨j, hj, hk3, rfl⟩
            by_cases hjl : j < m.length
            · have hj3 : (j : Int) < m.length := by omega
              have hgm := mkRows_get hjl
              have hsm := uLn_snoc hjl
              have hlm := uLn_le m (j + 1)
              have hmm := hm.2 _ (mk_mem hjl)
              rw [hsm, List.length_append] at hlm
              generalize m.getD j mk0 = x at hgm hsm hlm hmm
              obtain ⟨c, t⟩ := x
              simp only [uLn] at hmm hsm hlm
              simp -dsimp -implicitDefEqProofs only [hgm, hj3, mkRow, mkRows_len, CLine, List.length_append, ↓Ev.P, Ev.Q, Bool.cond_true, Bool.cond_false, eq_self, forall_eq_or_imp, implies_true, forall_const, forall_eq, ↓reduceIte, reduceIte, Nat.reduceEqDiff, Nat.reduceAdd, reduceCtorEq, Nat.reduceSub, Int.reduceToNat, Int.reduceLE, Int.reduceLT, Int.reduceNeg, Nat.reduceBEq, Nat.reduceMul, Nat.reduceLeDiff, Nat.reduceMod, UInt8.reduceOfNat, Nat.reduceLT, Int.reduceEq, Int.reduceAdd, Int.reduceSub, Int.reduceMul]
              repeat' (first | with_reducible assumption | refine And.intro ?_ ?_ | intro _ | (rw [Ev.xStp_eq]; simp -dsimp -implicitDefEqProofs only [hgm, hj3, mkRow, mkRows_len, CLine, List.length_append, ↓Ev.P, Ev.Q, Bool.cond_true, Bool.cond_false, eq_self, forall_eq_or_imp, implies_true, forall_const, forall_eq, ↓reduceIte, reduceIte, Nat.reduceEqDiff, Nat.reduceAdd, reduceCtorEq, Nat.reduceSub, Int.reduceToNat, Int.reduceLE, Int.reduceLT, Int.reduceNeg, Nat.reduceBEq, Nat.reduceMul, Nat.reduceLeDiff, Nat.reduceMod, UInt8.reduceOfNat, Nat.reduceLT, Int.reduceEq, Int.reduceAdd, Int.reduceSub, Int.reduceMul]))
              all_goals try omega
              refine xAgain_intro (m.length - (j + 1)) [0, 1] (by omega) (by simp -dsimp -implicitDefEqProofs only [↓Ev.xStp_eq, ↓Ev.P, Ev.Q, Bool.cond_true, Bool.cond_false, eq_self, forall_eq_or_imp, implies_true, forall_const, forall_eq, ↓reduceIte, reduceIte, Nat.reduceEqDiff, Nat.reduceAdd, reduceCtorEq, Nat.reduceSub, Int.reduceToNat, Int.reduceLE, Int.reduceLT, Int.reduceNeg, Nat.reduceBEq, Nat.reduceMul, Nat.reduceLeDiff, Nat.reduceMod, UInt8.reduceOfNat, Nat.reduceLT, Int.reduceEq, Int.reduceAdd, Int.reduceSub, Int.reduceMul]) ⟨j + 1, by omega, rfl, ?_⟩
              rw [hsm]
              simp -dsimp -implicitDefEqProofs only [↓Ev.xStp_eq, ↓Ev.P, Ev.Q, Bool.cond_true, Bool.cond_false, eq_self, forall_eq_or_imp, implies_true, forall_const, forall_eq, ↓reduceIte, reduceIte, Nat.reduceEqDiff, Nat.reduceAdd, reduceCtorEq, Nat.reduceSub, Int.reduceToNat, Int.reduceLE, Int.reduceLT, Int.reduceNeg, Nat.reduceBEq, Nat.reduceMul, Nat.reduceLeDiff, Nat.reduceMod, UInt8.reduceOfNat, Nat.reduceLT, Int.reduceEq, Int.reduceAdd, Int.reduceSub, Int.reduceMul]
              simp
            · have hj3 : ¬ (j : Int) < m.length := by omega
              simp -dsimp -implicitDefEqProofs only [hj3, mkRows_len, ↓Ev.xStp_eq, ↓Ev.P, Ev.Q, Bool.cond_true, Bool.cond_false, eq_self, forall_eq_or_imp, implies_true, forall_const, forall_eq, ↓reduceIte, reduceIte, Nat.reduceEqDiff, Nat.reduceAdd, reduceCtorEq, Nat.reduceSub, Int.reduceToNat, Int.reduceLE, Int.reduceLT, Int.reduceNeg, Nat.reduceBEq, Nat.reduceMul, Nat.reduceLeDiff, Nat.reduceMod, UInt8.reduceOfNat, Nat.reduceLT, Int.reduceEq, Int.reduceAdd, Int.reduceSub, Int.reduceMul]
              refine ⟨by omega, ?_⟩
              refine xAgain_intro (l.length - (i + 1)) [0] (by omega) (by simp -dsimp -implicitDefEqProofs only [↓Ev.xStp_eq, ↓Ev.P, Ev.Q, Bool.cond_true, Bool.cond_false, eq_self, forall_eq_or_imp, implies_true, forall_const, forall_eq, ↓reduceIte, reduceIte, Nat.reduceEqDiff, Nat.reduceAdd, reduceCtorEq, Nat.reduceSub, Int.reduceToNat, Int.reduceLE, Int.reduceLT, Int.reduceNeg, Nat.reduceBEq, Nat.reduceMul, Nat.reduceLeDiff, Nat.reduceMod, UInt8.reduceOfNat, Nat.reduceLT, Int.reduceEq, Int.reduceAdd, Int.reduceSub, Int.reduceMul]) ⟨i + 1, by omega, rfl, ?_⟩
              rw [hsn, List.take_of_length_le (by omega), hX]
              simp -dsimp -implicitDefEqProofs only [↓Ev.xStp_eq, ↓Ev.P, Ev.Q, Bool.cond_true, Bool.cond_false, eq_self, forall_eq_or_imp, implies_true, forall_const, forall_eq, ↓reduceIte, reduceIte, Nat.reduceEqDiff, Nat.reduceAdd, reduceCtorEq, Nat.reduceSub, Int.reduceToNat, Int.reduceLE, Int.reduceLT, Int.reduceNeg, Nat.reduceBEq, Nat.reduceMul, Nat.reduceLeDiff, Nat.reduceMod, UInt8.reduceOfNat, Nat.reduceLT, Int.reduceEq, Int.reduceAdd, Int.reduceSub, Int.reduceMul]
              simp [uHk, uHd]
        · have hi3 : ¬ (i : Int) < l.length := by omega
          rw [List.take_of_length_le (by omega)]
          simp -dsimp -implicitDefEqProofs only [hi3, hkRows_len, ↓Ev.xStp_eq, ↓Ev.P, Ev.Q, Bool.cond_true, Bool.cond_false, eq_self, forall_eq_or_imp, implies_true, forall_const, forall_eq, ↓reduceIte, reduceIte, Nat.reduceEqDiff, Nat.reduceAdd, reduceCtorEq, Nat.reduceSub, Int.reduceToNat, Int.reduceLE, Int.reduceLT, Int.reduceNeg, Nat.reduceBEq, Nat.reduceMul, Nat.reduceLeDiff, Nat.reduceMod, UInt8.reduceOfNat, Nat.reduceLT, Int.reduceEq, Int.reduceAdd, Int.reduceSub, Int.reduceMul]
          exact hk
  · rw [if_neg he] at hk
    have he' : (e = 0) = False := eq_false he
    simp -dsimp -implicitDefEqProofs only [S24, R24, ↓Ev.P, Ev.Q, Bool.cond_true, Bool.cond_false, eq_self, forall_eq_or_imp, implies_true, forall_const, forall_eq, ↓reduceIte, reduceIte, Nat.reduceEqDiff, Nat.reduceAdd, reduceCtorEq, Nat.reduceSub, Int.reduceToNat, Int.reduceLE, Int.reduceLT, Int.reduceNeg, Nat.reduceBEq, Nat.reduceMul, Nat.reduceLeDiff, Nat.reduceMod, UInt8.reduceOfNat, Nat.reduceLT, Int.reduceEq, Int.reduceAdd, Int.reduceSub, Int.reduceMul]
    repeat' (first | with_reducible assumption | refine And.intro ?_ ?_ | intro _ | (rw [Ev.xStp_eq]; simp -dsimp -implicitDefEqProofs only [CWrong, unHk_rows, hw, he', hkRows_len, Ev.St.giveC, ↓Ev.P, Ev.Q, Bool.cond_true, Bool.cond_false, eq_self, forall_eq_or_imp, implies_true, forall_const, forall_eq, ↓reduceIte, reduceIte, Nat.reduceEqDiff, Nat.reduceAdd, reduceCtorEq, Nat.reduceSub, Int.reduceToNat, Int.reduceLE, Int.reduceLT, Int.reduceNeg, Nat.reduceBEq, Nat.reduceMul, Nat.reduceLeDiff, Nat.reduceMod, UInt8.reduceOfNat, Nat.reduceLT, Int.reduceEq, Int.reduceAdd, Int.reduceSub, Int.reduceMul]))
end Go.Proofs.YtpbkdcfjlbdgfaaDoor
set_option linter.unusedVariables false
set_option linter.unusedSimpArgs false
namespace Go.Proofs.YtpbkdcfjlbdgfaaDoor
open Go Go.Ev
set_option maxRecDepth 100000
variable {G : World → Prop}
theorem enc3 {c : Int} (h : c = 32 ∨ c = 45 ∨ c = 43) : Utf8.encode (IntKind.i32.wrap c) = ⟨[UInt8.ofNat c.toNat].toArray⟩ := by
  rcases h with rfl | rfl | rfl <;> decide +kernel
theorem uLn_eq (c : Int) (t : List UInt8) : uLn (c, t) = [UInt8.ofNat c.toNat] ++ (bareS t).1 ++ [10] ++ (if (bareS t).2 = true then [] else markT) := by
  have h := bare_split t
  rw [uLn, lineT]
  rcases hb : bareS t with ⟨y, f⟩
  rw [hb] at h
  cases f with
  | true => simp only [if_true]; rw [h.1 rfl]; simp
  | false => simp only [Bool.false_eq_true, if_false]; rw [← h.2 rfl]
theorem uPt_snoc (o n : List UInt8) {l : List Hk} {i : Nat} (h : i < l.length) : uPt o n (l.take (i + 1)) = (if i = 0 then uTop o n else uPt o n (l.take i)) ++ uHk (l.getD i hk0) := by
  have hne : ¬ l.take (i + 1) = [] := by rw [hk_take h]; simp
  rw [uPt, if_neg hne, uHk_snoc h]
  by_cases h0 : i = 0
  · subst h0; simp
  · have : ¬ l.take i = [] := by
      intro e
      have : (l.take i).length = 0 := by rw [e]; rfl
      rw [List.length_take] at this
      omega
    rw [if_neg h0, uPt, if_neg this, List.append_assoc]
theorem uPt_le (o n : List UInt8) (l : List Hk) (i : Nat) : (uPt o n (l.take i)).length ≤ (uPt o n l).length := by
  rw [uPt]
  split
  · simp
  · rename_i h
    rw [uPt, if_neg (fun e => h (by rw [e]; simp)), List.length_append, List.length_append]
    have := uHk_le l i
    omega
set_option maxHeartbeats 4000000 in
theorem s23 (hG : ∀ w, G w → Pow10 w) : Sound G Tryd.prog 23 CUPrint := by
  refine sd23 (T := tabT [(62, CHk), (63, C63), (64, CCnt), (58, CBare), (43, bldC gWS), (45, strC 5)]) (tab_cons s62 (tab_cons s63 (tab_cons (s64 hG) (tab_cons s58 (tab_cons sWS (tab_cons sST tab_nil)))))) (pureC_lawful _) (pure_hX fun args p x K h hp hk => ?_)
  split at h <;> simp only [Option.map_eq_some_iff, Prod.mk.injEq, reduceCtorEq] at h
  obtain ⟨l, hl, rfl, rfl⟩ := h
  rw [unHk_eq hl] at *
  rename_i o n rows
  obtain ⟨o, rfl⟩ := ex_str o
  obtain ⟨n, rfl⟩ := ex_str n
  simp only [sem_str] at hk hp
  obtain ⟨⟨h1, h2⟩, h3⟩ := hp
  refine ⟨Nat.le_of_ble_eq_true rfl, ?_⟩
  by_cases ho : (64 : Int) < o.length
  · have hw : wrongT o n l = 253 := by rw [wrongT, if_pos (.inl (by omega))]
    rw [hw, if_neg (by decide)] at hk
    simp -dsimp -implicitDefEqProofs only [S23, R23, ho, ↓Ev.P, Ev.Q, Bool.cond_true, Bool.cond_false, eq_self, forall_eq_or_imp, implies_true, forall_const, forall_eq, ↓reduceIte, reduceIte, Nat.reduceEqDiff, Nat.reduceAdd, reduceCtorEq, Nat.reduceSub, Int.reduceToNat, Int.reduceLE, Int.reduceLT, Int.reduceNeg, Nat.reduceBEq, Nat.reduceMul, Nat.reduceLeDiff, Nat.reduceMod, UInt8.reduceOfNat, Nat.reduceLT, Int.reduceEq, Int.reduceAdd, Int.reduceSub, Int.reduceMul]
    repeat' (first | with_reducible assumption | refine And.intro ?_ ?_ | intro _ | (rw [Ev.xStp_eq]; simp -dsimp -implicitDefEqProofs only [ho, ↓Ev.P, Ev.Q, Bool.cond_true, Bool.cond_false, eq_self, forall_eq_or_imp, implies_true, forall_const, forall_eq, ↓reduceIte, reduceIte, Nat.reduceEqDiff, Nat.reduceAdd, reduceCtorEq, Nat.reduceSub, Int.reduceToNat, Int.reduceLE, Int.reduceLT, Int.reduceNeg, Nat.reduceBEq, Nat.reduceMul, Nat.reduceLeDiff, Nat.reduceMod, UInt8.reduceOfNat, Nat.reduceLT, Int.reduceEq, Int.reduceAdd, Int.reduceSub, Int.reduceMul]))
  · by_cases hn : (64 : Int) < n.length
    · have hw : wrongT o n l = 253 := by rw [wrongT, if_pos (.inr (by omega))]
      rw [hw, if_neg (by decide)] at hk
      simp -dsimp -implicitDefEqProofs only [S23, R23, ho, hn, ↓Ev.P, Ev.Q, Bool.cond_true, Bool.cond_false, eq_self, forall_eq_or_imp, implies_true, forall_const, forall_eq, ↓reduceIte, reduceIte, Nat.reduceEqDiff, Nat.reduceAdd, reduceCtorEq, Nat.reduceSub, Int.reduceToNat, Int.reduceLE, Int.reduceLT, Int.reduceNeg, Nat.reduceBEq, Nat.reduceMul, Nat.reduceLeDiff, Nat.reduceMod, UInt8.reduceOfNat, Nat.reduceLT, Int.reduceEq, Int.reduceAdd, Int.reduceSub, Int.reduceMul]
      repeat' (first | with_reducible assumption | refine And.intro ?_ ?_ | intro _ | (rw [Ev.xStp_eq]; simp -dsimp -implicitDefEqProofs only [ho, hn, ↓Ev.P, Ev.Q, Bool.cond_true, Bool.cond_false, eq_self, forall_eq_or_imp, implies_true, forall_const, forall_eq, ↓reduceIte, reduceIte, Nat.reduceEqDiff, Nat.reduceAdd, reduceCtorEq, Nat.reduceSub, Int.reduceToNat, Int.reduceLE, Int.reduceLT, Int.reduceNeg, Nat.reduceBEq, Nat.reduceMul, Nat.reduceLeDiff, Nat.reduceMod, UInt8.reduceOfNat, Nat.reduceLT, Int.reduceEq, Int.reduceAdd, Int.reduceSub, Int.reduceMul]))
    · by_cases hh : (4096 : Int) < l.length
      · have hw : wrongT o n l = 9 := by rw [wrongT, if_neg (by omega), if_pos (by omega)]
        rw [hw, if_neg (by decide)] at hk
        simp -dsimp -implicitDefEqProofs only [S23, R23, ho, hn, hh, hkRows_len, ↓Ev.P, Ev.Q, Bool.cond_true, Bool.cond_false, eq_self, forall_eq_or_imp, implies_true, forall_const, forall_eq, ↓reduceIte, reduceIte, Nat.reduceEqDiff, Nat.reduceAdd, reduceCtorEq, Nat.reduceSub, Int.reduceToNat, Int.reduceLE, Int.reduceLT, Int.reduceNeg, Nat.reduceBEq, Nat.reduceMul, Nat.reduceLeDiff, Nat.reduceMod, UInt8.reduceOfNat, Nat.reduceLT, Int.reduceEq, Int.reduceAdd, Int.reduceSub, Int.reduceMul]
        repeat' (first | with_reducible assumption | refine And.intro ?_ ?_ | intro _ | (rw [Ev.xStp_eq]; simp -dsimp -implicitDefEqProofs only [ho, hn, hh, hkRows_len, ↓Ev.P, Ev.Q, Bool.cond_true, Bool.cond_false, eq_self, forall_eq_or_imp, implies_true, forall_const, forall_eq, ↓reduceIte, reduceIte, Nat.reduceEqDiff, Nat.reduceAdd, reduceCtorEq, Nat.reduceSub, Int.reduceToNat, Int.reduceLE, Int.reduceLT, Int.reduceNeg, Nat.reduceBEq, Nat.reduceMul, Nat.reduceLeDiff, Nat.reduceMod, UInt8.reduceOfNat, Nat.reduceLT, Int.reduceEq, Int.reduceAdd, Int.reduceSub, Int.reduceMul]))
      · have hw : wrongT o n l = badHs l := by rw [wrongT, if_neg (by omega), if_neg (by omega)]
        rw [hw] at hk
        have n1 := nameS_len o
        have n2 := nameS_len n
        simp -dsimp -implicitDefEqProofs only [S23, R23, ho, hn, hh, hkRows_len, ↓Ev.P, Ev.Q, Bool.cond_true, Bool.cond_false, eq_self, forall_eq_or_imp, implies_true, forall_const, forall_eq, ↓reduceIte, reduceIte, Nat.reduceEqDiff, Nat.reduceAdd, reduceCtorEq, Nat.reduceSub, Int.reduceToNat, Int.reduceLE, Int.reduceLT, Int.reduceNeg, Nat.reduceBEq, Nat.reduceMul, Nat.reduceLeDiff, Nat.reduceMod, UInt8.reduceOfNat, Nat.reduceLT, Int.reduceEq, Int.reduceAdd, Int.reduceSub, Int.reduceMul]
        repeat' (first | with_reducible assumption | refine And.intro ?_ ?_ | intro _ | (rw [Ev.xStp_eq]; simp -dsimp -implicitDefEqProofs only [ho, hn, hh, hkRows_len, ↓Ev.P, Ev.Q, Bool.cond_true, Bool.cond_false, eq_self, forall_eq_or_imp, implies_true, forall_const, forall_eq, ↓reduceIte, reduceIte, Nat.reduceEqDiff, Nat.reduceAdd, reduceCtorEq, Nat.reduceSub, Int.reduceToNat, Int.reduceLE, Int.reduceLT, Int.reduceNeg, Nat.reduceBEq, Nat.reduceMul, Nat.reduceLeDiff, Nat.reduceMod, UInt8.reduceOfNat, Nat.reduceLT, Int.reduceEq, Int.reduceAdd, Int.reduceSub, Int.reduceMul]))
        refine xLoop_intro (fun k st => ∃ i : Nat, i ≤ l.length ∧ k = l.length - i ∧ badHs (l.drop i) = badHs l ∧
          st = ⟨[(1, .ptr 0 0), (4, .ptr 1 0), (27, .d (.sl (hkRows l))), (28, .d (.v (.int .i64 l.length))), (29, .d (.v (.int .i64 i)))], 2, [(0, .cells 34 [.d (.v (.string ⟨o.toArray⟩)), .d (.v (.string ⟨n.toArray⟩)), .d (.sl (hkRows l))]), (1, .bld 70 5 (uPt o n (l.take i)))]⟩) l.length [0, 1] ?_ ?_ ?_
        · simp -dsimp -implicitDefEqProofs only [↓Ev.xStp_eq, ↓Ev.P, Ev.Q, Bool.cond_true, Bool.cond_false, eq_self, forall_eq_or_imp, implies_true, forall_const, forall_eq, ↓reduceIte, reduceIte, Nat.reduceEqDiff, Nat.reduceAdd, reduceCtorEq, Nat.reduceSub, Int.reduceToNat, Int.reduceLE, Int.reduceLT, Int.reduceNeg, Nat.reduceBEq, Nat.reduceMul, Nat.reduceLeDiff, Nat.reduceMod, UInt8.reduceOfNat, Nat.reduceLT, Int.reduceEq, Int.reduceAdd, Int.reduceSub, Int.reduceMul]
        · simp -dsimp -implicitDefEqProofs only [↓Ev.xStp_eq, ↓Ev.P, Ev.Q, Bool.cond_true, Bool.cond_false, eq_self, forall_eq_or_imp, implies_true, forall_const, forall_eq, ↓reduceIte, reduceIte, Nat.reduceEqDiff, Nat.reduceAdd, reduceCtorEq, Nat.reduceSub, Int.reduceToNat, Int.reduceLE, Int.reduceLT, Int.reduceNeg, Nat.reduceBEq, Nat.reduceMul, Nat.reduceLeDiff, Nat.reduceMod, UInt8.reduceOfNat, Nat.reduceLT, Int.reduceEq, Int.reduceAdd, Int.reduceSub, Int.reduceMul]
          exact ⟨0, by omega, by omega, rfl, by simp [uPt]⟩
        · rintro k st ⟨i, hi, hk2, hb, rfl⟩
          by_cases hil : i < l.length
          · have hi3 : (i : Int) < l.length := by omega
            have hg := hkRows_get hil
            have hd := hk_drop hil
            have hsn := uPt_snoc o n hil
            have hle := uPt_le o n l (i + 1)
            have hm := h2 _ (hk_mem hil)
            rw [hd, badHs] at hb
            rw [hsn, List.length_append] at hle
            generalize l.getD i hk0 = h at hg hb hsn hle hm
            obtain ⟨⟨A, AN, B, BN⟩, m⟩ := h
            simp only at hm
            by_cases hc : hkChk A AN B BN m = 0
            · rw [if_pos (show chkH ((A, AN, B, BN), m) = 0 from hc)] at hb
              obtain ⟨c1, c2, c3, c4, c5⟩ := chk_ok hc
              have g1 := cnt_len (a := A) (n := AN) (by omega)
              have g2 := cnt_len (a := B) (n := BN) (by omega)
              have hsg := sign_ok c5
              simp only [uHk, uHd, List.length_append, List.length_cons, List.length_nil] at hle
              by_cases h0 : i = 0
              · have hi0 : ((i : Int) = 0) = True := eq_true (by omega)
                rw [if_pos h0] at hsn hle
                have hu : uPt o n (l.take i) = [] := by rw [h0]; rfl
                simp only [uTop, List.length_append, List.length_cons, List.length_nil] at hle
                simp -dsimp -implicitDefEqProofs only [hg, hi3, hu, hkRow, ↓Ev.P, Ev.Q, Bool.cond_true, Bool.cond_false, eq_self, forall_eq_or_imp, implies_true, forall_const, forall_eq, ↓reduceIte, reduceIte, Nat.reduceEqDiff, Nat.reduceAdd, reduceCtorEq, Nat.reduceSub, Int.reduceToNat, Int.reduceLE, Int.reduceLT, Int.reduceNeg, Nat.reduceBEq, Nat.reduceMul, Nat.reduceLeDiff, Nat.reduceMod, UInt8.reduceOfNat, Nat.reduceLT, Int.reduceEq, Int.reduceAdd, Int.reduceSub, Int.reduceMul]
                repeat' (first | with_reducible assumption | refine And.intro ?_ ?_ | intro _ | (rw [Ev.xStp_eq]; simp -dsimp -implicitDefEqProofs only [hg, hi3, hc, hi0, hkRow, CHk, C63, CCnt, gWS, bldT, unMk_rows, mkRows_len, List.length_append, Ev.St.giveC, ↓Ev.P, Ev.Q, Bool.cond_true, Bool.cond_false, eq_self, forall_eq_or_imp, implies_true, forall_const, forall_eq, ↓reduceIte, reduceIte, Nat.reduceEqDiff, Nat.reduceAdd, reduceCtorEq, Nat.reduceSub, Int.reduceToNat, Int.reduceLE, Int.reduceLT, Int.reduceNeg, Nat.reduceBEq, Nat.reduceMul, Nat.reduceLeDiff, Nat.reduceMod, UInt8.reduceOfNat, Nat.reduceLT, Int.reduceEq, Int.reduceAdd, Int.reduceSub, Int.reduceMul]))
                all_goals first | omega | exact hm.1 | exact hm.2 | skip
                obtain ⟨X, hX⟩ : ∃ X, X = uTop o n ++ uHd A AN B BN := ⟨_, rfl⟩
                have hXl : X.length = (uTop o n).length + (uHd A AN B BN).length := by rw [hX]; simp only [List.length_append]
                simp only [uHd, uTop, List.length_append, List.length_cons, List.length_nil] at hXl
                refine xLoop_intro (fun k st => ∃ j : Nat, j ≤ m.length ∧ k = m.length - j ∧
                  st = ⟨[(1, .ptr 0 0), (4, .ptr 1 0), (27, .d (.sl (hkRows l))), (28, .d (.v (.int .i64 l.length))), (29, .d (.v (.int .i64 i))), (68, .d (.sl (mkRows m))), (69, .d (.v (.int .i64 m.length))), (70, .d (.v (.int .i64 j)))], 2, [(0, .cells 34 [.d (.v (.string ⟨o.toArray⟩)), .d (.v (.string ⟨n.toArray⟩)), .d (.sl (hkRows l))]), (1, .bld 70 5 (X ++ (m.take j).flatMap uLn))]⟩) m.length [0, 1] ?_ ?_ ?_
                · simp -dsimp -implicitDefEqProofs only [↓Ev.xStp_eq, ↓Ev.P, Ev.Q, Bool.cond_true, Bool.cond_false, eq_self, forall_eq_or_imp, implies_true, forall_const, forall_eq, ↓reduceIte, reduceIte, Nat.reduceEqDiff, Nat.reduceAdd, reduceCtorEq, Nat.reduceSub, Int.reduceToNat, Int.reduceLE, Int.reduceLT, Int.reduceNeg, Nat.reduceBEq, Nat.reduceMul, Nat.reduceLeDiff, Nat.reduceMod, UInt8.reduceOfNat, Nat.reduceLT, Int.reduceEq, Int.reduceAdd, Int.reduceSub, Int.reduceMul]
                · simp -dsimp -implicitDefEqProofs only [↓Ev.xStp_eq, ↓Ev.P, Ev.Q, Bool.cond_true, Bool.cond_false, eq_self, forall_eq_or_imp, implies_true, forall_const, forall_eq, ↓reduceIte, reduceIte, Nat.reduceEqDiff, Nat.reduceAdd, reduceCtorEq, Nat.reduceSub, Int.reduceToNat, Int.reduceLE, Int.reduceLT, Int.reduceNeg, Nat.reduceBEq, Nat.reduceMul, Nat.reduceLeDiff, Nat.reduceMod, UInt8.reduceOfNat, Nat.reduceLT, Int.reduceEq, Int.reduceAdd, Int.reduceSub, Int.reduceMul]
                  exact ⟨0, by omega, by omega, by rw [hX]; simp [uHd, uTop]⟩
                · rintro k' st ⟨j, hj, hk3, rfl⟩
                  by_cases hjl : j < m.length
                  · have hj3 : (j : Int) < m.length := by omega
                    have hgm := mkRows_get hjl
                    have hsm := uLn_snoc hjl
                    have hlm := uLn_le m (j + 1)
                    have hmm := hm.2 _ (mk_mem hjl)
                    have hs3 := hsg _ (mk_mem hjl)
                    rw [hsm, List.length_append] at hlm
                    generalize m.getD j mk0 = x at hgm hsm hlm hmm hs3
                    obtain ⟨c, t⟩ := x
                    have hen := enc3 hs3
                    have hue := uLn_eq c t
                    have hbs := bare_split t
                    simp only at hmm
                    rw [hue] at hsm hlm
                    rcases hbx : bareS t with ⟨y, f⟩
                    rw [hbx] at hsm hlm
                    cases f with
                    | true =>
                      simp only [if_true, List.append_nil, List.length_append, List.length_cons, List.length_nil] at hsm hlm
                      simp -dsimp -implicitDefEqProofs only [hgm, hj3, hbx, hen, mkRow, CBare, gWS, bldT, List.length_append, ↓Ev.P, Ev.Q, Bool.cond_true, Bool.cond_false, eq_self, forall_eq_or_imp, implies_true, forall_const, forall_eq, ↓reduceIte, reduceIte, Nat.reduceEqDiff, Nat.reduceAdd, reduceCtorEq, Nat.reduceSub, Int.reduceToNat, Int.reduceLE, Int.reduceLT, Int.reduceNeg, Nat.reduceBEq, Nat.reduceMul, Nat.reduceLeDiff, Nat.reduceMod, UInt8.reduceOfNat, Nat.reduceLT, Int.reduceEq, Int.reduceAdd, Int.reduceSub, Int.reduceMul]
                      repeat' (first | with_reducible assumption | refine And.intro ?_ ?_ | intro _ | (rw [Ev.xStp_eq]; simp -dsimp -implicitDefEqProofs only [hgm, hj3, hbx, hen, mkRow, CBare, gWS, bldT, List.length_append, ↓Ev.P, Ev.Q, Bool.cond_true, Bool.cond_false, eq_self, forall_eq_or_imp, implies_true, forall_const, forall_eq, ↓reduceIte, reduceIte, Nat.reduceEqDiff, Nat.reduceAdd, reduceCtorEq, Nat.reduceSub, Int.reduceToNat, Int.reduceLE, Int.reduceLT, Int.reduceNeg, Nat.reduceBEq, Nat.reduceMul, Nat.reduceLeDiff, Nat.reduceMod, UInt8.reduceOfNat, Nat.reduceLT, Int.reduceEq, Int.reduceAdd, Int.reduceSub, Int.reduceMul]))
                      all_goals try omega
                      refine xAgain_intro (m.length - (j + 1)) [0, 1] (by omega) (by simp -dsimp -implicitDefEqProofs only [↓Ev.xStp_eq, ↓Ev.P, Ev.Q, Bool.cond_true, Bool.cond_false, eq_self, forall_eq_or_imp, implies_true, forall_const, forall_eq, ↓reduceIte, reduceIte, Nat.reduceEqDiff, Nat.reduceAdd, reduceCtorEq, Nat.reduceSub, Int.reduceToNat, Int.reduceLE, Int.reduceLT, Int.reduceNeg, Nat.reduceBEq, Nat.reduceMul, Nat.reduceLeDiff, Nat.reduceMod, UInt8.reduceOfNat, Nat.reduceLT, Int.reduceEq, Int.reduceAdd, Int.reduceSub, Int.reduceMul]) ⟨j + 1, by omega, rfl, ?_⟩
                      rw [hsm]
                      simp -dsimp -implicitDefEqProofs only [↓Ev.xStp_eq, ↓Ev.P, Ev.Q, Bool.cond_true, Bool.cond_false, eq_self, forall_eq_or_imp, implies_true, forall_const, forall_eq, ↓reduceIte, reduceIte, Nat.reduceEqDiff, Nat.reduceAdd, reduceCtorEq, Nat.reduceSub, Int.reduceToNat, Int.reduceLE, Int.reduceLT, Int.reduceNeg, Nat.reduceBEq, Nat.reduceMul, Nat.reduceLeDiff, Nat.reduceMod, UInt8.reduceOfNat, Nat.reduceLT, Int.reduceEq, Int.reduceAdd, Int.reduceSub, Int.reduceMul]
                      simp
                    | false =>
                      simp only [Bool.false_eq_true, if_false, List.length_append, List.length_cons, List.length_nil] at hsm hlm
                      simp -dsimp -implicitDefEqProofs only [hgm, hj3, hbx, hen, mkRow, CBare, gWS, bldT, List.length_append, ↓Ev.P, Ev.Q, Bool.cond_true, Bool.cond_false, eq_self, forall_eq_or_imp, implies_true, forall_const, forall_eq, ↓reduceIte, reduceIte, Nat.reduceEqDiff, Nat.reduceAdd, reduceCtorEq, Nat.reduceSub, Int.reduceToNat, Int.reduceLE, Int.reduceLT, Int.reduceNeg, Nat.reduceBEq, Nat.reduceMul, Nat.reduceLeDiff, Nat.reduceMod, UInt8.reduceOfNat, Nat.reduceLT, Int.reduceEq, Int.reduceAdd, Int.reduceSub, Int.reduceMul]
                      repeat' (first | with_reducible assumption | refine And.intro ?_ ?_ | intro _ | (rw [Ev.xStp_eq]; simp -dsimp -implicitDefEqProofs only [hgm, hj3, hbx, hen, mkRow, CBare, gWS, bldT, List.length_append, ↓Ev.P, Ev.Q, Bool.cond_true, Bool.cond_false, eq_self, forall_eq_or_imp, implies_true, forall_const, forall_eq, ↓reduceIte, reduceIte, Nat.reduceEqDiff, Nat.reduceAdd, reduceCtorEq, Nat.reduceSub, Int.reduceToNat, Int.reduceLE, Int.reduceLT, Int.reduceNeg, Nat.reduceBEq, Nat.reduceMul, Nat.reduceLeDiff, Nat.reduceMod, UInt8.reduceOfNat, Nat.reduceLT, Int.reduceEq, Int.reduceAdd, Int.reduceSub, Int.reduceMul]))
                      all_goals try omega
                      refine xAgain_intro (m.length - (j + 1)) [0, 1] (by omega) (by simp -dsimp -implicitDefEqProofs only [↓Ev.xStp_eq, ↓Ev.P, Ev.Q, Bool.cond_true, Bool.cond_false, eq_self, forall_eq_or_imp, implies_true, forall_const, forall_eq, ↓reduceIte, reduceIte, Nat.reduceEqDiff, Nat.reduceAdd, reduceCtorEq, Nat.reduceSub, Int.reduceToNat, Int.reduceLE, Int.reduceLT, Int.reduceNeg, Nat.reduceBEq, Nat.reduceMul, Nat.reduceLeDiff, Nat.reduceMod, UInt8.reduceOfNat, Nat.reduceLT, Int.reduceEq, Int.reduceAdd, Int.reduceSub, Int.reduceMul]) ⟨j + 1, by omega, rfl, ?_⟩
                      rw [hsm]
                      simp -dsimp -implicitDefEqProofs only [↓Ev.xStp_eq, ↓Ev.P, Ev.Q, Bool.cond_true, Bool.cond_false, eq_self, forall_eq_or_imp, implies_true, forall_const, forall_eq, ↓reduceIte, reduceIte, Nat.reduceEqDiff, Nat.reduceAdd, reduceCtorEq, Nat.reduceSub, Int.reduceToNat, Int.reduceLE, Int.reduceLT, Int.reduceNeg, Nat.reduceBEq, Nat.reduceMul, Nat.reduceLeDiff, Nat.reduceMod, UInt8.reduceOfNat, Nat.reduceLT, Int.reduceEq, Int.reduceAdd, Int.reduceSub, Int.reduceMul]
                      simp
                  · have hj3 : ¬ (j : Int) < m.length := by omega
                    simp -dsimp -implicitDefEqProofs only [hj3, ↓Ev.xStp_eq, ↓Ev.P, Ev.Q, Bool.cond_true, Bool.cond_false, eq_self, forall_eq_or_imp, implies_true, forall_const, forall_eq, ↓reduceIte, reduceIte, Nat.reduceEqDiff, Nat.reduceAdd, reduceCtorEq, Nat.reduceSub, Int.reduceToNat, Int.reduceLE, Int.reduceLT, Int.reduceNeg, Nat.reduceBEq, Nat.reduceMul, Nat.reduceLeDiff, Nat.reduceMod, UInt8.reduceOfNat, Nat.reduceLT, Int.reduceEq, Int.reduceAdd, Int.reduceSub, Int.reduceMul]
                    refine ⟨by omega, ?_⟩
                    refine xAgain_intro (l.length - (i + 1)) [0, 1] (by omega) (by simp -dsimp -implicitDefEqProofs only [↓Ev.xStp_eq, ↓Ev.P, Ev.Q, Bool.cond_true, Bool.cond_false, eq_self, forall_eq_or_imp, implies_true, forall_const, forall_eq, ↓reduceIte, reduceIte, Nat.reduceEqDiff, Nat.reduceAdd, reduceCtorEq, Nat.reduceSub, Int.reduceToNat, Int.reduceLE, Int.reduceLT, Int.reduceNeg, Nat.reduceBEq, Nat.reduceMul, Nat.reduceLeDiff, Nat.reduceMod, UInt8.reduceOfNat, Nat.reduceLT, Int.reduceEq, Int.reduceAdd, Int.reduceSub, Int.reduceMul]) ⟨i + 1, by omega, rfl, hb, ?_⟩
                    rw [hsn, List.take_of_length_le (by omega), hX]
                    simp -dsimp -implicitDefEqProofs only [↓Ev.xStp_eq, ↓Ev.P, Ev.Q, Bool.cond_true, Bool.cond_false, eq_self, forall_eq_or_imp, implies_true, forall_const, forall_eq, ↓reduceIte, reduceIte, Nat.reduceEqDiff, Nat.reduceAdd, reduceCtorEq, Nat.reduceSub, Int.reduceToNat, Int.reduceLE, Int.reduceLT, Int.reduceNeg, Nat.reduceBEq, Nat.reduceMul, Nat.reduceLeDiff, Nat.reduceMod, UInt8.reduceOfNat, Nat.reduceLT, Int.reduceEq, Int.reduceAdd, Int.reduceSub, Int.reduceMul]
                    simp [uHk]
              · have hi0 : ((i : Int) = 0) = False := eq_false (by omega)
                rw [if_neg h0] at hsn hle
                simp -dsimp -implicitDefEqProofs only [hg, hi3, hkRow, ↓Ev.P, Ev.Q, Bool.cond_true, Bool.cond_false, eq_self, forall_eq_or_imp, implies_true, forall_const, forall_eq, ↓reduceIte, reduceIte, Nat.reduceEqDiff, Nat.reduceAdd, reduceCtorEq, Nat.reduceSub, Int.reduceToNat, Int.reduceLE, Int.reduceLT, Int.reduceNeg, Nat.reduceBEq, Nat.reduceMul, Nat.reduceLeDiff, Nat.reduceMod, UInt8.reduceOfNat, Nat.reduceLT, Int.reduceEq, Int.reduceAdd, Int.reduceSub, Int.reduceMul]
                repeat' (first | with_reducible assumption | refine And.intro ?_ ?_ | intro _ | (rw [Ev.xStp_eq]; simp -dsimp -implicitDefEqProofs only [hg, hi3, hc, hi0, hkRow, CHk, C63, CCnt, gWS, bldT, unMk_rows, mkRows_len, List.length_append, Ev.St.giveC, ↓Ev.P, Ev.Q, Bool.cond_true, Bool.cond_false, eq_self, forall_eq_or_imp, implies_true, forall_const, forall_eq, ↓reduceIte, reduceIte, Nat.reduceEqDiff, Nat.reduceAdd, reduceCtorEq, Nat.reduceSub, Int.reduceToNat, Int.reduceLE, Int.reduceLT, Int.reduceNeg, Nat.reduceBEq, Nat.reduceMul, Nat.reduceLeDiff, Nat.reduceMod, UInt8.reduceOfNat, Nat.reduceLT, Int.reduceEq, Int.reduceAdd, Int.reduceSub, Int.reduceMul]))
                all_goals first | omega | exact hm.1 | exact hm.2 | skip
                obtain ⟨X, hX⟩ : ∃ X, X = uPt o n (l.take i) ++ uHd A AN B BN := ⟨_, rfl⟩
                have hXl : X.length = (uPt o n (l.take i)).length + (uHd A AN B BN).length := by rw [hX]; simp only [List.length_append]
                simp only [uHd, uTop, List.length_append, List.length_cons, List.length_nil] at hXl
                refine xLoop_intro (fun k st => ∃ j : Nat, j ≤ m.length ∧ k = m.length - j ∧
                  st = ⟨[(1, .ptr 0 0), (4, .ptr 1 0), (27, .d (.sl (hkRows l))), (28, .d (.v (.int .i64 l.length))), (29, .d (.v (.int .i64 i))), (68, .d (.sl (mkRows m))), (69, .d (.v (.int .i64 m.length))), (70, .d (.v (.int .i64 j)))], 2, [(0, .cells 34 [.d (.v (.string ⟨o.toArray⟩)), .d (.v (.string ⟨n.toArray⟩)), .d (.sl (hkRows l))]), (1, .bld 70 5 (X ++ (m.take j).flatMap uLn))]⟩) m.length [0, 1] ?_ ?_ ?_
                · simp -dsimp -implicitDefEqProofs only [↓Ev.xStp_eq, ↓Ev.P, Ev.Q, Bool.cond_true, Bool.cond_false, eq_self, forall_eq_or_imp, implies_true, forall_const, forall_eq, ↓reduceIte, reduceIte, Nat.reduceEqDiff, Nat.reduceAdd, reduceCtorEq, Nat.reduceSub, Int.reduceToNat, Int.reduceLE, Int.reduceLT, Int.reduceNeg, Nat.reduceBEq, Nat.reduceMul, Nat.reduceLeDiff, Nat.reduceMod, UInt8.reduceOfNat, Nat.reduceLT, Int.reduceEq, Int.reduceAdd, Int.reduceSub, Int.reduceMul]
                · simp -dsimp -implicitDefEqProofs only [↓Ev.xStp_eq, ↓Ev.P, Ev.Q, Bool.cond_true, Bool.cond_false, eq_self, forall_eq_or_imp, implies_true, forall_const, forall_eq, ↓reduceIte, reduceIte, Nat.reduceEqDiff, Nat.reduceAdd, reduceCtorEq, Nat.reduceSub, Int.reduceToNat, Int.reduceLE, Int.reduceLT, Int.reduceNeg, Nat.reduceBEq, Nat.reduceMul, Nat.reduceLeDiff, Nat.reduceMod, UInt8.reduceOfNat, Nat.reduceLT, Int.reduceEq, Int.reduceAdd, Int.reduceSub, Int.reduceMul]
                  exact ⟨0, by omega, by omega, by rw [hX]; simp [uHd, uTop]⟩
                · rintro k' st ⟨j, hj, hk3, rfl⟩
                  by_cases hjl : j < m.length
                  · have hj3 : (j : Int) < m.length := by omega
                    have hgm := mkRows_get hjl
                    have hsm := uLn_snoc hjl
                    have hlm := uLn_le m (j + 1)
                    have hmm := hm.2 _ (mk_mem hjl)
                    have hs3 := hsg _ (mk_mem hjl)
                    rw [hsm, List.length_append] at hlm
                    generalize m.getD j mk0 = x at hgm hsm hlm hmm hs3
                    obtain ⟨c, t⟩ := x
                    have hen := enc3 hs3
                    have hue := uLn_eq c t
                    have hbs := bare_split t
                    simp only at hmm
                    rw [hue] at hsm hlm
                    rcases hbx : bareS t with ⟨y, f⟩
                    rw [hbx] at hsm hlm
                    cases f with
                    | true =>
                      simp only [if_true, List.append_nil, List.length_append, List.length_cons, List.length_nil] at hsm hlm
                      simp -dsimp -implicitDefEqProofs only [hgm, hj3, hbx, hen, mkRow, CBare, gWS, bldT, List.length_append, ↓Ev.P, Ev.Q, Bool.cond_true, Bool.cond_false, eq_self, forall_eq_or_imp, implies_true, forall_const, forall_eq, ↓reduceIte, reduceIte, Nat.reduceEqDiff, Nat.reduceAdd, reduceCtorEq, Nat.reduceSub, Int.reduceToNat, Int.reduceLE, Int.reduceLT, Int.reduceNeg, Nat.reduceBEq, Nat.reduceMul, Nat.reduceLeDiff, Nat.reduceMod, UInt8.reduceOfNat, Nat.reduceLT, Int.reduceEq, Int.reduceAdd, Int.reduceSub, Int.reduceMul]
                      repeat' (first | with_reducible assumption | refine And.intro ?_ ?_ | intro _ | (rw [Ev.xStp_eq]; simp -dsimp -implicitDefEqProofs only [hgm, hj3, hbx, hen, mkRow, CBare, gWS, bldT, List.length_append, ↓Ev.P, Ev.Q, Bool.cond_true, Bool.cond_false, eq_self, forall_eq_or_imp, implies_true, forall_const, forall_eq, ↓reduceIte, reduceIte, Nat.reduceEqDiff, Nat.reduceAdd, reduceCtorEq, Nat.reduceSub, Int.reduceToNat, Int.reduceLE, Int.reduceLT, Int.reduceNeg, Nat.reduceBEq, Nat.reduceMul, Nat.reduceLeDiff, Nat.reduceMod, UInt8.reduceOfNat, Nat.reduceLT, Int.reduceEq, Int.reduceAdd, Int.reduceSub, Int.reduceMul]))
                      all_goals try omega
                      refine xAgain_intro (m.length - (j + 1)) [0, 1] (by omega) (by simp -dsimp -implicitDefEqProofs only [↓Ev.xStp_eq, ↓Ev.P, Ev.Q, Bool.cond_true, Bool.cond_false, eq_self, forall_eq_or_imp, implies_true, forall_const, forall_eq, ↓reduceIte, reduceIte, Nat.reduceEqDiff, Nat.reduceAdd, reduceCtorEq, Nat.reduceSub, Int.reduceToNat, Int.reduceLE, Int.reduceLT, Int.reduceNeg, Nat.reduceBEq, Nat.reduceMul, Nat.reduceLeDiff, Nat.reduceMod, UInt8.reduceOfNat, Nat.reduceLT, Int.reduceEq, Int.reduceAdd, Int.reduceSub, Int.reduceMul]) ⟨j + 1, by omega, rfl, ?_⟩
                      rw [hsm]
                      simp -dsimp -implicitDefEqProofs only [↓Ev.xStp_eq, ↓Ev.P, Ev.Q, Bool.cond_true, Bool.cond_false, eq_self, forall_eq_or_imp, implies_true, forall_const, forall_eq, ↓reduceIte, reduceIte, Nat.reduceEqDiff, Nat.reduceAdd, reduceCtorEq, Nat.reduceSub, Int.reduceToNat, Int.reduceLE, Int.reduceLT, Int.reduceNeg, Nat.reduceBEq, Nat.reduceMul, Nat.reduceLeDiff, Nat.reduceMod, UInt8.reduceOfNat, Nat.reduceLT, Int.reduceEq, Int.reduceAdd, Int.reduceSub, Int.reduceMul]
                      simp
                    | false =>
                      simp only [Bool.false_eq_true, if_false, List.length_append, List.length_cons, List.length_nil] at hsm hlm
                      simp -dsimp -implicitDefEqProofs only [hgm, hj3, hbx, hen, mkRow, CBare, gWS, bldT, List.length_append, ↓Ev.P, Ev.Q, Bool.cond_true, Bool.cond_false, eq_self, forall_eq_or_imp, implies_true, forall_const, forall_eq, ↓reduceIte, reduceIte, Nat.reduceEqDiff, Nat.reduceAdd, reduceCtorEq, Nat.reduceSub, Int.reduceToNat, Int.reduceLE, Int.reduceLT, Int.reduceNeg, Nat.reduceBEq, Nat.reduceMul, Nat.reduceLeDiff, Nat.reduceMod, UInt8.reduceOfNat, Nat.reduceLT, Int.reduceEq, Int.reduceAdd, Int.reduceSub, Int.reduceMul]
                      repeat' (first | with_reducible assumption | refine And.intro ?_ ?_ | intro _ | (rw [Ev.xStp_eq]; simp -dsimp -implicitDefEqProofs only [hgm, hj3, hbx, hen, mkRow, CBare, gWS, bldT, List.length_append, ↓Ev.P, Ev.Q, Bool.cond_true, Bool.cond_false, eq_self, forall_eq_or_imp, implies_true, forall_const, forall_eq, ↓reduceIte, reduceIte, Nat.reduceEqDiff, Nat.reduceAdd, reduceCtorEq, Nat.reduceSub, Int.reduceToNat, Int.reduceLE, Int.reduceLT, Int.reduceNeg, Nat.reduceBEq, Nat.reduceMul, Nat.reduceLeDiff, Nat.reduceMod, UInt8.reduceOfNat, Nat.reduceLT, Int.reduceEq, Int.reduceAdd, Int.reduceSub, Int.reduceMul]))
                      all_goals try omega
                      refine xAgain_intro (m.length - (j + 1)) [0, 1] (by omega) (by simp -dsimp -implicitDefEqProofs only [↓Ev.xStp_eq, ↓Ev.P, Ev.Q, Bool.cond_true, Bool.cond_false, eq_self, forall_eq_or_imp, implies_true, forall_const, forall_eq, ↓reduceIte, reduceIte, Nat.reduceEqDiff, Nat.reduceAdd, reduceCtorEq, Nat.reduceSub, Int.reduceToNat, Int.reduceLE, Int.reduceLT, Int.reduceNeg, Nat.reduceBEq, Nat.reduceMul, Nat.reduceLeDiff, Nat.reduceMod, UInt8.reduceOfNat, Nat.reduceLT, Int.reduceEq, Int.reduceAdd, Int.reduceSub, Int.reduceMul]) ⟨j + 1, by omega, rfl, ?_⟩
                      rw [hsm]
                      simp -dsimp -implicitDefEqProofs only [↓Ev.xStp_eq, ↓Ev.P, Ev.Q, Bool.cond_true, Bool.cond_false, eq_self, forall_eq_or_imp, implies_true, forall_const, forall_eq, ↓reduceIte, reduceIte, Nat.reduceEqDiff, Nat.reduceAdd, reduceCtorEq, Nat.reduceSub, Int.reduceToNat, Int.reduceLE, Int.reduceLT, Int.reduceNeg, Nat.reduceBEq, Nat.reduceMul, Nat.reduceLeDiff, Nat.reduceMod, UInt8.reduceOfNat, Nat.reduceLT, Int.reduceEq, Int.reduceAdd, Int.reduceSub, Int.reduceMul]
                      simp
                  · have hj3 : ¬ (j : Int) < m.length := by omega
                    simp -dsimp -implicitDefEqProofs only [hj3, ↓Ev.xStp_eq, ↓Ev.P, Ev.Q, Bool.cond_true, Bool.cond_false, eq_self, forall_eq_or_imp, implies_true, forall_const, forall_eq, ↓reduceIte, reduceIte, Nat.reduceEqDiff, Nat.reduceAdd, reduceCtorEq, Nat.reduceSub, Int.reduceToNat, Int.reduceLE, Int.reduceLT, Int.reduceNeg, Nat.reduceBEq, Nat.reduceMul, Nat.reduceLeDiff, Nat.reduceMod, UInt8.reduceOfNat, Nat.reduceLT, Int.reduceEq, Int.reduceAdd, Int.reduceSub, Int.reduceMul]
                    refine ⟨by omega, ?_⟩
                    refine xAgain_intro (l.length - (i + 1)) [0, 1] (by omega) (by simp -dsimp -implicitDefEqProofs only [↓Ev.xStp_eq, ↓Ev.P, Ev.Q, Bool.cond_true, Bool.cond_false, eq_self, forall_eq_or_imp, implies_true, forall_const, forall_eq, ↓reduceIte, reduceIte, Nat.reduceEqDiff, Nat.reduceAdd, reduceCtorEq, Nat.reduceSub, Int.reduceToNat, Int.reduceLE, Int.reduceLT, Int.reduceNeg, Nat.reduceBEq, Nat.reduceMul, Nat.reduceLeDiff, Nat.reduceMod, UInt8.reduceOfNat, Nat.reduceLT, Int.reduceEq, Int.reduceAdd, Int.reduceSub, Int.reduceMul]) ⟨i + 1, by omega, rfl, hb, ?_⟩
                    rw [hsn, List.take_of_length_le (by omega), hX]
                    simp -dsimp -implicitDefEqProofs only [↓Ev.xStp_eq, ↓Ev.P, Ev.Q, Bool.cond_true, Bool.cond_false, eq_self, forall_eq_or_imp, implies_true, forall_const, forall_eq, ↓reduceIte, reduceIte, Nat.reduceEqDiff, Nat.reduceAdd, reduceCtorEq, Nat.reduceSub, Int.reduceToNat, Int.reduceLE, Int.reduceLT, Int.reduceNeg, Nat.reduceBEq, Nat.reduceMul, Nat.reduceLeDiff, Nat.reduceMod, UInt8.reduceOfNat, Nat.reduceLT, Int.reduceEq, Int.reduceAdd, Int.reduceSub, Int.reduceMul]
                    simp [uHk]
            · rw [if_neg (show ¬ chkH ((A, AN, B, BN), m) = 0 from hc)] at hb
              have hb : hkChk A AN B BN m = badHs l := hb
              rw [← hb, if_neg hc] at hk
              simp -dsimp -implicitDefEqProofs only [hg, hi3, hkRow, ↓Ev.P, Ev.Q, Bool.cond_true, Bool.cond_false, eq_self, forall_eq_or_imp, implies_true, forall_const, forall_eq, ↓reduceIte, reduceIte, Nat.reduceEqDiff, Nat.reduceAdd, reduceCtorEq, Nat.reduceSub, Int.reduceToNat, Int.reduceLE, Int.reduceLT, Int.reduceNeg, Nat.reduceBEq, Nat.reduceMul, Nat.reduceLeDiff, Nat.reduceMod, UInt8.reduceOfNat, Nat.reduceLT, Int.reduceEq, Int.reduceAdd, Int.reduceSub, Int.reduceMul]
              repeat' (first | with_reducible assumption | refine And.intro ?_ ?_ | intro _ | (rw [Ev.xStp_eq]; simp -dsimp -implicitDefEqProofs only [hg, hi3, hc, hkRow, CHk, unMk_rows, Ev.St.giveC, ↓Ev.P, Ev.Q, Bool.cond_true, Bool.cond_false, eq_self, forall_eq_or_imp, implies_true, forall_const, forall_eq, ↓reduceIte, reduceIte, Nat.reduceEqDiff, Nat.reduceAdd, reduceCtorEq, Nat.reduceSub, Int.reduceToNat, Int.reduceLE, Int.reduceLT, Int.reduceNeg, Nat.reduceBEq, Nat.reduceMul, Nat.reduceLeDiff, Nat.reduceMod, UInt8.reduceOfNat, Nat.reduceLT, Int.reduceEq, Int.reduceAdd, Int.reduceSub, Int.reduceMul]))
              all_goals first | omega | exact hm.1 | exact hm.2 | exact hk
          · have hi3 : ¬ (i : Int) < l.length := by omega
            rw [List.drop_of_length_le (by omega)] at hb
            have hb0 : badHs l = 0 := hb.symm
            rw [hb0, if_pos rfl] at hk
            simp -dsimp -implicitDefEqProofs only [hi3, ↓Ev.xStp_eq, ↓Ev.P, Ev.Q, Bool.cond_true, Bool.cond_false, eq_self, forall_eq_or_imp, implies_true, forall_const, forall_eq, ↓reduceIte, reduceIte, Nat.reduceEqDiff, Nat.reduceAdd, reduceCtorEq, Nat.reduceSub, Int.reduceToNat, Int.reduceLE, Int.reduceLT, Int.reduceNeg, Nat.reduceBEq, Nat.reduceMul, Nat.reduceLeDiff, Nat.reduceMod, UInt8.reduceOfNat, Nat.reduceLT, Int.reduceEq, Int.reduceAdd, Int.reduceSub, Int.reduceMul]
            rw [List.take_of_length_le (by omega)]
            exact hk
end Go.Proofs.YtpbkdcfjlbdgfaaDoor
set_option linter.unusedVariables false
set_option linter.unusedSimpArgs false
namespace Go.Proofs.YtpbkdcfjlbdgfaaDoor
open Go Go.Ev
set_option maxRecDepth 100000
variable {G : World → Prop}
theorem ptRow_one (o n : List UInt8) (l : List Hk) : ([[.v (.string ⟨o.toArray⟩), .v (.string ⟨n.toArray⟩), .sl (hkRows l)]] : List (List D)) = ptRows [((o, n), l)] := rfl
theorem ptRows_at (p : Pt) : (ptRows [p])[0]? = some (ptRow p) := rfl
theorem smP_one {o n : List UInt8} {l : List Hk} (h : smH l) : smP [((o, n), l)] := ⟨by simp, fun p hp => by simp only [List.mem_singleton] at hp; subst hp; exact h⟩
def CLawU : Contract := pureC fun args => match args with
  | [.agg [.d (.v (.string o)), .d (.v (.string n)), .d (.sl rows)]] => (unHk rows).map fun l => (smH l ∧ (uPt o.data.toList n.data.toList l).length ≤ 70368744177664, .d (.v (.bool true)))
  | _ => none
set_option maxHeartbeats 1000000 in
theorem s7 (hG : ∀ w, G w → Pow10 w) : Sound G Tryd.prog 7 CLawU := by
  refine sd7 (T := tabT [(22, CCopyP), (23, CUPrint), (24, CUPrint), (25, CSameP)]) (tab_cons s22 (tab_cons (s23 hG) (tab_cons s24 (tab_cons s25 tab_nil)))) (pureC_lawful _) (pure_hX fun args p x K h hp hk => ?_)
  split at h <;> simp only [Option.map_eq_some_iff, Prod.mk.injEq, reduceCtorEq] at h
  obtain ⟨l, hl, rfl, rfl⟩ := h
  rw [unHk_eq hl] at *
  rename_i o n rows
  obtain ⟨o, rfl⟩ := ex_str o
  obtain ⟨n, rfl⟩ := ex_str n
  simp only [sem_str] at hk hp
  obtain ⟨h1, h3⟩ := hp
  have h2 := smP_one (o := o) (n := n) h1
  refine ⟨Nat.le_of_ble_eq_true rfl, ?_⟩
  simp -dsimp -implicitDefEqProofs only [S7, R7, ↓Ev.P, Ev.Q, Bool.cond_true, Bool.cond_false, eq_self, forall_eq_or_imp, implies_true, forall_const, forall_eq, ↓reduceIte, reduceIte, Nat.reduceEqDiff, Nat.reduceAdd, reduceCtorEq, Nat.reduceSub, Int.reduceToNat, Int.reduceLE, Int.reduceLT, Int.reduceNeg, Nat.reduceBEq, Nat.reduceMul, Nat.reduceLeDiff, Nat.reduceMod, UInt8.reduceOfNat, Nat.reduceLT, Int.reduceEq, Int.reduceAdd, Int.reduceSub, Int.reduceMul]
  repeat' (first | with_reducible assumption | refine And.intro ?_ ?_ | intro _ | (rw [Ev.xStp_eq]; simp -dsimp -implicitDefEqProofs only [CCopyP, CUPrint, CSameP, ptRow_one, ptRows_at, ptRow, unPt_rows, unHk_rows, ptRows_len, Ev.St.giveC, ↓Ev.P, Ev.Q, Bool.cond_true, Bool.cond_false, eq_self, forall_eq_or_imp, implies_true, forall_const, forall_eq, ↓reduceIte, reduceIte, Nat.reduceEqDiff, Nat.reduceAdd, reduceCtorEq, Nat.reduceSub, Int.reduceToNat, Int.reduceLE, Int.reduceLT, Int.reduceNeg, Nat.reduceBEq, Nat.reduceMul, Nat.reduceLeDiff, Nat.reduceMod, UInt8.reduceOfNat, Nat.reduceLT, Int.reduceEq, Int.reduceAdd, Int.reduceSub, Int.reduceMul]))
  all_goals first | omega | exact hk | rfl | trace_state
end Go.Proofs.YtpbkdcfjlbdgfaaDoor
set_option linter.unusedVariables false
set_option linter.unusedSimpArgs false
namespace Go.Proofs.YtpbkdcfjlbdgfaaDoor
open Go Go.Ev
set_option maxRecDepth 100000
theorem rdStr {c : Rdr} {a : Addr} : ∀ {l : List (List UInt8)} {k : Nat}, (∀ i, i < l.length → c (a.add (k + i)) (.string ⟨(l.getD i []).toArray⟩)) → RdRows c a 1 k (strRows l)
  | [], k, h => by simp [strRows, RdRows]
  | s :: l, k, h => by
    have h0 := h 0 (by simp)
    have hr : RdRows c a 1 (k + 1) (strRows l) := rdStr fun i hi => by
      have := h (i + 1) (by simp; omega)
      rw [show k + 1 + i = k + (i + 1) by omega]
      simpa using this
    have e : strRows (s :: l) = [.v (.string ⟨s.toArray⟩)] :: strRows l := rfl
    rw [e]
    simp only [RdRows, RdCells, Rd]
    exact ⟨rfl, ⟨⟨_, by simpa using h0, rfl, rfl⟩, trivial⟩, hr⟩
theorem rdQ4 {c : Rdr} {a : Addr} : ∀ {l : List Q4} {k : Nat}, (∀ i, i < l.length → RdCells c a (k + i * 4) (q4Row (l.getD i (0, 0, 0, 0)))) → RdRows c a 4 k (q4Rows l)
  | [], k, h => by simp [q4Rows, RdRows]
  | s :: l, k, h => by
    have h0 := h 0 (by simp)
    have hr : RdRows c a 4 (k + 4) (q4Rows l) := rdQ4 fun i hi => by
      have := h (i + 1) (by simp; omega)
      rw [show k + 4 + i * 4 = k + (i + 1) * 4 by omega]
      simpa using this
    have e : q4Rows (s :: l) = q4Row s :: q4Rows l := rfl
    rw [e]
    simp only [RdRows]
    exact ⟨rfl, by simpa using h0, hr⟩
/-- A laid table's block holds its integers and nothing else. -/
theorem tab_only {P : Program} {W : World} {name : String} {k : IntKind} {zs : List Int} {g : Nat} (h : Lib.TabIs P W name k zs) (hg : P.globalNamed name = some g) {a : Addr} {u : Value} (ha : W.cell? a = some u) (hb : a.block = g) : ∃ z, u = .int k z := by
  unfold Lib.TabIs World.var? at h
  rw [hg] at h
  simp only [Option.bind_some] at h
  unfold World.cell? at ha
  rw [hb] at ha
  split at h
  · rename_i cs t f e
    rw [e] at ha
    simp only [Option.some.injEq] at h
    subst h
    simp only at ha
    split at ha
    · cases ha
    · have hm := Array.mem_of_getElem? ha
      simp only [List.mem_toArray, List.mem_map] at hm
      obtain ⟨z, _, rfl⟩ := hm
      exact ⟨z, rfl⟩
  · cases h
theorem gP10 : Tryd.prog.globalNamed "internal/strconv.uint64pow10" = some (Tryd.prog.globalNamed "internal/strconv.uint64pow10").get! := by kernel_rfl
/-- The table is hidden. -/
noncomputable def HP : Hd Pow10 := ⟨fun b => some b = Tryd.prog.globalNamed "internal/strconv.uint64pow10", fun b => some b = Tryd.prog.globalNamed "internal/strconv.uint64pow10", fun _ h => h, fun w w' h hb => by
  unfold Pow10 Lib.TabIs World.var? at h ⊢
  cases e : Tryd.prog.globalNamed "internal/strconv.uint64pow10" with
  | none => rw [e] at h; cases h
  | some g => rw [e] at h; simp only [Option.bind_some] at h ⊢; rw [hb g (by rw [e])]; exact h, 0⟩
theorem HP_no {W : World} (h : Pow10 W) {a : Addr} {u : Value} (ha : W.cell? a = some u) (hu : ∀ z, u ≠ .int .u64 z) : ¬ HP a.block := fun hb => by
  obtain ⟨z, e⟩ := tab_only h hb.symm ha rfl
  exact hu z e
theorem HP_lt {W : World} (h : Pow10 W) {b : Nat} (hb : HP b) : b < W.heap.size := by
  have hb' : some b = Tryd.prog.globalNamed "internal/strconv.uint64pow10" := hb
  unfold Pow10 Lib.TabIs World.var? at h
  rw [← hb'] at h
  simp only [Option.bind_some] at h
  split at h
  · rename_i e
    exact (Array.getElem?_eq_some_iff.1 e).1
  · cases h
end Go.Proofs.YtpbkdcfjlbdgfaaDoor
/- From a law's contract to its row: what a call leaves lies below the heap's end as it lay. -/
set_option linter.unusedVariables false
set_option linter.unusedSimpArgs false
namespace Go.Ev
open Go Go.RowKit Go.WideShapes Go.ChangeShapes

theorem law_calls {G : World → Prop} (H : Hd G) {P : Program} {f : FuncId} {C : Contract} (h : Sound G P f C) {args : List SV} {vs : List Value} {W : World} (hg : G W) (hh : ∀ b, H b → b < W.heap.size) (hw : C.wp args ⟨0, []⟩ fun out s => out = .ret (.d (.v (.bool true))))
    (hvs : CnL (fun _ => undef) 0 (fun a u => W.cell? a = some u ∧ ¬ H a.block) args vs) : Calls P f vs.toArray W fun e W' => e = .returned (.bool true) ∧ Below W.heap.size W W' := by
  obtain ⟨_, hc⟩ := h.2.1 H W (fun _ => undef) (fun _ _ => False) ⟨0, []⟩ args vs _ hw (SOk.empty hh hg _ _)
    (CnL_mono (Nat.le_refl _) (fun _ _ => rfl) (fun a u hau => ⟨hau.1, fun ⟨_, _, h1, _⟩ => by simp [lk] at h1, hau.2⟩) _ _ hvs)
  refine hc.mono ?_
  rintro e W' ⟨m', B', s', out, rfl, hO, hS, hout⟩
  cases e with
  | returned v =>
    simp only [OutOk, Cn, Rd] at hout
    refine ⟨by rw [hout.1], ⟨hS.os, hS.tape, hS.output, hS.size, fun k hk => hS.block k hk fun ⟨_, _, h1, _⟩ => by simp [lk] at h1⟩⟩
  | _ => exact hout.elim

/-- Nothing is hidden, nothing is laid. -/
def noH : Hd (fun _ => True) := ⟨fun _ => False, fun _ => False, fun _ h => h, fun _ _ _ _ => trivial, 0⟩
section
variable {H : Type} {enc : TypeId × Value → H} {P : Program}
theorem post_of_below {f : Func} {s : ChangeSpec} {apart fresh handsOn again : Bool} {W W' : World} {args : Array Value} {v : Value} {ds gs : List (DataW H)} {before pa pv : List MemPlace}
    (hW : DataW.Whole enc P f.params.toList s.vars apart W args.toList ds gs before)
    (hres : ∀ (b : Nat) (sp : Nat → Bool) (hd : Bool), DataW.TrodAll enc P W' b sp hd f.resultTypes.toList (v.resultList f.resultTypes.size) (s.fn H (ds ++ gs)).results [])
    (hargs : ∀ sp : Nat → Bool, (∀ p ∈ before, sp p.block = true) → DataW.TrodAll enc P W' 0 sp true f.params.toList args.toList (s.fn H (ds ++ gs)).args pa)
    (hvars : ∀ sp : Nat → Bool, (∀ p ∈ before, sp p.block = true) → DataW.TrodVars enc P W' sp s.vars (s.fn H (ds ++ gs)).vars pv)
    (hps : before = pa ++ pv) (hb : Below W.heap.size W W')
    (hok : ∀ (j : Nat) (t : TypeId) (r : Value), f.resultTypes[j]? = some t → (v.resultList f.resultTypes.size)[j]? = some r → Value.okWide P W' .any 0 t r) :
    s.post enc P f apart fresh handsOn again W args v W' := by
  have hlt : ∀ p ∈ before, p.block < W.heap.size := fun p hp => hW.lt p hp
  have hold : ∀ p ∈ before, (fun b => decide (b < W.heap.size)) p.block = true := fun p hp => by simpa using hlt p hp
  refine ⟨ds, gs, before, [], pa, pv, hW, hres _ _ _, hargs _ hold, hvars _ hold, World.keptBut_mono (fun p hp => ⟨hp, ?_⟩) (hb.frame (· ∈ before)), fun _ => ?_⟩
  · rw [hps, List.mem_append] at hp
    exact Or.inr hp
  · obtain ⟨_, _, _, _, _, hz, hn⟩ := hW
    refine ⟨hok, _, _, ([] ++ pa) ++ pv, ⟨[] ++ pa, pv, trodAll_append (hargs _ (fun _ _ => rfl)) (hres _ _ _), hvars _ (fun _ _ => rfl), rfl, ?_, ?_⟩, ?_⟩
    · intro b off hp
      have hin : MemPlace.cell b off ∈ before := by rw [hps]; simpa using hp
      rw [hb.frozen (hlt _ hin)]
      exact hz b off hin
    · intro ha
      have := hn ha
      rw [hps] at this
      simpa using this
    · intro p hp _
      rw [hps]
      simpa using hp
end
end Go.Ev
set_option linter.unusedVariables false
set_option linter.unusedSimpArgs false
namespace Go.Proofs.YtpbkdcfjlbdgfaaDoor
open Go Go.Ev
open Go.ChangeShapes Go.WideShapes Go.ChangeAt Go.RowKit
set_option maxRecDepth 100000
/-- Shapes of data: what stands in a cell. -/
inductive Sh where
  | int (k : IntKind)
  | str
  | bool
  | sl (fs : List Sh)
mutual
def HasD : D → Sh → Prop
  | .v x, s => match x, s with
    | .int k' z, .int k => k' = k ∧ k ≠ .u64 ∧ (Lit.int k z).wf = true
    | .string _, .str => True
    | .bool _, .bool => True
    | _, _ => False
  | .sl rows, s => match s with
    | .sl fs => HasR rows fs
    | _ => False
  | .pt _, _ => False
  | .ifc _ _, _ => False
def HasL : List D → List Sh → Prop
  | [], fs => fs = []
  | d :: ds, fs => match fs with
    | s :: ss => HasD d s ∧ HasL ds ss
    | [] => False
def HasR : List (List D) → List Sh → Prop
  | [], _ => True
  | r :: rs, fs => HasL r fs ∧ HasR rs fs
end
mutual
def dsz : D → Nat
  | .v x => match x with
    | .string s => s.size + 1
    | _ => 1
  | .sl rows => dszR rows + 1
  | .pt _ => 0
  | .ifc _ _ => 0
def dszL : List D → Nat
  | [] => 0
  | d :: ds => dsz d + dszL ds
def dszR : List (List D) → Nat
  | [] => 0
  | r :: rs => dszL r + dszR rs
end
/-- The shapes of a type's cells. -/
def shF (P : Program) : Nat → TypeId → Option (List Sh)
  | 0, _ => none
  | n + 1, t => match P.underlying t with
    | some (.int k) => if k = .u64 then none else some [.int k]
    | some .string => some [.str]
    | some .bool => some [.bool]
    | some (.slice e) => (shF P n e).bind fun fs => if fs.isEmpty then none else some [.sl fs]
    | some (.struct fs) => if Go.Deep.oneCellFields P fs && P.cellsOf t == fs.size then fs.toList.mapM fun f => (shF P n f.type).bind fun l => match l with
        | [s] => some s
        | _ => none
      else none
    | _ => none

section
variable {H : Type} {enc : TypeId × Value → H} {P : Program} {W : World} {c : Rdr}
theorem has_no64 : ∀ {d : D} {s : Sh} {u : Value}, HasD d s → Rd c d u → ∀ z, u ≠ .int .u64 z
  | .v x, s, u, h, hr, z => by
    simp only [Rd] at hr
    rintro rfl
    rw [← hr.1] at h
    simp only [HasD] at h
    split at h
    · rename_i k' n k e1
      simp only [Value.int.injEq] at e1
      obtain ⟨e1, _⟩ := e1
      exact h.2.1 (h.1.symm.trans e1.symm)
    · rename_i e; cases e
    · rename_i e; cases e
    · exact h
  | .sl rows, s, u, h, hr, z => by
    simp only [Rd] at hr
    obtain ⟨A, cap, e, _⟩ := hr
    rw [e]; intro e2; cases e2
theorem HasL_len : ∀ {ds : List D} {fs : List Sh}, HasL ds fs → ds.length = fs.length
  | [], fs, h => by simp only [HasL] at h; subst h; rfl
  | d :: ds, [], h => by simp [HasL] at h
  | d :: ds, s :: ss, h => by simp only [HasL] at h; simp [HasL_len h.2]
theorem rdCells_of (hc : ∀ a u, W.cell? a = some u → (∀ z, u ≠ .int .u64 z) → c a u) {a : Addr} : ∀ {ds : List D} {fs : List Sh} {cs : List Value} {k : Nat}, RdL c ds cs → HasL ds fs → (∀ j, j < cs.length → W.cell? (a.add (k + j)) = cs[j]?) → RdCells c a k ds
  | [], _, _, _, _, _, _ => by simp [RdCells]
  | d :: ds, [], cs, k, h, hl, hw => by simp [HasL] at hl
  | d :: ds, s :: ss, [], k, h, hl, hw => by simp [RdL] at h
  | d :: ds, s :: ss, u :: cs, k, h, hl, hw => by
    simp only [RdL] at h
    simp only [HasL] at hl
    simp only [RdCells]
    have h0 := hw 0 (by simp)
    simp only [Nat.add_zero, List.getElem?_cons_zero] at h0
    refine ⟨⟨u, hc _ _ h0 (has_no64 hl.1 h.1), h.1⟩, rdCells_of hc (k := k + 1) h.2 hl.2 fun j hj => ?_⟩
    have := hw (j + 1) (by simp; omega)
    rw [show k + 1 + j = k + (j + 1) by omega]
    simpa using this
theorem rdRows_of {a : Addr} {sz : Nat} : ∀ {l : List (List D)} {k : Nat}, (∀ i r, l[i]? = some r → r.length = sz ∧ RdCells c a (k + i * sz) r) → RdRows c a sz k l
  | [], k, h => by simp [RdRows]
  | r :: l, k, h => by
    have h0 := h 0 r rfl
    simp only [RdRows]
    refine ⟨h0.1, by simpa using h0.2, rdRows_of fun i x hx => ?_⟩
    have := h (i + 1) x (by simpa using hx)
    rw [show k + sz + i * sz = k + (i + 1) * sz by rw [Nat.add_mul]; omega]
    exact this
theorem HasR_of : ∀ {l : List (List D)} {fs : List Sh}, (∀ r ∈ l, HasL r fs) → HasR l fs
  | [], _, _ => by simp [HasR]
  | r :: l, fs, h => by simp only [HasR]; exact ⟨h r (by simp), HasR_of fun x hx => h x (by simp [hx])⟩
theorem dszR_le {F : Nat → List D} {X : Nat → DataW H} : ∀ {l : List Nat}, (∀ i ∈ l, dszL (F i) ≤ Rows.uptoBulk (X i)) → dszR (l.map F) ≤ Rows.uptoBulkAll (l.map X)
  | [], _ => by simp [dszR, Rows.uptoBulkAll]
  | i :: l, h => by
    simp only [List.map_cons, dszR, Rows.uptoBulkAll]
    have h0 := h i (by simp)
    have := dszR_le (l := l) fun j hj => h j (by simp [hj])
    omega

open Go.Deep in
theorem openF (hc : ∀ a u, W.cell? a = some u → (∀ z, u ≠ .int .u64 z) → c a u) : ∀ (n : Nat) (t : TypeId) (fs : List Sh), shF P n t = some fs → ∀ (fuel : Nat) (cs : List Value) (x : DataW H × List MemPlace), DataW.trod enc P W 0 (fun _ => true) true fuel t cs = some x →
    ∃ ds, RdL c ds cs ∧ HasL ds fs ∧ dszL ds ≤ Rows.uptoBulk x.1
  | 0, t, fs, h, _, _, _, _ => by simp [shF] at h
  | n + 1, t, fs, h, fuel, cs, x, hx => by
    unfold shF at h
    split at h
    · rename_i k hu
      split at h
      · cases h
      · rename_i hk
        simp only [Option.some.injEq] at h; subst h
        obtain ⟨z, rfl, rfl, hw⟩ := DataW.trod_int hu hx
        exact ⟨[.v (.int k z)], ⟨⟨rfl, rfl⟩, trivial⟩, by simp [HasL, HasD, hk, hw], by simp [dszL, dsz, Rows.uptoBulk]⟩
    · rename_i hu
      simp only [Option.some.injEq] at h; subst h
      obtain ⟨s, rfl, rfl, _⟩ := DataW.trod_string hu hx
      refine ⟨[.v (.string s)], ⟨⟨rfl, rfl⟩, trivial⟩, by simp [HasL, HasD], ?_⟩
      simp [dszL, dsz, Rows.uptoBulk]
    · rename_i hu
      simp only [Option.some.injEq] at h; subst h
      obtain ⟨s, rfl, rfl⟩ := DataW.trod_bool hu hx
      exact ⟨[.v (.bool s)], ⟨⟨rfl, rfl⟩, trivial⟩, by simp [HasL, HasD], by simp [dszL, dsz, Rows.uptoBulk]⟩
    · rename_i e hu
      obtain ⟨gs, hg, h⟩ := Option.bind_eq_some_iff.1 h
      split at h
      · cases h
      · rename_i hne
        simp only [Option.some.injEq] at h; subst h
        rcases open_slice hu hx with ⟨rfl, rfl⟩ | ⟨a, len, cap, mm, n', X, Pl, rfl, _, hl, hm, hz, rfl, hi⟩
        · refine ⟨[.sl []], ⟨?_, trivial⟩, by simp [HasL, HasD, HasR], by simp [dszL, dsz, dszR, Rows.uptoBulk]⟩
          simp only [Rd]
          exact ⟨none, 0, rfl, by simp, by simp, .inl trivial⟩
        · simp only [if_true] at hz
          subst hz
          have hM : maxLen = 9223372036854775807 := by decide
          have each : ∀ i, ∃ ds, i < len → (∃ cs', W.cells? 0 (a.add (i * P.cellsOf e)) (P.cellsOf e) = some cs' ∧ RdL c ds cs') ∧ HasL ds gs ∧ dszL ds ≤ Rows.uptoBulk (X i) := fun i => by
            by_cases hil : i < len
            · obtain ⟨cs', h1, h2⟩ := hi i (by omega)
              obtain ⟨ds, k1, k2, k3⟩ := openF hc n e gs hg n' cs' _ h2
              exact ⟨ds, fun _ => ⟨⟨cs', h1, k1⟩, k2, k3⟩⟩
            · exact ⟨[], fun h => absurd h hil⟩
          let F : Nat → List D := fun i => Classical.choose (each i)
          have hF : ∀ i, i < len → (∃ cs', W.cells? 0 (a.add (i * P.cellsOf e)) (P.cellsOf e) = some cs' ∧ RdL c (F i) cs') ∧ HasL (F i) gs ∧ dszL (F i) ≤ Rows.uptoBulk (X i) := fun i hil => Classical.choose_spec (each i) hil
          refine ⟨[.sl ((List.range len).map F)], ⟨?_, trivial⟩, ?_, ?_⟩
          · simp only [Rd]
            refine ⟨some a, mm, by simp, by simp; omega, by simp; omega, ?_⟩
            by_cases h0 : len = 0
            · left; subst h0; rfl
            · right
              refine ⟨a, P.cellsOf e, rfl, ?_, rdRows_of fun i r hr => ?_⟩
              · obtain ⟨⟨cs', h1, h2⟩, h3, _⟩ := hF 0 (by omega)
                obtain ⟨_, h4, h5⟩ := World.cells?_some h1
                have h6 := RdL_length h2
                have h7 := HasL_len h3
                have h8 : 0 < P.cellsOf e := by
                  rw [← h4, h6, h7]
                  cases gs with
                  | nil => simp at hne
                  | cons _ _ => simp
                have h9 := h5 0 h8
                rw [Nat.zero_mul, List.getElem?_eq_getElem (by omega)] at h9
                have := World.cell?_spot h9
                simpa [Addr.add] using this
              · rw [List.getElem?_map] at hr
                obtain ⟨j, hj, rfl⟩ := Option.map_eq_some_iff.1 hr
                obtain ⟨hil, rfl⟩ := List.getElem?_eq_some_iff.1 hj
                simp only [List.getElem_range] at *
                simp only [List.length_range] at hil
                obtain ⟨⟨cs', h1, h2⟩, h3, _⟩ := hF i hil
                obtain ⟨_, h4, h5⟩ := World.cells?_some h1
                refine ⟨by rw [← RdL_length h2, h4], ?_⟩
                refine rdCells_of hc h2 h3 fun j hj => ?_
                have := h5 j (by omega)
                rw [← this, Nat.zero_add, Go.Deep.add_add]
          · simp only [HasL, HasD, and_true]
            refine HasR_of fun r hr => ?_
            obtain ⟨i, hi', rfl⟩ := List.mem_map.1 hr
            exact (hF i (List.mem_range.1 hi')).2.1
          · have := dszR_le (F := F) (X := X) (l := List.range len) fun i hi' => (hF i (List.mem_range.1 hi')).2.2
            simp only [dszL, dsz, Rows.uptoBulk]
            omega
    · rename_i fl hu
      split at h
      · rename_i hone'
        simp only [Bool.and_eq_true, beq_iff_eq] at hone'
        obtain ⟨hone, hct⟩ := hone'
        obtain ⟨ys, n', hn', rfl, hlen, hyl, hff⟩ := DataW.trod_struct hu hx
        have h0 := h
        clear h
        have key : ∀ (i : Nat) (r : List Field) (ss : List Sh), (∀ j f, r[j]? = some f → fl[i + j]? = some f) → i + r.length = fl.size → (r.mapM fun f => (shF P n f.type).bind fun l => match l with
              | [s] => some s
              | _ => none) = some ss → cs.length = fl.size → ∃ ds, RdL c ds (cs.drop i) ∧ HasL ds ss ∧ dszL ds ≤ Rows.uptoBulkAll ((ys.drop i).map (·.1)) := by
          intro i r
          induction r generalizing i with
          | nil =>
            intro ss hr hl hs hcs
            simp only [List.mapM_nil, Option.pure_def, Option.some.injEq] at hs; subst hs
            simp only [List.length_nil, Nat.add_zero] at hl
            rw [List.drop_of_length_le (by omega)]
            exact ⟨[], trivial, by simp [HasL], by simp [dszL]⟩
          | cons f r ih =>
            intro ss hr hl hs hcs
            simp only [List.mapM_cons, Option.bind_eq_bind, Option.bind_eq_some_iff, Option.pure_def, Option.some.injEq] at hs
            obtain ⟨s, ⟨l1, hl1, hl2⟩, ss', hs', rfl⟩ := hs
            have hl3 : l1 = [s] := by
              split at hl2
              · simp only [Option.some.injEq] at hl2; subst hl2; rfl
              · cases hl2
            subst hl3
            have hfi : fl[i]? = some f := hr 0 f rfl
            obtain ⟨ho, hk⟩ := hone_of hone i f hfi
            have h2 := hff i f hfi
            simp only [List.length_cons] at hl
            have hic : i < cs.length := by omega
            have hiy : i < ys.length := by omega
            rw [ho, hk, List.drop_eq_getElem_cons hic, List.take_succ_cons, List.take_zero, List.getElem?_eq_getElem hiy] at h2
            obtain ⟨ds1, k1, k2, k3⟩ := openF hc n f.type [s] hl1 n' _ _ h2
            obtain ⟨ds2, q1, q2, q3⟩ := ih (i + 1) ss' (fun j g hj => by
              have := hr (j + 1) g (by simpa using hj)
              rwa [show i + (j + 1) = i + 1 + j by omega] at this) (by omega) hs' hcs
            rw [List.drop_eq_getElem_cons hic, List.drop_eq_getElem_cons hiy]
            match ds1, k1, k2 with
            | [d], k1, k2 =>
              refine ⟨d :: ds2, ⟨k1.1, q1⟩, ?_, ?_⟩
              · simp only [HasL, and_true] at k2 ⊢; exact ⟨k2, q2⟩
              · simp only [dszL, List.map_cons, Rows.uptoBulkAll] at k3 ⊢; omega
            | [], k1, k2 => simp [HasL] at k2
            | _ :: _ :: _, k1, k2 => simp [HasL] at k2
        have hcl : cs.length = fl.size := hlen.trans hct
        obtain ⟨ds, k1, k2, k3⟩ := key 0 fl.toList fs (fun j f hj => by simpa using hj) (by simp) h0 hcl
        refine ⟨ds, by simpa using k1, k2, ?_⟩
        simp only [List.drop_zero] at k3
        simp only [Rows.uptoBulk]
        omega
      · cases h
    · cases h
end
end Go.Proofs.YtpbkdcfjlbdgfaaDoor
set_option linter.unusedVariables false
set_option linter.unusedSimpArgs false
namespace Go.Proofs.YtpbkdcfjlbdgfaaDoor
open Go Go.Ev
open Go.ChangeShapes Go.WideShapes Go.ChangeAt Go.RowKit
set_option maxRecDepth 100000
abbrev shMk : List Sh := [.int .u8, .str]
abbrev shHk : List Sh := [.int .i64, .int .i64, .int .i64, .int .i64, .sl shMk]
abbrev shPt : List Sh := [.str, .str, .sl shHk]
theorem has_int {d : D} {k : IntKind} (h : HasD d (.int k)) : ∃ z, d = .v (.int k z) ∧ dsz d = 1 ∧ (Lit.int k z).wf = true := by
  cases d with
  | v x =>
    simp only [HasD] at h
    split at h
    · rename_i k' z k e
      simp only [Sh.int.injEq] at e; subst e
      obtain ⟨rfl, _, hw⟩ := h
      exact ⟨z, rfl, rfl, hw⟩
    · rename_i e; cases e
    · rename_i e; cases e
    · exact h.elim
  | sl r => simp [HasD] at h
  | pt r => simp [HasD] at h
  | ifc t r => simp [HasD] at h
theorem has_str {d : D} (h : HasD d .str) : ∃ s : List UInt8, d = .v (.string ⟨s.toArray⟩) ∧ dsz d = s.length + 1 := by
  cases d with
  | v x =>
    simp only [HasD] at h
    split at h
    · rename_i e; cases e
    · rename_i s e
      obtain ⟨s, rfl⟩ := ex_str s
      exact ⟨s, rfl, rfl⟩
    · rename_i e; cases e
    · exact h.elim
  | sl r => simp [HasD] at h
  | pt r => simp [HasD] at h
  | ifc t r => simp [HasD] at h
theorem has_sl {d : D} {fs : List Sh} (h : HasD d (.sl fs)) : ∃ rows, d = .sl rows ∧ HasR rows fs ∧ dsz d = dszR rows + 1 := by
  cases d with
  | v x => simp [HasD] at h
  | sl r => simp only [HasD] at h; exact ⟨r, rfl, h, rfl⟩
  | pt r => simp [HasD] at h
  | ifc t r => simp [HasD] at h
theorem has_cons {r : List D} {s : Sh} {ss : List Sh} (h : HasL r (s :: ss)) : ∃ d ds, r = d :: ds ∧ HasD d s ∧ HasL ds ss ∧ dszL r = dsz d + dszL ds := by
  cases r with
  | nil => simp [HasL] at h
  | cons d ds => simp only [HasL] at h; exact ⟨d, ds, rfl, h.1, h.2, rfl⟩
theorem has_nil {r : List D} (h : HasL r []) : r = [] := by
  cases r with
  | nil => rfl
  | cons d ds => simp [HasL] at h
def szMk (l : List Mk) : Nat := (l.map fun m => m.2.length + 2).sum
def szHk (l : List Hk) : Nat := (l.map fun h => szMk h.2 + 5).sum
theorem has_mk : ∀ {rows : List (List D)}, HasR rows shMk → ∃ l, rows = mkRows l ∧ szMk l ≤ dszR rows
  | [], _ => ⟨[], rfl, by simp [szMk]⟩
  | r :: rs, h => by
    simp only [HasR] at h
    obtain ⟨l, rfl, hl⟩ := has_mk h.2
    obtain ⟨d, r1, rfl, h1, h2, e1⟩ := has_cons h.1
    obtain ⟨z, rfl, z1, _⟩ := has_int h1
    obtain ⟨d, r2, rfl, h3, h4, e2⟩ := has_cons h2
    obtain ⟨s, rfl, s1⟩ := has_str h3
    obtain rfl := has_nil h4
    refine ⟨(z, s) :: l, rfl, ?_⟩
    simp only [szMk, List.map_cons, List.sum_cons, dszR] at hl ⊢
    omega
theorem wf64 {z : Int} (h : (Lit.int .i64 z).wf = true) : -9223372036854775808 ≤ z ∧ z ≤ 9223372036854775807 := by
  simp [Lit.wf, IntKind.has, IntKind.min, IntKind.max, IntKind.signed, IntKind.bits] at h
  omega
def inH (h : Hk) : Prop := (-9223372036854775808 ≤ h.1.1 ∧ h.1.1 ≤ 9223372036854775807) ∧ (-9223372036854775808 ≤ h.1.2.1 ∧ h.1.2.1 ≤ 9223372036854775807) ∧ (-9223372036854775808 ≤ h.1.2.2.1 ∧ h.1.2.2.1 ≤ 9223372036854775807) ∧ (-9223372036854775808 ≤ h.1.2.2.2 ∧ h.1.2.2.2 ≤ 9223372036854775807)
theorem has_hk : ∀ {rows : List (List D)}, HasR rows shHk → ∃ l, rows = hkRows l ∧ szHk l ≤ dszR rows ∧ ∀ h ∈ l, inH h
  | [], _ => ⟨[], rfl, by simp [szHk], by simp⟩
  | r :: rs, h => by
    simp only [HasR] at h
    obtain ⟨l, rfl, hl, hin⟩ := has_hk h.2
    obtain ⟨d, r1, rfl, h1, h2, e1⟩ := has_cons h.1
    obtain ⟨z1, rfl, y1, x1⟩ := has_int h1
    obtain ⟨d, r2, rfl, h3, h4, e2⟩ := has_cons h2
    obtain ⟨z2, rfl, y2, x2⟩ := has_int h3
    obtain ⟨d, r3, rfl, h5, h6, e3⟩ := has_cons h4
    obtain ⟨z3, rfl, y3, x3⟩ := has_int h5
    obtain ⟨d, r4, rfl, h7, h8, e4⟩ := has_cons h6
    obtain ⟨z4, rfl, y4, x4⟩ := has_int h7
    obtain ⟨d, r5, rfl, h9, h10, e5⟩ := has_cons h8
    obtain ⟨q, rfl, hq, y5⟩ := has_sl h9
    obtain ⟨m, rfl, hm⟩ := has_mk hq
    obtain rfl := has_nil h10
    refine ⟨((z1, z2, z3, z4), m) :: l, rfl, ?_, fun h hh => (List.mem_cons.1 hh).elim (fun e => by subst e; exact ⟨wf64 x1, wf64 x2, wf64 x3, wf64 x4⟩) (hin h)⟩
    simp only [szHk, List.map_cons, List.sum_cons, dszR] at hl ⊢
    omega
theorem szMk_mem : ∀ {l : List Mk} {m : Mk}, m ∈ l → m.2.length + 2 ≤ szMk l
  | x :: r, m, h => by
    simp only [szMk, List.map_cons, List.sum_cons]
    rcases List.mem_cons.1 h with rfl | h
    · omega
    · have := szMk_mem h; unfold szMk at this; omega
theorem szMk_len : ∀ l : List Mk, 2 * l.length ≤ szMk l
  | [] => by simp [szMk]
  | x :: r => by have := szMk_len r; simp only [szMk, List.map_cons, List.sum_cons, List.length_cons] at this ⊢; omega
theorem szHk_mem : ∀ {l : List Hk} {h : Hk}, h ∈ l → szMk h.2 + 5 ≤ szHk l
  | x :: r, m, h => by
    simp only [szHk, List.map_cons, List.sum_cons]
    rcases List.mem_cons.1 h with rfl | h
    · omega
    · have := szHk_mem h; unfold szHk at this; omega
theorem szHk_len : ∀ l : List Hk, 5 * l.length ≤ szHk l
  | [] => by simp [szHk]
  | x :: r => by have := szHk_len r; simp only [szHk, List.map_cons, List.sum_cons, List.length_cons] at this ⊢; omega
theorem smH_of {l : List Hk} (h : szHk l ≤ 1048576) : smH l := by
  have := szHk_len l
  refine ⟨by omega, fun x hx => ?_⟩
  have h1 := szHk_mem hx
  have h2 := szMk_len x.2
  refine ⟨by omega, fun m hm => ?_⟩
  have := szMk_mem hm
  omega
theorem cntT_len (a n : Int) (h1 : -9223372036854775808 ≤ a ∧ a ≤ 9223372036854775807) (h2 : -9223372036854775808 ≤ n ∧ n ≤ 9223372036854775807) : (cntT a n).length ≤ 43 := by
  have k1 := itoa_len (n := a) h1
  have k2 := itoa_len (n := n) h2
  unfold cntT
  split
  · omega
  · simp only [List.length_append, List.length_cons, List.length_nil]; omega
end Go.Proofs.YtpbkdcfjlbdgfaaDoor
set_option linter.unusedVariables false
set_option linter.unusedSimpArgs false
namespace Go.Proofs.YtpbkdcfjlbdgfaaDoor
open Go Go.Ev
open Go.ChangeShapes Go.WideShapes Go.ChangeAt Go.RowKit
set_option maxRecDepth 100000
namespace UnifiedPrints
theorem uLn_len (m : Mk) : (uLn m).length ≤ 15 * (m.2.length + 2) := by
  unfold uLn lineT
  split <;> simp only [List.length_append, List.length_cons, List.length_nil] <;> omega
theorem lns_len : ∀ l : List Mk, (l.flatMap uLn).length ≤ 15 * szMk l
  | [] => by simp
  | m :: r => by
    have h1 := lns_len r
    have h2 := uLn_len m
    simp only [List.flatMap_cons, List.length_append, szMk, List.map_cons, List.sum_cons] at h1 ⊢
    omega
theorem hks_len : ∀ {l : List Hk}, (∀ h ∈ l, inH h) → (l.flatMap uHk).length ≤ 20 * szHk l
  | [], _ => by simp
  | h :: r, hi => by
    have h1 := hks_len (l := r) fun x hx => hi x (by simp [hx])
    have h2 := lns_len h.2
    obtain ⟨i1, i2, i3, i4⟩ := hi h (by simp)
    have g1 := cntT_len _ _ i1 i2
    have g2 := cntT_len _ _ i3 i4
    have h3 : (uHk h).length ≤ 100 + 15 * szMk h.2 := by
      simp only [uHk, uHd, List.length_append, List.length_cons, List.length_nil]
      omega
    simp only [List.flatMap_cons, List.length_append, szHk, List.map_cons, List.sum_cons] at h1 ⊢
    omega
theorem pt_len {o n : List UInt8} {l : List Hk} (hi : ∀ h ∈ l, inH h) : (uPt o n l).length ≤ 3 * o.length + 3 * n.length + 40 + 20 * szHk l := by
  have h1 := hks_len hi
  have n1 := nameS_len o
  have n2 := nameS_len n
  unfold uPt
  split
  · simp
  · simp only [uTop, List.length_append, List.length_cons, List.length_nil]
    omega
theorem contract (H : Type) (enc : TypeId × Value → H) (W : World) (base : Nat) (args : Array Value) (ds gs : List (DataW H)) (before : List MemPlace)
    (hval : ∀ (j : Nat) t v, Tryd.f7.params[j]? = some t → args[j]? = some v → Value.okWide Tryd.prog W .any base t v)
    (hW : DataW.Whole enc Tryd.prog Tryd.f7.params.toList Rows.unifiedPrintsSpec.vars false W args.toList ds gs before) (hk : Rows.uptoSmall H (ds ++ gs) = true) (hP : Pow10 W) :
    Calls Tryd.prog 7 args W fun e W' => ∃ v, e = .returned v ∧ Rows.unifiedPrintsSpec.post enc Tryd.prog Tryd.f7 false true false false W args v W' := by
  have hW' := hW
  obtain ⟨p, q, hA0, hV, rfl, hfz, hnd⟩ := hW
  have hA : DataW.TrodAll enc Tryd.prog W 0 (fun _ => true) true Tryd.f7.params.toList args.toList ds p := hA0
  rw [Tryd.params7] at hA hval
  obtain ⟨v0, vs0, d0, ds0, p0, q0, hargs, rfl, rfl, h0, r0⟩ := trodAll_cons hA
  obtain ⟨rfl, rfl, rfl⟩ := trodAll_nil r0
  obtain rfl : args = #[v0] := by cases args; simp_all
  obtain ⟨rfl, rfl⟩ := trodVars_none hV
  have hcell : ∀ a u, W.cell? a = some u → (∀ z, u ≠ .int .u64 z) → (W.cell? a = some u ∧ ¬ HP a.block) := fun a u h hz => ⟨h, HP_no hP h hz⟩
  have hv0 := hval 0 34 v0 rfl rfl
  have hs : shF Tryd.prog 8 34 = some shPt := by kernel_rfl
  obtain ⟨cs, rfl⟩ : ∃ cs, v0 = .agg cs := by
    unfold Value.okWide at hv0
    rw [Tryd.underlying34] at hv0
    obtain ⟨cs, e, _⟩ := hv0
    exact ⟨cs, e⟩
  obtain ⟨fuel, ht⟩ := h0
  obtain ⟨xs, k1, k2, k3⟩ := openF hcell 8 _ _ hs fuel _ _ ht
  simp only at k3
  obtain ⟨x1, r1, rfl, a1, a2, a3⟩ := has_cons k2
  obtain ⟨o, rfl, o1⟩ := has_str a1
  obtain ⟨x2, r2, rfl, b1, b2, b3⟩ := has_cons a2
  obtain ⟨n, rfl, n1⟩ := has_str b1
  obtain ⟨x3, r3, rfl, c1, c2, c3⟩ := has_cons b2
  obtain ⟨rows, rfl, d1, d2⟩ := has_sl c1
  obtain ⟨l, rfl, e1, e2⟩ := has_hk d1
  obtain rfl := has_nil c2
  have hbk : Rows.uptoBulkAll ([d0] ++ [] : List (DataW H)) ≤ 1048576 := of_decide_eq_true hk
  simp only [List.append_nil, Rows.uptoBulkAll] at hbk
  simp only [List.append_nil] at hW'
  have hsm : smH l := smH_of (by omega)
  have hpl := pt_len (o := o) (n := n) e2
  refine (law_calls HP (s7 (G := Pow10) (fun w h => h)) (args := [.agg [.d (.v (.string ⟨o.toArray⟩)), .d (.v (.string ⟨n.toArray⟩)), .d (.sl (hkRows l))]]) (vs := [.agg cs]) (W := W) hP (fun b hb => HP_lt hP hb) ?_ ?_).mono fun e W' ⟨he, hg⟩ => ?_
  · simp -dsimp -implicitDefEqProofs only [CLawU, pureC_wp, unHk_rows, Option.bind_some, Option.map_some, need_some, sem_str]
    exact ⟨trivial, ⟨hsm, by omega⟩, trivial⟩
  · simp only [CnL, Cn, and_true]
    exact ⟨cs, rfl, CnL_of_RdL k1, RdL_one k1⟩
  · subst he
    have u4 : Tryd.prog.underlying 4 = some .bool := by kernel_rfl
    have hlt := hW'.lt
    have lo : laidOutB Tryd.prog = true := by kernel_rfl
    have sz : (34 : Nat) < Tryd.prog.types.size := of_decide_eq_true (by kernel_rfl)
    have rr : Tryd.prog.readableRec 34 = true := by kernel_rfl
    refine ⟨_, rfl, post_of_below (pa := p0 ++ []) (pv := []) hW' (fun _ _ _ => (trodAll_cons_mk (shut_bool u4 _) trodAll_mk0)) (fun sp hsp => trodAll_cons_mk (WideElems.Trod_stays lo rr sz ⟨fuel, ht⟩ (fun x hx => hg.same (hlt x (by simp [hx]))) (fun x hx => hsp x (by simp [hx]))) trodAll_mk0) (fun _ _ => rfl) (by simp)
      hg (ok_one (by kernel_rfl) rfl (okWide_bool_mk u4 _))⟩
end UnifiedPrints
end Go.Proofs.YtpbkdcfjlbdgfaaDoor
set_option linter.unusedVariables false
set_option linter.unusedSimpArgs false
namespace Go.Proofs.YtpbkdcfjlbdgfaaDoor
open Go Go.Ev
open Go.ChangeShapes Go.WideShapes Go.ChangeAt Go.RowKit
set_option maxRecDepth 100000
namespace UnifiedPrints
theorem own : ownKnob Tryd.prog.godebug = none := by kernel_rfl
theorem gTab : Tryd.prog.globalNamed "internal/strconv.uint64pow10" = some 6 := by kernel_rfl
theorem gTabType : (Tryd.prog.globals[6]?).map (·.type) = some 230 := by kernel_rfl
theorem pow {W : World} (h : laidMetH Tryd.prog Rows.unifiedPrintsUptoRow.laid W) : Pow10 W :=
  Lib.tabIs_of_head (rest := []) (n := 20) (e := 64) gTab gTabType (by kernel_rfl) (by kernel_rfl) (by kernel_rfl) (by kernel_rfl) (laidMet.tail (laidMet.tail h))
def vals : DataW Unit → Array Value
  | .agg l => (l.map fun x => match x with | .lit (.int k z) => Value.int k z | _ => undef).toArray
  | _ => #[]
noncomputable def laidWorld (os : Os) : World :=
  { World.holding Tryd.prog os ⟨#[], #[], []⟩ with heap := (((World.holding Tryd.prog os ⟨#[], #[], []⟩).heap.modify 6 (fun o => match o with | .cells _ t frozen => .cells (vals Rows.laid_internal_strconv_uint64pow10) t frozen | o => o)).modify 7 (fun o => match o with | .cells _ t frozen => .cells (vals Rows.laid_math_bits_deBruijn32tab) t frozen | o => o)).modify 8 (fun o => match o with | .cells _ t frozen => .cells (vals Rows.laid_math_bits_deBruijn64tab) t frozen | o => o) }
abbrev wargs : Array Value := #[.agg #[.string ⟨#[]⟩, .string ⟨#[]⟩, .slice none 0 0]]
theorem laid_met (os : Os) : laidMet Tryd.prog Rows.unifiedPrintsUptoRow.laid ((laidWorld os).forCall (fun _ _ => 0) ⟨#[], wargs, []⟩).memory :=
  laidMet_of_run' 8 (by kernel_rfl) (by kernel_rfl)
theorem reads (os : Os) {H : Type} (enc : TypeId × Value → H) : ∃ places, DataW.whole enc Tryd.prog ((laidWorld os).forCall (fun _ _ => 0) ⟨#[], wargs, []⟩).memory Tryd.f7.params.toList Rows.unifiedPrintsSpec.vars false wargs.toList 8 = some ([.agg [.lit (.string []), .lit (.string []), .nil]], [], places) :=
  ⟨[], by kernel_rfl⟩
theorem liftedUpto (os : Os) (started : os.Started) (H : Type) (enc : TypeId × Value → H) (F : Stop.Interp) :
    ReturnsInHanded {} Tryd.checked os 7 .any ((Rows.OpenSpec.upto Rows.unifiedPrintsSpec).preRow enc Tryd.prog Tryd.f7 Rows.unifiedPrintsUptoRow.domain false Rows.unifiedPrintsUptoRow.laid) (((Rows.OpenSpec.upto Rows.unifiedPrintsSpec).at F).post enc Tryd.prog Tryd.f7 false true false false) := by
  obtain ⟨places, hx⟩ := reads os enc
  refine returnsInHanded_of_row (C := Tryd.checked) (s := Rows.OpenSpec.upto Rows.unifiedPrintsSpec) own started (by kernel_rfl) Tryd.func7
    (witness_row_at (enc := enc) (C := Tryd.checked) false (laidWorld os) wargs rfl (by kernel_rfl) (by kernel_rfl) (by kernel_rfl)
      (OpenSpec.preRow_of_cond 8 hx (by kernel_rfl) (fun k hk => by cases hk; kernel_rfl) (by kernel_rfl) (laid_met os))) ?_
  intro W base args ds gs before hval hW _ hcond _ hL _ _
  exact contract H enc W base args ds gs before hval hW (hcond _ rfl) (pow hL)
theorem saidUpto : Rows.UnifiedPrintsUptoSaid :=
  OpenClaim.holds_of_cond 7 Tryd.f7 rfl rfl rfl rfl rfl rfl rfl ⟨rfl, rfl, rfl, rfl, rfl⟩ rfl rfl rfl rfl rfl (by kernel_rfl) Tryd.func7 (by kernel_rfl)
    (of_decide_eq_true (by kernel_rfl)) (by unfold Func.isWrapper; first | (rw [if_pos (by decide +kernel)]; kernel_rfl) | (rw [if_neg (by decide +kernel)]; exact ⟨rfl, rfl⟩))
    (fun os started H enc _ F => by rw [OpenClaim.pre_eq_preRow]; exact liftedUpto os started H enc F)
theorem plain (f : FuncId) (fn : Func) (hf : Tryd.pinned.checked.prog.funcNamed "redline/redlinelaw16.UnifiedPrints" = some f) (hfn : Tryd.pinned.checked.prog.funcs[f]? = some fn) :
    true = Tryd.pinned.checked.prog.looks [] ∧ ∀ (j : Nat) t, fn.params[j]? = some t → Tryd.pinned.checked.prog.wantsStandIn t = false := by
  obtain rfl : f = 7 := Option.some.inj ((show Tryd.prog.funcNamed "redline/redlinelaw16.UnifiedPrints" = some 7 by kernel_rfl).symm.trans hf) |>.symm
  obtain rfl : fn = Tryd.f7 := (Option.some.inj (Tryd.func7.symm.trans hfn)).symm
  refine ⟨by kernel_rfl, fun j t ht => ?_⟩
  have hall : (Tryd.f7.params.toList.all fun u => !Tryd.prog.wantsStandIn u) = true := by kernel_rfl
  have hm : t ∈ Tryd.f7.params.toList := by simpa using Array.mem_of_getElem? ht
  exact (show Tryd.prog.wantsStandIn t = false by simpa using List.all_eq_true.1 hall t hm)
theorem cardUpto : Rows.UnifiedPrintsUptoCardSaid :=
  Claim7.holds_tied_plain_at .later [] _ _ _ _ saidUpto (fun _ h => by cases h) (by kernel_rfl) (fun _ h => by cases h) unifiedPrintsUpto_row_tie rfl ⟨rfl, rfl⟩ (by kernel_rfl) rfl plain (by kernel_rfl)
end UnifiedPrints
end Go.Proofs.YtpbkdcfjlbdgfaaDoor
