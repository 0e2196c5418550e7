import Derived.Test.YtpbkdcfjlbdgfaaDoorN9
import Derived.Test.YtpbkdcfjlbdgfaaDoorD2
import Derived.Test.YtpbkdcfjlbdgfaaDoorSj
import Derived.Test.YtpbkdcfjlbdgfaaDoorEvWt
set_option linter.unusedVariables false
set_option linter.unusedSimpArgs false
namespace Go.Proofs.YtpbkdcfjlbdgfaaDoor
open Go Go.Ev
set_option maxRecDepth 100000
variable {G : World → Prop}
theorem flat_snoc (l : List (List UInt8)) (i : Nat) (h : i < l.length) : (l.take (i + 1)).flatten = (l.take i).flatten ++ l.getD i [] := by
  rw [List.take_succ_eq_append_getElem h, List.flatten_append]
  simp [List.getD_eq_getElem?_getD, List.getElem?_eq_getElem h]
theorem flat_le (l : List (List UInt8)) (i : Nat) : (l.take i).flatten.length ≤ l.flatten.length := by
  conv => rhs; rw [← List.take_append_drop i l, List.flatten_append, List.length_append]
  exact Nat.le_add_right _ _
theorem join_flat (l : List (List UInt8)) : Lib.join l [] = l.flatten := by
  cases l with
  | nil => rfl
  | cons x r => rw [Lib.join_cons]; simp [Lib.joinTail]
/-- Lines as a text. -/
def CJoin : Contract := pureC fun args => match args with
  | [.d (.sl a)] => (unStr a).map fun x => (x.length ≤ 1099511627776 ∧ x.flatten.length ≤ 70368744177664, .d (.v (str x.flatten)))
  | _ => none
def CJoinS : Contract := pureC fun args => match args with
  | [.d (.sl a), .d (.v (.string p))] => (unStr a).map fun x => ((p.size = 0) ∧ x.length ≤ 1099511627776 ∧ x.flatten.length ≤ 70368744177664, .d (.v (str x.flatten)))
  | _ => none
theorem s49 : Sound G Tryd.prog 49 CJoin := by
  refine sd49 (T := tabT []) tab_nil (pureC_lawful _) (pure_hX fun args p x K h hp hk => ?_)
  split at h <;> simp only [Option.map_eq_some_iff, Prod.mk.injEq, reduceCtorEq] at h
  obtain ⟨l, hl, rfl, rfl⟩ := h
  rw [unStr_eq hl] at *
  obtain ⟨h1, h2⟩ := hp
  refine ⟨Nat.le_of_ble_eq_true rfl, ?_⟩
  simp -dsimp -implicitDefEqProofs only [S49, R49, ↓Ev.xStp_eq, ↓Ev.P, Ev.Q, eq_self, forall_eq_or_imp, implies_true, forall_const, forall_eq, ↓reduceIte, reduceIte, Nat.reduceEqDiff, Nat.reduceAdd, reduceCtorEq, Nat.reduceSub, Int.reduceToNat, Int.reduceLE, Int.reduceLT, Int.reduceNeg, Nat.reduceBEq, Nat.reduceMul, Nat.reduceLeDiff, Nat.reduceMod, UInt8.reduceOfNat, Nat.reduceLT, Int.reduceEq, Int.reduceAdd, Int.reduceSub, Int.reduceMul]
  refine xLoop_intro (fun k st => ∃ i : Nat, i ≤ l.length ∧ k = l.length - i ∧
      st = ⟨[(0, .d (.sl (strRows l))), (3, .own 0), (4, .d (.v (.int .i64 i)))], 1, [(0, .row 5 1 (byteRows (l.take i).flatten))]⟩) l.length [0] ?_ ?_ ?_
  · simp -dsimp -implicitDefEqProofs only [↓Ev.xStp_eq, ↓Ev.P, Ev.Q, eq_self, forall_eq_or_imp, implies_true, forall_const, forall_eq, ↓reduceIte, reduceIte, Nat.reduceEqDiff, Nat.reduceAdd, reduceCtorEq, Nat.reduceSub, Int.reduceToNat, Int.reduceLE, Int.reduceLT, Int.reduceNeg, Nat.reduceBEq, Nat.reduceMul, Nat.reduceLeDiff, Nat.reduceMod, UInt8.reduceOfNat, Nat.reduceLT, Int.reduceEq, Int.reduceAdd, Int.reduceSub, Int.reduceMul]
  · simp -dsimp -implicitDefEqProofs only [↓Ev.xStp_eq, ↓Ev.P, Ev.Q, eq_self, forall_eq_or_imp, implies_true, forall_const, forall_eq, ↓reduceIte, reduceIte, Nat.reduceEqDiff, Nat.reduceAdd, reduceCtorEq, Nat.reduceSub, Int.reduceToNat, Int.reduceLE, Int.reduceLT, Int.reduceNeg, Nat.reduceBEq, Nat.reduceMul, Nat.reduceLeDiff, Nat.reduceMod, UInt8.reduceOfNat, Nat.reduceLT, Int.reduceEq, Int.reduceAdd, Int.reduceSub, Int.reduceMul]
    exact ⟨0, by omega, by omega, rfl⟩
  · rintro k st ⟨i, hi, hk2, rfl⟩
    by_cases hil : i < l.length
    · have hi3 : (i : Int) < l.length := by omega
      have hsn := flat_snoc l i hil
      have hle := flat_le l (i + 1)
      rw [hsn, List.length_append] at hle
      simp -dsimp -implicitDefEqProofs only [strRows_get hil, hi3, strRows_len, ↓Ev.xStp_eq, ↓Ev.P, Ev.Q, eq_self, forall_eq_or_imp, implies_true, forall_const, forall_eq, ↓reduceIte, reduceIte, Nat.reduceEqDiff, Nat.reduceAdd, reduceCtorEq, Nat.reduceSub, Int.reduceToNat, Int.reduceLE, Int.reduceLT, Int.reduceNeg, Nat.reduceBEq, Nat.reduceMul, Nat.reduceLeDiff, Nat.reduceMod, UInt8.reduceOfNat, Nat.reduceLT, Int.reduceEq, Int.reduceAdd, Int.reduceSub, Int.reduceMul]
      repeat' (first | with_reducible assumption | refine And.intro ?_ ?_ | intro _)
      all_goals try omega
      refine xAgain_intro (l.length - (i + 1)) [1] (by omega) (by simp -dsimp -implicitDefEqProofs only [↓Ev.xStp_eq, ↓Ev.P, Ev.Q, eq_self, forall_eq_or_imp, implies_true, forall_const, forall_eq, ↓reduceIte, reduceIte, Nat.reduceEqDiff, Nat.reduceAdd, reduceCtorEq, Nat.reduceSub, Int.reduceToNat, Int.reduceLE, Int.reduceLT, Int.reduceNeg, Nat.reduceBEq, Nat.reduceMul, Nat.reduceLeDiff, Nat.reduceMod, UInt8.reduceOfNat, Nat.reduceLT, Int.reduceEq, Int.reduceAdd, Int.reduceSub, Int.reduceMul]) ⟨i + 1, by omega, rfl, ?_⟩
      rw [hsn]
      simp -dsimp -implicitDefEqProofs only [↓Ev.xStp_eq, ↓Ev.P, Ev.Q, eq_self, forall_eq_or_imp, implies_true, forall_const, forall_eq, ↓reduceIte, reduceIte, Nat.reduceEqDiff, Nat.reduceAdd, reduceCtorEq, Nat.reduceSub, Int.reduceToNat, Int.reduceLE, Int.reduceLT, Int.reduceNeg, Nat.reduceBEq, Nat.reduceMul, Nat.reduceLeDiff, Nat.reduceMod, UInt8.reduceOfNat, Nat.reduceLT, Int.reduceEq, Int.reduceAdd, Int.reduceSub, Int.reduceMul]
      rfl
    · have hi3 : ¬ (i : Int) < l.length := by omega
      simp -dsimp -implicitDefEqProofs only [hi3, strRows_len, ↓Ev.xStp_eq, ↓Ev.P, Ev.Q, eq_self, forall_eq_or_imp, implies_true, forall_const, forall_eq, ↓reduceIte, reduceIte, Nat.reduceEqDiff, Nat.reduceAdd, reduceCtorEq, Nat.reduceSub, Int.reduceToNat, Int.reduceLE, Int.reduceLT, Int.reduceNeg, Nat.reduceBEq, Nat.reduceMul, Nat.reduceLeDiff, Nat.reduceMod, UInt8.reduceOfNat, Nat.reduceLT, Int.reduceEq, Int.reduceAdd, Int.reduceSub, Int.reduceMul]
      rw [List.take_of_length_le (by omega)]
      exact hk
theorem join0 : Sound G Tryd.prog 96 (pureC fun args => match args with
  | [.d (.sl []), .d (.v (.string p))] => some (True, .d (.v (str [])))
  | _ => none) := by
  refine sd96 (T := tabT []) tab_nil (pureC_lawful _) (pure_hX fun args p x K h hp hk => ?_)
  split at h <;> simp only [Option.some.injEq, Prod.mk.injEq, reduceCtorEq] at h
  obtain ⟨rfl, rfl⟩ := h
  refine ⟨Nat.le_of_ble_eq_true rfl, ?_⟩
  simp -dsimp -implicitDefEqProofs only [S96, R96, ↓Ev.xStp_eq, ↓Ev.P, Ev.Q, eq_self, forall_eq_or_imp, implies_true, forall_const, forall_eq, ↓reduceIte, reduceIte, Nat.reduceEqDiff, Nat.reduceAdd, reduceCtorEq, Nat.reduceSub, Int.reduceToNat, Int.reduceLE, Int.reduceLT, Int.reduceNeg, Nat.reduceBEq, Nat.reduceMul, Nat.reduceLeDiff, Nat.reduceMod, UInt8.reduceOfNat, Nat.reduceLT, Int.reduceEq, Int.reduceAdd, Int.reduceSub, Int.reduceMul]
  exact hk
theorem join1 : Sound G Tryd.prog 96 (pureC fun args => match args with
  | [.d (.sl (a :: r)), .d (.v (.string p))] => (unStr (a :: r)).map fun x => ((p.size = 0) ∧ x.length ≤ 1099511627776 ∧ x.flatten.length ≤ 70368744177664, .d (.v (str x.flatten)))
  | _ => none) := by
  refine sound_lib ⟨Tryd.f96, by kernel_rfl, by kernel_rfl, by kernel_rfl⟩ fun args p x h hp => ?_
  split at h <;> simp only [Option.map_eq_some_iff, Prod.mk.injEq, reduceCtorEq] at h
  obtain ⟨l, hl, rfl, rfl⟩ := h
  rename_i a r s
  obtain ⟨h1, h2, h3⟩ := hp
  obtain rfl : s = ⟨#[]⟩ := by
    obtain ⟨b, rfl⟩ := ex_str s
    rw [sem_str.1] at h1
    rw [List.length_eq_zero_iff.1 h1]
  have hr := unStr_eq hl
  have hll : l.length = (a :: r).length := by rw [hr, strRows_len]
  refine ⟨_, fun m n c => ⟨rfl, rfl⟩, fun w hw m c vs hc hv => ?_⟩
  match vs, hv with
  | [v, u], hv =>
    simp only [CnL, and_true] at hv
    obtain ⟨hv, hu⟩ := hv
    rw [of_v hu]
    simp only [Cn, Rd] at hv
    obtain ⟨A, cap, rfl, c1, c2, c3⟩ := hv
    rcases c3 with c3 | ⟨ad, sz, rfl, hsp, c3⟩
    · cases c3
    · obtain ⟨bk, o, sp⟩ := ad
      simp only at hsp
      subst hsp
      rw [hr] at c3
      have hget : ∀ j, j < l.length → w.cell? ⟨bk, o + j, none⟩ = some (.string ⟨(l.getD j []).toArray⟩) := by
        intro j hj
        obtain ⟨k1, k2⟩ := RdRows_get c3 (strRows_get hj)
        simp only [List.length_cons, List.length_nil] at k1
        subst k1
        simp only [RdCells, Rd, and_true] at k2
        obtain ⟨u, k3, rfl, _⟩ := k2
        have := hc _ _ k3
        rw [Nat.zero_add, Nat.mul_one] at this
        rw [← this]
        congr 1
        unfold Addr.add
        split
        · rename_i e; subst e; rfl
        · rfl
      have h0 := hget 0 (by rw [hll]; simp)
      have hj := join_flat l
      have hx : (l.map fun s => (⟨s.toArray⟩ : ByteArray)).map (·.data.toList) = l := by simp [Function.comp_def]
      have hc2 := Tryd.strings_Join bk o cap (l.map fun s => (⟨s.toArray⟩ : ByteArray)) ⟨#[]⟩ w (fun j x hx => by
        rw [List.getElem?_map] at hx
        obtain ⟨s, e1, rfl⟩ := Option.map_eq_some_iff.1 hx
        have hj := (List.getElem?_eq_some_iff.1 e1).1
        rw [hget j hj]
        simp [List.getD_eq_getElem?_getD, e1]) (cell_lt h0) (by simp; omega) (by simp; omega) (by rw [hx, show (⟨#[]⟩ : ByteArray).data.toList = [] from rfl, hj]; omega)
      rw [hx, show (⟨#[]⟩ : ByteArray).data.toList = [] from rfl, hj, List.length_map, hll] at hc2
      exact hc2
  | [], hv => simp [CnL] at hv
  | [_], hv => simp [CnL] at hv
  | _ :: _ :: _ :: _, hv => simp [CnL] at hv
theorem s96 : Sound G Tryd.prog 96 CJoinS := by
  refine sound_two join0 join1 fun args p x h hp => ?_
  split at h <;> simp only [Option.map_eq_some_iff, Prod.mk.injEq, reduceCtorEq] at h
  obtain ⟨l, hl, rfl, rfl⟩ := h
  rename_i a s
  cases a with
  | nil =>
    simp only [unStr, Option.some.injEq] at hl; subst hl
    exact .inl ⟨True, rfl, trivial⟩
  | cons a r => exact .inr ⟨_, by simp only [hl, Option.map_some], hp⟩
theorem s48 : Sound G Tryd.prog 48 CJoin := by
  refine sd48 (T := tabT [(96, CJoinS)]) (tab_cons s96 tab_nil) (pureC_lawful _) (pure_hX fun args p x K h hp hk => ?_)
  split at h <;> simp only [Option.map_eq_some_iff, Prod.mk.injEq, reduceCtorEq] at h
  obtain ⟨l, hl, rfl, rfl⟩ := h
  rw [unStr_eq hl] at *
  refine ⟨Nat.le_of_ble_eq_true rfl, ?_⟩
  simp -dsimp -implicitDefEqProofs only [S48, R48, CJoinS, unStr_rows, Ev.St.giveC, ↓Ev.xStp_eq, ↓Ev.P, Ev.Q, eq_self, forall_eq_or_imp, implies_true, forall_const, forall_eq, ↓reduceIte, reduceIte, Nat.reduceEqDiff, Nat.reduceAdd, reduceCtorEq, Nat.reduceSub, Int.reduceToNat, Int.reduceLE, Int.reduceLT, Int.reduceNeg, Nat.reduceBEq, Nat.reduceMul, Nat.reduceLeDiff, Nat.reduceMod, UInt8.reduceOfNat, Nat.reduceLT, Int.reduceEq, Int.reduceAdd, Int.reduceSub, Int.reduceMul]
  exact ⟨hp, hk⟩
end Go.Proofs.YtpbkdcfjlbdgfaaDoor
