import Derived.Test.YtpbkdcfjlbdgfaaDoorN5
set_option linter.unusedVariables false
set_option linter.unusedSimpArgs false
namespace Go.Proofs.YtpbkdcfjlbdgfaaDoor
open Go Go.Ev
set_option maxRecDepth 100000
variable {G : World → Prop}
def CSame : Contract := pureC fun args => match args with
  | [.d (.sl a), .d (.sl b)] => (unStr a).bind fun x => (unStr b).map fun y => (x.length ≤ 1099511627776 ∧ y.length ≤ 1099511627776, .d (.v (.bool (decide (x = y)))))
  | _ => none
theorem getD_ext {l m : List (List UInt8)} (h : l.length = m.length) (h2 : ∀ i, i < l.length → l.getD i [] = m.getD i []) : l = m := by
  refine List.ext_getElem h fun i h3 h4 => ?_
  have := h2 i h3
  simpa [List.getD_eq_getElem?_getD, List.getElem?_eq_getElem h3, List.getElem?_eq_getElem h4] using this
theorem s15 : Sound G Tryd.prog 15 CSame := by
  refine sd15 (T := tabT []) tab_nil (pureC_lawful _) (pure_hX fun args p x K h hp hk => ?_)
  split at h <;> simp only [Option.bind_eq_some_iff, Option.map_eq_some_iff, Prod.mk.injEq, reduceCtorEq] at h
  obtain ⟨l, hl, m, hm, rfl, rfl⟩ := h
  rw [unStr_eq hl, unStr_eq hm] at *
  refine ⟨Nat.le_of_ble_eq_true rfl, ?_⟩
  obtain ⟨h1, h2⟩ := hp
  simp -dsimp -implicitDefEqProofs only [S15, R15, strRows_len, ↓Ev.xStp_eq, ↓Ev.P, Ev.Q, eq_self, forall_eq_or_imp, implies_true, forall_const, forall_eq, ↓reduceIte, reduceIte, Nat.reduceEqDiff, Nat.reduceAdd, reduceCtorEq, Nat.reduceSub, Int.reduceToNat, Int.reduceLE, Int.reduceLT, Int.reduceNeg, Nat.reduceBEq, Nat.reduceMul, Nat.reduceLeDiff, Nat.reduceMod, UInt8.reduceOfNat, Nat.reduceLT, Int.reduceEq, Int.reduceAdd, Int.reduceSub, Int.reduceMul]
  refine ⟨fun h => ?_, fun h => ?_⟩
  · rw [decide_eq_false (fun e => h (by rw [e]))] at hk; exact hk
  have hlm : l.length = m.length := by omega
  refine xLoop_intro (fun k st => ∃ (i : Nat), i ≤ l.length ∧ k = l.length - i ∧ (∀ j, j < i → l.getD j [] = m.getD j []) ∧
      st = ⟨[(0, .d (.sl (strRows l))), (1, .d (.sl (strRows m))), (5, .d (.v (.int .i64 i)))], 0, []⟩) l.length [] ?_ ?_ ?_
  · simp -dsimp -implicitDefEqProofs only [↓Ev.xStp_eq, ↓Ev.P, Ev.Q, eq_self, forall_eq_or_imp, implies_true, forall_const, forall_eq, ↓reduceIte, reduceIte, Nat.reduceEqDiff, Nat.reduceAdd, reduceCtorEq, Nat.reduceSub, Int.reduceToNat, Int.reduceLE, Int.reduceLT, Int.reduceNeg, Nat.reduceBEq, Nat.reduceMul, Nat.reduceLeDiff, Nat.reduceMod, UInt8.reduceOfNat, Nat.reduceLT, Int.reduceEq, Int.reduceAdd, Int.reduceSub, Int.reduceMul]
  · simp -dsimp -implicitDefEqProofs only [↓Ev.xStp_eq, ↓Ev.P, Ev.Q, eq_self, forall_eq_or_imp, implies_true, forall_const, forall_eq, ↓reduceIte, reduceIte, Nat.reduceEqDiff, Nat.reduceAdd, reduceCtorEq, Nat.reduceSub, Int.reduceToNat, Int.reduceLE, Int.reduceLT, Int.reduceNeg, Nat.reduceBEq, Nat.reduceMul, Nat.reduceLeDiff, Nat.reduceMod, UInt8.reduceOfNat, Nat.reduceLT, Int.reduceEq, Int.reduceAdd, Int.reduceSub, Int.reduceMul]
    exact ⟨0, by omega, by omega, fun j hj => by omega, rfl⟩
  · rintro k st ⟨i, hi, hk2, hj, rfl⟩
    by_cases hil : i < l.length
    · have hi3 : (i : Int) < l.length := by omega
      simp -dsimp -implicitDefEqProofs only [strRows_get hil, strRows_get (show i < m.length by omega), hi3, strRows_len, ↓Ev.xStp_eq, ↓Ev.P, Ev.Q, eq_self, forall_eq_or_imp, implies_true, forall_const, forall_eq, ↓reduceIte, reduceIte, Nat.reduceEqDiff, Nat.reduceAdd, reduceCtorEq, Nat.reduceSub, Int.reduceToNat, Int.reduceLE, Int.reduceLT, Int.reduceNeg, Nat.reduceBEq, Nat.reduceMul, Nat.reduceLeDiff, Nat.reduceMod, UInt8.reduceOfNat, Nat.reduceLT, Int.reduceEq, Int.reduceAdd, Int.reduceSub, Int.reduceMul]
      repeat' (first | with_reducible assumption | refine And.intro ?_ ?_ | intro _)
      all_goals try omega
      · rename_i h
        rw [decide_eq_false (fun e => h (by rw [e]))] at hk; exact hk
      · rename_i h
        refine xAgain_intro (l.length - (i + 1)) [] (by omega) (by simp -dsimp -implicitDefEqProofs only [↓Ev.xStp_eq, ↓Ev.P, Ev.Q, eq_self, forall_eq_or_imp, implies_true, forall_const, forall_eq, ↓reduceIte, reduceIte, Nat.reduceEqDiff, Nat.reduceAdd, reduceCtorEq, Nat.reduceSub, Int.reduceToNat, Int.reduceLE, Int.reduceLT, Int.reduceNeg, Nat.reduceBEq, Nat.reduceMul, Nat.reduceLeDiff, Nat.reduceMod, UInt8.reduceOfNat, Nat.reduceLT, Int.reduceEq, Int.reduceAdd, Int.reduceSub, Int.reduceMul]) ⟨i + 1, by omega, rfl, fun j hj2 => ?_, ?_⟩
        · by_cases e : j = i
          · rw [e]; exact h
          · exact hj j (by omega)
        · simp -dsimp -implicitDefEqProofs only [↓Ev.xStp_eq, ↓Ev.P, Ev.Q, eq_self, forall_eq_or_imp, implies_true, forall_const, forall_eq, ↓reduceIte, reduceIte, Nat.reduceEqDiff, Nat.reduceAdd, reduceCtorEq, Nat.reduceSub, Int.reduceToNat, Int.reduceLE, Int.reduceLT, Int.reduceNeg, Nat.reduceBEq, Nat.reduceMul, Nat.reduceLeDiff, Nat.reduceMod, UInt8.reduceOfNat, Nat.reduceLT, Int.reduceEq, Int.reduceAdd, Int.reduceSub, Int.reduceMul]
          rfl
    · have hi3 : ¬ (i : Int) < l.length := by omega
      simp -dsimp -implicitDefEqProofs only [hi3, strRows_len, ↓Ev.xStp_eq, ↓Ev.P, Ev.Q, eq_self, forall_eq_or_imp, implies_true, forall_const, forall_eq, ↓reduceIte, reduceIte, Nat.reduceEqDiff, Nat.reduceAdd, reduceCtorEq, Nat.reduceSub, Int.reduceToNat, Int.reduceLE, Int.reduceLT, Int.reduceNeg, Nat.reduceBEq, Nat.reduceMul, Nat.reduceLeDiff, Nat.reduceMod, UInt8.reduceOfNat, Nat.reduceLT, Int.reduceEq, Int.reduceAdd, Int.reduceSub, Int.reduceMul]
      rw [decide_eq_true (getD_ext hlm fun j hj2 => hj j (by omega))] at hk; exact hk
/-- Lines behind a sign. -/
def allT (s : List UInt8) (l : List (List UInt8)) : List UInt8 := l.flatMap (lineT s)
theorem all_snoc (s : List UInt8) (l : List (List UInt8)) (i : Nat) (h : i < l.length) : allT s (l.take (i + 1)) = allT s (l.take i) ++ lineT s (l.getD i []) := by
  rw [allT, List.take_succ_eq_append_getElem h, List.flatMap_append]
  simp [allT, List.getD_eq_getElem?_getD, List.getElem?_eq_getElem h]
theorem all_le (s : List UInt8) (l : List (List UInt8)) (i : Nat) : (allT s (l.take i)).length ≤ (allT s l).length := by
  conv => rhs; rw [← List.take_append_drop i l, allT, List.flatMap_append, List.length_append]
  exact Nat.le_add_right _ _
theorem bare_split (x : List UInt8) : ((bareS x).2 = true → x = (bareS x).1 ++ [10]) ∧ ((bareS x).2 = false → (bareS x).1 = x) := by
  unfold bareS
  split
  · rename_i h
    refine ⟨fun _ => ?_, fun h => by cases h⟩
    rcases List.eq_nil_or_concat x with rfl | ⟨m, c, rfl⟩
    · cases h
    · rw [List.concat_eq_append] at h ⊢
      have : c = 10 := by simpa using h
      subst this; simp
  · exact ⟨fun h => by simp at h, fun _ => rfl⟩
def gAll : List SV → Nat → Nat → List UInt8 → Option (Prop × SV × List UInt8)
  | [.d (.v (.string s)), .d (.sl rows)], t, u, bs => (unStr rows).bind fun l => if t = 72 ∧ u = 5 then
      some ((bs.length + (allT s.data.toList l).length ≤ 140737488355328 ∧ s.size ≤ 1000) ∧ l.length ≤ 1099511627776 ∧ ∀ x ∈ l, x.length ≤ 1099511627776, .tup [], bs ++ allT s.data.toList l) else none
  | _, _, _, _ => none
theorem s44 : Sound G Tryd.prog 44 (bldC gAll) := by
  refine sd44 (T := tabT [(58, CBare), (43, bldC gWS)]) (tab_cons s58 (tab_cons sWS tab_nil)) (bldC_lawful _) (bld_hX fun zs t u bs p x bs' K hg hp hk => ?_)
  unfold gAll at hg
  split at hg
  · obtain ⟨l, hl, hg2⟩ := Option.bind_eq_some_iff.1 hg
    obtain ⟨⟨rfl, rfl⟩, hg3⟩ := Option.ite_none_right_eq_some.1 hg2
    simp only [Option.some.injEq, Prod.mk.injEq] at hg3
    obtain ⟨rfl, rfl, rfl⟩ := hg3
    rw [unStr_eq hl] at *
    rename_i s _
    obtain ⟨s, rfl⟩ := ex_str s
    simp only [sem_str] at hk hp
    refine ⟨Nat.le_of_ble_eq_true rfl, ?_⟩
    obtain ⟨⟨hp1, hs⟩, hl1, hlx⟩ := hp
    simp -dsimp -implicitDefEqProofs only [S44, R44, strRows_len, ↓Ev.xStp_eq, ↓Ev.P, Ev.Q, eq_self, forall_eq_or_imp, implies_true, forall_const, forall_eq, ↓reduceIte, reduceIte, Nat.reduceEqDiff, Nat.reduceAdd, reduceCtorEq, Nat.reduceSub, Int.reduceToNat, Int.reduceLE, Int.reduceLT, Int.reduceNeg, Nat.reduceBEq, Nat.reduceMul, Nat.reduceLeDiff, Nat.reduceMod, UInt8.reduceOfNat, Nat.reduceLT, Int.reduceEq, Int.reduceAdd, Int.reduceSub, Int.reduceMul]
    refine xLoop_intro (fun k st => ∃ (i : Nat), i ≤ l.length ∧ k = l.length - i ∧
      st = ⟨[(0, .ptr 0 0), (1, .d (.v (.string ⟨s.toArray⟩))), (10, .d (.sl (strRows l))), (11, .d (.v (.int .i64 l.length))), (12, .d (.v (.int .i64 i)))], 1, [(0, .bld 72 5 (bs ++ allT s (l.take i)))]⟩) l.length [0] ?_ ?_ ?_
    · simp -dsimp -implicitDefEqProofs only [↓Ev.xStp_eq, ↓Ev.P, Ev.Q, eq_self, forall_eq_or_imp, implies_true, forall_const, forall_eq, ↓reduceIte, reduceIte, Nat.reduceEqDiff, Nat.reduceAdd, reduceCtorEq, Nat.reduceSub, Int.reduceToNat, Int.reduceLE, Int.reduceLT, Int.reduceNeg, Nat.reduceBEq, Nat.reduceMul, Nat.reduceLeDiff, Nat.reduceMod, UInt8.reduceOfNat, Nat.reduceLT, Int.reduceEq, Int.reduceAdd, Int.reduceSub, Int.reduceMul]
    · simp -dsimp -implicitDefEqProofs only [↓Ev.xStp_eq, ↓Ev.P, Ev.Q, eq_self, forall_eq_or_imp, implies_true, forall_const, forall_eq, ↓reduceIte, reduceIte, Nat.reduceEqDiff, Nat.reduceAdd, reduceCtorEq, Nat.reduceSub, Int.reduceToNat, Int.reduceLE, Int.reduceLT, Int.reduceNeg, Nat.reduceBEq, Nat.reduceMul, Nat.reduceLeDiff, Nat.reduceMod, UInt8.reduceOfNat, Nat.reduceLT, Int.reduceEq, Int.reduceAdd, Int.reduceSub, Int.reduceMul]
      exact ⟨0, by omega, by omega, by simp [allT]⟩
    · rintro k st ⟨i, hi, hk2, rfl⟩
      by_cases hil : i < l.length
      · have hi3 : (i : Int) < l.length := by omega
        have hx := hlx (l.getD i []) (by simp [List.getD_eq_getElem?_getD, List.getElem?_eq_getElem hil])
        have hle := all_le s l (i + 1)
        have hsn := all_snoc s l i hil
        have hb := bare_split (l.getD i [])
        have hgx := strRows_get hil
        generalize l.getD i [] = x at hx hsn hb hgx
        rcases hbx : bareS x with ⟨t, f⟩
        rw [hbx] at hb
        cases f with
        | false =>
          have hxt : t = x := hb.2 rfl
          subst hxt
          have hlt : lineT s t = s ++ t ++ [10] ++ markT := by rw [lineT, hbx, if_neg (fun h => by cases h)]
          rw [hlt] at hsn
          rw [hsn] at hle
          simp only [List.length_append, List.length_cons, List.length_nil] at hle
          simp -dsimp -implicitDefEqProofs only [hgx, hbx, hi3, CBare, gWS, bldT, List.length_append, ↓Ev.xStp_eq, ↓Ev.P, Ev.Q, eq_self, forall_eq_or_imp, implies_true, forall_const, forall_eq, ↓reduceIte, reduceIte, Nat.reduceEqDiff, Nat.reduceAdd, reduceCtorEq, Nat.reduceSub, Int.reduceToNat, Int.reduceLE, Int.reduceLT, Int.reduceNeg, Nat.reduceBEq, Nat.reduceMul, Nat.reduceLeDiff, Nat.reduceMod, UInt8.reduceOfNat, Nat.reduceLT, Int.reduceEq, Int.reduceAdd, Int.reduceSub, Int.reduceMul]
          repeat' (first | with_reducible assumption | refine And.intro ?_ ?_ | intro _)
          all_goals try omega
          refine xAgain_intro (l.length - (i + 1)) [0] (by omega) (by simp -dsimp -implicitDefEqProofs only [↓Ev.xStp_eq, ↓Ev.P, Ev.Q, eq_self, forall_eq_or_imp, implies_true, forall_const, forall_eq, ↓reduceIte, reduceIte, Nat.reduceEqDiff, Nat.reduceAdd, reduceCtorEq, Nat.reduceSub, Int.reduceToNat, Int.reduceLE, Int.reduceLT, Int.reduceNeg, Nat.reduceBEq, Nat.reduceMul, Nat.reduceLeDiff, Nat.reduceMod, UInt8.reduceOfNat, Nat.reduceLT, Int.reduceEq, Int.reduceAdd, Int.reduceSub, Int.reduceMul]) ⟨i + 1, by omega, rfl, ?_⟩
          rw [hsn]
          simp -dsimp -implicitDefEqProofs only [↓Ev.xStp_eq, ↓Ev.P, Ev.Q, eq_self, forall_eq_or_imp, implies_true, forall_const, forall_eq, ↓reduceIte, reduceIte, Nat.reduceEqDiff, Nat.reduceAdd, reduceCtorEq, Nat.reduceSub, Int.reduceToNat, Int.reduceLE, Int.reduceLT, Int.reduceNeg, Nat.reduceBEq, Nat.reduceMul, Nat.reduceLeDiff, Nat.reduceMod, UInt8.reduceOfNat, Nat.reduceLT, Int.reduceEq, Int.reduceAdd, Int.reduceSub, Int.reduceMul]
          simp
        | true =>
          have hxt : x = t ++ [10] := hb.1 rfl
          have hlt : lineT s x = s ++ x := by rw [lineT, hbx, if_pos rfl]
          rw [hlt] at hsn
          rw [hsn, hxt] at hle
          rw [hxt] at hx
          simp only [List.length_append, List.length_cons, List.length_nil] at hle hx
          simp -dsimp -implicitDefEqProofs only [hgx, hbx, hi3, CBare, gWS, bldT, List.length_append, ↓Ev.xStp_eq, ↓Ev.P, Ev.Q, eq_self, forall_eq_or_imp, implies_true, forall_const, forall_eq, ↓reduceIte, reduceIte, Nat.reduceEqDiff, Nat.reduceAdd, reduceCtorEq, Nat.reduceSub, Int.reduceToNat, Int.reduceLE, Int.reduceLT, Int.reduceNeg, Nat.reduceBEq, Nat.reduceMul, Nat.reduceLeDiff, Nat.reduceMod, UInt8.reduceOfNat, Nat.reduceLT, Int.reduceEq, Int.reduceAdd, Int.reduceSub, Int.reduceMul]
          repeat' (first | with_reducible assumption | refine And.intro ?_ ?_ | intro _)
          all_goals try (rw [hxt]; simp only [List.length_append, List.length_cons, List.length_nil])
          all_goals try omega
          refine xAgain_intro (l.length - (i + 1)) [0] (by omega) (by simp -dsimp -implicitDefEqProofs only [↓Ev.xStp_eq, ↓Ev.P, Ev.Q, eq_self, forall_eq_or_imp, implies_true, forall_const, forall_eq, ↓reduceIte, reduceIte, Nat.reduceEqDiff, Nat.reduceAdd, reduceCtorEq, Nat.reduceSub, Int.reduceToNat, Int.reduceLE, Int.reduceLT, Int.reduceNeg, Nat.reduceBEq, Nat.reduceMul, Nat.reduceLeDiff, Nat.reduceMod, UInt8.reduceOfNat, Nat.reduceLT, Int.reduceEq, Int.reduceAdd, Int.reduceSub, Int.reduceMul]) ⟨i + 1, by omega, rfl, ?_⟩
          rw [hsn, hxt]
          simp -dsimp -implicitDefEqProofs only [↓Ev.xStp_eq, ↓Ev.P, Ev.Q, eq_self, forall_eq_or_imp, implies_true, forall_const, forall_eq, ↓reduceIte, reduceIte, Nat.reduceEqDiff, Nat.reduceAdd, reduceCtorEq, Nat.reduceSub, Int.reduceToNat, Int.reduceLE, Int.reduceLT, Int.reduceNeg, Nat.reduceBEq, Nat.reduceMul, Nat.reduceLeDiff, Nat.reduceMod, UInt8.reduceOfNat, Nat.reduceLT, Int.reduceEq, Int.reduceAdd, Int.reduceSub, Int.reduceMul]
          simp
      · have hi3 : ¬ (i : Int) < l.length := by omega
        simp -dsimp -implicitDefEqProofs only [hi3, ↓Ev.xStp_eq, ↓Ev.P, Ev.Q, eq_self, forall_eq_or_imp, implies_true, forall_const, forall_eq, ↓reduceIte, reduceIte, Nat.reduceEqDiff, Nat.reduceAdd, reduceCtorEq, Nat.reduceSub, Int.reduceToNat, Int.reduceLE, Int.reduceLT, Int.reduceNeg, Nat.reduceBEq, Nat.reduceMul, Nat.reduceLeDiff, Nat.reduceMod, UInt8.reduceOfNat, Nat.reduceLT, Int.reduceEq, Int.reduceAdd, Int.reduceSub, Int.reduceMul]
        rw [List.take_of_length_le (by omega)]
        exact hk
  · cases hg
end Go.Proofs.YtpbkdcfjlbdgfaaDoor
