/- RcsfmtNothing: no commands leave right lines as they are, and one command that takes all lines out, or puts all lines of a text in, does just that, for all arguments that the statement names. Part 4 of 4. -/
import Derived.Laws.RangeAny
import Derived.Test.YtlghobefhmpfkaaDoorProg
import Derived.Shelf.Strings.Builder1
import Derived.Shelf.Strings.Builder2
import Derived.Shelf.Strings.OnBuilder
import Derived.Shelf.Strings.BuilderF
import Derived.Shelf.Utf8.RuneCount
import Derived.Shelf.Strconv.Atoi
import Derived.Shelf.Strconv.Itoa0
import Derived.Shelf.Strconv.Itoa1
import Derived.Shelf.LaysM
import Derived.Shelf.Strconv.Itoa2
import Derived.Shelf.Strconv.Itoa3
import Derived.Shelf.Strconv.AtoiErrFast
import Derived.Shelf.Strconv.ParseIntEmpty
import Derived.Shelf.Strconv.AtoiFail
import Derived.Shelf.Strconv.Clone
import Derived.Shelf.Strconv.SyntaxError
import Derived.Shelf.LaysC
import Derived.Shelf.Strconv.ToError
import Derived.Shelf.Strconv.Lower
import Derived.Shelf.Strconv.ParseUint10
import Derived.Shelf.Strconv.ParseUint10Empty
import Derived.Shelf.Strconv.ParseUint10Any
import Derived.Shelf.Strconv.ParseInt10
import Derived.Shelf.Strconv.AtoiLong
import Derived.Shelf.Strconv.AtoiInnerAll
import Derived.Shelf.Strconv.RangeError
import Derived.Shelf.Strconv.ToErrorRange
import Derived.Shelf.Strconv.AtoiAll
import Derived.Shelf.Strconv.ErrVarAll
import Derived.Shelf.Strings.Search1
import Derived.Shelf.Strings.Search2
import Derived.Shelf.Strings.Search3
import Derived.Shelf.Strings.Cut
import Derived.Shelf.Strings.Count
import Derived.Shelf.Strings.Shaped
import Derived.Shelf.Strings.Prefix
import Derived.Shelf.Strings.Split
import Derived.Shelf.Unicode.Decode
import Derived.Shelf.Strings.RuneCount
import Derived.Shelf.Strings.Explode
import Derived.Shelf.Unicode.DecodeSlow
import Derived.Shelf.Unicode.DecodeAny
import Derived.Test.YtlghobefhmpfkaaDoorRows
import Derived.WalkKit
import Derived.Deep.Slices
import Derived.Deep.Fields
import Derived.ChangeSame
import Derived.Test.YtlghobefhmpfkaaDoorCards
import Derived.Test.YtlghobefhmpfkaaDoorTie
import Derived.JoinedCond
import Derived.ProofKit
import Derived.Deep.DeepHandedRow
import Derived.Deep.DeepWitnessRowRef
import Derived.Stop.LaidErr
import Derived.Stop.Joined
import Derived.LaidLaws
import Derived.LaidHandle
import Derived.Lib.LaidIn
import Derived.SevenTiedAt
import Derived.Test.YtlghobefhmpfkaaDoorRn1
import Derived.Test.YtlghobefhmpfkaaDoorRn2
import Derived.Test.YtlghobefhmpfkaaDoorRn3
set_option linter.unusedVariables false
set_option linter.unusedSimpArgs false
namespace Go.Proofs.YtlghobefhmpfkaaDoor
open Go Go.Ev
set_option maxRecDepth 100000
variable {G : World → Prop}
theorem dec_at (l : List UInt8) (i : Nat) (h : i < l.length) : (dig (l.getD i 0) = true → Utf8.decode ⟨l.toArray⟩ i = ((l.getD i 0).toNat, 1)) ∧ (dig (l.getD i 0) = false → ((Utf8.decode ⟨l.toArray⟩ i).1 : Int) < 48 ∨ (57 : Int) < ((Utf8.decode ⟨l.toArray⟩ i).1 : Int)) := by
  have hs : i < (⟨l.toArray⟩ : ByteArray).size := h
  have hg : (⟨l.toArray⟩ : ByteArray)[i]'hs = l.getD i 0 := by
    simp [List.getD_eq_getElem?_getD, List.getElem?_eq_getElem h]
    rfl
  by_cases ha : ((⟨l.toArray⟩ : ByteArray)[i]'hs).toNat < 128
  · have := decode_ascii _ i hs ha
    rw [hg] at this
    refine ⟨fun _ => this, fun hd => ?_⟩
    rw [this]
    simp only [dig, Bool.and_eq_false_iff, decide_eq_false_iff_not] at hd
    omega
  · have h2 := (decode_high _ i hs (by omega)).1
    rw [hg] at ha
    refine ⟨fun hd => ?_, fun _ => .inr (by omega)⟩
    have := dig_nat hd
    omega
theorem empty_iff (l : List UInt8) : ((⟨l.toArray⟩ : ByteArray) = ⟨#[]⟩) = (l = []) := by simp
set_option maxHeartbeats 1000000 in
theorem s27 (hG : ∀ w, G w → ErrR w) : Sound G Tryd.prog 27 CParse := by
  refine sd27 (T := tabT [(38, CAtoi)]) (tab_cons (sAtoi hG) tab_nil) (pureC_lawful _) (pure_hX fun args p x K h hp hk => ?_)
  split at h <;> simp only [Option.some.injEq, Prod.mk.injEq, reduceCtorEq] at h
  obtain ⟨rfl, rfl⟩ := h
  refine ⟨Nat.le_of_ble_eq_true rfl, ?_⟩
  rename_i s
  obtain ⟨l, rfl⟩ := ex_str s
  simp only [sem_str] at hk hp
  by_cases hb : badP l
  · rw [show parseS l = (0, 3) by rw [parseS, if_pos hb]] at hk
    simp -dsimp -implicitDefEqProofs only [S27, S27_0, S27r1, S27_1, S27r2, R27, empty_iff, ↓Ev.xStp_eq, ↓Ev.P, Ev.Q, Bool.cond_true, Bool.cond_false, eq_self, forall_eq_or_imp, implies_true, forall_const, forall_eq, ↓reduceIte, reduceIte, Nat.reduceEqDiff, Nat.reduceAdd, reduceCtorEq, Nat.reduceSub, Int.reduceToNat, Int.reduceLE, Int.reduceLT, Int.reduceNeg, Nat.reduceBEq, Nat.reduceMul, Nat.reduceLeDiff, Nat.reduceMod, UInt8.reduceOfNat, Nat.reduceLT, Int.reduceEq, Int.reduceAdd, Int.reduceSub, Int.reduceMul]
    have hh := bad_head hb
    simp only [Bool.or_eq_true, Bool.and_eq_true, decide_eq_true_eq] at hh
    repeat' (first | with_reducible assumption | refine And.intro ?_ ?_ | intro _)
    all_goals first | omega | exact hk | skip
    all_goals (rename_i h; rcases hb with rfl | hb <;> first | exact absurd rfl h.1 | omega)
  · obtain ⟨h1, h2⟩ := bad_not hb
    have hne : ¬ l = [] := fun e => hb (.inl e)
    simp -dsimp -implicitDefEqProofs only [S27, S27_0, S27r1, S27_1, S27r2, S27_2, S27r3, R27, empty_iff, hne, ↓Ev.xStp_eq, ↓Ev.P, Ev.Q, Bool.cond_true, Bool.cond_false, eq_self, forall_eq_or_imp, implies_true, forall_const, forall_eq, ↓reduceIte, reduceIte, Nat.reduceEqDiff, Nat.reduceAdd, reduceCtorEq, Nat.reduceSub, Int.reduceToNat, Int.reduceLE, Int.reduceLT, Int.reduceNeg, Nat.reduceBEq, Nat.reduceMul, Nat.reduceLeDiff, Nat.reduceMod, UInt8.reduceOfNat, Nat.reduceLT, Int.reduceEq, Int.reduceAdd, Int.reduceSub, Int.reduceMul]
    refine ⟨by omega, fun h => by omega, fun _ => ?_⟩
    refine xLoop_intro (fun k st => ∃ i : Nat, i ≤ l.length ∧ k = l.length - i ∧ (l.take i).all dig = true ∧
      st = ⟨[(0, .d (.v (.string ⟨l.toArray⟩))), (21, .own 0)], 1, [(0, .iter ⟨l.toArray⟩ i)]⟩) l.length [0] ?_ ?_ ?_
    · simp -dsimp -implicitDefEqProofs only [↓Ev.xStp_eq, ↓Ev.P, Ev.Q, Bool.cond_true, Bool.cond_false, eq_self, forall_eq_or_imp, implies_true, forall_const, forall_eq, ↓reduceIte, reduceIte, Nat.reduceEqDiff, Nat.reduceAdd, reduceCtorEq, Nat.reduceSub, Int.reduceToNat, Int.reduceLE, Int.reduceLT, Int.reduceNeg, Nat.reduceBEq, Nat.reduceMul, Nat.reduceLeDiff, Nat.reduceMod, UInt8.reduceOfNat, Nat.reduceLT, Int.reduceEq, Int.reduceAdd, Int.reduceSub, Int.reduceMul]
    · simp -dsimp -implicitDefEqProofs only [↓Ev.xStp_eq, ↓Ev.P, Ev.Q, Bool.cond_true, Bool.cond_false, eq_self, forall_eq_or_imp, implies_true, forall_const, forall_eq, ↓reduceIte, reduceIte, Nat.reduceEqDiff, Nat.reduceAdd, reduceCtorEq, Nat.reduceSub, Int.reduceToNat, Int.reduceLE, Int.reduceLT, Int.reduceNeg, Nat.reduceBEq, Nat.reduceMul, Nat.reduceLeDiff, Nat.reduceMod, UInt8.reduceOfNat, Nat.reduceLT, Int.reduceEq, Int.reduceAdd, Int.reduceSub, Int.reduceMul]
      exact ⟨0, by omega, by omega, rfl, rfl⟩
    · rintro k st ⟨i, hi, hk2, hall, rfl⟩
      by_cases hil : i < l.length
      · obtain ⟨e1, e2⟩ := dec_at l i hil
        by_cases hd : dig (l.getD i 0) = true
        · obtain ⟨d1, d2⟩ := dig_nat hd
          have e1 := e1 hd
          have d3 : ¬ ((l.getD i 0).toNat : Int) < 48 := by omega
          have d4 : ¬ (57 : Int) < ((l.getD i 0).toNat : Int) := by omega
          simp -dsimp -implicitDefEqProofs only [hil, e1, d3, d4, ↓Ev.xStp_eq, ↓Ev.P, Ev.Q, Bool.cond_true, Bool.cond_false, eq_self, forall_eq_or_imp, implies_true, forall_const, forall_eq, ↓reduceIte, reduceIte, Nat.reduceEqDiff, Nat.reduceAdd, reduceCtorEq, Nat.reduceSub, Int.reduceToNat, Int.reduceLE, Int.reduceLT, Int.reduceNeg, Nat.reduceBEq, Nat.reduceMul, Nat.reduceLeDiff, Nat.reduceMod, UInt8.reduceOfNat, Nat.reduceLT, Int.reduceEq, Int.reduceAdd, Int.reduceSub, Int.reduceMul]
          repeat' (first | with_reducible assumption | refine And.intro ?_ ?_ | intro _)
          all_goals try omega
          refine xAgain_intro (l.length - (i + 1)) [0] (by omega) (by simp -dsimp -implicitDefEqProofs only [↓Ev.xStp_eq, ↓Ev.P, Ev.Q, Bool.cond_true, Bool.cond_false, eq_self, forall_eq_or_imp, implies_true, forall_const, forall_eq, ↓reduceIte, reduceIte, Nat.reduceEqDiff, Nat.reduceAdd, reduceCtorEq, Nat.reduceSub, Int.reduceToNat, Int.reduceLE, Int.reduceLT, Int.reduceNeg, Nat.reduceBEq, Nat.reduceMul, Nat.reduceLeDiff, Nat.reduceMod, UInt8.reduceOfNat, Nat.reduceLT, Int.reduceEq, Int.reduceAdd, Int.reduceSub, Int.reduceMul]) ⟨i + 1, by omega, rfl, by rw [all_take hil, hall, hd]; rfl, ?_⟩
          simp -dsimp -implicitDefEqProofs only [↓Ev.xStp_eq, ↓Ev.P, Ev.Q, Bool.cond_true, Bool.cond_false, eq_self, forall_eq_or_imp, implies_true, forall_const, forall_eq, ↓reduceIte, reduceIte, Nat.reduceEqDiff, Nat.reduceAdd, reduceCtorEq, Nat.reduceSub, Int.reduceToNat, Int.reduceLE, Int.reduceLT, Int.reduceNeg, Nat.reduceBEq, Nat.reduceMul, Nat.reduceLeDiff, Nat.reduceMod, UInt8.reduceOfNat, Nat.reduceLT, Int.reduceEq, Int.reduceAdd, Int.reduceSub, Int.reduceMul]
        · simp only [Bool.not_eq_true] at hd
          have hna := not_all hil hd
          rw [show parseS l = (0, 3) by rw [parseS, if_neg hb, if_pos hna]] at hk
          have e2 := e2 hd
          simp -dsimp -implicitDefEqProofs only [hil, ↓Ev.xStp_eq, ↓Ev.P, Ev.Q, Bool.cond_true, Bool.cond_false, eq_self, forall_eq_or_imp, implies_true, forall_const, forall_eq, ↓reduceIte, reduceIte, Nat.reduceEqDiff, Nat.reduceAdd, reduceCtorEq, Nat.reduceSub, Int.reduceToNat, Int.reduceLE, Int.reduceLT, Int.reduceNeg, Nat.reduceBEq, Nat.reduceMul, Nat.reduceLeDiff, Nat.reduceMod, UInt8.reduceOfNat, Nat.reduceLT, Int.reduceEq, Int.reduceAdd, Int.reduceSub, Int.reduceMul]
          repeat' (first | with_reducible assumption | refine And.intro ?_ ?_ | intro _)
          all_goals first | omega | exact hk | skip
      · obtain rfl : i = l.length := by omega
        rw [List.take_length] at hall
        rw [show parseS l = if 2147483647 < valT l then (0, 2) else ((valT l : Int), 0) by rw [parseS, if_neg hb, if_neg (by rw [hall]; decide)]] at hk
        by_cases k : 9223372036854775808 ≤ valT l
        · rw [if_pos (by omega)] at hk
          simp -dsimp -implicitDefEqProofs only [Nat.lt_irrefl, S27_3, S27r4, S27_4, S27r5, S27_5, S27r6, CAtoi, k, ↓Ev.xStp_eq, ↓Ev.P, Ev.Q, Bool.cond_true, Bool.cond_false, eq_self, forall_eq_or_imp, implies_true, forall_const, forall_eq, ↓reduceIte, reduceIte, Nat.reduceEqDiff, Nat.reduceAdd, reduceCtorEq, Nat.reduceSub, Int.reduceToNat, Int.reduceLE, Int.reduceLT, Int.reduceNeg, Nat.reduceBEq, Nat.reduceMul, Nat.reduceLeDiff, Nat.reduceMod, UInt8.reduceOfNat, Nat.reduceLT, Int.reduceEq, Int.reduceAdd, Int.reduceSub, Int.reduceMul]
          repeat' (first | with_reducible assumption | refine And.intro ?_ ?_ | intro _)
          all_goals first | omega | exact hk | skip
        · simp -dsimp -implicitDefEqProofs only [Nat.lt_irrefl, S27_3, S27r4, S27_4, S27r5, S27_5, S27r6, CAtoi, k, ↓Ev.xStp_eq, ↓Ev.P, Ev.Q, Bool.cond_true, Bool.cond_false, eq_self, forall_eq_or_imp, implies_true, forall_const, forall_eq, ↓reduceIte, reduceIte, Nat.reduceEqDiff, Nat.reduceAdd, reduceCtorEq, Nat.reduceSub, Int.reduceToNat, Int.reduceLE, Int.reduceLT, Int.reduceNeg, Nat.reduceBEq, Nat.reduceMul, Nat.reduceLeDiff, Nat.reduceMod, UInt8.reduceOfNat, Nat.reduceLT, Int.reduceEq, Int.reduceAdd, Int.reduceSub, Int.reduceMul]
          refine ⟨⟨by omega, hne, hall⟩, fun h => ?_, fun h => ?_⟩
          · rw [if_pos (by first | omega | (simp at h; omega))] at hk; exact hk
          · rw [if_neg (by first | omega | (simp at h; omega))] at hk; exact hk
end Go.Proofs.YtlghobefhmpfkaaDoor
set_option linter.unusedVariables false
set_option linter.unusedSimpArgs false
namespace Go.Proofs.YtlghobefhmpfkaaDoor
open Go Go.Ev Go.Rcs
set_option maxRecDepth 100000
variable {G : World → Prop}
/-! A line that is a command. -/
theorem cutB_ix : ∀ l : List UInt8, cutB l = if Lib.indexByte l 32 < 0 then none else some (l.take (Lib.indexByte l 32).toNat, l.drop ((Lib.indexByte l 32).toNat + 1))
  | [] => rfl
  | c :: r => by
    have ih := cutB_ix r
    have hge := Lib.indexByte_ge r 32
    by_cases h : c = 32
    · subst h; simp [cutB, Lib.indexByte]
    · have h1 : (c == 32) = false := by simpa using h
      have hx : Lib.indexByte (c :: r) 32 = if Lib.indexByte r 32 = -1 then -1 else Lib.indexByte r 32 + 1 := by
        simp only [Lib.indexByte, h1, beq_iff_eq, Bool.false_eq_true, if_false]
      rw [hx, cutB, if_neg h, ih]
      by_cases h2 : Lib.indexByte r 32 = -1
      · rw [if_pos h2, h2]; rfl
      · rw [if_neg h2, if_neg (by omega), if_neg (by omega)]
        have e : (Lib.indexByte r 32 + 1).toNat = (Lib.indexByte r 32).toNat + 1 := by omega
        rw [e]; rfl
def CIxB : Contract := pureC fun args => match args with
  | [.d (.v (.string s)), .d (.v (.string p))] => some (p.data.toList = [32], .d (.v (.int .i64 (Lib.indexByte s.data.toList 32))))
  | _ => none
theorem sIxB : Sound G Tryd.prog 40 CIxB := by
  refine sound_lib ⟨Tryd.f40, by kernel_rfl, by kernel_rfl, by kernel_rfl⟩ fun args p x h hp => ?_
  split at h <;> simp only [Option.some.injEq, Prod.mk.injEq, reduceCtorEq] at h
  obtain ⟨rfl, rfl⟩ := h
  rename_i s q
  obtain ⟨q', rfl⟩ := ex_str q
  simp only [sem_str] at hp
  subst hp
  refine ⟨_, fun m n c => ⟨rfl, rfl⟩, fun w hw m c vs hc hv => ?_⟩
  match vs, hv with
  | [a, b], hv =>
    simp only [CnL, and_true] at hv
    obtain ⟨v1, v2⟩ := hv
    rw [of_v v1, of_v v2]
    refine (Tryd.stringslite_Index_one s 32 w).mono ?_
    rintro e w' ⟨rfl, rfl⟩
    exact ⟨rfl, RowKit.Below.refl _ _⟩
  | [], hv => simp [CnL] at hv
  | [_], hv => simp [CnL] at hv
  | _ :: _ :: _ :: _, hv => simp [CnL] at hv
def CCutB : Contract := pureC fun args => match args with
  | [.d (.v (.string s)), .d (.v (.string p))] => some (s.size ≤ 1099511627776 ∧ p.data.toList = [32], .tup [.d (.v (str (cutH s.data.toList).1)), .d (.v (str (cutH s.data.toList).2)), .d (.v (.bool (cutB s.data.toList).isSome))])
  | _ => none
theorem ix_lt (l : List UInt8) (c : UInt8) : Lib.indexByte l c < l.length := by
  induction l with
  | nil => simp [Lib.indexByte]
  | cons b l ih =>
    simp only [Lib.indexByte, List.length_cons]
    split
    · omega
    · split <;> omega
theorem s37 : Sound G Tryd.prog 37 CCutB := by
  refine sd37 (T := tabT [(40, CIxB)]) (tab_cons sIxB tab_nil) (pureC_lawful _) (pure_hX fun args p x K h hp hk => ?_)
  split at h <;> simp only [Option.some.injEq, Prod.mk.injEq, reduceCtorEq] at h
  obtain ⟨rfl, rfl⟩ := h
  rename_i s q
  obtain ⟨q', rfl⟩ := ex_str q
  obtain ⟨s, rfl⟩ := ex_str s
  simp only [sem_str] at hp hk
  obtain ⟨h1, rfl⟩ := hp
  refine ⟨Nat.le_of_ble_eq_true rfl, ?_⟩
  have hc := cutB_ix s
  have hlt := ix_lt s 32
  by_cases hn : Lib.indexByte s 32 < 0
  · rw [if_pos hn] at hc
    rw [cutH, hc] at hk
    have hn2 : ¬ 0 ≤ Lib.indexByte s 32 := by omega
    simp -dsimp -implicitDefEqProofs only [S37, R37, CIxB, hn2, ↓Ev.xStp_eq, ↓Ev.P, Ev.Q, Bool.cond_true, Bool.cond_false, eq_self, forall_eq_or_imp, implies_true, forall_const, forall_eq, ↓reduceIte, reduceIte, Nat.reduceEqDiff, Nat.reduceAdd, reduceCtorEq, Nat.reduceSub, Int.reduceToNat, Int.reduceLE, Int.reduceLT, Int.reduceNeg, Nat.reduceBEq, Nat.reduceMul, Nat.reduceLeDiff, Nat.reduceMod, UInt8.reduceOfNat, Nat.reduceLT, Int.reduceEq, Int.reduceAdd, Int.reduceSub, Int.reduceMul]
    exact hk
  · rw [if_neg hn] at hc
    rw [cutH, hc] at hk
    have hn2 : 0 ≤ Lib.indexByte s 32 := by omega
    simp -dsimp -implicitDefEqProofs only [S37, R37, CIxB, hn2, ↓Ev.xStp_eq, ↓Ev.P, Ev.Q, Bool.cond_true, Bool.cond_false, eq_self, forall_eq_or_imp, implies_true, forall_const, forall_eq, ↓reduceIte, reduceIte, Nat.reduceEqDiff, Nat.reduceAdd, reduceCtorEq, Nat.reduceSub, Int.reduceToNat, Int.reduceLE, Int.reduceLT, Int.reduceNeg, Nat.reduceBEq, Nat.reduceMul, Nat.reduceLeDiff, Nat.reduceMod, UInt8.reduceOfNat, Nat.reduceLT, Int.reduceEq, Int.reduceAdd, Int.reduceSub, Int.reduceMul]
    obtain ⟨i, hi⟩ := Int.eq_ofNat_of_zero_le hn2
    rw [hi] at hk hlt ⊢
    refine ⟨by omega, by omega, by omega, ?_⟩
    rw [show ((i : Int) + ((1 : Nat) : Int)).toNat = i + 1 by omega]
    exact hk
theorem s26 : Sound G Tryd.prog 26 CCutB := by
  refine sd26 (T := tabT [(37, CCutB)]) (tab_cons s37 tab_nil) (pureC_lawful _) (pure_hX fun args p x K h hp hk => ?_)
  split at h <;> simp only [Option.some.injEq, Prod.mk.injEq, reduceCtorEq] at h
  obtain ⟨rfl, rfl⟩ := h
  refine ⟨Nat.le_of_ble_eq_true rfl, ?_⟩
  simp -dsimp -implicitDefEqProofs only [S26, R26, CCutB, ↓Ev.xStp_eq, ↓Ev.P, Ev.Q, Bool.cond_true, Bool.cond_false, eq_self, forall_eq_or_imp, implies_true, forall_const, forall_eq, ↓reduceIte, reduceIte, Nat.reduceEqDiff, Nat.reduceAdd, reduceCtorEq, Nat.reduceSub, Int.reduceToNat, Int.reduceLE, Int.reduceLT, Int.reduceNeg, Nat.reduceBEq, Nat.reduceMul, Nat.reduceLeDiff, Nat.reduceMod, UInt8.reduceOfNat, Nat.reduceLT, Int.reduceEq, Int.reduceAdd, Int.reduceSub, Int.reduceMul]
  exact ⟨hp, hk⟩
theorem s28 : Sound G Tryd.prog 28 CSuf := by
  refine sd28 (T := tabT [(39, CSuf)]) (tab_cons s39 tab_nil) (pureC_lawful _) (pure_hX fun args p x K h hp hk => ?_)
  split at h <;> simp only [Option.some.injEq, Prod.mk.injEq, reduceCtorEq] at h
  obtain ⟨rfl, rfl⟩ := h
  refine ⟨Nat.le_of_ble_eq_true rfl, ?_⟩
  simp -dsimp -implicitDefEqProofs only [S28, R28, CSuf, ↓Ev.xStp_eq, ↓Ev.P, Ev.Q, Bool.cond_true, Bool.cond_false, eq_self, forall_eq_or_imp, implies_true, forall_const, forall_eq, ↓reduceIte, reduceIte, Nat.reduceEqDiff, Nat.reduceAdd, reduceCtorEq, Nat.reduceSub, Int.reduceToNat, Int.reduceLE, Int.reduceLT, Int.reduceNeg, Nat.reduceBEq, Nat.reduceMul, Nat.reduceLeDiff, Nat.reduceMod, UInt8.reduceOfNat, Nat.reduceLT, Int.reduceEq, Int.reduceAdd, Int.reduceSub, Int.reduceMul]
  exact ⟨hp, hk⟩
/-- A field: a number, what stands behind it, whether it is one. -/
def CFld : Contract := pureC fun args => match args with
  | [.d (.v (.string s))] => some (s.size ≤ 1099511627776, .tup [.d (.v (.int .i64 (parseS (cutH s.data.toList).1).1)), .d (.v (str (cutH s.data.toList).2)), .d (.v (.bool (decide ((parseS (cutH s.data.toList).1).2 = 0))))])
  | _ => none
theorem cutH_len (l : List UInt8) : (cutH l).1.length ≤ l.length ∧ (cutH l).2.length ≤ l.length := by
  rw [cutH, cutB_ix]
  split
  · simp
  · simp only [Option.getD_some, List.length_take, List.length_drop]; omega
theorem s25 (hG : ∀ w, G w → ErrR w) : Sound G Tryd.prog 25 CFld := by
  refine sd25 (T := tabT [(26, CCutB), (27, CParse)]) (tab_cons s26 (tab_cons (s27 hG) tab_nil)) (pureC_lawful _) (pure_hX fun args p x K h hp hk => ?_)
  split at h <;> simp only [Option.some.injEq, Prod.mk.injEq, reduceCtorEq] at h
  obtain ⟨rfl, rfl⟩ := h
  rename_i s
  obtain ⟨s, rfl⟩ := ex_str s
  simp only [sem_str] at hp hk
  have h1 := cutH_len s
  refine ⟨Nat.le_of_ble_eq_true rfl, ?_⟩
  simp -dsimp -implicitDefEqProofs only [S25, R25, CCutB, CParse, ↓Ev.xStp_eq, ↓Ev.P, Ev.Q, Bool.cond_true, Bool.cond_false, eq_self, forall_eq_or_imp, implies_true, forall_const, forall_eq, ↓reduceIte, reduceIte, Nat.reduceEqDiff, Nat.reduceAdd, reduceCtorEq, Nat.reduceSub, Int.reduceToNat, Int.reduceLE, Int.reduceLT, Int.reduceNeg, Nat.reduceBEq, Nat.reduceMul, Nat.reduceLeDiff, Nat.reduceMod, UInt8.reduceOfNat, Nat.reduceLT, Int.reduceEq, Int.reduceAdd, Int.reduceSub, Int.reduceMul]
  exact ⟨by omega, by omega, hk⟩
instance (ps : List UInt8 → Int × Int) (v : UInt8) (r : List UInt8) : Decidable (rdOk ps v r) := by unfold rdOk; infer_instance
/-- What the program reads of a line: verb, line, how many; whether it is a command. -/
def rdC (s : List UInt8) : (UInt8 × Int × Int) × Bool := if (bareS s).2 = true then match (bareS s).1 with
    | [] => ((0, 0, 0), false)
    | v :: r => ((v, (parseS (cutH r).1).1, (parseS (cutH (cutH r).2).1).1), decide (rdOk parseS v r))
  else ((0, 0, 0), false)
def CRead : Contract := pureC fun args => match args with
  | [.d (.v (.string s))] => some (s.size ≤ 1099511627776, .tup [.agg [.d (.v (.int .u8 (rdC s.data.toList).1.1.toNat)), .d (.v (.int .i64 (rdC s.data.toList).1.2.1)), .d (.v (.int .i64 (rdC s.data.toList).1.2.2))], .d (.v (.bool (rdC s.data.toList).2))])
  | _ => none
theorem suf_last (s : List UInt8) : hasSuf s [32] = decide (s.getLast? = some 32) := by
  by_cases he : s = []
  · subst he; rfl
  · have hl : 0 < s.length := List.length_pos_iff.2 he
    have h1 : decide ((([32] : List UInt8).length : Int) ≤ (s.length : Int)) = true := by rw [decide_eq_true_eq]; simp; omega
    rw [hasSuf, h1, Bool.true_and, decide_eq_decide, last_get he]
    have e : s.drop (s.length - 1) = [s.getD (s.length - 1) 0] := by
      rw [List.drop_eq_getElem_cons (by omega), List.drop_eq_nil_of_le (by omega), List.getD_eq_getElem?_getD, List.getElem?_eq_getElem (by omega)]; rfl
    show s.drop (s.length - 1) = [32] ↔ _
    rw [e]; simp
end Go.Proofs.YtlghobefhmpfkaaDoor
set_option linter.unusedVariables false
set_option linter.unusedSimpArgs false
namespace Go.Proofs.YtlghobefhmpfkaaDoor
open Go Go.Ev Go.Rcs
set_option maxRecDepth 100000
variable {G : World → Prop}
theorem u8_k (x : UInt8) (k : Nat) (hk : k < 256) : ((x.toNat : Int) = k) = (x = UInt8.ofNat k) := by
  rw [eq_iff_iff]
  refine ⟨fun h => UInt8.toNat_inj.1 ?_, fun h => ?_⟩
  · rw [UInt8.toNat_ofNat', Nat.mod_eq_of_lt hk]; omega
  · rw [h, UInt8.toNat_ofNat', Nat.mod_eq_of_lt hk]
set_option maxHeartbeats 2000000 in
theorem s13 (hG : ∀ w, G w → ErrR w) : Sound G Tryd.prog 13 CRead := by
  refine sd13 (T := tabT [(24, CBare), (25, CFld), (28, CSuf)]) (tab_cons s24 (tab_cons (s25 hG) (tab_cons s28 tab_nil))) (pureC_lawful _) (pure_hX fun args p x K h hp hk => ?_)
  split at h <;> simp only [Option.some.injEq, Prod.mk.injEq, reduceCtorEq] at h
  obtain ⟨rfl, rfl⟩ := h
  rename_i s
  obtain ⟨s, rfl⟩ := ex_str s
  simp only [sem_str] at hp hk
  refine ⟨Nat.le_of_ble_eq_true rfl, ?_⟩
  unfold rdC at hk
  have hbl : (bareS s).1.length ≤ s.length := by unfold bareS; split <;> simp
  cases hf : (bareS s).2 with
  | false =>
    rw [hf] at hk
    simp -dsimp -implicitDefEqProofs only [S13, R13, ↓Ev.P, Ev.Q, Bool.cond_true, Bool.cond_false, eq_self, forall_eq_or_imp, implies_true, forall_const, forall_eq, ↓reduceIte, reduceIte, Nat.reduceEqDiff, Nat.reduceAdd, reduceCtorEq, Nat.reduceSub, Int.reduceToNat, Int.reduceLE, Int.reduceLT, Int.reduceNeg, Nat.reduceBEq, Nat.reduceMul, Nat.reduceLeDiff, Nat.reduceMod, UInt8.reduceOfNat, Nat.reduceLT, Int.reduceEq, Int.reduceAdd, Int.reduceSub, Int.reduceMul]
    repeat' (first | with_reducible assumption | refine And.intro ?_ ?_ | intro _ | (rw [Ev.xStp_eq]; simp -dsimp -implicitDefEqProofs only [CBare, hf, Ev.St.giveC, ↓Ev.P, Ev.Q, Bool.cond_true, Bool.cond_false, eq_self, forall_eq_or_imp, implies_true, forall_const, forall_eq, ↓reduceIte, reduceIte, Nat.reduceEqDiff, Nat.reduceAdd, reduceCtorEq, Nat.reduceSub, Int.reduceToNat, Int.reduceLE, Int.reduceLT, Int.reduceNeg, Nat.reduceBEq, Nat.reduceMul, Nat.reduceLeDiff, Nat.reduceMod, UInt8.reduceOfNat, Nat.reduceLT, Int.reduceEq, Int.reduceAdd, Int.reduceSub, Int.reduceMul]))
    all_goals first | omega | exact hk | trace_state
  | true =>
    rw [hf] at hk
    cases ht : (bareS s).1 with
    | nil =>
      rw [ht] at hk
      simp -dsimp -implicitDefEqProofs only [S13, R13, ↓Ev.P, Ev.Q, Bool.cond_true, Bool.cond_false, eq_self, forall_eq_or_imp, implies_true, forall_const, forall_eq, ↓reduceIte, reduceIte, Nat.reduceEqDiff, Nat.reduceAdd, reduceCtorEq, Nat.reduceSub, Int.reduceToNat, Int.reduceLE, Int.reduceLT, Int.reduceNeg, Nat.reduceBEq, Nat.reduceMul, Nat.reduceLeDiff, Nat.reduceMod, UInt8.reduceOfNat, Nat.reduceLT, Int.reduceEq, Int.reduceAdd, Int.reduceSub, Int.reduceMul]
      repeat' (first | with_reducible assumption | refine And.intro ?_ ?_ | intro _ | (rw [Ev.xStp_eq]; simp -dsimp -implicitDefEqProofs only [CBare, hf, ht, Ev.St.giveC, ↓Ev.P, Ev.Q, Bool.cond_true, Bool.cond_false, eq_self, forall_eq_or_imp, implies_true, forall_const, forall_eq, ↓reduceIte, reduceIte, Nat.reduceEqDiff, Nat.reduceAdd, reduceCtorEq, Nat.reduceSub, Int.reduceToNat, Int.reduceLE, Int.reduceLT, Int.reduceNeg, Nat.reduceBEq, Nat.reduceMul, Nat.reduceLeDiff, Nat.reduceMod, UInt8.reduceOfNat, Nat.reduceLT, Int.reduceEq, Int.reduceAdd, Int.reduceSub, Int.reduceMul]))
      all_goals first | omega | exact hk | trace_state
    | cons v r =>
      rw [ht] at hk hbl
      have h1 := cutH_len r
      have h2 := cutH_len (cutH r).2
      simp only [List.length_cons] at hbl
      simp -dsimp -implicitDefEqProofs only [S13, R13, ↓Ev.P, Ev.Q, Bool.cond_true, Bool.cond_false, eq_self, forall_eq_or_imp, implies_true, forall_const, forall_eq, ↓reduceIte, reduceIte, Nat.reduceEqDiff, Nat.reduceAdd, reduceCtorEq, Nat.reduceSub, Int.reduceToNat, Int.reduceLE, Int.reduceLT, Int.reduceNeg, Nat.reduceBEq, Nat.reduceMul, Nat.reduceLeDiff, Nat.reduceMod, UInt8.reduceOfNat, Nat.reduceLT, Int.reduceEq, Int.reduceAdd, Int.reduceSub, Int.reduceMul]
      repeat' (first | with_reducible assumption | refine And.intro ?_ ?_ | intro _ | (rw [Ev.xStp_eq]; simp -dsimp -implicitDefEqProofs only [CBare, CFld, CSuf, suf_last, hf, ht, Ev.St.giveC, ↓Ev.P, Ev.Q, Bool.cond_true, Bool.cond_false, eq_self, forall_eq_or_imp, implies_true, forall_const, forall_eq, ↓reduceIte, reduceIte, Nat.reduceEqDiff, Nat.reduceAdd, reduceCtorEq, Nat.reduceSub, Int.reduceToNat, Int.reduceLE, Int.reduceLT, Int.reduceNeg, Nat.reduceBEq, Nat.reduceMul, Nat.reduceLeDiff, Nat.reduceMod, UInt8.reduceOfNat, Nat.reduceLT, Int.reduceEq, Int.reduceAdd, Int.reduceSub, Int.reduceMul]))
      all_goals try omega
      have e : (decide ((parseS (cutH r).fst).snd = 0) && decide ((parseS (cutH (cutH r).snd).fst).snd = 0) && decide ((cutH (cutH r).snd).snd = []) && !decide ((v :: r).getLast? = some 32) && decide (0 < (parseS (cutH (cutH r).snd).fst).fst) && (decide ((v.toNat : Int) = 97) || decide ((v.toNat : Int) = 100) && decide (0 < (parseS (cutH r).fst).fst))) = decide (rdOk parseS v r) := by
        rw [Bool.eq_iff_iff]
        have v1 : ((v.toNat : Int) = 97) = (v = 97) := u8_k v 97 (by decide)
        have v2 : ((v.toNat : Int) = 100) = (v = 100) := u8_k v 100 (by decide)
        rw [decide_eq_true_eq]
        simp only [Bool.and_eq_true, Bool.or_eq_true, decide_eq_true_eq, Bool.not_eq_true', decide_eq_false_iff_not, rdOk, v1, v2, and_assoc]
      rw [e]; exact hk
end Go.Proofs.YtlghobefhmpfkaaDoor
set_option linter.unusedVariables false
set_option linter.unusedSimpArgs false
namespace Go.Proofs.YtlghobefhmpfkaaDoor
open Go Go.Ev Go.Rcs
set_option maxRecDepth 100000
variable {G : World → Prop}
theorem cutB_at : ∀ {r : List UInt8} {k : Nat}, k < r.length → 32 ∉ r.take k → r.getD k 0 = 32 → cutB r = some (r.take k, r.drop (k + 1))
  | [], _, h, _, _ => by simp at h
  | c :: r, 0, _, _, h => by
    have : c = 32 := by simpa using h
    rw [cutB, if_pos this]; rfl
  | c :: r, k + 1, h, hn, hc => by
    simp only [List.take_succ_cons, List.mem_cons, not_or] at hn
    rw [cutB, if_neg (fun e => hn.1 e.symm), cutB_at (r := r) (k := k) (by simpa using h) hn.2 (by simpa using hc)]
    rfl
theorem cutB_non : ∀ {r : List UInt8}, 32 ∉ r → cutB r = none
  | [], _ => rfl
  | c :: r, h => by
    simp only [List.mem_cons, not_or] at h
    rw [cutB, if_neg (fun e => h.1 e.symm), cutB_non h.2]; rfl
/-- What the reference reads of a line without its line feed. -/
def cmC (s : List UInt8) : (UInt8 × Int × Int) × Bool := match s with
  | [] => ((0, 0, 0), false)
  | v :: r => if v = 97 ∨ v = 100 then match cutB r with
      | none => ((0, 0, 0), false)
      | some (p, q) => ((v, (parseS p).1, (parseS q).1), decide (((parseS p).2 = 0 ∧ (parseS q).2 = 0) ∧ 0 < (parseS q).1 ∧ (v = 97 ∨ 0 < (parseS p).1)))
    else ((0, 0, 0), false)
def CCmd : Contract := pureC fun args => match args with
  | [.d (.v (.string s))] => some (s.size ≤ 1099511627776, .tup [.d (.v (.int .u8 (cmC s.data.toList).1.1.toNat)), .d (.v (.int .i64 (cmC s.data.toList).1.2.1)), .d (.v (.int .i64 (cmC s.data.toList).1.2.2)), .d (.v (.bool (cmC s.data.toList).2))])
  | _ => none
end Go.Proofs.YtlghobefhmpfkaaDoor
set_option linter.unusedVariables false
set_option linter.unusedSimpArgs false
namespace Go.Proofs.YtlghobefhmpfkaaDoor
open Go Go.Ev Go.Rcs
set_option maxRecDepth 100000
variable {G : World → Prop}
/-- What is wrong with a command: the verb, a line, how many; of so many lines; so many are done; the line behind which lines were put. -/
def alw (v : UInt8) (p n la done put : Int) : Int :=
  if v = 100 then (if p - 1 < max done put then 121 else if la < p ∨ la - p + 1 < n then 2 else 0)
  else if p < done ∨ p = put then 121 else if la < p then 2 else 0
def inI (z : Int) : Prop := -1099511627776 ≤ z ∧ z ≤ 1099511627776
def CAlw : Contract := stC fun args st => match args, st with
  | [.ptr 0 0, .agg [.d (.v (.int .u8 v)), .d (.v (.int .i64 p)), .d (.v (.int .i64 n))]], ⟨1, [(0, .cells t [.d (.sl a), .d o, .d (.v (.int .i64 done)), .d (.v (.int .i64 put))])]⟩ =>
    some ((inI p ∧ inI n ∧ a.length ≤ 1099511627776 ∧ 0 ≤ v ∧ v < 256), .d (.v (.int .i64 (alw (UInt8.ofNat v.toNat) p n a.length done put))), ⟨1, [(0, .cells t [.d (.sl a), .d o, .d (.v (.int .i64 done)), .d (.v (.int .i64 put))])]⟩)
  | [.ptr 0 0, .agg [.d (.v (.int .u8 v)), .d (.v (.int .i64 p)), .d (.v (.int .i64 n))]], ⟨2, [(0, .cells t [.d (.sl a), .own 1, .d (.v (.int .i64 done)), .d (.v (.int .i64 put))]), (1, .row u z rows)]⟩ =>
    some ((inI p ∧ inI n ∧ a.length ≤ 1099511627776 ∧ 0 ≤ v ∧ v < 256), .d (.v (.int .i64 (alw (UInt8.ofNat v.toNat) p n a.length done put))), ⟨2, [(0, .cells t [.d (.sl a), .own 1, .d (.v (.int .i64 done)), .d (.v (.int .i64 put))]), (1, .row u z rows)]⟩)
  | _, _ => none
set_option maxHeartbeats 4000000 in
theorem s14 : Sound G Tryd.prog 14 CAlw := by
  refine sd14 (T := tabT []) tab_nil (stC_lawful _) (st_hX fun args st p x st' K h hp hk => ?_)
  split at h <;> simp only [Option.some.injEq, Prod.mk.injEq, reduceCtorEq] at h
  · obtain ⟨rfl, rfl, rfl⟩ := h
    rename_i v p n t a o done put
    obtain ⟨⟨p1, p2⟩, ⟨n1, n2⟩, h3, h4, h5⟩ := hp
    refine ⟨Nat.le_of_ble_eq_true rfl, [0], ?_⟩
    have e0 : ((UInt8.ofNat v.toNat).toNat : Int) = v := by rw [UInt8.toNat_ofNat', Nat.mod_eq_of_lt (by omega)]; omega
    have v1 : (v = 100) = (UInt8.ofNat v.toNat = 100) := by
      have := u8_k (UInt8.ofNat v.toNat) 100 (by decide)
      rw [e0] at this
      exact this
    unfold alw at hk
    by_cases hv : v = 100
    · rw [if_pos (v1 ▸ hv)] at hk
      simp -dsimp -implicitDefEqProofs only [S14, R14, hv, Ev.St.giveC, ↓Ev.xStp_eq, ↓Ev.P, Ev.Q, Bool.cond_true, Bool.cond_false, eq_self, forall_eq_or_imp, implies_true, forall_const, forall_eq, ↓reduceIte, reduceIte, Nat.reduceEqDiff, Nat.reduceAdd, reduceCtorEq, Nat.reduceSub, Int.reduceToNat, Int.reduceLE, Int.reduceLT, Int.reduceNeg, Nat.reduceBEq, Nat.reduceMul, Nat.reduceLeDiff, Nat.reduceMod, UInt8.reduceOfNat, Nat.reduceLT, Int.reduceEq, Int.reduceAdd, Int.reduceSub, Int.reduceMul]
      repeat' (first | with_reducible assumption | refine And.intro ?_ ?_ | intro _)
      all_goals try omega
      · rename_i h; rw [if_pos h] at hk; exact hk
      · rename_i h1 h2; rw [if_neg h1, if_pos h2] at hk; exact hk
      · rename_i h1 h2; rw [if_neg h1, if_neg (fun e => e.elim h2.1 h2.2)] at hk; exact hk
    · rw [if_neg (fun e => hv (v1.mpr e))] at hk
      simp -dsimp -implicitDefEqProofs only [S14, R14, hv, Ev.St.giveC, ↓Ev.xStp_eq, ↓Ev.P, Ev.Q, Bool.cond_true, Bool.cond_false, eq_self, forall_eq_or_imp, implies_true, forall_const, forall_eq, ↓reduceIte, reduceIte, Nat.reduceEqDiff, Nat.reduceAdd, reduceCtorEq, Nat.reduceSub, Int.reduceToNat, Int.reduceLE, Int.reduceLT, Int.reduceNeg, Nat.reduceBEq, Nat.reduceMul, Nat.reduceLeDiff, Nat.reduceMod, UInt8.reduceOfNat, Nat.reduceLT, Int.reduceEq, Int.reduceAdd, Int.reduceSub, Int.reduceMul]
      repeat' (first | with_reducible assumption | refine And.intro ?_ ?_ | intro _)
      all_goals try omega
      · rename_i h; rw [if_pos h] at hk; exact hk
      · rename_i h1 h2; rw [if_neg (fun e => e.elim h1.1 h1.2), if_pos h2] at hk; exact hk
      · rename_i h1 h2; rw [if_neg (fun e => e.elim h1.1 h1.2), if_neg h2] at hk; exact hk
  · obtain ⟨rfl, rfl, rfl⟩ := h
    rename_i v p n t a done put u z rows
    obtain ⟨⟨p1, p2⟩, ⟨n1, n2⟩, h3, h4, h5⟩ := hp
    refine ⟨Nat.le_of_ble_eq_true rfl, [0, 1], ?_⟩
    have e0 : ((UInt8.ofNat v.toNat).toNat : Int) = v := by rw [UInt8.toNat_ofNat', Nat.mod_eq_of_lt (by omega)]; omega
    have v1 : (v = 100) = (UInt8.ofNat v.toNat = 100) := by
      have := u8_k (UInt8.ofNat v.toNat) 100 (by decide)
      rw [e0] at this
      exact this
    unfold alw at hk
    by_cases hv : v = 100
    · rw [if_pos (v1 ▸ hv)] at hk
      simp -dsimp -implicitDefEqProofs only [S14, R14, hv, Ev.St.giveC, ↓Ev.xStp_eq, ↓Ev.P, Ev.Q, Bool.cond_true, Bool.cond_false, eq_self, forall_eq_or_imp, implies_true, forall_const, forall_eq, ↓reduceIte, reduceIte, Nat.reduceEqDiff, Nat.reduceAdd, reduceCtorEq, Nat.reduceSub, Int.reduceToNat, Int.reduceLE, Int.reduceLT, Int.reduceNeg, Nat.reduceBEq, Nat.reduceMul, Nat.reduceLeDiff, Nat.reduceMod, UInt8.reduceOfNat, Nat.reduceLT, Int.reduceEq, Int.reduceAdd, Int.reduceSub, Int.reduceMul]
      repeat' (first | with_reducible assumption | refine And.intro ?_ ?_ | intro _)
      all_goals try omega
      · rename_i h; rw [if_pos h] at hk; exact hk
      · rename_i h1 h2; rw [if_neg h1, if_pos h2] at hk; exact hk
      · rename_i h1 h2; rw [if_neg h1, if_neg (fun e => e.elim h2.1 h2.2)] at hk; exact hk
    · rw [if_neg (fun e => hv (v1.mpr e))] at hk
      simp -dsimp -implicitDefEqProofs only [S14, R14, hv, Ev.St.giveC, ↓Ev.xStp_eq, ↓Ev.P, Ev.Q, Bool.cond_true, Bool.cond_false, eq_self, forall_eq_or_imp, implies_true, forall_const, forall_eq, ↓reduceIte, reduceIte, Nat.reduceEqDiff, Nat.reduceAdd, reduceCtorEq, Nat.reduceSub, Int.reduceToNat, Int.reduceLE, Int.reduceLT, Int.reduceNeg, Nat.reduceBEq, Nat.reduceMul, Nat.reduceLeDiff, Nat.reduceMod, UInt8.reduceOfNat, Nat.reduceLT, Int.reduceEq, Int.reduceAdd, Int.reduceSub, Int.reduceMul]
      repeat' (first | with_reducible assumption | refine And.intro ?_ ?_ | intro _)
      all_goals try omega
      · rename_i h; rw [if_pos h] at hk; exact hk
      · rename_i h1 h2; rw [if_neg (fun e => e.elim h1.1 h1.2), if_pos h2] at hk; exact hk
      · rename_i h1 h2; rw [if_neg (fun e => e.elim h1.1 h1.2), if_neg h2] at hk; exact hk
end Go.Proofs.YtlghobefhmpfkaaDoor
set_option linter.unusedVariables false
set_option linter.unusedSimpArgs false
namespace Go.Proofs.YtlghobefhmpfkaaDoor
open Go Go.Ev Go.Rcs
set_option maxRecDepth 100000
variable {G : World → Prop}
/-- Lines of the first text are taken, up to one over. -/
def CKeep : Contract := stC fun args st => match args, st with
  | [.ptr 0 0, .d (.v (.int .i64 to))], ⟨1, [(0, .cells t [.d (.sl a), .d (.v (.slice none 0 0)), .d (.v (.int .i64 done)), .d (.v (.int .i64 put))])]⟩ =>
    some ((0 ≤ done ∧ done ≤ to ∧ to ≤ a.length ∧ a.length ≤ 1099511627776 ∧ ∀ r ∈ a, r.length = 1), .tup [], ⟨2, [(0, .cells t [.d (.sl a), .own 1, .d (.v (.int .i64 to)), .d (.v (.int .i64 put))]), (1, .row 9 1 ((a.take to.toNat).drop done.toNat))]⟩)
  | [.ptr 0 0, .d (.v (.int .i64 to))], ⟨2, [(0, .cells t [.d (.sl a), .own 1, .d (.v (.int .i64 done)), .d (.v (.int .i64 put))]), (1, .row u z rows)]⟩ =>
    some ((0 ≤ done ∧ done ≤ to ∧ to ≤ a.length ∧ a.length ≤ 1099511627776 ∧ (∀ r ∈ a, r.length = 1) ∧ u = 9 ∧ z = 1 ∧ rows.length ≤ 1099511627776), .tup [], ⟨3, [(0, .cells t [.d (.sl a), .own 2, .d (.v (.int .i64 to)), .d (.v (.int .i64 put))]), (1, .dead), (2, .row u z (rows ++ (a.take to.toNat).drop done.toNat))]⟩)
  | _, _ => none
set_option maxHeartbeats 4000000 in
theorem s15 : Sound G Tryd.prog 15 CKeep := by
  refine sd15 (T := tabT []) tab_nil (stC_lawful _) (st_hX fun args st p x st' K h hp hk => ?_)
  split at h <;> simp only [Option.some.injEq, Prod.mk.injEq, reduceCtorEq] at h
  · obtain ⟨rfl, rfl, rfl⟩ := h
    rename_i to t a done put
    obtain ⟨h1, h2, h3, h4, h5⟩ := hp
    have h6 : ∀ r ∈ (a.take to.toNat).drop done.toNat, r.length = 1 := fun r hr => h5 r (List.mem_of_mem_take (List.mem_of_mem_drop hr))
    have h7 : ((a.take to.toNat).drop done.toNat).length ≤ a.length := by rw [List.length_drop, List.length_take]; omega
    refine ⟨Nat.le_of_ble_eq_true rfl, [0, 1], ?_⟩
    simp -dsimp -implicitDefEqProofs only [S15, R15, ↓Ev.xStp_eq, ↓Ev.P, Ev.Q, Bool.cond_true, Bool.cond_false, eq_self, forall_eq_or_imp, implies_true, forall_const, forall_eq, ↓reduceIte, reduceIte, Nat.reduceEqDiff, Nat.reduceAdd, reduceCtorEq, Nat.reduceSub, Int.reduceToNat, Int.reduceLE, Int.reduceLT, Int.reduceNeg, Nat.reduceBEq, Nat.reduceMul, Nat.reduceLeDiff, Nat.reduceMod, UInt8.reduceOfNat, Nat.reduceLT, Int.reduceEq, Int.reduceAdd, Int.reduceSub, Int.reduceMul]
    exact ⟨⟨h1, h2, h3⟩, h5, h6, by omega, hk⟩
  · obtain ⟨rfl, rfl, rfl⟩ := h
    rename_i to t a done put u z rows
    obtain ⟨h1, h2, h3, h4, h5, rfl, rfl, h8⟩ := hp
    have h6 : ∀ r ∈ (a.take to.toNat).drop done.toNat, r.length = 1 := fun r hr => h5 r (List.mem_of_mem_take (List.mem_of_mem_drop hr))
    have h7 : ((a.take to.toNat).drop done.toNat).length ≤ a.length := by rw [List.length_drop, List.length_take]; omega
    refine ⟨Nat.le_of_ble_eq_true rfl, [0, 1, 2], ?_⟩
    simp -dsimp -implicitDefEqProofs only [S15, R15, ↓Ev.xStp_eq, ↓Ev.P, Ev.Q, Bool.cond_true, Bool.cond_false, eq_self, forall_eq_or_imp, implies_true, forall_const, forall_eq, ↓reduceIte, reduceIte, Nat.reduceEqDiff, Nat.reduceAdd, reduceCtorEq, Nat.reduceSub, Int.reduceToNat, Int.reduceLE, Int.reduceLT, Int.reduceNeg, Nat.reduceBEq, Nat.reduceMul, Nat.reduceLeDiff, Nat.reduceMod, UInt8.reduceOfNat, Nat.reduceLT, Int.reduceEq, Int.reduceAdd, Int.reduceSub, Int.reduceMul]
    exact ⟨⟨h1, h2, h3⟩, h5, h6, by omega, hk⟩
end Go.Proofs.YtlghobefhmpfkaaDoor
set_option linter.unusedVariables false
set_option linter.unusedSimpArgs false
namespace Go.Proofs.YtlghobefhmpfkaaDoor
open Go Go.Ev Go.Rcs
set_option maxRecDepth 100000
variable {G : World → Prop}
/-- A reader's cells. -/
abbrev rdr (t : TypeId) (l : D) (at_ fa fe : Int) : Ob := .cells t [.d l, .d (.v (.int .i64 at_)), .d (.v (.int .i64 fa)), .d (.v (.int .i64 fe))]
def nilS : D := .v (.slice none 0 0)
/-- The line that was taken last is wrong. -/
def CFail : Contract := stC fun args st => match args, st with
  | [.ptr 0 0, .d (.v (.int .i64 e))], ⟨1, [(0, .cells t [.d l, .d (.v (.int .i64 at_)), .d (.v (.int .i64 fa)), .d (.v (.int .i64 fe))])]⟩ =>
    some (True, .tup [], ⟨1, [(0, rdr t l at_ (if fe = 0 then at_ else fa) (if fe = 0 then e else fe))]⟩)
  | _, _ => none
/-- Is there another line, and is all right so far? -/
def CMore : Contract := stC fun args st => match args, st with
  | [.ptr 0 0], ⟨1, [(0, .cells t [.d (.sl a), .d (.v (.int .i64 at_)), .d (.v (.int .i64 fa)), .d (.v (.int .i64 fe))])]⟩ =>
    some (True, .d (.v (.bool (decide (fe = 0) && decide (at_ < a.length)))), ⟨1, [(0, rdr t (.sl a) at_ fa fe)]⟩)
  | [.ptr 0 0], ⟨1, [(0, .cells t [.d (.v (.slice none 0 0)), .d (.v (.int .i64 at_)), .d (.v (.int .i64 fa)), .d (.v (.int .i64 fe))])]⟩ =>
    some (¬ fe = 0, .d (.v (.bool false)), ⟨1, [(0, rdr t (.v (.slice none 0 0)) at_ fa fe)]⟩)
  | _, _ => none
/-- The next line without its line feed; where the reader stands, its fault. -/
def nxC (a : List (List UInt8)) (at_ fa fe : Int) : List UInt8 × Int × Int × Int :=
  if fe = 0 then if (a.length : Int) < at_ + 1 then ([], at_ + 1, at_ + 1, 1) else if (bareS (a.getD at_.toNat [])).2 = true then ((bareS (a.getD at_.toNat [])).1, at_ + 1, fa, 0) else ([], at_ + 1, at_ + 1, 3)
  else ([], at_, fa, fe)
def CNext : Contract := stC fun args st => match args, st with
  | [.ptr 0 0], ⟨1, [(0, .cells t [.d (.sl rows), .d (.v (.int .i64 at_)), .d (.v (.int .i64 fa)), .d (.v (.int .i64 fe))])]⟩ =>
    (unStr rows).map fun a => ((0 ≤ at_ ∧ at_ ≤ 1099511627776 ∧ ∀ s ∈ a, s.length ≤ 1099511627776), .d (.v (.string ⟨(nxC a at_ fa fe).1.toArray⟩)), ⟨1, [(0, rdr t (.sl rows) (nxC a at_ fa fe).2.1 (nxC a at_ fa fe).2.2.1 (nxC a at_ fa fe).2.2.2)]⟩)
  | _, _ => none
end Go.Proofs.YtlghobefhmpfkaaDoor
set_option linter.unusedVariables false
set_option linter.unusedSimpArgs false
namespace Go.Proofs.YtlghobefhmpfkaaDoor
open Go Go.Ev Go.Rcs
set_option maxRecDepth 100000
variable {G : World → Prop}
/-! The machine of the archives' form, in plain words. -/
/-- The command of a line. -/
def cmdOf (s : List UInt8) : Option (UInt8 × Int × Int) := if (bareS s).2 = true then rcmd parseS (bareS s).1 else none
theorem parseS_bd (l : List UInt8) : 0 ≤ (parseS l).1 ∧ (parseS l).1 ≤ 2147483647 := by
  unfold parseS
  repeat' split
  all_goals dsimp only
  all_goals omega
theorem parseS_bl (l : List UInt8) (h : (parseS l).2 = 0) : 32 ∉ l := by
  unfold parseS at h
  repeat' split at h
  all_goals simp at h
  rename_i h1 h2 h3
  intro hm
  have h4 : l.all dig = true := by simpa using h2
  have := List.all_eq_true.1 h4 32 hm
  revert this; decide
theorem parseS_nil : ¬ (parseS []).2 = 0 := by
  simp [parseS, badP]
theorem rdC_cmd (s : List UInt8) : (∀ c, cmdOf s = some c → rdC s = (c, true)) ∧ (cmdOf s = none → (rdC s).2 = false) := by
  unfold cmdOf rdC
  cases hb : (bareS s).2 with
  | false => simp
  | true =>
    simp only [if_true]
    cases (bareS s).1 with
    | nil => simp [rcmd]
    | cons v r =>
      obtain ⟨h1, h2⟩ := rd_eq parseS parseS_bl parseS_nil v r
      by_cases h : rdOk parseS v r
      · rw [h1 h]
        refine ⟨fun c hc => ?_, fun hc => by cases hc⟩
        simp only [Option.some.injEq] at hc
        subst hc
        simp [h]
      · rw [h2 h]
        refine ⟨fun c hc => (by cases hc), fun _ => by simp [h]⟩
theorem cmC_cmd (s : List UInt8) : (∀ c, rcmd parseS s = some c → cmC s = (c, true)) ∧ (rcmd parseS s = none → (cmC s).2 = false) := by
  cases s with
  | nil => simp [rcmd, cmC]
  | cons v r =>
    simp only [rcmd, cmC]
    split
    · cases cutB r with
      | none => simp
      | some pq =>
        obtain ⟨p, q⟩ := pq
        simp only [and_assoc]
        split
        · rename_i h
          refine ⟨fun c hc => ?_, fun hc => by cases hc⟩
          simp only [Option.some.injEq] at hc
          subst hc
          simp [h]
        · rename_i h
          exact ⟨fun c hc => (by cases hc), fun _ => decide_eq_false h⟩
    · simp
theorem rcmd_bd {s : List UInt8} {v : UInt8} {p k : Int} (h : rcmd parseS s = some (v, p, k)) : (v = 97 ∨ v = 100) ∧ 0 ≤ p ∧ p ≤ 2147483647 ∧ 0 < k ∧ k ≤ 2147483647 ∧ (v = 100 → 0 < p) := by
  cases s with
  | nil => simp [rcmd] at h
  | cons w r =>
    simp only [rcmd] at h
    split at h
    · rename_i hv
      split at h
      · cases h
      · rename_i pp qq e
        split at h
        · rename_i hc
          simp only [Option.some.injEq, Prod.mk.injEq] at h
          obtain ⟨rfl, rfl, rfl⟩ := h
          have b1 := parseS_bd pp
          have b2 := parseS_bd qq
          refine ⟨hv, b1.1, b1.2, hc.2.2.1, b2.2, fun e => ?_⟩
          rcases hc.2.2.2 with h | h
          · rw [h] at e; cases e
          · exact h
        · cases h
    · cases h
theorem cmd_bd {s : List UInt8} {v : UInt8} {p k : Int} (h : cmdOf s = some (v, p, k)) : (v = 97 ∨ v = 100) ∧ 0 ≤ p ∧ p ≤ 2147483647 ∧ 0 < k ∧ k ≤ 2147483647 ∧ (v = 100 → 0 < p) := by
  unfold cmdOf at h
  split at h
  · exact rcmd_bd h
  · cases h
abbrev Ans := List (List UInt8) × Int × Int
/-- The answer behind the last command. -/
def rcsEnd (L a out : List (List UInt8)) (done : Nat) : Ans :=
  if okUp (out ++ a.drop done).length (out ++ a.drop done) = true then (out ++ a.drop done, 0, 0) else ([], L.length + 1, 6)
/-- Some lines. -/
def seg (l : List (List UInt8)) (i j : Nat) : List (List UInt8) := (l.take j).drop i
/-- The answer from a line on. -/
def rcsGo (L a : List (List UInt8)) : Nat → Nat → List (List UInt8) → Nat → Int → Ans
  | 0, _, out, done, _ => rcsEnd L a out done
  | n + 1, i, out, done, put =>
    match cmdOf (L.getD i []) with
    | none => ([], i + 1, 3)
    | some (v, p, k) =>
      if alw v p k a.length done put ≠ 0 then ([], i + 1, alw v p k a.length done put)
      else if v = 100 then rcsGo L a n (i + 1) (out ++ seg a done (p - 1).toNat) (p - 1 + k).toNat put
      else if (L.length : Int) - 1 - i < k then ([], L.length + 1, 1)
      else rcsGo L a (n - k.toNat) (i + 1 + k.toNat) (out ++ seg a done p.toNat ++ seg L (i + 1) (i + 1 + k.toNat)) p.toNat p
def rcsRun (s : List UInt8) (a : List (List UInt8)) : Ans := if 1048576 < s.length then ([], 0, 9) else rcsGo (lns s) a (lns s).length 0 [] 0 (-1)
theorem alw_ok {v : UInt8} {p k la done put : Int} (hv : v = 97 ∨ v = 100) (h : alw v p k la done put = 0) : (v = 100 → done ≤ p - 1 ∧ p - 1 + k ≤ la) ∧ (v = 97 → done ≤ p ∧ p ≤ la) := by
  unfold alw at h
  refine ⟨fun e => ?_, fun e => ?_⟩
  · rw [if_pos e] at h
    split at h
    · cases h
    · split at h
      · cases h
      · rename_i h1 h2
        simp only [not_or] at h2
        omega
  · rw [if_neg (by rw [e]; decide)] at h
    split at h
    · cases h
    · split at h
      · cases h
      · rename_i h1 h2
        simp only [not_or] at h1
        omega
def fltV (at_ e : Int) : D := .ifc 63 (.pt [.v (.int .i64 at_), .ifc 31 (.v (.int .i64 e))])
/-- What a run leaves: lines, or what is wrong. -/
def runR (y : Ans) : SV × Store := if y.2.2 = 0 then (.tup [.own 0, .d (.v .nilIface)], ⟨1, [(0, .row 9 1 (strRows y.1))]⟩) else (.tup [.d (.sl []), .d (fltV y.2.1 y.2.2)], ⟨0, []⟩)
theorem runR0 (l : List (List UInt8)) (p : Int) : runR (l, p, 0) = (.tup [.own 0, .d (.v .nilIface)], ⟨1, [(0, .row 9 1 (strRows l))]⟩) := rfl
theorem runRe (l : List (List UInt8)) (p e : Int) (h : ¬ e = 0) : runR (l, p, e) = (.tup [.d (.sl []), .d (fltV p e)], ⟨0, []⟩) := if_neg h
def CFlt : Contract := pureC fun args => match args with
  | [.d (.v (.int .i64 at_)), .d (.v (.int .i64 e))] => some (True, .d (fltV at_ e))
  | _ => none
theorem s12 : Sound G Tryd.prog 12 CFlt := by
  refine sd12 (T := tabT []) tab_nil (pureC_lawful _) (pure_hX fun args p x K h hp hk => ?_)
  split at h <;> simp only [Option.some.injEq, Prod.mk.injEq, reduceCtorEq] at h
  obtain ⟨rfl, rfl⟩ := h
  refine ⟨Nat.le_of_ble_eq_true rfl, ?_⟩
  unfold fltV at hk
  simp -dsimp -implicitDefEqProofs only [S12, R12, ↓Ev.xStp_eq, ↓Ev.P, Ev.Q, Bool.cond_true, Bool.cond_false, eq_self, forall_eq_or_imp, implies_true, forall_const, forall_eq, ↓reduceIte, reduceIte, Nat.reduceEqDiff, Nat.reduceAdd, reduceCtorEq, Nat.reduceSub, Int.reduceToNat, Int.reduceLE, Int.reduceLT, Int.reduceNeg, Nat.reduceBEq, Nat.reduceMul, Nat.reduceLeDiff, Nat.reduceMod, UInt8.reduceOfNat, Nat.reduceLT, Int.reduceEq, Int.reduceAdd, Int.reduceSub, Int.reduceMul]
  exact hk
theorem strRows_app (a b : List (List UInt8)) : strRows a ++ strRows b = strRows (a ++ b) := by simp [strRows]
theorem seg_mem {l : List (List UInt8)} {i j : Nat} {s : List UInt8} (h : s ∈ seg l i j) : s ∈ l := List.mem_of_mem_take (List.mem_of_mem_drop h)
theorem seg_len {l : List (List UInt8)} {i j : Nat} (h1 : i ≤ j) (h2 : j ≤ l.length) : (seg l i j).length = j - i := by unfold seg; rw [List.length_drop, List.length_take]; omega
end Go.Proofs.YtlghobefhmpfkaaDoor
set_option linter.unusedVariables false
set_option linter.unusedSimpArgs false
namespace Go.Proofs.YtlghobefhmpfkaaDoor
open Go Go.Ev Go.Rcs
set_option maxRecDepth 100000
variable {G : World → Prop}
def CRun : Contract := stC fun args st => match args, st with
  | [.d (.v (.string s)), .d (.sl rows)], ⟨0, []⟩ => (unStr rows).map fun a => ((s.size ≤ 1099511627776 ∧ a.length ≤ 1073741824 ∧ ∀ x ∈ a, x.length ≤ 1099511627776), runR (rcsRun s.data.toList a))
  | _, _ => none
abbrev rcsTab : List (FuncId × Contract) := [(12, CFlt), (5, CSplit), (13, CRead), (14, CAlw), (15, CKeep), (16, CLns)]
theorem lns_sz (s : List UInt8) (h : s.length ≤ 1048576) : (lns s).length ≤ 1048576 ∧ ∀ x ∈ lns s, x.length ≤ 1099511627776 := by
  refine ⟨Nat.le_trans (lns_len s) h, fun x hx => ?_⟩
  have h2 : x.length ≤ (lns s).flatten.length := by
    obtain ⟨a, b, e⟩ := List.append_of_mem hx
    rw [e]; simp; omega
  rw [lns_flat] at h2
  omega
set_option maxHeartbeats 16000000 in
theorem runS0 {s : List UInt8} {a L : List (List UInt8)} {Y : Ans} {K : Out → Store → Prop} (h4 : s.length ≤ 1048576) (ha : a.length ≤ 1073741824) (hA : ∀ x ∈ a, x.length ≤ 1099511627776) (hLs : lns s = L) (hLl : L.length ≤ 1048576) (hL : ∀ x ∈ L, x.length ≤ 1099511627776) (hY : rcsGo L a L.length 0 [] 0 (-1) = Y) (hz : Y.2.2 = 0) (hL0 : L.length = 0) (hk : K (.ret (.tup [.own 0, .d (.v .nilIface)])) ⟨1, [(0, .row 9 1 (strRows Y.1))]⟩) :
  xv (tabT rcsTab) 0 S6 (st0 [.d (.v (.string ⟨s.toArray⟩)), .d (.sl (strRows a))] ⟨0, []⟩) (retK R6 0 [1] K) (panK 0 [] K) := by
  have h5 : ¬ (1048576 : Int) < (s.length : Int) := by omega
  simp -dsimp -implicitDefEqProofs only [S6, S6_0, S6r1, S6_1, S6r2, S6_2, S6r3, S6_3, S6r4, S6_4, S6r5, S6_5, S6r6, S6_6, S6r7, S6_7, S6r8, R6, CSplit, CFlt, h5, hLs, ↓Ev.xStp_eq, ↓Ev.P, Ev.Q, Bool.cond_true, Bool.cond_false, eq_self, forall_eq_or_imp, implies_true, forall_const, forall_eq, ↓reduceIte, reduceIte, Nat.reduceEqDiff, Nat.reduceAdd, reduceCtorEq, Nat.reduceSub, Int.reduceToNat, Int.reduceLE, Int.reduceLT, Int.reduceNeg, Nat.reduceBEq, Nat.reduceMul, Nat.reduceLeDiff, Nat.reduceMod, UInt8.reduceOfNat, Nat.reduceLT, Int.reduceEq, Int.reduceAdd, Int.reduceSub, Int.reduceMul]
  repeat' (first | with_reducible assumption | refine And.intro ?_ ?_ | intro _)
  all_goals try omega
  refine xLoop_intro (fun n st => ∃ (i : Nat) (out : List (List UInt8)) (done put : Int), i ≤ L.length ∧ n = L.length - i ∧ 0 ≤ done ∧ done ≤ a.length ∧ (out.length : Int) ≤ done + i ∧ (∀ x ∈ out, x.length ≤ 1099511627776) ∧ rcsGo L a (L.length - i) i out done.toNat put = Y ∧
      (out = [] ∧ done = 0 ∧ st = ⟨[(1, .d (.sl (strRows a))), (6, .d (.sl (strRows L))), (7, .ptr 0 0), (8, .d (.v (.int .i64 i)))], 1, [(0, .cells 43 [.d (.sl (strRows a)), .d (.v (.slice none 0 0)), .d (.v (.int .i64 done)), .d (.v (.int .i64 put))])]⟩)) L.length [0] ?_ ?_ ?_
  · simp -dsimp -implicitDefEqProofs only [↓Ev.xStp_eq, ↓Ev.P, Ev.Q, Bool.cond_true, Bool.cond_false, eq_self, forall_eq_or_imp, implies_true, forall_const, forall_eq, ↓reduceIte, reduceIte, Nat.reduceEqDiff, Nat.reduceAdd, reduceCtorEq, Nat.reduceSub, Int.reduceToNat, Int.reduceLE, Int.reduceLT, Int.reduceNeg, Nat.reduceBEq, Nat.reduceMul, Nat.reduceLeDiff, Nat.reduceMod, UInt8.reduceOfNat, Nat.reduceLT, Int.reduceEq, Int.reduceAdd, Int.reduceSub, Int.reduceMul]
  · simp -dsimp -implicitDefEqProofs only [↓Ev.xStp_eq, ↓Ev.P, Ev.Q, Bool.cond_true, Bool.cond_false, eq_self, forall_eq_or_imp, implies_true, forall_const, forall_eq, ↓reduceIte, reduceIte, Nat.reduceEqDiff, Nat.reduceAdd, reduceCtorEq, Nat.reduceSub, Int.reduceToNat, Int.reduceLE, Int.reduceLT, Int.reduceNeg, Nat.reduceBEq, Nat.reduceMul, Nat.reduceLeDiff, Nat.reduceMod, UInt8.reduceOfNat, Nat.reduceLT, Int.reduceEq, Int.reduceAdd, Int.reduceSub, Int.reduceMul]
    exact ⟨0, [], 0, -1, by omega, by omega, by omega, by omega, by simp, by simp, hY, rfl, rfl, rfl⟩
  · rintro n st ⟨i, out, done, put, hi, hn, hd0, hd3, hol, ho, hgo, hA1, hA2, rfl⟩
    have hi3 : ¬ (i : Int) < L.length := by omega
    rw [show L.length - i = 0 by omega, rcsGo, rcsEnd] at hgo
    obtain ⟨done, rfl⟩ := Int.eq_ofNat_of_zero_le hd0
    rw [Int.toNat_natCast] at hgo
    have hdl : done ≤ a.length := by omega
    have e4 : (a.take a.length).drop done = a.drop done := by rw [List.take_length]
    have hsl : (a.drop done).length = a.length - done := List.length_drop
    have hmem : ∀ x ∈ out ++ a.drop done, x.length ≤ 1099511627776 := by
      intro x hx; rcases List.mem_append.1 hx with hx | hx
      · rw [hA1] at hx; cases hx
      · exact hA x (List.mem_of_mem_drop hx)
    rw [hA1, List.nil_append] at hgo hmem
    have hlen : (a.drop done).length ≤ 1099511627776 := by omega
    by_cases hok : okUp (a.drop done).length (a.drop done) = true
    · rw [if_pos hok] at hgo
      subst hgo
      simp -dsimp -implicitDefEqProofs only [hi3, e4, hok, CLns, fltV, CRead, CAlw, CKeep, CFlt, strRows_len, strRows_sub, strRows_all, strRows_app, unStr_rows, UInt8.ofNat_toNat, Ev.St.giveC, ↓Ev.P, Ev.Q, Bool.cond_true, Bool.cond_false, eq_self, forall_eq_or_imp, implies_true, forall_const, forall_eq, ↓reduceIte, reduceIte, Nat.reduceEqDiff, Nat.reduceAdd, reduceCtorEq, Nat.reduceSub, Int.reduceToNat, Int.reduceLE, Int.reduceLT, Int.reduceNeg, Nat.reduceBEq, Nat.reduceMul, Nat.reduceLeDiff, Nat.reduceMod, UInt8.reduceOfNat, Nat.reduceLT, Int.reduceEq, Int.reduceAdd, Int.reduceSub, Int.reduceMul]
      repeat' (first | with_reducible assumption | refine And.intro ?_ ?_ | intro _ | (rw [Ev.xStp_eq]; simp -dsimp -implicitDefEqProofs only [hi3, e4, hok, CLns, fltV, CRead, CAlw, CKeep, CFlt, strRows_len, strRows_sub, strRows_all, strRows_app, unStr_rows, UInt8.ofNat_toNat, Ev.St.giveC, ↓Ev.P, Ev.Q, Bool.cond_true, Bool.cond_false, eq_self, forall_eq_or_imp, implies_true, forall_const, forall_eq, ↓reduceIte, reduceIte, Nat.reduceEqDiff, Nat.reduceAdd, reduceCtorEq, Nat.reduceSub, Int.reduceToNat, Int.reduceLE, Int.reduceLT, Int.reduceNeg, Nat.reduceBEq, Nat.reduceMul, Nat.reduceLeDiff, Nat.reduceMod, UInt8.reduceOfNat, Nat.reduceLT, Int.reduceEq, Int.reduceAdd, Int.reduceSub, Int.reduceMul]))
      all_goals try omega
      all_goals first | exact hk | exact hmem | exact hlen | trace_state
    · rw [if_neg hok] at hgo
      subst hgo; simp at hz
set_option maxHeartbeats 16000000 in
theorem runS1 {s : List UInt8} {a L : List (List UInt8)} {Y : Ans} {K : Out → Store → Prop} (h4 : s.length ≤ 1048576) (ha : a.length ≤ 1073741824) (hA : ∀ x ∈ a, x.length ≤ 1099511627776) (hLs : lns s = L) (hLl : L.length ≤ 1048576) (hL : ∀ x ∈ L, x.length ≤ 1099511627776) (hY : rcsGo L a L.length 0 [] 0 (-1) = Y) (hz : Y.2.2 = 0) (hL0 : 0 < L.length) (hk : K (.ret (.tup [.own 0, .d (.v .nilIface)])) ⟨1, [(0, .row 9 1 (strRows Y.1))]⟩) :
  xv (tabT rcsTab) 0 S6 (st0 [.d (.v (.string ⟨s.toArray⟩)), .d (.sl (strRows a))] ⟨0, []⟩) (retK R6 0 [2] K) (panK 0 [] K) := by
  have h5 : ¬ (1048576 : Int) < (s.length : Int) := by omega
  simp -dsimp -implicitDefEqProofs only [S6, S6_0, S6r1, S6_1, S6r2, S6_2, S6r3, S6_3, S6r4, S6_4, S6r5, S6_5, S6r6, S6_6, S6r7, S6_7, S6r8, R6, CSplit, CFlt, h5, hLs, ↓Ev.xStp_eq, ↓Ev.P, Ev.Q, Bool.cond_true, Bool.cond_false, eq_self, forall_eq_or_imp, implies_true, forall_const, forall_eq, ↓reduceIte, reduceIte, Nat.reduceEqDiff, Nat.reduceAdd, reduceCtorEq, Nat.reduceSub, Int.reduceToNat, Int.reduceLE, Int.reduceLT, Int.reduceNeg, Nat.reduceBEq, Nat.reduceMul, Nat.reduceLeDiff, Nat.reduceMod, UInt8.reduceOfNat, Nat.reduceLT, Int.reduceEq, Int.reduceAdd, Int.reduceSub, Int.reduceMul]
  repeat' (first | with_reducible assumption | refine And.intro ?_ ?_ | intro _)
  all_goals try omega
  refine xLoop_intro (fun n st => ∃ (i : Nat) (out : List (List UInt8)) (done put : Int), i ≤ L.length ∧ n = L.length - i ∧ 0 ≤ done ∧ done ≤ a.length ∧ (out.length : Int) ≤ done + i ∧ (∀ x ∈ out, x.length ≤ 1099511627776) ∧ rcsGo L a (L.length - i) i out done.toNat put = Y ∧
      ((i = 0 ∧ out = [] ∧ done = 0 ∧ st = ⟨[(1, .d (.sl (strRows a))), (6, .d (.sl (strRows L))), (7, .ptr 0 0), (8, .d (.v (.int .i64 i)))], 1, [(0, .cells 43 [.d (.sl (strRows a)), .d (.v (.slice none 0 0)), .d (.v (.int .i64 done)), .d (.v (.int .i64 put))])]⟩) ∨ st = ⟨[(1, .d (.sl (strRows a))), (6, .d (.sl (strRows L))), (7, .ptr 0 0), (8, .d (.v (.int .i64 i)))], 2, [(0, .cells 43 [.d (.sl (strRows a)), .own 1, .d (.v (.int .i64 done)), .d (.v (.int .i64 put))]), (1, .row 9 1 (strRows out))]⟩)) L.length [0] ?_ ?_ ?_
  · simp -dsimp -implicitDefEqProofs only [↓Ev.xStp_eq, ↓Ev.P, Ev.Q, Bool.cond_true, Bool.cond_false, eq_self, forall_eq_or_imp, implies_true, forall_const, forall_eq, ↓reduceIte, reduceIte, Nat.reduceEqDiff, Nat.reduceAdd, reduceCtorEq, Nat.reduceSub, Int.reduceToNat, Int.reduceLE, Int.reduceLT, Int.reduceNeg, Nat.reduceBEq, Nat.reduceMul, Nat.reduceLeDiff, Nat.reduceMod, UInt8.reduceOfNat, Nat.reduceLT, Int.reduceEq, Int.reduceAdd, Int.reduceSub, Int.reduceMul]
  · simp -dsimp -implicitDefEqProofs only [↓Ev.xStp_eq, ↓Ev.P, Ev.Q, Bool.cond_true, Bool.cond_false, eq_self, forall_eq_or_imp, implies_true, forall_const, forall_eq, ↓reduceIte, reduceIte, Nat.reduceEqDiff, Nat.reduceAdd, reduceCtorEq, Nat.reduceSub, Int.reduceToNat, Int.reduceLE, Int.reduceLT, Int.reduceNeg, Nat.reduceBEq, Nat.reduceMul, Nat.reduceLeDiff, Nat.reduceMod, UInt8.reduceOfNat, Nat.reduceLT, Int.reduceEq, Int.reduceAdd, Int.reduceSub, Int.reduceMul]
    exact ⟨0, [], 0, -1, by omega, by omega, by omega, by omega, by simp, by simp, hY, .inl ⟨rfl, rfl, rfl, rfl⟩⟩
  · rintro n st ⟨i, out, done, put, hi, hn, hd0, hd3, hol, ho, hgo, ⟨hA0, hA1, hA2, rfl⟩ | rfl⟩
    · by_cases hil : i < L.length
      · have _t := trivial
        subst hA1
        have hi3 : (i : Int) < L.length := by omega
        have hg := strRows_get hil
        have hsz := hL _ (getD_in hil)
        obtain ⟨m, hm⟩ : ∃ m, L.length - i = m + 1 := ⟨L.length - i - 1, by omega⟩
        rw [hm, rcsGo] at hgo
        obtain ⟨hr1, hr2⟩ := rdC_cmd (L.getD i [])
        have hbd : ∀ v p k, cmdOf (L.getD i []) = some (v, p, k) → _ := fun v p k h => cmd_bd h
        generalize L.getD i [] = s at hg hsz hgo hr1 hr2 hbd
        obtain ⟨done, rfl⟩ := Int.eq_ofNat_of_zero_le hd0
        rw [Int.toNat_natCast] at hgo
        simp only [List.nil_append] at hgo
        cases hc : cmdOf s with
        | none =>
          rw [hc] at hgo; dsimp only at hgo; subst hgo; simp at hz
        | some c =>
          obtain ⟨v, p, k⟩ := c
          have hrd := hr1 _ hc
          rw [hc] at hgo
          obtain ⟨hv, p0, p1, k0, k1, vp⟩ := hbd _ _ _ hc
          clear hr1 hr2 hbd hc
          dsimp only at hgo
          obtain ⟨p, rfl⟩ := Int.eq_ofNat_of_zero_le p0
          obtain ⟨k, rfl⟩ := Int.eq_ofNat_of_zero_le (Int.le_of_lt k0)
          have hip : inI p := ⟨by omega, by omega⟩
          have hik : inI k := ⟨by omega, by omega⟩
          have h255 : 0 ≤ (v.toNat : Int) ∧ (v.toNat : Int) < 256 := ⟨by omega, by have := v.toNat_lt; omega⟩
          by_cases hal : alw v p k a.length done put = 0
          · rw [if_neg (fun h => h hal)] at hgo
            obtain ⟨ha1, ha2⟩ := alw_ok hv hal
            by_cases hv1 : v = 100
            · have hvd : ((v.toNat : Int) = 100) = True := (show ((v.toNat : Int) = 100) = (v = 100) from u8_k v 100 (by decide)).trans (eq_true hv1)
              have e5 : ((p : Int) - 1).toNat = p - 1 := by omega
              rw [if_pos hv1, e5] at hgo
              obtain ⟨hd1, hd2⟩ := ha1 hv1
              have hp0 := vp hv1
              have hsl : (seg a done (p - 1)).length ≤ p := by rw [seg_len (by omega) (by omega)]; omega
              simp -dsimp -implicitDefEqProofs only [hg, hi3, hrd, hal, hvd, e5, fltV, CRead, CAlw, CKeep, CFlt, strRows_len, strRows_sub, strRows_all, strRows_app, unStr_rows, UInt8.ofNat_toNat, Ev.St.giveC, ↓Ev.P, Ev.Q, Bool.cond_true, Bool.cond_false, eq_self, forall_eq_or_imp, implies_true, forall_const, forall_eq, ↓reduceIte, reduceIte, Nat.reduceEqDiff, Nat.reduceAdd, reduceCtorEq, Nat.reduceSub, Int.reduceToNat, Int.reduceLE, Int.reduceLT, Int.reduceNeg, Nat.reduceBEq, Nat.reduceMul, Nat.reduceLeDiff, Nat.reduceMod, UInt8.reduceOfNat, Nat.reduceLT, Int.reduceEq, Int.reduceAdd, Int.reduceSub, Int.reduceMul]
              repeat' (first | with_reducible assumption | refine And.intro ?_ ?_ | intro _ | (rw [Ev.xStp_eq]; simp -dsimp -implicitDefEqProofs only [hg, hi3, hrd, hal, hvd, e5, fltV, CRead, CAlw, CKeep, CFlt, strRows_len, strRows_sub, strRows_all, strRows_app, unStr_rows, UInt8.ofNat_toNat, Ev.St.giveC, ↓Ev.P, Ev.Q, Bool.cond_true, Bool.cond_false, eq_self, forall_eq_or_imp, implies_true, forall_const, forall_eq, ↓reduceIte, reduceIte, Nat.reduceEqDiff, Nat.reduceAdd, reduceCtorEq, Nat.reduceSub, Int.reduceToNat, Int.reduceLE, Int.reduceLT, Int.reduceNeg, Nat.reduceBEq, Nat.reduceMul, Nat.reduceLeDiff, Nat.reduceMod, UInt8.reduceOfNat, Nat.reduceLT, Int.reduceEq, Int.reduceAdd, Int.reduceSub, Int.reduceMul]))
              all_goals try omega
              refine xAgain_intro (L.length - (i + 1)) [0, 2] (by omega) (by simp -dsimp -implicitDefEqProofs only [↓Ev.xStp_eq, ↓Ev.P, Ev.Q, Bool.cond_true, Bool.cond_false, eq_self, forall_eq_or_imp, implies_true, forall_const, forall_eq, ↓reduceIte, reduceIte, Nat.reduceEqDiff, Nat.reduceAdd, reduceCtorEq, Nat.reduceSub, Int.reduceToNat, Int.reduceLE, Int.reduceLT, Int.reduceNeg, Nat.reduceBEq, Nat.reduceMul, Nat.reduceLeDiff, Nat.reduceMod, UInt8.reduceOfNat, Nat.reduceLT, Int.reduceEq, Int.reduceAdd, Int.reduceSub, Int.reduceMul]) ⟨i + 1, seg a done (p - 1), (p : Int) - 1 + k, put, by omega, rfl, by omega, by omega, by rw [seg_len (by omega) (by omega)]; omega, ?_, ?_, ?_⟩
              · exact fun x hx => hA x (seg_mem hx)
              · rw [show L.length - (i + 1) = m by omega]; exact hgo
              · refine .inr ?_
                simp -dsimp -implicitDefEqProofs only [↓Ev.xStp_eq, ↓Ev.P, Ev.Q, Bool.cond_true, Bool.cond_false, eq_self, forall_eq_or_imp, implies_true, forall_const, forall_eq, ↓reduceIte, reduceIte, Nat.reduceEqDiff, Nat.reduceAdd, reduceCtorEq, Nat.reduceSub, Int.reduceToNat, Int.reduceLE, Int.reduceLT, Int.reduceNeg, Nat.reduceBEq, Nat.reduceMul, Nat.reduceLeDiff, Nat.reduceMod, UInt8.reduceOfNat, Nat.reduceLT, Int.reduceEq, Int.reduceAdd, Int.reduceSub, Int.reduceMul]
                rfl
            · have hv2 : v = 97 := hv.resolve_right hv1
              have hvd : ((v.toNat : Int) = 100) = False := (show ((v.toNat : Int) = 100) = (v = 100) from u8_k v 100 (by decide)).trans (eq_false hv1)
              rw [if_neg hv1] at hgo
              obtain ⟨hd1, hd2⟩ := ha2 hv2
              by_cases hsh : (L.length : Int) - 1 - i < k
              · rw [if_pos hsh] at hgo
                subst hgo; simp at hz
              · rw [if_neg hsh, Int.toNat_natCast, Int.toNat_natCast] at hgo
                have e1 : ((i : Int) + 1 + (k : Int)).toNat = i + 1 + k := by omega
                have e2 : ((i : Int) + 1).toNat = i + 1 := by omega
                have e3 : (i : Int) + (k : Int) + 1 = ((i + 1 + k : Nat) : Int) := by omega
                have hs1 : (seg a done p).length = p - done := seg_len (by omega) (by omega)
                have hs2 : (seg L (i + 1) (i + 1 + k)).length = k := by rw [seg_len (by omega) (by omega)]; omega
                unfold seg at hs1 hs2
                simp -dsimp -implicitDefEqProofs only [hg, hi3, hrd, hal, hvd, hsh, e1, e2, e3, hs1, hs2, List.length_append, fltV, CRead, CAlw, CKeep, CFlt, strRows_len, strRows_sub, strRows_all, strRows_app, unStr_rows, UInt8.ofNat_toNat, Ev.St.giveC, ↓Ev.P, Ev.Q, Bool.cond_true, Bool.cond_false, eq_self, forall_eq_or_imp, implies_true, forall_const, forall_eq, ↓reduceIte, reduceIte, Nat.reduceEqDiff, Nat.reduceAdd, reduceCtorEq, Nat.reduceSub, Int.reduceToNat, Int.reduceLE, Int.reduceLT, Int.reduceNeg, Nat.reduceBEq, Nat.reduceMul, Nat.reduceLeDiff, Nat.reduceMod, UInt8.reduceOfNat, Nat.reduceLT, Int.reduceEq, Int.reduceAdd, Int.reduceSub, Int.reduceMul]
                repeat' (first | with_reducible assumption | refine And.intro ?_ ?_ | intro _ | (rw [Ev.xStp_eq]; simp -dsimp -implicitDefEqProofs only [hg, hi3, hrd, hal, hvd, hsh, e1, e2, e3, hs1, hs2, List.length_append, fltV, CRead, CAlw, CKeep, CFlt, strRows_len, strRows_sub, strRows_all, strRows_app, unStr_rows, UInt8.ofNat_toNat, Ev.St.giveC, ↓Ev.P, Ev.Q, Bool.cond_true, Bool.cond_false, eq_self, forall_eq_or_imp, implies_true, forall_const, forall_eq, ↓reduceIte, reduceIte, Nat.reduceEqDiff, Nat.reduceAdd, reduceCtorEq, Nat.reduceSub, Int.reduceToNat, Int.reduceLE, Int.reduceLT, Int.reduceNeg, Nat.reduceBEq, Nat.reduceMul, Nat.reduceLeDiff, Nat.reduceMod, UInt8.reduceOfNat, Nat.reduceLT, Int.reduceEq, Int.reduceAdd, Int.reduceSub, Int.reduceMul]))
                all_goals try omega
                refine xAgain_intro (L.length - (i + 1 + k)) [0, 3] (by omega) (by simp -dsimp -implicitDefEqProofs only [↓Ev.xStp_eq, ↓Ev.P, Ev.Q, Bool.cond_true, Bool.cond_false, eq_self, forall_eq_or_imp, implies_true, forall_const, forall_eq, ↓reduceIte, reduceIte, Nat.reduceEqDiff, Nat.reduceAdd, reduceCtorEq, Nat.reduceSub, Int.reduceToNat, Int.reduceLE, Int.reduceLT, Int.reduceNeg, Nat.reduceBEq, Nat.reduceMul, Nat.reduceLeDiff, Nat.reduceMod, UInt8.reduceOfNat, Nat.reduceLT, Int.reduceEq, Int.reduceAdd, Int.reduceSub, Int.reduceMul]) ⟨i + 1 + k, seg a done p ++ seg L (i + 1) (i + 1 + k), p, p, by omega, rfl, by omega, by omega, ?_, ?_, ?_, ?_⟩
                · unfold seg; rw [List.length_append, hs1, hs2]; omega
                · intro x hx; rcases List.mem_append.1 hx with hx | hx
                  · exact hA x (seg_mem hx)
                  · exact hL x (seg_mem hx)
                · rw [show L.length - (i + 1 + k) = m - k by omega, Int.toNat_natCast]; exact hgo
                · refine .inr ?_
                  simp -dsimp -implicitDefEqProofs only [↓Ev.xStp_eq, ↓Ev.P, Ev.Q, Bool.cond_true, Bool.cond_false, eq_self, forall_eq_or_imp, implies_true, forall_const, forall_eq, ↓reduceIte, reduceIte, Nat.reduceEqDiff, Nat.reduceAdd, reduceCtorEq, Nat.reduceSub, Int.reduceToNat, Int.reduceLE, Int.reduceLT, Int.reduceNeg, Nat.reduceBEq, Nat.reduceMul, Nat.reduceLeDiff, Nat.reduceMod, UInt8.reduceOfNat, Nat.reduceLT, Int.reduceEq, Int.reduceAdd, Int.reduceSub, Int.reduceMul]
                  rfl
          · rw [if_pos hal] at hgo
            subst hgo; exact absurd hz hal
      · have _t := trivial
        exact absurd (by omega) hil
    · by_cases hil : i < L.length
      · have _t := trivial
        have hi3 : (i : Int) < L.length := by omega
        have hg := strRows_get hil
        have hsz := hL _ (getD_in hil)
        obtain ⟨m, hm⟩ : ∃ m, L.length - i = m + 1 := ⟨L.length - i - 1, by omega⟩
        rw [hm, rcsGo] at hgo
        obtain ⟨hr1, hr2⟩ := rdC_cmd (L.getD i [])
        have hbd : ∀ v p k, cmdOf (L.getD i []) = some (v, p, k) → _ := fun v p k h => cmd_bd h
        generalize L.getD i [] = s at hg hsz hgo hr1 hr2 hbd
        obtain ⟨done, rfl⟩ := Int.eq_ofNat_of_zero_le hd0
        rw [Int.toNat_natCast] at hgo
        cases hc : cmdOf s with
        | none =>
          rw [hc] at hgo; dsimp only at hgo; subst hgo; simp at hz
        | some c =>
          obtain ⟨v, p, k⟩ := c
          have hrd := hr1 _ hc
          rw [hc] at hgo
          obtain ⟨hv, p0, p1, k0, k1, vp⟩ := hbd _ _ _ hc
          clear hr1 hr2 hbd hc
          dsimp only at hgo
          obtain ⟨p, rfl⟩ := Int.eq_ofNat_of_zero_le p0
          obtain ⟨k, rfl⟩ := Int.eq_ofNat_of_zero_le (Int.le_of_lt k0)
          have hip : inI p := ⟨by omega, by omega⟩
          have hik : inI k := ⟨by omega, by omega⟩
          have h255 : 0 ≤ (v.toNat : Int) ∧ (v.toNat : Int) < 256 := ⟨by omega, by have := v.toNat_lt; omega⟩
          by_cases hal : alw v p k a.length done put = 0
          · rw [if_neg (fun h => h hal)] at hgo
            obtain ⟨ha1, ha2⟩ := alw_ok hv hal
            by_cases hv1 : v = 100
            · have hvd : ((v.toNat : Int) = 100) = True := (show ((v.toNat : Int) = 100) = (v = 100) from u8_k v 100 (by decide)).trans (eq_true hv1)
              have e5 : ((p : Int) - 1).toNat = p - 1 := by omega
              rw [if_pos hv1, e5] at hgo
              obtain ⟨hd1, hd2⟩ := ha1 hv1
              have hp0 := vp hv1
              have hsl : (seg a done (p - 1)).length ≤ p := by rw [seg_len (by omega) (by omega)]; omega
              simp -dsimp -implicitDefEqProofs only [hg, hi3, hrd, hal, hvd, e5, fltV, CRead, CAlw, CKeep, CFlt, strRows_len, strRows_sub, strRows_all, strRows_app, unStr_rows, UInt8.ofNat_toNat, Ev.St.giveC, ↓Ev.P, Ev.Q, Bool.cond_true, Bool.cond_false, eq_self, forall_eq_or_imp, implies_true, forall_const, forall_eq, ↓reduceIte, reduceIte, Nat.reduceEqDiff, Nat.reduceAdd, reduceCtorEq, Nat.reduceSub, Int.reduceToNat, Int.reduceLE, Int.reduceLT, Int.reduceNeg, Nat.reduceBEq, Nat.reduceMul, Nat.reduceLeDiff, Nat.reduceMod, UInt8.reduceOfNat, Nat.reduceLT, Int.reduceEq, Int.reduceAdd, Int.reduceSub, Int.reduceMul]
              repeat' (first | with_reducible assumption | refine And.intro ?_ ?_ | intro _ | (rw [Ev.xStp_eq]; simp -dsimp -implicitDefEqProofs only [hg, hi3, hrd, hal, hvd, e5, fltV, CRead, CAlw, CKeep, CFlt, strRows_len, strRows_sub, strRows_all, strRows_app, unStr_rows, UInt8.ofNat_toNat, Ev.St.giveC, ↓Ev.P, Ev.Q, Bool.cond_true, Bool.cond_false, eq_self, forall_eq_or_imp, implies_true, forall_const, forall_eq, ↓reduceIte, reduceIte, Nat.reduceEqDiff, Nat.reduceAdd, reduceCtorEq, Nat.reduceSub, Int.reduceToNat, Int.reduceLE, Int.reduceLT, Int.reduceNeg, Nat.reduceBEq, Nat.reduceMul, Nat.reduceLeDiff, Nat.reduceMod, UInt8.reduceOfNat, Nat.reduceLT, Int.reduceEq, Int.reduceAdd, Int.reduceSub, Int.reduceMul]))
              all_goals try omega
              refine xAgain_intro (L.length - (i + 1)) [0, 3] (by omega) (by simp -dsimp -implicitDefEqProofs only [↓Ev.xStp_eq, ↓Ev.P, Ev.Q, Bool.cond_true, Bool.cond_false, eq_self, forall_eq_or_imp, implies_true, forall_const, forall_eq, ↓reduceIte, reduceIte, Nat.reduceEqDiff, Nat.reduceAdd, reduceCtorEq, Nat.reduceSub, Int.reduceToNat, Int.reduceLE, Int.reduceLT, Int.reduceNeg, Nat.reduceBEq, Nat.reduceMul, Nat.reduceLeDiff, Nat.reduceMod, UInt8.reduceOfNat, Nat.reduceLT, Int.reduceEq, Int.reduceAdd, Int.reduceSub, Int.reduceMul]) ⟨i + 1, out ++ seg a done (p - 1), (p : Int) - 1 + k, put, by omega, rfl, by omega, by omega, by rw [List.length_append]; rw [seg_len (by omega) (by omega)]; omega, ?_, ?_, ?_⟩
              · intro x hx; rcases List.mem_append.1 hx with hx | hx
                · exact ho x hx
                · exact hA x (seg_mem hx)
              · rw [show L.length - (i + 1) = m by omega]; exact hgo
              · refine .inr ?_
                simp -dsimp -implicitDefEqProofs only [↓Ev.xStp_eq, ↓Ev.P, Ev.Q, Bool.cond_true, Bool.cond_false, eq_self, forall_eq_or_imp, implies_true, forall_const, forall_eq, ↓reduceIte, reduceIte, Nat.reduceEqDiff, Nat.reduceAdd, reduceCtorEq, Nat.reduceSub, Int.reduceToNat, Int.reduceLE, Int.reduceLT, Int.reduceNeg, Nat.reduceBEq, Nat.reduceMul, Nat.reduceLeDiff, Nat.reduceMod, UInt8.reduceOfNat, Nat.reduceLT, Int.reduceEq, Int.reduceAdd, Int.reduceSub, Int.reduceMul]
                rfl
            · have hv2 : v = 97 := hv.resolve_right hv1
              have hvd : ((v.toNat : Int) = 100) = False := (show ((v.toNat : Int) = 100) = (v = 100) from u8_k v 100 (by decide)).trans (eq_false hv1)
              rw [if_neg hv1] at hgo
              obtain ⟨hd1, hd2⟩ := ha2 hv2
              by_cases hsh : (L.length : Int) - 1 - i < k
              · rw [if_pos hsh] at hgo
                subst hgo; simp at hz
              · rw [if_neg hsh, Int.toNat_natCast, Int.toNat_natCast] at hgo
                have e1 : ((i : Int) + 1 + (k : Int)).toNat = i + 1 + k := by omega
                have e2 : ((i : Int) + 1).toNat = i + 1 := by omega
                have e3 : (i : Int) + (k : Int) + 1 = ((i + 1 + k : Nat) : Int) := by omega
                have hs1 : (seg a done p).length = p - done := seg_len (by omega) (by omega)
                have hs2 : (seg L (i + 1) (i + 1 + k)).length = k := by rw [seg_len (by omega) (by omega)]; omega
                unfold seg at hs1 hs2
                simp -dsimp -implicitDefEqProofs only [hg, hi3, hrd, hal, hvd, hsh, e1, e2, e3, hs1, hs2, List.length_append, fltV, CRead, CAlw, CKeep, CFlt, strRows_len, strRows_sub, strRows_all, strRows_app, unStr_rows, UInt8.ofNat_toNat, Ev.St.giveC, ↓Ev.P, Ev.Q, Bool.cond_true, Bool.cond_false, eq_self, forall_eq_or_imp, implies_true, forall_const, forall_eq, ↓reduceIte, reduceIte, Nat.reduceEqDiff, Nat.reduceAdd, reduceCtorEq, Nat.reduceSub, Int.reduceToNat, Int.reduceLE, Int.reduceLT, Int.reduceNeg, Nat.reduceBEq, Nat.reduceMul, Nat.reduceLeDiff, Nat.reduceMod, UInt8.reduceOfNat, Nat.reduceLT, Int.reduceEq, Int.reduceAdd, Int.reduceSub, Int.reduceMul]
                repeat' (first | with_reducible assumption | refine And.intro ?_ ?_ | intro _ | (rw [Ev.xStp_eq]; simp -dsimp -implicitDefEqProofs only [hg, hi3, hrd, hal, hvd, hsh, e1, e2, e3, hs1, hs2, List.length_append, fltV, CRead, CAlw, CKeep, CFlt, strRows_len, strRows_sub, strRows_all, strRows_app, unStr_rows, UInt8.ofNat_toNat, Ev.St.giveC, ↓Ev.P, Ev.Q, Bool.cond_true, Bool.cond_false, eq_self, forall_eq_or_imp, implies_true, forall_const, forall_eq, ↓reduceIte, reduceIte, Nat.reduceEqDiff, Nat.reduceAdd, reduceCtorEq, Nat.reduceSub, Int.reduceToNat, Int.reduceLE, Int.reduceLT, Int.reduceNeg, Nat.reduceBEq, Nat.reduceMul, Nat.reduceLeDiff, Nat.reduceMod, UInt8.reduceOfNat, Nat.reduceLT, Int.reduceEq, Int.reduceAdd, Int.reduceSub, Int.reduceMul]))
                all_goals try omega
                refine xAgain_intro (L.length - (i + 1 + k)) [0, 4] (by omega) (by simp -dsimp -implicitDefEqProofs only [↓Ev.xStp_eq, ↓Ev.P, Ev.Q, Bool.cond_true, Bool.cond_false, eq_self, forall_eq_or_imp, implies_true, forall_const, forall_eq, ↓reduceIte, reduceIte, Nat.reduceEqDiff, Nat.reduceAdd, reduceCtorEq, Nat.reduceSub, Int.reduceToNat, Int.reduceLE, Int.reduceLT, Int.reduceNeg, Nat.reduceBEq, Nat.reduceMul, Nat.reduceLeDiff, Nat.reduceMod, UInt8.reduceOfNat, Nat.reduceLT, Int.reduceEq, Int.reduceAdd, Int.reduceSub, Int.reduceMul]) ⟨i + 1 + k, out ++ seg a done p ++ seg L (i + 1) (i + 1 + k), p, p, by omega, rfl, by omega, by omega, ?_, ?_, ?_, ?_⟩
                · unfold seg; rw [List.length_append, List.length_append, hs1, hs2]; omega
                · intro x hx; rcases List.mem_append.1 hx with hx | hx
                  · rcases List.mem_append.1 hx with hx | hx
                    · exact ho x hx
                    · exact hA x (seg_mem hx)
                  · exact hL x (seg_mem hx)
                · rw [show L.length - (i + 1 + k) = m - k by omega, Int.toNat_natCast]; exact hgo
                · refine .inr ?_
                  simp -dsimp -implicitDefEqProofs only [↓Ev.xStp_eq, ↓Ev.P, Ev.Q, Bool.cond_true, Bool.cond_false, eq_self, forall_eq_or_imp, implies_true, forall_const, forall_eq, ↓reduceIte, reduceIte, Nat.reduceEqDiff, Nat.reduceAdd, reduceCtorEq, Nat.reduceSub, Int.reduceToNat, Int.reduceLE, Int.reduceLT, Int.reduceNeg, Nat.reduceBEq, Nat.reduceMul, Nat.reduceLeDiff, Nat.reduceMod, UInt8.reduceOfNat, Nat.reduceLT, Int.reduceEq, Int.reduceAdd, Int.reduceSub, Int.reduceMul]
                  rfl
          · rw [if_pos hal] at hgo
            subst hgo; exact absurd hz hal
      · have _t := trivial
        have hi3 : ¬ (i : Int) < L.length := by omega
        rw [show L.length - i = 0 by omega, rcsGo, rcsEnd] at hgo
        obtain ⟨done, rfl⟩ := Int.eq_ofNat_of_zero_le hd0
        rw [Int.toNat_natCast] at hgo
        have hdl : done ≤ a.length := by omega
        have e4 : (a.take a.length).drop done = a.drop done := by rw [List.take_length]
        have hsl : (a.drop done).length = a.length - done := List.length_drop
        have hmem : ∀ x ∈ out ++ a.drop done, x.length ≤ 1099511627776 := by
          intro x hx; rcases List.mem_append.1 hx with hx | hx
          · exact ho x hx
          · exact hA x (List.mem_of_mem_drop hx)
        have hlen : (out ++ a.drop done).length ≤ 1099511627776 := by rw [List.length_append]; omega
        by_cases hok : okUp (out ++ a.drop done).length (out ++ a.drop done) = true
        · rw [if_pos hok] at hgo
          subst hgo
          simp -dsimp -implicitDefEqProofs only [hi3, e4, hok, CLns, fltV, CRead, CAlw, CKeep, CFlt, strRows_len, strRows_sub, strRows_all, strRows_app, unStr_rows, UInt8.ofNat_toNat, Ev.St.giveC, ↓Ev.P, Ev.Q, Bool.cond_true, Bool.cond_false, eq_self, forall_eq_or_imp, implies_true, forall_const, forall_eq, ↓reduceIte, reduceIte, Nat.reduceEqDiff, Nat.reduceAdd, reduceCtorEq, Nat.reduceSub, Int.reduceToNat, Int.reduceLE, Int.reduceLT, Int.reduceNeg, Nat.reduceBEq, Nat.reduceMul, Nat.reduceLeDiff, Nat.reduceMod, UInt8.reduceOfNat, Nat.reduceLT, Int.reduceEq, Int.reduceAdd, Int.reduceSub, Int.reduceMul]
          repeat' (first | with_reducible assumption | refine And.intro ?_ ?_ | intro _ | (rw [Ev.xStp_eq]; simp -dsimp -implicitDefEqProofs only [hi3, e4, hok, CLns, fltV, CRead, CAlw, CKeep, CFlt, strRows_len, strRows_sub, strRows_all, strRows_app, unStr_rows, UInt8.ofNat_toNat, Ev.St.giveC, ↓Ev.P, Ev.Q, Bool.cond_true, Bool.cond_false, eq_self, forall_eq_or_imp, implies_true, forall_const, forall_eq, ↓reduceIte, reduceIte, Nat.reduceEqDiff, Nat.reduceAdd, reduceCtorEq, Nat.reduceSub, Int.reduceToNat, Int.reduceLE, Int.reduceLT, Int.reduceNeg, Nat.reduceBEq, Nat.reduceMul, Nat.reduceLeDiff, Nat.reduceMod, UInt8.reduceOfNat, Nat.reduceLT, Int.reduceEq, Int.reduceAdd, Int.reduceSub, Int.reduceMul]))
          all_goals try omega
          all_goals first | exact hk | exact hmem | exact hlen | trace_state
        · rw [if_neg hok] at hgo
          subst hgo; simp at hz
set_option maxHeartbeats 16000000 in
theorem runE {s : List UInt8} {a L : List (List UInt8)} {Y : Ans} {K : Out → Store → Prop} (h4 : s.length ≤ 1048576) (ha : a.length ≤ 1073741824) (hA : ∀ x ∈ a, x.length ≤ 1099511627776) (hLs : lns s = L) (hLl : L.length ≤ 1048576) (hL : ∀ x ∈ L, x.length ≤ 1099511627776) (hY : rcsGo L a L.length 0 [] 0 (-1) = Y) (hz : ¬ Y.2.2 = 0) (hk : K (.ret (.tup [.d (.sl []), .d (fltV Y.2.1 Y.2.2)])) ⟨0, []⟩) :
  xv (tabT rcsTab) 0 S6 (st0 [.d (.v (.string ⟨s.toArray⟩)), .d (.sl (strRows a))] ⟨0, []⟩) (retK R6 0 [] K) (panK 0 [] K) := by
  have h5 : ¬ (1048576 : Int) < (s.length : Int) := by omega
  simp -dsimp -implicitDefEqProofs only [S6, S6_0, S6r1, S6_1, S6r2, S6_2, S6r3, S6_3, S6r4, S6_4, S6r5, S6_5, S6r6, S6_6, S6r7, S6_7, S6r8, R6, CSplit, CFlt, h5, hLs, ↓Ev.xStp_eq, ↓Ev.P, Ev.Q, Bool.cond_true, Bool.cond_false, eq_self, forall_eq_or_imp, implies_true, forall_const, forall_eq, ↓reduceIte, reduceIte, Nat.reduceEqDiff, Nat.reduceAdd, reduceCtorEq, Nat.reduceSub, Int.reduceToNat, Int.reduceLE, Int.reduceLT, Int.reduceNeg, Nat.reduceBEq, Nat.reduceMul, Nat.reduceLeDiff, Nat.reduceMod, UInt8.reduceOfNat, Nat.reduceLT, Int.reduceEq, Int.reduceAdd, Int.reduceSub, Int.reduceMul]
  repeat' (first | with_reducible assumption | refine And.intro ?_ ?_ | intro _)
  all_goals try omega
  refine xLoop_intro (fun n st => ∃ (i : Nat) (out : List (List UInt8)) (done put : Int), i ≤ L.length ∧ n = L.length - i ∧ 0 ≤ done ∧ done ≤ a.length ∧ (out.length : Int) ≤ done + i ∧ (∀ x ∈ out, x.length ≤ 1099511627776) ∧ rcsGo L a (L.length - i) i out done.toNat put = Y ∧
      ((out = [] ∧ done = 0 ∧ st = ⟨[(1, .d (.sl (strRows a))), (6, .d (.sl (strRows L))), (7, .ptr 0 0), (8, .d (.v (.int .i64 i)))], 1, [(0, .cells 43 [.d (.sl (strRows a)), .d (.v (.slice none 0 0)), .d (.v (.int .i64 done)), .d (.v (.int .i64 put))])]⟩) ∨ st = ⟨[(1, .d (.sl (strRows a))), (6, .d (.sl (strRows L))), (7, .ptr 0 0), (8, .d (.v (.int .i64 i)))], 2, [(0, .cells 43 [.d (.sl (strRows a)), .own 1, .d (.v (.int .i64 done)), .d (.v (.int .i64 put))]), (1, .row 9 1 (strRows out))]⟩)) L.length [0] ?_ ?_ ?_
  · simp -dsimp -implicitDefEqProofs only [↓Ev.xStp_eq, ↓Ev.P, Ev.Q, Bool.cond_true, Bool.cond_false, eq_self, forall_eq_or_imp, implies_true, forall_const, forall_eq, ↓reduceIte, reduceIte, Nat.reduceEqDiff, Nat.reduceAdd, reduceCtorEq, Nat.reduceSub, Int.reduceToNat, Int.reduceLE, Int.reduceLT, Int.reduceNeg, Nat.reduceBEq, Nat.reduceMul, Nat.reduceLeDiff, Nat.reduceMod, UInt8.reduceOfNat, Nat.reduceLT, Int.reduceEq, Int.reduceAdd, Int.reduceSub, Int.reduceMul]
  · simp -dsimp -implicitDefEqProofs only [↓Ev.xStp_eq, ↓Ev.P, Ev.Q, Bool.cond_true, Bool.cond_false, eq_self, forall_eq_or_imp, implies_true, forall_const, forall_eq, ↓reduceIte, reduceIte, Nat.reduceEqDiff, Nat.reduceAdd, reduceCtorEq, Nat.reduceSub, Int.reduceToNat, Int.reduceLE, Int.reduceLT, Int.reduceNeg, Nat.reduceBEq, Nat.reduceMul, Nat.reduceLeDiff, Nat.reduceMod, UInt8.reduceOfNat, Nat.reduceLT, Int.reduceEq, Int.reduceAdd, Int.reduceSub, Int.reduceMul]
    exact ⟨0, [], 0, -1, by omega, by omega, by omega, by omega, by simp, by simp, hY, .inl ⟨rfl, rfl, rfl⟩⟩
  · rintro n st ⟨i, out, done, put, hi, hn, hd0, hd3, hol, ho, hgo, ⟨hA1, hA2, rfl⟩ | rfl⟩
    · by_cases hil : i < L.length
      · have _t := trivial
        subst hA1
        have hi3 : (i : Int) < L.length := by omega
        have hg := strRows_get hil
        have hsz := hL _ (getD_in hil)
        obtain ⟨m, hm⟩ : ∃ m, L.length - i = m + 1 := ⟨L.length - i - 1, by omega⟩
        rw [hm, rcsGo] at hgo
        obtain ⟨hr1, hr2⟩ := rdC_cmd (L.getD i [])
        have hbd : ∀ v p k, cmdOf (L.getD i []) = some (v, p, k) → _ := fun v p k h => cmd_bd h
        generalize L.getD i [] = s at hg hsz hgo hr1 hr2 hbd
        obtain ⟨done, rfl⟩ := Int.eq_ofNat_of_zero_le hd0
        rw [Int.toNat_natCast] at hgo
        simp only [List.nil_append] at hgo
        cases hc : cmdOf s with
        | none =>
          rw [hc] at hgo; dsimp only at hgo; subst hgo
          have hrd := hr2 hc
          simp -dsimp -implicitDefEqProofs only [hg, hi3, hrd, fltV, CRead, CAlw, CKeep, CFlt, strRows_len, strRows_sub, strRows_all, strRows_app, unStr_rows, UInt8.ofNat_toNat, Ev.St.giveC, ↓Ev.P, Ev.Q, Bool.cond_true, Bool.cond_false, eq_self, forall_eq_or_imp, implies_true, forall_const, forall_eq, ↓reduceIte, reduceIte, Nat.reduceEqDiff, Nat.reduceAdd, reduceCtorEq, Nat.reduceSub, Int.reduceToNat, Int.reduceLE, Int.reduceLT, Int.reduceNeg, Nat.reduceBEq, Nat.reduceMul, Nat.reduceLeDiff, Nat.reduceMod, UInt8.reduceOfNat, Nat.reduceLT, Int.reduceEq, Int.reduceAdd, Int.reduceSub, Int.reduceMul]
          repeat' (first | with_reducible assumption | refine And.intro ?_ ?_ | intro _ | (rw [Ev.xStp_eq]; simp -dsimp -implicitDefEqProofs only [hg, hi3, hrd, fltV, CRead, CAlw, CKeep, CFlt, strRows_len, strRows_sub, strRows_all, strRows_app, unStr_rows, UInt8.ofNat_toNat, Ev.St.giveC, ↓Ev.P, Ev.Q, Bool.cond_true, Bool.cond_false, eq_self, forall_eq_or_imp, implies_true, forall_const, forall_eq, ↓reduceIte, reduceIte, Nat.reduceEqDiff, Nat.reduceAdd, reduceCtorEq, Nat.reduceSub, Int.reduceToNat, Int.reduceLE, Int.reduceLT, Int.reduceNeg, Nat.reduceBEq, Nat.reduceMul, Nat.reduceLeDiff, Nat.reduceMod, UInt8.reduceOfNat, Nat.reduceLT, Int.reduceEq, Int.reduceAdd, Int.reduceSub, Int.reduceMul]))
          all_goals try omega
          all_goals exact hk
        | some c =>
          obtain ⟨v, p, k⟩ := c
          have hrd := hr1 _ hc
          rw [hc] at hgo
          obtain ⟨hv, p0, p1, k0, k1, vp⟩ := hbd _ _ _ hc
          clear hr1 hr2 hbd hc
          dsimp only at hgo
          obtain ⟨p, rfl⟩ := Int.eq_ofNat_of_zero_le p0
          obtain ⟨k, rfl⟩ := Int.eq_ofNat_of_zero_le (Int.le_of_lt k0)
          have hip : inI p := ⟨by omega, by omega⟩
          have hik : inI k := ⟨by omega, by omega⟩
          have h255 : 0 ≤ (v.toNat : Int) ∧ (v.toNat : Int) < 256 := ⟨by omega, by have := v.toNat_lt; omega⟩
          by_cases hal : alw v p k a.length done put = 0
          · rw [if_neg (fun h => h hal)] at hgo
            obtain ⟨ha1, ha2⟩ := alw_ok hv hal
            by_cases hv1 : v = 100
            · have hvd : ((v.toNat : Int) = 100) = True := (show ((v.toNat : Int) = 100) = (v = 100) from u8_k v 100 (by decide)).trans (eq_true hv1)
              have e5 : ((p : Int) - 1).toNat = p - 1 := by omega
              rw [if_pos hv1, e5] at hgo
              obtain ⟨hd1, hd2⟩ := ha1 hv1
              have hp0 := vp hv1
              have hsl : (seg a done (p - 1)).length ≤ p := by rw [seg_len (by omega) (by omega)]; omega
              simp -dsimp -implicitDefEqProofs only [hg, hi3, hrd, hal, hvd, e5, fltV, CRead, CAlw, CKeep, CFlt, strRows_len, strRows_sub, strRows_all, strRows_app, unStr_rows, UInt8.ofNat_toNat, Ev.St.giveC, ↓Ev.P, Ev.Q, Bool.cond_true, Bool.cond_false, eq_self, forall_eq_or_imp, implies_true, forall_const, forall_eq, ↓reduceIte, reduceIte, Nat.reduceEqDiff, Nat.reduceAdd, reduceCtorEq, Nat.reduceSub, Int.reduceToNat, Int.reduceLE, Int.reduceLT, Int.reduceNeg, Nat.reduceBEq, Nat.reduceMul, Nat.reduceLeDiff, Nat.reduceMod, UInt8.reduceOfNat, Nat.reduceLT, Int.reduceEq, Int.reduceAdd, Int.reduceSub, Int.reduceMul]
              repeat' (first | with_reducible assumption | refine And.intro ?_ ?_ | intro _ | (rw [Ev.xStp_eq]; simp -dsimp -implicitDefEqProofs only [hg, hi3, hrd, hal, hvd, e5, fltV, CRead, CAlw, CKeep, CFlt, strRows_len, strRows_sub, strRows_all, strRows_app, unStr_rows, UInt8.ofNat_toNat, Ev.St.giveC, ↓Ev.P, Ev.Q, Bool.cond_true, Bool.cond_false, eq_self, forall_eq_or_imp, implies_true, forall_const, forall_eq, ↓reduceIte, reduceIte, Nat.reduceEqDiff, Nat.reduceAdd, reduceCtorEq, Nat.reduceSub, Int.reduceToNat, Int.reduceLE, Int.reduceLT, Int.reduceNeg, Nat.reduceBEq, Nat.reduceMul, Nat.reduceLeDiff, Nat.reduceMod, UInt8.reduceOfNat, Nat.reduceLT, Int.reduceEq, Int.reduceAdd, Int.reduceSub, Int.reduceMul]))
              all_goals try omega
              refine xAgain_intro (L.length - (i + 1)) [0, 2] (by omega) (by simp -dsimp -implicitDefEqProofs only [↓Ev.xStp_eq, ↓Ev.P, Ev.Q, Bool.cond_true, Bool.cond_false, eq_self, forall_eq_or_imp, implies_true, forall_const, forall_eq, ↓reduceIte, reduceIte, Nat.reduceEqDiff, Nat.reduceAdd, reduceCtorEq, Nat.reduceSub, Int.reduceToNat, Int.reduceLE, Int.reduceLT, Int.reduceNeg, Nat.reduceBEq, Nat.reduceMul, Nat.reduceLeDiff, Nat.reduceMod, UInt8.reduceOfNat, Nat.reduceLT, Int.reduceEq, Int.reduceAdd, Int.reduceSub, Int.reduceMul]) ⟨i + 1, seg a done (p - 1), (p : Int) - 1 + k, put, by omega, rfl, by omega, by omega, by rw [seg_len (by omega) (by omega)]; omega, ?_, ?_, ?_⟩
              · exact fun x hx => hA x (seg_mem hx)
              · rw [show L.length - (i + 1) = m by omega]; exact hgo
              · refine .inr ?_
                simp -dsimp -implicitDefEqProofs only [↓Ev.xStp_eq, ↓Ev.P, Ev.Q, Bool.cond_true, Bool.cond_false, eq_self, forall_eq_or_imp, implies_true, forall_const, forall_eq, ↓reduceIte, reduceIte, Nat.reduceEqDiff, Nat.reduceAdd, reduceCtorEq, Nat.reduceSub, Int.reduceToNat, Int.reduceLE, Int.reduceLT, Int.reduceNeg, Nat.reduceBEq, Nat.reduceMul, Nat.reduceLeDiff, Nat.reduceMod, UInt8.reduceOfNat, Nat.reduceLT, Int.reduceEq, Int.reduceAdd, Int.reduceSub, Int.reduceMul]
                rfl
            · have hv2 : v = 97 := hv.resolve_right hv1
              have hvd : ((v.toNat : Int) = 100) = False := (show ((v.toNat : Int) = 100) = (v = 100) from u8_k v 100 (by decide)).trans (eq_false hv1)
              rw [if_neg hv1] at hgo
              obtain ⟨hd1, hd2⟩ := ha2 hv2
              by_cases hsh : (L.length : Int) - 1 - i < k
              · rw [if_pos hsh] at hgo
                subst hgo
                simp -dsimp -implicitDefEqProofs only [hg, hi3, hrd, hal, hvd, hsh, fltV, CRead, CAlw, CKeep, CFlt, strRows_len, strRows_sub, strRows_all, strRows_app, unStr_rows, UInt8.ofNat_toNat, Ev.St.giveC, ↓Ev.P, Ev.Q, Bool.cond_true, Bool.cond_false, eq_self, forall_eq_or_imp, implies_true, forall_const, forall_eq, ↓reduceIte, reduceIte, Nat.reduceEqDiff, Nat.reduceAdd, reduceCtorEq, Nat.reduceSub, Int.reduceToNat, Int.reduceLE, Int.reduceLT, Int.reduceNeg, Nat.reduceBEq, Nat.reduceMul, Nat.reduceLeDiff, Nat.reduceMod, UInt8.reduceOfNat, Nat.reduceLT, Int.reduceEq, Int.reduceAdd, Int.reduceSub, Int.reduceMul]
                repeat' (first | with_reducible assumption | refine And.intro ?_ ?_ | intro _ | (rw [Ev.xStp_eq]; simp -dsimp -implicitDefEqProofs only [hg, hi3, hrd, hal, hvd, hsh, fltV, CRead, CAlw, CKeep, CFlt, strRows_len, strRows_sub, strRows_all, strRows_app, unStr_rows, UInt8.ofNat_toNat, Ev.St.giveC, ↓Ev.P, Ev.Q, Bool.cond_true, Bool.cond_false, eq_self, forall_eq_or_imp, implies_true, forall_const, forall_eq, ↓reduceIte, reduceIte, Nat.reduceEqDiff, Nat.reduceAdd, reduceCtorEq, Nat.reduceSub, Int.reduceToNat, Int.reduceLE, Int.reduceLT, Int.reduceNeg, Nat.reduceBEq, Nat.reduceMul, Nat.reduceLeDiff, Nat.reduceMod, UInt8.reduceOfNat, Nat.reduceLT, Int.reduceEq, Int.reduceAdd, Int.reduceSub, Int.reduceMul]))
                all_goals try omega
                all_goals exact hk
              · rw [if_neg hsh, Int.toNat_natCast, Int.toNat_natCast] at hgo
                have e1 : ((i : Int) + 1 + (k : Int)).toNat = i + 1 + k := by omega
                have e2 : ((i : Int) + 1).toNat = i + 1 := by omega
                have e3 : (i : Int) + (k : Int) + 1 = ((i + 1 + k : Nat) : Int) := by omega
                have hs1 : (seg a done p).length = p - done := seg_len (by omega) (by omega)
                have hs2 : (seg L (i + 1) (i + 1 + k)).length = k := by rw [seg_len (by omega) (by omega)]; omega
                unfold seg at hs1 hs2
                simp -dsimp -implicitDefEqProofs only [hg, hi3, hrd, hal, hvd, hsh, e1, e2, e3, hs1, hs2, List.length_append, fltV, CRead, CAlw, CKeep, CFlt, strRows_len, strRows_sub, strRows_all, strRows_app, unStr_rows, UInt8.ofNat_toNat, Ev.St.giveC, ↓Ev.P, Ev.Q, Bool.cond_true, Bool.cond_false, eq_self, forall_eq_or_imp, implies_true, forall_const, forall_eq, ↓reduceIte, reduceIte, Nat.reduceEqDiff, Nat.reduceAdd, reduceCtorEq, Nat.reduceSub, Int.reduceToNat, Int.reduceLE, Int.reduceLT, Int.reduceNeg, Nat.reduceBEq, Nat.reduceMul, Nat.reduceLeDiff, Nat.reduceMod, UInt8.reduceOfNat, Nat.reduceLT, Int.reduceEq, Int.reduceAdd, Int.reduceSub, Int.reduceMul]
                repeat' (first | with_reducible assumption | refine And.intro ?_ ?_ | intro _ | (rw [Ev.xStp_eq]; simp -dsimp -implicitDefEqProofs only [hg, hi3, hrd, hal, hvd, hsh, e1, e2, e3, hs1, hs2, List.length_append, fltV, CRead, CAlw, CKeep, CFlt, strRows_len, strRows_sub, strRows_all, strRows_app, unStr_rows, UInt8.ofNat_toNat, Ev.St.giveC, ↓Ev.P, Ev.Q, Bool.cond_true, Bool.cond_false, eq_self, forall_eq_or_imp, implies_true, forall_const, forall_eq, ↓reduceIte, reduceIte, Nat.reduceEqDiff, Nat.reduceAdd, reduceCtorEq, Nat.reduceSub, Int.reduceToNat, Int.reduceLE, Int.reduceLT, Int.reduceNeg, Nat.reduceBEq, Nat.reduceMul, Nat.reduceLeDiff, Nat.reduceMod, UInt8.reduceOfNat, Nat.reduceLT, Int.reduceEq, Int.reduceAdd, Int.reduceSub, Int.reduceMul]))
                all_goals try omega
                refine xAgain_intro (L.length - (i + 1 + k)) [0, 3] (by omega) (by simp -dsimp -implicitDefEqProofs only [↓Ev.xStp_eq, ↓Ev.P, Ev.Q, Bool.cond_true, Bool.cond_false, eq_self, forall_eq_or_imp, implies_true, forall_const, forall_eq, ↓reduceIte, reduceIte, Nat.reduceEqDiff, Nat.reduceAdd, reduceCtorEq, Nat.reduceSub, Int.reduceToNat, Int.reduceLE, Int.reduceLT, Int.reduceNeg, Nat.reduceBEq, Nat.reduceMul, Nat.reduceLeDiff, Nat.reduceMod, UInt8.reduceOfNat, Nat.reduceLT, Int.reduceEq, Int.reduceAdd, Int.reduceSub, Int.reduceMul]) ⟨i + 1 + k, seg a done p ++ seg L (i + 1) (i + 1 + k), p, p, by omega, rfl, by omega, by omega, ?_, ?_, ?_, ?_⟩
                · unfold seg; rw [List.length_append, hs1, hs2]; omega
                · intro x hx; rcases List.mem_append.1 hx with hx | hx
                  · exact hA x (seg_mem hx)
                  · exact hL x (seg_mem hx)
                · rw [show L.length - (i + 1 + k) = m - k by omega, Int.toNat_natCast]; exact hgo
                · refine .inr ?_
                  simp -dsimp -implicitDefEqProofs only [↓Ev.xStp_eq, ↓Ev.P, Ev.Q, Bool.cond_true, Bool.cond_false, eq_self, forall_eq_or_imp, implies_true, forall_const, forall_eq, ↓reduceIte, reduceIte, Nat.reduceEqDiff, Nat.reduceAdd, reduceCtorEq, Nat.reduceSub, Int.reduceToNat, Int.reduceLE, Int.reduceLT, Int.reduceNeg, Nat.reduceBEq, Nat.reduceMul, Nat.reduceLeDiff, Nat.reduceMod, UInt8.reduceOfNat, Nat.reduceLT, Int.reduceEq, Int.reduceAdd, Int.reduceSub, Int.reduceMul]
                  rfl
          · rw [if_pos hal] at hgo
            subst hgo
            simp -dsimp -implicitDefEqProofs only [hg, hi3, hrd, hal, fltV, CRead, CAlw, CKeep, CFlt, strRows_len, strRows_sub, strRows_all, strRows_app, unStr_rows, UInt8.ofNat_toNat, Ev.St.giveC, ↓Ev.P, Ev.Q, Bool.cond_true, Bool.cond_false, eq_self, forall_eq_or_imp, implies_true, forall_const, forall_eq, ↓reduceIte, reduceIte, Nat.reduceEqDiff, Nat.reduceAdd, reduceCtorEq, Nat.reduceSub, Int.reduceToNat, Int.reduceLE, Int.reduceLT, Int.reduceNeg, Nat.reduceBEq, Nat.reduceMul, Nat.reduceLeDiff, Nat.reduceMod, UInt8.reduceOfNat, Nat.reduceLT, Int.reduceEq, Int.reduceAdd, Int.reduceSub, Int.reduceMul]
            repeat' (first | with_reducible assumption | refine And.intro ?_ ?_ | intro _ | (rw [Ev.xStp_eq]; simp -dsimp -implicitDefEqProofs only [hg, hi3, hrd, hal, fltV, CRead, CAlw, CKeep, CFlt, strRows_len, strRows_sub, strRows_all, strRows_app, unStr_rows, UInt8.ofNat_toNat, Ev.St.giveC, ↓Ev.P, Ev.Q, Bool.cond_true, Bool.cond_false, eq_self, forall_eq_or_imp, implies_true, forall_const, forall_eq, ↓reduceIte, reduceIte, Nat.reduceEqDiff, Nat.reduceAdd, reduceCtorEq, Nat.reduceSub, Int.reduceToNat, Int.reduceLE, Int.reduceLT, Int.reduceNeg, Nat.reduceBEq, Nat.reduceMul, Nat.reduceLeDiff, Nat.reduceMod, UInt8.reduceOfNat, Nat.reduceLT, Int.reduceEq, Int.reduceAdd, Int.reduceSub, Int.reduceMul]))
            all_goals try omega
            all_goals exact hk
      · have _t := trivial
        have hi3 : ¬ (i : Int) < L.length := by omega
        rw [show L.length - i = 0 by omega, rcsGo, rcsEnd] at hgo
        obtain ⟨done, rfl⟩ := Int.eq_ofNat_of_zero_le hd0
        rw [Int.toNat_natCast] at hgo
        have hdl : done ≤ a.length := by omega
        have e4 : (a.take a.length).drop done = a.drop done := by rw [List.take_length]
        have hsl : (a.drop done).length = a.length - done := List.length_drop
        have hmem : ∀ x ∈ out ++ a.drop done, x.length ≤ 1099511627776 := by
          intro x hx; rcases List.mem_append.1 hx with hx | hx
          · rw [hA1] at hx; cases hx
          · exact hA x (List.mem_of_mem_drop hx)
        rw [hA1, List.nil_append] at hgo hmem
        have hlen : (a.drop done).length ≤ 1099511627776 := by omega
        by_cases hok : okUp (a.drop done).length (a.drop done) = true
        · rw [if_pos hok] at hgo
          subst hgo; exact absurd rfl hz
        · rw [if_neg hok] at hgo
          subst hgo
          simp -dsimp -implicitDefEqProofs only [hi3, e4, hok, CLns, fltV, CRead, CAlw, CKeep, CFlt, strRows_len, strRows_sub, strRows_all, strRows_app, unStr_rows, UInt8.ofNat_toNat, Ev.St.giveC, ↓Ev.P, Ev.Q, Bool.cond_true, Bool.cond_false, eq_self, forall_eq_or_imp, implies_true, forall_const, forall_eq, ↓reduceIte, reduceIte, Nat.reduceEqDiff, Nat.reduceAdd, reduceCtorEq, Nat.reduceSub, Int.reduceToNat, Int.reduceLE, Int.reduceLT, Int.reduceNeg, Nat.reduceBEq, Nat.reduceMul, Nat.reduceLeDiff, Nat.reduceMod, UInt8.reduceOfNat, Nat.reduceLT, Int.reduceEq, Int.reduceAdd, Int.reduceSub, Int.reduceMul]
          repeat' (first | with_reducible assumption | refine And.intro ?_ ?_ | intro _ | (rw [Ev.xStp_eq]; simp -dsimp -implicitDefEqProofs only [hi3, e4, hok, CLns, fltV, CRead, CAlw, CKeep, CFlt, strRows_len, strRows_sub, strRows_all, strRows_app, unStr_rows, UInt8.ofNat_toNat, Ev.St.giveC, ↓Ev.P, Ev.Q, Bool.cond_true, Bool.cond_false, eq_self, forall_eq_or_imp, implies_true, forall_const, forall_eq, ↓reduceIte, reduceIte, Nat.reduceEqDiff, Nat.reduceAdd, reduceCtorEq, Nat.reduceSub, Int.reduceToNat, Int.reduceLE, Int.reduceLT, Int.reduceNeg, Nat.reduceBEq, Nat.reduceMul, Nat.reduceLeDiff, Nat.reduceMod, UInt8.reduceOfNat, Nat.reduceLT, Int.reduceEq, Int.reduceAdd, Int.reduceSub, Int.reduceMul]))
          all_goals try omega
          all_goals first | exact hk | exact hmem | exact hlen | trace_state
    · by_cases hil : i < L.length
      · have _t := trivial
        have hi3 : (i : Int) < L.length := by omega
        have hg := strRows_get hil
        have hsz := hL _ (getD_in hil)
        obtain ⟨m, hm⟩ : ∃ m, L.length - i = m + 1 := ⟨L.length - i - 1, by omega⟩
        rw [hm, rcsGo] at hgo
        obtain ⟨hr1, hr2⟩ := rdC_cmd (L.getD i [])
        have hbd : ∀ v p k, cmdOf (L.getD i []) = some (v, p, k) → _ := fun v p k h => cmd_bd h
        generalize L.getD i [] = s at hg hsz hgo hr1 hr2 hbd
        obtain ⟨done, rfl⟩ := Int.eq_ofNat_of_zero_le hd0
        rw [Int.toNat_natCast] at hgo
        cases hc : cmdOf s with
        | none =>
          rw [hc] at hgo; dsimp only at hgo; subst hgo
          have hrd := hr2 hc
          simp -dsimp -implicitDefEqProofs only [hg, hi3, hrd, fltV, CRead, CAlw, CKeep, CFlt, strRows_len, strRows_sub, strRows_all, strRows_app, unStr_rows, UInt8.ofNat_toNat, Ev.St.giveC, ↓Ev.P, Ev.Q, Bool.cond_true, Bool.cond_false, eq_self, forall_eq_or_imp, implies_true, forall_const, forall_eq, ↓reduceIte, reduceIte, Nat.reduceEqDiff, Nat.reduceAdd, reduceCtorEq, Nat.reduceSub, Int.reduceToNat, Int.reduceLE, Int.reduceLT, Int.reduceNeg, Nat.reduceBEq, Nat.reduceMul, Nat.reduceLeDiff, Nat.reduceMod, UInt8.reduceOfNat, Nat.reduceLT, Int.reduceEq, Int.reduceAdd, Int.reduceSub, Int.reduceMul]
          repeat' (first | with_reducible assumption | refine And.intro ?_ ?_ | intro _ | (rw [Ev.xStp_eq]; simp -dsimp -implicitDefEqProofs only [hg, hi3, hrd, fltV, CRead, CAlw, CKeep, CFlt, strRows_len, strRows_sub, strRows_all, strRows_app, unStr_rows, UInt8.ofNat_toNat, Ev.St.giveC, ↓Ev.P, Ev.Q, Bool.cond_true, Bool.cond_false, eq_self, forall_eq_or_imp, implies_true, forall_const, forall_eq, ↓reduceIte, reduceIte, Nat.reduceEqDiff, Nat.reduceAdd, reduceCtorEq, Nat.reduceSub, Int.reduceToNat, Int.reduceLE, Int.reduceLT, Int.reduceNeg, Nat.reduceBEq, Nat.reduceMul, Nat.reduceLeDiff, Nat.reduceMod, UInt8.reduceOfNat, Nat.reduceLT, Int.reduceEq, Int.reduceAdd, Int.reduceSub, Int.reduceMul]))
          all_goals try omega
          all_goals exact hk
        | some c =>
          obtain ⟨v, p, k⟩ := c
          have hrd := hr1 _ hc
          rw [hc] at hgo
          obtain ⟨hv, p0, p1, k0, k1, vp⟩ := hbd _ _ _ hc
          clear hr1 hr2 hbd hc
          dsimp only at hgo
          obtain ⟨p, rfl⟩ := Int.eq_ofNat_of_zero_le p0
          obtain ⟨k, rfl⟩ := Int.eq_ofNat_of_zero_le (Int.le_of_lt k0)
          have hip : inI p := ⟨by omega, by omega⟩
          have hik : inI k := ⟨by omega, by omega⟩
          have h255 : 0 ≤ (v.toNat : Int) ∧ (v.toNat : Int) < 256 := ⟨by omega, by have := v.toNat_lt; omega⟩
          by_cases hal : alw v p k a.length done put = 0
          · rw [if_neg (fun h => h hal)] at hgo
            obtain ⟨ha1, ha2⟩ := alw_ok hv hal
            by_cases hv1 : v = 100
            · have hvd : ((v.toNat : Int) = 100) = True := (show ((v.toNat : Int) = 100) = (v = 100) from u8_k v 100 (by decide)).trans (eq_true hv1)
              have e5 : ((p : Int) - 1).toNat = p - 1 := by omega
              rw [if_pos hv1, e5] at hgo
              obtain ⟨hd1, hd2⟩ := ha1 hv1
              have hp0 := vp hv1
              have hsl : (seg a done (p - 1)).length ≤ p := by rw [seg_len (by omega) (by omega)]; omega
              simp -dsimp -implicitDefEqProofs only [hg, hi3, hrd, hal, hvd, e5, fltV, CRead, CAlw, CKeep, CFlt, strRows_len, strRows_sub, strRows_all, strRows_app, unStr_rows, UInt8.ofNat_toNat, Ev.St.giveC, ↓Ev.P, Ev.Q, Bool.cond_true, Bool.cond_false, eq_self, forall_eq_or_imp, implies_true, forall_const, forall_eq, ↓reduceIte, reduceIte, Nat.reduceEqDiff, Nat.reduceAdd, reduceCtorEq, Nat.reduceSub, Int.reduceToNat, Int.reduceLE, Int.reduceLT, Int.reduceNeg, Nat.reduceBEq, Nat.reduceMul, Nat.reduceLeDiff, Nat.reduceMod, UInt8.reduceOfNat, Nat.reduceLT, Int.reduceEq, Int.reduceAdd, Int.reduceSub, Int.reduceMul]
              repeat' (first | with_reducible assumption | refine And.intro ?_ ?_ | intro _ | (rw [Ev.xStp_eq]; simp -dsimp -implicitDefEqProofs only [hg, hi3, hrd, hal, hvd, e5, fltV, CRead, CAlw, CKeep, CFlt, strRows_len, strRows_sub, strRows_all, strRows_app, unStr_rows, UInt8.ofNat_toNat, Ev.St.giveC, ↓Ev.P, Ev.Q, Bool.cond_true, Bool.cond_false, eq_self, forall_eq_or_imp, implies_true, forall_const, forall_eq, ↓reduceIte, reduceIte, Nat.reduceEqDiff, Nat.reduceAdd, reduceCtorEq, Nat.reduceSub, Int.reduceToNat, Int.reduceLE, Int.reduceLT, Int.reduceNeg, Nat.reduceBEq, Nat.reduceMul, Nat.reduceLeDiff, Nat.reduceMod, UInt8.reduceOfNat, Nat.reduceLT, Int.reduceEq, Int.reduceAdd, Int.reduceSub, Int.reduceMul]))
              all_goals try omega
              refine xAgain_intro (L.length - (i + 1)) [0, 3] (by omega) (by simp -dsimp -implicitDefEqProofs only [↓Ev.xStp_eq, ↓Ev.P, Ev.Q, Bool.cond_true, Bool.cond_false, eq_self, forall_eq_or_imp, implies_true, forall_const, forall_eq, ↓reduceIte, reduceIte, Nat.reduceEqDiff, Nat.reduceAdd, reduceCtorEq, Nat.reduceSub, Int.reduceToNat, Int.reduceLE, Int.reduceLT, Int.reduceNeg, Nat.reduceBEq, Nat.reduceMul, Nat.reduceLeDiff, Nat.reduceMod, UInt8.reduceOfNat, Nat.reduceLT, Int.reduceEq, Int.reduceAdd, Int.reduceSub, Int.reduceMul]) ⟨i + 1, out ++ seg a done (p - 1), (p : Int) - 1 + k, put, by omega, rfl, by omega, by omega, by rw [List.length_append]; rw [seg_len (by omega) (by omega)]; omega, ?_, ?_, ?_⟩
              · intro x hx; rcases List.mem_append.1 hx with hx | hx
                · exact ho x hx
                · exact hA x (seg_mem hx)
              · rw [show L.length - (i + 1) = m by omega]; exact hgo
              · refine .inr ?_
                simp -dsimp -implicitDefEqProofs only [↓Ev.xStp_eq, ↓Ev.P, Ev.Q, Bool.cond_true, Bool.cond_false, eq_self, forall_eq_or_imp, implies_true, forall_const, forall_eq, ↓reduceIte, reduceIte, Nat.reduceEqDiff, Nat.reduceAdd, reduceCtorEq, Nat.reduceSub, Int.reduceToNat, Int.reduceLE, Int.reduceLT, Int.reduceNeg, Nat.reduceBEq, Nat.reduceMul, Nat.reduceLeDiff, Nat.reduceMod, UInt8.reduceOfNat, Nat.reduceLT, Int.reduceEq, Int.reduceAdd, Int.reduceSub, Int.reduceMul]
                rfl
            · have hv2 : v = 97 := hv.resolve_right hv1
              have hvd : ((v.toNat : Int) = 100) = False := (show ((v.toNat : Int) = 100) = (v = 100) from u8_k v 100 (by decide)).trans (eq_false hv1)
              rw [if_neg hv1] at hgo
              obtain ⟨hd1, hd2⟩ := ha2 hv2
              by_cases hsh : (L.length : Int) - 1 - i < k
              · rw [if_pos hsh] at hgo
                subst hgo
                simp -dsimp -implicitDefEqProofs only [hg, hi3, hrd, hal, hvd, hsh, fltV, CRead, CAlw, CKeep, CFlt, strRows_len, strRows_sub, strRows_all, strRows_app, unStr_rows, UInt8.ofNat_toNat, Ev.St.giveC, ↓Ev.P, Ev.Q, Bool.cond_true, Bool.cond_false, eq_self, forall_eq_or_imp, implies_true, forall_const, forall_eq, ↓reduceIte, reduceIte, Nat.reduceEqDiff, Nat.reduceAdd, reduceCtorEq, Nat.reduceSub, Int.reduceToNat, Int.reduceLE, Int.reduceLT, Int.reduceNeg, Nat.reduceBEq, Nat.reduceMul, Nat.reduceLeDiff, Nat.reduceMod, UInt8.reduceOfNat, Nat.reduceLT, Int.reduceEq, Int.reduceAdd, Int.reduceSub, Int.reduceMul]
                repeat' (first | with_reducible assumption | refine And.intro ?_ ?_ | intro _ | (rw [Ev.xStp_eq]; simp -dsimp -implicitDefEqProofs only [hg, hi3, hrd, hal, hvd, hsh, fltV, CRead, CAlw, CKeep, CFlt, strRows_len, strRows_sub, strRows_all, strRows_app, unStr_rows, UInt8.ofNat_toNat, Ev.St.giveC, ↓Ev.P, Ev.Q, Bool.cond_true, Bool.cond_false, eq_self, forall_eq_or_imp, implies_true, forall_const, forall_eq, ↓reduceIte, reduceIte, Nat.reduceEqDiff, Nat.reduceAdd, reduceCtorEq, Nat.reduceSub, Int.reduceToNat, Int.reduceLE, Int.reduceLT, Int.reduceNeg, Nat.reduceBEq, Nat.reduceMul, Nat.reduceLeDiff, Nat.reduceMod, UInt8.reduceOfNat, Nat.reduceLT, Int.reduceEq, Int.reduceAdd, Int.reduceSub, Int.reduceMul]))
                all_goals try omega
                all_goals exact hk
              · rw [if_neg hsh, Int.toNat_natCast, Int.toNat_natCast] at hgo
                have e1 : ((i : Int) + 1 + (k : Int)).toNat = i + 1 + k := by omega
                have e2 : ((i : Int) + 1).toNat = i + 1 := by omega
                have e3 : (i : Int) + (k : Int) + 1 = ((i + 1 + k : Nat) : Int) := by omega
                have hs1 : (seg a done p).length = p - done := seg_len (by omega) (by omega)
                have hs2 : (seg L (i + 1) (i + 1 + k)).length = k := by rw [seg_len (by omega) (by omega)]; omega
                unfold seg at hs1 hs2
                simp -dsimp -implicitDefEqProofs only [hg, hi3, hrd, hal, hvd, hsh, e1, e2, e3, hs1, hs2, List.length_append, fltV, CRead, CAlw, CKeep, CFlt, strRows_len, strRows_sub, strRows_all, strRows_app, unStr_rows, UInt8.ofNat_toNat, Ev.St.giveC, ↓Ev.P, Ev.Q, Bool.cond_true, Bool.cond_false, eq_self, forall_eq_or_imp, implies_true, forall_const, forall_eq, ↓reduceIte, reduceIte, Nat.reduceEqDiff, Nat.reduceAdd, reduceCtorEq, Nat.reduceSub, Int.reduceToNat, Int.reduceLE, Int.reduceLT, Int.reduceNeg, Nat.reduceBEq, Nat.reduceMul, Nat.reduceLeDiff, Nat.reduceMod, UInt8.reduceOfNat, Nat.reduceLT, Int.reduceEq, Int.reduceAdd, Int.reduceSub, Int.reduceMul]
                repeat' (first | with_reducible assumption | refine And.intro ?_ ?_ | intro _ | (rw [Ev.xStp_eq]; simp -dsimp -implicitDefEqProofs only [hg, hi3, hrd, hal, hvd, hsh, e1, e2, e3, hs1, hs2, List.length_append, fltV, CRead, CAlw, CKeep, CFlt, strRows_len, strRows_sub, strRows_all, strRows_app, unStr_rows, UInt8.ofNat_toNat, Ev.St.giveC, ↓Ev.P, Ev.Q, Bool.cond_true, Bool.cond_false, eq_self, forall_eq_or_imp, implies_true, forall_const, forall_eq, ↓reduceIte, reduceIte, Nat.reduceEqDiff, Nat.reduceAdd, reduceCtorEq, Nat.reduceSub, Int.reduceToNat, Int.reduceLE, Int.reduceLT, Int.reduceNeg, Nat.reduceBEq, Nat.reduceMul, Nat.reduceLeDiff, Nat.reduceMod, UInt8.reduceOfNat, Nat.reduceLT, Int.reduceEq, Int.reduceAdd, Int.reduceSub, Int.reduceMul]))
                all_goals try omega
                refine xAgain_intro (L.length - (i + 1 + k)) [0, 4] (by omega) (by simp -dsimp -implicitDefEqProofs only [↓Ev.xStp_eq, ↓Ev.P, Ev.Q, Bool.cond_true, Bool.cond_false, eq_self, forall_eq_or_imp, implies_true, forall_const, forall_eq, ↓reduceIte, reduceIte, Nat.reduceEqDiff, Nat.reduceAdd, reduceCtorEq, Nat.reduceSub, Int.reduceToNat, Int.reduceLE, Int.reduceLT, Int.reduceNeg, Nat.reduceBEq, Nat.reduceMul, Nat.reduceLeDiff, Nat.reduceMod, UInt8.reduceOfNat, Nat.reduceLT, Int.reduceEq, Int.reduceAdd, Int.reduceSub, Int.reduceMul]) ⟨i + 1 + k, out ++ seg a done p ++ seg L (i + 1) (i + 1 + k), p, p, by omega, rfl, by omega, by omega, ?_, ?_, ?_, ?_⟩
                · unfold seg; rw [List.length_append, List.length_append, hs1, hs2]; omega
                · intro x hx; rcases List.mem_append.1 hx with hx | hx
                  · rcases List.mem_append.1 hx with hx | hx
                    · exact ho x hx
                    · exact hA x (seg_mem hx)
                  · exact hL x (seg_mem hx)
                · rw [show L.length - (i + 1 + k) = m - k by omega, Int.toNat_natCast]; exact hgo
                · refine .inr ?_
                  simp -dsimp -implicitDefEqProofs only [↓Ev.xStp_eq, ↓Ev.P, Ev.Q, Bool.cond_true, Bool.cond_false, eq_self, forall_eq_or_imp, implies_true, forall_const, forall_eq, ↓reduceIte, reduceIte, Nat.reduceEqDiff, Nat.reduceAdd, reduceCtorEq, Nat.reduceSub, Int.reduceToNat, Int.reduceLE, Int.reduceLT, Int.reduceNeg, Nat.reduceBEq, Nat.reduceMul, Nat.reduceLeDiff, Nat.reduceMod, UInt8.reduceOfNat, Nat.reduceLT, Int.reduceEq, Int.reduceAdd, Int.reduceSub, Int.reduceMul]
                  rfl
          · rw [if_pos hal] at hgo
            subst hgo
            simp -dsimp -implicitDefEqProofs only [hg, hi3, hrd, hal, fltV, CRead, CAlw, CKeep, CFlt, strRows_len, strRows_sub, strRows_all, strRows_app, unStr_rows, UInt8.ofNat_toNat, Ev.St.giveC, ↓Ev.P, Ev.Q, Bool.cond_true, Bool.cond_false, eq_self, forall_eq_or_imp, implies_true, forall_const, forall_eq, ↓reduceIte, reduceIte, Nat.reduceEqDiff, Nat.reduceAdd, reduceCtorEq, Nat.reduceSub, Int.reduceToNat, Int.reduceLE, Int.reduceLT, Int.reduceNeg, Nat.reduceBEq, Nat.reduceMul, Nat.reduceLeDiff, Nat.reduceMod, UInt8.reduceOfNat, Nat.reduceLT, Int.reduceEq, Int.reduceAdd, Int.reduceSub, Int.reduceMul]
            repeat' (first | with_reducible assumption | refine And.intro ?_ ?_ | intro _ | (rw [Ev.xStp_eq]; simp -dsimp -implicitDefEqProofs only [hg, hi3, hrd, hal, fltV, CRead, CAlw, CKeep, CFlt, strRows_len, strRows_sub, strRows_all, strRows_app, unStr_rows, UInt8.ofNat_toNat, Ev.St.giveC, ↓Ev.P, Ev.Q, Bool.cond_true, Bool.cond_false, eq_self, forall_eq_or_imp, implies_true, forall_const, forall_eq, ↓reduceIte, reduceIte, Nat.reduceEqDiff, Nat.reduceAdd, reduceCtorEq, Nat.reduceSub, Int.reduceToNat, Int.reduceLE, Int.reduceLT, Int.reduceNeg, Nat.reduceBEq, Nat.reduceMul, Nat.reduceLeDiff, Nat.reduceMod, UInt8.reduceOfNat, Nat.reduceLT, Int.reduceEq, Int.reduceAdd, Int.reduceSub, Int.reduceMul]))
            all_goals try omega
            all_goals exact hk
      · have _t := trivial
        have hi3 : ¬ (i : Int) < L.length := by omega
        rw [show L.length - i = 0 by omega, rcsGo, rcsEnd] at hgo
        obtain ⟨done, rfl⟩ := Int.eq_ofNat_of_zero_le hd0
        rw [Int.toNat_natCast] at hgo
        have hdl : done ≤ a.length := by omega
        have e4 : (a.take a.length).drop done = a.drop done := by rw [List.take_length]
        have hsl : (a.drop done).length = a.length - done := List.length_drop
        have hmem : ∀ x ∈ out ++ a.drop done, x.length ≤ 1099511627776 := by
          intro x hx; rcases List.mem_append.1 hx with hx | hx
          · exact ho x hx
          · exact hA x (List.mem_of_mem_drop hx)
        have hlen : (out ++ a.drop done).length ≤ 1099511627776 := by rw [List.length_append]; omega
        by_cases hok : okUp (out ++ a.drop done).length (out ++ a.drop done) = true
        · rw [if_pos hok] at hgo
          subst hgo; exact absurd rfl hz
        · rw [if_neg hok] at hgo
          subst hgo
          simp -dsimp -implicitDefEqProofs only [hi3, e4, hok, CLns, fltV, CRead, CAlw, CKeep, CFlt, strRows_len, strRows_sub, strRows_all, strRows_app, unStr_rows, UInt8.ofNat_toNat, Ev.St.giveC, ↓Ev.P, Ev.Q, Bool.cond_true, Bool.cond_false, eq_self, forall_eq_or_imp, implies_true, forall_const, forall_eq, ↓reduceIte, reduceIte, Nat.reduceEqDiff, Nat.reduceAdd, reduceCtorEq, Nat.reduceSub, Int.reduceToNat, Int.reduceLE, Int.reduceLT, Int.reduceNeg, Nat.reduceBEq, Nat.reduceMul, Nat.reduceLeDiff, Nat.reduceMod, UInt8.reduceOfNat, Nat.reduceLT, Int.reduceEq, Int.reduceAdd, Int.reduceSub, Int.reduceMul]
          repeat' (first | with_reducible assumption | refine And.intro ?_ ?_ | intro _ | (rw [Ev.xStp_eq]; simp -dsimp -implicitDefEqProofs only [hi3, e4, hok, CLns, fltV, CRead, CAlw, CKeep, CFlt, strRows_len, strRows_sub, strRows_all, strRows_app, unStr_rows, UInt8.ofNat_toNat, Ev.St.giveC, ↓Ev.P, Ev.Q, Bool.cond_true, Bool.cond_false, eq_self, forall_eq_or_imp, implies_true, forall_const, forall_eq, ↓reduceIte, reduceIte, Nat.reduceEqDiff, Nat.reduceAdd, reduceCtorEq, Nat.reduceSub, Int.reduceToNat, Int.reduceLE, Int.reduceLT, Int.reduceNeg, Nat.reduceBEq, Nat.reduceMul, Nat.reduceLeDiff, Nat.reduceMod, UInt8.reduceOfNat, Nat.reduceLT, Int.reduceEq, Int.reduceAdd, Int.reduceSub, Int.reduceMul]))
          all_goals try omega
          all_goals first | exact hk | exact hmem | exact hlen | trace_state
end Go.Proofs.YtlghobefhmpfkaaDoor
set_option linter.unusedVariables false
set_option linter.unusedSimpArgs false
namespace Go.Proofs.YtlghobefhmpfkaaDoor
open Go Go.Ev Go.Rcs
set_option maxRecDepth 100000
variable {G : World → Prop}
set_option maxHeartbeats 4000000 in
theorem s6 (hG : ∀ w, G w → ErrR w) : Sound G Tryd.prog 6 CRun := by
  refine sd6 (T := tabT rcsTab) (tab_cons s12 (tab_cons s5 (tab_cons (s13 hG) (tab_cons s14 (tab_cons s15 (tab_cons s16 tab_nil)))))) (stC_lawful _) (st_hX fun args st p x st' K h hp hk => ?_)
  split at h <;> simp only [Option.map_eq_some_iff, Prod.mk.injEq, reduceCtorEq] at h
  obtain ⟨a, hl, rfl, h2⟩ := h
  rename_i s rows
  rw [unStr_eq hl] at *
  obtain ⟨s, rfl⟩ := ex_str s
  simp only [sem_str] at hp h2
  obtain ⟨h1, ha, hA⟩ := hp
  refine ⟨Nat.le_of_ble_eq_true rfl, ?_⟩
  by_cases h4 : 1048576 < s.length
  · rw [rcsRun, if_pos h4, runRe _ _ _ (by decide), Prod.mk.injEq] at h2
    obtain ⟨rfl, rfl⟩ := h2
    have h5 : (1048576 : Int) < (s.length : Int) := by omega
    refine ⟨[], ?_⟩
    simp -dsimp -implicitDefEqProofs only [S6, S6_0, S6r1, S6_1, R6, CFlt, fltV, h5, ↓Ev.xStp_eq, ↓Ev.P, Ev.Q, Bool.cond_true, Bool.cond_false, eq_self, forall_eq_or_imp, implies_true, forall_const, forall_eq, ↓reduceIte, reduceIte, Nat.reduceEqDiff, Nat.reduceAdd, reduceCtorEq, Nat.reduceSub, Int.reduceToNat, Int.reduceLE, Int.reduceLT, Int.reduceNeg, Nat.reduceBEq, Nat.reduceMul, Nat.reduceLeDiff, Nat.reduceMod, UInt8.reduceOfNat, Nat.reduceLT, Int.reduceEq, Int.reduceAdd, Int.reduceSub, Int.reduceMul]
    exact hk
  · rw [rcsRun, if_neg h4] at h2
    obtain ⟨b1, b2⟩ := lns_sz s (by omega)
    generalize hY : rcsGo (lns s) a (lns s).length 0 [] 0 (-1) = Y at h2
    by_cases hz : Y.2.2 = 0
    · rw [runR, if_pos hz, Prod.mk.injEq] at h2
      obtain ⟨rfl, rfl⟩ := h2
      by_cases hL0 : (lns s).length = 0
      · exact ⟨[1], runS0 (by omega) ha hA rfl b1 b2 hY hz hL0 hk⟩
      · exact ⟨[2], runS1 (by omega) ha hA rfl b1 b2 hY hz (by omega) hk⟩
    · rw [runR, if_neg hz, Prod.mk.injEq] at h2
      obtain ⟨rfl, rfl⟩ := h2
      exact ⟨[], runE (by omega) ha hA rfl b1 b2 hY hz hk⟩
end Go.Proofs.YtlghobefhmpfkaaDoor
/- The compiled code of functions, by program (gen.py): each theorem says that the loaded program compiles to it. -/
set_option linter.unusedVariables false
namespace Go.Proofs.YtlghobefhmpfkaaDoor
open Go Go.Ev
set_option maxRecDepth 100000

/-! 9: redline/rcsfmt.Print -/
def A9 : Ann := ⟨fun r i => if r = 4 ∧ i = 0 then 7 else if r = 11 ∧ i = 21 then 1 else 0, fun r => if r = 11 then some ([0], [(0, some true), (2, some true), (8, some true), (13, some true), (14, some true), (16, some true), (18, some true), (1, some true), (3, some true), (4, some true), (9, some true), (15, some true), (17, some true), (19, some true), (20, some true), (21, some true), (5, some false), (6, some true), (7, some true), (10, some false), (11, some true), (12, some true), (22, some false), (23, some true), (24, some false)]) else if r = 9 then some ([0], [(0, some true), (6, some true), (1, none), (2, some true), (7, some true), (3, some false), (4, some true), (5, some true), (8, some false), (9, some true), (10, some true), (11, some false)]) else none, fun r => if r = 1 then some (false, [0, 1, 2]) else if r = 3 then some (false, [8]) else if r = 5 then some (false, [0, 2, 9]) else if r = 7 then some (false, [2, 9, 21, 22, 23]) else if r = 8 then some (false, [2, 9, 11, 21, 22, 23]) else if r = 9 then some (false, [2, 9, 11, 21, 22, 23]) else if r = 10 then some (false, [2, 9, 11, 21, 22, 23]) else if r = 11 then some (false, [2, 9, 11, 21, 22, 23]) else if r = 13 then some (false, [9]) else none, fun r => if r = 6 then [2, 9, 21, 22, 23] else []⟩
def S9_0 : SCode :=
  (.ops [⟨none, (some 6), .mv 6 (.k (Value.string ⟨#[]⟩)), false⟩,
    ⟨none, (some 7), .mv 7 (.k (Value.int .i64 0)), false⟩])
def S9_1 : SCode :=
  (.seq (.seq (.keep [0, 1, 2]) (.ops [⟨none, (some 12), .mv 12 (.s 0), false⟩,
    ⟨none, (some 13), .mv 13 (.s 1), false⟩,
    ⟨none, (some 14), .len 14 (.s 13), false⟩,
    ⟨none, (some 15), .mv 15 (.s 2), false⟩,
    ⟨none, (some 16), .len 16 (.s 15), false⟩,
    ⟨none, (some 17), .call (some 17) 18 false [(.s 12), (.s 14), (.s 16)], false⟩,
    ⟨none, (some 8), .mv 8 (.s 17), false⟩]))
  (.seq (.ops [⟨none, (some 18), .mv 18 (.s 8), false⟩,
    ⟨none, (some 19), .bin 19 .neq (.s 18) (.k (Value.int .i64 0)), false⟩])
  (.cond (.s 19) (.seq (.seq (.keep [8]) (.ops [⟨none, (some 20), .mv 20 (.s 8), false⟩,
    ⟨none, (some 6), .mv 6 (.k (Value.string ⟨#[]⟩)), false⟩,
    ⟨none, (some 7), .mv 7 (.s 20), false⟩]))
  .ret) .skip)))
def S9_2 : SCode :=
  (.ops [⟨none, (some 9), .alb 9 57 5, false⟩])
def S9_3 : SCode :=
  (.seq (.seq (.keep [0, 2, 9]) (.ops [⟨none, (some 21), .mv 21 (.s 0), false⟩,
    ⟨none, (some 22), .len 22 (.s 21), false⟩,
    ⟨none, (some 23), .mv 23 (.k (Value.int .i64 0)), false⟩]))
  (.block 0 (.loop [2, 9, 21, 22, 23] (.seq (.ops [⟨none, (some 24), .bin 24 .lss (.s 23) (.s 22), false⟩])
  (.seq (.cond (.s 24) .skip (.exit 0))
  (.seq (.block 1 (.seq (.seq (.keep [2, 9, 21, 22, 23]) (.ops [⟨none, (some 25), .ia 25 4 (.s 21) (.s 23), false⟩,
    ⟨none, (some 26), .ld 26 true 4 (.s 25), false⟩,
    ⟨none, (some 11), .al 11 35 [(Value.int .i64 0), (Value.int .i64 0), (Value.int .i64 0), (Value.int .i64 0)], false⟩,
    ⟨none, none, .st true 4 (.s 11) (.s 26), false⟩]))
  (.seq (.seq (.seq (.keep [2, 9, 11, 21, 22, 23]) (.ops [⟨none, (some 27), .fa 27 1 (.s 11), false⟩,
    ⟨none, (some 28), .ld 28 false 1 (.s 27), false⟩,
    ⟨none, (some 29), .bin 29 .gtr (.s 28) (.k (Value.int .i64 0)), false⟩]))
  (.cond (.s 29) (.seq (.keep [2, 9, 11, 21, 22, 23]) (.dr [0] [(false, true, ⟨none, (some 30), .fa 30 0 (.s 11), false⟩),
    (false, true, ⟨none, (some 36), .fa 36 1 (.s 11), false⟩),
    (true, true, ⟨none, (some 31), .ld 31 false 1 (.s 30), false⟩),
    (false, true, ⟨none, (some 32), .binc 32 .add (.s 31) (.k (Value.int .i64 1)), false⟩),
    (false, true, ⟨none, (some 37), .ld 37 false 1 (.s 36), false⟩),
    (false, false, ⟨none, (some 33), .call (some 33) 20 false [(.s 32)], false⟩),
    (false, true, ⟨none, (some 34), .bin 34 .add (.k (Value.string ⟨#[100]⟩)) (.s 33), false⟩),
    (false, true, ⟨none, (some 35), .bin 35 .add (.s 34) (.k (Value.string ⟨#[32]⟩)), false⟩),
    (false, false, ⟨none, (some 38), .call (some 38) 20 false [(.s 37)], false⟩),
    (false, true, ⟨none, (some 39), .bin 39 .add (.s 35) (.s 38), true⟩),
    (false, true, ⟨none, (some 40), .bin 40 .add (.s 39) (.k (Value.string ⟨#[10]⟩)), false⟩),
    (false, false, ⟨none, (some 41), .call (some 41) 19 false [(.s 9), (.s 40)], false⟩)])) .skip))
  (.seq (.seq (.keep [2, 9, 11, 21, 22, 23]) (.ops [⟨none, (some 42), .fa 42 3 (.s 11), false⟩,
    ⟨none, (some 43), .ld 43 false 1 (.s 42), false⟩,
    ⟨none, (some 44), .bin 44 .gtr (.s 43) (.k (Value.int .i64 0)), false⟩]))
  (.cond (.s 44) (.seq (.keep [2, 9, 11, 21, 22, 23]) (.dr [0] [(false, true, ⟨none, (some 45), .fa 45 0 (.s 11), false⟩),
    (false, true, ⟨none, (some 47), .fa 47 1 (.s 11), false⟩),
    (false, true, ⟨none, (some 53), .fa 53 3 (.s 11), false⟩),
    (false, true, ⟨none, (some 58), .mv 58 (.s 2), false⟩),
    (false, true, ⟨none, (some 59), .fa 59 2 (.s 11), false⟩),
    (false, true, ⟨none, (some 61), .fa 61 2 (.s 11), false⟩),
    (false, true, ⟨none, (some 63), .fa 63 3 (.s 11), false⟩),
    (false, true, ⟨none, (some 46), .ld 46 false 1 (.s 45), false⟩),
    (false, true, ⟨none, (some 48), .ld 48 false 1 (.s 47), false⟩),
    (false, true, ⟨none, (some 49), .binc 49 .add (.s 46) (.s 48), false⟩),
    (false, true, ⟨none, (some 54), .ld 54 false 1 (.s 53), true⟩),
    (false, true, ⟨none, (some 60), .ld 60 false 1 (.s 59), false⟩),
    (false, true, ⟨none, (some 62), .ld 62 false 1 (.s 61), false⟩),
    (false, true, ⟨none, (some 64), .ld 64 false 1 (.s 63), true⟩),
    (false, true, ⟨none, (some 65), .binc 65 .add (.s 62) (.s 64), false⟩),
    (false, true, ⟨none, (some 66), .slp 66 1 (.s 58) (some (.s 60)) (some (.s 65)), false⟩),
    (false, false, ⟨none, (some 50), .call (some 50) 20 false [(.s 49)], false⟩),
    (false, true, ⟨none, (some 51), .bin 51 .add (.k (Value.string ⟨#[97]⟩)) (.s 50), false⟩),
    (false, true, ⟨none, (some 52), .bin 52 .add (.s 51) (.k (Value.string ⟨#[32]⟩)), false⟩),
    (false, false, ⟨none, (some 55), .call (some 55) 20 false [(.s 54)], false⟩),
    (false, true, ⟨none, (some 56), .bin 56 .add (.s 52) (.s 55), false⟩),
    (false, true, ⟨none, (some 57), .bin 57 .add (.s 56) (.k (Value.string ⟨#[10]⟩)), false⟩),
    (false, false, ⟨none, (some 67), .call (some 67) 10 false [(.s 66)], false⟩),
    (false, true, ⟨none, (some 68), .bin 68 .add (.s 57) (.s 67), false⟩),
    (false, false, ⟨none, (some 69), .call (some 69) 19 false [(.s 9), (.s 68)], false⟩)])) .skip)))))
  (.ops [⟨none, (some 70), .binc 70 .add (.s 23) (.k (Value.int .i64 1)), false⟩,
    ⟨none, (some 23), .mv 23 (.s 70), false⟩])))))))
def S9_4 : SCode :=
  (.seq (.keep [9]) (.ops [⟨none, (some 71), .call (some 71) 21 false [(.s 9)], false⟩,
    ⟨none, (some 6), .mv 6 (.s 71), false⟩,
    ⟨none, (some 7), .mv 7 (.k (Value.int .i64 0)), false⟩]))
def S9r5 : SCode := .ret
def S9r4 : SCode := .seq S9_4 S9r5
def S9r3 : SCode := .seq S9_3 S9r4
def S9r2 : SCode := .seq S9_2 S9r3
def S9r1 : SCode := .seq S9_1 S9r2
def S9 : SCode := .seq S9_0 S9r1
theorem cc9 : (Tryd.f9.body).bind (cc Tryd.prog Tryd.f9.ntmps A9) = some S9 := by kernel_rfl
def R9 : List RR := [.sl 6, .sl 7]
theorem cr9 : Tryd.f9.results.toList.map (crr Tryd.prog) = R9.map some := by kernel_rfl
theorem nm9 : (Tryd.f9.name == "runtime.NumGoroutine") = false := by kernel_rfl
theorem fn9 : Tryd.prog.funcs[9]? = some Tryd.f9 := by kernel_rfl
theorem bd9 : ∃ b, Tryd.f9.body = some b ∧ cc Tryd.prog Tryd.f9.ntmps A9 b = some S9 := Option.bind_eq_some_iff.1 cc9
theorem sd9 {G : World → Prop} {T : FuncId → Contract} {C : Contract} (hT : ∀ f, Sound G Tryd.prog f (T f)) (hl : C.lawful) (hC : ∀ args st K, C.wp args st K → args.length ≤ 72 ∧ ∃ os op, xv T st.n S9 (st0 args st) (retK R9 st.n os K) (panK st.n op K)) (hit : SoundIt G Tryd.prog 9 C.it := by exact SoundIt.none) : Sound G Tryd.prog 9 C := by
  obtain ⟨b, hb, hc⟩ := bd9
  rw [xv_eq] at hC
  exact sound_of_ev mo fn9 hb nm9 hc cr9 hT hl hit hC

/-! 10: redline/lines.Join -/
def A10 : Ann := ⟨fun _ _ => 0, fun _ => none, fun r => if r = 1 then some (false, [0]) else none, fun _ => []⟩
def S10 : SCode :=
  (.seq (.ops [⟨none, (some 2), .mv 2 (.k (Value.string ⟨#[]⟩)), false⟩])
  (.seq (.seq (.keep [0]) (.ops [⟨none, (some 3), .mv 3 (.s 0), false⟩,
    ⟨none, (some 4), .call (some 4) 22 false [(.s 3), (.k (Value.string ⟨#[]⟩))], false⟩,
    ⟨none, (some 2), .mv 2 (.s 4), false⟩]))
  .ret))
theorem cc10 : (Tryd.f10.body).bind (cc Tryd.prog Tryd.f10.ntmps A10) = some S10 := by kernel_rfl
def R10 : List RR := [.sl 2]
theorem cr10 : Tryd.f10.results.toList.map (crr Tryd.prog) = R10.map some := by kernel_rfl
theorem nm10 : (Tryd.f10.name == "runtime.NumGoroutine") = false := by kernel_rfl
theorem fn10 : Tryd.prog.funcs[10]? = some Tryd.f10 := by kernel_rfl
theorem bd10 : ∃ b, Tryd.f10.body = some b ∧ cc Tryd.prog Tryd.f10.ntmps A10 b = some S10 := Option.bind_eq_some_iff.1 cc10
theorem sd10 {G : World → Prop} {T : FuncId → Contract} {C : Contract} (hT : ∀ f, Sound G Tryd.prog f (T f)) (hl : C.lawful) (hC : ∀ args st K, C.wp args st K → args.length ≤ 5 ∧ ∃ os op, xv T st.n S10 (st0 args st) (retK R10 st.n os K) (panK st.n op K)) (hit : SoundIt G Tryd.prog 10 C.it := by exact SoundIt.none) : Sound G Tryd.prog 10 C := by
  obtain ⟨b, hb, hc⟩ := bd10
  rw [xv_eq] at hC
  exact sound_of_ev mo fn10 hb nm10 hc cr10 hT hl hit hC

/-! 22: strings.Join -/
def A22 : Ann := ⟨fun r i => if r = 18 ∧ i = 0 then 7 else 0, fun _ => none, fun r => if r = 5 then some (false, [0]) else if r = 7 then some (false, [0, 1, 5]) else if r = 8 then some (false, [0, 1, 5]) else if r = 10 then some (false, [0, 1, 5]) else if r = 11 then some (false, [0, 1, 5]) else if r = 13 then some (false, [0, 1, 5, 39, 40, 41]) else if r = 14 then some (false, [0, 1, 5, 7, 39, 40, 41]) else if r = 16 then some (false, [0, 1, 5, 7, 39, 40, 41]) else if r = 20 then some (false, [0, 1, 8]) else if r = 21 then some (false, [0, 1, 8]) else if r = 23 then some (false, [1, 8, 63, 64, 65]) else none, fun r => if r = 12 then [0, 1, 5, 39, 40, 41] else if r = 22 then [1, 8, 63, 64, 65] else []⟩
def S22 : SCode :=
  (.seq (.ops [⟨none, (some 4), .mv 4 (.k (Value.string ⟨#[]⟩)), false⟩])
  (.seq (.seq (.ops [⟨none, (some 11), .mv 11 (.s 0), false⟩,
    ⟨none, (some 12), .len 12 (.s 11), false⟩])
  (.block 0 (.seq (.ops [⟨none, (some 14), .bin 14 .eql (.s 12) (.k (Value.int .i64 0)), false⟩,
    ⟨none, (some 13), .mv 13 (.s 14), false⟩])
  (.cond (.s 13) (.seq (.ops [⟨none, (some 4), .mv 4 (.k (Value.string ⟨#[]⟩)), false⟩])
  .ret) (.seq (.ops [⟨none, (some 16), .bin 16 .eql (.s 12) (.k (Value.int .i64 1)), false⟩,
    ⟨none, (some 15), .mv 15 (.s 16), false⟩])
  (.cond (.s 15) (.seq (.seq (.keep [0]) (.ops [⟨none, (some 17), .mv 17 (.s 0), false⟩,
    ⟨none, (some 18), .ia 18 1 (.s 17) (.k (Value.int .i64 0)), false⟩,
    ⟨none, (some 19), .ld 19 false 1 (.s 18), false⟩,
    ⟨none, (some 4), .mv 4 (.s 19), false⟩]))
  .ret) .skip))))))
  (.seq (.ops [⟨none, (some 5), .mv 5 (.k (Value.int .i64 0)), false⟩])
  (.seq (.seq (.seq (.keep [0, 1, 5]) (.ops [⟨none, (some 20), .mv 20 (.s 1), false⟩,
    ⟨none, (some 21), .lens 21 (.s 20), false⟩,
    ⟨none, (some 22), .bin 22 .gtr (.s 21) (.k (Value.int .i64 0)), false⟩]))
  (.cond (.s 22) (.seq (.seq (.seq (.keep [0, 1, 5]) (.ops [⟨none, (some 23), .mv 23 (.s 1), false⟩,
    ⟨none, (some 24), .lens 24 (.s 23), false⟩,
    ⟨none, (some 25), .mv 25 (.s 0), false⟩,
    ⟨none, (some 26), .len 26 (.s 25), false⟩,
    ⟨none, (some 27), .binc 27 .sub (.s 26) (.k (Value.int .i64 1)), false⟩,
    ⟨none, (some 28), .bin 28 .quo (.k (Value.int .i64 9223372036854775807)) (.s 27), false⟩,
    ⟨none, (some 29), .bin 29 .geq (.s 24) (.s 28), false⟩]))
  (.cond (.s 29) (.ops [⟨none, (some 30), .mi 30 9 (.k (Value.string ⟨#[115, 116, 114, 105, 110, 103, 115, 58, 32, 74, 111, 105, 110, 32, 111, 117, 116, 112, 117, 116, 32, 108, 101, 110, 103, 116, 104, 32, 111, 118, 101, 114, 102, 108, 111, 119]⟩)), false⟩,
    ⟨none, none, .pn (.s 30), false⟩]) .skip))
  (.seq (.keep [0, 1, 5]) (.ops [⟨none, (some 31), .mv 31 (.s 5), false⟩,
    ⟨none, (some 32), .mv 32 (.s 1), false⟩,
    ⟨none, (some 33), .lens 33 (.s 32), false⟩,
    ⟨none, (some 34), .mv 34 (.s 0), false⟩,
    ⟨none, (some 35), .len 35 (.s 34), false⟩,
    ⟨none, (some 36), .binc 36 .sub (.s 35) (.k (Value.int .i64 1)), false⟩,
    ⟨none, (some 37), .binc 37 .mul (.s 33) (.s 36), false⟩,
    ⟨none, (some 38), .binc 38 .add (.s 31) (.s 37), false⟩,
    ⟨none, (some 5), .mv 5 (.s 38), false⟩]))) .skip))
  (.seq (.seq (.seq (.keep [0, 1, 5]) (.ops [⟨none, (some 39), .mv 39 (.s 0), false⟩,
    ⟨none, (some 40), .len 40 (.s 39), false⟩,
    ⟨none, (some 41), .mv 41 (.k (Value.int .i64 0)), false⟩]))
  (.block 1 (.loop [0, 1, 5, 39, 40, 41] (.seq (.ops [⟨none, (some 42), .bin 42 .lss (.s 41) (.s 40), false⟩])
  (.seq (.cond (.s 42) .skip (.exit 1))
  (.seq (.block 2 (.seq (.seq (.keep [0, 1, 5, 39, 40, 41]) (.ops [⟨none, (some 43), .ia 43 1 (.s 39) (.s 41), false⟩,
    ⟨none, (some 44), .ld 44 false 1 (.s 43), false⟩,
    ⟨none, (some 7), .mv 7 (.s 44), false⟩]))
  (.seq (.seq (.seq (.keep [0, 1, 5, 7, 39, 40, 41]) (.ops [⟨none, (some 45), .mv 45 (.s 7), false⟩,
    ⟨none, (some 46), .lens 46 (.s 45), false⟩,
    ⟨none, (some 47), .mv 47 (.s 5), false⟩,
    ⟨none, (some 48), .binc 48 .sub (.k (Value.int .i64 9223372036854775807)) (.s 47), false⟩,
    ⟨none, (some 49), .bin 49 .gtr (.s 46) (.s 48), false⟩]))
  (.cond (.s 49) (.ops [⟨none, (some 50), .mi 50 9 (.k (Value.string ⟨#[115, 116, 114, 105, 110, 103, 115, 58, 32, 74, 111, 105, 110, 32, 111, 117, 116, 112, 117, 116, 32, 108, 101, 110, 103, 116, 104, 32, 111, 118, 101, 114, 102, 108, 111, 119]⟩)), false⟩,
    ⟨none, none, .pn (.s 50), false⟩]) .skip))
  (.seq (.keep [0, 1, 5, 7, 39, 40, 41]) (.ops [⟨none, (some 51), .mv 51 (.s 5), false⟩,
    ⟨none, (some 52), .mv 52 (.s 7), false⟩,
    ⟨none, (some 53), .lens 53 (.s 52), false⟩,
    ⟨none, (some 54), .binc 54 .add (.s 51) (.s 53), false⟩,
    ⟨none, (some 5), .mv 5 (.s 54), false⟩])))))
  (.ops [⟨none, (some 55), .binc 55 .add (.s 41) (.k (Value.int .i64 1)), false⟩,
    ⟨none, (some 41), .mv 41 (.s 55), false⟩])))))))
  (.seq (.ops [⟨none, (some 8), .alb 8 57 5, false⟩])
  (.seq (.ops [⟨none, (some 56), .mv 56 (.s 5), false⟩,
    ⟨none, (some 57), .call (some 57) 33 false [(.s 8), (.s 56)], false⟩])
  (.seq (.seq (.keep [0, 1, 8]) (.ops [⟨none, (some 58), .mv 58 (.s 0), false⟩,
    ⟨none, (some 59), .ia 59 1 (.s 58) (.k (Value.int .i64 0)), false⟩,
    ⟨none, (some 60), .ld 60 false 1 (.s 59), false⟩,
    ⟨none, (some 61), .call (some 61) 19 false [(.s 8), (.s 60)], false⟩]))
  (.seq (.seq (.seq (.keep [0, 1, 8]) (.ops [⟨none, (some 62), .mv 62 (.s 0), false⟩,
    ⟨none, (some 63), .slr 63 1 (.s 62) (some (.k (Value.int .i64 1))) none, false⟩,
    ⟨none, (some 64), .len 64 (.s 63), false⟩,
    ⟨none, (some 65), .mv 65 (.k (Value.int .i64 0)), false⟩]))
  (.block 3 (.loop [1, 8, 63, 64, 65] (.seq (.ops [⟨none, (some 66), .bin 66 .lss (.s 65) (.s 64), false⟩])
  (.seq (.cond (.s 66) .skip (.exit 3))
  (.seq (.block 4 (.seq (.seq (.keep [1, 8, 63, 64, 65]) (.ops [⟨none, (some 67), .ia 67 1 (.s 63) (.s 65), false⟩,
    ⟨none, (some 68), .ld 68 false 1 (.s 67), false⟩,
    ⟨none, (some 10), .mv 10 (.s 68), false⟩]))
  (.seq (.ops [⟨none, (some 69), .mv 69 (.s 1), false⟩,
    ⟨none, (some 70), .call (some 70) 19 false [(.s 8), (.s 69)], false⟩])
  (.ops [⟨none, (some 71), .mv 71 (.s 10), false⟩,
    ⟨none, (some 72), .call (some 72) 19 false [(.s 8), (.s 71)], false⟩]))))
  (.ops [⟨none, (some 73), .binc 73 .add (.s 65) (.k (Value.int .i64 1)), false⟩,
    ⟨none, (some 65), .mv 65 (.s 73), false⟩])))))))
  (.seq (.ops [⟨none, (some 74), .call (some 74) 21 false [(.s 8)], false⟩,
    ⟨none, (some 4), .mv 4 (.s 74), false⟩])
  .ret))))))))))
theorem cc22 : (Tryd.f22.body).bind (cc Tryd.prog Tryd.f22.ntmps A22) = some S22 := by kernel_rfl
def R22 : List RR := [.sl 4]
theorem cr22 : Tryd.f22.results.toList.map (crr Tryd.prog) = R22.map some := by kernel_rfl
theorem nm22 : (Tryd.f22.name == "runtime.NumGoroutine") = false := by kernel_rfl
theorem fn22 : Tryd.prog.funcs[22]? = some Tryd.f22 := by kernel_rfl
theorem bd22 : ∃ b, Tryd.f22.body = some b ∧ cc Tryd.prog Tryd.f22.ntmps A22 b = some S22 := Option.bind_eq_some_iff.1 cc22
theorem sd22 {G : World → Prop} {T : FuncId → Contract} {C : Contract} (hT : ∀ f, Sound G Tryd.prog f (T f)) (hl : C.lawful) (hC : ∀ args st K, C.wp args st K → args.length ≤ 75 ∧ ∃ os op, xv T st.n S22 (st0 args st) (retK R22 st.n os K) (panK st.n op K)) (hit : SoundIt G Tryd.prog 22 C.it := by exact SoundIt.none) : Sound G Tryd.prog 22 C := by
  obtain ⟨b, hb, hc⟩ := bd22
  rw [xv_eq] at hC
  exact sound_of_ev mo fn22 hb nm22 hc cr22 hT hl hit hC

end Go.Proofs.YtlghobefhmpfkaaDoor
/-
  DERIVED: THE SHELF's CONTRACTS AT THIS DUMP, IN PLAIN WORDS (tools/lay-plain.mjs out of 'TrydShelfPart.lean', which tools/lay-shelf.mjs wrote): THE SAME DECLARATIONS UNDER THE SAME NAMES: 'import', 'namespace', 'open', 'def', 'theorem' AND NOTHING ELSE: no command of the shelf's: FOR A HAND-IN. Each laying: the table of numbers ('.._ren') and one theorem, a field a fact of the dump's own or the kernel's comparison; each contract: ONE APPLICATION.
-/
namespace Go.Proofs
open Go.Shelf
def Tryd.lays156_ren : Go.Shelf.Ren := ⟨fun | 156 => 22 | 165 => 33 | 166 => 19 | 169 => 21 | 240 => 31 | 241 => 43 | 276 => 41 | 277 => 55 | n => n, fun | 31 => 23 | 9 => 9 | 3 => 3 | 4 => 4 | 0 => 0 | 20 => 20 | 72 => 57 | 76 => 58 | 70 => 54 | 37 => 55 | 75 => 26 | 127 => 76 | 164 => 79 | 5 => 5 | 80 => 60 | n => n, fun | n => n⟩
theorem Tryd.lays156 : Go.Proofs.Lays.n156 Tryd.prog Tryd.lays156_ren := {
  mixed := by kernel_rfl
  f156 := Tryd.func22.trans (congrArg some (by kernel_rfl))
  f165 := Tryd.func33.trans (congrArg some (by kernel_rfl))
  f166 := Tryd.func19.trans (congrArg some (by kernel_rfl))
  f169 := Tryd.func21.trans (congrArg some (by kernel_rfl))
  f240 := Tryd.func31.trans (congrArg some (by kernel_rfl))
  f241 := Tryd.func43.trans (congrArg some (by kernel_rfl))
  f276 := Tryd.func41.trans (congrArg some (by kernel_rfl))
  f277 := Tryd.func55.trans (congrArg some (by kernel_rfl))
  t0 := Tryd.underlying0
  a0 := Tryd.isAgg0
  z0 := Tryd.sizeOf0
  v0 := Tryd.zeroValue0
  t3 := Tryd.underlying3
  a3 := Tryd.isAgg3
  z3 := Tryd.sizeOf3
  v3 := Tryd.zeroValue3
  t4 := Tryd.underlying4
  a4 := Tryd.isAgg4
  z4 := Tryd.sizeOf4
  v4 := Tryd.zeroValue4
  t9 := Tryd.underlying9
  a9 := Tryd.isAgg9
  z9 := Tryd.sizeOf9
  v9 := Tryd.zeroValue9
  t20 := Tryd.underlying20
  a20 := Tryd.isAgg20
  z20 := Tryd.sizeOf20
  v20 := Tryd.zeroValue20
  t31 := Tryd.underlying23
  a31 := Tryd.isAgg23
  z31 := Tryd.sizeOf23
  v31 := Tryd.zeroValue23
  t37 := Tryd.underlying55
  a37 := Tryd.isAgg55
  z37 := Tryd.sizeOf55
  v37 := Tryd.zeroValue55
  t70 := Tryd.underlying54
  a70 := Tryd.isAgg54
  z70 := Tryd.sizeOf54
  v70 := Tryd.zeroValue54
  t72 := Tryd.underlying57
  a72 := Tryd.isAgg57
  z72 := Tryd.sizeOf57
  v72 := Tryd.zeroValue57
  t75 := Tryd.underlying26
  a75 := Tryd.isAgg26
  z75 := Tryd.sizeOf26
  v75 := Tryd.zeroValue26
  t76 := Tryd.underlying58
  a76 := Tryd.isAgg58
  z76 := Tryd.sizeOf58
  v76 := Tryd.zeroValue58
  t127 := Tryd.underlying76
  a127 := Tryd.isAgg76
  z127 := Tryd.sizeOf76
  v127 := Tryd.zeroValue76
  t164 := Tryd.underlying79
  a164 := Tryd.isAgg79
  z164 := Tryd.sizeOf79
  v164 := Tryd.zeroValue79 }
theorem Tryd.Builder_Extra_156 : Builder.Extra Tryd.prog Tryd.lays156_ren := {
  sizeBuilder := by kernel_rfl
  liesBuilder := by kernel_rfl
  t5 := Tryd.underlying5
  a5 := Tryd.isAgg5
  z5 := Tryd.sizeOf5
  v5 := Tryd.zeroValue5
  infoByte := by kernel_rfl
  cellsByte := by kernel_rfl
  sizeByte := by kernel_rfl
  neB5 := by decide }
open Go.RowKit in
/-- strings.Join: "Join concatenates the elements of its first argument to create a single string. The separator string sep is placed between elements in the resulting string.": HOWEVER MANY ELEMENTS. Below the heap's end the world is as it was. (LAID: no walk: one application.) -/
theorem Tryd.strings_Join (bk o c : Nat) (xs : List ByteArray) (sep : ByteArray) (w : World) (hcells : ∀ (j : Nat) x, xs[j]? = some x → w.cell? ⟨bk, o + j, none⟩ = some (.string x)) (hbk : bk < w.heap.size) (hN : xs.length ≤ 140737488355328) (hcap : xs.length ≤ c) (hlen : (Lib.join (xs.map (·.data.toList)) sep.data.toList).length ≤ 140737488355328) :
    Calls Tryd.prog 22 #[.slice (some ⟨bk, o, none⟩) xs.length c, .string sep] w fun e w' => e = .returned (.string ⟨(Lib.join (xs.map (·.data.toList)) sep.data.toList).toArray⟩) ∧ Below w.heap.size w w' := Any.strings_Join Tryd.lays156 Tryd.Builder_Extra_156 bk o c xs sep w hcells hbk hN hcap hlen
end Go.Proofs
set_option linter.unusedVariables false
set_option linter.unusedSimpArgs false
namespace Go.Proofs.YtlghobefhmpfkaaDoor
open Go Go.Ev
set_option maxRecDepth 100000
variable {G : World → Prop}
theorem flat_snoc (l : List (List UInt8)) (i : Nat) (h : i < l.length) : (l.take (i + 1)).flatten = (l.take i).flatten ++ l.getD i [] := by
  rw [List.take_succ_eq_append_getElem h, List.flatten_append]
  simp [List.getD_eq_getElem?_getD, List.getElem?_eq_getElem h]
theorem flat_le (l : List (List UInt8)) (i : Nat) : (l.take i).flatten.length ≤ l.flatten.length := by
  conv => rhs; rw [← List.take_append_drop i l, List.flatten_append, List.length_append]
  exact Nat.le_add_right _ _
theorem join_flat (l : List (List UInt8)) : Lib.join l [] = l.flatten := by
  cases l with
  | nil => rfl
  | cons x r => rw [Lib.join_cons]; simp [Lib.joinTail]
/-- Lines as a text. -/
def CJoin : Contract := pureC fun args => match args with
  | [.d (.sl a)] => (unStr a).map fun x => (x.length ≤ 1099511627776 ∧ x.flatten.length ≤ 70368744177664, .d (.v (str x.flatten)))
  | _ => none
def CJoinS : Contract := pureC fun args => match args with
  | [.d (.sl a), .d (.v (.string p))] => (unStr a).map fun x => ((p.size = 0) ∧ x.length ≤ 1099511627776 ∧ x.flatten.length ≤ 70368744177664, .d (.v (str x.flatten)))
  | _ => none
theorem join0 : Sound G Tryd.prog 22 (pureC fun args => match args with
  | [.d (.sl []), .d (.v (.string p))] => some (True, .d (.v (str [])))
  | _ => none) := by
  refine sd22 (T := tabT []) tab_nil (pureC_lawful _) (pure_hX fun args p x K h hp hk => ?_)
  split at h <;> simp only [Option.some.injEq, Prod.mk.injEq, reduceCtorEq] at h
  obtain ⟨rfl, rfl⟩ := h
  refine ⟨Nat.le_of_ble_eq_true rfl, ?_⟩
  simp -dsimp -implicitDefEqProofs only [S22, R22, ↓Ev.xStp_eq, ↓Ev.P, Ev.Q, Bool.cond_true, Bool.cond_false, eq_self, forall_eq_or_imp, implies_true, forall_const, forall_eq, ↓reduceIte, reduceIte, Nat.reduceEqDiff, Nat.reduceAdd, reduceCtorEq, Nat.reduceSub, Int.reduceToNat, Int.reduceLE, Int.reduceLT, Int.reduceNeg, Nat.reduceBEq, Nat.reduceMul, Nat.reduceLeDiff, Nat.reduceMod, UInt8.reduceOfNat, Nat.reduceLT, Int.reduceEq, Int.reduceAdd, Int.reduceSub, Int.reduceMul]
  exact hk
theorem join1 : Sound G Tryd.prog 22 (pureC fun args => match args with
  | [.d (.sl (a :: r)), .d (.v (.string p))] => (unStr (a :: r)).map fun x => ((p.size = 0) ∧ x.length ≤ 1099511627776 ∧ x.flatten.length ≤ 70368744177664, .d (.v (str x.flatten)))
  | _ => none) := by
  refine sound_lib ⟨Tryd.f22, by kernel_rfl, by kernel_rfl, by kernel_rfl⟩ fun args p x h hp => ?_
  split at h <;> simp only [Option.map_eq_some_iff, Prod.mk.injEq, reduceCtorEq] at h
  obtain ⟨l, hl, rfl, rfl⟩ := h
  rename_i a r s
  obtain ⟨h1, h2, h3⟩ := hp
  obtain rfl : s = ⟨#[]⟩ := by
    obtain ⟨b, rfl⟩ := ex_str s
    rw [sem_str.1] at h1
    rw [List.length_eq_zero_iff.1 h1]
  have hr := unStr_eq hl
  have hll : l.length = (a :: r).length := by rw [hr, strRows_len]
  refine ⟨_, fun m n c => ⟨rfl, rfl⟩, fun w hw m c vs hc hv => ?_⟩
  match vs, hv with
  | [v, u], hv =>
    simp only [CnL, and_true] at hv
    obtain ⟨hv, hu⟩ := hv
    rw [of_v hu]
    simp only [Cn, Rd] at hv
    obtain ⟨A, cap, rfl, c1, c2, c3⟩ := hv
    rcases c3 with c3 | ⟨ad, sz, rfl, hsp, c3⟩
    · cases c3
    · obtain ⟨bk, o, sp⟩ := ad
      simp only at hsp
      subst hsp
      rw [hr] at c3
      have hget : ∀ j, j < l.length → w.cell? ⟨bk, o + j, none⟩ = some (.string ⟨(l.getD j []).toArray⟩) := by
        intro j hj
        obtain ⟨k1, k2⟩ := RdRows_get c3 (strRows_get hj)
        simp only [List.length_cons, List.length_nil] at k1
        subst k1
        simp only [RdCells, Rd, and_true] at k2
        obtain ⟨u, k3, rfl, _⟩ := k2
        have := hc _ _ k3
        rw [Nat.zero_add, Nat.mul_one] at this
        rw [← this]
        congr 1
        unfold Addr.add
        split
        · rename_i e; subst e; rfl
        · rfl
      have h0 := hget 0 (by rw [hll]; simp)
      have hj := join_flat l
      have hx : (l.map fun s => (⟨s.toArray⟩ : ByteArray)).map (·.data.toList) = l := by simp [Function.comp_def]
      have hc2 := Tryd.strings_Join bk o cap (l.map fun s => (⟨s.toArray⟩ : ByteArray)) ⟨#[]⟩ w (fun j x hx => by
        rw [List.getElem?_map] at hx
        obtain ⟨s, e1, rfl⟩ := Option.map_eq_some_iff.1 hx
        have hj := (List.getElem?_eq_some_iff.1 e1).1
        rw [hget j hj]
        simp [List.getD_eq_getElem?_getD, e1]) (cell_lt h0) (by simp; omega) (by simp; omega) (by rw [hx, show (⟨#[]⟩ : ByteArray).data.toList = [] from rfl, hj]; omega)
      rw [hx, show (⟨#[]⟩ : ByteArray).data.toList = [] from rfl, hj, List.length_map, hll] at hc2
      exact hc2
  | [], hv => simp [CnL] at hv
  | [_], hv => simp [CnL] at hv
  | _ :: _ :: _ :: _, hv => simp [CnL] at hv
theorem s22 : Sound G Tryd.prog 22 CJoinS := by
  refine sound_two join0 join1 fun args p x h hp => ?_
  split at h <;> simp only [Option.map_eq_some_iff, Prod.mk.injEq, reduceCtorEq] at h
  obtain ⟨l, hl, rfl, rfl⟩ := h
  rename_i a s
  cases a with
  | nil =>
    simp only [unStr, Option.some.injEq] at hl; subst hl
    exact .inl ⟨True, rfl, trivial⟩
  | cons a r => exact .inr ⟨_, by simp only [hl, Option.map_some], hp⟩
theorem s10 : Sound G Tryd.prog 10 CJoin := by
  refine sd10 (T := tabT [(22, CJoinS)]) (tab_cons s22 tab_nil) (pureC_lawful _) (pure_hX fun args p x K h hp hk => ?_)
  split at h <;> simp only [Option.map_eq_some_iff, Prod.mk.injEq, reduceCtorEq] at h
  obtain ⟨l, hl, rfl, rfl⟩ := h
  rw [unStr_eq hl] at *
  refine ⟨Nat.le_of_ble_eq_true rfl, ?_⟩
  simp -dsimp -implicitDefEqProofs only [S10, R10, CJoinS, unStr_rows, Ev.St.giveC, ↓Ev.xStp_eq, ↓Ev.P, Ev.Q, Bool.cond_true, Bool.cond_false, eq_self, forall_eq_or_imp, implies_true, forall_const, forall_eq, ↓reduceIte, reduceIte, Nat.reduceEqDiff, Nat.reduceAdd, reduceCtorEq, Nat.reduceSub, Int.reduceToNat, Int.reduceLE, Int.reduceLT, Int.reduceNeg, Nat.reduceBEq, Nat.reduceMul, Nat.reduceLeDiff, Nat.reduceMod, UInt8.reduceOfNat, Nat.reduceLT, Int.reduceEq, Int.reduceAdd, Int.reduceSub, Int.reduceMul]
  exact ⟨hp, hk⟩
end Go.Proofs.YtlghobefhmpfkaaDoor
set_option linter.unusedVariables false
set_option linter.unusedSimpArgs false
namespace Go.Proofs.YtlghobefhmpfkaaDoor
open Go Go.Ev
set_option maxRecDepth 100000
variable {G : World → Prop}
def rcsA (A AN : Int) : List UInt8 := if 0 < AN then [100] ++ Lib.itoa (A + 1) ++ [32] ++ Lib.itoa AN ++ [10] else []
def rcsB (A AN B BN : Int) (b : List (List UInt8)) : List UInt8 := if 0 < BN then [97] ++ Lib.itoa (A + AN) ++ [32] ++ Lib.itoa BN ++ [10] ++ (part b B.toNat BN.toNat).flatten else []
/-- A change in the form of archives. -/
def rcsC (b : List (List UInt8)) (c : Q4) : List UInt8 := rcsA c.1 c.2.1 ++ rcsB c.1 c.2.1 c.2.2.1 c.2.2.2 b
def rcsT (l : List Q4) (b : List (List UInt8)) : List UInt8 := l.flatMap (rcsC b)
theorem rcs_snoc {l : List Q4} {i : Nat} (b : List (List UInt8)) (h : i < l.length) : rcsT (l.take (i + 1)) b = rcsT (l.take i) b ++ rcsC b (l.getD i (0, 0, 0, 0)) := by
  rw [rcsT, List.take_succ_eq_append_getElem h, List.flatMap_append]
  simp [rcsT, List.getD_eq_getElem?_getD, List.getElem?_eq_getElem h]
theorem rcs_le (l : List Q4) (b : List (List UInt8)) (i : Nat) : (rcsT (l.take i) b).length ≤ (rcsT l b).length := by
  conv => rhs; rw [← List.take_append_drop i l, rcsT, List.flatMap_append, List.length_append]
  exact Nat.le_add_right _ _
def CRcs : Contract := pureC fun args => match args with
  | [.d (.sl rows), .d (.sl a), .d (.sl b)] => (unQ4 rows).bind fun l => (unStr a).bind fun x => (unStr b).map fun y =>
      ((l.length ≤ 1099511627776 ∧ x.length ≤ 1099511627776 ∧ y.length ≤ 1099511627776) ∧ y.flatten.length ≤ 70368744177664 ∧ (chk l x.length y.length = 0 → (rcsT l y).length ≤ 70368744177664),
        .tup [.d (.v (str (if chk l x.length y.length = 0 then rcsT l y else []))), .d (.v (.int .i64 (chk l x.length y.length)))])
  | _ => none
theorem part_flat (b : List (List UInt8)) (x n : Nat) : (part b x n).flatten.length ≤ b.flatten.length := by
  unfold part
  conv => rhs; rw [← List.take_append_drop x b, List.flatten_append, List.length_append]
  exact Nat.le_trans (flat_le _ _) (Nat.le_add_left _ _)
end Go.Proofs.YtlghobefhmpfkaaDoor
set_option linter.unusedVariables false
set_option linter.unusedSimpArgs false
namespace Go.Proofs.YtlghobefhmpfkaaDoor
open Go Go.Ev
set_option maxRecDepth 100000
variable {G : World → Prop}
set_option maxHeartbeats 1000000 in
theorem s9 (hG : ∀ w, G w → Pow10 w) : Sound G Tryd.prog 9 CRcs := by
  refine sd9 (T := tabT [(18, CCheck), (20, CItoa), (10, CJoin), (19, bldC gWS), (21, strC 5)]) (tab_cons s18 (tab_cons (s20 hG) (tab_cons s10 (tab_cons sWS (tab_cons sST tab_nil))))) (pureC_lawful _) (pure_hX fun args p x K h hp hk => ?_)
  split at h <;> simp only [Option.bind_eq_some_iff, Option.map_eq_some_iff, Prod.mk.injEq, reduceCtorEq] at h
  obtain ⟨l, hl, a, ha, b, hb, rfl, rfl⟩ := h
  rw [unQ4_eq hl, unStr_eq ha, unStr_eq hb] at *
  obtain ⟨⟨h1, h2, h3⟩, h4, h6⟩ := hp
  refine ⟨Nat.le_of_ble_eq_true rfl, ?_⟩
  rcases chk_zero l a.length b.length with hz | hz
  · have hall := chk_all hz
    have hlen := h6 hz
    rw [if_pos hz, hz] at hk
    simp -dsimp -implicitDefEqProofs only [S9, S9_0, S9r1, S9_1, S9r2, S9_2, S9r3, S9_3, S9r4, S9_4, S9r5, R9, CCheck, unQ4_rows, strRows_len, q4Rows_len, hz, ↓Ev.xStp_eq, ↓Ev.P, Ev.Q, Bool.cond_true, Bool.cond_false, eq_self, forall_eq_or_imp, implies_true, forall_const, forall_eq, ↓reduceIte, reduceIte, Nat.reduceEqDiff, Nat.reduceAdd, reduceCtorEq, Nat.reduceSub, Int.reduceToNat, Int.reduceLE, Int.reduceLT, Int.reduceNeg, Nat.reduceBEq, Nat.reduceMul, Nat.reduceLeDiff, Nat.reduceMod, UInt8.reduceOfNat, Nat.reduceLT, Int.reduceEq, Int.reduceAdd, Int.reduceSub, Int.reduceMul]
    refine ⟨by omega, ?_⟩
    refine xLoop_intro (fun k st => ∃ i : Nat, i ≤ l.length ∧ k = l.length - i ∧
      st = ⟨[(2, .d (.sl (strRows b))), (9, .ptr 0 0), (21, .d (.sl (q4Rows l))), (22, .d (.v (.int .i64 l.length))), (23, .d (.v (.int .i64 i)))], 1, [(0, .bld 57 5 (rcsT (l.take i) b))]⟩) l.length [0] ?_ ?_ ?_
    · simp -dsimp -implicitDefEqProofs only [↓Ev.xStp_eq, ↓Ev.P, Ev.Q, Bool.cond_true, Bool.cond_false, eq_self, forall_eq_or_imp, implies_true, forall_const, forall_eq, ↓reduceIte, reduceIte, Nat.reduceEqDiff, Nat.reduceAdd, reduceCtorEq, Nat.reduceSub, Int.reduceToNat, Int.reduceLE, Int.reduceLT, Int.reduceNeg, Nat.reduceBEq, Nat.reduceMul, Nat.reduceLeDiff, Nat.reduceMod, UInt8.reduceOfNat, Nat.reduceLT, Int.reduceEq, Int.reduceAdd, Int.reduceSub, Int.reduceMul]
    · simp -dsimp -implicitDefEqProofs only [↓Ev.xStp_eq, ↓Ev.P, Ev.Q, Bool.cond_true, Bool.cond_false, eq_self, forall_eq_or_imp, implies_true, forall_const, forall_eq, ↓reduceIte, reduceIte, Nat.reduceEqDiff, Nat.reduceAdd, reduceCtorEq, Nat.reduceSub, Int.reduceToNat, Int.reduceLE, Int.reduceLT, Int.reduceNeg, Nat.reduceBEq, Nat.reduceMul, Nat.reduceLeDiff, Nat.reduceMod, UInt8.reduceOfNat, Nat.reduceLT, Int.reduceEq, Int.reduceAdd, Int.reduceSub, Int.reduceMul]
      exact ⟨0, by omega, by omega, by simp [rcsT]⟩
    · rintro k st ⟨i, hi, hk2, rfl⟩
      by_cases hil : i < l.length
      · have hi3 : (i : Int) < l.length := by omega
        have hg := q4Rows_get hil
        have hsn := rcs_snoc b hil
        have hle := rcs_le l b (i + 1)
        obtain ⟨⟨b1, b2, b3, b4, b5⟩, b6, b7⟩ := hall _ (q4_mem hil)
        rw [hsn, List.length_append] at hle
        generalize l.getD i (0, 0, 0, 0) = c at hg hsn hle b1 b2 b3 b4 b5 b6 b7
        obtain ⟨A, AN, B, BN⟩ := c
        simp only at b1 b2 b3 b4 b5 b6 b7
        unfold rcsC at hle hsn
        simp only [List.length_append] at hle hsn
        obtain ⟨B, rfl⟩ := Int.eq_ofNat_of_zero_le b3.1
        obtain ⟨BN, rfl⟩ := Int.eq_ofNat_of_zero_le b4.1
        have rB : List.drop B (List.take ((B : Int) + (BN : Int)).toNat (strRows b)) = strRows (part b B BN) := by
          rw [show ((B : Int) + (BN : Int)).toNat = B + BN by omega, part_rows]
        have pB := part_len b B BN
        have pF := part_flat b B BN
        have g1 := itoa_len (n := A + 1) (by omega)
        have g2 := itoa_len (n := AN) (by omega)
        have g3 := itoa_len (n := A + AN) (by omega)
        have g4 := itoa_len (n := (BN : Int)) (by omega)
        by_cases hzA : 0 < AN
        · rw [rcsA, if_pos hzA] at hle hsn
          by_cases hzB : (0 : Int) < BN
          · rw [rcsB, if_pos hzB] at hle hsn
            simp only [List.length_append, List.length_cons, List.length_nil, Int.toNat_natCast] at hle
            simp -dsimp -implicitDefEqProofs only [hg, hi3, q4Row, q4Rows_len, CItoa, CJoin, gWS, bldT, unStr_rows, strRows_len, strRows_all, rB, part_rows, hzA, hzB, List.length_append, Ev.St.giveC, ↓Ev.P, Ev.Q, Bool.cond_true, Bool.cond_false, eq_self, forall_eq_or_imp, implies_true, forall_const, forall_eq, ↓reduceIte, reduceIte, Nat.reduceEqDiff, Nat.reduceAdd, reduceCtorEq, Nat.reduceSub, Int.reduceToNat, Int.reduceLE, Int.reduceLT, Int.reduceNeg, Nat.reduceBEq, Nat.reduceMul, Nat.reduceLeDiff, Nat.reduceMod, UInt8.reduceOfNat, Nat.reduceLT, Int.reduceEq, Int.reduceAdd, Int.reduceSub, Int.reduceMul]
            repeat' (first | with_reducible assumption | refine And.intro ?_ ?_ | intro _ | (rw [Ev.xStp_eq]; simp -dsimp -implicitDefEqProofs only [hg, hi3, q4Row, q4Rows_len, CItoa, CJoin, gWS, bldT, unStr_rows, strRows_len, strRows_all, rB, part_rows, hzA, hzB, List.length_append, Ev.St.giveC, ↓Ev.P, Ev.Q, Bool.cond_true, Bool.cond_false, eq_self, forall_eq_or_imp, implies_true, forall_const, forall_eq, ↓reduceIte, reduceIte, Nat.reduceEqDiff, Nat.reduceAdd, reduceCtorEq, Nat.reduceSub, Int.reduceToNat, Int.reduceLE, Int.reduceLT, Int.reduceNeg, Nat.reduceBEq, Nat.reduceMul, Nat.reduceLeDiff, Nat.reduceMod, UInt8.reduceOfNat, Nat.reduceLT, Int.reduceEq, Int.reduceAdd, Int.reduceSub, Int.reduceMul]))
            all_goals try omega
            refine xAgain_intro (l.length - (i + 1)) [0] (by omega) (by simp -dsimp -implicitDefEqProofs only [↓Ev.xStp_eq, ↓Ev.P, Ev.Q, Bool.cond_true, Bool.cond_false, eq_self, forall_eq_or_imp, implies_true, forall_const, forall_eq, ↓reduceIte, reduceIte, Nat.reduceEqDiff, Nat.reduceAdd, reduceCtorEq, Nat.reduceSub, Int.reduceToNat, Int.reduceLE, Int.reduceLT, Int.reduceNeg, Nat.reduceBEq, Nat.reduceMul, Nat.reduceLeDiff, Nat.reduceMod, UInt8.reduceOfNat, Nat.reduceLT, Int.reduceEq, Int.reduceAdd, Int.reduceSub, Int.reduceMul]) ⟨i + 1, by omega, rfl, ?_⟩
            rw [hsn]
            simp -dsimp -implicitDefEqProofs only [↓Ev.xStp_eq, ↓Ev.P, Ev.Q, Bool.cond_true, Bool.cond_false, eq_self, forall_eq_or_imp, implies_true, forall_const, forall_eq, ↓reduceIte, reduceIte, Nat.reduceEqDiff, Nat.reduceAdd, reduceCtorEq, Nat.reduceSub, Int.reduceToNat, Int.reduceLE, Int.reduceLT, Int.reduceNeg, Nat.reduceBEq, Nat.reduceMul, Nat.reduceLeDiff, Nat.reduceMod, UInt8.reduceOfNat, Nat.reduceLT, Int.reduceEq, Int.reduceAdd, Int.reduceSub, Int.reduceMul]
            simp [Nat.add_assoc]
          · rw [rcsB, if_neg hzB] at hle hsn
            simp only [List.length_append, List.length_cons, List.length_nil, Int.toNat_natCast] at hle
            simp -dsimp -implicitDefEqProofs only [hg, hi3, q4Row, q4Rows_len, CItoa, CJoin, gWS, bldT, unStr_rows, strRows_len, strRows_all, rB, part_rows, hzA, hzB, List.length_append, Ev.St.giveC, ↓Ev.P, Ev.Q, Bool.cond_true, Bool.cond_false, eq_self, forall_eq_or_imp, implies_true, forall_const, forall_eq, ↓reduceIte, reduceIte, Nat.reduceEqDiff, Nat.reduceAdd, reduceCtorEq, Nat.reduceSub, Int.reduceToNat, Int.reduceLE, Int.reduceLT, Int.reduceNeg, Nat.reduceBEq, Nat.reduceMul, Nat.reduceLeDiff, Nat.reduceMod, UInt8.reduceOfNat, Nat.reduceLT, Int.reduceEq, Int.reduceAdd, Int.reduceSub, Int.reduceMul]
            repeat' (first | with_reducible assumption | refine And.intro ?_ ?_ | intro _ | (rw [Ev.xStp_eq]; simp -dsimp -implicitDefEqProofs only [hg, hi3, q4Row, q4Rows_len, CItoa, CJoin, gWS, bldT, unStr_rows, strRows_len, strRows_all, rB, part_rows, hzA, hzB, List.length_append, Ev.St.giveC, ↓Ev.P, Ev.Q, Bool.cond_true, Bool.cond_false, eq_self, forall_eq_or_imp, implies_true, forall_const, forall_eq, ↓reduceIte, reduceIte, Nat.reduceEqDiff, Nat.reduceAdd, reduceCtorEq, Nat.reduceSub, Int.reduceToNat, Int.reduceLE, Int.reduceLT, Int.reduceNeg, Nat.reduceBEq, Nat.reduceMul, Nat.reduceLeDiff, Nat.reduceMod, UInt8.reduceOfNat, Nat.reduceLT, Int.reduceEq, Int.reduceAdd, Int.reduceSub, Int.reduceMul]))
            all_goals try omega
            refine xAgain_intro (l.length - (i + 1)) [0] (by omega) (by simp -dsimp -implicitDefEqProofs only [↓Ev.xStp_eq, ↓Ev.P, Ev.Q, Bool.cond_true, Bool.cond_false, eq_self, forall_eq_or_imp, implies_true, forall_const, forall_eq, ↓reduceIte, reduceIte, Nat.reduceEqDiff, Nat.reduceAdd, reduceCtorEq, Nat.reduceSub, Int.reduceToNat, Int.reduceLE, Int.reduceLT, Int.reduceNeg, Nat.reduceBEq, Nat.reduceMul, Nat.reduceLeDiff, Nat.reduceMod, UInt8.reduceOfNat, Nat.reduceLT, Int.reduceEq, Int.reduceAdd, Int.reduceSub, Int.reduceMul]) ⟨i + 1, by omega, rfl, ?_⟩
            rw [hsn]
            simp -dsimp -implicitDefEqProofs only [↓Ev.xStp_eq, ↓Ev.P, Ev.Q, Bool.cond_true, Bool.cond_false, eq_self, forall_eq_or_imp, implies_true, forall_const, forall_eq, ↓reduceIte, reduceIte, Nat.reduceEqDiff, Nat.reduceAdd, reduceCtorEq, Nat.reduceSub, Int.reduceToNat, Int.reduceLE, Int.reduceLT, Int.reduceNeg, Nat.reduceBEq, Nat.reduceMul, Nat.reduceLeDiff, Nat.reduceMod, UInt8.reduceOfNat, Nat.reduceLT, Int.reduceEq, Int.reduceAdd, Int.reduceSub, Int.reduceMul]
            simp [Nat.add_assoc]
        · rw [rcsA, if_neg hzA] at hle hsn
          by_cases hzB : (0 : Int) < BN
          · rw [rcsB, if_pos hzB] at hle hsn
            simp only [List.length_append, List.length_cons, List.length_nil, Int.toNat_natCast] at hle
            simp -dsimp -implicitDefEqProofs only [hg, hi3, q4Row, q4Rows_len, CItoa, CJoin, gWS, bldT, unStr_rows, strRows_len, strRows_all, rB, part_rows, hzA, hzB, List.length_append, Ev.St.giveC, ↓Ev.P, Ev.Q, Bool.cond_true, Bool.cond_false, eq_self, forall_eq_or_imp, implies_true, forall_const, forall_eq, ↓reduceIte, reduceIte, Nat.reduceEqDiff, Nat.reduceAdd, reduceCtorEq, Nat.reduceSub, Int.reduceToNat, Int.reduceLE, Int.reduceLT, Int.reduceNeg, Nat.reduceBEq, Nat.reduceMul, Nat.reduceLeDiff, Nat.reduceMod, UInt8.reduceOfNat, Nat.reduceLT, Int.reduceEq, Int.reduceAdd, Int.reduceSub, Int.reduceMul]
            repeat' (first | with_reducible assumption | refine And.intro ?_ ?_ | intro _ | (rw [Ev.xStp_eq]; simp -dsimp -implicitDefEqProofs only [hg, hi3, q4Row, q4Rows_len, CItoa, CJoin, gWS, bldT, unStr_rows, strRows_len, strRows_all, rB, part_rows, hzA, hzB, List.length_append, Ev.St.giveC, ↓Ev.P, Ev.Q, Bool.cond_true, Bool.cond_false, eq_self, forall_eq_or_imp, implies_true, forall_const, forall_eq, ↓reduceIte, reduceIte, Nat.reduceEqDiff, Nat.reduceAdd, reduceCtorEq, Nat.reduceSub, Int.reduceToNat, Int.reduceLE, Int.reduceLT, Int.reduceNeg, Nat.reduceBEq, Nat.reduceMul, Nat.reduceLeDiff, Nat.reduceMod, UInt8.reduceOfNat, Nat.reduceLT, Int.reduceEq, Int.reduceAdd, Int.reduceSub, Int.reduceMul]))
            all_goals try omega
            refine xAgain_intro (l.length - (i + 1)) [0] (by omega) (by simp -dsimp -implicitDefEqProofs only [↓Ev.xStp_eq, ↓Ev.P, Ev.Q, Bool.cond_true, Bool.cond_false, eq_self, forall_eq_or_imp, implies_true, forall_const, forall_eq, ↓reduceIte, reduceIte, Nat.reduceEqDiff, Nat.reduceAdd, reduceCtorEq, Nat.reduceSub, Int.reduceToNat, Int.reduceLE, Int.reduceLT, Int.reduceNeg, Nat.reduceBEq, Nat.reduceMul, Nat.reduceLeDiff, Nat.reduceMod, UInt8.reduceOfNat, Nat.reduceLT, Int.reduceEq, Int.reduceAdd, Int.reduceSub, Int.reduceMul]) ⟨i + 1, by omega, rfl, ?_⟩
            rw [hsn]
            simp -dsimp -implicitDefEqProofs only [↓Ev.xStp_eq, ↓Ev.P, Ev.Q, Bool.cond_true, Bool.cond_false, eq_self, forall_eq_or_imp, implies_true, forall_const, forall_eq, ↓reduceIte, reduceIte, Nat.reduceEqDiff, Nat.reduceAdd, reduceCtorEq, Nat.reduceSub, Int.reduceToNat, Int.reduceLE, Int.reduceLT, Int.reduceNeg, Nat.reduceBEq, Nat.reduceMul, Nat.reduceLeDiff, Nat.reduceMod, UInt8.reduceOfNat, Nat.reduceLT, Int.reduceEq, Int.reduceAdd, Int.reduceSub, Int.reduceMul]
            simp [Nat.add_assoc]
          · omega
      · have hi3 : ¬ (i : Int) < l.length := by omega
        simp -dsimp -implicitDefEqProofs only [hi3, q4Rows_len, ↓Ev.xStp_eq, ↓Ev.P, Ev.Q, Bool.cond_true, Bool.cond_false, eq_self, forall_eq_or_imp, implies_true, forall_const, forall_eq, ↓reduceIte, reduceIte, Nat.reduceEqDiff, Nat.reduceAdd, reduceCtorEq, Nat.reduceSub, Int.reduceToNat, Int.reduceLE, Int.reduceLT, Int.reduceNeg, Nat.reduceBEq, Nat.reduceMul, Nat.reduceLeDiff, Nat.reduceMod, UInt8.reduceOfNat, Nat.reduceLT, Int.reduceEq, Int.reduceAdd, Int.reduceSub, Int.reduceMul]
        rw [List.take_of_length_le (by omega)]
        exact hk
  · have hz' : ¬ (50 : Int) = 0 := by omega
    rw [if_neg (by rw [hz]; exact hz'), hz] at hk
    simp -dsimp -implicitDefEqProofs only [S9, S9_0, S9r1, S9_1, S9r2, S9_2, S9r3, S9_3, S9r4, S9_4, S9r5, R9, CCheck, unQ4_rows, strRows_len, q4Rows_len, hz, hz', ↓Ev.xStp_eq, ↓Ev.P, Ev.Q, Bool.cond_true, Bool.cond_false, eq_self, forall_eq_or_imp, implies_true, forall_const, forall_eq, ↓reduceIte, reduceIte, Nat.reduceEqDiff, Nat.reduceAdd, reduceCtorEq, Nat.reduceSub, Int.reduceToNat, Int.reduceLE, Int.reduceLT, Int.reduceNeg, Nat.reduceBEq, Nat.reduceMul, Nat.reduceLeDiff, Nat.reduceMod, UInt8.reduceOfNat, Nat.reduceLT, Int.reduceEq, Int.reduceAdd, Int.reduceSub, Int.reduceMul]
    exact ⟨by omega, hk⟩
end Go.Proofs.YtlghobefhmpfkaaDoor
set_option linter.unusedVariables false
set_option linter.unusedSimpArgs false
namespace Go.Proofs.YtlghobefhmpfkaaDoor
open Go Go.Ev Go.Rcs
set_option maxRecDepth 100000
variable {G : World → Prop}
theorem dig_of {c : UInt8} (h : 48 ≤ c.toNat ∧ c.toNat ≤ 57) : dig c = true := by simp only [dig, Bool.and_eq_true, decide_eq_true_eq]; omega
theorem digit_nat (k : Nat) (h : k < 10) : (UInt8.ofNat (48 + k)).toNat = 48 + k := by
  simp [UInt8.toNat_ofNat']; omega
theorem dec_all : ∀ u : Nat, (Lib.decDigits u).all dig = true := by
  intro u
  induction u using Nat.strongRecOn with
  | _ u ih =>
    by_cases h : u < 10
    · rw [dec_small h]
      simp only [List.all_cons, List.all_nil, Bool.and_true]
      exact dig_of (by rw [digit_nat _ (by omega)]; omega)
    · rw [dec_big h, List.all_append, ih (u / 10) (by omega)]
      simp only [List.all_cons, List.all_nil, Bool.and_true, Bool.true_and]
      exact dig_of (by rw [digit_nat _ (by omega)]; omega)
theorem dec_val : ∀ u : Nat, valT (Lib.decDigits u) = u := by
  intro u
  induction u using Nat.strongRecOn with
  | _ u ih =>
    by_cases h : u < 10
    · rw [dec_small h]
      simp only [valT, List.foldl_cons, List.foldl_nil]
      rw [digit_nat _ (by omega)]; omega
    · rw [dec_big h, val_app, ih (u / 10) (by omega), digit_nat _ (by omega)]; omega
theorem dec_ne (u : Nat) : Lib.decDigits u ≠ [] := by
  by_cases h : u < 10
  · rw [dec_small h]; simp
  · rw [dec_big h]; simp
theorem dec_head : ∀ u : Nat, 1 ≤ u → (Lib.decDigits u).getD 0 0 ≠ 48 := by
  intro u
  induction u using Nat.strongRecOn with
  | _ u ih =>
    intro h1
    by_cases h : u < 10
    · rw [dec_small h]
      simp only [List.getD_cons_zero]
      intro e
      have := congrArg UInt8.toNat e
      rw [digit_nat _ (by omega), show (48 : UInt8).toNat = 48 from rfl] at this
      omega
    · rw [dec_big h]
      have hi := ih (u / 10) (by omega) (by omega)
      cases e : Lib.decDigits (u / 10) with
      | nil => exact absurd e (dec_ne _)
      | cons c r => rw [e] at hi; exact hi
theorem dec_good (u : Nat) : ¬ badP (Lib.decDigits u) := by
  rintro (h | ⟨h1, h2⟩)
  · exact dec_ne u h
  · by_cases h : u < 10
    · rw [dec_small h] at h1; simp at h1
    · exact dec_head u (by omega) h2
/-- What was written is read again. -/
theorem parse_text (n : Int) : parseS (Lib.itoa n) = if n < 0 then (0, 3) else if 2147483647 < n then (0, 2) else (n, 0) := by
  unfold Lib.itoa
  by_cases h : n < 0
  · rw [if_pos h, if_pos h]
    unfold parseS
    by_cases hb : badP (45 :: Lib.decDigits n.natAbs)
    · rw [if_pos hb]
    · rw [if_neg hb, if_pos]
      rfl
  · rw [if_neg h, if_neg h]
    unfold parseS
    rw [if_neg (dec_good _), if_neg (by rw [dec_all]; decide), dec_val]
    by_cases k : 2147483647 < n
    · rw [if_pos k, if_pos (by omega)]
    · rw [if_neg k, if_neg (by omega)]
      congr 1
      omega
theorem okLine_feed (last : Bool) (p : List UInt8) (hp : ∀ c ∈ p, c ≠ 10) : okLine last (p ++ [10]) = true := by
  have h1 : (p ++ [10]).dropLast = p := List.dropLast_concat
  have h2 : (p ++ [10]).getLast? = some (10 : UInt8) := by simp
  have h3 : p.contains 10 = false := by
    rw [List.contains_eq_mem, decide_eq_false_iff_not]
    exact fun h => hp 10 h rfl
  rw [okLine, h1, h2, h3]
  simp
theorem okUp_iff (l : List (List UInt8)) : okUp l.length l = true ↔ ∀ i, i < l.length → okLine (decide (i + 1 = l.length)) (l.getD i []) = true := by
  rw [okUp, List.all_eq_true]
  simp only [List.mem_range]
theorem okUp_lns : ∀ (n : Nat) (s : List UInt8), s.length ≤ n → okUp (lns s).length (lns s) = true := by
  intro n
  induction n with
  | zero =>
    intro s hs
    obtain rfl : s = [] := List.length_eq_zero_iff.1 (by omega)
    rfl
  | succ n ih =>
    intro s hs
    rcases feed_or s with h | ⟨p, r, rfl, hp⟩
    · by_cases he : s = []
      · subst he; rfl
      · rw [lns_no s h he, okUp_iff]
        intro i hi
        simp only [List.length_singleton] at hi
        obtain rfl : i = 0 := by omega
        have h3 : s.dropLast.contains 10 = false := by
          rw [List.contains_eq_mem, decide_eq_false_iff_not]
          exact fun hm => h 10 ((List.dropLast_sublist _).subset hm) rfl
        simp [okLine, he, h3]
        exact fun hm => h 10 ((List.dropLast_sublist _).subset hm) rfl
    · simp only [List.length_append, List.length_cons] at hs
      have ih2 := (okUp_iff _).1 (ih r (by omega))
      rw [lns_pre p r hp, okUp_iff]
      intro i hi
      cases i with
      | zero => exact okLine_feed _ p hp
      | succ i =>
        simp only [List.length_cons] at hi ⊢
        rw [List.getD_cons_succ]
        have := ih2 i (by omega)
        simpa using this
theorem itoa_no (n : Nat) (hn : 1 ≤ n) : (∀ c ∈ Lib.itoa n, c ≠ 10) ∧ (∀ c ∈ Lib.itoa n, c ≠ 32) := by
  have e : Lib.itoa (n : Int) = Lib.decDigits n := by
    unfold Lib.itoa
    simp
  have ha := List.all_eq_true.1 (dec_all n)
  rw [e]
  refine ⟨fun c hc h => ?_, fun c hc h => ?_⟩
  · have := dig_nat (ha c hc); rw [h] at this; revert this; decide
  · have := dig_nat (ha c hc); rw [h] at this; revert this; decide
theorem p1 : parseS [49] = (1, 0) := by decide
theorem p0 : parseS [48] = (0, 0) := by decide
theorem cmd_line (v d : UInt8) (n : Nat) (hv : v = 97 ∨ v = 100) (hd : (parseS [d]).2 = 0) (hd2 : d ≠ 32) (hd3 : v = 97 ∨ 0 < (parseS [d]).1) (h1 : 1 ≤ n) (h2 : n ≤ 2147483647) : cmdOf ((v :: d :: 32 :: Lib.itoa n) ++ [10]) = some (v, (parseS [d]).1, (n : Int)) := by
  have hb : bareS ((v :: d :: 32 :: Lib.itoa n) ++ [10]) = (v :: d :: 32 :: Lib.itoa n, true) := by
    rw [bareS, if_pos List.getLast?_concat, List.dropLast_concat]
  have hp : parseS (Lib.itoa n) = ((n : Int), 0) := by rw [parse_text, if_neg (by omega), if_neg (by omega)]
  have hc : cutB (d :: 32 :: Lib.itoa n) = some ([d], Lib.itoa n) := by
    rw [cutB, if_neg hd2, cutB, if_pos rfl]; rfl
  rw [cmdOf, hb, if_pos rfl, rcmd, if_pos hv, hc]
  simp only [hp]
  rw [if_pos ⟨hd, trivial, by omega, hd3⟩]
theorem no_feed (v d : UInt8) (n : Nat) (hv : v ≠ 10) (hd : d ≠ 10) (h1 : 1 ≤ n) : ∀ c ∈ v :: d :: 32 :: Lib.itoa n, c ≠ 10 := by
  intro c hc
  simp only [List.mem_cons] at hc
  rcases hc with rfl | rfl | rfl | hc
  · exact hv
  · exact hd
  · decide
  · exact (itoa_no n h1).1 c hc
/-- No commands. -/
theorem run_none (a : List (List UInt8)) (ha : okUp a.length a = true) : rcsRun [] a = (a, 0, 0) := by
  have h0 : lns [] = [] := rfl
  rw [rcsRun, if_neg (by simp), h0]
  simp only [List.length_nil]
  rw [rcsGo, rcsEnd]
  simp only [List.nil_append, List.drop_zero]
  rw [if_pos ha]
/-- All lines out. -/
theorem run_out (a : List (List UInt8)) (h1 : 1 ≤ a.length) (h2 : a.length ≤ 1000) : rcsRun ((100 :: 49 :: 32 :: Lib.itoa a.length) ++ [10]) a = ([], 0, 0) := by
  have hlen := itoa_len (n := a.length) (by omega)
  have hl : lns ((100 :: 49 :: 32 :: Lib.itoa a.length) ++ [10]) = [(100 :: 49 :: 32 :: Lib.itoa a.length) ++ [10]] := by
    have := lns_pre (100 :: 49 :: 32 :: Lib.itoa a.length) [] (no_feed 100 49 a.length (by decide) (by decide) h1)
    simpa [lns] using this
  have hc := cmd_line 100 49 a.length (.inr rfl) (by rw [p1]) (by decide) (.inr (by rw [p1]; decide)) h1 (by omega)
  rw [p1] at hc
  rw [rcsRun, if_neg (by simp only [List.length_append, List.length_cons, List.length_nil]; omega), hl]
  simp only [List.length_singleton]
  have hal : alw 100 1 (a.length : Int) (a.length : Int) 0 (-1) = 0 := by
    rw [alw, if_pos rfl, if_neg (by decide), if_neg (by omega)]
  rw [rcsGo, List.getD_cons_zero, hc]
  dsimp only
  rw [Int.natCast_zero, hal, if_neg (by decide), if_pos rfl, rcsGo, rcsEnd]
  have e : (1 - 1 + (a.length : Int)).toNat = a.length := by omega
  have e2 : seg a 0 ((1 : Int) - 1).toNat = [] := by simp [seg]
  rw [e, e2, List.nil_append, List.drop_length]
  rfl
/-- All lines in. -/
theorem run_in (b : List UInt8) (h1 : 1 ≤ (lns b).length) (h2 : (lns b).length ≤ 1000) (h3 : b.length ≤ 100000) : rcsRun ((97 :: 48 :: 32 :: Lib.itoa (lns b).length) ++ 10 :: b) [] = (lns b, 0, 0) := by
  have hlen := itoa_len (n := (lns b).length) (by omega)
  have hl := lns_pre (97 :: 48 :: 32 :: Lib.itoa (lns b).length) b (no_feed 97 48 (lns b).length (by decide) (by decide) h1)
  have hc := cmd_line 97 48 (lns b).length (.inl rfl) (by rw [p0]) (by decide) (.inl rfl) h1 (by omega)
  rw [p0] at hc
  rw [rcsRun, if_neg (by simp only [List.length_append, List.length_cons]; omega), hl]
  simp only [List.length_cons]
  have hal : alw 97 0 ((lns b).length : Int) 0 0 (-1) = 0 := by
    rw [alw, if_neg (by decide), if_neg (by decide), if_neg (by decide)]
  have hok := okUp_lns b.length b (Nat.le_refl _)
  generalize lns b = L at *
  rw [rcsGo, List.getD_cons_zero, hc]
  dsimp only
  rw [List.length_nil, Int.natCast_zero, hal, if_neg (by decide), if_neg (by decide), if_neg (by simp only [List.length_cons]; omega), Int.toNat_natCast, Nat.sub_self, rcsGo, rcsEnd]
  have e2 : seg ([] : List (List UInt8)) 0 (0 : Int).toNat = [] := by simp [seg]
  have e3 : ∀ x : List UInt8, seg (x :: L) (0 + 1) (0 + 1 + L.length) = L := fun x => by
    unfold seg
    rw [List.take_of_length_le (by simp only [List.length_cons]; omega)]
    rfl
  rw [e2, e3]
  simp only [List.nil_append, List.drop_nil, List.append_nil]
  rw [if_pos hok]
theorem rcs_one (y : List (List UInt8)) (h : 1 ≤ y.length) : rcsT [(0, 0, 0, (y.length : Int))] y = (97 :: 48 :: 32 :: Lib.itoa y.length) ++ 10 :: y.flatten := by
  have h0 : Lib.itoa 0 = [48] := by unfold Lib.itoa; simp [Lib.decDigits]
  have hp : part y (0 : Int).toNat ((y.length : Nat) : Int).toNat = y := by simp [part]
  simp only [rcsT, rcsC, rcsA, rcsB, List.flatMap_cons, List.flatMap_nil, List.append_nil]
  rw [if_neg (by decide), if_pos (by omega), hp, show (0 : Int) + 0 = 0 from rfl, h0]
  simp
theorem chk_one (n : Nat) (h1 : 1 ≤ n) (h2 : n ≤ 1000) : chk [(0, 0, 0, (n : Int))] 0 n = 0 := by
  have hb : ¬ badC (0, 0, 0, (n : Int)) := by
    unfold badC cntB
    simp
    omega
  have ho : ¬ outC true 0 0 (0, 0, 0, (n : Int)) := by
    unfold outC
    simp
  rw [chk, chkL, if_neg hb, if_neg ho, chkL]
  dsimp only
  rw [if_neg (by omega)]
end Go.Proofs.YtlghobefhmpfkaaDoor
/- The compiled code of functions, by program (gen.py): each theorem says that the loaded program compiles to it. -/
set_option linter.unusedVariables false
namespace Go.Proofs.YtlghobefhmpfkaaDoor
open Go Go.Ev
set_option maxRecDepth 100000

/-! 3: redline/redlinelaw14.RcsfmtNothing -/
def A3 : Ann := ⟨fun r i => if r = 4 ∧ i = 5 then 1 else if r = 4 ∧ i = 10 then 1 else if r = 4 ∧ i = 12 then 1 else if r = 7 ∧ i = 5 then 1 else if r = 11 ∧ i = 4 then 1 else if r = 17 ∧ i = 4 then 1 else if r = 17 ∧ i = 15 then 1 else if r = 17 ∧ i = 16 then 1 else 0, fun _ => none, fun r => if r = 3 then some (false, [0, 1]) else if r = 4 then some (false, [0, 1, 5, 6]) else if r = 6 then some (false, [1, 5, 6]) else if r = 7 then some (false, [1, 5, 6, 7, 8]) else if r = 9 then some (false, [1, 5, 6]) else if r = 10 then some (false, [1, 5, 6]) else if r = 11 then some (false, [1, 6, 9, 10]) else if r = 13 then some (false, [1, 6]) else if r = 15 then some (false, [1, 6]) else if r = 16 then some (false, [1, 6, 8, 11]) else if r = 17 then some (false, [1, 6, 8, 11, 12, 13]) else none, fun _ => []⟩
def S3_0 : SCode :=
  (.ops [⟨none, (some 4), .mv 4 (.k (Value.bool false)), false⟩])
def S3_1 : SCode :=
  (.seq (.ops [⟨none, (some 14), .call (some 14) 4 false [], false⟩,
    ⟨none, (some 15), .not 15 (.s 14), false⟩])
  (.cond (.s 15) (.seq (.ops [⟨none, (some 4), .mv 4 (.k (Value.bool false)), false⟩])
  .ret) .skip))
def S3_2 : SCode :=
  (.seq (.keep [0, 1]) (.ops [⟨none, (some 16), .mv 16 (.s 0), false⟩,
    ⟨none, (some 17), .call (some 17) 5 false [(.s 16)], false⟩,
    ⟨none, (some 18), .mv 18 (.s 1), false⟩,
    ⟨none, (some 19), .call (some 19) 5 false [(.s 18)], false⟩,
    ⟨none, (some 5), .mv 5 (.s 17), false⟩,
    ⟨none, (some 6), .mv 6 (.s 19), false⟩]))
def S3_3 : SCode :=
  (.seq (.seq (.keep [0, 1, 5, 6]) (.ops [⟨none, (some 20), .mv 20 (.s 5), false⟩,
    ⟨none, (some 21), .len 21 (.s 20), false⟩,
    ⟨none, (some 22), .bin 22 .gtr (.s 21) (.k (Value.int .i64 1000)), false⟩,
    ⟨none, (some 23), .mv 23 (.s 22), false⟩,
    ⟨(some (23, false)), (some 24), .mv 24 (.s 6), false⟩,
    ⟨(some (23, false)), (some 25), .len 25 (.s 24), false⟩,
    ⟨(some (23, false)), (some 26), .bin 26 .gtr (.s 25) (.k (Value.int .i64 1000)), false⟩,
    ⟨none, (some 27), .pk 27 (.s 23) (.k (Value.bool true)) (.s 26), false⟩,
    ⟨none, (some 28), .mv 28 (.s 27), false⟩,
    ⟨(some (28, false)), (some 29), .mv 29 (.s 0), true⟩,
    ⟨(some (28, false)), (some 30), .lens 30 (.s 29), false⟩,
    ⟨(some (28, false)), (some 31), .mv 31 (.s 1), false⟩,
    ⟨(some (28, false)), (some 32), .lens 32 (.s 31), false⟩,
    ⟨(some (28, false)), (some 33), .binc 33 .add (.s 30) (.s 32), false⟩,
    ⟨(some (28, false)), (some 34), .bin 34 .gtr (.s 33) (.k (Value.int .i64 100000)), false⟩,
    ⟨none, (some 35), .pk 35 (.s 28) (.k (Value.bool true)) (.s 34), false⟩]))
  (.cond (.s 35) (.seq (.ops [⟨none, (some 4), .mv 4 (.k (Value.bool true)), false⟩])
  .ret) .skip))
def S3_4 : SCode :=
  (.seq (.keep [1, 5, 6]) (.ops [⟨none, (some 37), .mv 37 (.s 5), false⟩,
    ⟨none, (some 38), .call (some 38) 6 false [(.k (Value.string ⟨#[]⟩)), (.s 37)], false⟩,
    ⟨none, (some 36), .mv 36 (.s 38), false⟩,
    ⟨none, (some 39), .ex 39 (.s 36) 0, false⟩,
    ⟨none, (some 40), .ex 40 (.s 36) 1, false⟩,
    ⟨none, (some 7), .mv 7 (.s 39), false⟩,
    ⟨none, (some 8), .mv 8 (.s 40), false⟩]))
def S3_5 : SCode :=
  (.seq (.seq (.keep [1, 5, 6, 7, 8]) (.ops [⟨none, (some 41), .mv 41 (.s 8), false⟩,
    ⟨none, (some 42), .isnil 42 true true (.s 41), false⟩,
    ⟨none, (some 43), .mv 43 (.s 42), false⟩,
    ⟨(some (43, false)), (some 44), .mv 44 (.s 7), false⟩,
    ⟨(some (43, false)), (some 45), .mv 45 (.s 5), false⟩,
    ⟨(some (43, false)), (some 46), .call (some 46) 7 true [(.s 44), (.s 45)], false⟩,
    ⟨(some (43, false)), (some 47), .not 47 (.s 46), false⟩,
    ⟨none, (some 48), .pk 48 (.s 43) (.k (Value.bool true)) (.s 47), false⟩]))
  (.cond (.s 48) (.seq (.ops [⟨none, (some 4), .mv 4 (.k (Value.bool false)), false⟩])
  .ret) .skip))
def S3_6 : SCode :=
  (.seq (.seq (.keep [1, 5, 6]) (.ops [⟨none, (some 49), .mv 49 (.s 5), false⟩,
    ⟨none, (some 50), .len 50 (.s 49), false⟩,
    ⟨none, (some 51), .bin 51 .gtr (.s 50) (.k (Value.int .i64 0)), false⟩]))
  (.cond (.s 51) (.seq (.seq (.keep [1, 5, 6]) (.ops [⟨none, (some 53), .mv 53 (.s 5), false⟩,
    ⟨none, (some 54), .len 54 (.s 53), false⟩,
    ⟨none, (some 55), .call (some 55) 8 false [(.s 54)], false⟩,
    ⟨none, (some 56), .bin 56 .add (.k (Value.string ⟨#[100, 49, 32]⟩)) (.s 55), false⟩,
    ⟨none, (some 57), .bin 57 .add (.s 56) (.k (Value.string ⟨#[10]⟩)), false⟩,
    ⟨none, (some 58), .mv 58 (.s 5), false⟩,
    ⟨none, (some 59), .call (some 59) 6 false [(.s 57), (.s 58)], false⟩,
    ⟨none, (some 52), .mv 52 (.s 59), false⟩,
    ⟨none, (some 60), .ex 60 (.s 52) 0, false⟩,
    ⟨none, (some 61), .ex 61 (.s 52) 1, true⟩,
    ⟨none, (some 9), .mv 9 (.s 60), false⟩,
    ⟨none, (some 10), .mv 10 (.s 61), false⟩]))
  (.seq (.seq (.keep [1, 6, 9, 10]) (.ops [⟨none, (some 62), .mv 62 (.s 10), false⟩,
    ⟨none, (some 63), .isnil 63 true true (.s 62), false⟩,
    ⟨none, (some 64), .mv 64 (.s 63), false⟩,
    ⟨(some (64, false)), (some 65), .mv 65 (.s 9), false⟩,
    ⟨(some (64, false)), (some 66), .len 66 (.s 65), false⟩,
    ⟨(some (64, false)), (some 67), .bin 67 .neq (.s 66) (.k (Value.int .i64 0)), false⟩,
    ⟨none, (some 68), .pk 68 (.s 64) (.k (Value.bool true)) (.s 67), false⟩]))
  (.cond (.s 68) (.seq (.ops [⟨none, (some 4), .mv 4 (.k (Value.bool false)), false⟩])
  .ret) .skip))) .skip))
def S3_7 : SCode :=
  (.seq (.seq (.keep [1, 6]) (.ops [⟨none, (some 69), .mv 69 (.s 6), false⟩,
    ⟨none, (some 70), .len 70 (.s 69), false⟩,
    ⟨none, (some 71), .bin 71 .eql (.s 70) (.k (Value.int .i64 0)), false⟩]))
  (.cond (.s 71) (.seq (.ops [⟨none, (some 4), .mv 4 (.k (Value.bool true)), false⟩])
  .ret) .skip))
def S3_8 : SCode :=
  (.seq (.keep [1, 6]) (.ops [⟨none, (some 73), .mv 73 (.s 6), false⟩,
    ⟨none, (some 74), .len 74 (.s 73), false⟩,
    ⟨none, (some 75), .call (some 75) 8 false [(.s 74)], false⟩,
    ⟨none, (some 76), .bin 76 .add (.k (Value.string ⟨#[97, 48, 32]⟩)) (.s 75), false⟩,
    ⟨none, (some 77), .bin 77 .add (.s 76) (.k (Value.string ⟨#[10]⟩)), false⟩,
    ⟨none, (some 78), .mv 78 (.s 1), false⟩,
    ⟨none, (some 79), .bin 79 .add (.s 77) (.s 78), false⟩,
    ⟨none, (some 80), .call (some 80) 6 false [(.s 79), (.k (Value.slice none 0 0))], false⟩,
    ⟨none, (some 72), .mv 72 (.s 80), false⟩,
    ⟨none, (some 81), .ex 81 (.s 72) 0, true⟩,
    ⟨none, (some 82), .ex 82 (.s 72) 1, false⟩,
    ⟨none, (some 11), .mv 11 (.s 81), false⟩,
    ⟨none, (some 8), .mv 8 (.s 82), false⟩]))
def S3_9 : SCode :=
  (.seq (.keep [1, 6, 8, 11]) (.ops [⟨none, (some 84), .mv 84 (.s 6), false⟩,
    ⟨none, (some 85), .len 85 (.s 84), false⟩,
    ⟨none, (some 86), .bd 86 [(Value.int .i64 0), (Value.int .i64 0), (Value.int .i64 0), (Value.int .i64 0)] [(3, 1, (.s 85))], false⟩,
    ⟨none, (some 87), .bs 87 35 4 [(.s 86)], false⟩,
    ⟨none, (some 88), .mv 88 (.s 6), false⟩,
    ⟨none, (some 89), .call (some 89) 9 false [(.s 87), (.k (Value.slice none 0 0)), (.s 88)], false⟩,
    ⟨none, (some 83), .mv 83 (.s 89), false⟩,
    ⟨none, (some 90), .ex 90 (.s 83) 0, false⟩,
    ⟨none, (some 91), .ex 91 (.s 83) 1, false⟩,
    ⟨none, (some 12), .mv 12 (.s 90), true⟩,
    ⟨none, (some 13), .mv 13 (.s 91), false⟩]))
def S3_10 : SCode :=
  (.seq (.keep [1, 6, 8, 11, 12, 13]) (.ops [⟨none, (some 92), .mv 92 (.s 8), false⟩,
    ⟨none, (some 93), .isnil 93 false true (.s 92), false⟩,
    ⟨none, (some 94), .mv 94 (.s 93), false⟩,
    ⟨(some (94, true)), (some 95), .mv 95 (.s 11), false⟩,
    ⟨(some (94, true)), (some 96), .call (some 96) 10 true [(.s 95)], false⟩,
    ⟨(some (94, true)), (some 97), .mv 97 (.s 1), false⟩,
    ⟨(some (94, true)), (some 98), .bin 98 .eql (.s 96) (.s 97), false⟩,
    ⟨none, (some 99), .pk 99 (.s 94) (.s 98) (.k (Value.bool false)), false⟩,
    ⟨none, (some 100), .mv 100 (.s 99), false⟩,
    ⟨(some (100, true)), (some 101), .mv 101 (.s 13), true⟩,
    ⟨(some (100, true)), (some 102), .bin 102 .eql (.s 101) (.k (Value.int .i64 0)), false⟩,
    ⟨none, (some 103), .pk 103 (.s 100) (.s 102) (.k (Value.bool false)), false⟩,
    ⟨none, (some 104), .mv 104 (.s 103), false⟩,
    ⟨(some (104, true)), (some 105), .mv 105 (.s 12), false⟩,
    ⟨(some (104, true)), (some 106), .mv 106 (.s 6), false⟩,
    ⟨(some (104, true)), (some 107), .len 107 (.s 106), false⟩,
    ⟨(some (104, true)), (some 108), .call (some 108) 8 true [(.s 107)], false⟩,
    ⟨(some (104, true)), (some 109), .bin 109 .add (.k (Value.string ⟨#[97, 48, 32]⟩)) (.s 108), false⟩,
    ⟨(some (104, true)), (some 110), .bin 110 .add (.s 109) (.k (Value.string ⟨#[10]⟩)), false⟩,
    ⟨(some (104, true)), (some 111), .mv 111 (.s 1), true⟩,
    ⟨(some (104, true)), (some 112), .bin 112 .add (.s 110) (.s 111), false⟩,
    ⟨(some (104, true)), (some 113), .bin 113 .eql (.s 105) (.s 112), false⟩,
    ⟨none, (some 114), .pk 114 (.s 104) (.s 113) (.k (Value.bool false)), false⟩,
    ⟨none, (some 4), .mv 4 (.s 114), false⟩]))
def S3r11 : SCode := .ret
def S3r10 : SCode := .seq S3_10 S3r11
def S3r9 : SCode := .seq S3_9 S3r10
def S3r8 : SCode := .seq S3_8 S3r9
def S3r7 : SCode := .seq S3_7 S3r8
def S3r6 : SCode := .seq S3_6 S3r7
def S3r5 : SCode := .seq S3_5 S3r6
def S3r4 : SCode := .seq S3_4 S3r5
def S3r3 : SCode := .seq S3_3 S3r4
def S3r2 : SCode := .seq S3_2 S3r3
def S3r1 : SCode := .seq S3_1 S3r2
def S3 : SCode := .seq S3_0 S3r1
theorem cc3 : (Tryd.f3.body).bind (cc Tryd.prog Tryd.f3.ntmps A3) = some S3 := by kernel_rfl
def R3 : List RR := [.sl 4]
theorem cr3 : Tryd.f3.results.toList.map (crr Tryd.prog) = R3.map some := by kernel_rfl
theorem nm3 : (Tryd.f3.name == "runtime.NumGoroutine") = false := by kernel_rfl
theorem fn3 : Tryd.prog.funcs[3]? = some Tryd.f3 := by kernel_rfl
theorem bd3 : ∃ b, Tryd.f3.body = some b ∧ cc Tryd.prog Tryd.f3.ntmps A3 b = some S3 := Option.bind_eq_some_iff.1 cc3
theorem sd3 {G : World → Prop} {T : FuncId → Contract} {C : Contract} (hT : ∀ f, Sound G Tryd.prog f (T f)) (hl : C.lawful) (hC : ∀ args st K, C.wp args st K → args.length ≤ 115 ∧ ∃ os op, xv T st.n S3 (st0 args st) (retK R3 st.n os K) (panK st.n op K)) (hit : SoundIt G Tryd.prog 3 C.it := by exact SoundIt.none) : Sound G Tryd.prog 3 C := by
  obtain ⟨b, hb, hc⟩ := bd3
  rw [xv_eq] at hC
  exact sound_of_ev mo fn3 hb nm3 hc cr3 hT hl hit hC

/-! 4: redline/redlinelaw14.works -/
def A4 : Ann := ⟨fun r i => if r = 4 ∧ i = 12 then 1 else 0, fun _ => none, fun r => if r = 2 then some (false, [1]) else if r = 3 then some (false, [1, 2, 3]) else if r = 4 then some (false, [2, 3, 4, 5]) else none, fun _ => []⟩
def S4_0 : SCode :=
  (.ops [⟨none, (some 0), .mv 0 (.k (Value.bool false)), false⟩])
def S4_1 : SCode :=
  (.ops [⟨none, (some 6), .bs 6 9 1 [(.k (Value.string ⟨#[49, 10]⟩)), (.k (Value.string ⟨#[50, 10]⟩)), (.k (Value.string ⟨#[51, 10]⟩))], false⟩,
    ⟨none, (some 1), .mv 1 (.s 6), false⟩])
def S4_2 : SCode :=
  (.seq (.keep [1]) (.ops [⟨none, (some 8), .bd 8 [(Value.int .i64 0), (Value.int .i64 0), (Value.int .i64 0), (Value.int .i64 0)] [(0, 1, (.k (Value.int .i64 1))), (1, 1, (.k (Value.int .i64 2))), (2, 1, (.k (Value.int .i64 1))), (3, 1, (.k (Value.int .i64 2)))], false⟩,
    ⟨none, (some 9), .bs 9 35 4 [(.s 8)], false⟩,
    ⟨none, (some 10), .mv 10 (.s 1), false⟩,
    ⟨none, (some 11), .bs 11 9 1 [(.k (Value.string ⟨#[49, 10]⟩)), (.k (Value.string ⟨#[120, 10]⟩)), (.k (Value.string ⟨#[121, 10]⟩))], false⟩,
    ⟨none, (some 12), .call (some 12) 9 false [(.s 9), (.s 10), (.s 11)], false⟩,
    ⟨none, (some 7), .mv 7 (.s 12), false⟩,
    ⟨none, (some 13), .ex 13 (.s 7) 0, false⟩,
    ⟨none, (some 14), .ex 14 (.s 7) 1, false⟩,
    ⟨none, (some 2), .mv 2 (.s 13), false⟩,
    ⟨none, (some 3), .mv 3 (.s 14), true⟩]))
def S4_3 : SCode :=
  (.seq (.keep [1, 2, 3]) (.ops [⟨none, (some 16), .mv 16 (.s 2), false⟩,
    ⟨none, (some 17), .mv 17 (.s 1), false⟩,
    ⟨none, (some 18), .call (some 18) 6 false [(.s 16), (.s 17)], false⟩,
    ⟨none, (some 15), .mv 15 (.s 18), false⟩,
    ⟨none, (some 19), .ex 19 (.s 15) 0, false⟩,
    ⟨none, (some 20), .ex 20 (.s 15) 1, false⟩,
    ⟨none, (some 4), .mv 4 (.s 19), false⟩,
    ⟨none, (some 5), .mv 5 (.s 20), false⟩]))
def S4_4 : SCode :=
  (.seq (.keep [2, 3, 4, 5]) (.ops [⟨none, (some 21), .mv 21 (.s 3), false⟩,
    ⟨none, (some 22), .bin 22 .eql (.s 21) (.k (Value.int .i64 0)), false⟩,
    ⟨none, (some 23), .mv 23 (.s 22), false⟩,
    ⟨(some (23, true)), (some 24), .mv 24 (.s 2), false⟩,
    ⟨(some (23, true)), (some 25), .bin 25 .eql (.s 24) (.k (Value.string ⟨#[100, 50, 32, 50, 10, 97, 51, 32, 50, 10, 120, 10, 121, 10]⟩)), false⟩,
    ⟨none, (some 26), .pk 26 (.s 23) (.s 25) (.k (Value.bool false)), false⟩,
    ⟨none, (some 27), .mv 27 (.s 26), false⟩,
    ⟨(some (27, true)), (some 28), .mv 28 (.s 5), false⟩,
    ⟨(some (27, true)), (some 29), .isnil 29 false true (.s 28), false⟩,
    ⟨none, (some 30), .pk 30 (.s 27) (.s 29) (.k (Value.bool false)), true⟩,
    ⟨none, (some 31), .mv 31 (.s 30), false⟩,
    ⟨(some (31, true)), (some 32), .mv 32 (.s 4), false⟩,
    ⟨(some (31, true)), (some 33), .call (some 33) 10 true [(.s 32)], false⟩,
    ⟨(some (31, true)), (some 34), .bin 34 .eql (.s 33) (.k (Value.string ⟨#[49, 10, 120, 10, 121, 10]⟩)), false⟩,
    ⟨none, (some 35), .pk 35 (.s 31) (.s 34) (.k (Value.bool false)), false⟩,
    ⟨none, (some 0), .mv 0 (.s 35), false⟩]))
def S4r5 : SCode := .ret
def S4r4 : SCode := .seq S4_4 S4r5
def S4r3 : SCode := .seq S4_3 S4r4
def S4r2 : SCode := .seq S4_2 S4r3
def S4r1 : SCode := .seq S4_1 S4r2
def S4 : SCode := .seq S4_0 S4r1
theorem cc4 : (Tryd.f4.body).bind (cc Tryd.prog Tryd.f4.ntmps A4) = some S4 := by kernel_rfl
def R4 : List RR := [.sl 0]
theorem cr4 : Tryd.f4.results.toList.map (crr Tryd.prog) = R4.map some := by kernel_rfl
theorem nm4 : (Tryd.f4.name == "runtime.NumGoroutine") = false := by kernel_rfl
theorem fn4 : Tryd.prog.funcs[4]? = some Tryd.f4 := by kernel_rfl
theorem bd4 : ∃ b, Tryd.f4.body = some b ∧ cc Tryd.prog Tryd.f4.ntmps A4 b = some S4 := Option.bind_eq_some_iff.1 cc4
theorem sd4 {G : World → Prop} {T : FuncId → Contract} {C : Contract} (hT : ∀ f, Sound G Tryd.prog f (T f)) (hl : C.lawful) (hC : ∀ args st K, C.wp args st K → args.length ≤ 36 ∧ ∃ os op, xv T st.n S4 (st0 args st) (retK R4 st.n os K) (panK st.n op K)) (hit : SoundIt G Tryd.prog 4 C.it := by exact SoundIt.none) : Sound G Tryd.prog 4 C := by
  obtain ⟨b, hb, hc⟩ := bd4
  rw [xv_eq] at hC
  exact sound_of_ev mo fn4 hb nm4 hc cr4 hT hl hit hC

end Go.Proofs.YtlghobefhmpfkaaDoor
set_option linter.unusedVariables false
set_option linter.unusedSimpArgs false
namespace Go.Proofs.YtlghobefhmpfkaaDoor
open Go Go.Ev Go.Rcs
set_option maxRecDepth 100000
variable {G : World → Prop}
def wA : List (List UInt8) := [[49, 10], [50, 10], [51, 10]]
def wB : List (List UInt8) := [[49, 10], [120, 10], [121, 10]]
def wT : List UInt8 := [100, 50, 32, 50, 10, 97, 51, 32, 50, 10, 120, 10, 121, 10]
theorem wk_chk : chk [(1, 2, 1, 2)] wA.length wB.length = 0 := by decide
theorem itoa_dig (n : Nat) (h : n < 10) : Lib.itoa n = [UInt8.ofNat (48 + n)] := by
  have e : Lib.itoa (n : Int) = Lib.decDigits n := by unfold Lib.itoa; simp
  rw [e, dec_small h, Nat.mod_eq_of_lt h]
theorem wk_txt : rcsT [(1, 2, 1, 2)] wB = wT := by
  have h2 : Lib.itoa 2 = [50] := itoa_dig 2 (by omega)
  have h3 : Lib.itoa 3 = [51] := itoa_dig 3 (by omega)
  simp only [rcsT, rcsC, rcsA, rcsB, List.flatMap_cons, List.flatMap_nil, List.append_nil]
  rw [if_pos (by decide), if_pos (by decide), show (1 : Int) + 1 = 2 from rfl, show (1 : Int) + 2 = 3 from rfl, h2, h3]
  rfl
theorem wk_run : rcsRun wT wA = (wB, 0, 0) := by
  have hl : lns wT = [[100, 50, 32, 50, 10], [97, 51, 32, 50, 10], [120, 10], [121, 10]] := by decide
  have c1 : cmdOf [100, 50, 32, 50, 10] = some (100, 2, 2) := by decide
  have c2 : cmdOf [97, 51, 32, 50, 10] = some (97, 3, 2) := by decide
  rw [rcsRun, if_neg (by decide), hl]
  simp only [List.length_cons, List.length_nil]
  rw [rcsGo, List.getD_cons_zero, c1]
  dsimp only
  rw [if_neg (by decide), if_pos rfl, rcsGo, List.getD_cons_succ, List.getD_cons_zero, c2]
  dsimp only
  rw [if_neg (by decide), if_neg (by decide), if_neg (by decide), show 2 - (2 : Int).toNat = 0 from rfl, rcsGo, rcsEnd, if_pos (by decide)]
  rfl
theorem wA_len : ∀ x ∈ wA, x.length ≤ 1099511627776 := by decide
def CTrue0 : Contract := pureC fun args => match args with
  | [] => some (True, .d (.v (.bool true)))
  | _ => none
abbrev wkTab : List (FuncId × Contract) := [(9, CRcs), (6, CRun), (10, CJoin)]
set_option maxHeartbeats 4000000 in
theorem s4 (hG : ∀ w, G w → Pow10 w) (hE : ∀ w, G w → ErrR w) : Sound G Tryd.prog 4 CTrue0 := by
  refine sd4 (T := tabT wkTab) (tab_cons (s9 hG) (tab_cons (s6 hE) (tab_cons s10 tab_nil))) (pureC_lawful _) (pure_hX fun args p x K h hp hk => ?_)
  split at h <;> simp only [Option.some.injEq, Prod.mk.injEq, reduceCtorEq] at h
  obtain ⟨rfl, rfl⟩ := h
  refine ⟨Nat.le_of_ble_eq_true rfl, ?_⟩
  have u1 : unStr [[.v (.string ⟨#[49, 10]⟩)], [.v (.string ⟨#[50, 10]⟩)], [.v (.string ⟨#[51, 10]⟩)]] = some wA := unStr_rows wA
  have u2 : unStr [[.v (.string ⟨#[49, 10]⟩)], [.v (.string ⟨#[120, 10]⟩)], [.v (.string ⟨#[121, 10]⟩)]] = some wB := unStr_rows wB
  have u3 : unQ4 [[.v (.int .i64 1), .v (.int .i64 2), .v (.int .i64 1), .v (.int .i64 2)]] = some [(1, 2, 1, 2)] := unQ4_rows [(1, 2, 1, 2)]
  have e1 : (⟨#[100, 50, 32, 50, 10, 97, 51, 32, 50, 10, 120, 10, 121, 10]⟩ : ByteArray) = ⟨wT.toArray⟩ := rfl
  have e2 : (⟨#[49, 10, 120, 10, 121, 10]⟩ : ByteArray) = ⟨wB.flatten.toArray⟩ := rfl
  have hR : runR (rcsRun wT wA) = (.tup [.own 0, .d (.v .nilIface)], ⟨1, [(0, .row 9 1 (strRows wB))]⟩) := by rw [wk_run]; rfl
  simp -dsimp -implicitDefEqProofs only [S4, S4_0, S4r1, S4_1, S4r2, S4_2, S4r3, S4_3, S4r4, S4_4, S4r5, R4, CRcs, CRun, CJoin, u1, u2, u3, e1, e2, wk_chk, wk_txt, hR, unStr_rows, strRows_len, Ev.St.giveC, ↓Ev.P, Ev.Q, Bool.cond_true, Bool.cond_false, eq_self, forall_eq_or_imp, implies_true, forall_const, forall_eq, ↓reduceIte, reduceIte, Nat.reduceEqDiff, Nat.reduceAdd, reduceCtorEq, Nat.reduceSub, Int.reduceToNat, Int.reduceLE, Int.reduceLT, Int.reduceNeg, Nat.reduceBEq, Nat.reduceMul, Nat.reduceLeDiff, Nat.reduceMod, UInt8.reduceOfNat, Nat.reduceLT, Int.reduceEq, Int.reduceAdd, Int.reduceSub, Int.reduceMul]
  repeat' (first | with_reducible assumption | refine And.intro ?_ ?_ | intro _ | (rw [Ev.xStp_eq]; simp -dsimp -implicitDefEqProofs only [CRcs, CRun, CJoin, u1, u2, u3, e1, e2, wk_chk, wk_txt, hR, unStr_rows, strRows_len, Ev.St.giveC, ↓Ev.P, Ev.Q, Bool.cond_true, Bool.cond_false, eq_self, forall_eq_or_imp, implies_true, forall_const, forall_eq, ↓reduceIte, reduceIte, Nat.reduceEqDiff, Nat.reduceAdd, reduceCtorEq, Nat.reduceSub, Int.reduceToNat, Int.reduceLE, Int.reduceLT, Int.reduceNeg, Nat.reduceBEq, Nat.reduceMul, Nat.reduceLeDiff, Nat.reduceMod, UInt8.reduceOfNat, Nat.reduceLT, Int.reduceEq, Int.reduceAdd, Int.reduceSub, Int.reduceMul]))
  all_goals first | omega | decide | exact hk | (apply wA_len; assumption) | trace_state
end Go.Proofs.YtlghobefhmpfkaaDoor
set_option linter.unusedVariables false
set_option linter.unusedSimpArgs false
namespace Go.Proofs.YtlghobefhmpfkaaDoor
open Go Go.Ev Go.Rcs
set_option maxRecDepth 100000
variable {G : World → Prop}
def CLawN : Contract := pureC fun args => match args with
  | [.d (.v (.string a)), .d (.v (.string b))] => some (a.size ≤ 1099511627 ∧ b.size ≤ 1099511627, .d (.v (.bool true)))
  | _ => none
theorem lns_sz2 (s : List UInt8) (h : s.length ≤ 1099511627) : (lns s).length ≤ 1099511627 ∧ ∀ x ∈ lns s, x.length ≤ 1099511627776 := by
  refine ⟨Nat.le_trans (lns_len s) h, fun x hx => ?_⟩
  have h2 : x.length ≤ (lns s).flatten.length := by
    obtain ⟨a, b, e⟩ := List.append_of_mem hx
    rw [e]; simp; omega
  rw [lns_flat] at h2
  omega
theorem strRows_nil : strRows [] = [] := rfl
theorem nil_len : ∀ x ∈ ([] : List (List UInt8)), x.length ≤ 1099511627776 := by simp
abbrev ntTab : List (FuncId × Contract) := [(4, CTrue0), (5, CSplit), (6, CRun), (7, CSame), (8, CItoa), (9, CRcs), (10, CJoin)]
theorem runR_ok {y : Ans} {l : List (List UInt8)} (h : y = (l, 0, 0)) : runR y = (.tup [.own 0, .d (.v .nilIface)], ⟨1, [(0, .row 9 1 (strRows l))]⟩) := by rw [h]; rfl
set_option maxHeartbeats 8000000 in
theorem s3 (hG : ∀ w, G w → Pow10 w) (hE : ∀ w, G w → ErrR w) : Sound G Tryd.prog 3 CLawN := by
  refine sd3 (T := tabT ntTab) (tab_cons (s4 hG hE) (tab_cons s5 (tab_cons (s6 hE) (tab_cons s7 (tab_cons s8 (tab_cons (s9 hG) (tab_cons s10 tab_nil))))))) (pureC_lawful _) (pure_hX fun args p x K h hp hk => ?_)
  split at h <;> simp only [Option.some.injEq, Prod.mk.injEq, reduceCtorEq] at h
  obtain ⟨rfl, rfl⟩ := h
  rename_i a b
  obtain ⟨a, rfl⟩ := ex_str a
  obtain ⟨b, rfl⟩ := ex_str b
  simp only [sem_str] at hp
  obtain ⟨h1, h2⟩ := hp
  refine ⟨Nat.le_of_ble_eq_true rfl, ?_⟩
  obtain ⟨a1, a2⟩ := lns_sz2 a h1
  obtain ⟨b1, b2⟩ := lns_sz2 b h2
  have af := lns_flat a
  have bf := lns_flat b
  have ao := okUp_lns a.length a (Nat.le_refl _)
  have ri := fun k1 k2 k3 => run_in b k1 k2 k3
  have sa : ⟨(lns a).flatten.toArray⟩ = (⟨a.toArray⟩ : ByteArray) := by rw [af]
  generalize hX : lns a = X at *
  generalize hY : lns b = Y at *
  by_cases c1 : (1000 : Int) < (X.length : Int)
  · skip
    simp -dsimp -implicitDefEqProofs only [S3, S3_0, S3r1, S3_1, S3r2, S3_2, S3r3, S3_3, S3r4, S3_4, S3r5, S3_5, S3r6, S3_6, S3r7, S3_7, S3r8, S3_8, S3r9, S3_9, S3r10, S3_10, S3r11, R3, CTrue0, CSplit, CRun, CSame, CItoa, CRcs, CJoin, hX, hY, c1, unStr, unStr_rows, strRows_len, strRows_nil, Ev.St.giveC, ↓Ev.P, Ev.Q, Bool.cond_true, Bool.cond_false, eq_self, forall_eq_or_imp, implies_true, forall_const, forall_eq, ↓reduceIte, reduceIte, Nat.reduceEqDiff, Nat.reduceAdd, reduceCtorEq, Nat.reduceSub, Int.reduceToNat, Int.reduceLE, Int.reduceLT, Int.reduceNeg, Nat.reduceBEq, Nat.reduceMul, Nat.reduceLeDiff, Nat.reduceMod, UInt8.reduceOfNat, Nat.reduceLT, Int.reduceEq, Int.reduceAdd, Int.reduceSub, Int.reduceMul]
    repeat' (first | with_reducible assumption | refine And.intro ?_ ?_ | intro _ | (rw [Ev.xStp_eq]; simp -dsimp -implicitDefEqProofs only [CTrue0, CSplit, CRun, CSame, CItoa, CRcs, CJoin, hX, hY, c1, unStr, unStr_rows, strRows_len, strRows_nil, Ev.St.giveC, ↓Ev.P, Ev.Q, Bool.cond_true, Bool.cond_false, eq_self, forall_eq_or_imp, implies_true, forall_const, forall_eq, ↓reduceIte, reduceIte, Nat.reduceEqDiff, Nat.reduceAdd, reduceCtorEq, Nat.reduceSub, Int.reduceToNat, Int.reduceLE, Int.reduceLT, Int.reduceNeg, Nat.reduceBEq, Nat.reduceMul, Nat.reduceLeDiff, Nat.reduceMod, UInt8.reduceOfNat, Nat.reduceLT, Int.reduceEq, Int.reduceAdd, Int.reduceSub, Int.reduceMul]))
    all_goals first | omega | decide | exact hk | (apply a2; assumption) | (apply b2; assumption) | (apply nil_len; assumption) | skip
  by_cases c2 : (1000 : Int) < (Y.length : Int)
  · skip
    simp -dsimp -implicitDefEqProofs only [S3, S3_0, S3r1, S3_1, S3r2, S3_2, S3r3, S3_3, S3r4, S3_4, S3r5, S3_5, S3r6, S3_6, S3r7, S3_7, S3r8, S3_8, S3r9, S3_9, S3r10, S3_10, S3r11, R3, CTrue0, CSplit, CRun, CSame, CItoa, CRcs, CJoin, hX, hY, c1, c2, unStr, unStr_rows, strRows_len, strRows_nil, Ev.St.giveC, ↓Ev.P, Ev.Q, Bool.cond_true, Bool.cond_false, eq_self, forall_eq_or_imp, implies_true, forall_const, forall_eq, ↓reduceIte, reduceIte, Nat.reduceEqDiff, Nat.reduceAdd, reduceCtorEq, Nat.reduceSub, Int.reduceToNat, Int.reduceLE, Int.reduceLT, Int.reduceNeg, Nat.reduceBEq, Nat.reduceMul, Nat.reduceLeDiff, Nat.reduceMod, UInt8.reduceOfNat, Nat.reduceLT, Int.reduceEq, Int.reduceAdd, Int.reduceSub, Int.reduceMul]
    repeat' (first | with_reducible assumption | refine And.intro ?_ ?_ | intro _ | (rw [Ev.xStp_eq]; simp -dsimp -implicitDefEqProofs only [CTrue0, CSplit, CRun, CSame, CItoa, CRcs, CJoin, hX, hY, c1, c2, unStr, unStr_rows, strRows_len, strRows_nil, Ev.St.giveC, ↓Ev.P, Ev.Q, Bool.cond_true, Bool.cond_false, eq_self, forall_eq_or_imp, implies_true, forall_const, forall_eq, ↓reduceIte, reduceIte, Nat.reduceEqDiff, Nat.reduceAdd, reduceCtorEq, Nat.reduceSub, Int.reduceToNat, Int.reduceLE, Int.reduceLT, Int.reduceNeg, Nat.reduceBEq, Nat.reduceMul, Nat.reduceLeDiff, Nat.reduceMod, UInt8.reduceOfNat, Nat.reduceLT, Int.reduceEq, Int.reduceAdd, Int.reduceSub, Int.reduceMul]))
    all_goals first | omega | decide | exact hk | (apply a2; assumption) | (apply b2; assumption) | (apply nil_len; assumption) | skip
  by_cases c3 : (100000 : Int) < (a.length : Int) + (b.length : Int)
  · skip
    simp -dsimp -implicitDefEqProofs only [S3, S3_0, S3r1, S3_1, S3r2, S3_2, S3r3, S3_3, S3r4, S3_4, S3r5, S3_5, S3r6, S3_6, S3r7, S3_7, S3r8, S3_8, S3r9, S3_9, S3r10, S3_10, S3r11, R3, CTrue0, CSplit, CRun, CSame, CItoa, CRcs, CJoin, hX, hY, c1, c2, c3, unStr, unStr_rows, strRows_len, strRows_nil, Ev.St.giveC, ↓Ev.P, Ev.Q, Bool.cond_true, Bool.cond_false, eq_self, forall_eq_or_imp, implies_true, forall_const, forall_eq, ↓reduceIte, reduceIte, Nat.reduceEqDiff, Nat.reduceAdd, reduceCtorEq, Nat.reduceSub, Int.reduceToNat, Int.reduceLE, Int.reduceLT, Int.reduceNeg, Nat.reduceBEq, Nat.reduceMul, Nat.reduceLeDiff, Nat.reduceMod, UInt8.reduceOfNat, Nat.reduceLT, Int.reduceEq, Int.reduceAdd, Int.reduceSub, Int.reduceMul]
    repeat' (first | with_reducible assumption | refine And.intro ?_ ?_ | intro _ | (rw [Ev.xStp_eq]; simp -dsimp -implicitDefEqProofs only [CTrue0, CSplit, CRun, CSame, CItoa, CRcs, CJoin, hX, hY, c1, c2, c3, unStr, unStr_rows, strRows_len, strRows_nil, Ev.St.giveC, ↓Ev.P, Ev.Q, Bool.cond_true, Bool.cond_false, eq_self, forall_eq_or_imp, implies_true, forall_const, forall_eq, ↓reduceIte, reduceIte, Nat.reduceEqDiff, Nat.reduceAdd, reduceCtorEq, Nat.reduceSub, Int.reduceToNat, Int.reduceLE, Int.reduceLT, Int.reduceNeg, Nat.reduceBEq, Nat.reduceMul, Nat.reduceLeDiff, Nat.reduceMod, UInt8.reduceOfNat, Nat.reduceLT, Int.reduceEq, Int.reduceAdd, Int.reduceSub, Int.reduceMul]))
    all_goals first | omega | decide | exact hk | (apply a2; assumption) | (apply b2; assumption) | (apply nil_len; assumption) | skip
  have hR1 : runR (rcsRun [] X) = (.tup [.own 0, .d (.v .nilIface)], ⟨1, [(0, .row 9 1 (strRows X))]⟩) := runR_ok (run_none X ao)
  have i1 := itoa_len (n := X.length) (by omega)
  have i2 := itoa_len (n := Y.length) (by omega)
  by_cases x0 : (0 : Int) < (X.length : Int)
  · have hR2 : runR (rcsRun (100 :: 49 :: 32 :: (Lib.itoa X.length ++ [10])) X) = (.tup [.own 0, .d (.v .nilIface)], ⟨1, [(0, .row 9 1 [])]⟩) := runR_ok (run_out X (by omega) (by omega))
    by_cases y0 : (Y.length : Int) = 0
    · skip
      simp -dsimp -implicitDefEqProofs only [S3, S3_0, S3r1, S3_1, S3r2, S3_2, S3r3, S3_3, S3r4, S3_4, S3r5, S3_5, S3r6, S3_6, S3r7, S3_7, S3r8, S3_8, S3r9, S3_9, S3r10, S3_10, S3r11, R3, CTrue0, CSplit, CRun, CSame, CItoa, CRcs, CJoin, hX, hY, c1, c2, c3, hR1, x0, hR2, y0, List.length_append, unStr, unStr_rows, strRows_len, strRows_nil, Ev.St.giveC, ↓Ev.P, Ev.Q, Bool.cond_true, Bool.cond_false, eq_self, forall_eq_or_imp, implies_true, forall_const, forall_eq, ↓reduceIte, reduceIte, Nat.reduceEqDiff, Nat.reduceAdd, reduceCtorEq, Nat.reduceSub, Int.reduceToNat, Int.reduceLE, Int.reduceLT, Int.reduceNeg, Nat.reduceBEq, Nat.reduceMul, Nat.reduceLeDiff, Nat.reduceMod, UInt8.reduceOfNat, Nat.reduceLT, Int.reduceEq, Int.reduceAdd, Int.reduceSub, Int.reduceMul]
      repeat' (first | with_reducible assumption | refine And.intro ?_ ?_ | intro _ | (rw [Ev.xStp_eq]; simp -dsimp -implicitDefEqProofs only [CTrue0, CSplit, CRun, CSame, CItoa, CRcs, CJoin, hX, hY, c1, c2, c3, hR1, x0, hR2, y0, List.length_append, unStr, unStr_rows, strRows_len, strRows_nil, Ev.St.giveC, ↓Ev.P, Ev.Q, Bool.cond_true, Bool.cond_false, eq_self, forall_eq_or_imp, implies_true, forall_const, forall_eq, ↓reduceIte, reduceIte, Nat.reduceEqDiff, Nat.reduceAdd, reduceCtorEq, Nat.reduceSub, Int.reduceToNat, Int.reduceLE, Int.reduceLT, Int.reduceNeg, Nat.reduceBEq, Nat.reduceMul, Nat.reduceLeDiff, Nat.reduceMod, UInt8.reduceOfNat, Nat.reduceLT, Int.reduceEq, Int.reduceAdd, Int.reduceSub, Int.reduceMul]))
      all_goals first | omega | decide | exact hk | (apply a2; assumption) | (apply b2; assumption) | (apply nil_len; assumption) | skip
    · have hR3 : runR (rcsRun (97 :: 48 :: 32 :: (Lib.itoa Y.length ++ 10 :: b)) []) = (.tup [.own 0, .d (.v .nilIface)], ⟨1, [(0, .row 9 1 (strRows Y))]⟩) := runR_ok (ri (by omega) (by omega) (by omega))
      have u3 : unQ4 [[.v (.int .i64 0), .v (.int .i64 0), .v (.int .i64 0), .v (.int .i64 (Y.length : Int))]] = some [(0, 0, 0, (Y.length : Int))] := unQ4_rows [(0, 0, 0, (Y.length : Int))]
      have hc := chk_one Y.length (by omega) (by omega)
      have ht := rcs_one Y (by omega)
      rw [bf, List.cons_append, List.cons_append, List.cons_append] at ht
      simp -dsimp -implicitDefEqProofs only [S3, S3_0, S3r1, S3_1, S3r2, S3_2, S3r3, S3_3, S3r4, S3_4, S3r5, S3_5, S3r6, S3_6, S3r7, S3_7, S3r8, S3_8, S3r9, S3_9, S3r10, S3_10, S3r11, R3, CTrue0, CSplit, CRun, CSame, CItoa, CRcs, CJoin, hX, hY, c1, c2, c3, hR1, x0, hR2, y0, hR3, u3, hc, ht, bf, List.length_append, List.length_cons, List.append_assoc, List.cons_append, List.nil_append, unStr, unStr_rows, strRows_len, strRows_nil, Ev.St.giveC, ↓Ev.P, Ev.Q, Bool.cond_true, Bool.cond_false, eq_self, forall_eq_or_imp, implies_true, forall_const, forall_eq, ↓reduceIte, reduceIte, Nat.reduceEqDiff, Nat.reduceAdd, reduceCtorEq, Nat.reduceSub, Int.reduceToNat, Int.reduceLE, Int.reduceLT, Int.reduceNeg, Nat.reduceBEq, Nat.reduceMul, Nat.reduceLeDiff, Nat.reduceMod, UInt8.reduceOfNat, Nat.reduceLT, Int.reduceEq, Int.reduceAdd, Int.reduceSub, Int.reduceMul]
      repeat' (first | with_reducible assumption | refine And.intro ?_ ?_ | intro _ | (rw [Ev.xStp_eq]; simp -dsimp -implicitDefEqProofs only [CTrue0, CSplit, CRun, CSame, CItoa, CRcs, CJoin, hX, hY, c1, c2, c3, hR1, x0, hR2, y0, hR3, u3, hc, ht, bf, List.length_append, List.length_cons, List.append_assoc, List.cons_append, List.nil_append, unStr, unStr_rows, strRows_len, strRows_nil, Ev.St.giveC, ↓Ev.P, Ev.Q, Bool.cond_true, Bool.cond_false, eq_self, forall_eq_or_imp, implies_true, forall_const, forall_eq, ↓reduceIte, reduceIte, Nat.reduceEqDiff, Nat.reduceAdd, reduceCtorEq, Nat.reduceSub, Int.reduceToNat, Int.reduceLE, Int.reduceLT, Int.reduceNeg, Nat.reduceBEq, Nat.reduceMul, Nat.reduceLeDiff, Nat.reduceMod, UInt8.reduceOfNat, Nat.reduceLT, Int.reduceEq, Int.reduceAdd, Int.reduceSub, Int.reduceMul]))
      all_goals first | omega | decide | exact hk | (apply a2; assumption) | (apply b2; assumption) | (apply nil_len; assumption) | skip
      all_goals trace_state
  · skip
    by_cases y0 : (Y.length : Int) = 0
    · skip
      simp -dsimp -implicitDefEqProofs only [S3, S3_0, S3r1, S3_1, S3r2, S3_2, S3r3, S3_3, S3r4, S3_4, S3r5, S3_5, S3r6, S3_6, S3r7, S3_7, S3r8, S3_8, S3r9, S3_9, S3r10, S3_10, S3r11, R3, CTrue0, CSplit, CRun, CSame, CItoa, CRcs, CJoin, hX, hY, c1, c2, c3, hR1, x0, y0, List.length_append, unStr, unStr_rows, strRows_len, strRows_nil, Ev.St.giveC, ↓Ev.P, Ev.Q, Bool.cond_true, Bool.cond_false, eq_self, forall_eq_or_imp, implies_true, forall_const, forall_eq, ↓reduceIte, reduceIte, Nat.reduceEqDiff, Nat.reduceAdd, reduceCtorEq, Nat.reduceSub, Int.reduceToNat, Int.reduceLE, Int.reduceLT, Int.reduceNeg, Nat.reduceBEq, Nat.reduceMul, Nat.reduceLeDiff, Nat.reduceMod, UInt8.reduceOfNat, Nat.reduceLT, Int.reduceEq, Int.reduceAdd, Int.reduceSub, Int.reduceMul]
      repeat' (first | with_reducible assumption | refine And.intro ?_ ?_ | intro _ | (rw [Ev.xStp_eq]; simp -dsimp -implicitDefEqProofs only [CTrue0, CSplit, CRun, CSame, CItoa, CRcs, CJoin, hX, hY, c1, c2, c3, hR1, x0, y0, List.length_append, unStr, unStr_rows, strRows_len, strRows_nil, Ev.St.giveC, ↓Ev.P, Ev.Q, Bool.cond_true, Bool.cond_false, eq_self, forall_eq_or_imp, implies_true, forall_const, forall_eq, ↓reduceIte, reduceIte, Nat.reduceEqDiff, Nat.reduceAdd, reduceCtorEq, Nat.reduceSub, Int.reduceToNat, Int.reduceLE, Int.reduceLT, Int.reduceNeg, Nat.reduceBEq, Nat.reduceMul, Nat.reduceLeDiff, Nat.reduceMod, UInt8.reduceOfNat, Nat.reduceLT, Int.reduceEq, Int.reduceAdd, Int.reduceSub, Int.reduceMul]))
      all_goals first | omega | decide | exact hk | (apply a2; assumption) | (apply b2; assumption) | (apply nil_len; assumption) | skip
    · have hR3 : runR (rcsRun (97 :: 48 :: 32 :: (Lib.itoa Y.length ++ 10 :: b)) []) = (.tup [.own 0, .d (.v .nilIface)], ⟨1, [(0, .row 9 1 (strRows Y))]⟩) := runR_ok (ri (by omega) (by omega) (by omega))
      have u3 : unQ4 [[.v (.int .i64 0), .v (.int .i64 0), .v (.int .i64 0), .v (.int .i64 (Y.length : Int))]] = some [(0, 0, 0, (Y.length : Int))] := unQ4_rows [(0, 0, 0, (Y.length : Int))]
      have hc := chk_one Y.length (by omega) (by omega)
      have ht := rcs_one Y (by omega)
      rw [bf, List.cons_append, List.cons_append, List.cons_append] at ht
      simp -dsimp -implicitDefEqProofs only [S3, S3_0, S3r1, S3_1, S3r2, S3_2, S3r3, S3_3, S3r4, S3_4, S3r5, S3_5, S3r6, S3_6, S3r7, S3_7, S3r8, S3_8, S3r9, S3_9, S3r10, S3_10, S3r11, R3, CTrue0, CSplit, CRun, CSame, CItoa, CRcs, CJoin, hX, hY, c1, c2, c3, hR1, x0, y0, hR3, u3, hc, ht, bf, List.length_append, List.length_cons, List.append_assoc, List.cons_append, List.nil_append, unStr, unStr_rows, strRows_len, strRows_nil, Ev.St.giveC, ↓Ev.P, Ev.Q, Bool.cond_true, Bool.cond_false, eq_self, forall_eq_or_imp, implies_true, forall_const, forall_eq, ↓reduceIte, reduceIte, Nat.reduceEqDiff, Nat.reduceAdd, reduceCtorEq, Nat.reduceSub, Int.reduceToNat, Int.reduceLE, Int.reduceLT, Int.reduceNeg, Nat.reduceBEq, Nat.reduceMul, Nat.reduceLeDiff, Nat.reduceMod, UInt8.reduceOfNat, Nat.reduceLT, Int.reduceEq, Int.reduceAdd, Int.reduceSub, Int.reduceMul]
      repeat' (first | with_reducible assumption | refine And.intro ?_ ?_ | intro _ | (rw [Ev.xStp_eq]; simp -dsimp -implicitDefEqProofs only [CTrue0, CSplit, CRun, CSame, CItoa, CRcs, CJoin, hX, hY, c1, c2, c3, hR1, x0, y0, hR3, u3, hc, ht, bf, List.length_append, List.length_cons, List.append_assoc, List.cons_append, List.nil_append, unStr, unStr_rows, strRows_len, strRows_nil, Ev.St.giveC, ↓Ev.P, Ev.Q, Bool.cond_true, Bool.cond_false, eq_self, forall_eq_or_imp, implies_true, forall_const, forall_eq, ↓reduceIte, reduceIte, Nat.reduceEqDiff, Nat.reduceAdd, reduceCtorEq, Nat.reduceSub, Int.reduceToNat, Int.reduceLE, Int.reduceLT, Int.reduceNeg, Nat.reduceBEq, Nat.reduceMul, Nat.reduceLeDiff, Nat.reduceMod, UInt8.reduceOfNat, Nat.reduceLT, Int.reduceEq, Int.reduceAdd, Int.reduceSub, Int.reduceMul]))
      all_goals first | omega | decide | exact hk | (apply a2; assumption) | (apply b2; assumption) | (apply nil_len; assumption) | skip
      all_goals trace_state
end Go.Proofs.YtlghobefhmpfkaaDoor
set_option linter.unusedVariables false
set_option linter.unusedSimpArgs false
namespace Go.Proofs.YtlghobefhmpfkaaDoor
open Go Go.Ev
open Go.ChangeShapes Go.WideShapes Go.ChangeAt Go.RowKit
set_option maxRecDepth 100000
variable {H : Type} {enc : TypeId × Value → H}
theorem bulk_app : ∀ a b : List (DataW H), Rows.uptoBulkAll (a ++ b) = Rows.uptoBulkAll a + Rows.uptoBulkAll b
  | [], b => by simp [Rows.uptoBulkAll]
  | x :: r, b => by rw [List.cons_append, Rows.uptoBulkAll, Rows.uptoBulkAll, bulk_app r b]; omega
theorem bulk_strs : ∀ l : List ByteArray, (l.map fun s => s.data.toList.length + 1).sum = Rows.uptoBulkAll (strs l : List (DataW H))
  | [] => by simp [strs, Rows.uptoBulkAll]
  | s :: r => by
    have := bulk_strs r
    simp only [strs, List.map_cons, List.sum_cons, Rows.uptoBulkAll, Rows.uptoBulk] at this ⊢
    omega
theorem arr_eta (b : ByteArray) : (⟨b.data.toList.toArray⟩ : ByteArray) = b := by cases b; simp
theorem okWide_spot {P : Program} {w : World} {r : Reach} {b : Nat} {t e : TypeId} {a : Addr} {len cap : Nat} (ht : P.underlying t = some (.slice e)) (h : Value.okWide P w r b t (.slice (some a) len cap)) : a.spot = none := by
  simp only [Value.okWide, ht, Cell.okWide, Cell.ok, World.has] at h
  simp_all
theorem openStr {b0 : Nat} {W : World} {c : Rdr} {t e : TypeId} {v : Value} {d : DataW H} {p : List MemPlace} {m : Nat → Value} (hc : ∀ a u, W.cell? a = some u → (∀ z, u ≠ .int .u64 z) → c a u)
    (ht : Tryd.prog.underlying t = some (.slice e)) (he : Tryd.prog.underlying e = some .string) (h1 : Tryd.prog.cellsOf e = 1)
    (hv : Value.okWide Tryd.prog W .any b0 t v) (h : DataW.Trod enc Tryd.prog W 0 (fun _ => true) true t v d p) :
    ∃ l : List (List UInt8), Cn m 0 c (.d (.sl (strRows l))) v ∧ (l.map fun s => s.length + 1).sum + 1 ≤ Rows.uptoBulk d := by
  obtain ⟨a0, len, cap, rfl⟩ := okWide_slice ht hv
  obtain ⟨fuel, hf⟩ := h
  rcases open_strings ht he h1 hf with ⟨hcs, hx⟩ | ⟨a, len', cap', ss, hcs, _, hl, hm, hz, hx, hcell, hws⟩
  · simp [Value.cells] at hcs
    obtain ⟨rfl, rfl, rfl⟩ := hcs
    simp only [Prod.mk.injEq] at hx
    obtain ⟨rfl, rfl⟩ := hx
    exact ⟨[], by simp [Cn, Rd, strRows], by simp [Rows.uptoBulk]⟩
  · simp [Value.cells] at hcs
    obtain ⟨rfl, rfl, rfl⟩ := hcs
    simp only [Prod.mk.injEq] at hx
    obtain ⟨rfl, rfl⟩ := hx
    simp only [if_true] at hz
    have hM : maxLen = 9223372036854775807 := by decide
    refine ⟨(ss.take len).map fun s => s.data.toList, ?_, ?_⟩
    · simp only [Cn, Rd]
      refine ⟨some a, cap, by rw [strRows_len]; simp; omega, by rw [strRows_len]; simp; omega, by rw [strRows_len]; simp; omega, .inr ⟨a, 1, rfl, okWide_spot ht hv, rdStr fun i hi => ?_⟩⟩
      simp only [List.length_map, List.length_take] at hi
      rw [Nat.zero_add]
      refine hc _ _ ?_ (fun z e => by cases e)
      rw [hcell i (by omega)]
      congr 2
      simp [List.getD_eq_getElem?_getD, List.getElem?_map, List.getElem?_take_of_lt (show i < len by omega), List.getElem?_eq_getElem (show i < ss.length by omega)]
    · have := bulk_strs (H := H) (ss.take len)
      simp only [Rows.uptoBulk, List.map_map, Function.comp_def]
      omega
end Go.Proofs.YtlghobefhmpfkaaDoor
set_option linter.unusedVariables false
set_option linter.unusedSimpArgs false
namespace Go.Proofs.YtlghobefhmpfkaaDoor
open Go Go.Ev
open Go.ChangeShapes Go.WideShapes Go.ChangeAt Go.RowKit
set_option maxRecDepth 100000
variable {H : Type} {enc : TypeId × Value → H}
theorem cells_q4 {c : Rdr} {W : World} {a : Addr} {k : Nat} {q : Q4} (hc : ∀ a u, W.cell? a = some u → (∀ z, u ≠ .int .u64 z) → c a u)
    (h0 : W.cell? (a.add k) = some (.int .i64 q.1)) (h1 : W.cell? (a.add (k + 1)) = some (.int .i64 q.2.1)) (h2 : W.cell? (a.add (k + 2)) = some (.int .i64 q.2.2.1)) (h3 : W.cell? (a.add (k + 3)) = some (.int .i64 q.2.2.2)) : RdCells c a k (q4Row q) := by
  simp only [q4Row, RdCells, Rd]
  exact ⟨⟨_, hc _ _ h0 (fun z e => by cases e), rfl, rfl⟩, ⟨_, hc _ _ h1 (fun z e => by cases e), rfl, rfl⟩, ⟨_, hc _ _ h2 (fun z e => by cases e), rfl, rfl⟩, ⟨_, hc _ _ h3 (fun z e => by cases e), rfl, rfl⟩, trivial⟩
open Go.Deep in
theorem openQ4 {b0 : Nat} {W : World} {c : Rdr} {t e : TypeId} {f0 f1 f2 f3 : Field} {v : Value} {d : DataW H} {p : List MemPlace} {m : Nat → Value} (hc : ∀ a u, W.cell? a = some u → (∀ z, u ≠ .int .u64 z) → c a u)
    (ht : Tryd.prog.underlying t = some (.slice e)) (he : Tryd.prog.underlying e = some (.struct #[f0, f1, f2, f3])) (hone : oneCellFields Tryd.prog #[f0, f1, f2, f3] = true) (h1 : Tryd.prog.cellsOf e = 4)
    (k0 : Tryd.prog.underlying f0.type = some (.int .i64)) (k1 : Tryd.prog.underlying f1.type = some (.int .i64)) (k2 : Tryd.prog.underlying f2.type = some (.int .i64)) (k3 : Tryd.prog.underlying f3.type = some (.int .i64))
    (hv : Value.okWide Tryd.prog W .any b0 t v) (h : DataW.Trod enc Tryd.prog W 0 (fun _ => true) true t v d p) :
    ∃ l : List Q4, Cn m 0 c (.d (.sl (q4Rows l))) v ∧ l.length + 1 ≤ Rows.uptoBulk d := by
  obtain ⟨a0, len, cap, rfl⟩ := okWide_slice ht hv
  obtain ⟨fuel, hf⟩ := h
  have hM : maxLen = 9223372036854775807 := by decide
  rcases open_slice ht hf with ⟨hcs, hx⟩ | ⟨a, len', cap', mm, n, D, Pl, hcs, _, hl, hm, hz, hx, hi⟩
  · simp [Value.cells] at hcs
    obtain ⟨rfl, rfl, rfl⟩ := hcs
    simp only [Prod.mk.injEq] at hx
    obtain ⟨rfl, rfl⟩ := hx
    exact ⟨[], by simp [Cn, Rd, q4Rows], by simp [Rows.uptoBulk]⟩
  · simp [Value.cells] at hcs
    obtain ⟨rfl, rfl, rfl⟩ := hcs
    simp only [Prod.mk.injEq] at hx
    obtain ⟨rfl, rfl⟩ := hx
    simp only [if_true] at hz
    subst hz
    have each : ∀ i, ∃ q : Q4, i < len → RdCells c a (i * 4) (q4Row q) := fun i => by
      by_cases him : i < len
      · obtain ⟨cs, hcc, htt⟩ := hi i (by omega)
        rw [h1] at hcc
        obtain ⟨ys, n', hn', hy, hlen, hyl, hff⟩ := DataW.trod_struct he htt
        obtain ⟨_, hcl, hat⟩ := World.cells?_some hcc
        have one : ∀ (j : Nat) (f : Field), (#[f0, f1, f2, f3])[j]? = some f → j < 4 → Tryd.prog.underlying f.type = some (.int .i64) → ∃ z, W.cell? (a.add (i * 4 + j)) = some (.int .i64 z) := fun j f hj hj4 hu => by
          obtain ⟨ho, hk⟩ := hone_of hone j f hj
          have h2 := hff j f hj
          rw [ho, hk, List.drop_eq_getElem_cons (by omega)] at h2
          have hys : ys[j]? = some (ys[j]'(by simp at hyl; omega)) := List.getElem?_eq_getElem _
          obtain ⟨z, hz, _, _⟩ := DataW.trod_int hu (h2.trans hys)
          simp only [List.take_succ_cons, List.take_zero, List.cons.injEq, and_true] at hz
          refine ⟨z, ?_⟩
          rw [← Go.Deep.add_add, hat j hj4, ← hz]
          exact List.getElem?_eq_getElem (by omega)
        obtain ⟨z0, e0⟩ := one 0 f0 rfl (by omega) k0
        obtain ⟨z1, e1⟩ := one 1 f1 rfl (by omega) k1
        obtain ⟨z2, e2⟩ := one 2 f2 rfl (by omega) k2
        obtain ⟨z3, e3⟩ := one 3 f3 rfl (by omega) k3
        exact ⟨(z0, z1, z2, z3), fun _ => cells_q4 hc e0 e1 e2 e3⟩
      · exact ⟨(0, 0, 0, 0), fun h => absurd h him⟩
    refine ⟨(List.range len).map fun i => Classical.choose (each i), ?_, ?_⟩
    · simp only [Cn, Rd]
      refine ⟨some a, mm, by rw [q4Rows_len]; simp, by rw [q4Rows_len]; simp; omega, by rw [q4Rows_len]; simp; omega, .inr ⟨a, 4, rfl, okWide_spot ht hv, rdQ4 fun i hi => ?_⟩⟩
      simp only [List.length_map, List.length_range] at hi
      rw [Nat.zero_add]
      have := Classical.choose_spec (each i) hi
      simpa [List.getD_eq_getElem?_getD, List.getElem?_map, List.getElem?_range hi] using this
    · have hbl : ∀ l : List (DataW H), l.length ≤ Rows.uptoBulkAll l := by
        intro l
        induction l with
        | nil => simp
        | cons x r ih =>
          have : 1 ≤ Rows.uptoBulk x := by
            cases x with
            | lit y => cases y <;> simp [Rows.uptoBulk]
            | _ => simp [Rows.uptoBulk]
          simp only [Rows.uptoBulkAll, List.length_cons]; omega
      have := hbl ((List.range len).map D)
      simp only [List.length_map, List.length_range] at this ⊢
      simp only [Rows.uptoBulk]
      omega
end Go.Proofs.YtlghobefhmpfkaaDoor
set_option linter.unusedVariables false
set_option linter.unusedSimpArgs false
namespace Go.Proofs.YtlghobefhmpfkaaDoor
open Go Go.Ev
open Go.ChangeShapes Go.WideShapes Go.ChangeAt Go.RowKit
open Go.ChangeMaps (open_string shut_string)
set_option maxRecDepth 100000
variable {H : Type} {enc : TypeId × Value → H}
/-! Laid variables: a table, two errors, a type. -/
theorem var_if {W : World} {name : String} {t : TypeId} {x : Value} (h : W.var? Tryd.prog name = some #[.iface t x]) {b : Nat} (hb : some b = Tryd.prog.globalNamed name) : b < W.heap.size ∧ ∀ (a : Addr) (u : Value), W.cell? a = some u → a.block = b → ∃ t x, u = .iface t x := by
  unfold World.var? at h
  rw [← hb] at h
  simp only [Option.bind_some] at h
  split at h
  · rename_i cs t f e
    refine ⟨(Array.getElem?_eq_some_iff.1 e).1, fun a u ha hab => ?_⟩
    unfold World.cell? at ha
    rw [hab, e] at ha
    simp only [Option.some.injEq] at h
    subst h
    simp only at ha
    split at ha
    · cases ha
    · have hm := Array.mem_of_getElem? ha
      simp only [List.mem_toArray, List.mem_singleton, List.mem_cons, List.not_mem_nil, or_false] at hm
      exact ⟨_, _, hm⟩
  · cases h
theorem var_keep {W W' : World} {name : String} {cs : Array Value} (h : W.var? Tryd.prog name = some cs) (hb : ∀ b, some b = Tryd.prog.globalNamed name → W'.heap[b]? = W.heap[b]?) : W'.var? Tryd.prog name = some cs := by
  unfold World.var? at h ⊢
  cases e : Tryd.prog.globalNamed name with
  | none => rw [e] at h; cases h
  | some g => rw [e] at h; simp only [Option.bind_some] at h ⊢; rw [hb g e.symm]; exact h
def GL (w : World) : Prop := Pow10 w ∧ ErrR w ∧ True
def hidL (b : Nat) : Prop := some b = Tryd.prog.globalNamed "internal/strconv.uint64pow10" ∨ some b = Tryd.prog.globalNamed "strconv.ErrRange"
noncomputable def HL : Hd GL := ⟨hidL, hidL, fun _ h => h, fun w w' h hb => by
  obtain ⟨h1, ⟨tp, p, h2⟩, h3⟩ := h
  exact ⟨HP.st w w' h1 fun b e => hb b (.inl e), ⟨tp, p, var_keep h2 fun b e => hb b (.inr e)⟩, trivial⟩, 0, []⟩
theorem HL_lt {W : World} (h : GL W) {b : Nat} (hb : HL b) : b < W.heap.size := by
  obtain ⟨h1, ⟨tp, p, h2⟩, h3⟩ := h
  rcases hb with hb | hb
  · exact HP_lt h1 hb
  · exact (var_if h2 hb).1
theorem HL_no {W : World} (h : GL W) {a : Addr} {u : Value} (ha : W.cell? a = some u) (k1 : ∀ z, u ≠ .int .u64 z) (k2 : ∀ t x, u ≠ .iface t x) : ¬ HL a.block := by
  obtain ⟨h1, ⟨tp, p, h2⟩, h3⟩ := h
  rintro (hb | hb)
  · exact HP_no h1 ha k1 hb
  · obtain ⟨t, x, e⟩ := (var_if h2 hb).2 a u ha rfl
    exact k2 t x e
theorem size_eq (s : ByteArray) : s.data.toList.length = s.size := by rw [Array.length_toList]; rfl
theorem len_bulk : ∀ l : List (List UInt8), l.length ≤ (l.map fun s => s.length + 1).sum ∧ ∀ s ∈ l, s.length ≤ (l.map fun s => s.length + 1).sum
  | [] => by simp
  | s :: r => by
    obtain ⟨h1, h2⟩ := len_bulk r
    simp only [List.map_cons, List.sum_cons, List.length_cons, List.forall_mem_cons]
    exact ⟨by omega, by omega, fun x hx => by have := h2 x hx; omega⟩
theorem openStr3 {b0 : Nat} {W : World} {c : Rdr} {t e : TypeId} {v : Value} {d : DataW H} {p : List MemPlace} {m : Nat → Value} (hc : ∀ a s, W.cell? a = some (.string s) → c a (.string s))
    (ht : Tryd.prog.underlying t = some (.slice e)) (he : Tryd.prog.underlying e = some .string) (h1 : Tryd.prog.cellsOf e = 1)
    (hv : Value.okWide Tryd.prog W .any b0 t v) (h : DataW.Trod enc Tryd.prog W 0 (fun _ => true) true t v d p) :
    ∃ l : List (List UInt8), Cn m 0 c (.d (.sl (strRows l))) v ∧ (l.map fun s => s.length + 1).sum + 1 ≤ Rows.uptoBulk d := by
  obtain ⟨a0, len, cap, rfl⟩ := okWide_slice ht hv
  obtain ⟨fuel, hf⟩ := h
  rcases open_strings ht he h1 hf with ⟨hcs, hx⟩ | ⟨a, len', cap', ss, hcs, _, hl, hm, hz, hx, hcell, hws⟩
  · simp [Value.cells] at hcs
    obtain ⟨rfl, rfl, rfl⟩ := hcs
    simp only [Prod.mk.injEq] at hx
    obtain ⟨rfl, rfl⟩ := hx
    exact ⟨[], by simp [Cn, Rd, strRows], by simp [Rows.uptoBulk]⟩
  · simp [Value.cells] at hcs
    obtain ⟨rfl, rfl, rfl⟩ := hcs
    simp only [Prod.mk.injEq] at hx
    obtain ⟨rfl, rfl⟩ := hx
    simp only [if_true] at hz
    have hM : maxLen = 9223372036854775807 := by decide
    refine ⟨(ss.take len).map fun s => s.data.toList, ?_, ?_⟩
    · simp only [Cn, Rd]
      refine ⟨some a, cap, by rw [strRows_len]; simp; omega, by rw [strRows_len]; simp; omega, by rw [strRows_len]; simp; omega, .inr ⟨a, 1, rfl, okWide_spot ht hv, rdStr fun i hi => ?_⟩⟩
      simp only [List.length_map, List.length_take] at hi
      rw [Nat.zero_add]
      refine hc _ _ ?_
      rw [hcell i (by omega)]
      congr 2
      simp [List.getD_eq_getElem?_getD, List.getElem?_map, List.getElem?_take_of_lt (show i < len by omega), List.getElem?_eq_getElem (show i < ss.length by omega)]
    · have := bulk_strs (H := H) (ss.take len)
      simp only [Rows.uptoBulk, List.map_map, Function.comp_def]
      omega
theorem own : ownKnob Tryd.prog.godebug = none := by kernel_rfl
theorem gTab : Tryd.prog.globalNamed "internal/strconv.uint64pow10" = some 5 := by kernel_rfl
theorem gTabType : (Tryd.prog.globals[5]?).map (·.type) = some 115 := by kernel_rfl
theorem starE : "*" ++ "errors.errorString" = "*errors.errorString" := by decide
theorem rowE (u : TypeId) (h : Tryd.prog.typeName? 3 u = some "*errors.errorString") : u = 120 :=
  typeName_ptr_named (nm := "errors.errorString") (by rw [starE]; kernel_rfl) (by kernel_rfl) (by decide) u (by rw [starE]; exact h)
theorem errR {W : World} {l : List (String × DataW Unit)} (h : laidMet Tryd.prog (("strconv.ErrRange", Rows.laid_strconv_ErrRange) :: l) W) : ErrR W := by
  obtain ⟨a, s, h3, _⟩ := laid_sentinel (g := 4) (ti := 26) (tp := 120) (te := 122) (ts := 9) h (by kernel_rfl) (by kernel_rfl) Tryd.underlying26 rowE Tryd.underlying120 Tryd.underlying122 rfl rfl Tryd.underlying9 (by kernel_rfl) (by kernel_rfl)
  exact ⟨_, _, h3⟩
theorem pow10 {W : World} {l : List (String × DataW Unit)} (h : laidMet Tryd.prog (("internal/strconv.uint64pow10", Rows.laid_internal_strconv_uint64pow10) :: l) W) : Pow10 W :=
  Lib.tabIs_of_head (n := 20) (e := 52) gTab gTabType (by kernel_rfl) (by kernel_rfl) (by kernel_rfl) (by kernel_rfl) h
def lits : List (DataW Unit) → List Value
  | [] => []
  | .lit (.int k z) :: r => Value.int k z :: lits r
  | .agg l :: r => (l.map fun x => match x with | .lit (.int k z) => Value.int k z | _ => undef) ++ lits r
  | _ :: r => lits r
def valsU : DataW Unit → Array Value
  | .agg l => (lits l).toArray
  | _ => #[]
def text : DataW Unit → ByteArray
  | .iface _ (.ptr (.agg [.lit (.string s)])) => ⟨s.toArray⟩
  | _ => ⟨#[]⟩
noncomputable def low (os : Os) : Nat := (World.holding Tryd.prog os ⟨#[], #[], []⟩).heap.size
def put (h : Array Obj) (g : Nat) (cs : Array Value) : Array Obj := h.modify g fun
    | .cells _ t frozen => .cells cs t frozen
    | o => o
noncomputable def laidWorld (os : Os) : World :=
  let w0 := World.holding Tryd.prog os ⟨#[.cells #[.string (text Rows.laid_strconv_ErrRange)] 122, .cells #[.string (text Rows.laid_strconv_ErrSyntax)] 122], #[], []⟩
  let h1 := put w0.heap 5 (valsU Rows.laid_internal_strconv_uint64pow10)
  let h2 := put h1 6 (valsU Rows.laid_math_bits_deBruijn32tab)
  let h3 := put h2 7 (valsU Rows.laid_math_bits_deBruijn64tab)
  let h4 := put h3 4 #[.iface 120 (.pointer (some ⟨low os, 0, none⟩))]
  let h5 := put h4 3 #[.iface 120 (.pointer (some ⟨low os + 1, 0, none⟩))]
  let h6 := put h5 1 (valsU Rows.laid_unicode_utf8_first)
  let h7 := put h6 2 (valsU Rows.laid_unicode_utf8_acceptRanges)
  { w0 with heap := h7 }
end Go.Proofs.YtlghobefhmpfkaaDoor
set_option linter.unusedVariables false
set_option linter.unusedSimpArgs false
namespace Go.Proofs.YtlghobefhmpfkaaDoor
open Go Go.Ev
open Go.ChangeShapes Go.WideShapes Go.ChangeAt Go.RowKit
open Go.ChangeMaps (open_string shut_string)
set_option maxRecDepth 100000
namespace RcsfmtNothing
theorem contract (H : Type) (enc : TypeId × Value → H) (W : World) (base : Nat) (args : Array Value) (ds gs : List (DataW H)) (before : List MemPlace)
    (hval : ∀ (j : Nat) t v, Tryd.f3.params[j]? = some t → args[j]? = some v → Value.okWide Tryd.prog W .any base t v)
    (hW : DataW.Whole enc Tryd.prog Tryd.f3.params.toList Rows.rcsfmtNothingSpec.vars false W args.toList ds gs before) (hk : Rows.uptoSmall H (ds ++ gs) = true) (hP : GL W) :
    Calls Tryd.prog 3 args W fun e W' => ∃ v, e = .returned v ∧ Rows.rcsfmtNothingSpec.post enc Tryd.prog Tryd.f3 false true false false W args v W' := by
  have hW' := hW
  obtain ⟨p, q, hA0, hV, rfl, hfz, hnd⟩ := hW
  have hA : DataW.TrodAll enc Tryd.prog W 0 (fun _ => true) true Tryd.f3.params.toList args.toList ds p := hA0
  rw [Tryd.params3] at hA hval
  obtain ⟨v0, vs0, d0, ds0, p0, q0, hargs0, rfl, rfl, h0, r0⟩ := trodAll_cons hA
  obtain ⟨v1, vs1, d1, ds1, p1, q1, hargs1, rfl, rfl, h1, r1⟩ := trodAll_cons r0
  obtain ⟨rfl, rfl, rfl⟩ := trodAll_nil r1
  obtain rfl : args = #[v0, v1] := by cases args; simp_all
  obtain ⟨rfl, rfl⟩ := trodVars_none hV
  have u3 : Tryd.prog.underlying 3 = some (.int .i64) := Tryd.underlying3
  have u9 : Tryd.prog.underlying 9 = some .string := Tryd.underlying9
  have u4 : Tryd.prog.underlying 4 = some .bool := by kernel_rfl
  obtain ⟨x0, rfl, rfl, rfl, hm0⟩ := open_string u9 (hval 0 9 v0 rfl rfl) h0
  obtain ⟨x1, rfl, rfl, rfl, hm1⟩ := open_string u9 (hval 1 9 v1 rfl rfl) h1
  clear hA0
  have hbk : Rows.uptoBulkAll ([DataW.lit (H := H) (.string x0.data.toList), DataW.lit (H := H) (.string x1.data.toList)] ++ [] : List (DataW H)) ≤ 1048576 := of_decide_eq_true hk
  simp only [List.append_nil, Rows.uptoBulkAll, Rows.uptoBulk, size_eq] at hbk
  simp only [List.append_nil] at hW'
  refine (law_calls HL (s3 (G := GL) (fun w h => h.1) (fun w h => h.2.1)) (args := [.d (.v (.string x0)), .d (.v (.string x1))]) (vs := [.string x0, .string x1]) (W := W) hP (fun b hb => HL_lt hP hb) ?_ ⟨⟨rfl, rfl⟩, ⟨rfl, rfl⟩, trivial⟩).mono fun e W' ⟨he, hg⟩ => ?_
  · simp -dsimp -implicitDefEqProofs only [CLawN, pureC_wp, need_some]
    exact ⟨trivial, ⟨by omega, by omega⟩, trivial⟩
  · subst he
    have hlt := hW'.lt
    have lo : laidOutB Tryd.prog = true := by kernel_rfl
    exact ⟨_, rfl, post_of_below (pa := ([] ++ ([] ++ []))) (pv := []) hW' (fun _ _ _ => (trodAll_cons_mk (shut_bool u4 _) trodAll_mk0)) (fun sp hsp => (trodAll_cons_mk (shut_string u9 hm0) (trodAll_cons_mk (shut_string u9 hm1) trodAll_mk0))) (fun _ _ => rfl) (by simp)
      hg (ok_one (by kernel_rfl) rfl (okWide_bool_mk u4 _))⟩
theorem gl {W : World} (h : laidMetH Tryd.prog Rows.rcsfmtNothingUptoRow.laid W) : GL W := by
  have h' : laidMet Tryd.prog [("math/bits.deBruijn32tab", Rows.laid_math_bits_deBruijn32tab), ("math/bits.deBruijn64tab", Rows.laid_math_bits_deBruijn64tab), ("internal/strconv.uint64pow10", Rows.laid_internal_strconv_uint64pow10), ("unicode/utf8.acceptRanges", Rows.laid_unicode_utf8_acceptRanges), ("strconv.ErrRange", Rows.laid_strconv_ErrRange), ("strconv.ErrSyntax", Rows.laid_strconv_ErrSyntax), ("unicode/utf8.first", Rows.laid_unicode_utf8_first)] W := h
  exact ⟨pow10 (laidMet.tail (laidMet.tail (h'))), errR (laidMet.tail (laidMet.tail (laidMet.tail (laidMet.tail (h'))))), trivial⟩
abbrev wargs : Array Value := #[.string ⟨#[]⟩, .string ⟨#[]⟩]
theorem laid_met (os : Os) : laidMet Tryd.prog Rows.rcsfmtNothingUptoRow.laid ((laidWorld os).forCall (fun _ _ => 0) ⟨#[], wargs, []⟩).memory :=
  laidMet_of_run' 8 (by kernel_rfl) (by kernel_rfl)
theorem reads (os : Os) {H : Type} (enc : TypeId × Value → H) : ∃ places, DataW.whole enc Tryd.prog ((laidWorld os).forCall (fun _ _ => 0) ⟨#[], wargs, []⟩).memory Tryd.f3.params.toList Rows.rcsfmtNothingSpec.vars false wargs.toList 8 = some ([.lit (.string []), .lit (.string [])], [], places) :=
  ⟨[], by kernel_rfl⟩
theorem liftedUpto (os : Os) (started : os.Started) (H : Type) (enc : TypeId × Value → H) (F : Stop.Interp) :
    ReturnsInHanded {} Tryd.checked os 3 .any ((Rows.OpenSpec.upto Rows.rcsfmtNothingSpec).preRow enc Tryd.prog Tryd.f3 Rows.rcsfmtNothingUptoRow.domain false Rows.rcsfmtNothingUptoRow.laid) (((Rows.OpenSpec.upto Rows.rcsfmtNothingSpec).at F).post enc Tryd.prog Tryd.f3 false true false false) := by
  obtain ⟨places, hx⟩ := reads os enc
  refine returnsInHanded_of_row (C := Tryd.checked) (s := Rows.OpenSpec.upto Rows.rcsfmtNothingSpec) own started (by kernel_rfl) Tryd.func3
    (witness_row_atRef (enc := enc) (C := Tryd.checked) false (laidWorld os) wargs rfl (by kernel_rfl) (by kernel_rfl) (by kernel_rfl)
      (OpenSpec.preRow_of_cond 8 hx (by kernel_rfl) (fun k hk => by cases hk; kernel_rfl) (by kernel_rfl) (laid_met os))) ?_
  intro W base args ds gs before hval hW _ hcond _ hL _ _
  exact contract H enc W base args ds gs before hval hW (hcond _ rfl) (gl hL)
theorem saidUpto : Rows.RcsfmtNothingUptoSaid :=
  OpenClaim.holds_of_cond 3 Tryd.f3 rfl rfl rfl rfl rfl rfl rfl ⟨rfl, rfl, rfl, rfl, rfl⟩ rfl rfl rfl rfl rfl (by kernel_rfl) Tryd.func3 (by kernel_rfl)
    (of_decide_eq_true (by kernel_rfl)) (by unfold Func.isWrapper; first | (rw [if_pos (by decide +kernel)]; kernel_rfl) | (rw [if_neg (by decide +kernel)]; exact ⟨rfl, rfl⟩))
    (fun os started H enc _ F => by rw [OpenClaim.pre_eq_preRow]; exact liftedUpto os started H enc F)
theorem plain (f : FuncId) (fn : Func) (hf : Tryd.pinned.checked.prog.funcNamed "redline/redlinelaw14.RcsfmtNothing" = some f) (hfn : Tryd.pinned.checked.prog.funcs[f]? = some fn) :
    true = Tryd.pinned.checked.prog.looks [] ∧ ∀ (j : Nat) t, fn.params[j]? = some t → Tryd.pinned.checked.prog.wantsStandIn t = false := by
  obtain rfl : f = 3 := Option.some.inj ((show Tryd.prog.funcNamed "redline/redlinelaw14.RcsfmtNothing" = some 3 by kernel_rfl).symm.trans hf) |>.symm
  obtain rfl : fn = Tryd.f3 := (Option.some.inj (Tryd.func3.symm.trans hfn)).symm
  refine ⟨by kernel_rfl, fun j t ht => ?_⟩
  have hall : (Tryd.f3.params.toList.all fun u => !Tryd.prog.wantsStandIn u) = true := by kernel_rfl
  have hm : t ∈ Tryd.f3.params.toList := by simpa using Array.mem_of_getElem? ht
  exact (show Tryd.prog.wantsStandIn t = false by simpa using List.all_eq_true.1 hall t hm)
theorem cardUpto : Rows.RcsfmtNothingUptoCardSaid :=
  Claim7.holds_tied_plain_at .later [] _ _ _ _ saidUpto (fun _ h => by cases h) (by kernel_rfl) (fun _ h => by cases h) rcsfmtNothingUpto_row_tie rfl ⟨rfl, rfl⟩ (by kernel_rfl) rfl plain (by kernel_rfl)
end RcsfmtNothing
end Go.Proofs.YtlghobefhmpfkaaDoor
