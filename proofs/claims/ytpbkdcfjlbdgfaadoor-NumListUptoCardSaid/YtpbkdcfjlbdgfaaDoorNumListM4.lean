/- The proof of NumList, from the evaluator up to the card. Part 4 of 5. -/
import Derived.Test.YtpbkdcfjlbdgfaaDoorProg
import Derived.Lib.Strings
import Derived.Lib.Slices
import Derived.Lib.Walk
import Derived.Lib.Builder
import Derived.Lib.UnsafeStr
import Derived.WalkKit
import Derived.Laws.Externs
import Derived.Shelf.Strings.Builder1
import Derived.Shelf.Strings.Builder2
import Derived.Shelf.Strings.OnBuilder
import Derived.Shelf.Strings.Trim
import Derived.Shelf.Small.Utf8
import Derived.Shelf.Small.Strs
import Derived.Shelf.Small.Wraps
import Derived.Shelf.Utf8.RuneCount
import Derived.Shelf.Strings.Builder2Cap
import Derived.Shelf.Strconv.Atoi
import Derived.Shelf.Strconv.Itoa0
import Derived.Shelf.Strconv.Itoa1
import Derived.Shelf.LaysM
import Derived.Shelf.Strconv.Itoa2
import Derived.Shelf.Strconv.Itoa3
import Derived.Shelf.Strconv.AtoiErrFast
import Derived.Shelf.Strconv.ParseIntEmpty
import Derived.Shelf.Strconv.AtoiFail
import Derived.Shelf.Strconv.Clone
import Derived.Shelf.Strconv.SyntaxError
import Derived.Shelf.LaysC
import Derived.Shelf.Strconv.ToError
import Derived.Shelf.Strconv.Lower
import Derived.Shelf.Strconv.ParseUint10
import Derived.Shelf.Strconv.ParseUint10Empty
import Derived.Shelf.Strconv.ParseUint10Any
import Derived.Shelf.Strconv.ParseInt10
import Derived.Shelf.Strconv.AtoiLong
import Derived.Shelf.Strconv.AtoiInnerAll
import Derived.Shelf.Strconv.RangeError
import Derived.Shelf.Strconv.ToErrorRange
import Derived.Shelf.Strconv.AtoiAll
import Derived.Shelf.Strconv.ErrVarAll
import Derived.Shelf.Strings.Search1
import Derived.Shelf.Strings.Search2
import Derived.Shelf.Strings.Search3
import Derived.Shelf.Strings.Count
import Derived.Shelf.Strings.Shaped
import Derived.Shelf.Strings.Prefix
import Derived.Shelf.Strings.Split
import Derived.Shelf.Unicode.Decode
import Derived.Shelf.Strings.Runes
import Derived.Shelf.Strings.RuneCount
import Derived.Shelf.Strings.IndexAny
import Derived.Shelf.Strings.AsciiSet
import Derived.Shelf.Strings.IndexAnyAll
import Derived.Shelf.Strings.Explode
import Derived.Shelf.Bits.Mul64
import Derived.Shelf.Unicode.DecodeSlow
import Derived.Shelf.Unicode.DecodeAny
import Derived.Lib.AtoiErrMem
import Derived.Laws.RangeAny
import Derived.SliceStrings
import Derived.Lib.LaidTab
import Derived.Test.YtpbkdcfjlbdgfaaDoorNumListM1
import Derived.Test.YtpbkdcfjlbdgfaaDoorNumListM2
import Derived.Test.YtpbkdcfjlbdgfaaDoorNumListM3
set_option linter.unusedVariables false
set_option linter.unusedSimpArgs false
namespace Go.Proofs.YtpbkdcfjlbdgfaaDoor
open Go Go.Ev
set_option maxRecDepth 100000
variable {G : World → Prop}
theorem str_snoc (acc : List (List UInt8)) (w : List UInt8) : strRows acc ++ [[.v (.string ⟨w.toArray⟩)]] = strRows (acc ++ [w]) := by simp [strRows]
theorem wR0 (acc : List (List UInt8)) : wordsR (acc, 0) = (.tup [.own 0, .d (.v (.int .i64 0))], ⟨1, [(0, .row 9 1 (strRows acc))]⟩) := by rw [wordsR, if_pos rfl]
theorem wRe {e : Int} (h : ¬ e = 0) : wordsR ([], e) = (.tup [.d (.sl []), .d (.v (.int .i64 e))], ⟨0, []⟩) := by rw [wordsR, if_neg h]
theorem idx_t (t : List UInt8) : idxB t = if wlen t < t.length then (wlen t : Int) else -1 := rfl
theorem len32 (n : Nat) : ((n : Int) = 32) = (n = 32) := by apply propext; omega
set_option maxHeartbeats 4000000 in
theorem s18 : Sound G Tryd.prog 18 CWords := by
  refine sd18 (T := tabT [(50, CTrim), (40, C40), (51, CBlkS), (52, CIdxA)]) (tab_cons s50 (tab_cons s40 (tab_cons s51 (tab_cons s52 tab_nil)))) (stC_lawful _) (st_hX fun args st p x st' K h hp hk => ?_)
  split at h <;> simp only [Option.some.injEq, Prod.mk.injEq, reduceCtorEq] at h
  obtain ⟨rfl, rfl, rfl⟩ := h
  rename_i s
  obtain ⟨s, rfl⟩ := ex_str s
  simp only [sem_str] at hk hp
  generalize hW : wordsS s = W at hk
  have key : ∀ os, (W.2 = 0 → os = [0]) → (W.2 ≠ 0 → os = []) → xv (tabT [(50, CTrim), (40, C40), (51, CBlkS), (52, CIdxA)]) 0 S18 (st0 [.d (.v (.string ⟨s.toArray⟩))] ⟨0, []⟩) (retK R18 0 os K) (panK 0 [] K) := by
    intro os ho he
    simp -dsimp -implicitDefEqProofs only [S18, R18, ↓Ev.xStp_eq, ↓Ev.P, Ev.Q, eq_self, forall_eq_or_imp, implies_true, forall_const, forall_eq, ↓reduceIte, reduceIte, Nat.reduceEqDiff, Nat.reduceAdd, reduceCtorEq, Nat.reduceSub, Int.reduceToNat, Int.reduceLE, Int.reduceLT, Int.reduceNeg, Nat.reduceBEq, Nat.reduceMul, Nat.reduceLeDiff, Nat.reduceMod, UInt8.reduceOfNat, Nat.reduceLT, Int.reduceEq, Int.reduceAdd, Int.reduceSub, Int.reduceMul]
    refine xLoop_intro (fun k st => ∃ (acc : List (List UInt8)) (u : List UInt8), u.length ≤ s.length ∧ k = u.length ∧ acc.length ≤ 32 ∧ wordsF u.length acc u = W ∧
      st = ⟨[(0, .d (.v (.string ⟨u.toArray⟩))), (4, .own 0)], 1, [(0, .row 9 1 (strRows acc))]⟩) s.length [0] ?_ ?_ ?_
    · simp -dsimp -implicitDefEqProofs only [↓Ev.xStp_eq, ↓Ev.P, Ev.Q, eq_self, forall_eq_or_imp, implies_true, forall_const, forall_eq, ↓reduceIte, reduceIte, Nat.reduceEqDiff, Nat.reduceAdd, reduceCtorEq, Nat.reduceSub, Int.reduceToNat, Int.reduceLE, Int.reduceLT, Int.reduceNeg, Nat.reduceBEq, Nat.reduceMul, Nat.reduceLeDiff, Nat.reduceMod, UInt8.reduceOfNat, Nat.reduceLT, Int.reduceEq, Int.reduceAdd, Int.reduceSub, Int.reduceMul]
    · simp -dsimp -implicitDefEqProofs only [↓Ev.xStp_eq, ↓Ev.P, Ev.Q, eq_self, forall_eq_or_imp, implies_true, forall_const, forall_eq, ↓reduceIte, reduceIte, Nat.reduceEqDiff, Nat.reduceAdd, reduceCtorEq, Nat.reduceSub, Int.reduceToNat, Int.reduceLE, Int.reduceLT, Int.reduceNeg, Nat.reduceBEq, Nat.reduceMul, Nat.reduceLeDiff, Nat.reduceMod, UInt8.reduceOfNat, Nat.reduceLT, Int.reduceEq, Int.reduceAdd, Int.reduceSub, Int.reduceMul]
      exact ⟨[], s, by omega, rfl, by simp, hW, rfl⟩
    · rintro k st ⟨acc, u, hu, rfl, hacc, hw, rfl⟩
      have hul := trim_le u
      rw [words_eq] at hw
      cases ht : trimT u with
      | nil =>
        rw [ht] at hw
        simp only [wordsB] at hw
        subst hw
        obtain rfl := ho rfl
        rw [wR0] at hk
        simp -dsimp -implicitDefEqProofs only [CTrim, ht, empty_iff', ↓Ev.xStp_eq, ↓Ev.P, Ev.Q, eq_self, forall_eq_or_imp, implies_true, forall_const, forall_eq, ↓reduceIte, reduceIte, Nat.reduceEqDiff, Nat.reduceAdd, reduceCtorEq, Nat.reduceSub, Int.reduceToNat, Int.reduceLE, Int.reduceLT, Int.reduceNeg, Nat.reduceBEq, Nat.reduceMul, Nat.reduceLeDiff, Nat.reduceMod, UInt8.reduceOfNat, Nat.reduceLT, Int.reduceEq, Int.reduceAdd, Int.reduceSub, Int.reduceMul]
        exact ⟨by omega, hk⟩
      | cons c t =>
        have hb := trim_head ht
        rw [ht] at hw hul
        simp only [List.length_cons] at hul
        simp only [wordsB] at hw
        by_cases hc : c = 34
        · subst hc
          have hc34 : ((UInt8.toNat 34 : Nat) : Int) = 34 := rfl
          rw [if_pos rfl] at hw
          cases hq : unqL (34 :: t) with
          | none =>
            rw [hq] at hw
            simp only at hw
            subst hw
            obtain rfl := he (by decide)
            rw [wRe (by decide)] at hk
            simp -dsimp -implicitDefEqProofs only [CTrim, ht, empty_iff', C40, hq, unqS, CBlkS, hc34, ↓Ev.xStp_eq, ↓Ev.P, Ev.Q, eq_self, forall_eq_or_imp, implies_true, forall_const, forall_eq, ↓reduceIte, reduceIte, Nat.reduceEqDiff, Nat.reduceAdd, reduceCtorEq, Nat.reduceSub, Int.reduceToNat, Int.reduceLE, Int.reduceLT, Int.reduceNeg, Nat.reduceBEq, Nat.reduceMul, Nat.reduceLeDiff, Nat.reduceMod, UInt8.reduceOfNat, Nat.reduceLT, Int.reduceEq, Int.reduceAdd, Int.reduceSub, Int.reduceMul]
            repeat' (first | with_reducible assumption | refine And.intro ?_ ?_ | intro _)
            all_goals first | omega | exact hk | skip
          | some p =>
            obtain ⟨w, r⟩ := p
            have hlt := unqL_lt hq
            simp only [List.length_cons] at hlt
            rw [hq] at hw
            simp only at hw
            cases hbs : blkS r with
            | false =>
              rw [if_pos hbs] at hw
              subst hw
              obtain rfl := he (by decide)
              rw [wRe (by decide)] at hk
              simp -dsimp -implicitDefEqProofs only [CTrim, ht, empty_iff', C40, hq, unqS, CBlkS, hbs, hc34, ↓Ev.xStp_eq, ↓Ev.P, Ev.Q, eq_self, forall_eq_or_imp, implies_true, forall_const, forall_eq, ↓reduceIte, reduceIte, Nat.reduceEqDiff, Nat.reduceAdd, reduceCtorEq, Nat.reduceSub, Int.reduceToNat, Int.reduceLE, Int.reduceLT, Int.reduceNeg, Nat.reduceBEq, Nat.reduceMul, Nat.reduceLeDiff, Nat.reduceMod, UInt8.reduceOfNat, Nat.reduceLT, Int.reduceEq, Int.reduceAdd, Int.reduceSub, Int.reduceMul]
              repeat' (first | with_reducible assumption | refine And.intro ?_ ?_ | intro _)
              all_goals first | omega | exact hk | skip
            | true =>
              rw [if_neg (by rw [hbs]; decide)] at hw
              by_cases h32 : acc.length = 32
              · rw [if_pos h32] at hw
                subst hw
                obtain rfl := he (by decide)
                rw [wRe (by decide)] at hk
                simp -dsimp -implicitDefEqProofs only [CTrim, ht, empty_iff', C40, hq, unqS, CBlkS, hbs, hc34, strRows_len, len32, h32, ↓Ev.xStp_eq, ↓Ev.P, Ev.Q, eq_self, forall_eq_or_imp, implies_true, forall_const, forall_eq, ↓reduceIte, reduceIte, Nat.reduceEqDiff, Nat.reduceAdd, reduceCtorEq, Nat.reduceSub, Int.reduceToNat, Int.reduceLE, Int.reduceLT, Int.reduceNeg, Nat.reduceBEq, Nat.reduceMul, Nat.reduceLeDiff, Nat.reduceMod, UInt8.reduceOfNat, Nat.reduceLT, Int.reduceEq, Int.reduceAdd, Int.reduceSub, Int.reduceMul]
                repeat' (first | with_reducible assumption | refine And.intro ?_ ?_ | intro _)
                all_goals first | omega | exact hk | skip
              · rw [if_neg h32] at hw
                simp -dsimp -implicitDefEqProofs only [CTrim, ht, empty_iff', C40, hq, unqS, CBlkS, hbs, hc34, strRows_len, len32, h32, str_snoc, ↓Ev.xStp_eq, ↓Ev.P, Ev.Q, eq_self, forall_eq_or_imp, implies_true, forall_const, forall_eq, ↓reduceIte, reduceIte, Nat.reduceEqDiff, Nat.reduceAdd, reduceCtorEq, Nat.reduceSub, Int.reduceToNat, Int.reduceLE, Int.reduceLT, Int.reduceNeg, Nat.reduceBEq, Nat.reduceMul, Nat.reduceLeDiff, Nat.reduceMod, UInt8.reduceOfNat, Nat.reduceLT, Int.reduceEq, Int.reduceAdd, Int.reduceSub, Int.reduceMul]
                repeat' (first | with_reducible assumption | refine And.intro ?_ ?_ | intro _)
                all_goals try omega
                refine xAgain_intro r.length [2] (by omega) (by simp -dsimp -implicitDefEqProofs only [↓Ev.xStp_eq, ↓Ev.P, Ev.Q, eq_self, forall_eq_or_imp, implies_true, forall_const, forall_eq, ↓reduceIte, reduceIte, Nat.reduceEqDiff, Nat.reduceAdd, reduceCtorEq, Nat.reduceSub, Int.reduceToNat, Int.reduceLE, Int.reduceLT, Int.reduceNeg, Nat.reduceBEq, Nat.reduceMul, Nat.reduceLeDiff, Nat.reduceMod, UInt8.reduceOfNat, Nat.reduceLT, Int.reduceEq, Int.reduceAdd, Int.reduceSub, Int.reduceMul]) ⟨acc ++ [w], r, by omega, rfl, by simp; omega, hw, ?_⟩
                simp -dsimp -implicitDefEqProofs only [↓Ev.xStp_eq, ↓Ev.P, Ev.Q, eq_self, forall_eq_or_imp, implies_true, forall_const, forall_eq, ↓reduceIte, reduceIte, Nat.reduceEqDiff, Nat.reduceAdd, reduceCtorEq, Nat.reduceSub, Int.reduceToNat, Int.reduceLE, Int.reduceLT, Int.reduceNeg, Nat.reduceBEq, Nat.reduceMul, Nat.reduceLeDiff, Nat.reduceMod, UInt8.reduceOfNat, Nat.reduceLT, Int.reduceEq, Int.reduceAdd, Int.reduceSub, Int.reduceMul]
        · have hc34 : ¬ ((c.toNat : Nat) : Int) = 34 := fun h => hc (UInt8.toNat_inj.1 (by show _ = 34; omega))
          rw [if_neg hc] at hw
          have hx := idx_t (c :: t)
          have h1 := wlen_pos (t := t) hb
          by_cases h32 : acc.length = 32
          · rw [if_pos h32] at hw
            subst hw
            obtain rfl := he (by decide)
            rw [wRe (by decide)] at hk
            simp -dsimp -implicitDefEqProofs only [CTrim, ht, empty_iff', CIdxA, hc34, strRows_len, len32, h32, ↓Ev.xStp_eq, ↓Ev.P, Ev.Q, eq_self, forall_eq_or_imp, implies_true, forall_const, forall_eq, ↓reduceIte, reduceIte, Nat.reduceEqDiff, Nat.reduceAdd, reduceCtorEq, Nat.reduceSub, Int.reduceToNat, Int.reduceLE, Int.reduceLT, Int.reduceNeg, Nat.reduceBEq, Nat.reduceMul, Nat.reduceLeDiff, Nat.reduceMod, UInt8.reduceOfNat, Nat.reduceLT, Int.reduceEq, Int.reduceAdd, Int.reduceSub, Int.reduceMul]
            repeat' (first | with_reducible assumption | refine And.intro ?_ ?_ | intro _)
            all_goals first | omega | exact hk | skip
            all_goals (have hwl := wlen_le (c :: t); simp only [List.length_cons] at hwl hx; split at hx <;> omega)
          · rw [if_neg h32] at hw
            by_cases hlt : wlen (c :: t) < (c :: t).length
            · rw [if_pos hlt] at hx
              simp only [List.length_cons] at hlt
              have hn : (0 : Int) ≤ (wlen (c :: t) : Int) := by omega
              simp -dsimp -implicitDefEqProofs only [CTrim, ht, empty_iff', CIdxA, hc34, hx, hn, strRows_len, len32, h32, str_snoc, ↓Ev.xStp_eq, ↓Ev.P, Ev.Q, eq_self, forall_eq_or_imp, implies_true, forall_const, forall_eq, ↓reduceIte, reduceIte, Nat.reduceEqDiff, Nat.reduceAdd, reduceCtorEq, Nat.reduceSub, Int.reduceToNat, Int.reduceLE, Int.reduceLT, Int.reduceNeg, Nat.reduceBEq, Nat.reduceMul, Nat.reduceLeDiff, Nat.reduceMod, UInt8.reduceOfNat, Nat.reduceLT, Int.reduceEq, Int.reduceAdd, Int.reduceSub, Int.reduceMul]
              repeat' (first | with_reducible assumption | refine And.intro ?_ ?_ | intro _)
              all_goals try omega
              refine xAgain_intro ((c :: t).drop (wlen (c :: t))).length [2] (by simp only [List.length_drop, List.length_cons]; omega) (by simp -dsimp -implicitDefEqProofs only [↓Ev.xStp_eq, ↓Ev.P, Ev.Q, eq_self, forall_eq_or_imp, implies_true, forall_const, forall_eq, ↓reduceIte, reduceIte, Nat.reduceEqDiff, Nat.reduceAdd, reduceCtorEq, Nat.reduceSub, Int.reduceToNat, Int.reduceLE, Int.reduceLT, Int.reduceNeg, Nat.reduceBEq, Nat.reduceMul, Nat.reduceLeDiff, Nat.reduceMod, UInt8.reduceOfNat, Nat.reduceLT, Int.reduceEq, Int.reduceAdd, Int.reduceSub, Int.reduceMul]) ⟨acc ++ [(c :: t).take (wlen (c :: t))], (c :: t).drop (wlen (c :: t)), by simp only [List.length_drop, List.length_cons]; omega, rfl, by simp; omega, hw, ?_⟩
              simp -dsimp -implicitDefEqProofs only [↓Ev.xStp_eq, ↓Ev.P, Ev.Q, eq_self, forall_eq_or_imp, implies_true, forall_const, forall_eq, ↓reduceIte, reduceIte, Nat.reduceEqDiff, Nat.reduceAdd, reduceCtorEq, Nat.reduceSub, Int.reduceToNat, Int.reduceLE, Int.reduceLT, Int.reduceNeg, Nat.reduceBEq, Nat.reduceMul, Nat.reduceLeDiff, Nat.reduceMod, UInt8.reduceOfNat, Nat.reduceLT, Int.reduceEq, Int.reduceAdd, Int.reduceSub, Int.reduceMul]
              rw [List.take_of_length_le (by simp)]
            · rw [if_neg hlt] at hx
              have hwl := wlen_le (c :: t)
              have hwe : wlen (c :: t) = (c :: t).length := by omega
              rw [hwe, List.take_length, List.drop_length] at hw
              simp -dsimp -implicitDefEqProofs only [CTrim, ht, empty_iff', CIdxA, hc34, hx, strRows_len, len32, h32, str_snoc, ↓Ev.xStp_eq, ↓Ev.P, Ev.Q, eq_self, forall_eq_or_imp, implies_true, forall_const, forall_eq, ↓reduceIte, reduceIte, Nat.reduceEqDiff, Nat.reduceAdd, reduceCtorEq, Nat.reduceSub, Int.reduceToNat, Int.reduceLE, Int.reduceLT, Int.reduceNeg, Nat.reduceBEq, Nat.reduceMul, Nat.reduceLeDiff, Nat.reduceMod, UInt8.reduceOfNat, Nat.reduceLT, Int.reduceEq, Int.reduceAdd, Int.reduceSub, Int.reduceMul]
              repeat' (first | with_reducible assumption | refine And.intro ?_ ?_ | intro _)
              all_goals try omega
              refine xAgain_intro 0 [2] (by simp only [List.length_cons] at *; omega) (by simp -dsimp -implicitDefEqProofs only [↓Ev.xStp_eq, ↓Ev.P, Ev.Q, eq_self, forall_eq_or_imp, implies_true, forall_const, forall_eq, ↓reduceIte, reduceIte, Nat.reduceEqDiff, Nat.reduceAdd, reduceCtorEq, Nat.reduceSub, Int.reduceToNat, Int.reduceLE, Int.reduceLT, Int.reduceNeg, Nat.reduceBEq, Nat.reduceMul, Nat.reduceLeDiff, Nat.reduceMod, UInt8.reduceOfNat, Nat.reduceLT, Int.reduceEq, Int.reduceAdd, Int.reduceSub, Int.reduceMul]) ⟨acc ++ [c :: t], [], by simp, rfl, by simp; omega, hw, ?_⟩
              simp -dsimp -implicitDefEqProofs only [↓Ev.xStp_eq, ↓Ev.P, Ev.Q, eq_self, forall_eq_or_imp, implies_true, forall_const, forall_eq, ↓reduceIte, reduceIte, Nat.reduceEqDiff, Nat.reduceAdd, reduceCtorEq, Nat.reduceSub, Int.reduceToNat, Int.reduceLE, Int.reduceLT, Int.reduceNeg, Nat.reduceBEq, Nat.reduceMul, Nat.reduceLeDiff, Nat.reduceMod, UInt8.reduceOfNat, Nat.reduceLT, Int.reduceEq, Int.reduceAdd, Int.reduceSub, Int.reduceMul]
  by_cases hz : W.2 = 0
  · exact ⟨Nat.le_of_ble_eq_true rfl, [0], key [0] (fun _ => rfl) (fun h => absurd hz h)⟩
  · exact ⟨Nat.le_of_ble_eq_true rfl, [], key [] (fun h => absurd h hz) (fun _ => rfl)⟩
end Go.Proofs.YtpbkdcfjlbdgfaaDoor
set_option linter.unusedVariables false
set_option linter.unusedSimpArgs false
namespace Go.Proofs.YtpbkdcfjlbdgfaaDoor
open Go Go.Ev
set_option maxRecDepth 100000
variable {G : World → Prop}
theorem words_non {u : List UInt8} {c : UInt8} {r : List UInt8} (hb : blk c = false) : trimT (c :: r) = c :: r := by rw [trimT, List.dropWhile_cons, if_neg (by rw [hb]; decide)]
theorem wlen_step (t : List UInt8) (i : Nat) (h : i < t.length) (hn : ∀ j, j < i → blk (t.getD j 0) = false) (hb : blk (t.getD i 0) = true) : wlen t = i := tw_of t i h hb hn
theorem wlen_all (t : List UInt8) (hn : ∀ j, j < t.length → blk (t.getD j 0) = false) : wlen t = t.length := tw_none t hn
theorem len32' (n : Nat) : (32 ≤ (n : Int)) = (32 ≤ n) := by apply propext; omega
set_option maxHeartbeats 4000000 in
theorem s19 : Sound G Tryd.prog 19 CWords := by
  refine sd19 (T := tabT [(54, C40), (53, CBlk)]) (tab_cons s54 (tab_cons s53 tab_nil)) (stC_lawful _) (st_hX fun args st p x st' K h hp hk => ?_)
  split at h <;> simp only [Option.some.injEq, Prod.mk.injEq, reduceCtorEq] at h
  obtain ⟨rfl, rfl, rfl⟩ := h
  rename_i s
  obtain ⟨s, rfl⟩ := ex_str s
  simp only [sem_str] at hk hp
  generalize hW : wordsS s = W at hk
  have key : ∀ os, (W.2 = 0 → os = [0]) → (W.2 ≠ 0 → os = []) → xv (tabT [(54, C40), (53, CBlk)]) 0 S19 (st0 [.d (.v (.string ⟨s.toArray⟩))] ⟨0, []⟩) (retK R19 0 os K) (panK 0 [] K) := by
    intro os ho he
    simp -dsimp -implicitDefEqProofs only [S19, R19, ↓Ev.xStp_eq, ↓Ev.P, Ev.Q, eq_self, forall_eq_or_imp, implies_true, forall_const, forall_eq, ↓reduceIte, reduceIte, Nat.reduceEqDiff, Nat.reduceAdd, reduceCtorEq, Nat.reduceSub, Int.reduceToNat, Int.reduceLE, Int.reduceLT, Int.reduceNeg, Nat.reduceBEq, Nat.reduceMul, Nat.reduceLeDiff, Nat.reduceMod, UInt8.reduceOfNat, Nat.reduceLT, Int.reduceEq, Int.reduceAdd, Int.reduceSub, Int.reduceMul]
    refine xLoop_intro (fun k st => ∃ (acc : List (List UInt8)) (u : List UInt8), u.length ≤ s.length ∧ k = u.length ∧ acc.length ≤ 32 ∧ wordsF u.length acc u = W ∧
      st = ⟨[(0, .d (.v (.string ⟨u.toArray⟩))), (4, .own 0)], 1, [(0, .row 9 1 (strRows acc))]⟩) s.length [0] ?_ ?_ ?_
    · simp -dsimp -implicitDefEqProofs only [↓Ev.xStp_eq, ↓Ev.P, Ev.Q, eq_self, forall_eq_or_imp, implies_true, forall_const, forall_eq, ↓reduceIte, reduceIte, Nat.reduceEqDiff, Nat.reduceAdd, reduceCtorEq, Nat.reduceSub, Int.reduceToNat, Int.reduceLE, Int.reduceLT, Int.reduceNeg, Nat.reduceBEq, Nat.reduceMul, Nat.reduceLeDiff, Nat.reduceMod, UInt8.reduceOfNat, Nat.reduceLT, Int.reduceEq, Int.reduceAdd, Int.reduceSub, Int.reduceMul]
    · simp -dsimp -implicitDefEqProofs only [↓Ev.xStp_eq, ↓Ev.P, Ev.Q, eq_self, forall_eq_or_imp, implies_true, forall_const, forall_eq, ↓reduceIte, reduceIte, Nat.reduceEqDiff, Nat.reduceAdd, reduceCtorEq, Nat.reduceSub, Int.reduceToNat, Int.reduceLE, Int.reduceLT, Int.reduceNeg, Nat.reduceBEq, Nat.reduceMul, Nat.reduceLeDiff, Nat.reduceMod, UInt8.reduceOfNat, Nat.reduceLT, Int.reduceEq, Int.reduceAdd, Int.reduceSub, Int.reduceMul]
      exact ⟨[], s, by omega, rfl, by simp, hW, rfl⟩
    · rintro k st ⟨acc, u, hu, rfl, hacc, hw, rfl⟩
      cases u with
      | nil =>
        simp only [List.length_nil, wordsF] at hw
        subst hw
        obtain rfl := ho rfl
        rw [wR0] at hk
        simp -dsimp -implicitDefEqProofs only [↓Ev.xStp_eq, ↓Ev.P, Ev.Q, eq_self, forall_eq_or_imp, implies_true, forall_const, forall_eq, ↓reduceIte, reduceIte, Nat.reduceEqDiff, Nat.reduceAdd, reduceCtorEq, Nat.reduceSub, Int.reduceToNat, Int.reduceLE, Int.reduceLT, Int.reduceNeg, Nat.reduceBEq, Nat.reduceMul, Nat.reduceLeDiff, Nat.reduceMod, UInt8.reduceOfNat, Nat.reduceLT, Int.reduceEq, Int.reduceAdd, Int.reduceSub, Int.reduceMul]
        exact hk
      | cons c t =>
        have h0 : (0 : Int) < ((t.length + 1 : Nat) : Int) := by omega
        simp only [List.length_cons] at hu
        cases hb : blk c with
        | true =>
          rw [words_blk acc hb] at hw
          simp -dsimp -implicitDefEqProofs only [h0, CBlk, blk_int, hb, ↓Ev.xStp_eq, ↓Ev.P, Ev.Q, eq_self, forall_eq_or_imp, implies_true, forall_const, forall_eq, ↓reduceIte, reduceIte, Nat.reduceEqDiff, Nat.reduceAdd, reduceCtorEq, Nat.reduceSub, Int.reduceToNat, Int.reduceLE, Int.reduceLT, Int.reduceNeg, Nat.reduceBEq, Nat.reduceMul, Nat.reduceLeDiff, Nat.reduceMod, UInt8.reduceOfNat, Nat.reduceLT, Int.reduceEq, Int.reduceAdd, Int.reduceSub, Int.reduceMul]
          repeat' (first | with_reducible assumption | refine And.intro ?_ ?_ | intro _)
          all_goals try omega
          refine xAgain_intro t.length [0] (by simp) (by simp -dsimp -implicitDefEqProofs only [↓Ev.xStp_eq, ↓Ev.P, Ev.Q, eq_self, forall_eq_or_imp, implies_true, forall_const, forall_eq, ↓reduceIte, reduceIte, Nat.reduceEqDiff, Nat.reduceAdd, reduceCtorEq, Nat.reduceSub, Int.reduceToNat, Int.reduceLE, Int.reduceLT, Int.reduceNeg, Nat.reduceBEq, Nat.reduceMul, Nat.reduceLeDiff, Nat.reduceMod, UInt8.reduceOfNat, Nat.reduceLT, Int.reduceEq, Int.reduceAdd, Int.reduceSub, Int.reduceMul]) ⟨acc, t, by omega, rfl, hacc, hw, ?_⟩
          simp -dsimp -implicitDefEqProofs only [↓Ev.xStp_eq, ↓Ev.P, Ev.Q, eq_self, forall_eq_or_imp, implies_true, forall_const, forall_eq, ↓reduceIte, reduceIte, Nat.reduceEqDiff, Nat.reduceAdd, reduceCtorEq, Nat.reduceSub, Int.reduceToNat, Int.reduceLE, Int.reduceLT, Int.reduceNeg, Nat.reduceBEq, Nat.reduceMul, Nat.reduceLeDiff, Nat.reduceMod, UInt8.reduceOfNat, Nat.reduceLT, Int.reduceEq, Int.reduceAdd, Int.reduceSub, Int.reduceMul]
        | false =>
          rw [words_eq, words_non (u := []) hb] at hw
          simp only [wordsB] at hw
          by_cases hc : c = 34
          · subst hc
            have hc34 : ((UInt8.toNat 34 : Nat) : Int) = 34 := rfl
            have hb34 : blkI 34 = false := by decide
            rw [if_pos rfl] at hw
            cases hq : unqL (34 :: t) with
            | none =>
              rw [hq] at hw
              simp only at hw
              subst hw
              obtain rfl := he (by decide)
              rw [wRe (by decide)] at hk
              simp -dsimp -implicitDefEqProofs only [h0, CBlk, blk_int, hb, C40, hq, unqS, hc34, hb34, ↓Ev.xStp_eq, ↓Ev.P, Ev.Q, eq_self, forall_eq_or_imp, implies_true, forall_const, forall_eq, ↓reduceIte, reduceIte, Nat.reduceEqDiff, Nat.reduceAdd, reduceCtorEq, Nat.reduceSub, Int.reduceToNat, Int.reduceLE, Int.reduceLT, Int.reduceNeg, Nat.reduceBEq, Nat.reduceMul, Nat.reduceLeDiff, Nat.reduceMod, UInt8.reduceOfNat, Nat.reduceLT, Int.reduceEq, Int.reduceAdd, Int.reduceSub, Int.reduceMul]
              repeat' (first | with_reducible assumption | refine And.intro ?_ ?_ | intro _)
              all_goals first | omega | exact hk | skip
            | some p =>
              obtain ⟨w, r⟩ := p
              have hlt := unqL_lt hq
              simp only [List.length_cons] at hlt
              rw [hq] at hw
              simp only at hw
              by_cases hbr : blkS r = false
              · rw [if_pos hbr] at hw
                subst hw
                obtain rfl := he (by decide)
                rw [wRe (by decide)] at hk
                cases r with
                | nil => cases hbr
                | cons d r =>
                  have hd : blk d = false := hbr
                  have h00 : (0 : Int) < ((r.length + 1 : Nat) : Int) := by omega
                  simp -dsimp -implicitDefEqProofs only [h0, h00, CBlk, blk_int, hb, hd, C40, hq, unqS, hc34, hb34, ↓Ev.xStp_eq, ↓Ev.P, Ev.Q, eq_self, forall_eq_or_imp, implies_true, forall_const, forall_eq, ↓reduceIte, reduceIte, Nat.reduceEqDiff, Nat.reduceAdd, reduceCtorEq, Nat.reduceSub, Int.reduceToNat, Int.reduceLE, Int.reduceLT, Int.reduceNeg, Nat.reduceBEq, Nat.reduceMul, Nat.reduceLeDiff, Nat.reduceMod, UInt8.reduceOfNat, Nat.reduceLT, Int.reduceEq, Int.reduceAdd, Int.reduceSub, Int.reduceMul]
                  repeat' (first | with_reducible assumption | refine And.intro ?_ ?_ | intro _)
                  all_goals first | omega | exact hk | skip
              · rw [if_neg hbr] at hw
                have hz : r = [] ∨ ∃ d r', r = d :: r' ∧ blk d = true := by
                  cases r with
                  | nil => exact .inl rfl
                  | cons d r' => exact .inr ⟨d, r', rfl, by simpa [blkS] using hbr⟩
                by_cases h32 : acc.length = 32
                · rw [if_pos h32] at hw
                  subst hw
                  obtain rfl := he (by decide)
                  rw [wRe (by decide)] at hk
                  rcases hz with rfl | ⟨d, r', rfl, hd⟩
                  · simp -dsimp -implicitDefEqProofs only [h0, CBlk, blk_int, hb, C40, hq, unqS, hc34, hb34, strRows_len, len32', h32, ↓Ev.xStp_eq, ↓Ev.P, Ev.Q, eq_self, forall_eq_or_imp, implies_true, forall_const, forall_eq, ↓reduceIte, reduceIte, Nat.reduceEqDiff, Nat.reduceAdd, reduceCtorEq, Nat.reduceSub, Int.reduceToNat, Int.reduceLE, Int.reduceLT, Int.reduceNeg, Nat.reduceBEq, Nat.reduceMul, Nat.reduceLeDiff, Nat.reduceMod, UInt8.reduceOfNat, Nat.reduceLT, Int.reduceEq, Int.reduceAdd, Int.reduceSub, Int.reduceMul]
                    repeat' (first | with_reducible assumption | refine And.intro ?_ ?_ | intro _)
                    all_goals first | omega | exact hk | skip
                  · have h00 : (0 : Int) < ((r'.length + 1 : Nat) : Int) := by omega
                    simp -dsimp -implicitDefEqProofs only [h0, h00, CBlk, blk_int, hb, hd, C40, hq, unqS, hc34, hb34, strRows_len, len32', h32, ↓Ev.xStp_eq, ↓Ev.P, Ev.Q, eq_self, forall_eq_or_imp, implies_true, forall_const, forall_eq, ↓reduceIte, reduceIte, Nat.reduceEqDiff, Nat.reduceAdd, reduceCtorEq, Nat.reduceSub, Int.reduceToNat, Int.reduceLE, Int.reduceLT, Int.reduceNeg, Nat.reduceBEq, Nat.reduceMul, Nat.reduceLeDiff, Nat.reduceMod, UInt8.reduceOfNat, Nat.reduceLT, Int.reduceEq, Int.reduceAdd, Int.reduceSub, Int.reduceMul]
                    repeat' (first | with_reducible assumption | refine And.intro ?_ ?_ | intro _)
                    all_goals first | omega | exact hk | skip
                · rw [if_neg h32] at hw
                  have h32' : ¬ 32 ≤ acc.length := by omega
                  rcases hz with rfl | ⟨d, r', rfl, hd⟩
                  · simp -dsimp -implicitDefEqProofs only [h0, CBlk, blk_int, hb, C40, hq, unqS, hc34, hb34, strRows_len, len32', h32', str_snoc, ↓Ev.xStp_eq, ↓Ev.P, Ev.Q, eq_self, forall_eq_or_imp, implies_true, forall_const, forall_eq, ↓reduceIte, reduceIte, Nat.reduceEqDiff, Nat.reduceAdd, reduceCtorEq, Nat.reduceSub, Int.reduceToNat, Int.reduceLE, Int.reduceLT, Int.reduceNeg, Nat.reduceBEq, Nat.reduceMul, Nat.reduceLeDiff, Nat.reduceMod, UInt8.reduceOfNat, Nat.reduceLT, Int.reduceEq, Int.reduceAdd, Int.reduceSub, Int.reduceMul]
                    repeat' (first | with_reducible assumption | refine And.intro ?_ ?_ | intro _)
                    all_goals try omega
                    refine xAgain_intro 0 [2] (by simp) (by simp -dsimp -implicitDefEqProofs only [↓Ev.xStp_eq, ↓Ev.P, Ev.Q, eq_self, forall_eq_or_imp, implies_true, forall_const, forall_eq, ↓reduceIte, reduceIte, Nat.reduceEqDiff, Nat.reduceAdd, reduceCtorEq, Nat.reduceSub, Int.reduceToNat, Int.reduceLE, Int.reduceLT, Int.reduceNeg, Nat.reduceBEq, Nat.reduceMul, Nat.reduceLeDiff, Nat.reduceMod, UInt8.reduceOfNat, Nat.reduceLT, Int.reduceEq, Int.reduceAdd, Int.reduceSub, Int.reduceMul]) ⟨acc ++ [w], [], by simp, rfl, by simp; omega, hw, ?_⟩
                    simp -dsimp -implicitDefEqProofs only [↓Ev.xStp_eq, ↓Ev.P, Ev.Q, eq_self, forall_eq_or_imp, implies_true, forall_const, forall_eq, ↓reduceIte, reduceIte, Nat.reduceEqDiff, Nat.reduceAdd, reduceCtorEq, Nat.reduceSub, Int.reduceToNat, Int.reduceLE, Int.reduceLT, Int.reduceNeg, Nat.reduceBEq, Nat.reduceMul, Nat.reduceLeDiff, Nat.reduceMod, UInt8.reduceOfNat, Nat.reduceLT, Int.reduceEq, Int.reduceAdd, Int.reduceSub, Int.reduceMul]
                  · have h00 : (0 : Int) < ((r'.length + 1 : Nat) : Int) := by omega
                    simp -dsimp -implicitDefEqProofs only [h0, h00, CBlk, blk_int, hb, hd, C40, hq, unqS, hc34, hb34, strRows_len, len32', h32', str_snoc, ↓Ev.xStp_eq, ↓Ev.P, Ev.Q, eq_self, forall_eq_or_imp, implies_true, forall_const, forall_eq, ↓reduceIte, reduceIte, Nat.reduceEqDiff, Nat.reduceAdd, reduceCtorEq, Nat.reduceSub, Int.reduceToNat, Int.reduceLE, Int.reduceLT, Int.reduceNeg, Nat.reduceBEq, Nat.reduceMul, Nat.reduceLeDiff, Nat.reduceMod, UInt8.reduceOfNat, Nat.reduceLT, Int.reduceEq, Int.reduceAdd, Int.reduceSub, Int.reduceMul]
                    repeat' (first | with_reducible assumption | refine And.intro ?_ ?_ | intro _)
                    all_goals try omega
                    refine xAgain_intro (d :: r').length [2] (by simp only [List.length_cons] at hlt ⊢; omega) (by simp -dsimp -implicitDefEqProofs only [↓Ev.xStp_eq, ↓Ev.P, Ev.Q, eq_self, forall_eq_or_imp, implies_true, forall_const, forall_eq, ↓reduceIte, reduceIte, Nat.reduceEqDiff, Nat.reduceAdd, reduceCtorEq, Nat.reduceSub, Int.reduceToNat, Int.reduceLE, Int.reduceLT, Int.reduceNeg, Nat.reduceBEq, Nat.reduceMul, Nat.reduceLeDiff, Nat.reduceMod, UInt8.reduceOfNat, Nat.reduceLT, Int.reduceEq, Int.reduceAdd, Int.reduceSub, Int.reduceMul]) ⟨acc ++ [w], d :: r', by omega, rfl, by simp; omega, hw, ?_⟩
                    simp -dsimp -implicitDefEqProofs only [↓Ev.xStp_eq, ↓Ev.P, Ev.Q, eq_self, forall_eq_or_imp, implies_true, forall_const, forall_eq, ↓reduceIte, reduceIte, Nat.reduceEqDiff, Nat.reduceAdd, reduceCtorEq, Nat.reduceSub, Int.reduceToNat, Int.reduceLE, Int.reduceLT, Int.reduceNeg, Nat.reduceBEq, Nat.reduceMul, Nat.reduceLeDiff, Nat.reduceMod, UInt8.reduceOfNat, Nat.reduceLT, Int.reduceEq, Int.reduceAdd, Int.reduceSub, Int.reduceMul]
          · have hc34 : ¬ ((c.toNat : Nat) : Int) = 34 := fun h => hc (UInt8.toNat_inj.1 (by show _ = 34; omega))
            rw [if_neg hc] at hw
            have h1 := wlen_pos (t := t) hb
            have hwl := wlen_le (c :: t)
            simp only [List.length_cons] at hwl
            by_cases h32 : acc.length = 32
            · rw [if_pos h32] at hw
              subst hw
              obtain rfl := he (by decide)
              rw [wRe (by decide)] at hk
              simp -dsimp -implicitDefEqProofs only [h0, CBlk, blk_int, hb, hc34, strRows_len, len32', h32, ↓Ev.xStp_eq, ↓Ev.P, Ev.Q, eq_self, forall_eq_or_imp, implies_true, forall_const, forall_eq, ↓reduceIte, reduceIte, Nat.reduceEqDiff, Nat.reduceAdd, reduceCtorEq, Nat.reduceSub, Int.reduceToNat, Int.reduceLE, Int.reduceLT, Int.reduceNeg, Nat.reduceBEq, Nat.reduceMul, Nat.reduceLeDiff, Nat.reduceMod, UInt8.reduceOfNat, Nat.reduceLT, Int.reduceEq, Int.reduceAdd, Int.reduceSub, Int.reduceMul]
              repeat' (first | with_reducible assumption | refine And.intro ?_ ?_ | intro _)
              all_goals first | omega | exact hk | skip
            · rw [if_neg h32] at hw
              have h32' : ¬ 32 ≤ acc.length := by omega
              simp -dsimp -implicitDefEqProofs only [h0, CBlk, blk_int, hb, hc34, strRows_len, len32', h32', str_snoc, ↓Ev.xStp_eq, ↓Ev.P, Ev.Q, eq_self, forall_eq_or_imp, implies_true, forall_const, forall_eq, ↓reduceIte, reduceIte, Nat.reduceEqDiff, Nat.reduceAdd, reduceCtorEq, Nat.reduceSub, Int.reduceToNat, Int.reduceLE, Int.reduceLT, Int.reduceNeg, Nat.reduceBEq, Nat.reduceMul, Nat.reduceLeDiff, Nat.reduceMod, UInt8.reduceOfNat, Nat.reduceLT, Int.reduceEq, Int.reduceAdd, Int.reduceSub, Int.reduceMul]
              repeat' (first | with_reducible assumption | refine And.intro ?_ ?_ | intro _)
              all_goals try omega
              refine xLoop_intro (fun k st => ∃ i : Nat, i ≤ (c :: t).length ∧ k = (c :: t).length - i ∧ (∀ j, j < i → blk ((c :: t).getD j 0) = false) ∧
                st = ⟨[(0, .d (.v (.string ⟨(c :: t).toArray⟩))), (4, .own 0), (9, .d (.v (.int .i64 i)))], 1, [(0, .row 9 1 (strRows acc))]⟩) (c :: t).length [0] ?_ ?_ ?_
              · simp -dsimp -implicitDefEqProofs only [↓Ev.xStp_eq, ↓Ev.P, Ev.Q, eq_self, forall_eq_or_imp, implies_true, forall_const, forall_eq, ↓reduceIte, reduceIte, Nat.reduceEqDiff, Nat.reduceAdd, reduceCtorEq, Nat.reduceSub, Int.reduceToNat, Int.reduceLE, Int.reduceLT, Int.reduceNeg, Nat.reduceBEq, Nat.reduceMul, Nat.reduceLeDiff, Nat.reduceMod, UInt8.reduceOfNat, Nat.reduceLT, Int.reduceEq, Int.reduceAdd, Int.reduceSub, Int.reduceMul]
              · simp -dsimp -implicitDefEqProofs only [↓Ev.xStp_eq, ↓Ev.P, Ev.Q, eq_self, forall_eq_or_imp, implies_true, forall_const, forall_eq, ↓reduceIte, reduceIte, Nat.reduceEqDiff, Nat.reduceAdd, reduceCtorEq, Nat.reduceSub, Int.reduceToNat, Int.reduceLE, Int.reduceLT, Int.reduceNeg, Nat.reduceBEq, Nat.reduceMul, Nat.reduceLeDiff, Nat.reduceMod, UInt8.reduceOfNat, Nat.reduceLT, Int.reduceEq, Int.reduceAdd, Int.reduceSub, Int.reduceMul]
                exact ⟨0, by omega, by omega, fun j hj => by omega, rfl⟩
              · rintro k2 st2 ⟨i, hi, rfl, hj, rfl⟩
                have fin : ∀ (hwi : wlen (c :: t) = i), wordsF ((c :: t).drop i).length (acc ++ [(c :: t).take i]) ((c :: t).drop i) = W := fun hwi => by rw [hwi] at hw; exact hw
                by_cases hil : i < (c :: t).length
                · have hi3 : (i : Int) < ((c :: t).length : Nat) := by omega
                  simp only [List.length_cons] at hi3 hil
                  cases hbi : blk ((c :: t).getD i 0) with
                  | true =>
                    have hwi := wlen_step (c :: t) i (by simpa using hil) hj hbi
                    have hf := fin hwi
                    rw [hwi] at h1
                    simp -dsimp -implicitDefEqProofs only [hi3, CBlk, blk_int, hbi, strRows_len, str_snoc, ↓Ev.xStp_eq, ↓Ev.P, Ev.Q, eq_self, forall_eq_or_imp, implies_true, forall_const, forall_eq, ↓reduceIte, reduceIte, Nat.reduceEqDiff, Nat.reduceAdd, reduceCtorEq, Nat.reduceSub, Int.reduceToNat, Int.reduceLE, Int.reduceLT, Int.reduceNeg, Nat.reduceBEq, Nat.reduceMul, Nat.reduceLeDiff, Nat.reduceMod, UInt8.reduceOfNat, Nat.reduceLT, Int.reduceEq, Int.reduceAdd, Int.reduceSub, Int.reduceMul]
                    repeat' (first | with_reducible assumption | refine And.intro ?_ ?_ | intro _)
                    all_goals try omega
                    refine xAgain_intro ((c :: t).drop i).length [2] (by simp only [List.length_drop, List.length_cons]; omega) (by simp -dsimp -implicitDefEqProofs only [↓Ev.xStp_eq, ↓Ev.P, Ev.Q, eq_self, forall_eq_or_imp, implies_true, forall_const, forall_eq, ↓reduceIte, reduceIte, Nat.reduceEqDiff, Nat.reduceAdd, reduceCtorEq, Nat.reduceSub, Int.reduceToNat, Int.reduceLE, Int.reduceLT, Int.reduceNeg, Nat.reduceBEq, Nat.reduceMul, Nat.reduceLeDiff, Nat.reduceMod, UInt8.reduceOfNat, Nat.reduceLT, Int.reduceEq, Int.reduceAdd, Int.reduceSub, Int.reduceMul]) ⟨acc ++ [(c :: t).take i], (c :: t).drop i, by simp only [List.length_drop, List.length_cons]; omega, rfl, by simp; omega, hf, ?_⟩
                    simp -dsimp -implicitDefEqProofs only [↓Ev.xStp_eq, ↓Ev.P, Ev.Q, eq_self, forall_eq_or_imp, implies_true, forall_const, forall_eq, ↓reduceIte, reduceIte, Nat.reduceEqDiff, Nat.reduceAdd, reduceCtorEq, Nat.reduceSub, Int.reduceToNat, Int.reduceLE, Int.reduceLT, Int.reduceNeg, Nat.reduceBEq, Nat.reduceMul, Nat.reduceLeDiff, Nat.reduceMod, UInt8.reduceOfNat, Nat.reduceLT, Int.reduceEq, Int.reduceAdd, Int.reduceSub, Int.reduceMul]
                    rw [List.take_of_length_le (by simp)]
                  | false =>
                    simp -dsimp -implicitDefEqProofs only [hi3, CBlk, blk_int, hbi, ↓Ev.xStp_eq, ↓Ev.P, Ev.Q, eq_self, forall_eq_or_imp, implies_true, forall_const, forall_eq, ↓reduceIte, reduceIte, Nat.reduceEqDiff, Nat.reduceAdd, reduceCtorEq, Nat.reduceSub, Int.reduceToNat, Int.reduceLE, Int.reduceLT, Int.reduceNeg, Nat.reduceBEq, Nat.reduceMul, Nat.reduceLeDiff, Nat.reduceMod, UInt8.reduceOfNat, Nat.reduceLT, Int.reduceEq, Int.reduceAdd, Int.reduceSub, Int.reduceMul]
                    repeat' (first | with_reducible assumption | refine And.intro ?_ ?_ | intro _)
                    all_goals try omega
                    refine xAgain_intro ((c :: t).length - (i + 1)) [0] (by simp only [List.length_cons]; omega) (by simp -dsimp -implicitDefEqProofs only [↓Ev.xStp_eq, ↓Ev.P, Ev.Q, eq_self, forall_eq_or_imp, implies_true, forall_const, forall_eq, ↓reduceIte, reduceIte, Nat.reduceEqDiff, Nat.reduceAdd, reduceCtorEq, Nat.reduceSub, Int.reduceToNat, Int.reduceLE, Int.reduceLT, Int.reduceNeg, Nat.reduceBEq, Nat.reduceMul, Nat.reduceLeDiff, Nat.reduceMod, UInt8.reduceOfNat, Nat.reduceLT, Int.reduceEq, Int.reduceAdd, Int.reduceSub, Int.reduceMul]) ⟨i + 1, by simp only [List.length_cons]; omega, rfl, fun j hj2 => ?_, ?_⟩
                    · by_cases e : j = i
                      · rw [e]; exact hbi
                      · exact hj j (by omega)
                    · simp -dsimp -implicitDefEqProofs only [↓Ev.xStp_eq, ↓Ev.P, Ev.Q, eq_self, forall_eq_or_imp, implies_true, forall_const, forall_eq, ↓reduceIte, reduceIte, Nat.reduceEqDiff, Nat.reduceAdd, reduceCtorEq, Nat.reduceSub, Int.reduceToNat, Int.reduceLE, Int.reduceLT, Int.reduceNeg, Nat.reduceBEq, Nat.reduceMul, Nat.reduceLeDiff, Nat.reduceMod, UInt8.reduceOfNat, Nat.reduceLT, Int.reduceEq, Int.reduceAdd, Int.reduceSub, Int.reduceMul]
                      rfl
                · obtain rfl : i = (c :: t).length := by omega
                  have hwi := wlen_all (c :: t) hj
                  have hf := fin hwi
                  simp only [List.take_length, List.drop_length] at hf
                  have hi3 : ¬ ((t.length + 1 : Nat) : Int) < ((t.length + 1 : Nat) : Int) := by omega
                  simp -dsimp -implicitDefEqProofs only [hi3, CBlk, List.take_length, List.drop_length, strRows_len, str_snoc, ↓Ev.xStp_eq, ↓Ev.P, Ev.Q, eq_self, forall_eq_or_imp, implies_true, forall_const, forall_eq, ↓reduceIte, reduceIte, Nat.reduceEqDiff, Nat.reduceAdd, reduceCtorEq, Nat.reduceSub, Int.reduceToNat, Int.reduceLE, Int.reduceLT, Int.reduceNeg, Nat.reduceBEq, Nat.reduceMul, Nat.reduceLeDiff, Nat.reduceMod, UInt8.reduceOfNat, Nat.reduceLT, Int.reduceEq, Int.reduceAdd, Int.reduceSub, Int.reduceMul]
                  repeat' (first | with_reducible assumption | refine And.intro ?_ ?_ | intro _)
                  all_goals try omega
                  refine xAgain_intro 0 [2] (by simp) (by simp -dsimp -implicitDefEqProofs only [↓Ev.xStp_eq, ↓Ev.P, Ev.Q, eq_self, forall_eq_or_imp, implies_true, forall_const, forall_eq, ↓reduceIte, reduceIte, Nat.reduceEqDiff, Nat.reduceAdd, reduceCtorEq, Nat.reduceSub, Int.reduceToNat, Int.reduceLE, Int.reduceLT, Int.reduceNeg, Nat.reduceBEq, Nat.reduceMul, Nat.reduceLeDiff, Nat.reduceMod, UInt8.reduceOfNat, Nat.reduceLT, Int.reduceEq, Int.reduceAdd, Int.reduceSub, Int.reduceMul]) ⟨acc ++ [c :: t], [], by simp, rfl, by simp; omega, hf, ?_⟩
                  simp -dsimp -implicitDefEqProofs only [↓Ev.xStp_eq, ↓Ev.P, Ev.Q, eq_self, forall_eq_or_imp, implies_true, forall_const, forall_eq, ↓reduceIte, reduceIte, Nat.reduceEqDiff, Nat.reduceAdd, reduceCtorEq, Nat.reduceSub, Int.reduceToNat, Int.reduceLE, Int.reduceLT, Int.reduceNeg, Nat.reduceBEq, Nat.reduceMul, Nat.reduceLeDiff, Nat.reduceMod, UInt8.reduceOfNat, Nat.reduceLT, Int.reduceEq, Int.reduceAdd, Int.reduceSub, Int.reduceMul]
  by_cases hz : W.2 = 0
  · exact ⟨Nat.le_of_ble_eq_true rfl, [0], key [0] (fun _ => rfl) (fun h => absurd hz h)⟩
  · exact ⟨Nat.le_of_ble_eq_true rfl, [], key [] (fun h => absurd h hz) (fun _ => rfl)⟩
end Go.Proofs.YtpbkdcfjlbdgfaaDoor
/- (*strings.Builder).copyCheck: its first cell holds its own address. -/
set_option linter.unusedVariables false
set_option linter.unusedSimpArgs false
namespace Go.Proofs.YtpbkdcfjlbdgfaaDoor
open Go Go.Ev Go.RowKit
/-- The types that are Builders: the library's, and structs that are one. -/
def bldT (t : Nat) : Bool := t == 70
  || t == 72
  || t == 99
theorem szB : (Tryd.prog.info? 70).map (·.size) = some 2 := by kernel_rfl
theorem ubB : Tryd.prog.underlying 67 = some (.pointer 70) := by kernel_rfl
theorem ubU : Tryd.prog.underlying 149 = some .unsafePointer := by kernel_rfl
theorem lies0 : liesAt Tryd.prog Tryd.prog.depth 70 (2 / Tryd.prog.cellsOf 70) 0 70 1 = true := by kernel_rfl
theorem lies1 : liesAt Tryd.prog Tryd.prog.depth 72 (2 / Tryd.prog.cellsOf 72) 0 70 1 = true := by kernel_rfl
theorem lies3 : liesAt Tryd.prog Tryd.prog.depth 99 (2 / Tryd.prog.cellsOf 99) 0 70 1 = true := by kernel_rfl
set_option maxRecDepth 100000 in
theorem lies (t : Nat) (h : bldT t = true) : liesAt Tryd.prog Tryd.prog.depth t (2 / Tryd.prog.cellsOf t) 0 70 1 = true := by
  by_cases e0 : t = 70
  · subst e0; exact lies0
  by_cases e1 : t = 72
  · subst e1; exact lies1
  by_cases e3 : t = 99
  · subst e3; exact lies3
  exfalso; simp only [bldT, Bool.or_eq_true, beq_iff_eq] at h; omega
set_option maxHeartbeats 1000000 in
set_option maxRecDepth 100000 in
theorem cc_used (b : Nat) (w : World) (h0 : w.cell? ⟨b, 0, none⟩ = some (.pointer (some ⟨b, 0, none⟩))) :
    Calls Tryd.prog 94 #[.pointer (some ⟨b, 0, none⟩)] w fun e w' => e = .returned (.tuple #[]) ∧ w' = w := by
  obtain ⟨j, hj, _⟩ := Option.map_eq_some_iff.1 szB
  go_enter Tryd.func94, Tryd.ntmps94
  go_wp2
  rw [Lib.run_neq_ptr_same w _ ubB hj]
  go_wp2
  go_end0
  exact ⟨rfl, rfl⟩
set_option maxHeartbeats 1000000 in
set_option maxRecDepth 100000 in
theorem cc_fresh (t b : Nat) (ht : bldT t = true) (w : World) (h0 : w.cell? ⟨b, 0, none⟩ = some (.pointer none)) (hsh : w.shape? b = some (t, 2)) (hfz : w.frozen? ⟨b, 0, none⟩ = false) :
    Calls Tryd.prog 94 #[.pointer (some ⟨b, 0, none⟩)] w fun e w' => e = .returned (.tuple #[]) ∧ w' = w.setCell ⟨b, 0, none⟩ (.pointer (some ⟨b, 0, none⟩)) := by
  obtain ⟨j, hj, hjs⟩ := Option.map_eq_some_iff.1 szB
  go_enter Tryd.func94, Tryd.ntmps94
  go_wp2
  rw [Lib.run_to_unsafe w ⟨b, 0, none⟩ ubB ubU hj (by rw [hjs]; decide) hsh (Nat.zero_lt_succ 1)]
  simp only [Result.andThen]
  rw [Oper.upon_value]
  go_wp2
  rw [run_callFunc_extern Tryd.func136 (by kernel_rfl) (by kernel_rfl) (by kernel_rfl) (e := Extern.AbiNoEscape.same) (by kernel_rfl)]
  rw [Lib.run_noEscape]
  simp only [Result.andThen]
  rw [Oper.upon_value]
  go_wp2
  rw [Lib.run_from_unsafe w ⟨b, 0, none⟩ ubU ubB hj hsh (lies t ht)]
  simp only [Result.andThen]
  rw [Oper.upon_value]
  go_wp2
  go_end0
  exact ⟨rfl, rfl⟩
theorem cc_at {t u b : Nat} {p v : Value} {bs : List UInt8} (ht : bldT t = true) {w : World} (h : BldAt w t u b p v bs) :
    Calls Tryd.prog 94 #[.pointer (some ⟨b, 0, none⟩)] w fun e w' => e = .returned (.tuple #[]) ∧ BldTo w w' t u b v bs ∧ BldAt w' t u b (.pointer (some ⟨b, 0, none⟩)) v bs := by
  have hc : w.cell? ⟨b, 0, none⟩ = some p := by rw [Lib.cell_of_heap h.blk]; rfl
  rcases h.ptr with rfl | rfl
  · have hu := h.used rfl
    refine (cc_fresh t b ht w hc (by simp [World.shape?, h.blk]) (Lib.frozen_of_heap h.blk 0)).mono ?_
    rintro e w' ⟨rfl, rfl⟩
    refine ⟨rfl, hu, ?_⟩
    have hlt : b < w.heap.size := (Array.getElem?_eq_some_iff.1 h.blk).1
    obtain ⟨p', v', k, _⟩ := hu.is
    have hb : (w.setCell ⟨b, 0, none⟩ (.pointer (some ⟨b, 0, none⟩))).heap[b]? = some (.cells #[.pointer (some ⟨b, 0, none⟩), v] t (0, 0)) := by
      simp [World.setCell, Array.getElem?_modify, h.blk]
    have := k.blk
    rw [hb] at this
    simp only [Option.some.injEq, Obj.cells.injEq] at this
    obtain ⟨h1, _⟩ := this
    have h2 : v' = v := by simpa using (congrArg (fun a : Array Value => a.getD 1 undef) h1).symm
    subst h2
    exact ⟨hb, .inr rfl, k.own, k.ne⟩
  · refine (cc_used b w hc).mono ?_
    rintro e w' ⟨rfl, rfl⟩
    exact ⟨rfl, ⟨rfl, rfl, rfl, Nat.le_refl _, fun _ _ _ _ => rfl, ⟨_, v, h, .inl rfl⟩⟩, h⟩
end Go.Proofs.YtpbkdcfjlbdgfaaDoor
/- (*strings.Builder).WriteString. -/
set_option linter.unusedVariables false
set_option linter.unusedSimpArgs false
namespace Go.Proofs.YtpbkdcfjlbdgfaaDoor
open Go Go.Ev Go.RowKit
theorem ubyte2 : Tryd.prog.underlying 68 = some (.slice 5) := by kernel_rfl
theorem ustr2 : Tryd.prog.underlying 9 = some .string := by kernel_rfl
theorem infB2 : (Tryd.prog.info? 5).map (fun i => (i.zero, i.size, i.bytes)) = some (some (.int .u8 0), 1, 1) := by kernel_rfl
set_option maxHeartbeats 2000000 in
set_option maxRecDepth 100000 in
theorem ws_at {t b : Nat} {p v : Value} {bs : List UInt8} (ht : bldT t = true) {w : World} (h : BldAt w t 5 b p v bs) (s : ByteArray) (hlen : bs.length + s.size ≤ 140737488355328) :
    Calls Tryd.prog 43 #[.pointer (some ⟨b, 0, none⟩), .string s] w fun e w' => e = .returned (.tuple #[.int .i64 s.size, .nilIface]) ∧ BldTo w w' t 5 b v (bs ++ s.data.toList) := by
  obtain ⟨i0, hi, hz0, hz1, hz2⟩ := info_parts infB2
  go_enter Tryd.func43, Tryd.ntmps43
  go_wp2_with (go_at_call 94; refine (cc_at ht h).mono ?_)
  rintro e w1 ⟨rfl, hb1, h1⟩
  have c0 : w1.cell? ⟨b, 0, none⟩ = some (.pointer (some ⟨b, 0, none⟩)) := by rw [Lib.cell_of_heap h1.blk]; rfl
  have c1 : w1.cell? ⟨b, 1, none⟩ = some v := by rw [Lib.cell_of_heap h1.blk]; rfl
  go_wp2_with (at_builtin; refine wpList_app_str (t := 68) (u := 9) rfl rfl ubyte2 ustr2 hi hz0 hz1 hz2 rfl h1.own (s := s) rfl hlen ?_)
  intro v' w2 hown' hgrow hv
  have hlt : b < w1.heap.size := (Array.getElem?_eq_some_iff.1 h1.blk).1
  have hb2 : w2.heap[b]? = some (.cells #[.pointer (some ⟨b, 0, none⟩), v] t (0, 0)) := by
    rw [hgrow.block b hlt (fun e => h1.ne e.symm)]
    exact h1.blk
  have d0 : w2.cell? ⟨b, 0, none⟩ = some (.pointer (some ⟨b, 0, none⟩)) := by rw [Lib.cell_of_heap hb2]; rfl
  have d1 : w2.cell? ⟨b, 1, none⟩ = some v := by rw [Lib.cell_of_heap hb2]; rfl
  have f1 : w2.frozen? ⟨b, 1, none⟩ = false := Lib.frozen_of_heap hb2 1
  have hfin := BldAt.wrote hb1 h1 (bs' := bs ++ s.data.toList) (by rw [byteVals_str]; simpa using hown') hgrow hv
  obtain ⟨ao, n', cap, rfl⟩ : ∃ ao n' cap, v' = .slice ao n' cap := by
    rcases hown'.2 with ⟨hv, _⟩ | ⟨g, cap, cur, hv, _⟩
    · exact ⟨_, _, _, hv⟩
    · exact ⟨_, _, _, hv⟩
  go_wp2
  go_ret2
  exact ⟨rfl, hfin⟩
/-- A text is written. -/
def gWS : List SV → Nat → Nat → List UInt8 → Option (Prop × SV × List UInt8)
  | [.d (.v (.string s))], t, u, bs => if bldT t = true ∧ u = 5 then some (bs.length + s.size ≤ 140737488355328, .tup [.d (.v (.int .i64 s.size)), .d (.v .nilIface)], bs ++ s.data.toList) else none
  | _, _, _, _ => none
theorem sWS {G : World → Prop} : Sound G Tryd.prog 43 (bldC gWS) := by
  refine bld_sound ⟨Tryd.f43, by kernel_rfl, by kernel_rfl, by kernel_rfl⟩ ?_
  intro args t u bs p x bs' hg hp w b q v hb c m vs hc ha
  unfold gWS at hg
  split at hg
  · obtain ⟨⟨h1, rfl⟩, hg2⟩ := Option.ite_none_right_eq_some.1 hg
    simp only [Option.some.injEq, Prod.mk.injEq] at hg2
    obtain ⟨rfl, rfl, rfl⟩ := hg2
    match vs, ha with
    | [y], ha =>
      simp only [CnL, and_true] at ha
      rw [of_v ha]
      exact ⟨_, fun m n c => by simp only [Cn]; exact ⟨_, rfl, by simp only [CnL, Cn, and_true]; exact ⟨⟨rfl, rfl⟩, ⟨rfl, rfl⟩⟩⟩, ws_at h1 hb _ hp⟩
    | [], ha => simp [CnL] at ha
    | _ :: _ :: _, ha => simp [CnL] at ha
  · simp only [reduceCtorEq] at hg
end Go.Proofs.YtpbkdcfjlbdgfaaDoor
set_option linter.unusedVariables false
set_option linter.unusedSimpArgs false
namespace Go.Proofs.YtpbkdcfjlbdgfaaDoor
open Go Go.Ev
set_option maxRecDepth 100000
variable {G : World → Prop}
def cntB (n : Int) : Bool := decide (0 ≤ n) && decide (n ≤ 2147483647)
def CCount : Contract := pureC fun args => match args with
  | [.d (.v (.int .i64 n))] => some (True, .d (.v (.bool (cntB n))))
  | _ => none
theorem s93 : Sound G Tryd.prog 93 CCount := by
  refine sd93 (T := tabT []) tab_nil (pureC_lawful _) (pure_hX fun args p x K h hp hk => ?_)
  split at h <;> simp only [Option.some.injEq, Prod.mk.injEq, reduceCtorEq] at h
  obtain ⟨rfl, rfl⟩ := h
  refine ⟨Nat.le_of_ble_eq_true rfl, ?_⟩
  simp -dsimp -implicitDefEqProofs only [S93, R93, ↓Ev.xStp_eq, ↓Ev.P, Ev.Q, eq_self, forall_eq_or_imp, implies_true, forall_const, forall_eq, ↓reduceIte, reduceIte, Nat.reduceEqDiff, Nat.reduceAdd, reduceCtorEq, Nat.reduceSub, Int.reduceToNat, Int.reduceLE, Int.reduceLT, Int.reduceNeg, Nat.reduceBEq, Nat.reduceMul, Nat.reduceLeDiff, Nat.reduceMod, UInt8.reduceOfNat, Nat.reduceLT, Int.reduceEq, Int.reduceAdd, Int.reduceSub, Int.reduceMul]
  exact hk
theorem s95 : Sound G Tryd.prog 95 CCount := by
  refine sd95 (T := tabT []) tab_nil (pureC_lawful _) (pure_hX fun args p x K h hp hk => ?_)
  split at h <;> simp only [Option.some.injEq, Prod.mk.injEq, reduceCtorEq] at h
  obtain ⟨rfl, rfl⟩ := h
  refine ⟨Nat.le_of_ble_eq_true rfl, ?_⟩
  simp -dsimp -implicitDefEqProofs only [S95, R95, ↓Ev.xStp_eq, ↓Ev.P, Ev.Q, eq_self, forall_eq_or_imp, implies_true, forall_const, forall_eq, ↓reduceIte, reduceIte, Nat.reduceEqDiff, Nat.reduceAdd, reduceCtorEq, Nat.reduceSub, Int.reduceToNat, Int.reduceLE, Int.reduceLT, Int.reduceNeg, Nat.reduceBEq, Nat.reduceMul, Nat.reduceLeDiff, Nat.reduceMod, UInt8.reduceOfNat, Nat.reduceLT, Int.reduceEq, Int.reduceAdd, Int.reduceSub, Int.reduceMul]
  exact hk
/-- A range. -/
def spanT (at_ n : Int) : List UInt8 := if n = 1 then Lib.itoa (at_ + 1) else Lib.itoa (at_ + 1) ++ [44] ++ Lib.itoa (at_ + n)
def CSpan : Contract := pureC fun args => match args with
  | [.d (.v (.int .i64 a)), .d (.v (.int .i64 n))] => some ((0 ≤ a ∧ a ≤ 4294967296) ∧ (0 ≤ n ∧ n ≤ 4294967296), .d (.v (str (spanT a n))))
  | _ => none
theorem span_len {a n : Int} (h : (0 ≤ a ∧ a ≤ 4294967296) ∧ (0 ≤ n ∧ n ≤ 4294967296)) : (spanT a n).length ≤ 43 := by
  have h1 := itoa_len (n := a + 1) (by omega)
  have h2 := itoa_len (n := a + n) (by omega)
  unfold spanT
  split
  · omega
  · simp only [List.length_append, List.length_cons, List.length_nil]; omega
theorem s42 (hG : ∀ w, G w → Pow10 w) : Sound G Tryd.prog 42 CSpan := by
  refine sd42 (T := tabT [(32, CItoa)]) (tab_cons (s32 hG) tab_nil) (pureC_lawful _) (pure_hX fun args p x K h hp hk => ?_)
  split at h <;> simp only [Option.some.injEq, Prod.mk.injEq, reduceCtorEq] at h
  obtain ⟨rfl, rfl⟩ := h
  refine ⟨Nat.le_of_ble_eq_true rfl, ?_⟩
  rename_i a n
  have h1 := itoa_len (n := a + 1) (by omega)
  have h2 := itoa_len (n := a + n) (by omega)
  simp -dsimp -implicitDefEqProofs only [S42, R42, CItoa, List.length_append, ↓Ev.xStp_eq, ↓Ev.P, Ev.Q, eq_self, forall_eq_or_imp, implies_true, forall_const, forall_eq, ↓reduceIte, reduceIte, Nat.reduceEqDiff, Nat.reduceAdd, reduceCtorEq, Nat.reduceSub, Int.reduceToNat, Int.reduceLE, Int.reduceLT, Int.reduceNeg, Nat.reduceBEq, Nat.reduceMul, Nat.reduceLeDiff, Nat.reduceMod, UInt8.reduceOfNat, Nat.reduceLT, Int.reduceEq, Int.reduceAdd, Int.reduceSub, Int.reduceMul]
  by_cases hn : n = 1
  · rw [spanT, if_pos hn] at hk
    repeat' (first | with_reducible assumption | refine And.intro ?_ ?_ | intro _)
    all_goals first | omega | exact hk
  · rw [spanT, if_neg hn] at hk
    repeat' (first | with_reducible assumption | refine And.intro ?_ ?_ | intro _)
    all_goals first | omega | exact hk
theorem s60 : Sound G Tryd.prog 60 CSpan := by
  refine sd60 (T := tabT [(33, CItoa)]) (tab_cons s33 tab_nil) (pureC_lawful _) (pure_hX fun args p x K h hp hk => ?_)
  split at h <;> simp only [Option.some.injEq, Prod.mk.injEq, reduceCtorEq] at h
  obtain ⟨rfl, rfl⟩ := h
  refine ⟨Nat.le_of_ble_eq_true rfl, ?_⟩
  rename_i a n
  have h1 := itoa_len (n := a + 1) (by omega)
  have h2 := itoa_len (n := a + n) (by omega)
  simp -dsimp -implicitDefEqProofs only [S60, R60, CItoa, List.length_append, ↓Ev.xStp_eq, ↓Ev.P, Ev.Q, eq_self, forall_eq_or_imp, implies_true, forall_const, forall_eq, ↓reduceIte, reduceIte, Nat.reduceEqDiff, Nat.reduceAdd, reduceCtorEq, Nat.reduceSub, Int.reduceToNat, Int.reduceLE, Int.reduceLT, Int.reduceNeg, Nat.reduceBEq, Nat.reduceMul, Nat.reduceLeDiff, Nat.reduceMod, UInt8.reduceOfNat, Nat.reduceLT, Int.reduceEq, Int.reduceAdd, Int.reduceSub, Int.reduceMul]
  by_cases hn : n = 1
  · rw [spanT, if_pos hn] at hk
    repeat' (first | with_reducible assumption | refine And.intro ?_ ?_ | intro _)
    all_goals first | omega | exact hk
  · rw [spanT, if_neg hn] at hk
    repeat' (first | with_reducible assumption | refine And.intro ?_ ?_ | intro _)
    all_goals first | omega | exact hk
/-- The line that says that a line feed is missing. -/
abbrev markT : List UInt8 := [92, 32, 78, 111, 32, 110, 101, 119, 108, 105, 110, 101, 32, 97, 116, 32, 101, 110, 100, 32, 111, 102, 32, 102, 105, 108, 101, 10]
def lineT (ahead s : List UInt8) : List UInt8 := if (bareS s).2 then ahead ++ s else ahead ++ s ++ [10] ++ markT
def CLine : Contract := pureC fun args => match args with
  | [.d (.v (.string a)), .d (.v (.string s))] => some (a.size ≤ 1099511627776 ∧ s.size ≤ 1099511627776, .d (.v (str (lineT a.data.toList s.data.toList))))
  | _ => none
theorem s68 : Sound G Tryd.prog 68 CLine := by
  refine sd68 (T := tabT [(61, CBare)]) (tab_cons s61 tab_nil) (pureC_lawful _) (pure_hX fun args p x K h hp hk => ?_)
  split at h <;> simp only [Option.some.injEq, Prod.mk.injEq, reduceCtorEq] at h
  obtain ⟨rfl, rfl⟩ := h
  refine ⟨Nat.le_of_ble_eq_true rfl, ?_⟩
  rename_i a s
  obtain ⟨a, rfl⟩ := ex_str a
  obtain ⟨s, rfl⟩ := ex_str s
  simp only [sem_str] at hk hp
  simp -dsimp -implicitDefEqProofs only [S68, R68, CBare, List.length_append, ↓Ev.xStp_eq, ↓Ev.P, Ev.Q, eq_self, forall_eq_or_imp, implies_true, forall_const, forall_eq, ↓reduceIte, reduceIte, Nat.reduceEqDiff, Nat.reduceAdd, reduceCtorEq, Nat.reduceSub, Int.reduceToNat, Int.reduceLE, Int.reduceLT, Int.reduceNeg, Nat.reduceBEq, Nat.reduceMul, Nat.reduceLeDiff, Nat.reduceMod, UInt8.reduceOfNat, Nat.reduceLT, Int.reduceEq, Int.reduceAdd, Int.reduceSub, Int.reduceMul]
  cases hb : (bareS s).2
  · rw [lineT, hb, if_neg (by decide)] at hk
    repeat' (first | with_reducible assumption | refine And.intro ?_ ?_ | intro _)
    all_goals first | omega | exact hk | contradiction
  · rw [lineT, hb, if_pos rfl] at hk
    repeat' (first | with_reducible assumption | refine And.intro ?_ ?_ | intro _)
    all_goals first | omega | exact hk | contradiction
end Go.Proofs.YtpbkdcfjlbdgfaaDoor
set_option linter.unusedVariables false
set_option linter.unusedSimpArgs false
namespace Go.Proofs.YtpbkdcfjlbdgfaaDoor
open Go Go.Ev
set_option maxRecDepth 100000
variable {G : World → Prop}
abbrev Q4 := Int × Int × Int × Int
/-- What is wrong with one change by itself. -/
def badC (c : Q4) : Prop := ((((cntB c.1 = false ∨ cntB c.2.1 = false) ∨ cntB c.2.2.1 = false) ∨ cntB c.2.2.2 = false) ∨ (c.2.1 = 0 ∧ c.2.2.2 = 0))
def outC (f : Bool) (a b : Int) (c : Q4) : Prop := (c.1 - a < 0 ∨ (f = false ∧ c.1 - a = 0)) ∨ ¬ c.1 - a = c.2.2.1 - b
instance (c : Q4) : Decidable (badC c) := by unfold badC; infer_instance
instance (f : Bool) (a b : Int) (c : Q4) : Decidable (outC f a b c) := by unfold outC; infer_instance
def chkL : Bool → Int → Int → List Q4 → Option (Int × Int)
  | _, a, b, [] => some (a, b)
  | f, a, b, c :: r => if badC c then none else if outC f a b c then none else chkL false (c.1 + c.2.1) (c.2.2.1 + c.2.2.2) r
def chk (l : List Q4) (n m : Int) : Int := match chkL true 0 0 l with
  | none => 50
  | some (a, b) => if (n < a ∨ m < b) ∨ ¬ n - a = m - b then 50 else 0
theorem chk_none {l : List Q4} {n m : Int} (h : chkL true 0 0 l = none) : chk l n m = 50 := by rw [chk, h]
theorem chk_some {l : List Q4} {n m a b : Int} (h : chkL true 0 0 l = some (a, b)) : chk l n m = if (n < a ∨ m < b) ∨ ¬ n - a = m - b then 50 else 0 := by rw [chk, h]
theorem q4_drop {l : List Q4} {i : Nat} (h : i < l.length) : l.drop i = l.getD i (0, 0, 0, 0) :: l.drop (i + 1) := by
  rw [List.drop_eq_getElem_cons h]; simp [List.getD_eq_getElem?_getD, List.getElem?_eq_getElem h]
theorem cnt_in {n : Int} (h : ¬ cntB n = false) : 0 ≤ n ∧ n ≤ 2147483647 := by simpa [cntB] using h
theorem okC {c : Q4} (h : ¬ badC c) : (0 ≤ c.1 ∧ c.1 ≤ 2147483647) ∧ (0 ≤ c.2.1 ∧ c.2.1 ≤ 2147483647) ∧ (0 ≤ c.2.2.1 ∧ c.2.2.1 ≤ 2147483647) ∧ (0 ≤ c.2.2.2 ∧ c.2.2.2 ≤ 2147483647) ∧ ¬ (c.2.1 = 0 ∧ c.2.2.2 = 0) :=
  ⟨cnt_in fun e => h (.inl (.inl (.inl (.inl e)))), cnt_in fun e => h (.inl (.inl (.inl (.inr e)))), cnt_in fun e => h (.inl (.inl (.inr e))), cnt_in fun e => h (.inl (.inr e)), fun e => h (.inr e)⟩
theorem cnt4 {A AN B BN : Int} {Z : Prop} (h : (((cntB A = true ∧ cntB AN = true) ∧ cntB B = true) ∧ cntB BN = true) ∧ Z) : (0 ≤ A ∧ A ≤ 2147483647) ∧ (0 ≤ AN ∧ AN ≤ 2147483647) ∧ (0 ≤ B ∧ B ≤ 2147483647) ∧ (0 ≤ BN ∧ BN ≤ 2147483647) := by
  have k : ∀ n, cntB n = true → 0 ≤ n ∧ n ≤ 2147483647 := fun n h => by simpa [cntB] using h
  exact ⟨k _ h.1.1.1.1, k _ h.1.1.1.2, k _ h.1.1.2, k _ h.1.2⟩
theorem good4 {A AN B BN : Int} (h : (((cntB A = true ∧ cntB AN = true) ∧ cntB B = true) ∧ cntB BN = true) ∧ (¬ AN = 0 ∨ ¬ BN = 0)) : ¬ badC (A, AN, B, BN) := by
  rintro ((((e | e) | e) | e) | e)
  · rw [h.1.1.1.1] at e; cases e
  · rw [h.1.1.1.2] at e; cases e
  · rw [h.1.1.2] at e; cases e
  · rw [h.1.2] at e; cases e
  · exact h.2.elim (fun k => k e.1) fun k => k e.2
theorem chkL_bad {f : Bool} {a b : Int} {c : Q4} {r : List Q4} (h : badC c) : chkL f a b (c :: r) = none := by rw [chkL, if_pos h]
theorem chkL_out {f : Bool} {a b : Int} {c : Q4} {r : List Q4} (h : ¬ badC c) (h2 : outC f a b c) : chkL f a b (c :: r) = none := by rw [chkL, if_neg h, if_pos h2]
theorem chkL_in {f : Bool} {a b : Int} {c : Q4} {r : List Q4} (h : ¬ badC c) (h2 : ¬ outC f a b c) : chkL f a b (c :: r) = chkL false (c.1 + c.2.1) (c.2.2.1 + c.2.2.2) r := by rw [chkL, if_neg h, if_neg h2]
def CCheck : Contract := pureC fun args => match args with
  | [.d (.sl rows), .d (.v (.int .i64 n)), .d (.v (.int .i64 m))] => (unQ4 rows).map fun l => (l.length ≤ 1099511627776 ∧ (0 ≤ n ∧ n ≤ 1099511627776) ∧ (0 ≤ m ∧ m ≤ 1099511627776), .d (.v (.int .i64 (chk l n m))))
  | _ => none
theorem s41 : Sound G Tryd.prog 41 CCheck := by
  refine sd41 (T := tabT [(93, CCount)]) (tab_cons s93 tab_nil) (pureC_lawful _) (pure_hX fun args p x K h hp hk => ?_)
  split at h <;> simp only [Option.map_eq_some_iff, Prod.mk.injEq, reduceCtorEq] at h
  obtain ⟨l, hl, rfl, rfl⟩ := h
  rw [unQ4_eq hl] at *
  refine ⟨Nat.le_of_ble_eq_true rfl, ?_⟩
  rename_i n m
  obtain ⟨hl1, hn, hm⟩ := hp
  simp -dsimp -implicitDefEqProofs only [S41, R41, q4Rows_len, ↓Ev.xStp_eq, ↓Ev.P, Ev.Q, eq_self, forall_eq_or_imp, implies_true, forall_const, forall_eq, ↓reduceIte, reduceIte, Nat.reduceEqDiff, Nat.reduceAdd, reduceCtorEq, Nat.reduceSub, Int.reduceToNat, Int.reduceLE, Int.reduceLT, Int.reduceNeg, Nat.reduceBEq, Nat.reduceMul, Nat.reduceLeDiff, Nat.reduceMod, UInt8.reduceOfNat, Nat.reduceLT, Int.reduceEq, Int.reduceAdd, Int.reduceSub, Int.reduceMul]
  refine xLoop_intro (fun k st => ∃ (i : Nat) (a b : Int), i ≤ l.length ∧ k = l.length - i ∧ chkL (decide (i = 0)) a b (l.drop i) = chkL true 0 0 l ∧ (0 ≤ a ∧ a ≤ 4294967294) ∧ (0 ≤ b ∧ b ≤ 4294967294) ∧
      st = ⟨[(1, .d (.v (.int .i64 n))), (2, .d (.v (.int .i64 m))), (7, .d (.v (.int .i64 a))), (8, .d (.v (.int .i64 b))), (12, .d (.sl (q4Rows l))), (13, .d (.v (.int .i64 l.length))), (14, .d (.v (.int .i64 i)))], 0, []⟩) l.length [] ?_ ?_ ?_
  · simp -dsimp -implicitDefEqProofs only [↓Ev.xStp_eq, ↓Ev.P, Ev.Q, eq_self, forall_eq_or_imp, implies_true, forall_const, forall_eq, ↓reduceIte, reduceIte, Nat.reduceEqDiff, Nat.reduceAdd, reduceCtorEq, Nat.reduceSub, Int.reduceToNat, Int.reduceLE, Int.reduceLT, Int.reduceNeg, Nat.reduceBEq, Nat.reduceMul, Nat.reduceLeDiff, Nat.reduceMod, UInt8.reduceOfNat, Nat.reduceLT, Int.reduceEq, Int.reduceAdd, Int.reduceSub, Int.reduceMul]
  · simp -dsimp -implicitDefEqProofs only [↓Ev.xStp_eq, ↓Ev.P, Ev.Q, eq_self, forall_eq_or_imp, implies_true, forall_const, forall_eq, ↓reduceIte, reduceIte, Nat.reduceEqDiff, Nat.reduceAdd, reduceCtorEq, Nat.reduceSub, Int.reduceToNat, Int.reduceLE, Int.reduceLT, Int.reduceNeg, Nat.reduceBEq, Nat.reduceMul, Nat.reduceLeDiff, Nat.reduceMod, UInt8.reduceOfNat, Nat.reduceLT, Int.reduceEq, Int.reduceAdd, Int.reduceSub, Int.reduceMul]
    exact ⟨0, 0, 0, by omega, by omega, rfl, by omega, by omega, rfl⟩
  · rintro k st ⟨i, a, b, hi, hk2, hc, ha, hb, rfl⟩
    by_cases hil : i < l.length
    · have hg := q4Rows_get hil
      have hd := q4_drop hil
      generalize l.getD i (0, 0, 0, 0) = c at hg hd
      obtain ⟨A, AN, B, BN⟩ := c
      have hi3 : (i : Int) < l.length := by omega
      simp -dsimp -implicitDefEqProofs only [hi3, ↓Ev.P, Ev.Q, eq_self, forall_eq_or_imp, implies_true, forall_const, forall_eq, ↓reduceIte, reduceIte, Nat.reduceEqDiff, Nat.reduceAdd, reduceCtorEq, Nat.reduceSub, Int.reduceToNat, Int.reduceLE, Int.reduceLT, Int.reduceNeg, Nat.reduceBEq, Nat.reduceMul, Nat.reduceLeDiff, Nat.reduceMod, UInt8.reduceOfNat, Nat.reduceLT, Int.reduceEq, Int.reduceAdd, Int.reduceSub, Int.reduceMul]
      repeat' (first | with_reducible assumption | refine And.intro ?_ ?_ | intro _ | (rw [Ev.xStp_eq]; simp -dsimp -implicitDefEqProofs only [hg, q4Row, CCount, ↓Ev.P, Ev.Q, eq_self, forall_eq_or_imp, implies_true, forall_const, forall_eq, ↓reduceIte, reduceIte, Nat.reduceEqDiff, Nat.reduceAdd, reduceCtorEq, Nat.reduceSub, Int.reduceToNat, Int.reduceLE, Int.reduceLT, Int.reduceNeg, Nat.reduceBEq, Nat.reduceMul, Nat.reduceLeDiff, Nat.reduceMod, UInt8.reduceOfNat, Nat.reduceLT, Int.reduceEq, Int.reduceAdd, Int.reduceSub, Int.reduceMul]))
      all_goals try omega
      all_goals try (have hq := cnt4 (by assumption); omega)
      · rename_i h
        rw [hd, chkL_bad (show badC (A, AN, B, BN) from h)] at hc
        rw [chk_none hc.symm] at hk; exact hk
      · rename_i h h2
        rw [hd, chkL_out (good4 h) ?_] at hc
        · rw [chk_none hc.symm] at hk; exact hk
        · rcases h2 with (h2 | h2) | h2
          · exact .inl (.inl h2)
          · exact .inl (.inr ⟨by simp; omega, h2.2⟩)
          · exact .inr h2
      · rename_i h h2
        have hq := cnt4 h
        refine xAgain_intro (l.length - (i + 1)) [] (by omega) (by simp -dsimp -implicitDefEqProofs only [↓Ev.xStp_eq, ↓Ev.P, Ev.Q, eq_self, forall_eq_or_imp, implies_true, forall_const, forall_eq, ↓reduceIte, reduceIte, Nat.reduceEqDiff, Nat.reduceAdd, reduceCtorEq, Nat.reduceSub, Int.reduceToNat, Int.reduceLE, Int.reduceLT, Int.reduceNeg, Nat.reduceBEq, Nat.reduceMul, Nat.reduceLeDiff, Nat.reduceMod, UInt8.reduceOfNat, Nat.reduceLT, Int.reduceEq, Int.reduceAdd, Int.reduceSub, Int.reduceMul]) ⟨i + 1, A + AN, B + BN, by omega, rfl, ?_, by omega, by omega, ?_⟩
        · rw [← hc, hd, chkL_in (good4 h) ?_]
          · simp
          · rintro ((k | k) | k)
            · exact h2.1.1 k
            · obtain ⟨k1, k2⟩ := k
              simp only [decide_eq_false_iff_not] at k1
              exact h2.1.2.elim (fun e => e (by omega)) fun e => e k2
            · exact k h2.2
        · simp -dsimp -implicitDefEqProofs only [↓Ev.xStp_eq, ↓Ev.P, Ev.Q, eq_self, forall_eq_or_imp, implies_true, forall_const, forall_eq, ↓reduceIte, reduceIte, Nat.reduceEqDiff, Nat.reduceAdd, reduceCtorEq, Nat.reduceSub, Int.reduceToNat, Int.reduceLE, Int.reduceLT, Int.reduceNeg, Nat.reduceBEq, Nat.reduceMul, Nat.reduceLeDiff, Nat.reduceMod, UInt8.reduceOfNat, Nat.reduceLT, Int.reduceEq, Int.reduceAdd, Int.reduceSub, Int.reduceMul]
          rfl
    · have hi3 : ¬ (i : Int) < l.length := by omega
      simp -dsimp -implicitDefEqProofs only [hi3, ↓Ev.P, Ev.Q, eq_self, forall_eq_or_imp, implies_true, forall_const, forall_eq, ↓reduceIte, reduceIte, Nat.reduceEqDiff, Nat.reduceAdd, reduceCtorEq, Nat.reduceSub, Int.reduceToNat, Int.reduceLE, Int.reduceLT, Int.reduceNeg, Nat.reduceBEq, Nat.reduceMul, Nat.reduceLeDiff, Nat.reduceMod, UInt8.reduceOfNat, Nat.reduceLT, Int.reduceEq, Int.reduceAdd, Int.reduceSub, Int.reduceMul]
      repeat' (first | with_reducible assumption | refine And.intro ?_ ?_ | intro _ | (rw [Ev.xStp_eq]; simp -dsimp -implicitDefEqProofs only [↓Ev.P, Ev.Q, eq_self, forall_eq_or_imp, implies_true, forall_const, forall_eq, ↓reduceIte, reduceIte, Nat.reduceEqDiff, Nat.reduceAdd, reduceCtorEq, Nat.reduceSub, Int.reduceToNat, Int.reduceLE, Int.reduceLT, Int.reduceNeg, Nat.reduceBEq, Nat.reduceMul, Nat.reduceLeDiff, Nat.reduceMod, UInt8.reduceOfNat, Nat.reduceLT, Int.reduceEq, Int.reduceAdd, Int.reduceSub, Int.reduceMul]))
      all_goals try omega
      all_goals
        rename_i h
        rw [List.drop_of_length_le (by omega), chkL] at hc
        rw [chk_some hc.symm] at hk
      · rw [if_pos h] at hk; exact hk
      · rw [if_neg (by rintro ((k | k) | k); exact h.1.1 k; exact h.1.2 k; exact k h.2)] at hk; exact hk
end Go.Proofs.YtpbkdcfjlbdgfaaDoor
set_option linter.unusedVariables false
set_option linter.unusedSimpArgs false
namespace Go.Proofs.YtpbkdcfjlbdgfaaDoor
open Go Go.Ev
set_option maxRecDepth 100000
variable {G : World → Prop}
theorem bad_sum {A AN B BN : Int} (h : (((cntB A = false ∨ cntB AN = false) ∨ cntB B = false) ∨ cntB BN = false) ∨ AN + BN = 0) : badC (A, AN, B, BN) := by
  by_cases k : (((cntB A = false ∨ cntB AN = false) ∨ cntB B = false) ∨ cntB BN = false)
  · rcases k with ((k | k) | k) | k
    · exact .inl (.inl (.inl (.inl k)))
    · exact .inl (.inl (.inl (.inr k)))
    · exact .inl (.inl (.inr k))
    · exact .inl (.inr k)
  · have h2 : AN + BN = 0 := h.elim (fun e => absurd e k) id
    have h3 := cnt_in (n := AN) fun e => k (.inl (.inl (.inr e)))
    have h4 := cnt_in (n := BN) fun e => k (.inr e)
    exact .inr ⟨by simp only; omega, by simp only; omega⟩
theorem s46 : Sound G Tryd.prog 46 CCheck := by
  refine sd46 (T := tabT [(95, CCount)]) (tab_cons s95 tab_nil) (pureC_lawful _) (pure_hX fun args p x K h hp hk => ?_)
  split at h <;> simp only [Option.map_eq_some_iff, Prod.mk.injEq, reduceCtorEq] at h
  obtain ⟨l, hl, rfl, rfl⟩ := h
  rw [unQ4_eq hl] at *
  refine ⟨Nat.le_of_ble_eq_true rfl, ?_⟩
  rename_i n m
  obtain ⟨hl1, hn, hm⟩ := hp
  have hn0 : ¬ n < 0 := by omega
  have hm0 : ¬ m < 0 := by omega
  simp -dsimp -implicitDefEqProofs only [S46, R46, q4Rows_len, hn0, hm0, ↓Ev.xStp_eq, ↓Ev.P, Ev.Q, eq_self, forall_eq_or_imp, implies_true, forall_const, forall_eq, ↓reduceIte, reduceIte, Nat.reduceEqDiff, Nat.reduceAdd, reduceCtorEq, Nat.reduceSub, Int.reduceToNat, Int.reduceLE, Int.reduceLT, Int.reduceNeg, Nat.reduceBEq, Nat.reduceMul, Nat.reduceLeDiff, Nat.reduceMod, UInt8.reduceOfNat, Nat.reduceLT, Int.reduceEq, Int.reduceAdd, Int.reduceSub, Int.reduceMul]
  refine xLoop_intro (fun k st => ∃ (i : Nat) (a b : Int), i ≤ l.length ∧ k = l.length - i ∧ chkL (decide (i = 0)) a b (l.drop i) = chkL true 0 0 l ∧ (0 ≤ a ∧ a ≤ 4294967294) ∧ (0 ≤ b ∧ b ≤ 4294967294) ∧
      st = ⟨[(0, .d (.sl (q4Rows l))), (1, .d (.v (.int .i64 n))), (2, .d (.v (.int .i64 m))), (7, .d (.v (.int .i64 a))), (8, .d (.v (.int .i64 b))), (9, .d (.v (.int .i64 i)))], 0, []⟩) l.length [] ?_ ?_ ?_
  · simp -dsimp -implicitDefEqProofs only [↓Ev.xStp_eq, ↓Ev.P, Ev.Q, eq_self, forall_eq_or_imp, implies_true, forall_const, forall_eq, ↓reduceIte, reduceIte, Nat.reduceEqDiff, Nat.reduceAdd, reduceCtorEq, Nat.reduceSub, Int.reduceToNat, Int.reduceLE, Int.reduceLT, Int.reduceNeg, Nat.reduceBEq, Nat.reduceMul, Nat.reduceLeDiff, Nat.reduceMod, UInt8.reduceOfNat, Nat.reduceLT, Int.reduceEq, Int.reduceAdd, Int.reduceSub, Int.reduceMul]
  · simp -dsimp -implicitDefEqProofs only [↓Ev.xStp_eq, ↓Ev.P, Ev.Q, eq_self, forall_eq_or_imp, implies_true, forall_const, forall_eq, ↓reduceIte, reduceIte, Nat.reduceEqDiff, Nat.reduceAdd, reduceCtorEq, Nat.reduceSub, Int.reduceToNat, Int.reduceLE, Int.reduceLT, Int.reduceNeg, Nat.reduceBEq, Nat.reduceMul, Nat.reduceLeDiff, Nat.reduceMod, UInt8.reduceOfNat, Nat.reduceLT, Int.reduceEq, Int.reduceAdd, Int.reduceSub, Int.reduceMul]
    exact ⟨0, 0, 0, by omega, by omega, rfl, by omega, by omega, rfl⟩
  · rintro k st ⟨i, a, b, hi, hk2, hc, ha, hb, rfl⟩
    by_cases hil : i < l.length
    · have hg := q4Rows_get hil
      have hd := q4_drop hil
      generalize l.getD i (0, 0, 0, 0) = c at hg hd
      obtain ⟨A, AN, B, BN⟩ := c
      have hi3 : (i : Int) < l.length := by omega
      simp -dsimp -implicitDefEqProofs only [hi3, q4Rows_len, ↓Ev.P, Ev.Q, eq_self, forall_eq_or_imp, implies_true, forall_const, forall_eq, ↓reduceIte, reduceIte, Nat.reduceEqDiff, Nat.reduceAdd, reduceCtorEq, Nat.reduceSub, Int.reduceToNat, Int.reduceLE, Int.reduceLT, Int.reduceNeg, Nat.reduceBEq, Nat.reduceMul, Nat.reduceLeDiff, Nat.reduceMod, UInt8.reduceOfNat, Nat.reduceLT, Int.reduceEq, Int.reduceAdd, Int.reduceSub, Int.reduceMul]
      repeat' (first | with_reducible assumption | refine And.intro ?_ ?_ | intro _ | (rw [Ev.xStp_eq]; simp -dsimp -implicitDefEqProofs only [hg, hi3, q4Rows_len, q4Row, CCount, ↓Ev.P, Ev.Q, eq_self, forall_eq_or_imp, implies_true, forall_const, forall_eq, ↓reduceIte, reduceIte, Nat.reduceEqDiff, Nat.reduceAdd, reduceCtorEq, Nat.reduceSub, Int.reduceToNat, Int.reduceLE, Int.reduceLT, Int.reduceNeg, Nat.reduceBEq, Nat.reduceMul, Nat.reduceLeDiff, Nat.reduceMod, UInt8.reduceOfNat, Nat.reduceLT, Int.reduceEq, Int.reduceAdd, Int.reduceSub, Int.reduceMul]))
      all_goals try omega
      all_goals try (have hq := cnt4 (by assumption); omega)
      all_goals try (have hq := cnt4 ⟨by assumption, trivial⟩; omega)
      · rename_i h
        rw [hd, chkL_bad (bad_sum h)] at hc
        rw [chk_none hc.symm] at hk; exact hk
      · rename_i h h2
        have hq := cnt4 h
        have hg4 := good4 (AN := AN) (BN := BN) ⟨h.1, by have := h.2; omega⟩
        rw [hd, chkL_out hg4 ?_] at hc
        · rw [chk_none hc.symm] at hk; exact hk
        · rcases h2 with (h2 | h2) | h2
          · exact .inr h2
          · exact .inl (.inl (by simp only; omega))
          · exact .inl (.inr ⟨by simp; omega, by simp only; omega⟩)
      · rename_i h h2
        have hq := cnt4 h
        have hg4 := good4 (AN := AN) (BN := BN) ⟨h.1, by have := h.2; omega⟩
        refine xAgain_intro (l.length - (i + 1)) [] (by omega) (by simp -dsimp -implicitDefEqProofs only [↓Ev.xStp_eq, ↓Ev.P, Ev.Q, eq_self, forall_eq_or_imp, implies_true, forall_const, forall_eq, ↓reduceIte, reduceIte, Nat.reduceEqDiff, Nat.reduceAdd, reduceCtorEq, Nat.reduceSub, Int.reduceToNat, Int.reduceLE, Int.reduceLT, Int.reduceNeg, Nat.reduceBEq, Nat.reduceMul, Nat.reduceLeDiff, Nat.reduceMod, UInt8.reduceOfNat, Nat.reduceLT, Int.reduceEq, Int.reduceAdd, Int.reduceSub, Int.reduceMul]) ⟨i + 1, A + AN, B + BN, by omega, rfl, ?_, by omega, by omega, ?_⟩
        · rw [← hc, hd, chkL_in hg4 ?_]
          · simp
          · rintro ((k | k) | k)
            · simp only at k; omega
            · obtain ⟨k1, k2⟩ := k
              simp only [decide_eq_false_iff_not] at k1 k2
              exact h2.2.elim (fun e => e (by omega)) fun e => e (by omega)
            · exact k h2.1.1
        · simp -dsimp -implicitDefEqProofs only [↓Ev.xStp_eq, ↓Ev.P, Ev.Q, eq_self, forall_eq_or_imp, implies_true, forall_const, forall_eq, ↓reduceIte, reduceIte, Nat.reduceEqDiff, Nat.reduceAdd, reduceCtorEq, Nat.reduceSub, Int.reduceToNat, Int.reduceLE, Int.reduceLT, Int.reduceNeg, Nat.reduceBEq, Nat.reduceMul, Nat.reduceLeDiff, Nat.reduceMod, UInt8.reduceOfNat, Nat.reduceLT, Int.reduceEq, Int.reduceAdd, Int.reduceSub, Int.reduceMul]
          rfl
    · have hi3 : ¬ (i : Int) < l.length := by omega
      simp -dsimp -implicitDefEqProofs only [hi3, q4Rows_len, ↓Ev.P, Ev.Q, eq_self, forall_eq_or_imp, implies_true, forall_const, forall_eq, ↓reduceIte, reduceIte, Nat.reduceEqDiff, Nat.reduceAdd, reduceCtorEq, Nat.reduceSub, Int.reduceToNat, Int.reduceLE, Int.reduceLT, Int.reduceNeg, Nat.reduceBEq, Nat.reduceMul, Nat.reduceLeDiff, Nat.reduceMod, UInt8.reduceOfNat, Nat.reduceLT, Int.reduceEq, Int.reduceAdd, Int.reduceSub, Int.reduceMul]
      repeat' (first | with_reducible assumption | refine And.intro ?_ ?_ | intro _ | (rw [Ev.xStp_eq]; simp -dsimp -implicitDefEqProofs only [hi3, q4Rows_len, ↓Ev.P, Ev.Q, eq_self, forall_eq_or_imp, implies_true, forall_const, forall_eq, ↓reduceIte, reduceIte, Nat.reduceEqDiff, Nat.reduceAdd, reduceCtorEq, Nat.reduceSub, Int.reduceToNat, Int.reduceLE, Int.reduceLT, Int.reduceNeg, Nat.reduceBEq, Nat.reduceMul, Nat.reduceLeDiff, Nat.reduceMod, UInt8.reduceOfNat, Nat.reduceLT, Int.reduceEq, Int.reduceAdd, Int.reduceSub, Int.reduceMul]))
      all_goals try omega
      all_goals
        rename_i h
        rw [List.drop_of_length_le (by omega), chkL] at hc
        rw [chk_some hc.symm] at hk
      · rw [if_pos h] at hk; exact hk
      · rw [if_neg (by rintro ((k | k) | k); exact h.1.1 k; exact h.1.2 k; exact k h.2)] at hk; exact hk
end Go.Proofs.YtpbkdcfjlbdgfaaDoor
set_option linter.unusedVariables false
set_option linter.unusedSimpArgs false
namespace Go.Proofs.YtpbkdcfjlbdgfaaDoor
open Go Go.Ev
set_option maxRecDepth 100000
variable {G : World → Prop}
def CSame : Contract := pureC fun args => match args with
  | [.d (.sl a), .d (.sl b)] => (unStr a).bind fun x => (unStr b).map fun y => (x.length ≤ 1099511627776 ∧ y.length ≤ 1099511627776, .d (.v (.bool (decide (x = y)))))
  | _ => none
theorem getD_ext {l m : List (List UInt8)} (h : l.length = m.length) (h2 : ∀ i, i < l.length → l.getD i [] = m.getD i []) : l = m := by
  refine List.ext_getElem h fun i h3 h4 => ?_
  have := h2 i h3
  simpa [List.getD_eq_getElem?_getD, List.getElem?_eq_getElem h3, List.getElem?_eq_getElem h4] using this
theorem s15 : Sound G Tryd.prog 15 CSame := by
  refine sd15 (T := tabT []) tab_nil (pureC_lawful _) (pure_hX fun args p x K h hp hk => ?_)
  split at h <;> simp only [Option.bind_eq_some_iff, Option.map_eq_some_iff, Prod.mk.injEq, reduceCtorEq] at h
  obtain ⟨l, hl, m, hm, rfl, rfl⟩ := h
  rw [unStr_eq hl, unStr_eq hm] at *
  refine ⟨Nat.le_of_ble_eq_true rfl, ?_⟩
  obtain ⟨h1, h2⟩ := hp
  simp -dsimp -implicitDefEqProofs only [S15, R15, strRows_len, ↓Ev.xStp_eq, ↓Ev.P, Ev.Q, eq_self, forall_eq_or_imp, implies_true, forall_const, forall_eq, ↓reduceIte, reduceIte, Nat.reduceEqDiff, Nat.reduceAdd, reduceCtorEq, Nat.reduceSub, Int.reduceToNat, Int.reduceLE, Int.reduceLT, Int.reduceNeg, Nat.reduceBEq, Nat.reduceMul, Nat.reduceLeDiff, Nat.reduceMod, UInt8.reduceOfNat, Nat.reduceLT, Int.reduceEq, Int.reduceAdd, Int.reduceSub, Int.reduceMul]
  refine ⟨fun h => ?_, fun h => ?_⟩
  · rw [decide_eq_false (fun e => h (by rw [e]))] at hk; exact hk
  have hlm : l.length = m.length := by omega
  refine xLoop_intro (fun k st => ∃ (i : Nat), i ≤ l.length ∧ k = l.length - i ∧ (∀ j, j < i → l.getD j [] = m.getD j []) ∧
      st = ⟨[(0, .d (.sl (strRows l))), (1, .d (.sl (strRows m))), (5, .d (.v (.int .i64 i)))], 0, []⟩) l.length [] ?_ ?_ ?_
  · simp -dsimp -implicitDefEqProofs only [↓Ev.xStp_eq, ↓Ev.P, Ev.Q, eq_self, forall_eq_or_imp, implies_true, forall_const, forall_eq, ↓reduceIte, reduceIte, Nat.reduceEqDiff, Nat.reduceAdd, reduceCtorEq, Nat.reduceSub, Int.reduceToNat, Int.reduceLE, Int.reduceLT, Int.reduceNeg, Nat.reduceBEq, Nat.reduceMul, Nat.reduceLeDiff, Nat.reduceMod, UInt8.reduceOfNat, Nat.reduceLT, Int.reduceEq, Int.reduceAdd, Int.reduceSub, Int.reduceMul]
  · simp -dsimp -implicitDefEqProofs only [↓Ev.xStp_eq, ↓Ev.P, Ev.Q, eq_self, forall_eq_or_imp, implies_true, forall_const, forall_eq, ↓reduceIte, reduceIte, Nat.reduceEqDiff, Nat.reduceAdd, reduceCtorEq, Nat.reduceSub, Int.reduceToNat, Int.reduceLE, Int.reduceLT, Int.reduceNeg, Nat.reduceBEq, Nat.reduceMul, Nat.reduceLeDiff, Nat.reduceMod, UInt8.reduceOfNat, Nat.reduceLT, Int.reduceEq, Int.reduceAdd, Int.reduceSub, Int.reduceMul]
    exact ⟨0, by omega, by omega, fun j hj => by omega, rfl⟩
  · rintro k st ⟨i, hi, hk2, hj, rfl⟩
    by_cases hil : i < l.length
    · have hi3 : (i : Int) < l.length := by omega
      simp -dsimp -implicitDefEqProofs only [strRows_get hil, strRows_get (show i < m.length by omega), hi3, strRows_len, ↓Ev.xStp_eq, ↓Ev.P, Ev.Q, eq_self, forall_eq_or_imp, implies_true, forall_const, forall_eq, ↓reduceIte, reduceIte, Nat.reduceEqDiff, Nat.reduceAdd, reduceCtorEq, Nat.reduceSub, Int.reduceToNat, Int.reduceLE, Int.reduceLT, Int.reduceNeg, Nat.reduceBEq, Nat.reduceMul, Nat.reduceLeDiff, Nat.reduceMod, UInt8.reduceOfNat, Nat.reduceLT, Int.reduceEq, Int.reduceAdd, Int.reduceSub, Int.reduceMul]
      repeat' (first | with_reducible assumption | refine And.intro ?_ ?_ | intro _)
      all_goals try omega
      · rename_i h
        rw [decide_eq_false (fun e => h (by rw [e]))] at hk; exact hk
      · rename_i h
        refine xAgain_intro (l.length - (i + 1)) [] (by omega) (by simp -dsimp -implicitDefEqProofs only [↓Ev.xStp_eq, ↓Ev.P, Ev.Q, eq_self, forall_eq_or_imp, implies_true, forall_const, forall_eq, ↓reduceIte, reduceIte, Nat.reduceEqDiff, Nat.reduceAdd, reduceCtorEq, Nat.reduceSub, Int.reduceToNat, Int.reduceLE, Int.reduceLT, Int.reduceNeg, Nat.reduceBEq, Nat.reduceMul, Nat.reduceLeDiff, Nat.reduceMod, UInt8.reduceOfNat, Nat.reduceLT, Int.reduceEq, Int.reduceAdd, Int.reduceSub, Int.reduceMul]) ⟨i + 1, by omega, rfl, fun j hj2 => ?_, ?_⟩
        · by_cases e : j = i
          · rw [e]; exact h
          · exact hj j (by omega)
        · simp -dsimp -implicitDefEqProofs only [↓Ev.xStp_eq, ↓Ev.P, Ev.Q, eq_self, forall_eq_or_imp, implies_true, forall_const, forall_eq, ↓reduceIte, reduceIte, Nat.reduceEqDiff, Nat.reduceAdd, reduceCtorEq, Nat.reduceSub, Int.reduceToNat, Int.reduceLE, Int.reduceLT, Int.reduceNeg, Nat.reduceBEq, Nat.reduceMul, Nat.reduceLeDiff, Nat.reduceMod, UInt8.reduceOfNat, Nat.reduceLT, Int.reduceEq, Int.reduceAdd, Int.reduceSub, Int.reduceMul]
          rfl
    · have hi3 : ¬ (i : Int) < l.length := by omega
      simp -dsimp -implicitDefEqProofs only [hi3, strRows_len, ↓Ev.xStp_eq, ↓Ev.P, Ev.Q, eq_self, forall_eq_or_imp, implies_true, forall_const, forall_eq, ↓reduceIte, reduceIte, Nat.reduceEqDiff, Nat.reduceAdd, reduceCtorEq, Nat.reduceSub, Int.reduceToNat, Int.reduceLE, Int.reduceLT, Int.reduceNeg, Nat.reduceBEq, Nat.reduceMul, Nat.reduceLeDiff, Nat.reduceMod, UInt8.reduceOfNat, Nat.reduceLT, Int.reduceEq, Int.reduceAdd, Int.reduceSub, Int.reduceMul]
      rw [decide_eq_true (getD_ext hlm fun j hj2 => hj j (by omega))] at hk; exact hk
/-- Lines behind a sign. -/
def allT (s : List UInt8) (l : List (List UInt8)) : List UInt8 := l.flatMap (lineT s)
theorem all_snoc (s : List UInt8) (l : List (List UInt8)) (i : Nat) (h : i < l.length) : allT s (l.take (i + 1)) = allT s (l.take i) ++ lineT s (l.getD i []) := by
  rw [allT, List.take_succ_eq_append_getElem h, List.flatMap_append]
  simp [allT, List.getD_eq_getElem?_getD, List.getElem?_eq_getElem h]
theorem all_le (s : List UInt8) (l : List (List UInt8)) (i : Nat) : (allT s (l.take i)).length ≤ (allT s l).length := by
  conv => rhs; rw [← List.take_append_drop i l, allT, List.flatMap_append, List.length_append]
  exact Nat.le_add_right _ _
theorem bare_split (x : List UInt8) : ((bareS x).2 = true → x = (bareS x).1 ++ [10]) ∧ ((bareS x).2 = false → (bareS x).1 = x) := by
  unfold bareS
  split
  · rename_i h
    refine ⟨fun _ => ?_, fun h => by cases h⟩
    rcases List.eq_nil_or_concat x with rfl | ⟨m, c, rfl⟩
    · cases h
    · rw [List.concat_eq_append] at h ⊢
      have : c = 10 := by simpa using h
      subst this; simp
  · exact ⟨fun h => by simp at h, fun _ => rfl⟩
def gAll : List SV → Nat → Nat → List UInt8 → Option (Prop × SV × List UInt8)
  | [.d (.v (.string s)), .d (.sl rows)], t, u, bs => (unStr rows).bind fun l => if t = 72 ∧ u = 5 then
      some ((bs.length + (allT s.data.toList l).length ≤ 140737488355328 ∧ s.size ≤ 1000) ∧ l.length ≤ 1099511627776 ∧ ∀ x ∈ l, x.length ≤ 1099511627776, .tup [], bs ++ allT s.data.toList l) else none
  | _, _, _, _ => none
theorem s44 : Sound G Tryd.prog 44 (bldC gAll) := by
  refine sd44 (T := tabT [(58, CBare), (43, bldC gWS)]) (tab_cons s58 (tab_cons sWS tab_nil)) (bldC_lawful _) (bld_hX fun zs t u bs p x bs' K hg hp hk => ?_)
  unfold gAll at hg
  split at hg
  · obtain ⟨l, hl, hg2⟩ := Option.bind_eq_some_iff.1 hg
    obtain ⟨⟨rfl, rfl⟩, hg3⟩ := Option.ite_none_right_eq_some.1 hg2
    simp only [Option.some.injEq, Prod.mk.injEq] at hg3
    obtain ⟨rfl, rfl, rfl⟩ := hg3
    rw [unStr_eq hl] at *
    rename_i s _
    obtain ⟨s, rfl⟩ := ex_str s
    simp only [sem_str] at hk hp
    refine ⟨Nat.le_of_ble_eq_true rfl, ?_⟩
    obtain ⟨⟨hp1, hs⟩, hl1, hlx⟩ := hp
    simp -dsimp -implicitDefEqProofs only [S44, R44, strRows_len, ↓Ev.xStp_eq, ↓Ev.P, Ev.Q, eq_self, forall_eq_or_imp, implies_true, forall_const, forall_eq, ↓reduceIte, reduceIte, Nat.reduceEqDiff, Nat.reduceAdd, reduceCtorEq, Nat.reduceSub, Int.reduceToNat, Int.reduceLE, Int.reduceLT, Int.reduceNeg, Nat.reduceBEq, Nat.reduceMul, Nat.reduceLeDiff, Nat.reduceMod, UInt8.reduceOfNat, Nat.reduceLT, Int.reduceEq, Int.reduceAdd, Int.reduceSub, Int.reduceMul]
    refine xLoop_intro (fun k st => ∃ (i : Nat), i ≤ l.length ∧ k = l.length - i ∧
      st = ⟨[(0, .ptr 0 0), (1, .d (.v (.string ⟨s.toArray⟩))), (10, .d (.sl (strRows l))), (11, .d (.v (.int .i64 l.length))), (12, .d (.v (.int .i64 i)))], 1, [(0, .bld 72 5 (bs ++ allT s (l.take i)))]⟩) l.length [0] ?_ ?_ ?_
    · simp -dsimp -implicitDefEqProofs only [↓Ev.xStp_eq, ↓Ev.P, Ev.Q, eq_self, forall_eq_or_imp, implies_true, forall_const, forall_eq, ↓reduceIte, reduceIte, Nat.reduceEqDiff, Nat.reduceAdd, reduceCtorEq, Nat.reduceSub, Int.reduceToNat, Int.reduceLE, Int.reduceLT, Int.reduceNeg, Nat.reduceBEq, Nat.reduceMul, Nat.reduceLeDiff, Nat.reduceMod, UInt8.reduceOfNat, Nat.reduceLT, Int.reduceEq, Int.reduceAdd, Int.reduceSub, Int.reduceMul]
    · simp -dsimp -implicitDefEqProofs only [↓Ev.xStp_eq, ↓Ev.P, Ev.Q, eq_self, forall_eq_or_imp, implies_true, forall_const, forall_eq, ↓reduceIte, reduceIte, Nat.reduceEqDiff, Nat.reduceAdd, reduceCtorEq, Nat.reduceSub, Int.reduceToNat, Int.reduceLE, Int.reduceLT, Int.reduceNeg, Nat.reduceBEq, Nat.reduceMul, Nat.reduceLeDiff, Nat.reduceMod, UInt8.reduceOfNat, Nat.reduceLT, Int.reduceEq, Int.reduceAdd, Int.reduceSub, Int.reduceMul]
      exact ⟨0, by omega, by omega, by simp [allT]⟩
    · rintro k st ⟨i, hi, hk2, rfl⟩
      by_cases hil : i < l.length
      · have hi3 : (i : Int) < l.length := by omega
        have hx := hlx (l.getD i []) (by simp [List.getD_eq_getElem?_getD, List.getElem?_eq_getElem hil])
        have hle := all_le s l (i + 1)
        have hsn := all_snoc s l i hil
        have hb := bare_split (l.getD i [])
        have hgx := strRows_get hil
        generalize l.getD i [] = x at hx hsn hb hgx
        rcases hbx : bareS x with ⟨t, f⟩
        rw [hbx] at hb
        cases f with
        | false =>
          have hxt : t = x := hb.2 rfl
          subst hxt
          have hlt : lineT s t = s ++ t ++ [10] ++ markT := by rw [lineT, hbx, if_neg (fun h => by cases h)]
          rw [hlt] at hsn
          rw [hsn] at hle
          simp only [List.length_append, List.length_cons, List.length_nil] at hle
          simp -dsimp -implicitDefEqProofs only [hgx, hbx, hi3, CBare, gWS, bldT, List.length_append, ↓Ev.xStp_eq, ↓Ev.P, Ev.Q, eq_self, forall_eq_or_imp, implies_true, forall_const, forall_eq, ↓reduceIte, reduceIte, Nat.reduceEqDiff, Nat.reduceAdd, reduceCtorEq, Nat.reduceSub, Int.reduceToNat, Int.reduceLE, Int.reduceLT, Int.reduceNeg, Nat.reduceBEq, Nat.reduceMul, Nat.reduceLeDiff, Nat.reduceMod, UInt8.reduceOfNat, Nat.reduceLT, Int.reduceEq, Int.reduceAdd, Int.reduceSub, Int.reduceMul]
          repeat' (first | with_reducible assumption | refine And.intro ?_ ?_ | intro _)
          all_goals try omega
          refine xAgain_intro (l.length - (i + 1)) [0] (by omega) (by simp -dsimp -implicitDefEqProofs only [↓Ev.xStp_eq, ↓Ev.P, Ev.Q, eq_self, forall_eq_or_imp, implies_true, forall_const, forall_eq, ↓reduceIte, reduceIte, Nat.reduceEqDiff, Nat.reduceAdd, reduceCtorEq, Nat.reduceSub, Int.reduceToNat, Int.reduceLE, Int.reduceLT, Int.reduceNeg, Nat.reduceBEq, Nat.reduceMul, Nat.reduceLeDiff, Nat.reduceMod, UInt8.reduceOfNat, Nat.reduceLT, Int.reduceEq, Int.reduceAdd, Int.reduceSub, Int.reduceMul]) ⟨i + 1, by omega, rfl, ?_⟩
          rw [hsn]
          simp -dsimp -implicitDefEqProofs only [↓Ev.xStp_eq, ↓Ev.P, Ev.Q, eq_self, forall_eq_or_imp, implies_true, forall_const, forall_eq, ↓reduceIte, reduceIte, Nat.reduceEqDiff, Nat.reduceAdd, reduceCtorEq, Nat.reduceSub, Int.reduceToNat, Int.reduceLE, Int.reduceLT, Int.reduceNeg, Nat.reduceBEq, Nat.reduceMul, Nat.reduceLeDiff, Nat.reduceMod, UInt8.reduceOfNat, Nat.reduceLT, Int.reduceEq, Int.reduceAdd, Int.reduceSub, Int.reduceMul]
          simp
        | true =>
          have hxt : x = t ++ [10] := hb.1 rfl
          have hlt : lineT s x = s ++ x := by rw [lineT, hbx, if_pos rfl]
          rw [hlt] at hsn
          rw [hsn, hxt] at hle
          rw [hxt] at hx
          simp only [List.length_append, List.length_cons, List.length_nil] at hle hx
          simp -dsimp -implicitDefEqProofs only [hgx, hbx, hi3, CBare, gWS, bldT, List.length_append, ↓Ev.xStp_eq, ↓Ev.P, Ev.Q, eq_self, forall_eq_or_imp, implies_true, forall_const, forall_eq, ↓reduceIte, reduceIte, Nat.reduceEqDiff, Nat.reduceAdd, reduceCtorEq, Nat.reduceSub, Int.reduceToNat, Int.reduceLE, Int.reduceLT, Int.reduceNeg, Nat.reduceBEq, Nat.reduceMul, Nat.reduceLeDiff, Nat.reduceMod, UInt8.reduceOfNat, Nat.reduceLT, Int.reduceEq, Int.reduceAdd, Int.reduceSub, Int.reduceMul]
          repeat' (first | with_reducible assumption | refine And.intro ?_ ?_ | intro _)
          all_goals try (rw [hxt]; simp only [List.length_append, List.length_cons, List.length_nil])
          all_goals try omega
          refine xAgain_intro (l.length - (i + 1)) [0] (by omega) (by simp -dsimp -implicitDefEqProofs only [↓Ev.xStp_eq, ↓Ev.P, Ev.Q, eq_self, forall_eq_or_imp, implies_true, forall_const, forall_eq, ↓reduceIte, reduceIte, Nat.reduceEqDiff, Nat.reduceAdd, reduceCtorEq, Nat.reduceSub, Int.reduceToNat, Int.reduceLE, Int.reduceLT, Int.reduceNeg, Nat.reduceBEq, Nat.reduceMul, Nat.reduceLeDiff, Nat.reduceMod, UInt8.reduceOfNat, Nat.reduceLT, Int.reduceEq, Int.reduceAdd, Int.reduceSub, Int.reduceMul]) ⟨i + 1, by omega, rfl, ?_⟩
          rw [hsn, hxt]
          simp -dsimp -implicitDefEqProofs only [↓Ev.xStp_eq, ↓Ev.P, Ev.Q, eq_self, forall_eq_or_imp, implies_true, forall_const, forall_eq, ↓reduceIte, reduceIte, Nat.reduceEqDiff, Nat.reduceAdd, reduceCtorEq, Nat.reduceSub, Int.reduceToNat, Int.reduceLE, Int.reduceLT, Int.reduceNeg, Nat.reduceBEq, Nat.reduceMul, Nat.reduceLeDiff, Nat.reduceMod, UInt8.reduceOfNat, Nat.reduceLT, Int.reduceEq, Int.reduceAdd, Int.reduceSub, Int.reduceMul]
          simp
      · have hi3 : ¬ (i : Int) < l.length := by omega
        simp -dsimp -implicitDefEqProofs only [hi3, ↓Ev.xStp_eq, ↓Ev.P, Ev.Q, eq_self, forall_eq_or_imp, implies_true, forall_const, forall_eq, ↓reduceIte, reduceIte, Nat.reduceEqDiff, Nat.reduceAdd, reduceCtorEq, Nat.reduceSub, Int.reduceToNat, Int.reduceLE, Int.reduceLT, Int.reduceNeg, Nat.reduceBEq, Nat.reduceMul, Nat.reduceLeDiff, Nat.reduceMod, UInt8.reduceOfNat, Nat.reduceLT, Int.reduceEq, Int.reduceAdd, Int.reduceSub, Int.reduceMul]
        rw [List.take_of_length_le (by omega)]
        exact hk
  · cases hg
end Go.Proofs.YtpbkdcfjlbdgfaaDoor
set_option linter.unusedVariables false
set_option linter.unusedSimpArgs false
namespace Go.Proofs.YtpbkdcfjlbdgfaaDoor
open Go Go.Ev
set_option maxRecDepth 100000
variable {G : World → Prop}
theorem acc_len : ∀ (n : Nat) (acc : List (List UInt8)) (s : List UInt8), acc.length ≤ 32 → (wordsF n acc s).1.length ≤ 32
  | 0, acc, s, h => h
  | n + 1, acc, s, h => by
    simp only [wordsF]
    split
    · exact h
    · split
      · split
        · simp
        · split
          · simp
          · split
            · simp
            · exact acc_len n _ _ (by simp; omega)
      · split
        · simp
        · exact acc_len n _ _ (by simp; omega)
theorem wordsR_cases (W : List (List UInt8) × Int) : (W.2 = 0 ∧ wordsR W = (.tup [.own 0, .d (.v (.int .i64 0))], ⟨1, [(0, .row 9 1 (strRows W.1))]⟩)) ∨ (¬ W.2 = 0 ∧ wordsR W = (.tup [.d (.sl []), .d (.v (.int .i64 W.2))], ⟨0, []⟩)) := by
  by_cases h : W.2 = 0
  · exact .inl ⟨h, by rw [wordsR, if_pos h]⟩
  · exact .inr ⟨h, by rw [wordsR, if_neg h]⟩
def CLawW : Contract := pureC fun args => match args with
  | [.d (.v (.string s))] => some (s.size ≤ 1099511627776, .d (.v (.bool true)))
  | _ => none
set_option maxHeartbeats 4000000 in
theorem s5 : Sound G Tryd.prog 5 CLawW := by
  refine sd5 (T := tabT [(18, CWords), (19, CWords), (15, CSame)]) (tab_cons s18 (tab_cons s19 (tab_cons s15 tab_nil))) (pureC_lawful _) (pure_hX fun args p x K h hp hk => ?_)
  split at h <;> simp only [Option.some.injEq, Prod.mk.injEq, reduceCtorEq] at h
  obtain ⟨rfl, rfl⟩ := h
  refine ⟨Nat.le_of_ble_eq_true rfl, ?_⟩
  rename_i s
  obtain ⟨s, rfl⟩ := ex_str s
  simp only [sem_str] at hp
  have hl := acc_len s.length [] s (by simp)
  rw [show wordsF s.length [] s = wordsS s from rfl] at hl
  generalize hW : wordsS s = W at hl
  rcases wordsR_cases W with ⟨hz, hR⟩ | ⟨hz, hR⟩
  · simp -dsimp -implicitDefEqProofs only [S5, R5, CWords, CSame, hW, hR, unStr_rows, strRows_len, ↓Ev.xStp_eq, ↓Ev.P, Ev.Q, eq_self, forall_eq_or_imp, implies_true, forall_const, forall_eq, ↓reduceIte, reduceIte, Nat.reduceEqDiff, Nat.reduceAdd, reduceCtorEq, Nat.reduceSub, Int.reduceToNat, Int.reduceLE, Int.reduceLT, Int.reduceNeg, Nat.reduceBEq, Nat.reduceMul, Nat.reduceLeDiff, Nat.reduceMod, UInt8.reduceOfNat, Nat.reduceLT, Int.reduceEq, Int.reduceAdd, Int.reduceSub, Int.reduceMul]
    refine ⟨by omega, by omega, by omega, ?_⟩
    refine xLoop_intro (fun k st => ∃ (i : Nat) (rows : List (List D)), i ≤ W.1.length ∧ k = W.1.length - i ∧ rows.length = W.1.length ∧
      st = ⟨[(0, .d (.v (.string ⟨s.toArray⟩))), (3, .own 0), (5, .own 1), (7, .d (.v (.int .i64 i)))], 2, [(0, .row 9 1 rows), (1, .row 9 1 (strRows W.1))]⟩) W.1.length [0, 1] ?_ ?_ ?_
    · simp -dsimp -implicitDefEqProofs only [↓Ev.xStp_eq, ↓Ev.P, Ev.Q, eq_self, forall_eq_or_imp, implies_true, forall_const, forall_eq, ↓reduceIte, reduceIte, Nat.reduceEqDiff, Nat.reduceAdd, reduceCtorEq, Nat.reduceSub, Int.reduceToNat, Int.reduceLE, Int.reduceLT, Int.reduceNeg, Nat.reduceBEq, Nat.reduceMul, Nat.reduceLeDiff, Nat.reduceMod, UInt8.reduceOfNat, Nat.reduceLT, Int.reduceEq, Int.reduceAdd, Int.reduceSub, Int.reduceMul]
    · simp -dsimp -implicitDefEqProofs only [↓Ev.xStp_eq, ↓Ev.P, Ev.Q, eq_self, forall_eq_or_imp, implies_true, forall_const, forall_eq, ↓reduceIte, reduceIte, Nat.reduceEqDiff, Nat.reduceAdd, reduceCtorEq, Nat.reduceSub, Int.reduceToNat, Int.reduceLE, Int.reduceLT, Int.reduceNeg, Nat.reduceBEq, Nat.reduceMul, Nat.reduceLeDiff, Nat.reduceMod, UInt8.reduceOfNat, Nat.reduceLT, Int.reduceEq, Int.reduceAdd, Int.reduceSub, Int.reduceMul]
      exact ⟨0, strRows W.1, by omega, by omega, strRows_len _, rfl⟩
    · rintro k st ⟨i, rows, hi, rfl, hr, rfl⟩
      by_cases hil : i < W.1.length
      · have hi3 : (i : Int) < (W.1.length : Int) := by omega
        simp -dsimp -implicitDefEqProofs only [hr, hi3, ↓Ev.xStp_eq, ↓Ev.P, Ev.Q, eq_self, forall_eq_or_imp, implies_true, forall_const, forall_eq, ↓reduceIte, reduceIte, Nat.reduceEqDiff, Nat.reduceAdd, reduceCtorEq, Nat.reduceSub, Int.reduceToNat, Int.reduceLE, Int.reduceLT, Int.reduceNeg, Nat.reduceBEq, Nat.reduceMul, Nat.reduceLeDiff, Nat.reduceMod, UInt8.reduceOfNat, Nat.reduceLT, Int.reduceEq, Int.reduceAdd, Int.reduceSub, Int.reduceMul]
        repeat' (first | with_reducible assumption | refine And.intro ?_ ?_ | intro _)
        all_goals try omega
        refine xAgain_intro (W.1.length - (i + 1)) [0, 1] (by omega) (by simp -dsimp -implicitDefEqProofs only [↓Ev.xStp_eq, ↓Ev.P, Ev.Q, eq_self, forall_eq_or_imp, implies_true, forall_const, forall_eq, ↓reduceIte, reduceIte, Nat.reduceEqDiff, Nat.reduceAdd, reduceCtorEq, Nat.reduceSub, Int.reduceToNat, Int.reduceLE, Int.reduceLT, Int.reduceNeg, Nat.reduceBEq, Nat.reduceMul, Nat.reduceLeDiff, Nat.reduceMod, UInt8.reduceOfNat, Nat.reduceLT, Int.reduceEq, Int.reduceAdd, Int.reduceSub, Int.reduceMul]) ⟨i + 1, rows.set i (spliceD (rows.getD i []) 0 [.v (.string ⟨#[115, 112, 111, 105, 108, 116]⟩)]), by omega, rfl, by rw [List.length_set]; exact hr, ?_⟩
        simp -dsimp -implicitDefEqProofs only [↓Ev.xStp_eq, ↓Ev.P, Ev.Q, eq_self, forall_eq_or_imp, implies_true, forall_const, forall_eq, ↓reduceIte, reduceIte, Nat.reduceEqDiff, Nat.reduceAdd, reduceCtorEq, Nat.reduceSub, Int.reduceToNat, Int.reduceLE, Int.reduceLT, Int.reduceNeg, Nat.reduceBEq, Nat.reduceMul, Nat.reduceLeDiff, Nat.reduceMod, UInt8.reduceOfNat, Nat.reduceLT, Int.reduceEq, Int.reduceAdd, Int.reduceSub, Int.reduceMul]
        rfl
      · have hi3 : ¬ (i : Int) < (W.1.length : Int) := by omega
        simp -dsimp -implicitDefEqProofs only [hr, hi3, CWords, CSame, hW, hR, unStr_rows, strRows_len, ↓Ev.xStp_eq, ↓Ev.P, Ev.Q, eq_self, forall_eq_or_imp, implies_true, forall_const, forall_eq, ↓reduceIte, reduceIte, Nat.reduceEqDiff, Nat.reduceAdd, reduceCtorEq, Nat.reduceSub, Int.reduceToNat, Int.reduceLE, Int.reduceLT, Int.reduceNeg, Nat.reduceBEq, Nat.reduceMul, Nat.reduceLeDiff, Nat.reduceMod, UInt8.reduceOfNat, Nat.reduceLT, Int.reduceEq, Int.reduceAdd, Int.reduceSub, Int.reduceMul]
        repeat' (first | with_reducible assumption | refine And.intro ?_ ?_ | intro _)
        all_goals first | omega | exact hk | skip
  · simp -dsimp -implicitDefEqProofs only [S5, R5, CWords, CSame, hW, hR, unStr, ↓Ev.xStp_eq, ↓Ev.P, Ev.Q, eq_self, forall_eq_or_imp, implies_true, forall_const, forall_eq, ↓reduceIte, reduceIte, Nat.reduceEqDiff, Nat.reduceAdd, reduceCtorEq, Nat.reduceSub, Int.reduceToNat, Int.reduceLE, Int.reduceLT, Int.reduceNeg, Nat.reduceBEq, Nat.reduceMul, Nat.reduceLeDiff, Nat.reduceMod, UInt8.reduceOfNat, Nat.reduceLT, Int.reduceEq, Int.reduceAdd, Int.reduceSub, Int.reduceMul]
    refine ⟨by omega, by omega, ?_⟩
    refine xLoop_intro (fun k st => k = 0 ∧ 
      st = ⟨[(0, .d (.v (.string ⟨s.toArray⟩))), (3, .d (.sl [])), (5, .d (.sl [])), (7, .d (.v (.int .i64 0)))], 0, []⟩) 0 [] ?_ ?_ ?_
    · simp -dsimp -implicitDefEqProofs only [↓Ev.xStp_eq, ↓Ev.P, Ev.Q, eq_self, forall_eq_or_imp, implies_true, forall_const, forall_eq, ↓reduceIte, reduceIte, Nat.reduceEqDiff, Nat.reduceAdd, reduceCtorEq, Nat.reduceSub, Int.reduceToNat, Int.reduceLE, Int.reduceLT, Int.reduceNeg, Nat.reduceBEq, Nat.reduceMul, Nat.reduceLeDiff, Nat.reduceMod, UInt8.reduceOfNat, Nat.reduceLT, Int.reduceEq, Int.reduceAdd, Int.reduceSub, Int.reduceMul]
    · simp -dsimp -implicitDefEqProofs only [↓Ev.xStp_eq, ↓Ev.P, Ev.Q, eq_self, forall_eq_or_imp, implies_true, forall_const, forall_eq, ↓reduceIte, reduceIte, Nat.reduceEqDiff, Nat.reduceAdd, reduceCtorEq, Nat.reduceSub, Int.reduceToNat, Int.reduceLE, Int.reduceLT, Int.reduceNeg, Nat.reduceBEq, Nat.reduceMul, Nat.reduceLeDiff, Nat.reduceMod, UInt8.reduceOfNat, Nat.reduceLT, Int.reduceEq, Int.reduceAdd, Int.reduceSub, Int.reduceMul]
    · rintro k st ⟨rfl, rfl⟩
      simp -dsimp -implicitDefEqProofs only [CWords, CSame, hW, hR, unStr, ↓Ev.xStp_eq, ↓Ev.P, Ev.Q, eq_self, forall_eq_or_imp, implies_true, forall_const, forall_eq, ↓reduceIte, reduceIte, Nat.reduceEqDiff, Nat.reduceAdd, reduceCtorEq, Nat.reduceSub, Int.reduceToNat, Int.reduceLE, Int.reduceLT, Int.reduceNeg, Nat.reduceBEq, Nat.reduceMul, Nat.reduceLeDiff, Nat.reduceMod, UInt8.reduceOfNat, Nat.reduceLT, Int.reduceEq, Int.reduceAdd, Int.reduceSub, Int.reduceMul]
      repeat' (first | with_reducible assumption | refine And.intro ?_ ?_ | intro _)
      all_goals first | omega | exact hk | skip
end Go.Proofs.YtpbkdcfjlbdgfaaDoor
/- The compiled code of functions, by program (gen.py): each theorem says that the loaded program compiles to it. -/
set_option linter.unusedVariables false
namespace Go.Proofs.YtpbkdcfjlbdgfaaDoor
open Go Go.Ev
set_option maxRecDepth 100000

/-! 9: redline/redlinelaw01.NumNumbers -/
def A9 : Ann := ⟨fun _ _ => 0, fun _ => none, fun r => if r = 1 then some (false, [0, 1]) else if r = 2 then some (false, [0, 1, 5, 6]) else if r = 3 then some (false, [0, 5, 6, 7, 8]) else none, fun _ => []⟩
def S9 : SCode :=
  (.seq (.ops [⟨none, (some 4), .mv 4 (.k (Value.bool false)), false⟩])
  (.seq (.seq (.keep [0, 1]) (.ops [⟨none, (some 10), .mv 10 (.s 1), false⟩,
    ⟨none, (some 11), .call (some 11) 30 false [(.s 10)], false⟩,
    ⟨none, (some 9), .mv 9 (.s 11), false⟩,
    ⟨none, (some 12), .ex 12 (.s 9) 0, false⟩,
    ⟨none, (some 13), .ex 13 (.s 9) 1, false⟩,
    ⟨none, (some 5), .mv 5 (.s 12), false⟩,
    ⟨none, (some 6), .mv 6 (.s 13), false⟩]))
  (.seq (.seq (.keep [0, 1, 5, 6]) (.ops [⟨none, (some 15), .mv 15 (.s 1), false⟩,
    ⟨none, (some 16), .call (some 16) 31 false [(.s 15)], false⟩,
    ⟨none, (some 14), .mv 14 (.s 16), false⟩,
    ⟨none, (some 17), .ex 17 (.s 14) 0, false⟩,
    ⟨none, (some 18), .ex 18 (.s 14) 1, false⟩,
    ⟨none, (some 7), .mv 7 (.s 17), false⟩,
    ⟨none, (some 8), .mv 8 (.s 18), false⟩]))
  (.seq (.seq (.keep [0, 5, 6, 7, 8]) (.ops [⟨none, (some 19), .mv 19 (.s 0), false⟩,
    ⟨none, (some 20), .call (some 20) 32 false [(.s 19)], false⟩,
    ⟨none, (some 21), .mv 21 (.s 0), false⟩,
    ⟨none, (some 22), .call (some 22) 33 false [(.s 21)], false⟩,
    ⟨none, (some 23), .bin 23 .eql (.s 20) (.s 22), false⟩,
    ⟨none, (some 24), .mv 24 (.s 23), false⟩,
    ⟨(some (24, true)), (some 25), .mv 25 (.s 5), false⟩,
    ⟨(some (24, true)), (some 26), .mv 26 (.s 7), false⟩,
    ⟨(some (24, true)), (some 27), .bin 27 .eql (.s 25) (.s 26), false⟩,
    ⟨none, (some 28), .pk 28 (.s 24) (.s 27) (.k (Value.bool false)), true⟩,
    ⟨none, (some 29), .mv 29 (.s 28), false⟩,
    ⟨(some (29, true)), (some 30), .mv 30 (.s 6), false⟩,
    ⟨(some (29, true)), (some 31), .mv 31 (.s 8), false⟩,
    ⟨(some (29, true)), (some 32), .bin 32 .eql (.s 30) (.s 31), false⟩,
    ⟨none, (some 33), .pk 33 (.s 29) (.s 32) (.k (Value.bool false)), false⟩,
    ⟨none, (some 4), .mv 4 (.s 33), false⟩]))
  .ret))))
theorem cc9 : (Tryd.f9.body).bind (cc Tryd.prog Tryd.f9.ntmps A9) = some S9 := by kernel_rfl
def R9 : List RR := [.sl 4]
theorem cr9 : Tryd.f9.results.toList.map (crr Tryd.prog) = R9.map some := by kernel_rfl
theorem nm9 : (Tryd.f9.name == "runtime.NumGoroutine") = false := by kernel_rfl
theorem fn9 : Tryd.prog.funcs[9]? = some Tryd.f9 := by kernel_rfl
theorem bd9 : ∃ b, Tryd.f9.body = some b ∧ cc Tryd.prog Tryd.f9.ntmps A9 b = some S9 := Option.bind_eq_some_iff.1 cc9
theorem sd9 {G : World → Prop} {T : FuncId → Contract} {C : Contract} (hT : ∀ f, Sound G Tryd.prog f (T f)) (hl : C.lawful) (hC : ∀ args st K, C.wp args st K → args.length ≤ 34 ∧ ∃ os op, xv T st.n S9 (st0 args st) (retK R9 st.n os K) (panK st.n op K)) : Sound G Tryd.prog 9 C := by
  obtain ⟨b, hb, hc⟩ := bd9
  rw [xv_eq] at hC
  exact sound_of_ev mo fn9 hb nm9 hc cr9 hT hl hC

/-! 30: redline/num.Parse -/
def A30 : Ann := ⟨fun r i => if r = 1 ∧ i = 4 then 1 else 0, fun _ => none, fun r => if r = 1 then some (false, [0]) else if r = 6 then some (false, [0, 5, 21]) else if r = 8 then some (false, [0]) else if r = 9 then some (false, [6, 7]) else if r = 11 then some (false, [6]) else none, fun r => if r = 4 then [0, 21] else []⟩
def S30_0 : SCode :=
  (.ops [⟨none, (some 2), .mv 2 (.k (Value.int .i64 0)), false⟩,
    ⟨none, (some 3), .mv 3 (.k (Value.int .i64 0)), false⟩])
def S30_1 : SCode :=
  (.seq (.seq (.keep [0]) (.ops [⟨none, (some 8), .mv 8 (.s 0), false⟩,
    ⟨none, (some 9), .bin 9 .eql (.s 8) (.k (Value.string ⟨#[]⟩)), false⟩,
    ⟨none, (some 10), .mv 10 (.s 9), false⟩,
    ⟨(some (10, false)), (some 11), .mv 11 (.s 0), false⟩,
    ⟨(some (10, false)), (some 12), .lens 12 (.s 11), false⟩,
    ⟨(some (10, false)), (some 13), .bin 13 .gtr (.s 12) (.k (Value.int .i64 1)), false⟩,
    ⟨(some (10, false)), (some 14), .mv 14 (.s 13), false⟩,
    ⟨(some (14, true)), (some 15), .mv 15 (.s 0), false⟩,
    ⟨(some (14, true)), (some 16), .ixs 16 (.s 15) (.k (Value.int .i64 0)), false⟩,
    ⟨(some (14, true)), (some 17), .bin 17 .eql (.s 16) (.k (Value.int .u8 48)), true⟩,
    ⟨(some (10, false)), (some 18), .pk 18 (.s 14) (.s 17) (.k (Value.bool false)), false⟩,
    ⟨none, (some 19), .pk 19 (.s 10) (.k (Value.bool true)) (.s 18), false⟩]))
  (.cond (.s 19) (.seq (.ops [⟨none, (some 2), .mv 2 (.k (Value.int .i64 0)), false⟩,
    ⟨none, (some 3), .mv 3 (.k (Value.int .i64 3)), false⟩])
  .ret) .skip))
def S30_2 : SCode :=
  (.seq (.ops [⟨none, (some 20), .mv 20 (.s 0), false⟩,
    ⟨none, (some 21), .rg 21 (.s 20), false⟩])
  (.block 0 (.loop [0, 21] (.seq (.ops [⟨none, (some 22), .nx 22 (.s 21), false⟩,
    ⟨none, (some 23), .ex 23 (.s 22) 0, false⟩])
  (.seq (.cond (.s 23) .skip (.exit 0))
  (.block 1 (.seq (.ops [⟨none, (some 24), .ex 24 (.s 22) 2, false⟩,
    ⟨none, (some 5), .mv 5 (.s 24), false⟩])
  (.seq (.seq (.keep [0, 5, 21]) (.ops [⟨none, (some 25), .mv 25 (.s 5), false⟩,
    ⟨none, (some 26), .bin 26 .lss (.s 25) (.k (Value.int .i32 48)), false⟩,
    ⟨none, (some 27), .mv 27 (.s 26), false⟩,
    ⟨(some (27, false)), (some 28), .mv 28 (.s 5), false⟩,
    ⟨(some (27, false)), (some 29), .bin 29 .gtr (.s 28) (.k (Value.int .i32 57)), false⟩,
    ⟨none, (some 30), .pk 30 (.s 27) (.k (Value.bool true)) (.s 29), false⟩]))
  (.cond (.s 30) (.seq (.ops [⟨none, (some 2), .mv 2 (.k (Value.int .i64 0)), false⟩,
    ⟨none, (some 3), .mv 3 (.k (Value.int .i64 3)), false⟩])
  .ret) .skip)))))))))
def S30_3 : SCode :=
  (.seq (.keep [0]) (.ops [⟨none, (some 32), .mv 32 (.s 0), false⟩,
    ⟨none, (some 33), .call (some 33) 78 false [(.s 32)], false⟩,
    ⟨none, (some 31), .mv 31 (.s 33), false⟩,
    ⟨none, (some 34), .ex 34 (.s 31) 0, false⟩,
    ⟨none, (some 35), .ex 35 (.s 31) 1, false⟩,
    ⟨none, (some 6), .mv 6 (.s 34), false⟩,
    ⟨none, (some 7), .mv 7 (.s 35), false⟩]))
def S30_4 : SCode :=
  (.seq (.seq (.keep [6, 7]) (.ops [⟨none, (some 36), .mv 36 (.s 7), false⟩,
    ⟨none, (some 37), .isnil 37 true true (.s 36), false⟩,
    ⟨none, (some 38), .mv 38 (.s 37), false⟩,
    ⟨(some (38, false)), (some 39), .mv 39 (.s 6), false⟩,
    ⟨(some (38, false)), (some 40), .bin 40 .gtr (.s 39) (.k (Value.int .i64 2147483647)), false⟩,
    ⟨none, (some 41), .pk 41 (.s 38) (.k (Value.bool true)) (.s 40), false⟩]))
  (.cond (.s 41) (.seq (.ops [⟨none, (some 2), .mv 2 (.k (Value.int .i64 0)), false⟩,
    ⟨none, (some 3), .mv 3 (.k (Value.int .i64 2)), false⟩])
  .ret) .skip))
def S30_5 : SCode :=
  (.seq (.keep [6]) (.ops [⟨none, (some 42), .mv 42 (.s 6), false⟩,
    ⟨none, (some 2), .mv 2 (.s 42), false⟩,
    ⟨none, (some 3), .mv 3 (.k (Value.int .i64 0)), false⟩]))
def S30r6 : SCode := .ret
def S30r5 : SCode := .seq S30_5 S30r6
def S30r4 : SCode := .seq S30_4 S30r5
def S30r3 : SCode := .seq S30_3 S30r4
def S30r2 : SCode := .seq S30_2 S30r3
def S30r1 : SCode := .seq S30_1 S30r2
def S30 : SCode := .seq S30_0 S30r1
theorem cc30 : (Tryd.f30.body).bind (cc Tryd.prog Tryd.f30.ntmps A30) = some S30 := by kernel_rfl
def R30 : List RR := [.sl 2, .sl 3]
theorem cr30 : Tryd.f30.results.toList.map (crr Tryd.prog) = R30.map some := by kernel_rfl
theorem nm30 : (Tryd.f30.name == "runtime.NumGoroutine") = false := by kernel_rfl
theorem fn30 : Tryd.prog.funcs[30]? = some Tryd.f30 := by kernel_rfl
theorem bd30 : ∃ b, Tryd.f30.body = some b ∧ cc Tryd.prog Tryd.f30.ntmps A30 b = some S30 := Option.bind_eq_some_iff.1 cc30
theorem sd30 {G : World → Prop} {T : FuncId → Contract} {C : Contract} (hT : ∀ f, Sound G Tryd.prog f (T f)) (hl : C.lawful) (hC : ∀ args st K, C.wp args st K → args.length ≤ 43 ∧ ∃ os op, xv T st.n S30 (st0 args st) (retK R30 st.n os K) (panK st.n op K)) : Sound G Tryd.prog 30 C := by
  obtain ⟨b, hb, hc⟩ := bd30
  rw [xv_eq] at hC
  exact sound_of_ev mo fn30 hb nm30 hc cr30 hT hl hC

/-! 31: redline/redlineref01.Parse -/
def A31 : Ann := ⟨fun r i => if r = 1 ∧ i = 5 then 1 else 0, fun _ => none, fun r => if r = 1 then some (false, [0]) else if r = 5 then some (false, [0, 4, 5]) else if r = 6 then some (false, [0, 4, 5]) else if r = 7 then some (false, [0, 4, 5]) else if r = 9 then some (false, [0, 4, 5]) else if r = 12 then some (false, [4]) else none, fun r => if r = 5 then [0, 4, 5] else []⟩
def S31 : SCode :=
  (.seq (.ops [⟨none, (some 2), .mv 2 (.k (Value.int .i64 0)), false⟩,
    ⟨none, (some 3), .mv 3 (.k (Value.int .i64 0)), false⟩])
  (.seq (.seq (.seq (.keep [0]) (.ops [⟨none, (some 6), .mv 6 (.s 0), false⟩,
    ⟨none, (some 7), .lens 7 (.s 6), false⟩,
    ⟨none, (some 8), .bin 8 .eql (.s 7) (.k (Value.int .i64 0)), false⟩,
    ⟨none, (some 9), .mv 9 (.s 8), false⟩,
    ⟨(some (9, false)), (some 10), .mv 10 (.s 0), false⟩,
    ⟨(some (9, false)), (some 11), .lens 11 (.s 10), false⟩,
    ⟨(some (9, false)), (some 12), .bin 12 .gtr (.s 11) (.k (Value.int .i64 1)), false⟩,
    ⟨(some (9, false)), (some 13), .mv 13 (.s 12), false⟩,
    ⟨(some (13, true)), (some 14), .mv 14 (.s 0), false⟩,
    ⟨(some (13, true)), (some 15), .ixs 15 (.s 14) (.k (Value.int .i64 0)), true⟩,
    ⟨(some (13, true)), (some 16), .bin 16 .eql (.s 15) (.k (Value.int .u8 48)), false⟩,
    ⟨(some (9, false)), (some 17), .pk 17 (.s 13) (.s 16) (.k (Value.bool false)), false⟩,
    ⟨none, (some 18), .pk 18 (.s 9) (.k (Value.bool true)) (.s 17), false⟩]))
  (.cond (.s 18) (.seq (.ops [⟨none, (some 2), .mv 2 (.k (Value.int .i64 0)), false⟩,
    ⟨none, (some 3), .mv 3 (.k (Value.int .i64 3)), false⟩])
  .ret) .skip))
  (.seq (.ops [⟨none, (some 4), .mv 4 (.k (Value.int .i64 0)), false⟩])
  (.seq (.seq (.ops [⟨none, (some 5), .mv 5 (.k (Value.int .i64 0)), false⟩])
  (.block 0 (.loop [0, 4, 5] (.seq (.seq (.seq (.keep [0, 4, 5]) (.ops [⟨none, (some 19), .mv 19 (.s 5), false⟩,
    ⟨none, (some 20), .mv 20 (.s 0), false⟩,
    ⟨none, (some 21), .lens 21 (.s 20), false⟩,
    ⟨none, (some 22), .bin 22 .lss (.s 19) (.s 21), false⟩]))
  (.cond (.s 22) .skip (.exit 0)))
  (.seq (.block 1 (.seq (.seq (.seq (.keep [0, 4, 5]) (.ops [⟨none, (some 25), .mv 25 (.s 0), false⟩,
    ⟨none, (some 26), .mv 26 (.s 5), false⟩,
    ⟨none, (some 27), .ixs 27 (.s 25) (.s 26), false⟩,
    ⟨none, (some 28), .bin 28 .lss (.s 27) (.k (Value.int .u8 48)), false⟩,
    ⟨none, (some 29), .mv 29 (.s 28), false⟩,
    ⟨(some (29, false)), (some 30), .mv 30 (.s 0), false⟩,
    ⟨(some (29, false)), (some 31), .mv 31 (.s 5), false⟩,
    ⟨(some (29, false)), (some 32), .ixs 32 (.s 30) (.s 31), false⟩,
    ⟨(some (29, false)), (some 33), .bin 33 .gtr (.s 32) (.k (Value.int .u8 57)), false⟩,
    ⟨none, (some 34), .pk 34 (.s 29) (.k (Value.bool true)) (.s 33), true⟩]))
  (.cond (.s 34) (.seq (.ops [⟨none, (some 2), .mv 2 (.k (Value.int .i64 0)), false⟩,
    ⟨none, (some 3), .mv 3 (.k (Value.int .i64 3)), false⟩])
  .ret) .skip))
  (.seq (.keep [0, 4, 5]) (.ops [⟨none, (some 35), .mv 35 (.s 4), false⟩,
    ⟨none, (some 36), .binc 36 .mul (.s 35) (.k (Value.int .i64 10)), false⟩,
    ⟨none, (some 37), .mv 37 (.s 0), false⟩,
    ⟨none, (some 38), .mv 38 (.s 5), false⟩,
    ⟨none, (some 39), .ixs 39 (.s 37) (.s 38), false⟩,
    ⟨none, (some 40), .bin 40 .sub (.s 39) (.k (Value.int .u8 48)), false⟩,
    ⟨none, (some 41), .cvi 41 .i64 (.s 40), false⟩,
    ⟨none, (some 42), .binc 42 .add (.s 36) (.s 41), false⟩,
    ⟨none, (some 43), .mm 43 true (.s 42) [(.k (Value.int .i64 2147483648))], false⟩,
    ⟨none, (some 4), .mv 4 (.s 43), true⟩]))))
  (.seq (.keep [0, 4, 5]) (.ops [⟨none, (some 23), .mv 23 (.s 5), false⟩,
    ⟨none, (some 24), .binc 24 .add (.s 23) (.k (Value.int .i64 1)), false⟩,
    ⟨none, (some 5), .mv 5 (.s 24), false⟩])))))))
  (.seq (.seq (.ops [⟨none, (some 44), .mv 44 (.s 4), false⟩,
    ⟨none, (some 45), .bin 45 .gtr (.s 44) (.k (Value.int .i64 2147483647)), false⟩])
  (.cond (.s 45) (.seq (.ops [⟨none, (some 2), .mv 2 (.k (Value.int .i64 0)), false⟩,
    ⟨none, (some 3), .mv 3 (.k (Value.int .i64 2)), false⟩])
  .ret) .skip))
  (.seq (.seq (.keep [4]) (.ops [⟨none, (some 46), .mv 46 (.s 4), false⟩,
    ⟨none, (some 2), .mv 2 (.s 46), false⟩,
    ⟨none, (some 3), .mv 3 (.k (Value.int .i64 0)), false⟩]))
  .ret))))))
theorem cc31 : (Tryd.f31.body).bind (cc Tryd.prog Tryd.f31.ntmps A31) = some S31 := by kernel_rfl
def R31 : List RR := [.sl 2, .sl 3]
theorem cr31 : Tryd.f31.results.toList.map (crr Tryd.prog) = R31.map some := by kernel_rfl
theorem nm31 : (Tryd.f31.name == "runtime.NumGoroutine") = false := by kernel_rfl
theorem fn31 : Tryd.prog.funcs[31]? = some Tryd.f31 := by kernel_rfl
theorem bd31 : ∃ b, Tryd.f31.body = some b ∧ cc Tryd.prog Tryd.f31.ntmps A31 b = some S31 := Option.bind_eq_some_iff.1 cc31
theorem sd31 {G : World → Prop} {T : FuncId → Contract} {C : Contract} (hT : ∀ f, Sound G Tryd.prog f (T f)) (hl : C.lawful) (hC : ∀ args st K, C.wp args st K → args.length ≤ 47 ∧ ∃ os op, xv T st.n S31 (st0 args st) (retK R31 st.n os K) (panK st.n op K)) : Sound G Tryd.prog 31 C := by
  obtain ⟨b, hb, hc⟩ := bd31
  rw [xv_eq] at hC
  exact sound_of_ev mo fn31 hb nm31 hc cr31 hT hl hC

end Go.Proofs.YtpbkdcfjlbdgfaaDoor
/-
  DERIVED: THE SHELF's CONTRACTS AT THIS DUMP, IN PLAIN WORDS (tools/lay-plain.mjs out of 'TrydShelfPart.lean', which tools/lay-shelf.mjs wrote): THE SAME DECLARATIONS UNDER THE SAME NAMES: 'import', 'namespace', 'open', 'def', 'theorem' AND NOTHING ELSE: no command of the shelf's: FOR A HAND-IN. Each laying: the table of numbers ('.._ren') and one theorem, a field a fact of the dump's own or the kernel's comparison; each contract: ONE APPLICATION.
-/
namespace Go.Proofs
open Go.Shelf
def Tryd.laysC172_ren : Go.Shelf.Ren := ⟨fun | 172 => 78 | 244 => 124 | 245 => 125 | 247 => 153 | 279 => 154 | 280 => 155 | 281 => 156 | 282 => 157 | 287 => 177 | 316 => 178 | 171 => 79 | 205 => 179 | 321 => 191 | 322 => 192 | 243 => 126 | 246 => 158 | 283 => 180 | 284 => 181 | 285 => 182 | 286 => 183 | 129 => 194 | 317 => 193 | 318 => 195 | 319 => 196 | 320 => 197 | 337 => 201 | 338 => 202 | n => n, fun | 9 => 9 | 3 => 3 | 75 => 47 | 76 => 76 | 4 => 4 | 5 => 5 | 167 => 174 | 37 => 68 | 0 => 0 | 85 => 175 | 2 => 2 | 168 => 177 | 53 => 64 | 175 => 204 | 46 => 114 | 210 => 207 | 127 => 120 | 145 => 228 | 143 => 226 | 21 => 21 | 171 => 209 | 173 => 212 | 212 => 230 | 51 => 215 | 20 => 20 | 213 => 231 | 232 => 236 | 233 => 237 | 80 => 79 | n => n, fun | 15 => 2 | 16 => 3 | 17 => 6 | 18 => 7 | 19 => 8 | n => n⟩
theorem Tryd.laysC172 : Go.Proofs.LaysC.n172 Tryd.prog Tryd.laysC172_ren := {
  mixed := by kernel_rfl
  f129 := Tryd.func194.trans (congrArg some (by kernel_rfl))
  f171 := Tryd.func79.trans (congrArg some (by kernel_rfl))
  f172 := Tryd.func78.trans (congrArg some (by kernel_rfl))
  f205 := Tryd.func179.trans (congrArg some (by kernel_rfl))
  f243 := Tryd.func126.trans (congrArg some (by kernel_rfl))
  f244 := Tryd.func124.trans (congrArg some (by kernel_rfl))
  f245 := Tryd.func125.trans (congrArg some (by kernel_rfl))
  f246 := Tryd.func158.trans (congrArg some (by kernel_rfl))
  f247 := Tryd.func153.trans (congrArg some (by kernel_rfl))
  f279 := Tryd.func154.trans (congrArg some (by kernel_rfl))
  f280 := Tryd.func155.trans (congrArg some (by kernel_rfl))
  f281 := Tryd.func156.trans (congrArg some (by kernel_rfl))
  f282 := Tryd.func157.trans (congrArg some (by kernel_rfl))
  f283 := Tryd.func180.trans (congrArg some (by kernel_rfl))
  f284 := Tryd.func181.trans (congrArg some (by kernel_rfl))
  f285 := Tryd.func182.trans (congrArg some (by kernel_rfl))
  f286 := Tryd.func183.trans (congrArg some (by kernel_rfl))
  f287 := Tryd.func177.trans (congrArg some (by kernel_rfl))
  f316 := Tryd.func178.trans (congrArg some (by kernel_rfl))
  f317 := Tryd.func193.trans (congrArg some (by kernel_rfl))
  f318 := Tryd.func195.trans (congrArg some (by kernel_rfl))
  f319 := Tryd.func196.trans (congrArg some (by kernel_rfl))
  f320 := Tryd.func197.trans (congrArg some (by kernel_rfl))
  f321 := Tryd.func191.trans (congrArg some (by kernel_rfl))
  f322 := Tryd.func192.trans (congrArg some (by kernel_rfl))
  f337 := Tryd.func201.trans (congrArg some (by kernel_rfl))
  f338 := Tryd.func202.trans (congrArg some (by kernel_rfl))
  t0 := Tryd.underlying0
  a0 := Tryd.isAgg0
  z0 := Tryd.sizeOf0
  v0 := Tryd.zeroValue0
  t2 := Tryd.underlying2
  a2 := Tryd.isAgg2
  z2 := Tryd.sizeOf2
  v2 := Tryd.zeroValue2
  t3 := Tryd.underlying3
  a3 := Tryd.isAgg3
  z3 := Tryd.sizeOf3
  v3 := Tryd.zeroValue3
  t4 := Tryd.underlying4
  a4 := Tryd.isAgg4
  z4 := Tryd.sizeOf4
  v4 := Tryd.zeroValue4
  t5 := Tryd.underlying5
  a5 := Tryd.isAgg5
  z5 := Tryd.sizeOf5
  v5 := Tryd.zeroValue5
  t9 := Tryd.underlying9
  a9 := Tryd.isAgg9
  z9 := Tryd.sizeOf9
  v9 := Tryd.zeroValue9
  t20 := Tryd.underlying20
  a20 := Tryd.isAgg20
  z20 := Tryd.sizeOf20
  v20 := Tryd.zeroValue20
  t21 := Tryd.underlying21
  a21 := Tryd.isAgg21
  z21 := Tryd.sizeOf21
  v21 := Tryd.zeroValue21
  t37 := Tryd.underlying68
  a37 := Tryd.isAgg68
  z37 := Tryd.sizeOf68
  v37 := Tryd.zeroValue68
  t46 := Tryd.underlying114
  a46 := Tryd.isAgg114
  z46 := Tryd.sizeOf114
  v46 := Tryd.zeroValue114
  t51 := Tryd.underlying215
  a51 := Tryd.isAgg215
  z51 := Tryd.sizeOf215
  v51 := Tryd.zeroValue215
  t53 := Tryd.underlying64
  a53 := Tryd.isAgg64
  z53 := Tryd.sizeOf64
  v53 := Tryd.zeroValue64
  t75 := Tryd.underlying47
  a75 := Tryd.isAgg47
  z75 := Tryd.sizeOf47
  v75 := Tryd.zeroValue47
  t76 := Tryd.underlying76
  a76 := Tryd.isAgg76
  z76 := Tryd.sizeOf76
  v76 := Tryd.zeroValue76
  t85 := Tryd.underlying175
  a85 := Tryd.isAgg175
  z85 := Tryd.sizeOf175
  v85 := Tryd.zeroValue175
  t127 := Tryd.underlying120
  a127 := Tryd.isAgg120
  z127 := Tryd.sizeOf120
  v127 := Tryd.zeroValue120
  t143 := Tryd.underlying226
  a143 := Tryd.isAgg226
  z143 := Tryd.sizeOf226
  v143 := Tryd.zeroValue226
  t145 := Tryd.underlying228
  a145 := Tryd.isAgg228
  z145 := Tryd.sizeOf228
  v145 := Tryd.zeroValue228
  t167 := Tryd.underlying174
  a167 := Tryd.isAgg174
  z167 := Tryd.sizeOf174
  v167 := Tryd.zeroValue174
  t168 := Tryd.underlying177
  a168 := Tryd.isAgg177
  z168 := Tryd.sizeOf177
  v168 := Tryd.zeroValue177
  t171 := Tryd.underlying209
  a171 := Tryd.isAgg209
  z171 := Tryd.sizeOf209
  v171 := Tryd.zeroValue209
  t173 := Tryd.underlying212
  a173 := Tryd.isAgg212
  z173 := Tryd.sizeOf212
  v173 := Tryd.zeroValue212
  t175 := Tryd.underlying204
  a175 := Tryd.isAgg204
  z175 := Tryd.sizeOf204
  v175 := Tryd.zeroValue204
  t210 := Tryd.underlying207
  a210 := Tryd.isAgg207
  z210 := Tryd.sizeOf207
  v210 := Tryd.zeroValue207
  t212 := Tryd.underlying230
  a212 := Tryd.isAgg230
  z212 := Tryd.sizeOf230
  v212 := Tryd.zeroValue230
  t213 := Tryd.underlying231
  a213 := Tryd.isAgg231
  z213 := Tryd.sizeOf231
  t232 := Tryd.underlying236
  a232 := Tryd.isAgg236
  z232 := Tryd.sizeOf236
  v232 := Tryd.zeroValue236
  t233 := Tryd.underlying237
  a233 := Tryd.isAgg237
  z233 := Tryd.sizeOf237
  v233 := Tryd.zeroValue237
  g15 := by kernel_rfl
  g16 := by kernel_rfl
  g17 := by kernel_rfl
  g18 := by kernel_rfl
  g19 := by kernel_rfl
  t80 := Tryd.underlying79
  a80 := Tryd.isAgg79
  z80 := Tryd.sizeOf79
  v80 := Tryd.zeroValue79
  i0 := by kernel_rfl
  i2 := by kernel_rfl
  i3 := by kernel_rfl
  i4 := by kernel_rfl
  i5 := by kernel_rfl
  i9 := by kernel_rfl
  i20 := by kernel_rfl
  i21 := by kernel_rfl
  i37 := by kernel_rfl
  i46 := by kernel_rfl
  i51 := by kernel_rfl
  i53 := by kernel_rfl
  i75 := by kernel_rfl
  i76 := by kernel_rfl
  i80 := by kernel_rfl
  i85 := by kernel_rfl
  i127 := by kernel_rfl
  i143 := by kernel_rfl
  i145 := by kernel_rfl
  i167 := by kernel_rfl
  i168 := by kernel_rfl
  i171 := by kernel_rfl
  i173 := by kernel_rfl
  i175 := by kernel_rfl
  i210 := by kernel_rfl
  i212 := by kernel_rfl
  i232 := by kernel_rfl
  i233 := by kernel_rfl
  m15 := by kernel_rfl
  m16 := by kernel_rfl
  m17 := by kernel_rfl
  m18 := by kernel_rfl
  m19 := by kernel_rfl
  c0 := by kernel_rfl
  c2 := by kernel_rfl
  c3 := by kernel_rfl
  c4 := by kernel_rfl
  c5 := by kernel_rfl
  c9 := by kernel_rfl
  c20 := by kernel_rfl
  c21 := by kernel_rfl
  c37 := by kernel_rfl
  c46 := by kernel_rfl
  c51 := by kernel_rfl
  c53 := by kernel_rfl
  c75 := by kernel_rfl
  c76 := by kernel_rfl
  c80 := by kernel_rfl
  c85 := by kernel_rfl
  c127 := by kernel_rfl
  c143 := by kernel_rfl
  c145 := by kernel_rfl
  c167 := by kernel_rfl
  c168 := by kernel_rfl
  c171 := by kernel_rfl
  c173 := by kernel_rfl
  c175 := by kernel_rfl
  c210 := by kernel_rfl
  c212 := by kernel_rfl
  c213 := by kernel_rfl
  c232 := by kernel_rfl
  c233 := by kernel_rfl }
open Go.RowKit in
/-- strconv.Atoi, AT EVERY STRING THAT SPELLS AN int ('Lib.atoiAll .. = .ok v'; of whatever length: leading zeros count): v, AND NO ERROR. The world: as it was, or with the one new row that '[]byte(..)' lays. (LAID: no walk: one application.) -/
theorem Tryd.strconv_Atoi_ok (s : ByteArray) (hmax : s.size ≤ 9223372036854775806) (v : Int) (h : Lib.atoiAll s.data.toList = .ok v) (w : World) :
    Calls Tryd.prog 78 #[.string s] w fun e w' => e = .returned (.tuple #[.int .i64 v, .nilIface]) ∧ (w' = w ∨ ∃ t, w' = Lib.bytesWorld w 5 t) := Any.strconv_Atoi_ok Tryd.laysC172 s hmax v h w
open Go.RowKit in
theorem Tryd.strconv_Atoi_range_var (s : ByteArray) (hlim : s.size ≤ 281474976710656) (h : Lib.atoiAll s.data.toList = .range) (tp : TypeId) (p : Value) (w : World) (hvar : w.var? Tryd.prog "strconv.ErrRange" = some #[.iface tp p]) :
    Calls Tryd.prog 78 #[.string s] w fun e w' => ∃ N, e = .returned (.tuple #[.int .i64 (Lib.atoiSat s.data.toList), .iface 177 (.pointer (some ⟨N, 0, none⟩))]) ∧ w.heap.size ≤ N ∧ w'.heap[N]? = some (.cells #[.string ⟨#[65, 116, 111, 105]⟩, .string s, .iface tp p] 207 (0, 0)) ∧ Below w.heap.size w w' := Any.strconv_Atoi_range_var Tryd.laysC172 s hlim h tp p w hvar
end Go.Proofs
set_option linter.unusedVariables false
set_option linter.unusedSimpArgs false
namespace Go.Proofs.YtpbkdcfjlbdgfaaDoor
open Go Go.Ev
set_option maxRecDepth 100000
variable {G : World → Prop}
/-- Digits. -/
def dig (c : UInt8) : Bool := decide (48 ≤ (c.toNat : Int)) && decide ((c.toNat : Int) ≤ 57)
def valT (l : List UInt8) : Nat := l.foldl (fun n c => n * 10 + (c.toNat - 48)) 0
theorem val_app (l : List UInt8) (c : UInt8) : valT (l ++ [c]) = valT l * 10 + (c.toNat - 48) := by simp [valT]
theorem val_snoc {l : List UInt8} {i : Nat} (h : i < l.length) : valT (l.take (i + 1)) = valT (l.take i) * 10 + ((l.getD i 0).toNat - 48) := by
  rw [List.take_succ_eq_append_getElem h, val_app]
  simp [List.getD_eq_getElem?_getD, List.getElem?_eq_getElem h]
theorem all_take {l : List UInt8} {i : Nat} (h : i < l.length) : (l.take (i + 1)).all dig = ((l.take i).all dig && dig (l.getD i 0)) := by
  rw [List.take_succ_eq_append_getElem h, List.all_append]
  simp [List.getD_eq_getElem?_getD, List.getElem?_eq_getElem h]
theorem not_all {l : List UInt8} {i : Nat} (h : i < l.length) (hd : dig (l.getD i 0) = false) : l.all dig = false := by
  rw [List.all_eq_false]
  exact ⟨l.getD i 0, by simp [List.getD_eq_getElem?_getD, List.getElem?_eq_getElem h], by rw [hd]; decide⟩
/-- Numbers are read. -/
def badP (l : List UInt8) : Prop := l = [] ∨ (1 < l.length ∧ l.getD 0 0 = 48)
instance (l : List UInt8) : Decidable (badP l) := by unfold badP; infer_instance
def parseS (l : List UInt8) : Int × Int := if badP l then (0, 3) else if l.all dig = false then (0, 3) else if 2147483647 < valT l then (0, 2) else (valT l, 0)
def CParse : Contract := pureC fun args => match args with
  | [.d (.v (.string s))] => some (s.size ≤ 1099511627776, .tup [.d (.v (.int .i64 (parseS s.data.toList).1)), .d (.v (.int .i64 (parseS s.data.toList).2))])
  | _ => none
def valA (a : Nat) (l : List UInt8) : Nat := l.foldl (fun n c => n * 10 + (c.toNat - 48)) a
theorem valA_le : ∀ (l : List UInt8) (a : Nat), a ≤ valA a l
  | [], a => Nat.le_refl _
  | c :: l, a => Nat.le_trans (by omega) (valA_le l (a * 10 + (c.toNat - 48)))
theorem dig_nat {c : UInt8} (h : dig c = true) : 48 ≤ c.toNat ∧ c.toNat ≤ 57 := by
  simp only [dig, Bool.and_eq_true, decide_eq_true_eq] at h; omega
theorem pu10 : ∀ (l : List UInt8) (a : Nat), l.all dig = true → a < 18446744073709551616 → Lib.parseUint10 a l = if 18446744073709551616 ≤ valA a l then .range else .ok (valA a l)
  | [], a, _, ha => by simp only [Lib.parseUint10, valA, List.foldl_nil]; exact (if_neg (Nat.not_le.2 ha)).symm
  | c :: l, a, h, ha => by
    simp only [List.all_cons, Bool.and_eq_true] at h
    obtain ⟨h1, h2⟩ := dig_nat h.1
    have hle := valA_le l (a * 10 + (c.toNat - 48))
    have e : valA a (c :: l) = valA (a * 10 + (c.toNat - 48)) l := rfl
    rw [Lib.parseUint10, if_pos ⟨h1, h2⟩, e]
    by_cases k1 : 1844674407370955162 ≤ a
    · rw [if_pos k1, if_pos (by omega)]
    · rw [if_neg k1]
      by_cases k2 : 18446744073709551616 ≤ a * 10 + (c.toNat - 48)
      · rw [if_pos k2, if_pos (by omega)]
      · rw [if_neg k2, pu10 l _ h.2 (by omega)]
theorem atoi_dig {l : List UInt8} (hne : l ≠ []) (h : l.all dig = true) : Lib.atoiAll l = if 9223372036854775808 ≤ valT l then .range else .ok (valT l) := by
  cases l with
  | nil => exact absurd rfl hne
  | cons c r =>
    have hd := dig_nat (List.all_eq_true.1 h c (by simp))
    have hp := pu10 (c :: r) 0 h (by omega)
    have e : valA 0 (c :: r) = valT (c :: r) := rfl
    rw [e] at hp
    simp only [Lib.atoiAll]
    rw [if_neg (by omega), Lib.parseMag, if_neg (by simp), hp]
    by_cases k : 18446744073709551616 ≤ valT (c :: r)
    · rw [if_pos k, if_pos (by omega)]
    · rw [if_neg k]
      simp only
      by_cases k2 : 9223372036854775808 ≤ valT (c :: r)
      · rw [if_pos ⟨by omega, k2⟩, if_pos k2]
      · rw [if_neg (by omega), if_neg (by omega), if_neg k2, if_neg (by omega)]
theorem sat_dig {l : List UInt8} (h : l.all dig = true) : Lib.atoiSat l = 9223372036854775807 := by
  unfold Lib.atoiSat
  cases l with
  | nil => simp
  | cons c r =>
    have hd := dig_nat (List.all_eq_true.1 h c (by simp))
    simp only [List.head?_cons, Option.map_some, Option.some.injEq]
    rw [if_neg (by omega)]
/-- What strconv.Atoi reads beside its tables. -/
def ErrR (w : World) : Prop := ∃ tp p, w.var? Tryd.prog "strconv.ErrRange" = some #[.iface tp p]
def CAtoi : Contract := pureC fun args => match args with
  | [.d (.v (.string s))] => some (s.size ≤ 1099511627776 ∧ s.data.toList ≠ [] ∧ s.data.toList.all dig = true, .tup [.d (.v (.int .i64 (if 9223372036854775808 ≤ valT s.data.toList then 9223372036854775807 else valT s.data.toList))), .d (if 9223372036854775808 ≤ valT s.data.toList then .ifc 177 (.pt []) else .v .nilIface)])
  | _ => none
theorem sAtoi (hG : ∀ w, G w → ErrR w) : Sound G Tryd.prog 78 CAtoi := by
  refine sound_lib2 ⟨Tryd.f78, by kernel_rfl, by kernel_rfl, by kernel_rfl⟩ fun args p x h hp => ?_
  split at h <;> simp only [Option.some.injEq, Prod.mk.injEq, reduceCtorEq] at h
  obtain ⟨rfl, rfl⟩ := h
  rename_i s
  obtain ⟨h1, h2, h3⟩ := hp
  intro w hw m c vs hc hv
  match vs, hv with
  | [a], hv =>
    simp only [CnL, and_true] at hv
    rw [of_v hv]
    have hA := atoi_dig h2 h3
    by_cases k : 9223372036854775808 ≤ valT s.data.toList
    · rw [if_pos k] at hA
      obtain ⟨tp, p, he⟩ := hG w hw
      refine (Tryd.strconv_Atoi_range_var s (by omega) hA tp p w he).mono ?_
      rintro e w' ⟨N, rfl, _, _, hB⟩
      refine ⟨⟨_, rfl, fun m n c => ?_⟩, hB⟩
      rw [if_pos k, if_pos k, sat_dig h3]
      simp [Cn, CnL, Rd, RdCells, Value.oneCell']
    · rw [if_neg k] at hA
      refine (Tryd.strconv_Atoi_ok s (by omega) _ hA w).mono ?_
      rintro e w' ⟨rfl, hB⟩
      refine ⟨⟨_, rfl, fun m n c => ?_⟩, ?_⟩
      · rw [if_neg k, if_neg k]
        simp [Cn, CnL, Rd, Value.oneCell']
      · rcases hB with rfl | ⟨t, rfl⟩
        · exact RowKit.Below.refl _ _
        · exact Lib.bytesWorld_below w _ t
  | [], hv => simp [CnL] at hv
  | _ :: _ :: _, hv => simp [CnL] at hv
end Go.Proofs.YtpbkdcfjlbdgfaaDoor
set_option linter.unusedVariables false
set_option linter.unusedSimpArgs false
namespace Go.Proofs.YtpbkdcfjlbdgfaaDoor
open Go Go.Ev
set_option maxRecDepth 100000
variable {G : World → Prop}
def capN (n : Nat) : Nat := if 2147483648 < n then 2147483648 else n
theorem cap_step (n d : Nat) : capN (n * 10 + d) = if 2147483648 < capN n * 10 + d then 2147483648 else capN n * 10 + d := by
  unfold capN; (repeat' split) <;> first | rfl | omega
theorem cap_le (n : Nat) : capN n ≤ 2147483648 := by unfold capN; split <;> omega
theorem u8s (c : Nat) (h : 48 ≤ c ∧ c ≤ 57) : IntKind.u8.wrap ((c : Int) - 48) = ((c - 48 : Nat) : Int) := by
  simp only [IntKind.wrap, IntKind.bits, IntKind.signed]
  simp
  omega
theorem i64n (c : Nat) (h : c ≤ 1000) : IntKind.i64.wrap (c : Int) = (c : Int) := wrap64 _ (by omega) (by omega)
theorem bad_head {l : List UInt8} (h : badP l) : (decide ((l.length : Int) = 0) || (decide (1 < (l.length : Int)) && decide (((l.getD 0 0).toNat : Int) = 48))) = true := by
  rcases h with rfl | ⟨h1, h2⟩
  · rfl
  · rw [h2]; simp; right; omega
theorem bad_not {l : List UInt8} (h : ¬ badP l) : (0 < l.length) ∧ ¬ (1 < (l.length : Int) ∧ ((l.getD 0 0).toNat : Int) = 48) := by
  refine ⟨?_, fun ⟨h1, h2⟩ => h (.inr ⟨by omega, UInt8.toNat_inj.1 (by show _ = 48; omega)⟩)⟩
  cases l with
  | nil => exact absurd (.inl rfl) h
  | cons => simp
set_option maxHeartbeats 1000000 in
theorem s31 : Sound G Tryd.prog 31 CParse := by
  refine sd31 (T := tabT []) tab_nil (pureC_lawful _) (pure_hX fun args p x K h hp hk => ?_)
  split at h <;> simp only [Option.some.injEq, Prod.mk.injEq, reduceCtorEq] at h
  obtain ⟨rfl, rfl⟩ := h
  refine ⟨Nat.le_of_ble_eq_true rfl, ?_⟩
  rename_i s
  obtain ⟨l, rfl⟩ := ex_str s
  simp only [sem_str] at hk hp
  by_cases hb : badP l
  · rw [show parseS l = (0, 3) by rw [parseS, if_pos hb]] at hk
    simp -dsimp -implicitDefEqProofs only [S31, R31, ↓Ev.xStp_eq, ↓Ev.P, Ev.Q, eq_self, forall_eq_or_imp, implies_true, forall_const, forall_eq, ↓reduceIte, reduceIte, Nat.reduceEqDiff, Nat.reduceAdd, reduceCtorEq, Nat.reduceSub, Int.reduceToNat, Int.reduceLE, Int.reduceLT, Int.reduceNeg, Nat.reduceBEq, Nat.reduceMul, Nat.reduceLeDiff, Nat.reduceMod, UInt8.reduceOfNat, Nat.reduceLT, Int.reduceEq, Int.reduceAdd, Int.reduceSub, Int.reduceMul]
    have hh := bad_head hb
    simp only [Bool.or_eq_true, Bool.and_eq_true, decide_eq_true_eq] at hh
    refine ⟨by omega, by omega, fun _ => hk, fun h => ?_⟩
    omega
  · obtain ⟨h1, h2⟩ := bad_not hb
    simp -dsimp -implicitDefEqProofs only [S31, R31, ↓Ev.xStp_eq, ↓Ev.P, Ev.Q, eq_self, forall_eq_or_imp, implies_true, forall_const, forall_eq, ↓reduceIte, reduceIte, Nat.reduceEqDiff, Nat.reduceAdd, reduceCtorEq, Nat.reduceSub, Int.reduceToNat, Int.reduceLE, Int.reduceLT, Int.reduceNeg, Nat.reduceBEq, Nat.reduceMul, Nat.reduceLeDiff, Nat.reduceMod, UInt8.reduceOfNat, Nat.reduceLT, Int.reduceEq, Int.reduceAdd, Int.reduceSub, Int.reduceMul]
    refine ⟨by omega, by omega, fun h => by omega, fun _ => ?_⟩
    refine xLoop_intro (fun k st => ∃ i : Nat, i ≤ l.length ∧ k = l.length - i ∧ (l.take i).all dig = true ∧
      st = ⟨[(0, .d (.v (.string ⟨l.toArray⟩))), (4, .d (.v (.int .i64 (capN (valT (l.take i)))))), (5, .d (.v (.int .i64 i)))], 0, []⟩) l.length [] ?_ ?_ ?_
    · simp -dsimp -implicitDefEqProofs only [↓Ev.xStp_eq, ↓Ev.P, Ev.Q, eq_self, forall_eq_or_imp, implies_true, forall_const, forall_eq, ↓reduceIte, reduceIte, Nat.reduceEqDiff, Nat.reduceAdd, reduceCtorEq, Nat.reduceSub, Int.reduceToNat, Int.reduceLE, Int.reduceLT, Int.reduceNeg, Nat.reduceBEq, Nat.reduceMul, Nat.reduceLeDiff, Nat.reduceMod, UInt8.reduceOfNat, Nat.reduceLT, Int.reduceEq, Int.reduceAdd, Int.reduceSub, Int.reduceMul]
    · simp -dsimp -implicitDefEqProofs only [↓Ev.xStp_eq, ↓Ev.P, Ev.Q, eq_self, forall_eq_or_imp, implies_true, forall_const, forall_eq, ↓reduceIte, reduceIte, Nat.reduceEqDiff, Nat.reduceAdd, reduceCtorEq, Nat.reduceSub, Int.reduceToNat, Int.reduceLE, Int.reduceLT, Int.reduceNeg, Nat.reduceBEq, Nat.reduceMul, Nat.reduceLeDiff, Nat.reduceMod, UInt8.reduceOfNat, Nat.reduceLT, Int.reduceEq, Int.reduceAdd, Int.reduceSub, Int.reduceMul]
      exact ⟨0, by omega, by omega, rfl, rfl⟩
    · rintro k st ⟨i, hi, hk2, hall, rfl⟩
      by_cases hil : i < l.length
      · have hi3 : (i : Int) < l.length := by omega
        have hcl := cap_le (valT (l.take i))
        by_cases hd : dig (l.getD i 0) = true
        · obtain ⟨d1, d2⟩ := dig_nat hd
          have d3 : ¬ ((l.getD i 0).toNat : Int) < 48 := by omega
          have d4 : ¬ (57 : Int) < ((l.getD i 0).toNat : Int) := by omega
          have hu := u8s _ ⟨d1, d2⟩
          have hc := i64n ((l.getD i 0).toNat - 48) (by omega)
          simp -dsimp -implicitDefEqProofs only [hi3, d3, d4, hu, hc, ↓Ev.xStp_eq, ↓Ev.P, Ev.Q, eq_self, forall_eq_or_imp, implies_true, forall_const, forall_eq, ↓reduceIte, reduceIte, Nat.reduceEqDiff, Nat.reduceAdd, reduceCtorEq, Nat.reduceSub, Int.reduceToNat, Int.reduceLE, Int.reduceLT, Int.reduceNeg, Nat.reduceBEq, Nat.reduceMul, Nat.reduceLeDiff, Nat.reduceMod, UInt8.reduceOfNat, Nat.reduceLT, Int.reduceEq, Int.reduceAdd, Int.reduceSub, Int.reduceMul]
          repeat' (first | with_reducible assumption | refine And.intro ?_ ?_ | intro _)
          all_goals try omega
          refine xAgain_intro (l.length - (i + 1)) [] (by omega) (by simp -dsimp -implicitDefEqProofs only [↓Ev.xStp_eq, ↓Ev.P, Ev.Q, eq_self, forall_eq_or_imp, implies_true, forall_const, forall_eq, ↓reduceIte, reduceIte, Nat.reduceEqDiff, Nat.reduceAdd, reduceCtorEq, Nat.reduceSub, Int.reduceToNat, Int.reduceLE, Int.reduceLT, Int.reduceNeg, Nat.reduceBEq, Nat.reduceMul, Nat.reduceLeDiff, Nat.reduceMod, UInt8.reduceOfNat, Nat.reduceLT, Int.reduceEq, Int.reduceAdd, Int.reduceSub, Int.reduceMul]) ⟨i + 1, by omega, rfl, by rw [all_take hil, hall, hd]; rfl, ?_⟩
          rw [val_snoc hil, cap_step]
          simp -dsimp -implicitDefEqProofs only [↓Ev.xStp_eq, ↓Ev.P, Ev.Q, eq_self, forall_eq_or_imp, implies_true, forall_const, forall_eq, ↓reduceIte, reduceIte, Nat.reduceEqDiff, Nat.reduceAdd, reduceCtorEq, Nat.reduceSub, Int.reduceToNat, Int.reduceLE, Int.reduceLT, Int.reduceNeg, Nat.reduceBEq, Nat.reduceMul, Nat.reduceLeDiff, Nat.reduceMod, UInt8.reduceOfNat, Nat.reduceLT, Int.reduceEq, Int.reduceAdd, Int.reduceSub, Int.reduceMul]
          simp
          split <;> split <;> omega
        · simp only [Bool.not_eq_true] at hd
          have hna := not_all hil hd
          rw [show parseS l = (0, 3) by rw [parseS, if_neg hb, if_pos hna]] at hk
          have hd2 : ((l.getD i 0).toNat : Int) < 48 ∨ (57 : Int) < ((l.getD i 0).toNat : Int) := by
            simp only [dig, Bool.and_eq_false_iff, decide_eq_false_iff_not] at hd; omega
          simp -dsimp -implicitDefEqProofs only [hi3, ↓Ev.xStp_eq, ↓Ev.P, Ev.Q, eq_self, forall_eq_or_imp, implies_true, forall_const, forall_eq, ↓reduceIte, reduceIte, Nat.reduceEqDiff, Nat.reduceAdd, reduceCtorEq, Nat.reduceSub, Int.reduceToNat, Int.reduceLE, Int.reduceLT, Int.reduceNeg, Nat.reduceBEq, Nat.reduceMul, Nat.reduceLeDiff, Nat.reduceMod, UInt8.reduceOfNat, Nat.reduceLT, Int.reduceEq, Int.reduceAdd, Int.reduceSub, Int.reduceMul]
          repeat' (first | with_reducible assumption | refine And.intro ?_ ?_ | intro _)
          all_goals first | omega | exact hk | skip
      · have hi3 : ¬ (i : Int) < l.length := by omega
        obtain rfl : i = l.length := by omega
        rw [List.take_length] at hall
        rw [show parseS l = if 2147483647 < valT l then (0, 2) else ((valT l : Int), 0) by rw [parseS, if_neg hb, if_neg (by rw [hall]; decide)]] at hk
        simp -dsimp -implicitDefEqProofs only [hi3, List.take_length, ↓Ev.xStp_eq, ↓Ev.P, Ev.Q, eq_self, forall_eq_or_imp, implies_true, forall_const, forall_eq, ↓reduceIte, reduceIte, Nat.reduceEqDiff, Nat.reduceAdd, reduceCtorEq, Nat.reduceSub, Int.reduceToNat, Int.reduceLE, Int.reduceLT, Int.reduceNeg, Nat.reduceBEq, Nat.reduceMul, Nat.reduceLeDiff, Nat.reduceMod, UInt8.reduceOfNat, Nat.reduceLT, Int.reduceEq, Int.reduceAdd, Int.reduceSub, Int.reduceMul]
        refine ⟨fun h => ?_, fun h => ?_⟩
        · rw [if_pos (by unfold capN at h; split at h <;> omega)] at hk; exact hk
        · have hv : valT l ≤ 2147483647 := by unfold capN at h; split at h <;> omega
          rw [if_neg (by omega)] at hk
          rw [show capN (valT l) = valT l by unfold capN; rw [if_neg (by omega)]]
          exact hk
end Go.Proofs.YtpbkdcfjlbdgfaaDoor
set_option linter.unusedVariables false
set_option linter.unusedSimpArgs false
namespace Go.Proofs.YtpbkdcfjlbdgfaaDoor
open Go Go.Ev
set_option maxRecDepth 100000
variable {G : World → Prop}
theorem dec_at (l : List UInt8) (i : Nat) (h : i < l.length) : (dig (l.getD i 0) = true → Utf8.decode ⟨l.toArray⟩ i = ((l.getD i 0).toNat, 1)) ∧ (dig (l.getD i 0) = false → ((Utf8.decode ⟨l.toArray⟩ i).1 : Int) < 48 ∨ (57 : Int) < ((Utf8.decode ⟨l.toArray⟩ i).1 : Int)) := by
  have hs : i < (⟨l.toArray⟩ : ByteArray).size := h
  have hg : (⟨l.toArray⟩ : ByteArray)[i]'hs = l.getD i 0 := by
    simp [List.getD_eq_getElem?_getD, List.getElem?_eq_getElem h]
    rfl
  by_cases ha : ((⟨l.toArray⟩ : ByteArray)[i]'hs).toNat < 128
  · have := decode_ascii _ i hs ha
    rw [hg] at this
    refine ⟨fun _ => this, fun hd => ?_⟩
    rw [this]
    simp only [dig, Bool.and_eq_false_iff, decide_eq_false_iff_not] at hd
    omega
  · have h2 := (decode_high _ i hs (by omega)).1
    rw [hg] at ha
    refine ⟨fun hd => ?_, fun _ => .inr (by omega)⟩
    have := dig_nat hd
    omega
theorem empty_iff (l : List UInt8) : ((⟨l.toArray⟩ : ByteArray) = ⟨#[]⟩) = (l = []) := by simp
set_option maxHeartbeats 1000000 in
theorem s30 (hG : ∀ w, G w → ErrR w) : Sound G Tryd.prog 30 CParse := by
  refine sd30 (T := tabT [(78, CAtoi)]) (tab_cons (sAtoi hG) tab_nil) (pureC_lawful _) (pure_hX fun args p x K h hp hk => ?_)
  split at h <;> simp only [Option.some.injEq, Prod.mk.injEq, reduceCtorEq] at h
  obtain ⟨rfl, rfl⟩ := h
  refine ⟨Nat.le_of_ble_eq_true rfl, ?_⟩
  rename_i s
  obtain ⟨l, rfl⟩ := ex_str s
  simp only [sem_str] at hk hp
  by_cases hb : badP l
  · rw [show parseS l = (0, 3) by rw [parseS, if_pos hb]] at hk
    simp -dsimp -implicitDefEqProofs only [S30, S30_0, S30r1, S30_1, S30r2, R30, empty_iff, ↓Ev.xStp_eq, ↓Ev.P, Ev.Q, eq_self, forall_eq_or_imp, implies_true, forall_const, forall_eq, ↓reduceIte, reduceIte, Nat.reduceEqDiff, Nat.reduceAdd, reduceCtorEq, Nat.reduceSub, Int.reduceToNat, Int.reduceLE, Int.reduceLT, Int.reduceNeg, Nat.reduceBEq, Nat.reduceMul, Nat.reduceLeDiff, Nat.reduceMod, UInt8.reduceOfNat, Nat.reduceLT, Int.reduceEq, Int.reduceAdd, Int.reduceSub, Int.reduceMul]
    have hh := bad_head hb
    simp only [Bool.or_eq_true, Bool.and_eq_true, decide_eq_true_eq] at hh
    repeat' (first | with_reducible assumption | refine And.intro ?_ ?_ | intro _)
    all_goals first | omega | exact hk | skip
    all_goals (rename_i h; rcases hb with rfl | hb <;> first | exact absurd rfl h.1 | omega)
  · obtain ⟨h1, h2⟩ := bad_not hb
    have hne : ¬ l = [] := fun e => hb (.inl e)
    simp -dsimp -implicitDefEqProofs only [S30, S30_0, S30r1, S30_1, S30r2, S30_2, S30r3, R30, empty_iff, hne, ↓Ev.xStp_eq, ↓Ev.P, Ev.Q, eq_self, forall_eq_or_imp, implies_true, forall_const, forall_eq, ↓reduceIte, reduceIte, Nat.reduceEqDiff, Nat.reduceAdd, reduceCtorEq, Nat.reduceSub, Int.reduceToNat, Int.reduceLE, Int.reduceLT, Int.reduceNeg, Nat.reduceBEq, Nat.reduceMul, Nat.reduceLeDiff, Nat.reduceMod, UInt8.reduceOfNat, Nat.reduceLT, Int.reduceEq, Int.reduceAdd, Int.reduceSub, Int.reduceMul]
    refine ⟨by omega, fun h => by omega, fun _ => ?_⟩
    refine xLoop_intro (fun k st => ∃ i : Nat, i ≤ l.length ∧ k = l.length - i ∧ (l.take i).all dig = true ∧
      st = ⟨[(0, .d (.v (.string ⟨l.toArray⟩))), (21, .own 0)], 1, [(0, .iter ⟨l.toArray⟩ i)]⟩) l.length [0] ?_ ?_ ?_
    · simp -dsimp -implicitDefEqProofs only [↓Ev.xStp_eq, ↓Ev.P, Ev.Q, eq_self, forall_eq_or_imp, implies_true, forall_const, forall_eq, ↓reduceIte, reduceIte, Nat.reduceEqDiff, Nat.reduceAdd, reduceCtorEq, Nat.reduceSub, Int.reduceToNat, Int.reduceLE, Int.reduceLT, Int.reduceNeg, Nat.reduceBEq, Nat.reduceMul, Nat.reduceLeDiff, Nat.reduceMod, UInt8.reduceOfNat, Nat.reduceLT, Int.reduceEq, Int.reduceAdd, Int.reduceSub, Int.reduceMul]
    · simp -dsimp -implicitDefEqProofs only [↓Ev.xStp_eq, ↓Ev.P, Ev.Q, eq_self, forall_eq_or_imp, implies_true, forall_const, forall_eq, ↓reduceIte, reduceIte, Nat.reduceEqDiff, Nat.reduceAdd, reduceCtorEq, Nat.reduceSub, Int.reduceToNat, Int.reduceLE, Int.reduceLT, Int.reduceNeg, Nat.reduceBEq, Nat.reduceMul, Nat.reduceLeDiff, Nat.reduceMod, UInt8.reduceOfNat, Nat.reduceLT, Int.reduceEq, Int.reduceAdd, Int.reduceSub, Int.reduceMul]
      exact ⟨0, by omega, by omega, rfl, rfl⟩
    · rintro k st ⟨i, hi, hk2, hall, rfl⟩
      by_cases hil : i < l.length
      · obtain ⟨e1, e2⟩ := dec_at l i hil
        by_cases hd : dig (l.getD i 0) = true
        · obtain ⟨d1, d2⟩ := dig_nat hd
          have e1 := e1 hd
          have d3 : ¬ ((l.getD i 0).toNat : Int) < 48 := by omega
          have d4 : ¬ (57 : Int) < ((l.getD i 0).toNat : Int) := by omega
          simp -dsimp -implicitDefEqProofs only [hil, e1, d3, d4, ↓Ev.xStp_eq, ↓Ev.P, Ev.Q, eq_self, forall_eq_or_imp, implies_true, forall_const, forall_eq, ↓reduceIte, reduceIte, Nat.reduceEqDiff, Nat.reduceAdd, reduceCtorEq, Nat.reduceSub, Int.reduceToNat, Int.reduceLE, Int.reduceLT, Int.reduceNeg, Nat.reduceBEq, Nat.reduceMul, Nat.reduceLeDiff, Nat.reduceMod, UInt8.reduceOfNat, Nat.reduceLT, Int.reduceEq, Int.reduceAdd, Int.reduceSub, Int.reduceMul]
          repeat' (first | with_reducible assumption | refine And.intro ?_ ?_ | intro _)
          all_goals try omega
          refine xAgain_intro (l.length - (i + 1)) [0] (by omega) (by simp -dsimp -implicitDefEqProofs only [↓Ev.xStp_eq, ↓Ev.P, Ev.Q, eq_self, forall_eq_or_imp, implies_true, forall_const, forall_eq, ↓reduceIte, reduceIte, Nat.reduceEqDiff, Nat.reduceAdd, reduceCtorEq, Nat.reduceSub, Int.reduceToNat, Int.reduceLE, Int.reduceLT, Int.reduceNeg, Nat.reduceBEq, Nat.reduceMul, Nat.reduceLeDiff, Nat.reduceMod, UInt8.reduceOfNat, Nat.reduceLT, Int.reduceEq, Int.reduceAdd, Int.reduceSub, Int.reduceMul]) ⟨i + 1, by omega, rfl, by rw [all_take hil, hall, hd]; rfl, ?_⟩
          simp -dsimp -implicitDefEqProofs only [↓Ev.xStp_eq, ↓Ev.P, Ev.Q, eq_self, forall_eq_or_imp, implies_true, forall_const, forall_eq, ↓reduceIte, reduceIte, Nat.reduceEqDiff, Nat.reduceAdd, reduceCtorEq, Nat.reduceSub, Int.reduceToNat, Int.reduceLE, Int.reduceLT, Int.reduceNeg, Nat.reduceBEq, Nat.reduceMul, Nat.reduceLeDiff, Nat.reduceMod, UInt8.reduceOfNat, Nat.reduceLT, Int.reduceEq, Int.reduceAdd, Int.reduceSub, Int.reduceMul]
        · simp only [Bool.not_eq_true] at hd
          have hna := not_all hil hd
          rw [show parseS l = (0, 3) by rw [parseS, if_neg hb, if_pos hna]] at hk
          have e2 := e2 hd
          simp -dsimp -implicitDefEqProofs only [hil, ↓Ev.xStp_eq, ↓Ev.P, Ev.Q, eq_self, forall_eq_or_imp, implies_true, forall_const, forall_eq, ↓reduceIte, reduceIte, Nat.reduceEqDiff, Nat.reduceAdd, reduceCtorEq, Nat.reduceSub, Int.reduceToNat, Int.reduceLE, Int.reduceLT, Int.reduceNeg, Nat.reduceBEq, Nat.reduceMul, Nat.reduceLeDiff, Nat.reduceMod, UInt8.reduceOfNat, Nat.reduceLT, Int.reduceEq, Int.reduceAdd, Int.reduceSub, Int.reduceMul]
          repeat' (first | with_reducible assumption | refine And.intro ?_ ?_ | intro _)
          all_goals first | omega | exact hk | skip
      · obtain rfl : i = l.length := by omega
        rw [List.take_length] at hall
        rw [show parseS l = if 2147483647 < valT l then (0, 2) else ((valT l : Int), 0) by rw [parseS, if_neg hb, if_neg (by rw [hall]; decide)]] at hk
        by_cases k : 9223372036854775808 ≤ valT l
        · rw [if_pos (by omega)] at hk
          simp -dsimp -implicitDefEqProofs only [Nat.lt_irrefl, S30_3, S30r4, S30_4, S30r5, S30_5, S30r6, CAtoi, k, ↓Ev.xStp_eq, ↓Ev.P, Ev.Q, eq_self, forall_eq_or_imp, implies_true, forall_const, forall_eq, ↓reduceIte, reduceIte, Nat.reduceEqDiff, Nat.reduceAdd, reduceCtorEq, Nat.reduceSub, Int.reduceToNat, Int.reduceLE, Int.reduceLT, Int.reduceNeg, Nat.reduceBEq, Nat.reduceMul, Nat.reduceLeDiff, Nat.reduceMod, UInt8.reduceOfNat, Nat.reduceLT, Int.reduceEq, Int.reduceAdd, Int.reduceSub, Int.reduceMul]
          repeat' (first | with_reducible assumption | refine And.intro ?_ ?_ | intro _)
          all_goals first | omega | exact hk | skip
        · simp -dsimp -implicitDefEqProofs only [Nat.lt_irrefl, S30_3, S30r4, S30_4, S30r5, S30_5, S30r6, CAtoi, k, ↓Ev.xStp_eq, ↓Ev.P, Ev.Q, eq_self, forall_eq_or_imp, implies_true, forall_const, forall_eq, ↓reduceIte, reduceIte, Nat.reduceEqDiff, Nat.reduceAdd, reduceCtorEq, Nat.reduceSub, Int.reduceToNat, Int.reduceLE, Int.reduceLT, Int.reduceNeg, Nat.reduceBEq, Nat.reduceMul, Nat.reduceLeDiff, Nat.reduceMod, UInt8.reduceOfNat, Nat.reduceLT, Int.reduceEq, Int.reduceAdd, Int.reduceSub, Int.reduceMul]
          refine ⟨⟨by omega, hne, hall⟩, fun h => ?_, fun h => ?_⟩
          · rw [if_pos (by simp at h; omega)] at hk; exact hk
          · rw [if_neg (by simp at h; omega)] at hk; exact hk
end Go.Proofs.YtpbkdcfjlbdgfaaDoor
set_option linter.unusedVariables false
set_option linter.unusedSimpArgs false
namespace Go.Proofs.YtpbkdcfjlbdgfaaDoor
open Go Go.Ev
set_option maxRecDepth 100000
variable {G : World → Prop}
def CLawN : Contract := pureC fun args => match args with
  | [.d (.v (.int .i64 n)), .d (.v (.string s))] => some ((-9223372036854775808 ≤ n ∧ n ≤ 9223372036854775807) ∧ s.size ≤ 1099511627776, .d (.v (.bool true)))
  | _ => none
theorem s9 (hG : ∀ w, G w → Pow10 w) (hE : ∀ w, G w → ErrR w) : Sound G Tryd.prog 9 CLawN := by
  refine sd9 (T := tabT [(30, CParse), (31, CParse), (32, CItoa), (33, CItoa)]) (tab_cons (s30 hE) (tab_cons s31 (tab_cons (s32 hG) (tab_cons s33 tab_nil)))) (pureC_lawful _) (pure_hX fun args p x K h hp hk => ?_)
  split at h <;> simp only [Option.some.injEq, Prod.mk.injEq, reduceCtorEq] at h
  obtain ⟨rfl, rfl⟩ := h
  refine ⟨Nat.le_of_ble_eq_true rfl, ?_⟩
  rename_i n s
  obtain ⟨l, rfl⟩ := ex_str s
  simp only [sem_str] at hk hp
  simp -dsimp -implicitDefEqProofs only [S9, R9, CParse, CItoa, ↓Ev.xStp_eq, ↓Ev.P, Ev.Q, eq_self, forall_eq_or_imp, implies_true, forall_const, forall_eq, ↓reduceIte, reduceIte, Nat.reduceEqDiff, Nat.reduceAdd, reduceCtorEq, Nat.reduceSub, Int.reduceToNat, Int.reduceLE, Int.reduceLT, Int.reduceNeg, Nat.reduceBEq, Nat.reduceMul, Nat.reduceLeDiff, Nat.reduceMod, UInt8.reduceOfNat, Nat.reduceLT, Int.reduceEq, Int.reduceAdd, Int.reduceSub, Int.reduceMul]
  repeat' (first | with_reducible assumption | refine And.intro ?_ ?_ | intro _)
  all_goals first | omega | exact hk | skip
end Go.Proofs.YtpbkdcfjlbdgfaaDoor
/- (*strings.Builder).WriteByte. -/
set_option linter.unusedVariables false
set_option linter.unusedSimpArgs false
namespace Go.Proofs.YtpbkdcfjlbdgfaaDoor
open Go Go.Ev Go.RowKit
theorem ubyte : Tryd.prog.underlying 68 = some (.slice 5) := by kernel_rfl
theorem infB : (Tryd.prog.info? 5).map (fun i => (i.zero, i.size, i.bytes)) = some (some (.int .u8 0), 1, 1) := by kernel_rfl
set_option maxHeartbeats 2000000 in
set_option maxRecDepth 100000 in
theorem wb_at {t b : Nat} {p v : Value} {bs : List UInt8} (ht : bldT t = true) {w : World} (h : BldAt w t 5 b p v bs) (c : Int) (hc0 : 0 ≤ c) (hc1 : c < 256) (hlen : bs.length + 1 ≤ 140737488355328) :
    Calls Tryd.prog 88 #[.pointer (some ⟨b, 0, none⟩), .int .u8 c] w fun e w' => e = .returned .nilIface ∧ BldTo w w' t 5 b v (bs ++ [UInt8.ofNat c.toNat]) := by
  obtain ⟨i0, hi, hz0, hz1, hz2⟩ := info_parts infB
  go_enter Tryd.func88, Tryd.ntmps88
  go_wp2_with (go_at_call 94; refine (cc_at ht h).mono ?_)
  rintro e w1 ⟨rfl, hb1, h1⟩
  have c0 : w1.cell? ⟨b, 0, none⟩ = some (.pointer (some ⟨b, 0, none⟩)) := by rw [Lib.cell_of_heap h1.blk]; rfl
  have c1 : w1.cell? ⟨b, 1, none⟩ = some v := by rw [Lib.cell_of_heap h1.blk]; rfl
  go_wp2_with (at_builtin; refine wpList_app (t := 68) rfl rfl ubyte hi hz0 hz1 hz2 rfl (h1.own.alloc _) (A := some ⟨w1.heap.size, 0, none⟩) (k := 1) (cap := 1) rfl (news := [.int .u8 c]) rfl ?c1 ?c2 ?c4 ?_)
  case c1 =>
    intro j u hj
    match j, hj with
    | 0, hj => simp at hj; subst hj; exact ⟨_, rfl, by simp [Addr.add]⟩
  case c2 => intro u hu; simp at hu; subst hu; rfl
  case c4 => omega
  intro v' w2 hown' hgrow hv
  have hlt : b < w1.heap.size := (Array.getElem?_eq_some_iff.1 h1.blk).1
  have hb2 : w2.heap[b]? = some (.cells #[.pointer (some ⟨b, 0, none⟩), v] t (0, 0)) := by
    rw [hgrow.block b (by simp; omega) (fun e => h1.ne e.symm), Lib.alloc_old w1 _ b hlt]
    exact h1.blk
  have d0 : w2.cell? ⟨b, 0, none⟩ = some (.pointer (some ⟨b, 0, none⟩)) := by rw [Lib.cell_of_heap hb2]; rfl
  have d1 : w2.cell? ⟨b, 1, none⟩ = some v := by rw [Lib.cell_of_heap hb2]; rfl
  have f1 : w2.frozen? ⟨b, 1, none⟩ = false := Lib.frozen_of_heap hb2 1
  have hfin := BldAt.wrote (hb1.alloc _) (h1.alloc _) (bs' := bs ++ [UInt8.ofNat c.toNat]) (by rw [byteVals_snoc _ _ hc0 hc1]; simpa using hown') hgrow (by simpa using hv)
  obtain ⟨g, cap, rfl⟩ : ∃ g cap, v' = .slice (some ⟨g, 0, none⟩) (bs.length + 1) cap := by
    rcases hown'.2 with ⟨_, h0⟩ | ⟨g, cap, cur, hv, _⟩
    · omega
    · exact ⟨g, cap, hv⟩
  go_wp2
  go_ret
  exact ⟨rfl, hfin⟩
/-- A byte is written. -/
def gWB : List SV → Nat → Nat → List UInt8 → Option (Prop × SV × List UInt8)
  | [.d (.v (.int .u8 c))], t, u, bs => if bldT t = true ∧ u = 5 then some ((0 ≤ c ∧ c < 256) ∧ bs.length + 1 ≤ 140737488355328, .d (.v .nilIface), bs ++ [UInt8.ofNat c.toNat]) else none
  | _, _, _, _ => none
theorem sWB {G : World → Prop} : Sound G Tryd.prog 88 (bldC gWB) := by
  refine bld_sound ⟨Tryd.f88, by kernel_rfl, by kernel_rfl, by kernel_rfl⟩ ?_
  intro args t u bs p x bs' hg hp w b q v hb c m vs hc ha
  unfold gWB at hg
  split at hg
  · obtain ⟨⟨h1, rfl⟩, hg2⟩ := Option.ite_none_right_eq_some.1 hg
    simp only [Option.some.injEq, Prod.mk.injEq] at hg2
    obtain ⟨rfl, rfl, rfl⟩ := hg2
    match vs, ha with
    | [y], ha =>
      simp only [CnL, and_true] at ha
      rw [of_v ha]
      exact ⟨_, fun _ _ _ => ⟨rfl, rfl⟩, wb_at h1 hb _ hp.1.1 hp.1.2 hp.2⟩
    | [], ha => simp [CnL] at ha
    | _ :: _ :: _, ha => simp [CnL] at ha
  · simp only [reduceCtorEq] at hg
end Go.Proofs.YtpbkdcfjlbdgfaaDoor
/- (*strings.Builder).Write. -/
set_option linter.unusedVariables false
set_option linter.unusedSimpArgs false
namespace Go.Proofs.YtpbkdcfjlbdgfaaDoor
open Go Go.Ev Go.RowKit
theorem ubyte3 : Tryd.prog.underlying 68 = some (.slice 5) := by kernel_rfl
theorem infB3 : (Tryd.prog.info? 5).map (fun i => (i.zero, i.size, i.bytes)) = some (some (.int .u8 0), 1, 1) := by kernel_rfl
set_option maxHeartbeats 2000000 in
set_option maxRecDepth 100000 in
theorem ww_at {t b : Nat} {p v : Value} {bs : List UInt8} (ht : bldT t = true) {w : World} (h : BldAt w t 5 b p v bs) (A : Option Addr) (k cap : Nat) (l : List UInt8) (hl : l.length = k) (hA : ∀ j u, (byteVals l)[j]? = some u → ∃ ad, A = some ad ∧ w.cell? (ad.add j) = some u ∧ (ad.add j).block ≠ b ∧ some (ad.add j).block ≠ v.ownBlock) (hlen : bs.length + k ≤ 140737488355328) :
    Calls Tryd.prog 90 #[.pointer (some ⟨b, 0, none⟩), .slice A k cap] w fun e w' => e = .returned (.tuple #[.int .i64 k, .nilIface]) ∧ BldTo w w' t 5 b v (bs ++ l) := by
  obtain ⟨i0, hi, hz0, hz1, hz2⟩ := info_parts infB3
  go_enter Tryd.func90, Tryd.ntmps90
  go_wp2_with (go_at_call 94; refine (cc_at ht h).mono ?_)
  rintro e w1 ⟨rfl, hb1, h1⟩
  have c0 : w1.cell? ⟨b, 0, none⟩ = some (.pointer (some ⟨b, 0, none⟩)) := by rw [Lib.cell_of_heap h1.blk]; rfl
  have c1 : w1.cell? ⟨b, 1, none⟩ = some v := by rw [Lib.cell_of_heap h1.blk]; rfl
  have hA1 : ∀ j u, (byteVals l)[j]? = some u → ∃ ad, A = some ad ∧ w1.cell? (ad.add j) = some u := by
    intro j u hj
    obtain ⟨ad, e1, e2, e3, e4⟩ := hA j u hj
    exact ⟨ad, e1, by rw [World.cell?_of_block (hb1.block _ (cell_lt e2) e3 e4)]; exact e2⟩
  clear hA
  go_wp2_with (at_builtin; refine wpList_app (t := 68) rfl rfl ubyte3 hi hz0 hz1 hz2 rfl h1.own (A := A) (k := k) (cap := cap) rfl (news := byteVals l) (by rw [byteVals_len]; exact hl) hA1 ?c2 ?c4 ?_)
  case c2 => intro u hu; simp only [byteVals, List.mem_map] at hu; obtain ⟨x, _, rfl⟩ := hu; rfl
  case c4 => omega
  intro v' w2 hown' hgrow hv
  have hlt : b < w1.heap.size := (Array.getElem?_eq_some_iff.1 h1.blk).1
  have hb2 : w2.heap[b]? = some (.cells #[.pointer (some ⟨b, 0, none⟩), v] t (0, 0)) := by
    rw [hgrow.block b hlt (fun e => h1.ne e.symm)]
    exact h1.blk
  have d0 : w2.cell? ⟨b, 0, none⟩ = some (.pointer (some ⟨b, 0, none⟩)) := by rw [Lib.cell_of_heap hb2]; rfl
  have d1 : w2.cell? ⟨b, 1, none⟩ = some v := by rw [Lib.cell_of_heap hb2]; rfl
  have f1 : w2.frozen? ⟨b, 1, none⟩ = false := Lib.frozen_of_heap hb2 1
  have hfin := BldAt.wrote hb1 h1 (bs' := bs ++ l) (by rw [show byteVals (bs ++ l) = byteVals bs ++ byteVals l by simp [byteVals]]; simpa [hl] using hown') hgrow hv
  obtain ⟨ao, n', cap, rfl⟩ : ∃ ao n' cap, v' = .slice ao n' cap := by
    rcases hown'.2 with ⟨hv, _⟩ | ⟨g, cap, cur, hv, _⟩
    · exact ⟨_, _, _, hv⟩
    · exact ⟨_, _, _, hv⟩
  clear hA1
  go_wp2
  go_ret2
  exact ⟨rfl, hfin⟩
/-- Bytes are written. -/
def gWW : List SV → Nat → Nat → List UInt8 → Option (Prop × SV × List UInt8)
  | [.d (.sl rows)], t, u, bs => (bytesOf rows).bind fun l => if bldT t = true ∧ u = 5 then some (bs.length + rows.length ≤ 140737488355328 ∧ bytesIn rows, .tup [.d (.v (.int .i64 rows.length)), .d (.v .nilIface)], bs ++ l) else none
  | _, _, _, _ => none
theorem sWW {G : World → Prop} : Sound G Tryd.prog 90 (bldC gWW) := by
  refine bld_sound ⟨Tryd.f90, by kernel_rfl, by kernel_rfl, by kernel_rfl⟩ ?_
  intro args t u bs p x bs' hg hp w b q v hb c m vs hc ha
  unfold gWW at hg
  split at hg
  · obtain ⟨l, hl, hg⟩ := Option.bind_eq_some_iff.1 hg
    obtain ⟨⟨h1, rfl⟩, hg2⟩ := Option.ite_none_right_eq_some.1 hg
    simp only [Option.some.injEq, Prod.mk.injEq] at hg2
    obtain ⟨rfl, rfl, rfl⟩ := hg2
    match vs, ha with
    | [y], ha =>
      simp only [CnL, and_true] at ha
      obtain ⟨A, cap, rfl, hlc, hrows⟩ := sl_bytes hp.2 hl ha
      exact ⟨_, fun m n c => by simp only [Cn]; exact ⟨_, rfl, by simp only [CnL, Cn, and_true]; exact ⟨⟨rfl, rfl⟩, ⟨rfl, rfl⟩⟩⟩, ww_at h1 hb A _ cap l hlc (fun j u hj => by
        obtain ⟨ad, e1, e2⟩ := hrows j u hj
        exact ⟨ad, e1, hc _ _ e2⟩) hp.1⟩
    | [], ha => simp [CnL] at ha
    | _ :: _ :: _, ha => simp [CnL] at ha
  · simp only [reduceCtorEq] at hg
end Go.Proofs.YtpbkdcfjlbdgfaaDoor
/- (*strings.Builder).String. -/
set_option linter.unusedVariables false
set_option linter.unusedSimpArgs false
namespace Go.Proofs.YtpbkdcfjlbdgfaaDoor
open Go Go.Ev Go.RowKit
theorem infB4 : (Tryd.prog.info? 5).map (·.size) = some 1 := by kernel_rfl
theorem uptr4 : Tryd.prog.underlying 120 = some (.pointer 5) := by kernel_rfl
theorem cellsB4 : Tryd.prog.cellsOf 5 = 1 := by kernel_rfl
set_option maxHeartbeats 2000000 in
set_option maxRecDepth 100000 in
theorem st_some {t b g cap : Nat} {p : Value} {l : List UInt8} {cur : Array Value} {w : World} (hbk : w.heap[b]? = some (.cells #[p, .slice (some ⟨g, 0, none⟩) l.length cap] t (0, 0))) (hg : w.heap[g]? = some (.cells cur 5 (0, 0))) (h0 : l ≠ []) (hown : w.ownsRow 0 5 1 (.slice (some ⟨g, 0, none⟩) l.length cap) l.length (byteVals l)) (hnc : l.length ≤ cap) (hcm : cap ≤ maxLen) (hcs : cur.size = cap * 1) :
    Calls Tryd.prog 45 #[.pointer (some ⟨b, 0, none⟩)] w fun e w' => e = .returned (.string ⟨l.toArray⟩) ∧ BldEnd w w' b (.slice (some ⟨g, 0, none⟩) l.length cap) := by
  have hl0 : l.length ≠ 0 := by simpa using h0
  have c1 : w.drew.cell? ⟨b, 1, none⟩ = some (.slice (some ⟨g, 0, none⟩) l.length cap) := by
    have : w.drew.heap[b]? = some (.cells #[p, .slice (some ⟨g, 0, none⟩) l.length cap] t (0, 0)) := hbk
    rw [Lib.cell_of_heap this]; rfl
  have hSD : (Builtin.unsafeSliceData_ #[68] 120 #[.slice (some ⟨g, 0, none⟩) l.length cap]).run Tryd.prog w.drew = .ok (.pointer (some ⟨g, 0, none⟩)) w.drew :=
    Lib.run_unsafeSliceData_row _ _ _ _ _ _ (by omega)
  have hUS : (Builtin.unsafeString_ #[120, 3] 9 #[.pointer (some ⟨g, 0, none⟩), .int .i64 l.length]).run Tryd.prog w.drew = .ok (.string ⟨l.toArray⟩) (w.drew.freeze ⟨g, 0, none⟩ l.length) := by
    refine Lib.run_unsafeString_row w.drew 120 3 9 5 uptr4 cellsB4 g cur.size (by have hg' : w.drew.heap[g]? = some (.cells cur 5 (0, 0)) := hg; simp [World.shape?, hg']) l h0 (by omega) (by unfold maxLen at hcm; omega) ?_
    intro j x hx
    have := hown.cells (g := g) rfl j (.int .u8 x.toNat) (by simp [byteVals, hx])
    exact this
  clear hown hnc hcm hcs
  go_enter Tryd.func45, Tryd.ntmps45
  go_wp2
  go_region
  all_goals (go_wp2; go_ret; exact ⟨rfl, BldEnd.freeze (BldEnd.drew (BldEnd.refl w b _)) rfl _⟩)
theorem us_none (W : World) (q : Option Addr) : (Builtin.unsafeString_ #[120, 3] 9 #[.pointer q, .int .i64 0]).run Tryd.prog W = .ok (.string .empty) W :=
  Lib.run_unsafeString_none W _ _ _ q
set_option maxHeartbeats 2000000 in
set_option maxRecDepth 100000 in
theorem st_nil {t b : Nat} {p : Value} {w : World} (hbk : w.heap[b]? = some (.cells #[p, .slice none 0 0] t (0, 0))) :
    Calls Tryd.prog 45 #[.pointer (some ⟨b, 0, none⟩)] w fun e w' => e = .returned (.string ⟨#[]⟩) ∧ BldEnd w w' b (.slice none 0 0) := by
  have hUS := us_none
  have c1 : w.drew.cell? ⟨b, 1, none⟩ = some (.slice none 0 0) := by
    have : w.drew.heap[b]? = some (.cells #[p, .slice none 0 0] t (0, 0)) := hbk
    rw [Lib.cell_of_heap this]; rfl
  have hSD : (Builtin.unsafeSliceData_ #[68] 120 #[.slice none 0 0]).run Tryd.prog w.drew = .ok (.pointer none) w.drew := rfl
  go_enter Tryd.func45, Tryd.ntmps45
  go_wp2
  go_region
  all_goals (go_wp2; go_ret; exact ⟨rfl, BldEnd.drew (BldEnd.refl w b _)⟩)
set_option maxHeartbeats 2000000 in
set_option maxRecDepth 100000 in
theorem st_noroom {t b g : Nat} {p : Value} {cur : Array Value} {w : World} (hbk : w.heap[b]? = some (.cells #[p, .slice (some ⟨g, 0, none⟩) 0 0] t (0, 0))) (hg : w.heap[g]? = some (.cells cur 5 (0, 0))) :
    Calls Tryd.prog 45 #[.pointer (some ⟨b, 0, none⟩)] w fun e w' => e = .returned (.string ⟨#[]⟩) ∧ BldEnd w w' b (.slice (some ⟨g, 0, none⟩) 0 0) := by
  have hUS := us_none
  have hlt : b < w.heap.size := (Array.getElem?_eq_some_iff.1 hbk).1
  have c1 : w.drew.cell? ⟨b, 1, none⟩ = some (.slice (some ⟨g, 0, none⟩) 0 0) := by
    have : w.drew.heap[b]? = some (.cells #[p, .slice (some ⟨g, 0, none⟩) 0 0] t (0, 0)) := hbk
    rw [Lib.cell_of_heap this]; rfl
  have hSD : (Builtin.unsafeSliceData_ #[68] 120 #[.slice (some ⟨g, 0, none⟩) 0 0]).run Tryd.prog w.drew = .ok (.pointer (some ⟨w.drew.heap.size, 0, none⟩)) (w.drew.alloc (.view ⟨g, 0, none⟩ 5)) :=
    Lib.run_unsafeSliceData_zero w.drew _ _ 5 uptr4 ⟨g, 0, none⟩ 0 (5, cur.size) (by have hg' : w.drew.heap[g]? = some (.cells cur 5 (0, 0)) := hg; simp [World.shape?, hg'])
  have c2 : (w.drew.alloc (.view ⟨g, 0, none⟩ 5)).cell? ⟨b, 1, none⟩ = some (.slice (some ⟨g, 0, none⟩) 0 0) := by
    have : (w.drew.alloc (.view ⟨g, 0, none⟩ 5)).heap[b]? = _ := (Lib.alloc_old w.drew _ b hlt).trans hbk
    rw [Lib.cell_of_heap this]; rfl
  have c3 : (w.alloc (.view ⟨g, 0, none⟩ 5)).drew.cell? ⟨b, 1, none⟩ = some (.slice (some ⟨g, 0, none⟩) 0 0) := c2
  have c0 : w.cell? ⟨b, 1, none⟩ = some (.slice (some ⟨g, 0, none⟩) 0 0) := c1
  go_enter Tryd.func45, Tryd.ntmps45
  go_wp2
  go_region
  all_goals (go_wp2; go_ret; exact ⟨rfl, BldEnd.alloc (BldEnd.drew (BldEnd.refl w b _)) _⟩)
set_option maxHeartbeats 2000000 in
set_option maxRecDepth 100000 in
theorem st_room {t b g cap : Nat} {p : Value} {w : World} (hc0 : cap ≠ 0) (hbk : w.heap[b]? = some (.cells #[p, .slice (some ⟨g, 0, none⟩) 0 cap] t (0, 0))) :
    Calls Tryd.prog 45 #[.pointer (some ⟨b, 0, none⟩)] w fun e w' => e = .returned (.string ⟨#[]⟩) ∧ BldEnd w w' b (.slice (some ⟨g, 0, none⟩) 0 cap) := by
  have hUS := us_none
  have c1 : w.drew.cell? ⟨b, 1, none⟩ = some (.slice (some ⟨g, 0, none⟩) 0 cap) := by
    have : w.drew.heap[b]? = some (.cells #[p, .slice (some ⟨g, 0, none⟩) 0 cap] t (0, 0)) := hbk
    rw [Lib.cell_of_heap this]; rfl
  have hSD : (Builtin.unsafeSliceData_ #[68] 120 #[.slice (some ⟨g, 0, none⟩) 0 cap]).run Tryd.prog w.drew = .ok (.pointer (some ⟨g, 0, none⟩)) w.drew :=
    Lib.run_unsafeSliceData_row _ _ _ _ _ _ hc0
  clear hc0
  go_enter Tryd.func45, Tryd.ntmps45
  go_wp2
  go_region
  all_goals (go_wp2; go_ret; exact ⟨rfl, BldEnd.drew (BldEnd.refl w b _)⟩)
theorem sST {G : World → Prop} : Sound G Tryd.prog 45 (strC 5) := by
  refine str_sound ⟨Tryd.f45, by kernel_rfl, by kernel_rfl, by kernel_rfl⟩ ?_
  rintro w t b p v bs h
  obtain ⟨h1, _, hown, h4⟩ := h
  have hown' := hown
  obtain ⟨g1, g2⟩ := hown
  rcases g2 with ⟨rfl, h0⟩ | ⟨g, cap, cur, rfl, e2, e3, e4, e5, e6, e7⟩
  · have : bs = [] := List.eq_nil_of_length_eq_zero h0
    subst this
    exact st_nil h1
  · cases bs with
    | nil =>
      by_cases hc0 : cap = 0
      · subst hc0; exact st_noroom h1 e3
      · exact st_room hc0 h1
    | cons x r => exact st_some h1 e3 (by simp) hown' e4 e5 e6
end Go.Proofs.YtpbkdcfjlbdgfaaDoor
set_option linter.unusedVariables false
set_option linter.unusedSimpArgs false
namespace Go.Proofs.YtpbkdcfjlbdgfaaDoor
open Go Go.Ev
set_option maxRecDepth 100000
variable {G : World → Prop}
/-- A byte in a quoted text. -/
def qb (c : UInt8) : List UInt8 := if plainB c.toNat = true then [c] else [92, hexs.getD (c.toNat / 16) 0, hexs.getD (c.toNat % 16) 0]
def quo (l : List UInt8) : List UInt8 := 34 :: l.flatMap qb ++ [34]
theorem qb_len (c : UInt8) : (qb c).length ≤ 3 := by unfold qb; split <;> simp
theorem quo_len (l : List UInt8) : (quo l).length ≤ 3 * l.length + 2 := by
  unfold quo
  have : ∀ l : List UInt8, (l.flatMap qb).length ≤ 3 * l.length := by
    intro l
    induction l with
    | nil => simp
    | cons c r ih => have := qb_len c; simp only [List.flatMap_cons, List.length_append, List.length_cons]; omega
  have := this l
  simp only [List.length_append, List.length_cons, List.length_nil]; omega
def C39 : Contract := pureC fun args => match args with
  | [.d (.v (.string s))] => some (s.size ≤ 1099511627776, .d (.v (str (quo s.data.toList))))
  | _ => none
theorem take_snoc (l : List UInt8) (i : Nat) (h : i < l.length) : l.take (i + 1) = l.take i ++ [l.getD i 0] := by
  rw [List.take_succ_eq_append_getElem h]
  simp [List.getD_eq_getElem?_getD, List.getElem?_eq_getElem h]
theorem nib_hi (c : UInt8) : ((c.toNat : Nat) : Int).fdiv (2 ^ min 4 IntKind.u8.bits) = ((c.toNat / 16 : Nat) : Int) := by
  have : ∀ n : Fin 256, ((n.val : Nat) : Int).fdiv (2 ^ min 4 IntKind.u8.bits) = ((n.val / 16 : Nat) : Int) := by decide +kernel
  exact this ⟨c.toNat, c.toNat_lt⟩
theorem nib_lo (c : UInt8) : IntKind.u8.wrap ((BitVec.ofInt IntKind.u8.bits ((c.toNat : Nat) : Int) &&& BitVec.ofInt IntKind.u8.bits 15).toNat : Int) = ((c.toNat % 16 : Nat) : Int) := by
  have : ∀ n : Fin 256, IntKind.u8.wrap ((BitVec.ofInt IntKind.u8.bits ((n.val : Nat) : Int) &&& BitVec.ofInt IntKind.u8.bits 15).toNat : Int) = ((n.val % 16 : Nat) : Int) := by decide +kernel
  exact this ⟨c.toNat, c.toNat_lt⟩
theorem flat_len (q : List UInt8) (i : Nat) : ((q.take i).flatMap qb).length ≤ 3 * q.length := by
  have h := quo_len (q.take i)
  unfold quo at h
  simp only [List.length_append, List.length_cons, List.length_nil, List.length_take] at h
  omega
theorem flat_snoc (q : List UInt8) (i : Nat) (h : i < q.length) : (q.take (i + 1)).flatMap qb = (q.take i).flatMap qb ++ qb (q.getD i 0) := by
  rw [take_snoc q i h, List.flatMap_append]; simp
theorem s39 : Sound G Tryd.prog 39 C39 := by
  refine sd39 (T := tabT [(89, C89), (88, bldC gWB), (90, bldC gWW), (45, strC 5)]) (tab_cons s89 (tab_cons sWB (tab_cons sWW (tab_cons sST tab_nil)))) (pureC_lawful _) (pure_hX fun args p x K h hp hk => ?_)
  split at h <;> simp only [Option.some.injEq, Prod.mk.injEq, reduceCtorEq] at h
  obtain ⟨rfl, rfl⟩ := h
  refine ⟨Nat.le_of_ble_eq_true rfl, ?_⟩
  rename_i s
  obtain ⟨q, rfl⟩ := ex_str s
  simp only [sem_str] at hk hp
  simp -dsimp -implicitDefEqProofs only [S39, R39, C89, gWB, gWW, bldT, ↓Ev.xStp_eq, ↓Ev.P, Ev.Q, eq_self, forall_eq_or_imp, implies_true, forall_const, forall_eq, ↓reduceIte, reduceIte, Nat.reduceEqDiff, Nat.reduceAdd, reduceCtorEq, Nat.reduceSub, Int.reduceToNat, Int.reduceLE, Int.reduceLT, Int.reduceNeg, Nat.reduceBEq, Nat.reduceMul, Nat.reduceLeDiff, Nat.reduceMod, UInt8.reduceOfNat, Nat.reduceLT, Int.reduceEq, Int.reduceAdd, Int.reduceSub, Int.reduceMul]
  refine xLoop_intro (fun n st => ∃ i : Nat, i ≤ q.length ∧ n = q.length - i ∧ 
      st = ⟨[(0, .d (.v (.string ⟨q.toArray⟩))), (3, .ptr 0 0), (8, .d (.v (.int .i64 q.length))), (9, .d (.v (.int .i64 i)))], 1, [(0, .bld 70 5 (34 :: (q.take i).flatMap qb))]⟩) q.length [0] ?_ ?_ ?_
  · simp -dsimp -implicitDefEqProofs only [↓Ev.xStp_eq, ↓Ev.P, Ev.Q, eq_self, forall_eq_or_imp, implies_true, forall_const, forall_eq, ↓reduceIte, reduceIte, Nat.reduceEqDiff, Nat.reduceAdd, reduceCtorEq, Nat.reduceSub, Int.reduceToNat, Int.reduceLE, Int.reduceLT, Int.reduceNeg, Nat.reduceBEq, Nat.reduceMul, Nat.reduceLeDiff, Nat.reduceMod, UInt8.reduceOfNat, Nat.reduceLT, Int.reduceEq, Int.reduceAdd, Int.reduceSub, Int.reduceMul]
  · simp -dsimp -implicitDefEqProofs only [↓Ev.xStp_eq, ↓Ev.P, Ev.Q, eq_self, forall_eq_or_imp, implies_true, forall_const, forall_eq, ↓reduceIte, reduceIte, Nat.reduceEqDiff, Nat.reduceAdd, reduceCtorEq, Nat.reduceSub, Int.reduceToNat, Int.reduceLE, Int.reduceLT, Int.reduceNeg, Nat.reduceBEq, Nat.reduceMul, Nat.reduceLeDiff, Nat.reduceMod, UInt8.reduceOfNat, Nat.reduceLT, Int.reduceEq, Int.reduceAdd, Int.reduceSub, Int.reduceMul]
    refine ⟨0, by omega, by omega, rfl⟩
  · rintro n st ⟨i, hi, hn, rfl⟩
    have hf := flat_len q i
    have hb := (q.getD i 0).toNat_lt
    simp -dsimp -implicitDefEqProofs only [C89, gWB, gWW, bldT, nib_hi, nib_lo, ↓Ev.xStp_eq, ↓Ev.P, Ev.Q, eq_self, forall_eq_or_imp, implies_true, forall_const, forall_eq, ↓reduceIte, reduceIte, Nat.reduceEqDiff, Nat.reduceAdd, reduceCtorEq, Nat.reduceSub, Int.reduceToNat, Int.reduceLE, Int.reduceLT, Int.reduceNeg, Nat.reduceBEq, Nat.reduceMul, Nat.reduceLeDiff, Nat.reduceMod, UInt8.reduceOfNat, Nat.reduceLT, Int.reduceEq, Int.reduceAdd, Int.reduceSub, Int.reduceMul]
    repeat' (first | refine And.intro ?_ ?_ | intro _)
    all_goals try omega
    · rename_i hl hp
      refine xAgain_intro (q.length - (i + 1)) [0] (by omega) (by simp -dsimp -implicitDefEqProofs only [↓Ev.xStp_eq, ↓Ev.P, Ev.Q, eq_self, forall_eq_or_imp, implies_true, forall_const, forall_eq, ↓reduceIte, reduceIte, Nat.reduceEqDiff, Nat.reduceAdd, reduceCtorEq, Nat.reduceSub, Int.reduceToNat, Int.reduceLE, Int.reduceLT, Int.reduceNeg, Nat.reduceBEq, Nat.reduceMul, Nat.reduceLeDiff, Nat.reduceMod, UInt8.reduceOfNat, Nat.reduceLT, Int.reduceEq, Int.reduceAdd, Int.reduceSub, Int.reduceMul]) ⟨i + 1, by omega, rfl, ?_⟩
      rw [flat_snoc q i (by omega), qb, if_pos hp]
      simp -dsimp -implicitDefEqProofs only [↓Ev.xStp_eq, ↓Ev.P, Ev.Q, eq_self, forall_eq_or_imp, implies_true, forall_const, forall_eq, ↓reduceIte, reduceIte, Nat.reduceEqDiff, Nat.reduceAdd, reduceCtorEq, Nat.reduceSub, Int.reduceToNat, Int.reduceLE, Int.reduceLT, Int.reduceNeg, Nat.reduceBEq, Nat.reduceMul, Nat.reduceLeDiff, Nat.reduceMod, UInt8.reduceOfNat, Nat.reduceLT, Int.reduceEq, Int.reduceAdd, Int.reduceSub, Int.reduceMul]
      simp
    · rename_i hl hp
      refine xAgain_intro (q.length - (i + 1)) [0] (by omega) (by simp -dsimp -implicitDefEqProofs only [↓Ev.xStp_eq, ↓Ev.P, Ev.Q, eq_self, forall_eq_or_imp, implies_true, forall_const, forall_eq, ↓reduceIte, reduceIte, Nat.reduceEqDiff, Nat.reduceAdd, reduceCtorEq, Nat.reduceSub, Int.reduceToNat, Int.reduceLE, Int.reduceLT, Int.reduceNeg, Nat.reduceBEq, Nat.reduceMul, Nat.reduceLeDiff, Nat.reduceMod, UInt8.reduceOfNat, Nat.reduceLT, Int.reduceEq, Int.reduceAdd, Int.reduceSub, Int.reduceMul]) ⟨i + 1, by omega, rfl, ?_⟩
      rw [flat_snoc q i (by omega), qb, if_neg (by rw [hp]; exact Bool.false_ne_true)]
      simp -dsimp -implicitDefEqProofs only [↓Ev.xStp_eq, ↓Ev.P, Ev.Q, eq_self, forall_eq_or_imp, implies_true, forall_const, forall_eq, ↓reduceIte, reduceIte, Nat.reduceEqDiff, Nat.reduceAdd, reduceCtorEq, Nat.reduceSub, Int.reduceToNat, Int.reduceLE, Int.reduceLT, Int.reduceNeg, Nat.reduceBEq, Nat.reduceMul, Nat.reduceLeDiff, Nat.reduceMod, UInt8.reduceOfNat, Nat.reduceLT, Int.reduceEq, Int.reduceAdd, Int.reduceSub, Int.reduceMul]
      simp
    · rename_i hl
      rw [List.take_of_length_le (by omega)]
      exact hk
end Go.Proofs.YtpbkdcfjlbdgfaaDoor
set_option linter.unusedVariables false
set_option linter.unusedSimpArgs false
namespace Go.Proofs.YtpbkdcfjlbdgfaaDoor
open Go Go.Ev
set_option maxRecDepth 100000
theorem dig_of {c : UInt8} (h : 48 ≤ c.toNat ∧ c.toNat ≤ 57) : dig c = true := by simp only [dig, Bool.and_eq_true, decide_eq_true_eq]; omega
theorem digit_nat (k : Nat) (h : k < 10) : (UInt8.ofNat (48 + k)).toNat = 48 + k := by
  simp [UInt8.toNat_ofNat']; omega
theorem dec_all : ∀ u : Nat, (Lib.decDigits u).all dig = true := by
  intro u
  induction u using Nat.strongRecOn with
  | _ u ih =>
    by_cases h : u < 10
    · rw [dec_small h]
      simp only [List.all_cons, List.all_nil, Bool.and_true]
      exact dig_of (by rw [digit_nat _ (by omega)]; omega)
    · rw [dec_big h, List.all_append, ih (u / 10) (by omega)]
      simp only [List.all_cons, List.all_nil, Bool.and_true, Bool.true_and]
      exact dig_of (by rw [digit_nat _ (by omega)]; omega)
theorem dec_val : ∀ u : Nat, valT (Lib.decDigits u) = u := by
  intro u
  induction u using Nat.strongRecOn with
  | _ u ih =>
    by_cases h : u < 10
    · rw [dec_small h]
      simp only [valT, List.foldl_cons, List.foldl_nil]
      rw [digit_nat _ (by omega)]; omega
    · rw [dec_big h, val_app, ih (u / 10) (by omega), digit_nat _ (by omega)]; omega
theorem dec_ne (u : Nat) : Lib.decDigits u ≠ [] := by
  by_cases h : u < 10
  · rw [dec_small h]; simp
  · rw [dec_big h]; simp
theorem dec_head : ∀ u : Nat, 1 ≤ u → (Lib.decDigits u).getD 0 0 ≠ 48 := by
  intro u
  induction u using Nat.strongRecOn with
  | _ u ih =>
    intro h1
    by_cases h : u < 10
    · rw [dec_small h]
      simp only [List.getD_cons_zero]
      intro e
      have := congrArg UInt8.toNat e
      rw [digit_nat _ (by omega), show (48 : UInt8).toNat = 48 from rfl] at this
      omega
    · rw [dec_big h]
      have hi := ih (u / 10) (by omega) (by omega)
      cases e : Lib.decDigits (u / 10) with
      | nil => exact absurd e (dec_ne _)
      | cons c r => rw [e] at hi; exact hi
theorem dec_good (u : Nat) : ¬ badP (Lib.decDigits u) := by
  rintro (h | ⟨h1, h2⟩)
  · exact dec_ne u h
  · by_cases h : u < 10
    · rw [dec_small h] at h1; simp at h1
    · exact dec_head u (by omega) h2
/-- What was written is read again. -/
theorem parse_text (n : Int) : parseS (Lib.itoa n) = if n < 0 then (0, 3) else if 2147483647 < n then (0, 2) else (n, 0) := by
  unfold Lib.itoa
  by_cases h : n < 0
  · rw [if_pos h, if_pos h]
    unfold parseS
    by_cases hb : badP (45 :: Lib.decDigits n.natAbs)
    · rw [if_pos hb]
    · rw [if_neg hb, if_pos]
      rfl
  · rw [if_neg h, if_neg h]
    unfold parseS
    rw [if_neg (dec_good _), if_neg (by rw [dec_all]; decide), dec_val]
    by_cases k : 2147483647 < n
    · rw [if_pos k, if_pos (by omega)]
    · rw [if_neg k, if_neg (by omega)]
      congr 1
      omega
theorem quo_byte : ∀ c : UInt8, plainB c.toNat = false → (plainB (92 : UInt8).toNat = false) ∧ okO (hexs.getD (c.toNat / 16) 0) (hexs.getD (c.toNat % 16) 0) = true ∧ UInt8.ofNat (octV (hexs.getD (c.toNat / 16) 0) (hexs.getD (c.toNat % 16) 0)).toNat = c := by
  have : ∀ n : Fin 256, plainB ((n.val : Nat) : Int) = false → (plainB (92 : UInt8).toNat = false) ∧ okO (hexs.getD (n.val / 16) 0) (hexs.getD (n.val % 16) 0) = true ∧ UInt8.ofNat (octV (hexs.getD (n.val / 16) 0) (hexs.getD (n.val % 16) 0)).toNat = UInt8.ofNat n.val := by decide +kernel
  intro c hc
  have h := this ⟨c.toNat, c.toNat_lt⟩ hc
  simpa using h
theorem unq_quo : ∀ (l rest out : List UInt8), unq (l.flatMap qb ++ 34 :: rest) out = some (out ++ l, rest)
  | [], rest, out => by simp [unq]
  | c :: l, rest, out => by
    have ih := unq_quo l rest (out ++ [c])
    by_cases hp : plainB c.toNat = true
    · have hne : ¬ c = 34 := by rintro rfl; revert hp; decide
      have e : (c :: l).flatMap qb ++ 34 :: rest = c :: (l.flatMap qb ++ 34 :: rest) := by simp [qb, hp]
      rw [e, unq, if_neg hne, if_pos hp, ih]
      simp
    · simp only [Bool.not_eq_true] at hp
      obtain ⟨q1, q2, q3⟩ := quo_byte c hp
      have e : (c :: l).flatMap qb ++ 34 :: rest = 92 :: hexs.getD (c.toNat / 16) 0 :: hexs.getD (c.toNat % 16) 0 :: (l.flatMap qb ++ 34 :: rest) := by simp [qb, hp]
      rw [e, unq, if_neg (by decide), if_neg (by rw [q1]; decide), if_pos ⟨rfl, by simp only [oct2]; exact q2⟩]
      simp only [oct2, List.drop_succ_cons, List.drop_zero, q3, ih]
      simp
theorem unq_back (l rest : List UInt8) : unqL (quo l ++ rest) = some (l, rest) := by
  have := unq_quo l rest []
  simp only [quo, List.cons_append, List.append_assoc, List.nil_append] at this ⊢
  simp only [unqL]
  exact this
theorem quo_plain (l : List UInt8) : ∀ c ∈ quo l, 32 ≤ c.toNat ∧ c.toNat ≤ 126 := by
  intro c hc
  simp only [quo, List.cons_append, List.mem_cons, List.mem_append, List.mem_flatMap, List.not_mem_nil, or_false] at hc
  rcases hc with rfl | ⟨d, _, hd⟩ | rfl
  · decide
  · have : ∀ n : Fin 256, ∀ x ∈ qb (UInt8.ofNat n.val), 32 ≤ x.toNat ∧ x.toNat ≤ 126 := by decide +kernel
    have h := this ⟨d.toNat, d.toNat_lt⟩ c
    simp only [UInt8.ofNat_toNat] at h
    exact h hd
  · decide
end Go.Proofs.YtpbkdcfjlbdgfaaDoor
/- The compiled code of functions, by program (gen.py): each theorem says that the loaded program compiles to it. -/
set_option linter.unusedVariables false
namespace Go.Proofs.YtpbkdcfjlbdgfaaDoor
open Go Go.Ev
set_option maxRecDepth 100000

/-! 11: redline/redlinelaw01.NumBack -/
def A11 : Ann := ⟨fun _ _ => 0, fun _ => none, fun r => if r = 3 then some (false, [0, 1, 2]) else if r = 4 then some (false, [0, 1, 2, 7, 8]) else if r = 6 then some (false, [1, 2]) else if r = 7 then some (false, [1, 2, 9]) else if r = 9 then some (false, [1, 2, 9, 10, 11, 12, 13]) else if r = 10 then some (false, [1, 2, 9, 10, 11, 12, 13]) else if r = 11 then some (false, [1, 2, 9, 10, 11, 12, 13]) else if r = 13 then some (false, [1, 2, 10, 11, 12]) else none, fun r => if r = 9 then [1, 2, 9, 10, 11, 12, 13] else []⟩
def S11 : SCode :=
  (.seq (.ops [⟨none, (some 6), .mv 6 (.k (Value.bool false)), false⟩])
  (.seq (.seq (.ops [⟨none, (some 14), .call (some 14) 38 false [], false⟩,
    ⟨none, (some 15), .not 15 (.s 14), false⟩])
  (.cond (.s 15) (.seq (.ops [⟨none, (some 6), .mv 6 (.k (Value.bool false)), false⟩])
  .ret) .skip))
  (.seq (.seq (.keep [0, 1, 2]) (.ops [⟨none, (some 17), .mv 17 (.s 0), false⟩,
    ⟨none, (some 18), .call (some 18) 32 false [(.s 17)], false⟩,
    ⟨none, (some 19), .call (some 19) 30 false [(.s 18)], false⟩,
    ⟨none, (some 16), .mv 16 (.s 19), false⟩,
    ⟨none, (some 20), .ex 20 (.s 16) 0, false⟩,
    ⟨none, (some 21), .ex 21 (.s 16) 1, false⟩,
    ⟨none, (some 7), .mv 7 (.s 20), false⟩,
    ⟨none, (some 8), .mv 8 (.s 21), false⟩]))
  (.seq (.seq (.seq (.keep [0, 1, 2, 7, 8]) (.ops [⟨none, (some 22), .mv 22 (.s 0), false⟩,
    ⟨none, (some 23), .bin 23 .geq (.s 22) (.k (Value.int .i64 0)), false⟩,
    ⟨none, (some 24), .mv 24 (.s 23), false⟩,
    ⟨(some (24, true)), (some 25), .mv 25 (.s 0), false⟩,
    ⟨(some (24, true)), (some 26), .bin 26 .leq (.s 25) (.k (Value.int .i64 2147483647)), false⟩,
    ⟨none, (some 27), .pk 27 (.s 24) (.s 26) (.k (Value.bool false)), false⟩,
    ⟨none, (some 28), .mv 28 (.s 27), false⟩,
    ⟨(some (28, true)), (some 29), .mv 29 (.s 7), false⟩,
    ⟨(some (28, true)), (some 30), .mv 30 (.s 0), false⟩,
    ⟨(some (28, true)), (some 31), .bin 31 .neq (.s 29) (.s 30), true⟩,
    ⟨(some (28, true)), (some 32), .mv 32 (.s 31), false⟩,
    ⟨(some (32, false)), (some 33), .mv 33 (.s 8), false⟩,
    ⟨(some (32, false)), (some 34), .bin 34 .neq (.s 33) (.k (Value.int .i64 0)), false⟩,
    ⟨(some (28, true)), (some 35), .pk 35 (.s 32) (.k (Value.bool true)) (.s 34), false⟩,
    ⟨none, (some 36), .pk 36 (.s 28) (.s 35) (.k (Value.bool false)), false⟩,
    ⟨none, (some 37), .mv 37 (.s 36), false⟩,
    ⟨(some (37, false)), (some 38), .mv 38 (.s 0), false⟩,
    ⟨(some (37, false)), (some 39), .bin 39 .lss (.s 38) (.k (Value.int .i64 0)), false⟩,
    ⟨(some (37, false)), (some 40), .mv 40 (.s 39), false⟩,
    ⟨(some (40, true)), (some 41), .mv 41 (.s 8), true⟩,
    ⟨(some (40, true)), (some 42), .bin 42 .neq (.s 41) (.k (Value.int .i64 3)), false⟩,
    ⟨(some (37, false)), (some 43), .pk 43 (.s 40) (.s 42) (.k (Value.bool false)), false⟩,
    ⟨none, (some 44), .pk 44 (.s 37) (.k (Value.bool true)) (.s 43), false⟩,
    ⟨none, (some 45), .mv 45 (.s 44), false⟩,
    ⟨(some (45, false)), (some 46), .mv 46 (.s 0), false⟩,
    ⟨(some (45, false)), (some 47), .bin 47 .gtr (.s 46) (.k (Value.int .i64 2147483647)), false⟩,
    ⟨(some (45, false)), (some 48), .mv 48 (.s 47), false⟩,
    ⟨(some (48, true)), (some 49), .mv 49 (.s 8), false⟩,
    ⟨(some (48, true)), (some 50), .bin 50 .neq (.s 49) (.k (Value.int .i64 2)), false⟩,
    ⟨(some (45, false)), (some 51), .pk 51 (.s 48) (.s 50) (.k (Value.bool false)), true⟩,
    ⟨none, (some 52), .pk 52 (.s 45) (.k (Value.bool true)) (.s 51), false⟩]))
  (.cond (.s 52) (.seq (.ops [⟨none, (some 6), .mv 6 (.k (Value.bool false)), false⟩])
  .ret) .skip))
  (.seq (.seq (.keep [1, 2]) (.ops [⟨none, (some 53), .mv 53 (.s 1), false⟩,
    ⟨none, (some 54), .call (some 54) 39 false [(.s 53)], false⟩,
    ⟨none, (some 9), .mv 9 (.s 54), false⟩]))
  (.seq (.seq (.keep [1, 2, 9]) (.ops [⟨none, (some 56), .mv 56 (.s 9), false⟩,
    ⟨none, (some 57), .mv 57 (.s 2), false⟩,
    ⟨none, (some 58), .bin 58 .add (.s 56) (.s 57), false⟩,
    ⟨none, (some 59), .call (some 59) 40 false [(.s 58)], false⟩,
    ⟨none, (some 55), .mv 55 (.s 59), false⟩,
    ⟨none, (some 60), .ex 60 (.s 55) 0, false⟩,
    ⟨none, (some 61), .ex 61 (.s 55) 1, false⟩,
    ⟨none, (some 62), .ex 62 (.s 55) 2, false⟩,
    ⟨none, (some 10), .mv 10 (.s 60), false⟩,
    ⟨none, (some 11), .mv 11 (.s 61), true⟩,
    ⟨none, (some 12), .mv 12 (.s 62), false⟩]))
  (.seq (.seq (.ops [⟨none, (some 13), .mv 13 (.k (Value.int .i64 0)), false⟩])
  (.block 0 (.loop [1, 2, 9, 10, 11, 12, 13] (.seq (.seq (.seq (.keep [1, 2, 9, 10, 11, 12, 13]) (.ops [⟨none, (some 63), .mv 63 (.s 13), false⟩,
    ⟨none, (some 64), .mv 64 (.s 9), false⟩,
    ⟨none, (some 65), .lens 65 (.s 64), false⟩,
    ⟨none, (some 66), .bin 66 .lss (.s 63) (.s 65), false⟩]))
  (.cond (.s 66) .skip (.exit 0)))
  (.seq (.block 1 (.seq (.seq (.keep [1, 2, 9, 10, 11, 12, 13]) (.ops [⟨none, (some 69), .mv 69 (.s 9), false⟩,
    ⟨none, (some 70), .mv 70 (.s 13), false⟩,
    ⟨none, (some 71), .ixs 71 (.s 69) (.s 70), false⟩,
    ⟨none, (some 72), .bin 72 .lss (.s 71) (.k (Value.int .u8 32)), false⟩,
    ⟨none, (some 73), .mv 73 (.s 72), false⟩,
    ⟨(some (73, false)), (some 74), .mv 74 (.s 9), false⟩,
    ⟨(some (73, false)), (some 75), .mv 75 (.s 13), false⟩,
    ⟨(some (73, false)), (some 76), .ixs 76 (.s 74) (.s 75), false⟩,
    ⟨(some (73, false)), (some 77), .bin 77 .gtr (.s 76) (.k (Value.int .u8 126)), false⟩,
    ⟨none, (some 78), .pk 78 (.s 73) (.k (Value.bool true)) (.s 77), true⟩]))
  (.cond (.s 78) (.seq (.ops [⟨none, (some 6), .mv 6 (.k (Value.bool false)), false⟩])
  .ret) .skip)))
  (.seq (.keep [1, 2, 9, 10, 11, 12, 13]) (.ops [⟨none, (some 67), .mv 67 (.s 13), false⟩,
    ⟨none, (some 68), .binc 68 .add (.s 67) (.k (Value.int .i64 1)), false⟩,
    ⟨none, (some 13), .mv 13 (.s 68), false⟩])))))))
  (.seq (.seq (.keep [1, 2, 10, 11, 12]) (.ops [⟨none, (some 79), .mv 79 (.s 12), false⟩,
    ⟨none, (some 80), .bin 80 .eql (.s 79) (.k (Value.int .i64 0)), false⟩,
    ⟨none, (some 81), .mv 81 (.s 80), false⟩,
    ⟨(some (81, true)), (some 82), .mv 82 (.s 10), false⟩,
    ⟨(some (81, true)), (some 83), .mv 83 (.s 1), false⟩,
    ⟨(some (81, true)), (some 84), .bin 84 .eql (.s 82) (.s 83), false⟩,
    ⟨none, (some 85), .pk 85 (.s 81) (.s 84) (.k (Value.bool false)), false⟩,
    ⟨none, (some 86), .mv 86 (.s 85), false⟩,
    ⟨(some (86, true)), (some 87), .mv 87 (.s 11), false⟩,
    ⟨(some (86, true)), (some 88), .mv 88 (.s 2), true⟩,
    ⟨(some (86, true)), (some 89), .bin 89 .eql (.s 87) (.s 88), false⟩,
    ⟨none, (some 90), .pk 90 (.s 86) (.s 89) (.k (Value.bool false)), false⟩,
    ⟨none, (some 6), .mv 6 (.s 90), false⟩]))
  .ret))))))))
theorem cc11 : (Tryd.f11.body).bind (cc Tryd.prog Tryd.f11.ntmps A11) = some S11 := by kernel_rfl
def R11 : List RR := [.sl 6]
theorem cr11 : Tryd.f11.results.toList.map (crr Tryd.prog) = R11.map some := by kernel_rfl
theorem nm11 : (Tryd.f11.name == "runtime.NumGoroutine") = false := by kernel_rfl
theorem fn11 : Tryd.prog.funcs[11]? = some Tryd.f11 := by kernel_rfl
theorem bd11 : ∃ b, Tryd.f11.body = some b ∧ cc Tryd.prog Tryd.f11.ntmps A11 b = some S11 := Option.bind_eq_some_iff.1 cc11
theorem sd11 {G : World → Prop} {T : FuncId → Contract} {C : Contract} (hT : ∀ f, Sound G Tryd.prog f (T f)) (hl : C.lawful) (hC : ∀ args st K, C.wp args st K → args.length ≤ 91 ∧ ∃ os op, xv T st.n S11 (st0 args st) (retK R11 st.n os K) (panK st.n op K)) : Sound G Tryd.prog 11 C := by
  obtain ⟨b, hb, hc⟩ := bd11
  rw [xv_eq] at hC
  exact sound_of_ev mo fn11 hb nm11 hc cr11 hT hl hC

/-! 38: redline/redlinelaw01.works -/
def A38 : Ann := ⟨fun r i => if r = 3 ∧ i = 23 then 1 else 0, fun _ => none, fun r => if r = 1 then some (false, []) else if r = 2 then some (false, [1, 2]) else if r = 3 then some (false, [1, 2, 3, 4, 5]) else none, fun _ => []⟩
def S38 : SCode :=
  (.seq (.ops [⟨none, (some 0), .mv 0 (.k (Value.bool false)), false⟩])
  (.seq (.seq (.keep []) (.ops [⟨none, (some 7), .call (some 7) 30 false [(.k (Value.string ⟨#[49, 55]⟩))], false⟩,
    ⟨none, (some 6), .mv 6 (.s 7), false⟩,
    ⟨none, (some 8), .ex 8 (.s 6) 0, false⟩,
    ⟨none, (some 9), .ex 9 (.s 6) 1, false⟩,
    ⟨none, (some 1), .mv 1 (.s 8), false⟩,
    ⟨none, (some 2), .mv 2 (.s 9), false⟩]))
  (.seq (.seq (.keep [1, 2]) (.ops [⟨none, (some 11), .call (some 11) 40 false [(.k (Value.string ⟨#[34, 97, 92, 48, 97, 34, 120]⟩))], false⟩,
    ⟨none, (some 10), .mv 10 (.s 11), false⟩,
    ⟨none, (some 12), .ex 12 (.s 10) 0, false⟩,
    ⟨none, (some 13), .ex 13 (.s 10) 1, false⟩,
    ⟨none, (some 14), .ex 14 (.s 10) 2, false⟩,
    ⟨none, (some 3), .mv 3 (.s 12), false⟩,
    ⟨none, (some 4), .mv 4 (.s 13), false⟩,
    ⟨none, (some 5), .mv 5 (.s 14), false⟩]))
  (.seq (.seq (.keep [1, 2, 3, 4, 5]) (.ops [⟨none, (some 15), .call (some 15) 32 false [(.k (Value.int .i64 (-12)))], false⟩,
    ⟨none, (some 16), .bin 16 .eql (.s 15) (.k (Value.string ⟨#[45, 49, 50]⟩)), false⟩,
    ⟨none, (some 17), .mv 17 (.s 16), false⟩,
    ⟨(some (17, true)), (some 18), .mv 18 (.s 1), false⟩,
    ⟨(some (17, true)), (some 19), .bin 19 .eql (.s 18) (.k (Value.int .i64 17)), false⟩,
    ⟨none, (some 20), .pk 20 (.s 17) (.s 19) (.k (Value.bool false)), false⟩,
    ⟨none, (some 21), .mv 21 (.s 20), false⟩,
    ⟨(some (21, true)), (some 22), .mv 22 (.s 2), false⟩,
    ⟨(some (21, true)), (some 23), .bin 23 .eql (.s 22) (.k (Value.int .i64 0)), false⟩,
    ⟨none, (some 24), .pk 24 (.s 21) (.s 23) (.k (Value.bool false)), true⟩,
    ⟨none, (some 25), .mv 25 (.s 24), false⟩,
    ⟨(some (25, true)), (some 26), .mv 26 (.s 3), false⟩,
    ⟨(some (25, true)), (some 27), .bin 27 .eql (.s 26) (.k (Value.string ⟨#[97, 10]⟩)), false⟩,
    ⟨none, (some 28), .pk 28 (.s 25) (.s 27) (.k (Value.bool false)), false⟩,
    ⟨none, (some 29), .mv 29 (.s 28), false⟩,
    ⟨(some (29, true)), (some 30), .mv 30 (.s 4), false⟩,
    ⟨(some (29, true)), (some 31), .bin 31 .eql (.s 30) (.k (Value.string ⟨#[120]⟩)), false⟩,
    ⟨none, (some 32), .pk 32 (.s 29) (.s 31) (.k (Value.bool false)), false⟩,
    ⟨none, (some 33), .mv 33 (.s 32), false⟩,
    ⟨(some (33, true)), (some 34), .mv 34 (.s 5), true⟩,
    ⟨(some (33, true)), (some 35), .bin 35 .eql (.s 34) (.k (Value.int .i64 0)), false⟩,
    ⟨none, (some 36), .pk 36 (.s 33) (.s 35) (.k (Value.bool false)), false⟩,
    ⟨none, (some 37), .mv 37 (.s 36), false⟩,
    ⟨(some (37, true)), (some 38), .call (some 38) 39 true [(.k (Value.string ⟨#[10]⟩))], false⟩,
    ⟨(some (37, true)), (some 39), .bin 39 .eql (.s 38) (.k (Value.string ⟨#[34, 92, 48, 97, 34]⟩)), false⟩,
    ⟨none, (some 40), .pk 40 (.s 37) (.s 39) (.k (Value.bool false)), false⟩,
    ⟨none, (some 0), .mv 0 (.s 40), false⟩]))
  .ret))))
theorem cc38 : (Tryd.f38.body).bind (cc Tryd.prog Tryd.f38.ntmps A38) = some S38 := by kernel_rfl
def R38 : List RR := [.sl 0]
theorem cr38 : Tryd.f38.results.toList.map (crr Tryd.prog) = R38.map some := by kernel_rfl
theorem nm38 : (Tryd.f38.name == "runtime.NumGoroutine") = false := by kernel_rfl
theorem fn38 : Tryd.prog.funcs[38]? = some Tryd.f38 := by kernel_rfl
theorem bd38 : ∃ b, Tryd.f38.body = some b ∧ cc Tryd.prog Tryd.f38.ntmps A38 b = some S38 := Option.bind_eq_some_iff.1 cc38
theorem sd38 {G : World → Prop} {T : FuncId → Contract} {C : Contract} (hT : ∀ f, Sound G Tryd.prog f (T f)) (hl : C.lawful) (hC : ∀ args st K, C.wp args st K → args.length ≤ 41 ∧ ∃ os op, xv T st.n S38 (st0 args st) (retK R38 st.n os K) (panK st.n op K)) : Sound G Tryd.prog 38 C := by
  obtain ⟨b, hb, hc⟩ := bd38
  rw [xv_eq] at hC
  exact sound_of_ev mo fn38 hb nm38 hc cr38 hT hl hC

end Go.Proofs.YtpbkdcfjlbdgfaaDoor
set_option linter.unusedVariables false
set_option linter.unusedSimpArgs false
namespace Go.Proofs.YtpbkdcfjlbdgfaaDoor
open Go Go.Ev
set_option maxRecDepth 100000
variable {G : World → Prop}
def CTrue0 : Contract := pureC fun args => match args with
  | [] => some (True, .d (.v (.bool true)))
  | _ => none
theorem w1 : parseS [49, 55] = (17, 0) := by decide
theorem w2 : unqL [34, 97, 92, 48, 97, 34, 120] = some ([97, 10], [120]) := by
  have h : quo [97, 10] ++ [120] = [34, 97, 92, 48, 97, 34, 120] := by decide
  rw [← h, unq_back]
theorem w3 : Lib.itoa (-12) = [45, 49, 50] := by
  have h := Lib.itoa_neg 12 (by omega)
  rw [Lib.decDigits_two (by omega) (by omega)] at h
  exact h
theorem w4 : quo [10] = [34, 92, 48, 97, 34] := by decide
theorem s38 (hG : ∀ w, G w → Pow10 w) (hE : ∀ w, G w → ErrR w) : Sound G Tryd.prog 38 CTrue0 := by
  refine sd38 (T := tabT [(30, CParse), (40, C40), (32, CItoa), (39, C39)]) (tab_cons (s30 hE) (tab_cons s40 (tab_cons (s32 hG) (tab_cons s39 tab_nil)))) (pureC_lawful _) (pure_hX fun args p x K h hp hk => ?_)
  split at h <;> simp only [Option.some.injEq, Prod.mk.injEq, reduceCtorEq] at h
  obtain ⟨rfl, rfl⟩ := h
  refine ⟨Nat.le_of_ble_eq_true rfl, ?_⟩
  have p1 := congrArg Prod.fst w1
  have p2 := congrArg Prod.snd w1
  simp only at p1 p2
  have e1 : (({ data := #[49, 55] } : ByteArray)).data.toList = [49, 55] := rfl
  have e2 : (({ data := #[34, 97, 92, 48, 97, 34, 120] } : ByteArray)).data.toList = [34, 97, 92, 48, 97, 34, 120] := rfl
  have e4 : (({ data := #[10] } : ByteArray)).data.toList = [10] := rfl
  simp -dsimp -implicitDefEqProofs only [S38, R38, CParse, CItoa, C40, C39, e1, e2, e4, p1, p2, w2, w3, w4, unqS, ↓Ev.xStp_eq, ↓Ev.P, Ev.Q, eq_self, forall_eq_or_imp, implies_true, forall_const, forall_eq, ↓reduceIte, reduceIte, Nat.reduceEqDiff, Nat.reduceAdd, reduceCtorEq, Nat.reduceSub, Int.reduceToNat, Int.reduceLE, Int.reduceLT, Int.reduceNeg, Nat.reduceBEq, Nat.reduceMul, Nat.reduceLeDiff, Nat.reduceMod, UInt8.reduceOfNat, Nat.reduceLT, Int.reduceEq, Int.reduceAdd, Int.reduceSub, Int.reduceMul]
  repeat' (first | with_reducible assumption | refine And.intro ?_ ?_ | intro _)
  all_goals first | omega | decide | exact hk | skip
def CLawB : Contract := pureC fun args => match args with
  | [.d (.v (.int .i64 n)), .d (.v (.string s)), .d (.v (.string r))] => some ((-9223372036854775808 ≤ n ∧ n ≤ 9223372036854775807) ∧ s.size ≤ 1073741824 ∧ r.size ≤ 1073741824, .d (.v (.bool true)))
  | _ => none
set_option maxHeartbeats 1000000 in
theorem s11 (hG : ∀ w, G w → Pow10 w) (hE : ∀ w, G w → ErrR w) : Sound G Tryd.prog 11 CLawB := by
  refine sd11 (T := tabT [(38, CTrue0), (30, CParse), (40, C40), (32, CItoa), (39, C39)]) (tab_cons (s38 hG hE) (tab_cons (s30 hE) (tab_cons s40 (tab_cons (s32 hG) (tab_cons s39 tab_nil))))) (pureC_lawful _) (pure_hX fun args p x K h hp hk => ?_)
  split at h <;> simp only [Option.some.injEq, Prod.mk.injEq, reduceCtorEq] at h
  obtain ⟨rfl, rfl⟩ := h
  refine ⟨Nat.le_of_ble_eq_true rfl, ?_⟩
  rename_i n s r
  obtain ⟨s, rfl⟩ := ex_str s
  obtain ⟨r, rfl⟩ := ex_str r
  simp only [sem_str] at hp
  obtain ⟨hn, hs, hr⟩ := hp
  have hil := itoa_len (n := n) (by omega)
  have hql := quo_len s
  have hub := unq_back s r
  have hqp := quo_plain s
  obtain ⟨a, e, hP, hc⟩ : ∃ a e : Int, parseS (Lib.itoa n) = (a, e) ∧ ¬ ((0 ≤ n ∧ n ≤ 2147483647 ∧ (a ≠ n ∨ e ≠ 0)) ∨ (n < 0 ∧ e ≠ 3) ∨ (2147483647 < n ∧ e ≠ 2)) := by
    refine ⟨(parseS (Lib.itoa n)).1, (parseS (Lib.itoa n)).2, rfl, ?_⟩
    rw [parse_text]
    split
    · simp only; omega
    · split
      · simp only; omega
      · simp only; omega
  simp -dsimp -implicitDefEqProofs only [S11, R11, CTrue0, CParse, CItoa, C40, C39, hP, hub, unqS, List.length_append, ↓Ev.xStp_eq, ↓Ev.P, Ev.Q, eq_self, forall_eq_or_imp, implies_true, forall_const, forall_eq, ↓reduceIte, reduceIte, Nat.reduceEqDiff, Nat.reduceAdd, reduceCtorEq, Nat.reduceSub, Int.reduceToNat, Int.reduceLE, Int.reduceLT, Int.reduceNeg, Nat.reduceBEq, Nat.reduceMul, Nat.reduceLeDiff, Nat.reduceMod, UInt8.reduceOfNat, Nat.reduceLT, Int.reduceEq, Int.reduceAdd, Int.reduceSub, Int.reduceMul]
  repeat' (first | with_reducible assumption | refine And.intro ?_ ?_ | intro _)
  all_goals first | omega | skip
  refine xLoop_intro (fun k st => ∃ i : Nat, i ≤ (quo s).length ∧ k = (quo s).length - i ∧
      st = ⟨[(1, .d (.v (.string ⟨s.toArray⟩))), (2, .d (.v (.string ⟨r.toArray⟩))), (9, .d (.v (.string ⟨(quo s).toArray⟩))), (10, .d (.v (.string ⟨s.toArray⟩))), (11, .d (.v (.string ⟨r.toArray⟩))), (12, .d (.v (.int .i64 0))), (13, .d (.v (.int .i64 i)))], 0, []⟩) (quo s).length [] ?_ ?_ ?_
  · simp -dsimp -implicitDefEqProofs only [↓Ev.xStp_eq, ↓Ev.P, Ev.Q, eq_self, forall_eq_or_imp, implies_true, forall_const, forall_eq, ↓reduceIte, reduceIte, Nat.reduceEqDiff, Nat.reduceAdd, reduceCtorEq, Nat.reduceSub, Int.reduceToNat, Int.reduceLE, Int.reduceLT, Int.reduceNeg, Nat.reduceBEq, Nat.reduceMul, Nat.reduceLeDiff, Nat.reduceMod, UInt8.reduceOfNat, Nat.reduceLT, Int.reduceEq, Int.reduceAdd, Int.reduceSub, Int.reduceMul]
  · simp -dsimp -implicitDefEqProofs only [↓Ev.xStp_eq, ↓Ev.P, Ev.Q, eq_self, forall_eq_or_imp, implies_true, forall_const, forall_eq, ↓reduceIte, reduceIte, Nat.reduceEqDiff, Nat.reduceAdd, reduceCtorEq, Nat.reduceSub, Int.reduceToNat, Int.reduceLE, Int.reduceLT, Int.reduceNeg, Nat.reduceBEq, Nat.reduceMul, Nat.reduceLeDiff, Nat.reduceMod, UInt8.reduceOfNat, Nat.reduceLT, Int.reduceEq, Int.reduceAdd, Int.reduceSub, Int.reduceMul]
    exact ⟨0, by omega, by omega, rfl⟩
  · rintro k st ⟨i, hi, hk2, rfl⟩
    by_cases hil : i < (quo s).length
    · have hi3 : (i : Int) < (quo s).length := by omega
      have hb := hqp ((quo s).getD i 0) (by simp [List.getD_eq_getElem?_getD, List.getElem?_eq_getElem hil])
      have d3 : ¬ (((quo s).getD i 0).toNat : Int) < 32 := by omega
      have d4 : ¬ (126 : Int) < (((quo s).getD i 0).toNat : Int) := by omega
      simp -dsimp -implicitDefEqProofs only [hi3, d3, d4, ↓Ev.xStp_eq, ↓Ev.P, Ev.Q, eq_self, forall_eq_or_imp, implies_true, forall_const, forall_eq, ↓reduceIte, reduceIte, Nat.reduceEqDiff, Nat.reduceAdd, reduceCtorEq, Nat.reduceSub, Int.reduceToNat, Int.reduceLE, Int.reduceLT, Int.reduceNeg, Nat.reduceBEq, Nat.reduceMul, Nat.reduceLeDiff, Nat.reduceMod, UInt8.reduceOfNat, Nat.reduceLT, Int.reduceEq, Int.reduceAdd, Int.reduceSub, Int.reduceMul]
      repeat' (first | with_reducible assumption | refine And.intro ?_ ?_ | intro _)
      all_goals try omega
      refine xAgain_intro ((quo s).length - (i + 1)) [] (by omega) (by simp -dsimp -implicitDefEqProofs only [↓Ev.xStp_eq, ↓Ev.P, Ev.Q, eq_self, forall_eq_or_imp, implies_true, forall_const, forall_eq, ↓reduceIte, reduceIte, Nat.reduceEqDiff, Nat.reduceAdd, reduceCtorEq, Nat.reduceSub, Int.reduceToNat, Int.reduceLE, Int.reduceLT, Int.reduceNeg, Nat.reduceBEq, Nat.reduceMul, Nat.reduceLeDiff, Nat.reduceMod, UInt8.reduceOfNat, Nat.reduceLT, Int.reduceEq, Int.reduceAdd, Int.reduceSub, Int.reduceMul]) ⟨i + 1, by omega, rfl, ?_⟩
      simp -dsimp -implicitDefEqProofs only [↓Ev.xStp_eq, ↓Ev.P, Ev.Q, eq_self, forall_eq_or_imp, implies_true, forall_const, forall_eq, ↓reduceIte, reduceIte, Nat.reduceEqDiff, Nat.reduceAdd, reduceCtorEq, Nat.reduceSub, Int.reduceToNat, Int.reduceLE, Int.reduceLT, Int.reduceNeg, Nat.reduceBEq, Nat.reduceMul, Nat.reduceLeDiff, Nat.reduceMod, UInt8.reduceOfNat, Nat.reduceLT, Int.reduceEq, Int.reduceAdd, Int.reduceSub, Int.reduceMul]
      rfl
    · have hi3 : ¬ (i : Int) < (quo s).length := by omega
      simp -dsimp -implicitDefEqProofs only [hi3, ↓Ev.xStp_eq, ↓Ev.P, Ev.Q, eq_self, forall_eq_or_imp, implies_true, forall_const, forall_eq, ↓reduceIte, reduceIte, Nat.reduceEqDiff, Nat.reduceAdd, reduceCtorEq, Nat.reduceSub, Int.reduceToNat, Int.reduceLE, Int.reduceLT, Int.reduceNeg, Nat.reduceBEq, Nat.reduceMul, Nat.reduceLeDiff, Nat.reduceMod, UInt8.reduceOfNat, Nat.reduceLT, Int.reduceEq, Int.reduceAdd, Int.reduceSub, Int.reduceMul]
      exact hk
end Go.Proofs.YtpbkdcfjlbdgfaaDoor
/- The compiled code of functions, by program (gen.py): each theorem says that the loaded program compiles to it. -/
set_option linter.unusedVariables false
namespace Go.Proofs.YtpbkdcfjlbdgfaaDoor
open Go Go.Ev
set_option maxRecDepth 100000

/-! 12: redline/redlinelaw01.NumList -/
def A12 : Ann := ⟨fun r i => if r = 16 ∧ i = 5 then 1 else 0, fun _ => none, fun r => if r = 3 then some (false, [0, 1]) else if r = 4 then some (false, [0, 1]) else if r = 7 then some (false, [0, 1, 5, 6]) else if r = 8 then some (false, [0, 1, 5, 6]) else if r = 10 then some (false, [0, 1, 5, 6, 7]) else if r = 11 then some (false, [0, 1, 5, 6]) else if r = 12 then some (false, [0, 1, 5, 6, 7]) else if r = 13 then some (false, [0, 1, 5, 6, 7]) else if r = 14 then some (false, [0, 1, 5, 6]) else if r = 15 then some (false, [0, 5]) else if r = 16 then some (false, [0, 8, 9]) else none, fun r => if r = 7 then [0, 1, 5, 6] else []⟩
def S12_0 : SCode :=
  (.ops [⟨none, (some 4), .mv 4 (.k (Value.bool false)), false⟩])
def S12_1 : SCode :=
  (.seq (.ops [⟨none, (some 10), .call (some 10) 38 false [], false⟩,
    ⟨none, (some 11), .not 11 (.s 10), false⟩])
  (.cond (.s 11) (.seq (.ops [⟨none, (some 4), .mv 4 (.k (Value.bool false)), false⟩])
  .ret) .skip))
def S12_2 : SCode :=
  (.seq (.seq (.keep [0, 1]) (.ops [⟨none, (some 12), .mv 12 (.s 0), false⟩,
    ⟨none, (some 13), .len 13 (.s 12), false⟩,
    ⟨none, (some 14), .bin 14 .gtr (.s 13) (.k (Value.int .i64 32)), false⟩]))
  (.cond (.s 14) (.seq (.keep [0, 1]) (.ops [⟨none, (some 15), .mv 15 (.s 0), false⟩,
    ⟨none, (some 16), .slr 16 1 (.s 15) none (some (.k (Value.int .i64 32))), false⟩,
    ⟨none, (some 0), .mv 0 (.s 16), false⟩])) .skip))
def S12_3 : SCode :=
  (.ops [⟨none, (some 5), .mv 5 (.k (Value.string ⟨#[]⟩)), false⟩])
def S12_4 : SCode :=
  (.seq (.ops [⟨none, (some 6), .mv 6 (.k (Value.int .i64 0)), false⟩])
  (.block 0 (.loop [0, 1, 5, 6] (.seq (.seq (.seq (.keep [0, 1, 5, 6]) (.ops [⟨none, (some 17), .mv 17 (.s 6), false⟩,
    ⟨none, (some 18), .mv 18 (.s 0), false⟩,
    ⟨none, (some 19), .len 19 (.s 18), false⟩,
    ⟨none, (some 20), .bin 20 .lss (.s 17) (.s 19), false⟩]))
  (.cond (.s 20) .skip (.exit 0)))
  (.seq (.block 1 (.seq (.ops [⟨none, (some 7), .mv 7 (.k (Value.int .i64 0)), false⟩])
  (.seq (.seq (.seq (.keep [0, 1, 5, 6, 7]) (.ops [⟨none, (some 23), .mv 23 (.s 1), false⟩,
    ⟨none, (some 24), .len 24 (.s 23), false⟩,
    ⟨none, (some 25), .bin 25 .gtr (.s 24) (.k (Value.int .i64 0)), false⟩]))
  (.cond (.s 25) (.seq (.keep [0, 1, 5, 6]) (.ops [⟨none, (some 26), .mv 26 (.s 1), false⟩,
    ⟨none, (some 27), .mv 27 (.s 6), false⟩,
    ⟨none, (some 28), .mv 28 (.s 1), false⟩,
    ⟨none, (some 29), .len 29 (.s 28), false⟩,
    ⟨none, (some 30), .bin 30 .rem (.s 27) (.s 29), false⟩,
    ⟨none, (some 31), .ia 31 1 (.s 26) (.s 30), false⟩,
    ⟨none, (some 32), .ld 32 false 1 (.s 31), false⟩,
    ⟨none, (some 33), .cvi 33 .u64 (.s 32), false⟩,
    ⟨none, (some 34), .bin 34 .rem (.s 33) (.k (Value.int .u64 4)), false⟩,
    ⟨none, (some 35), .cvi 35 .i64 (.s 34), true⟩,
    ⟨none, (some 7), .mv 7 (.s 35), false⟩])) .skip))
  (.seq (.seq (.seq (.keep [0, 1, 5, 6, 7]) (.ops [⟨none, (some 36), .mv 36 (.s 6), false⟩,
    ⟨none, (some 37), .bin 37 .gtr (.s 36) (.k (Value.int .i64 0)), false⟩,
    ⟨none, (some 38), .mv 38 (.s 37), false⟩,
    ⟨(some (38, false)), (some 39), .mv 39 (.s 7), false⟩,
    ⟨(some (38, false)), (some 40), .bin 40 .gtr (.s 39) (.k (Value.int .i64 1)), false⟩,
    ⟨none, (some 41), .pk 41 (.s 38) (.k (Value.bool true)) (.s 40), false⟩]))
  (.cond (.s 41) (.seq (.keep [0, 1, 5, 6, 7]) (.ops [⟨none, (some 42), .mv 42 (.s 5), false⟩,
    ⟨none, (some 43), .mv 43 (.s 7), false⟩,
    ⟨none, (some 44), .binc 44 .add (.k (Value.int .i64 1)) (.s 43), false⟩,
    ⟨none, (some 45), .sls 45 (.k (Value.string ⟨#[32, 9, 32, 32]⟩)) none (some (.s 44)), false⟩,
    ⟨none, (some 46), .bin 46 .add (.s 42) (.s 45), false⟩,
    ⟨none, (some 5), .mv 5 (.s 46), false⟩])) .skip))
  (.seq (.keep [0, 1, 5, 6]) (.ops [⟨none, (some 47), .mv 47 (.s 5), false⟩,
    ⟨none, (some 48), .mv 48 (.s 0), false⟩,
    ⟨none, (some 49), .mv 49 (.s 6), false⟩,
    ⟨none, (some 50), .ia 50 1 (.s 48) (.s 49), false⟩,
    ⟨none, (some 51), .ld 51 false 1 (.s 50), false⟩,
    ⟨none, (some 52), .call (some 52) 39 false [(.s 51)], false⟩,
    ⟨none, (some 53), .bin 53 .add (.s 47) (.s 52), false⟩,
    ⟨none, (some 5), .mv 5 (.s 53), false⟩]))))))
  (.seq (.keep [0, 1, 5, 6]) (.ops [⟨none, (some 21), .mv 21 (.s 6), false⟩,
    ⟨none, (some 22), .binc 22 .add (.s 21) (.k (Value.int .i64 1)), false⟩,
    ⟨none, (some 6), .mv 6 (.s 22), false⟩])))))))
def S12_5 : SCode :=
  (.seq (.keep [0, 5]) (.ops [⟨none, (some 55), .mv 55 (.s 5), false⟩,
    ⟨none, (some 56), .bin 56 .add (.s 55) (.k (Value.string ⟨#[9]⟩)), false⟩,
    ⟨none, (some 57), .call (some 57) 18 false [(.s 56)], false⟩,
    ⟨none, (some 54), .mv 54 (.s 57), false⟩,
    ⟨none, (some 58), .ex 58 (.s 54) 0, false⟩,
    ⟨none, (some 59), .ex 59 (.s 54) 1, false⟩,
    ⟨none, (some 8), .mv 8 (.s 58), false⟩,
    ⟨none, (some 9), .mv 9 (.s 59), false⟩]))
def S12_6 : SCode :=
  (.seq (.keep [0, 8, 9]) (.ops [⟨none, (some 60), .mv 60 (.s 9), false⟩,
    ⟨none, (some 61), .bin 61 .eql (.s 60) (.k (Value.int .i64 0)), false⟩,
    ⟨none, (some 62), .mv 62 (.s 61), false⟩,
    ⟨(some (62, true)), (some 63), .mv 63 (.s 8), false⟩,
    ⟨(some (62, true)), (some 64), .mv 64 (.s 0), false⟩,
    ⟨(some (62, true)), (some 65), .call (some 65) 15 true [(.s 63), (.s 64)], false⟩,
    ⟨none, (some 66), .pk 66 (.s 62) (.s 65) (.k (Value.bool false)), false⟩,
    ⟨none, (some 4), .mv 4 (.s 66), false⟩]))
def S12r7 : SCode := .ret
def S12r6 : SCode := .seq S12_6 S12r7
def S12r5 : SCode := .seq S12_5 S12r6
def S12r4 : SCode := .seq S12_4 S12r5
def S12r3 : SCode := .seq S12_3 S12r4
def S12r2 : SCode := .seq S12_2 S12r3
def S12r1 : SCode := .seq S12_1 S12r2
def S12 : SCode := .seq S12_0 S12r1
theorem cc12 : (Tryd.f12.body).bind (cc Tryd.prog Tryd.f12.ntmps A12) = some S12 := by kernel_rfl
def R12 : List RR := [.sl 4]
theorem cr12 : Tryd.f12.results.toList.map (crr Tryd.prog) = R12.map some := by kernel_rfl
theorem nm12 : (Tryd.f12.name == "runtime.NumGoroutine") = false := by kernel_rfl
theorem fn12 : Tryd.prog.funcs[12]? = some Tryd.f12 := by kernel_rfl
theorem bd12 : ∃ b, Tryd.f12.body = some b ∧ cc Tryd.prog Tryd.f12.ntmps A12 b = some S12 := Option.bind_eq_some_iff.1 cc12
theorem sd12 {G : World → Prop} {T : FuncId → Contract} {C : Contract} (hT : ∀ f, Sound G Tryd.prog f (T f)) (hl : C.lawful) (hC : ∀ args st K, C.wp args st K → args.length ≤ 67 ∧ ∃ os op, xv T st.n S12 (st0 args st) (retK R12 st.n os K) (panK st.n op K)) : Sound G Tryd.prog 12 C := by
  obtain ⟨b, hb, hc⟩ := bd12
  rw [xv_eq] at hC
  exact sound_of_ev mo fn12 hb nm12 hc cr12 hT hl hC

end Go.Proofs.YtpbkdcfjlbdgfaaDoor
set_option linter.unusedVariables false
set_option linter.unusedSimpArgs false
namespace Go.Ev
open Go
/-! Rows of ints. -/
def intRows (l : List Int) : List (List D) := l.map fun z => [.v (.int .i64 z)]
theorem intRows_len (l : List Int) : (intRows l).length = l.length := by simp [intRows]
theorem intRows_get {l : List Int} {i : Nat} (h : i < l.length) : (intRows l)[i]? = some [.v (.int .i64 (l.getD i 0))] := by
  simp [intRows, List.getD_eq_getElem?_getD, List.getElem?_eq_getElem h]
def unInt : List (List D) → Option (List Int)
  | [] => some []
  | [.v (.int .i64 z)] :: r => (unInt r).map (z :: ·)
  | _ :: _ => none
theorem unInt_rows : ∀ l : List Int, unInt (intRows l) = some l
  | [] => rfl
  | z :: l => by
    have h := unInt_rows l
    unfold intRows at h
    simp [intRows, unInt, h]
theorem unInt_eq : ∀ {rows : List (List D)} {l : List Int}, unInt rows = some l → rows = intRows l
  | [], l, h => by simp only [unInt, Option.some.injEq] at h; subst h; rfl
  | r :: rs, l, h => by
    unfold unInt at h
    split at h
    · rename_i e; cases e
    · rename_i z r' e
      simp only [List.cons.injEq] at e
      obtain ⟨rfl, rfl⟩ := e
      obtain ⟨m, h1, rfl⟩ := Option.map_eq_some_iff.1 h
      rw [unInt_eq h1]
      simp [intRows]
    · cases h
end Go.Ev
namespace Go.Proofs.YtpbkdcfjlbdgfaaDoor
open Go Go.Ev
set_option maxRecDepth 100000
variable {G : World → Prop}
/-- The blanks ahead of text i. -/
def kG (g : List Int) (i : Nat) : Nat := if 0 < g.length then (IntKind.u64.wrap (g.getD (i % g.length) 0)).toNat % 4 else 0
def sepG (g : List Int) (i : Nat) : List UInt8 := if 0 < i ∨ 1 < kG g i then [32, 9, 32, 32].take (1 + kG g i) else []
def lineG (l : List (List UInt8)) (g : List Int) : Nat → List UInt8
  | 0 => []
  | i + 1 => lineG l g i ++ sepG g i ++ quo (l.getD i [])
theorem kG_lt (g : List Int) (i : Nat) : kG g i < 4 := by unfold kG; split <;> omega
theorem sep_blk (g : List Int) (i : Nat) : ∀ c ∈ sepG g i, blk c = true := by
  intro c hc
  unfold sepG at hc
  split at hc
  · have h := List.mem_of_mem_take hc
    simp only [List.mem_cons, List.not_mem_nil, or_false] at h
    rcases h with rfl | rfl | rfl | rfl <;> decide
  · cases hc
theorem sep_ne (g : List Int) {i : Nat} (h : 0 < i) : ∃ c r, sepG g i = c :: r := by
  unfold sepG
  rw [if_pos (.inl h), Nat.add_comm]
  exact ⟨32, _, rfl⟩
theorem sep_len (g : List Int) (i : Nat) : (sepG g i).length ≤ 4 := by
  unfold sepG; split
  · simp; omega
  · simp
/-- What stands from text i on. -/
def restG (l : List (List UInt8)) (g : List Int) (i : Nat) : Nat → List UInt8
  | 0 => []
  | n + 1 => sepG g i ++ quo (l.getD i []) ++ restG l g (i + 1) n
theorem line_rest (l : List (List UInt8)) (g : List Int) : ∀ (n i : Nat), lineG l g (i + n) = lineG l g i ++ restG l g i n
  | 0, i => by simp [restG]
  | n + 1, i => by
    have h := line_rest l g n (i + 1)
    rw [show i + (n + 1) = i + 1 + n by omega, h]
    simp [lineG, restG]
theorem trim_sep {s x : List UInt8} (hs : ∀ c ∈ s, blk c = true) : trimT (s ++ x) = trimT x := by
  unfold trimT
  induction s with
  | nil => rfl
  | cons c r ih =>
    rw [List.cons_append, List.dropWhile_cons, if_pos (hs c (by simp))]
    exact ih fun d hd => hs d (by simp [hd])
theorem take_snocL (l : List (List UInt8)) (i : Nat) (h : i < l.length) : l.take (i + 1) = l.take i ++ [l.getD i []] := by
  rw [List.take_succ_eq_append_getElem h]
  simp [List.getD_eq_getElem?_getD, List.getElem?_eq_getElem h]
theorem words_line (l : List (List UInt8)) (g : List Int) : ∀ (n i : Nat) (acc : List (List UInt8)), i + n = l.length → acc.length + n ≤ 32 → acc = l.take i →
    wordsF (restG l g i n ++ [9]).length acc (restG l g i n ++ [9]) = (l, 0)
  | 0, i, acc, hi, ha, he => by
    rw [words_eq]
    have : trimT (restG l g i 0 ++ [9]) = [] := by rfl
    rw [this]
    simp only [wordsB]
    rw [he, List.take_of_length_le (by omega)]
  | n + 1, i, acc, hi, ha, he => by
    have ih := words_line l g n (i + 1) (acc ++ [l.getD i []]) (by omega) (by simp; omega) (by rw [he, take_snocL l i (by omega)])
    rw [words_eq]
    have e : restG l g i (n + 1) ++ [9] = sepG g i ++ (quo (l.getD i []) ++ (restG l g (i + 1) n ++ [9])) := by simp [restG]
    rw [e, trim_sep (sep_blk g i)]
    have hq : trimT (quo (l.getD i []) ++ (restG l g (i + 1) n ++ [9])) = quo (l.getD i []) ++ (restG l g (i + 1) n ++ [9]) := by
      simp only [quo, List.cons_append]
      exact words_non (u := []) (by decide)
    rw [hq]
    have hub := unq_back (l.getD i []) (restG l g (i + 1) n ++ [9])
    have hb : blkS (restG l g (i + 1) n ++ [9]) = true := by
      cases n with
      | zero => rfl
      | succ n =>
        obtain ⟨c, r, hs⟩ := sep_ne g (i := i + 1) (by omega)
        have hc := sep_blk g (i + 1) c (by rw [hs]; simp)
        simp only [restG, hs, List.cons_append, blkS]
        exact hc
    generalize hX : restG l g (i + 1) n ++ [9] = X at *
    have hform : ∃ t, quo (l.getD i []) ++ X = 34 :: t := ⟨_, by simp only [quo, List.cons_append]; rfl⟩
    obtain ⟨t, ht⟩ := hform
    rw [ht] at hub ⊢
    simp only [wordsB]
    rw [if_pos trivial, hub]
    simp only
    rw [if_neg (by rw [hb]; decide), if_neg (by omega)]
    exact ih
theorem words_list (l : List (List UInt8)) (g : List Int) (h : l.length ≤ 32) : wordsS (lineG l g l.length ++ [9]) = (l, 0) := by
  have e := line_rest l g l.length 0
  rw [Nat.zero_add] at e
  have e2 : lineG l g l.length = restG l g 0 l.length := by rw [e]; rfl
  rw [e2, wordsS]
  exact words_line l g l.length 0 [] (by omega) (by simp; omega) rfl
theorem line_len (l : List (List UInt8)) (g : List Int) (B : Nat) (hB : ∀ s ∈ l, s.length ≤ B) : ∀ n, n ≤ l.length → (lineG l g n).length ≤ n * (3 * B + 6)
  | 0, _ => by simp [lineG]
  | n + 1, h => by
    have ih := line_len l g B hB n (by omega)
    have h1 := sep_len g n
    have h2 := quo_len (l.getD n [])
    have h3 := hB (l.getD n []) (by simp [List.getD_eq_getElem?_getD, List.getElem?_eq_getElem (show n < l.length by omega)])
    have e : (n + 1) * (3 * B + 6) = n * (3 * B + 6) + (3 * B + 6) := Nat.succ_mul _ _
    rw [e]
    simp only [lineG, List.length_append]
    omega
end Go.Proofs.YtpbkdcfjlbdgfaaDoor
set_option linter.unusedVariables false
set_option linter.unusedSimpArgs false
namespace Go.Proofs.YtpbkdcfjlbdgfaaDoor
open Go Go.Ev
set_option maxRecDepth 100000
variable {G : World → Prop}
theorem strRows_take (l : List (List UInt8)) (n : Nat) : (strRows l).take n = strRows (l.take n) := by simp [strRows, List.map_take]
theorem mem_getL {l : List (List UInt8)} {i : Nat} (h : i < l.length) : l.getD i [] ∈ l := by
  rw [List.getD_eq_getElem?_getD, List.getElem?_eq_getElem h]
  exact List.getElem_mem h
theorem u64_nn (z : Int) : 0 ≤ IntKind.u64.wrap z ∧ IntKind.u64.wrap z < 18446744073709551616 := by
  simp only [IntKind.wrap, IntKind.bits, IntKind.signed]
  simp
  omega
theorem rem4 (z : Int) : IntKind.i64.wrap ((IntKind.u64.wrap z).tmod 4) = (((IntKind.u64.wrap z).toNat % 4 : Nat) : Int) := by
  have h := u64_nn z
  rw [Int.tmod_eq_emod_of_nonneg h.1, wrap64 _ (by omega) (by omega)]
  omega
theorem remN (i n : Nat) : ((i : Int)).tmod (n : Int) = ((i % n : Nat) : Int) := by rw [Int.tmod_eq_emod_of_nonneg (by omega)]; rfl
set_option maxHeartbeats 4000000 in
theorem list_rest {T : FuncId → Contract} (hT1 : T 39 = C39) (hT2 : T 18 = CWords) (hT3 : T 15 = CSame) (L : List (List UInt8)) (g : List Int) (hL : L.length ≤ 32) (hg : g.length ≤ 1099511627776) (hs : ∀ s ∈ L, s.length ≤ 1073741824)
    (K : Out → Store → Prop) (hk : K (.ret (.d (.v (.bool true)))) ⟨0, []⟩) :
    ∀ sl : List (Nat × SV), lk sl 0 = some (.d (.sl (strRows L))) → lk sl 1 = some (.d (.sl (intRows g))) →
    xv T 0 S12r3 ⟨sl, 0, []⟩ (retK R12 0 [] K) (panK 0 [] K) := by
  intro sl q0 q1
  have hll := line_len L g 1073741824 hs
  have hwl := words_list L g hL
  simp -dsimp -implicitDefEqProofs only [S12r3, S12_3, S12r4, S12_4, S12r5, S12_5, S12r6, S12_6, S12r7, q0, q1, ↓Ev.xStp_eq, ↓Ev.P, Ev.Q, eq_self, forall_eq_or_imp, implies_true, forall_const, forall_eq, ↓reduceIte, reduceIte, Nat.reduceEqDiff, Nat.reduceAdd, reduceCtorEq, Nat.reduceSub, Int.reduceToNat, Int.reduceLE, Int.reduceLT, Int.reduceNeg, Nat.reduceBEq, Nat.reduceMul, Nat.reduceLeDiff, Nat.reduceMod, UInt8.reduceOfNat, Nat.reduceLT, Int.reduceEq, Int.reduceAdd, Int.reduceSub, Int.reduceMul]
  refine xLoop_intro (fun k st => ∃ i : Nat, i ≤ L.length ∧ k = L.length - i ∧
      st = ⟨[(0, .d (.sl (strRows L))), (1, .d (.sl (intRows g))), (5, .d (.v (.string ⟨(lineG L g i).toArray⟩))), (6, .d (.v (.int .i64 i)))], 0, []⟩) L.length [] ?_ ?_ ?_
  · simp -dsimp -implicitDefEqProofs only [↓Ev.xStp_eq, ↓Ev.P, Ev.Q, eq_self, forall_eq_or_imp, implies_true, forall_const, forall_eq, ↓reduceIte, reduceIte, Nat.reduceEqDiff, Nat.reduceAdd, reduceCtorEq, Nat.reduceSub, Int.reduceToNat, Int.reduceLE, Int.reduceLT, Int.reduceNeg, Nat.reduceBEq, Nat.reduceMul, Nat.reduceLeDiff, Nat.reduceMod, UInt8.reduceOfNat, Nat.reduceLT, Int.reduceEq, Int.reduceAdd, Int.reduceSub, Int.reduceMul]
  · simp -dsimp -implicitDefEqProofs only [q0, q1, ↓Ev.xStp_eq, ↓Ev.P, Ev.Q, eq_self, forall_eq_or_imp, implies_true, forall_const, forall_eq, ↓reduceIte, reduceIte, Nat.reduceEqDiff, Nat.reduceAdd, reduceCtorEq, Nat.reduceSub, Int.reduceToNat, Int.reduceLE, Int.reduceLT, Int.reduceNeg, Nat.reduceBEq, Nat.reduceMul, Nat.reduceLeDiff, Nat.reduceMod, UInt8.reduceOfNat, Nat.reduceLT, Int.reduceEq, Int.reduceAdd, Int.reduceSub, Int.reduceMul]
    exact ⟨0, by omega, by omega, rfl⟩
  · rintro k st ⟨i, hi, rfl, rfl⟩
    by_cases hil : i < L.length
    · have hi3 : (i : Int) < (L.length : Int) := by omega
      have hgt := strRows_get hil
      have hln := hll i hi
      have hle : i * (3 * 1073741824 + 6) ≤ 32 * (3 * 1073741824 + 6) := Nat.mul_le_mul_right _ (by omega)
      have hx := hs _ (mem_getL hil)
      have hq := quo_len (L.getD i [])
      have hsl := sep_len g i
      have hk4 := kG_lt g i
      have fin : ∀ sl2, lk sl2 0 = some (.d (.sl (strRows L))) → lk sl2 1 = some (.d (.sl (intRows g))) → lk sl2 5 = some (.d (.v (.string ⟨(lineG L g i ++ sepG g i ++ quo (L.getD i [])).toArray⟩))) → lk sl2 6 = some (.d (.v (.int .i64 (i + 1)))) →
          xAgain (fun k st => ∃ i : Nat, i ≤ L.length ∧ k = L.length - i ∧ st = ⟨[(0, .d (.sl (strRows L))), (1, .d (.sl (intRows g))), (5, .d (.v (.string ⟨(lineG L g i).toArray⟩))), (6, .d (.v (.int .i64 i)))], 0, []⟩) 0 [0, 1, 5, 6] (L.length - i) ⟨sl2, 0, []⟩ := by
        intro sl2 p0 p1 p5 p6
        refine xAgain_intro (L.length - (i + 1)) [] (by omega) (by simp -dsimp -implicitDefEqProofs only [↓Ev.xStp_eq, ↓Ev.P, Ev.Q, eq_self, forall_eq_or_imp, implies_true, forall_const, forall_eq, ↓reduceIte, reduceIte, Nat.reduceEqDiff, Nat.reduceAdd, reduceCtorEq, Nat.reduceSub, Int.reduceToNat, Int.reduceLE, Int.reduceLT, Int.reduceNeg, Nat.reduceBEq, Nat.reduceMul, Nat.reduceLeDiff, Nat.reduceMod, UInt8.reduceOfNat, Nat.reduceLT, Int.reduceEq, Int.reduceAdd, Int.reduceSub, Int.reduceMul]) ⟨i + 1, by omega, rfl, ?_⟩
        simp -dsimp -implicitDefEqProofs only [p0, p1, p5, p6, ↓Ev.xStp_eq, ↓Ev.P, Ev.Q, eq_self, forall_eq_or_imp, implies_true, forall_const, forall_eq, ↓reduceIte, reduceIte, Nat.reduceEqDiff, Nat.reduceAdd, reduceCtorEq, Nat.reduceSub, Int.reduceToNat, Int.reduceLE, Int.reduceLT, Int.reduceNeg, Nat.reduceBEq, Nat.reduceMul, Nat.reduceLeDiff, Nat.reduceMod, UInt8.reduceOfNat, Nat.reduceLT, Int.reduceEq, Int.reduceAdd, Int.reduceSub, Int.reduceMul]
        rfl
      by_cases hgl : 0 < g.length
      · have hgl' : (0 : Int) < (g.length : Int) := by omega
        have hgn : ¬ (g.length : Int) = 0 := by omega
        have hrem := remN i g.length
        have hrl : i % g.length < g.length := Nat.mod_lt _ hgl
        have hig := intRows_get hrl
        have hkG : (((IntKind.u64.wrap (g.getD (i % g.length) 0)).toNat % 4 : Nat) : Int) = (kG g i : Int) := by unfold kG; rw [if_pos hgl]
        have hr4 := rem4 (g.getD (i % g.length) 0)
        rw [hkG] at hr4
        have h41 : (1 + (kG g i : Int)).toNat = 1 + kG g i := by omega
        by_cases hc : 0 < i ∨ 1 < kG g i
        · have hsp : sepG g i = [32, 9, 32, 32].take (1 + kG g i) := by unfold sepG; rw [if_pos hc]
          have hc' : (0 : Int) < (i : Int) ∨ (1 : Int) < (kG g i : Int) := by omega
          rw [hsp] at fin hsl
          simp -dsimp -implicitDefEqProofs only [hi3, hgl', hgn, hrem, hig, hr4, h41, hgt, strRows_len, intRows_len, hT1, C39, List.length_append, ↓Ev.xStp_eq, ↓Ev.P, Ev.Q, eq_self, forall_eq_or_imp, implies_true, forall_const, forall_eq, ↓reduceIte, reduceIte, Nat.reduceEqDiff, Nat.reduceAdd, reduceCtorEq, Nat.reduceSub, Int.reduceToNat, Int.reduceLE, Int.reduceLT, Int.reduceNeg, Nat.reduceBEq, Nat.reduceMul, Nat.reduceLeDiff, Nat.reduceMod, UInt8.reduceOfNat, Nat.reduceLT, Int.reduceEq, Int.reduceAdd, Int.reduceSub, Int.reduceMul]
          repeat' (first | with_reducible assumption | refine And.intro ?_ ?_ | intro _)
          all_goals try omega
          all_goals exact fin _ rfl rfl rfl rfl
        · have hsp : sepG g i = [] := by unfold sepG; rw [if_neg hc]
          have hc' : ¬ ((0 : Int) < (i : Int) ∨ (1 : Int) < (kG g i : Int)) := by omega
          rw [hsp, List.append_nil] at fin
          simp -dsimp -implicitDefEqProofs only [hi3, hgl', hgn, hrem, hig, hr4, h41, hgt, strRows_len, intRows_len, hT1, C39, List.length_append, ↓Ev.xStp_eq, ↓Ev.P, Ev.Q, eq_self, forall_eq_or_imp, implies_true, forall_const, forall_eq, ↓reduceIte, reduceIte, Nat.reduceEqDiff, Nat.reduceAdd, reduceCtorEq, Nat.reduceSub, Int.reduceToNat, Int.reduceLE, Int.reduceLT, Int.reduceNeg, Nat.reduceBEq, Nat.reduceMul, Nat.reduceLeDiff, Nat.reduceMod, UInt8.reduceOfNat, Nat.reduceLT, Int.reduceEq, Int.reduceAdd, Int.reduceSub, Int.reduceMul]
          repeat' (first | with_reducible assumption | refine And.intro ?_ ?_ | intro _)
          all_goals try omega
          all_goals exact fin _ rfl rfl rfl rfl
      · have hgl' : ¬ (0 : Int) < (g.length : Int) := by omega
        have hk0' : kG g i = 0 := by unfold kG; rw [if_neg hgl]
        have hk0 : (kG g i : Int) = 0 := by omega
        by_cases hc : 0 < i ∨ 1 < kG g i
        · have hsp : sepG g i = [32, 9, 32, 32].take (1 + kG g i) := by unfold sepG; rw [if_pos hc]
          have hc' : (0 : Int) < (i : Int) ∨ (1 : Int) < (kG g i : Int) := by omega
          rw [hsp] at fin hsl
          rw [hk0'] at fin
          simp -dsimp -implicitDefEqProofs only [hi3, hgl', hk0, hgt, strRows_len, intRows_len, hT1, C39, List.length_append, ↓Ev.xStp_eq, ↓Ev.P, Ev.Q, eq_self, forall_eq_or_imp, implies_true, forall_const, forall_eq, ↓reduceIte, reduceIte, Nat.reduceEqDiff, Nat.reduceAdd, reduceCtorEq, Nat.reduceSub, Int.reduceToNat, Int.reduceLE, Int.reduceLT, Int.reduceNeg, Nat.reduceBEq, Nat.reduceMul, Nat.reduceLeDiff, Nat.reduceMod, UInt8.reduceOfNat, Nat.reduceLT, Int.reduceEq, Int.reduceAdd, Int.reduceSub, Int.reduceMul]
          repeat' (first | with_reducible assumption | refine And.intro ?_ ?_ | intro _)
          all_goals try omega
          all_goals exact fin _ rfl rfl rfl rfl
        · have hsp : sepG g i = [] := by unfold sepG; rw [if_neg hc]
          have hc' : ¬ ((0 : Int) < (i : Int) ∨ (1 : Int) < (kG g i : Int)) := by omega
          rw [hsp, List.append_nil] at fin
          simp -dsimp -implicitDefEqProofs only [hi3, hgl', hk0, hgt, strRows_len, intRows_len, hT1, C39, List.length_append, ↓Ev.xStp_eq, ↓Ev.P, Ev.Q, eq_self, forall_eq_or_imp, implies_true, forall_const, forall_eq, ↓reduceIte, reduceIte, Nat.reduceEqDiff, Nat.reduceAdd, reduceCtorEq, Nat.reduceSub, Int.reduceToNat, Int.reduceLE, Int.reduceLT, Int.reduceNeg, Nat.reduceBEq, Nat.reduceMul, Nat.reduceLeDiff, Nat.reduceMod, UInt8.reduceOfNat, Nat.reduceLT, Int.reduceEq, Int.reduceAdd, Int.reduceSub, Int.reduceMul]
          repeat' (first | with_reducible assumption | refine And.intro ?_ ?_ | intro _)
          all_goals try omega
          all_goals exact fin _ rfl rfl rfl rfl
    · have hi3 : ¬ (i : Int) < (L.length : Int) := by omega
      obtain rfl : i = L.length := by omega
      have hln := hll L.length (Nat.le_refl _)
      have hle : L.length * (3 * 1073741824 + 6) ≤ 32 * (3 * 1073741824 + 6) := Nat.mul_le_mul_right _ (by omega)
      simp -dsimp -implicitDefEqProofs only [hi3, hT2, hT3, CWords, CSame, hwl, wR0, unStr_rows, strRows_len, List.length_append, R12, ↓Ev.xStp_eq, ↓Ev.P, Ev.Q, eq_self, forall_eq_or_imp, implies_true, forall_const, forall_eq, ↓reduceIte, reduceIte, Nat.reduceEqDiff, Nat.reduceAdd, reduceCtorEq, Nat.reduceSub, Int.reduceToNat, Int.reduceLE, Int.reduceLT, Int.reduceNeg, Nat.reduceBEq, Nat.reduceMul, Nat.reduceLeDiff, Nat.reduceMod, UInt8.reduceOfNat, Nat.reduceLT, Int.reduceEq, Int.reduceAdd, Int.reduceSub, Int.reduceMul]
      repeat' (first | with_reducible assumption | refine And.intro ?_ ?_ | intro _)
      all_goals first | omega | exact hk | skip
def CLawL : Contract := pureC fun args => match args with
  | [.d (.sl a), .d (.sl g)] => (unStr a).bind fun x => (unInt g).map fun y => ((x.length ≤ 1099511627776 ∧ y.length ≤ 1099511627776 ∧ ∀ s ∈ x, s.length ≤ 1073741824), .d (.v (.bool true)))
  | _ => none
set_option maxHeartbeats 4000000 in
theorem s12 (hG : ∀ w, G w → Pow10 w) (hE : ∀ w, G w → ErrR w) : Sound G Tryd.prog 12 CLawL := by
  refine sd12 (T := tabT [(38, CTrue0), (39, C39), (18, CWords), (15, CSame)]) (tab_cons (s38 hG hE) (tab_cons s39 (tab_cons s18 (tab_cons s15 tab_nil)))) (pureC_lawful _) (pure_hX fun args p x K h hp hk => ?_)
  split at h <;> simp only [Option.bind_eq_some_iff, Option.map_eq_some_iff, Prod.mk.injEq, reduceCtorEq] at h
  obtain ⟨l, hl, g, hg, rfl, rfl⟩ := h
  rw [unStr_eq hl, unInt_eq hg] at *
  obtain ⟨h1, h2, h3⟩ := hp
  refine ⟨Nat.le_of_ble_eq_true rfl, ?_⟩
  have hR := fun (L : List (List UInt8)) (a b : _) => list_rest (T := tabT [(38, CTrue0), (39, C39), (18, CWords), (15, CSame)]) rfl rfl rfl L g a h2 b K hk
  by_cases h32 : 32 < l.length
  · have h32' : (32 : Int) < (l.length : Int) := by omega
    simp -dsimp -implicitDefEqProofs only [S12, S12_0, S12r1, S12_1, S12r2, S12_2, CTrue0, h32', strRows_len, ↓Ev.xStp_eq, ↓Ev.P, Ev.Q, eq_self, forall_eq_or_imp, implies_true, forall_const, forall_eq, ↓reduceIte, reduceIte, Nat.reduceEqDiff, Nat.reduceAdd, reduceCtorEq, Nat.reduceSub, Int.reduceToNat, Int.reduceLE, Int.reduceLT, Int.reduceNeg, Nat.reduceBEq, Nat.reduceMul, Nat.reduceLeDiff, Nat.reduceMod, UInt8.reduceOfNat, Nat.reduceLT, Int.reduceEq, Int.reduceAdd, Int.reduceSub, Int.reduceMul]
    repeat' (first | with_reducible assumption | refine And.intro ?_ ?_ | intro _)
    all_goals try omega
    · rename_i hr
      obtain ⟨s, _, rfl⟩ := List.mem_map.1 hr
      rfl
    · rw [strRows_take]
      exact hR (l.take 32) (by simp; omega) (fun s hs => h3 s (List.mem_of_mem_take hs)) _ rfl rfl
  · have h32' : ¬ (32 : Int) < (l.length : Int) := by omega
    simp -dsimp -implicitDefEqProofs only [S12, S12_0, S12r1, S12_1, S12r2, S12_2, CTrue0, h32', strRows_len, ↓Ev.xStp_eq, ↓Ev.P, Ev.Q, eq_self, forall_eq_or_imp, implies_true, forall_const, forall_eq, ↓reduceIte, reduceIte, Nat.reduceEqDiff, Nat.reduceAdd, reduceCtorEq, Nat.reduceSub, Int.reduceToNat, Int.reduceLE, Int.reduceLT, Int.reduceNeg, Nat.reduceBEq, Nat.reduceMul, Nat.reduceLeDiff, Nat.reduceMod, UInt8.reduceOfNat, Nat.reduceLT, Int.reduceEq, Int.reduceAdd, Int.reduceSub, Int.reduceMul]
    repeat' (first | with_reducible assumption | refine And.intro ?_ ?_ | intro _)
    all_goals try omega
    exact hR l (by omega) h3 _ rfl rfl
end Go.Proofs.YtpbkdcfjlbdgfaaDoor
set_option linter.unusedVariables false
set_option linter.unusedSimpArgs false
namespace Go.Proofs.YtpbkdcfjlbdgfaaDoor
open Go Go.Ev
set_option maxRecDepth 100000
variable {G : World → Prop}
/-- Some lines from a place on. -/
def part (l : List (List UInt8)) (x n : Nat) : List (List UInt8) := (l.drop x).take n
def headT (A AN B BN : Nat) : List UInt8 := if AN = 0 then Lib.itoa A ++ [97] ++ spanT B BN else if BN = 0 then spanT A AN ++ [100] ++ Lib.itoa B else spanT A AN ++ [99] ++ spanT B BN
def restT (A AN B BN : Nat) (a b : List (List UInt8)) : List UInt8 := [10] ++ allT [60, 32] (part a A AN) ++ (if 0 < AN ∧ 0 < BN then [45, 45, 45, 10] else []) ++ allT [62, 32] (part b B BN)
def changeT (A AN B BN : Nat) (a b : List (List UInt8)) : List UInt8 := headT A AN B BN ++ restT A AN B BN a b
theorem part_snoc (s : List UInt8) (l : List (List UInt8)) (x j : Nat) (h : x + j < l.length) : allT s (part l x (j + 1)) = allT s (part l x j) ++ lineT s (l.getD (x + j) []) := by
  have := all_snoc s (l.drop x) j (by simp; omega)
  rw [part, this, part]
  congr 2
  simp [List.getD_eq_getElem?_getD]
theorem part_le (s : List UInt8) (l : List (List UInt8)) (x j n : Nat) (h : j ≤ n) : (allT s (part l x j)).length ≤ (allT s (part l x n)).length := by
  have := all_le s (part l x n) j
  rwa [part, List.take_take, Nat.min_eq_left h] at this
def C47 : Contract := pureC fun args => match args with
  | [.agg [.d (.v (.int .i64 A)), .d (.v (.int .i64 AN)), .d (.v (.int .i64 B)), .d (.v (.int .i64 BN))], .d (.sl a), .d (.sl b)] => (unStr a).bind fun x => (unStr b).map fun y =>
      (((0 ≤ A ∧ A ≤ 2147483647) ∧ (0 ≤ AN ∧ AN ≤ 2147483647) ∧ (0 ≤ B ∧ B ≤ 2147483647) ∧ (0 ≤ BN ∧ BN ≤ 2147483647)) ∧ (A + AN ≤ x.length ∧ B + BN ≤ y.length) ∧ ((∀ s ∈ x, s.length ≤ 1099511627776) ∧ (∀ s ∈ y, s.length ≤ 1099511627776)) ∧ (restT A.toNat AN.toNat B.toNat BN.toNat x y).length ≤ 1125899906842624,
        .d (.v (str (changeT A.toNat AN.toNat B.toNat BN.toNat x y))))
  | _ => none
theorem mem_get {l : List (List UInt8)} {i : Nat} (h : i < l.length) : l.getD i [] ∈ l := by simp [List.getD_eq_getElem?_getD, List.getElem?_eq_getElem h]
set_option maxHeartbeats 1000000 in
theorem chg_rest {T : FuncId → Contract} (hT : T 68 = CLine) (A AN B BN : Nat) (hA : A ≤ 2147483647) (hAN : AN ≤ 2147483647) (hB : B ≤ 2147483647) (hBN : BN ≤ 2147483647) (a b : List (List UInt8)) (ha : A + AN ≤ a.length) (hb : B + BN ≤ b.length) (hla : ∀ s ∈ a, s.length ≤ 1099511627776) (hlb : ∀ s ∈ b, s.length ≤ 1099511627776)
    (hd : List UInt8) (hhd : hd.length ≤ 1000) (hlen : (restT A AN B BN a b).length ≤ 1125899906842624) (K : Out → Store → Prop) (hk : K (.ret (.d (.v (str (hd ++ restT A AN B BN a b))))) ⟨0, []⟩) :
    ∀ sl : List (Nat × SV), lk sl 1 = some (.d (.sl (strRows a))) → lk sl 2 = some (.d (.sl (strRows b))) → lk sl 3 = some (.ptr 0 0) → lk sl 7 = some (.d (.v (.string ⟨hd.toArray⟩))) →
    xv T 0 S47r3 ⟨sl, 1, [(0, .cells 74 [.d (.v (.int .i64 A)), .d (.v (.int .i64 AN)), .d (.v (.int .i64 B)), .d (.v (.int .i64 BN))])]⟩ (retK R47 0 [] K) (panK 0 [] K) := by
  intro sl q1 q2 q3 q7
  unfold restT at hlen
  simp only [List.length_append, List.length_cons, List.length_nil] at hlen
  simp -dsimp -implicitDefEqProofs only [S47r3, S47_3, S47r4, S47_4, S47r5, S47_5, S47r6, S47_6, S47r7, S47_7, S47r8, q1, q2, q3, q7, List.length_append, ↓Ev.xStp_eq, ↓Ev.P, Ev.Q, eq_self, forall_eq_or_imp, implies_true, forall_const, forall_eq, ↓reduceIte, reduceIte, Nat.reduceEqDiff, Nat.reduceAdd, reduceCtorEq, Nat.reduceSub, Int.reduceToNat, Int.reduceLE, Int.reduceLT, Int.reduceNeg, Nat.reduceBEq, Nat.reduceMul, Nat.reduceLeDiff, Nat.reduceMod, UInt8.reduceOfNat, Nat.reduceLT, Int.reduceEq, Int.reduceAdd, Int.reduceSub, Int.reduceMul]
  refine ⟨by omega, ?_⟩
  refine xLoop_intro (fun k st => ∃ j : Nat, j ≤ AN ∧ k = AN - j ∧
      st = ⟨[(1, .d (.sl (strRows a))), (2, .d (.sl (strRows b))), (3, .ptr 0 0), (7, .d (.v (.string ⟨(hd ++ [10] ++ allT [60, 32] (part a A j)).toArray⟩))), (8, .d (.v (.int .i64 (A + j : Nat))))], 1, [(0, .cells 74 [.d (.v (.int .i64 A)), .d (.v (.int .i64 AN)), .d (.v (.int .i64 B)), .d (.v (.int .i64 BN))])]⟩) AN [0] ?_ ?_ ?_
  · simp -dsimp -implicitDefEqProofs only [↓Ev.xStp_eq, ↓Ev.P, Ev.Q, eq_self, forall_eq_or_imp, implies_true, forall_const, forall_eq, ↓reduceIte, reduceIte, Nat.reduceEqDiff, Nat.reduceAdd, reduceCtorEq, Nat.reduceSub, Int.reduceToNat, Int.reduceLE, Int.reduceLT, Int.reduceNeg, Nat.reduceBEq, Nat.reduceMul, Nat.reduceLeDiff, Nat.reduceMod, UInt8.reduceOfNat, Nat.reduceLT, Int.reduceEq, Int.reduceAdd, Int.reduceSub, Int.reduceMul]
  · simp -dsimp -implicitDefEqProofs only [↓Ev.xStp_eq, ↓Ev.P, Ev.Q, eq_self, forall_eq_or_imp, implies_true, forall_const, forall_eq, ↓reduceIte, reduceIte, Nat.reduceEqDiff, Nat.reduceAdd, reduceCtorEq, Nat.reduceSub, Int.reduceToNat, Int.reduceLE, Int.reduceLT, Int.reduceNeg, Nat.reduceBEq, Nat.reduceMul, Nat.reduceLeDiff, Nat.reduceMod, UInt8.reduceOfNat, Nat.reduceLT, Int.reduceEq, Int.reduceAdd, Int.reduceSub, Int.reduceMul]
    exact ⟨0, by omega, by omega, by simp [part, allT]⟩
  · rintro k st ⟨j, hj, hk2, rfl⟩
    by_cases hjl : j < AN
    · have hi3 : ((A + j : Nat) : Int) < (A : Int) + (AN : Int) := by omega
      have hin : A + j < a.length := by omega
      have hx := hla _ (mem_get hin)
      have hg := strRows_get hin
      have hsn := part_snoc [60, 32] a A j hin
      have hle := part_le [60, 32] a A (j + 1) AN (by omega)
      rw [hsn, List.length_append] at hle
      simp -dsimp -implicitDefEqProofs only [hT, hg, hi3, CLine, List.length_append, ↓Ev.xStp_eq, ↓Ev.P, Ev.Q, eq_self, forall_eq_or_imp, implies_true, forall_const, forall_eq, ↓reduceIte, reduceIte, Nat.reduceEqDiff, Nat.reduceAdd, reduceCtorEq, Nat.reduceSub, Int.reduceToNat, Int.reduceLE, Int.reduceLT, Int.reduceNeg, Nat.reduceBEq, Nat.reduceMul, Nat.reduceLeDiff, Nat.reduceMod, UInt8.reduceOfNat, Nat.reduceLT, Int.reduceEq, Int.reduceAdd, Int.reduceSub, Int.reduceMul]
      repeat' (first | with_reducible assumption | refine And.intro ?_ ?_ | intro _)
      all_goals try omega
      refine xAgain_intro (AN - (j + 1)) [0] (by omega) (by simp -dsimp -implicitDefEqProofs only [↓Ev.xStp_eq, ↓Ev.P, Ev.Q, eq_self, forall_eq_or_imp, implies_true, forall_const, forall_eq, ↓reduceIte, reduceIte, Nat.reduceEqDiff, Nat.reduceAdd, reduceCtorEq, Nat.reduceSub, Int.reduceToNat, Int.reduceLE, Int.reduceLT, Int.reduceNeg, Nat.reduceBEq, Nat.reduceMul, Nat.reduceLeDiff, Nat.reduceMod, UInt8.reduceOfNat, Nat.reduceLT, Int.reduceEq, Int.reduceAdd, Int.reduceSub, Int.reduceMul]) ⟨j + 1, by omega, rfl, ?_⟩
      rw [hsn]
      simp -dsimp -implicitDefEqProofs only [↓Ev.xStp_eq, ↓Ev.P, Ev.Q, eq_self, forall_eq_or_imp, implies_true, forall_const, forall_eq, ↓reduceIte, reduceIte, Nat.reduceEqDiff, Nat.reduceAdd, reduceCtorEq, Nat.reduceSub, Int.reduceToNat, Int.reduceLE, Int.reduceLT, Int.reduceNeg, Nat.reduceBEq, Nat.reduceMul, Nat.reduceLeDiff, Nat.reduceMod, UInt8.reduceOfNat, Nat.reduceLT, Int.reduceEq, Int.reduceAdd, Int.reduceSub, Int.reduceMul]
      simp [Nat.add_assoc]
      omega
    · have hi3 : ¬ ((A + j : Nat) : Int) < (A : Int) + (AN : Int) := by omega
      obtain rfl : j = AN := by omega
      simp -dsimp -implicitDefEqProofs only [hi3, List.length_append, ↓Ev.xStp_eq, ↓Ev.P, Ev.Q, eq_self, forall_eq_or_imp, implies_true, forall_const, forall_eq, ↓reduceIte, reduceIte, Nat.reduceEqDiff, Nat.reduceAdd, reduceCtorEq, Nat.reduceSub, Int.reduceToNat, Int.reduceLE, Int.reduceLT, Int.reduceNeg, Nat.reduceBEq, Nat.reduceMul, Nat.reduceLeDiff, Nat.reduceMod, UInt8.reduceOfNat, Nat.reduceLT, Int.reduceEq, Int.reduceAdd, Int.reduceSub, Int.reduceMul]
      repeat' (first | with_reducible assumption | refine And.intro ?_ ?_ | intro _)
      all_goals try omega
      all_goals
        rename_i hc
        refine xLoop_intro (fun k st => ∃ i : Nat, i ≤ BN ∧ k = BN - i ∧
          st = ⟨[(2, .d (.sl (strRows b))), (3, .ptr 0 0), (7, .d (.v (.string ⟨(hd ++ [10] ++ allT [60, 32] (part a A j) ++ (if 0 < j ∧ 0 < BN then [45, 45, 45, 10] else []) ++ allT [62, 32] (part b B i)).toArray⟩))), (9, .d (.v (.int .i64 (B + i : Nat))))], 1, [(0, .cells 74 [.d (.v (.int .i64 A)), .d (.v (.int .i64 j)), .d (.v (.int .i64 B)), .d (.v (.int .i64 BN))])]⟩) BN [0] ?_ ?_ ?_
        · simp -dsimp -implicitDefEqProofs only [↓Ev.xStp_eq, ↓Ev.P, Ev.Q, eq_self, forall_eq_or_imp, implies_true, forall_const, forall_eq, ↓reduceIte, reduceIte, Nat.reduceEqDiff, Nat.reduceAdd, reduceCtorEq, Nat.reduceSub, Int.reduceToNat, Int.reduceLE, Int.reduceLT, Int.reduceNeg, Nat.reduceBEq, Nat.reduceMul, Nat.reduceLeDiff, Nat.reduceMod, UInt8.reduceOfNat, Nat.reduceLT, Int.reduceEq, Int.reduceAdd, Int.reduceSub, Int.reduceMul]
        · simp -dsimp -implicitDefEqProofs only [↓Ev.xStp_eq, ↓Ev.P, Ev.Q, eq_self, forall_eq_or_imp, implies_true, forall_const, forall_eq, ↓reduceIte, reduceIte, Nat.reduceEqDiff, Nat.reduceAdd, reduceCtorEq, Nat.reduceSub, Int.reduceToNat, Int.reduceLE, Int.reduceLT, Int.reduceNeg, Nat.reduceBEq, Nat.reduceMul, Nat.reduceLeDiff, Nat.reduceMod, UInt8.reduceOfNat, Nat.reduceLT, Int.reduceEq, Int.reduceAdd, Int.reduceSub, Int.reduceMul]
          refine ⟨0, by omega, by omega, ?_⟩
          first | rw [if_pos (by omega)] | rw [if_neg (by omega)]
          simp [part, allT]
        · rintro k st ⟨i, hi, hk3, rfl⟩
          clear hi3
          by_cases hil : i < BN
          · have hi3 : ((B + i : Nat) : Int) < (B : Int) + (BN : Int) := by omega
            have hin : B + i < b.length := by omega
            have hx := hlb _ (mem_get hin)
            have hg := strRows_get hin
            have hsn := part_snoc [62, 32] b B i hin
            have hle := part_le [62, 32] b B (i + 1) BN (by omega)
            rw [hsn, List.length_append] at hle
            simp -dsimp -implicitDefEqProofs only [hT, hg, hi3, CLine, List.length_append, ↓Ev.xStp_eq, ↓Ev.P, Ev.Q, eq_self, forall_eq_or_imp, implies_true, forall_const, forall_eq, ↓reduceIte, reduceIte, Nat.reduceEqDiff, Nat.reduceAdd, reduceCtorEq, Nat.reduceSub, Int.reduceToNat, Int.reduceLE, Int.reduceLT, Int.reduceNeg, Nat.reduceBEq, Nat.reduceMul, Nat.reduceLeDiff, Nat.reduceMod, UInt8.reduceOfNat, Nat.reduceLT, Int.reduceEq, Int.reduceAdd, Int.reduceSub, Int.reduceMul]
            repeat' (first | with_reducible assumption | refine And.intro ?_ ?_ | intro _)
            all_goals try omega
            refine xAgain_intro (BN - (i + 1)) [0] (by omega) (by simp -dsimp -implicitDefEqProofs only [↓Ev.xStp_eq, ↓Ev.P, Ev.Q, eq_self, forall_eq_or_imp, implies_true, forall_const, forall_eq, ↓reduceIte, reduceIte, Nat.reduceEqDiff, Nat.reduceAdd, reduceCtorEq, Nat.reduceSub, Int.reduceToNat, Int.reduceLE, Int.reduceLT, Int.reduceNeg, Nat.reduceBEq, Nat.reduceMul, Nat.reduceLeDiff, Nat.reduceMod, UInt8.reduceOfNat, Nat.reduceLT, Int.reduceEq, Int.reduceAdd, Int.reduceSub, Int.reduceMul]) ⟨i + 1, by omega, rfl, ?_⟩
            rw [hsn]
            simp -dsimp -implicitDefEqProofs only [↓Ev.xStp_eq, ↓Ev.P, Ev.Q, eq_self, forall_eq_or_imp, implies_true, forall_const, forall_eq, ↓reduceIte, reduceIte, Nat.reduceEqDiff, Nat.reduceAdd, reduceCtorEq, Nat.reduceSub, Int.reduceToNat, Int.reduceLE, Int.reduceLT, Int.reduceNeg, Nat.reduceBEq, Nat.reduceMul, Nat.reduceLeDiff, Nat.reduceMod, UInt8.reduceOfNat, Nat.reduceLT, Int.reduceEq, Int.reduceAdd, Int.reduceSub, Int.reduceMul]
            simp [Nat.add_assoc]
            omega
          · have hi3 : ¬ ((B + i : Nat) : Int) < (B : Int) + (BN : Int) := by omega
            obtain rfl : i = BN := by omega
            simp -dsimp -implicitDefEqProofs only [hi3, R47, ↓Ev.xStp_eq, ↓Ev.P, Ev.Q, eq_self, forall_eq_or_imp, implies_true, forall_const, forall_eq, ↓reduceIte, reduceIte, Nat.reduceEqDiff, Nat.reduceAdd, reduceCtorEq, Nat.reduceSub, Int.reduceToNat, Int.reduceLE, Int.reduceLT, Int.reduceNeg, Nat.reduceBEq, Nat.reduceMul, Nat.reduceLeDiff, Nat.reduceMod, UInt8.reduceOfNat, Nat.reduceLT, Int.reduceEq, Int.reduceAdd, Int.reduceSub, Int.reduceMul]
            unfold restT at hk
            simp only [sem_str] at hk
            rw [show hd ++ ([10] ++ allT [60, 32] (part a A j) ++ (if 0 < j ∧ 0 < i then [45, 45, 45, 10] else []) ++ allT [62, 32] (part b B i)) = hd ++ [10] ++ allT [60, 32] (part a A j) ++ (if 0 < j ∧ 0 < i then [45, 45, 45, 10] else []) ++ allT [62, 32] (part b B i) by simp] at hk
            exact ⟨by omega, hk⟩
theorem head_len {A AN B BN : Nat} (hA : A ≤ 2147483647) (hAN : AN ≤ 2147483647) (hB : B ≤ 2147483647) (hBN : BN ≤ 2147483647) : (headT A AN B BN).length ≤ 90 := by
  have h1 := span_len (a := A) (n := AN) (by omega)
  have h2 := span_len (a := B) (n := BN) (by omega)
  have h3 := itoa_len (n := A) (by omega)
  have h4 := itoa_len (n := B) (by omega)
  unfold headT
  split
  · simp only [List.length_append, List.length_cons, List.length_nil]; omega
  · split <;> simp only [List.length_append, List.length_cons, List.length_nil] <;> omega
set_option maxHeartbeats 1000000 in
theorem s47 : Sound G Tryd.prog 47 C47 := by
  refine sd47 (T := tabT [(33, CItoa), (60, CSpan), (68, CLine)]) (tab_cons s33 (tab_cons s60 (tab_cons s68 tab_nil))) (pureC_lawful _) (pure_hX fun args p x K h hp hk => ?_)
  split at h <;> simp only [Option.bind_eq_some_iff, Option.map_eq_some_iff, Prod.mk.injEq, reduceCtorEq] at h
  obtain ⟨a, ha, b, hb, rfl, rfl⟩ := h
  rename_i A AN B BN _ _
  rw [unStr_eq ha, unStr_eq hb] at *
  obtain ⟨⟨hA, hAN, hB, hBN⟩, ⟨h1, h2⟩, ⟨h3, h4⟩, h5⟩ := hp
  obtain ⟨A, rfl⟩ := Int.eq_ofNat_of_zero_le hA.1
  obtain ⟨AN, rfl⟩ := Int.eq_ofNat_of_zero_le hAN.1
  obtain ⟨B, rfl⟩ := Int.eq_ofNat_of_zero_le hB.1
  obtain ⟨BN, rfl⟩ := Int.eq_ofNat_of_zero_le hBN.1
  simp only [Int.toNat_natCast] at h5 hk
  refine ⟨Nat.le_of_ble_eq_true rfl, ?_⟩
  have hhl := head_len (A := A) (AN := AN) (B := B) (BN := BN) (by omega) (by omega) (by omega) (by omega)
  have rest := chg_rest (T := tabT [(33, CItoa), (60, CSpan), (68, CLine)]) rfl A AN B BN (by omega) (by omega) (by omega) (by omega) a b (by omega) (by omega) h3 h4 (headT A AN B BN) (by omega) h5 K hk
  have g1 := span_len (a := A) (n := AN) (by omega)
  have g2 := span_len (a := B) (n := BN) (by omega)
  have g3 := itoa_len (n := A) (by omega)
  have g4 := itoa_len (n := B) (by omega)
  by_cases hz : AN = 0
  · rw [show headT A AN B BN = Lib.itoa A ++ [97] ++ spanT B BN by rw [headT, if_pos hz]] at rest
    subst hz
    simp -dsimp -implicitDefEqProofs only [S47, S47_0, S47r1, S47_1, S47r2, S47_2, CItoa, CSpan, List.length_append, ↓Ev.xStp_eq, ↓Ev.P, Ev.Q, eq_self, forall_eq_or_imp, implies_true, forall_const, forall_eq, ↓reduceIte, reduceIte, Nat.reduceEqDiff, Nat.reduceAdd, reduceCtorEq, Nat.reduceSub, Int.reduceToNat, Int.reduceLE, Int.reduceLT, Int.reduceNeg, Nat.reduceBEq, Nat.reduceMul, Nat.reduceLeDiff, Nat.reduceMod, UInt8.reduceOfNat, Nat.reduceLT, Int.reduceEq, Int.reduceAdd, Int.reduceSub, Int.reduceMul]
    repeat' (first | with_reducible assumption | refine And.intro ?_ ?_ | intro _)
    all_goals first | omega | skip
    exact rest _ rfl rfl rfl rfl
  · by_cases hz2 : BN = 0
    · rw [show headT A AN B BN = spanT A AN ++ [100] ++ Lib.itoa B by rw [headT, if_neg hz, if_pos hz2]] at rest
      subst hz2
      have hz' : ¬ (AN : Int) = 0 := by omega
      simp -dsimp -implicitDefEqProofs only [S47, S47_0, S47r1, S47_1, S47r2, S47_2, CItoa, CSpan, hz', List.length_append, ↓Ev.xStp_eq, ↓Ev.P, Ev.Q, eq_self, forall_eq_or_imp, implies_true, forall_const, forall_eq, ↓reduceIte, reduceIte, Nat.reduceEqDiff, Nat.reduceAdd, reduceCtorEq, Nat.reduceSub, Int.reduceToNat, Int.reduceLE, Int.reduceLT, Int.reduceNeg, Nat.reduceBEq, Nat.reduceMul, Nat.reduceLeDiff, Nat.reduceMod, UInt8.reduceOfNat, Nat.reduceLT, Int.reduceEq, Int.reduceAdd, Int.reduceSub, Int.reduceMul]
      repeat' (first | with_reducible assumption | refine And.intro ?_ ?_ | intro _)
      all_goals first | omega | skip
      skip
      exact rest _ rfl rfl rfl rfl
    · rw [show headT A AN B BN = spanT A AN ++ [99] ++ spanT B BN by rw [headT, if_neg hz, if_neg hz2]] at rest
      have hz' : ¬ (AN : Int) = 0 := by omega
      have hz2' : ¬ (BN : Int) = 0 := by omega
      simp -dsimp -implicitDefEqProofs only [S47, S47_0, S47r1, S47_1, S47r2, S47_2, CItoa, CSpan, hz', hz2', List.length_append, ↓Ev.xStp_eq, ↓Ev.P, Ev.Q, eq_self, forall_eq_or_imp, implies_true, forall_const, forall_eq, ↓reduceIte, reduceIte, Nat.reduceEqDiff, Nat.reduceAdd, reduceCtorEq, Nat.reduceSub, Int.reduceToNat, Int.reduceLE, Int.reduceLT, Int.reduceNeg, Nat.reduceBEq, Nat.reduceMul, Nat.reduceLeDiff, Nat.reduceMod, UInt8.reduceOfNat, Nat.reduceLT, Int.reduceEq, Int.reduceAdd, Int.reduceSub, Int.reduceMul]
      repeat' (first | with_reducible assumption | refine And.intro ?_ ?_ | intro _)
      all_goals first | omega | skip
      skip
      exact rest _ rfl rfl rfl rfl
end Go.Proofs.YtpbkdcfjlbdgfaaDoor
set_option linter.unusedVariables false
set_option linter.unusedSimpArgs false
namespace Go.Proofs.YtpbkdcfjlbdgfaaDoor
open Go Go.Ev
set_option maxRecDepth 100000
variable {G : World → Prop}
def chT (a b : List (List UInt8)) (c : Q4) : List UInt8 := changeT c.1.toNat c.2.1.toNat c.2.2.1.toNat c.2.2.2.toNat a b
def prntT (l : List Q4) (a b : List (List UInt8)) : List UInt8 := l.flatMap (chT a b)
theorem prnt_snoc {l : List Q4} {i : Nat} (a b : List (List UInt8)) (h : i < l.length) : prntT (l.take (i + 1)) a b = prntT (l.take i) a b ++ chT a b (l.getD i (0, 0, 0, 0)) := by
  rw [prntT, List.take_succ_eq_append_getElem h, List.flatMap_append]
  simp [prntT, List.getD_eq_getElem?_getD, List.getElem?_eq_getElem h]
theorem prnt_le (l : List Q4) (a b : List (List UInt8)) (i : Nat) : (prntT (l.take i) a b).length ≤ (prntT l a b).length := by
  conv => rhs; rw [← List.take_append_drop i l, prntT, List.flatMap_append, List.length_append]
  exact Nat.le_add_right _ _
/-- What holds of a change of a right script. -/
def okQ (x y : Int) (c : Q4) : Prop := ((0 ≤ c.1 ∧ c.1 ≤ 2147483647) ∧ (0 ≤ c.2.1 ∧ c.2.1 ≤ 2147483647) ∧ (0 ≤ c.2.2.1 ∧ c.2.2.1 ≤ 2147483647) ∧ (0 ≤ c.2.2.2 ∧ c.2.2.2 ≤ 2147483647) ∧ ¬ (c.2.1 = 0 ∧ c.2.2.2 = 0)) ∧ c.1 + c.2.1 ≤ x ∧ c.2.2.1 + c.2.2.2 ≤ y
theorem chkL_all : ∀ {l : List Q4} {f : Bool} {a b x y : Int}, chkL f a b l = some (x, y) → (∀ c ∈ l, okQ x y c) ∧ a ≤ x ∧ b ≤ y
  | [], f, a, b, x, y, h => by
    rw [chkL] at h
    cases h
    exact ⟨(fun c hc => by cases hc), Int.le_refl _, Int.le_refl _⟩
  | c :: r, f, a, b, x, y, h => by
    rw [chkL] at h
    split at h
    · cases h
    · rename_i h1
      split at h
      · cases h
      · rename_i h2
        obtain ⟨k1, k2, k3⟩ := chkL_all h
        have ho := okC h1
        have h3 : ¬ c.1 - a < 0 := fun e => h2 (.inl (.inl e))
        have h4 : c.1 - a = c.2.2.1 - b := Decidable.not_not.1 fun e => h2 (.inr e)
        refine ⟨fun z hz => ?_, by omega, by omega⟩
        rcases List.mem_cons.1 hz with rfl | hz
        · exact ⟨ho, k2, k3⟩
        · exact k1 z hz
theorem chk_all {l : List Q4} {n m : Int} (h : chk l n m = 0) : ∀ c ∈ l, okQ n m c := by
  unfold chk at h
  split at h
  · cases h
  · rename_i a b e
    split at h
    · cases h
    · rename_i k
      obtain ⟨k1, _, _⟩ := chkL_all e
      intro c hc
      obtain ⟨q1, q2, q3⟩ := k1 c hc
      have r1 : ¬ n < a := fun e => k (.inl (.inl e))
      have r2 : ¬ m < b := fun e => k (.inl (.inr e))
      exact ⟨q1, by omega, by omega⟩
theorem chk_zero (l : List Q4) (n m : Int) : chk l n m = 0 ∨ chk l n m = 50 := by
  unfold chk
  split
  · exact .inr rfl
  · split
    · exact .inr rfl
    · exact .inl rfl
theorem q4_mem {l : List Q4} {i : Nat} (h : i < l.length) : l.getD i (0, 0, 0, 0) ∈ l := by simp [List.getD_eq_getElem?_getD, List.getElem?_eq_getElem h]
def CPrint : Contract := pureC fun args => match args with
  | [.d (.sl rows), .d (.sl a), .d (.sl b)] => (unQ4 rows).bind fun l => (unStr a).bind fun x => (unStr b).map fun y =>
      ((l.length ≤ 1099511627776 ∧ x.length ≤ 1099511627776 ∧ y.length ≤ 1099511627776) ∧ ((∀ s ∈ x, s.length ≤ 1099511627776) ∧ (∀ s ∈ y, s.length ≤ 1099511627776)) ∧ (chk l x.length y.length = 0 → (prntT l x y).length ≤ 70368744177664),
        .tup [.d (.v (str (if chk l x.length y.length = 0 then prntT l x y else []))), .d (.v (.int .i64 (chk l x.length y.length)))])
  | _ => none
set_option maxHeartbeats 1000000 in
theorem s14 : Sound G Tryd.prog 14 CPrint := by
  refine sd14 (T := tabT [(46, CCheck), (47, C47)]) (tab_cons s46 (tab_cons s47 tab_nil)) (pureC_lawful _) (pure_hX fun args p x K h hp hk => ?_)
  split at h <;> simp only [Option.bind_eq_some_iff, Option.map_eq_some_iff, Prod.mk.injEq, reduceCtorEq] at h
  obtain ⟨l, hl, a, ha, b, hb, rfl, rfl⟩ := h
  rw [unQ4_eq hl, unStr_eq ha, unStr_eq hb] at *
  obtain ⟨⟨h1, h2, h3⟩, ⟨h4, h5⟩, h6⟩ := hp
  refine ⟨Nat.le_of_ble_eq_true rfl, ?_⟩
  rcases chk_zero l a.length b.length with hz | hz
  · have hall := chk_all hz
    have hlen := h6 hz
    rw [if_pos hz, hz] at hk
    simp -dsimp -implicitDefEqProofs only [S14, R14, CCheck, unQ4_rows, strRows_len, hz, ↓Ev.xStp_eq, ↓Ev.P, Ev.Q, eq_self, forall_eq_or_imp, implies_true, forall_const, forall_eq, ↓reduceIte, reduceIte, Nat.reduceEqDiff, Nat.reduceAdd, reduceCtorEq, Nat.reduceSub, Int.reduceToNat, Int.reduceLE, Int.reduceLT, Int.reduceNeg, Nat.reduceBEq, Nat.reduceMul, Nat.reduceLeDiff, Nat.reduceMod, UInt8.reduceOfNat, Nat.reduceLT, Int.reduceEq, Int.reduceAdd, Int.reduceSub, Int.reduceMul]
    refine ⟨by omega, ?_⟩
    refine xLoop_intro (fun k st => ∃ i : Nat, i ≤ l.length ∧ k = l.length - i ∧
      st = ⟨[(0, .d (.sl (q4Rows l))), (1, .d (.sl (strRows a))), (2, .d (.sl (strRows b))), (9, .d (.v (.string ⟨(prntT (l.take i) a b).toArray⟩))), (10, .d (.v (.int .i64 i)))], 0, []⟩) l.length [] ?_ ?_ ?_
    · simp -dsimp -implicitDefEqProofs only [↓Ev.xStp_eq, ↓Ev.P, Ev.Q, eq_self, forall_eq_or_imp, implies_true, forall_const, forall_eq, ↓reduceIte, reduceIte, Nat.reduceEqDiff, Nat.reduceAdd, reduceCtorEq, Nat.reduceSub, Int.reduceToNat, Int.reduceLE, Int.reduceLT, Int.reduceNeg, Nat.reduceBEq, Nat.reduceMul, Nat.reduceLeDiff, Nat.reduceMod, UInt8.reduceOfNat, Nat.reduceLT, Int.reduceEq, Int.reduceAdd, Int.reduceSub, Int.reduceMul]
    · simp -dsimp -implicitDefEqProofs only [↓Ev.xStp_eq, ↓Ev.P, Ev.Q, eq_self, forall_eq_or_imp, implies_true, forall_const, forall_eq, ↓reduceIte, reduceIte, Nat.reduceEqDiff, Nat.reduceAdd, reduceCtorEq, Nat.reduceSub, Int.reduceToNat, Int.reduceLE, Int.reduceLT, Int.reduceNeg, Nat.reduceBEq, Nat.reduceMul, Nat.reduceLeDiff, Nat.reduceMod, UInt8.reduceOfNat, Nat.reduceLT, Int.reduceEq, Int.reduceAdd, Int.reduceSub, Int.reduceMul]
      exact ⟨0, by omega, by omega, by simp [prntT]⟩
    · rintro k st ⟨i, hi, hk2, rfl⟩
      by_cases hil : i < l.length
      · have hi3 : (i : Int) < l.length := by omega
        have hg := q4Rows_get hil
        have hsn := prnt_snoc a b hil
        have hle := prnt_le l a b (i + 1)
        obtain ⟨⟨b1, b2, b3, b4, b5⟩, b6, b7⟩ := hall _ (q4_mem hil)
        rw [hsn, List.length_append] at hle
        generalize l.getD i (0, 0, 0, 0) = c at hg hsn hle b1 b2 b3 b4 b5 b6 b7
        obtain ⟨A, AN, B, BN⟩ := c
        have hrl : (restT A.toNat AN.toNat B.toNat BN.toNat a b).length ≤ (chT a b (A, AN, B, BN)).length := by
          unfold chT changeT
          simp only [List.length_append]; omega
        simp only at b1 b2 b3 b4 b5 b6 b7
        rw [show chT a b (A, AN, B, BN) = changeT A.toNat AN.toNat B.toNat BN.toNat a b from rfl] at hle hsn hrl
        simp -dsimp -implicitDefEqProofs only [hg, hi3, q4Rows_len, q4Row, C47, unStr_rows, List.length_append, Ev.St.giveC, ↓Ev.xStp_eq, ↓Ev.P, Ev.Q, eq_self, forall_eq_or_imp, implies_true, forall_const, forall_eq, ↓reduceIte, reduceIte, Nat.reduceEqDiff, Nat.reduceAdd, reduceCtorEq, Nat.reduceSub, Int.reduceToNat, Int.reduceLE, Int.reduceLT, Int.reduceNeg, Nat.reduceBEq, Nat.reduceMul, Nat.reduceLeDiff, Nat.reduceMod, UInt8.reduceOfNat, Nat.reduceLT, Int.reduceEq, Int.reduceAdd, Int.reduceSub, Int.reduceMul]
        repeat' (first | with_reducible assumption | refine And.intro ?_ ?_ | intro _)
        all_goals try omega
        refine xAgain_intro (l.length - (i + 1)) [] (by omega) (by simp -dsimp -implicitDefEqProofs only [↓Ev.xStp_eq, ↓Ev.P, Ev.Q, eq_self, forall_eq_or_imp, implies_true, forall_const, forall_eq, ↓reduceIte, reduceIte, Nat.reduceEqDiff, Nat.reduceAdd, reduceCtorEq, Nat.reduceSub, Int.reduceToNat, Int.reduceLE, Int.reduceLT, Int.reduceNeg, Nat.reduceBEq, Nat.reduceMul, Nat.reduceLeDiff, Nat.reduceMod, UInt8.reduceOfNat, Nat.reduceLT, Int.reduceEq, Int.reduceAdd, Int.reduceSub, Int.reduceMul]) ⟨i + 1, by omega, rfl, ?_⟩
        rw [hsn]
        simp -dsimp -implicitDefEqProofs only [↓Ev.xStp_eq, ↓Ev.P, Ev.Q, eq_self, forall_eq_or_imp, implies_true, forall_const, forall_eq, ↓reduceIte, reduceIte, Nat.reduceEqDiff, Nat.reduceAdd, reduceCtorEq, Nat.reduceSub, Int.reduceToNat, Int.reduceLE, Int.reduceLT, Int.reduceNeg, Nat.reduceBEq, Nat.reduceMul, Nat.reduceLeDiff, Nat.reduceMod, UInt8.reduceOfNat, Nat.reduceLT, Int.reduceEq, Int.reduceAdd, Int.reduceSub, Int.reduceMul]
        rfl
      · have hi3 : ¬ (i : Int) < l.length := by omega
        simp -dsimp -implicitDefEqProofs only [hi3, q4Rows_len, ↓Ev.xStp_eq, ↓Ev.P, Ev.Q, eq_self, forall_eq_or_imp, implies_true, forall_const, forall_eq, ↓reduceIte, reduceIte, Nat.reduceEqDiff, Nat.reduceAdd, reduceCtorEq, Nat.reduceSub, Int.reduceToNat, Int.reduceLE, Int.reduceLT, Int.reduceNeg, Nat.reduceBEq, Nat.reduceMul, Nat.reduceLeDiff, Nat.reduceMod, UInt8.reduceOfNat, Nat.reduceLT, Int.reduceEq, Int.reduceAdd, Int.reduceSub, Int.reduceMul]
        rw [List.take_of_length_le (by omega)]
        exact hk
  · have hz' : ¬ (50 : Int) = 0 := by omega
    rw [if_neg (by rw [hz]; exact hz'), hz] at hk
    simp -dsimp -implicitDefEqProofs only [S14, R14, CCheck, unQ4_rows, strRows_len, hz, hz', ↓Ev.xStp_eq, ↓Ev.P, Ev.Q, eq_self, forall_eq_or_imp, implies_true, forall_const, forall_eq, ↓reduceIte, reduceIte, Nat.reduceEqDiff, Nat.reduceAdd, reduceCtorEq, Nat.reduceSub, Int.reduceToNat, Int.reduceLE, Int.reduceLT, Int.reduceNeg, Nat.reduceBEq, Nat.reduceMul, Nat.reduceLeDiff, Nat.reduceMod, UInt8.reduceOfNat, Nat.reduceLT, Int.reduceEq, Int.reduceAdd, Int.reduceSub, Int.reduceMul]
    exact ⟨by omega, hk⟩
end Go.Proofs.YtpbkdcfjlbdgfaaDoor
set_option linter.unusedVariables false
set_option linter.unusedSimpArgs false
namespace Go.Proofs.YtpbkdcfjlbdgfaaDoor
open Go Go.Ev
set_option maxRecDepth 100000
variable {G : World → Prop}
theorem part_rows (a : List (List UInt8)) (A AN : Nat) : ((strRows a).take (A + AN)).drop A = strRows (part a A AN) := by
  rw [strRows_sub, List.drop_take, Nat.add_sub_cancel_left, part]
theorem allT_nil (s : List UInt8) : allT s [] = [] := rfl
theorem part_zero (a : List (List UInt8)) (A : Nat) : part a A 0 = [] := by simp [part]
theorem mem_part {a : List (List UInt8)} {A AN : Nat} {x : List UInt8} (h : x ∈ part a A AN) : x ∈ a := List.mem_of_mem_drop (List.mem_of_mem_take h)
theorem part_len (a : List (List UInt8)) (A AN : Nat) : (part a A AN).length ≤ AN := by unfold part; simp; omega
theorem cons_ne (a b : UInt8) (h : a ≠ b) : ([a] = [b]) = False := by simp [h]
set_option maxHeartbeats 4000000 in
theorem s13 (hG : ∀ w, G w → Pow10 w) : Sound G Tryd.prog 13 CPrint := by
  refine sd13 (T := tabT [(41, CCheck), (42, CSpan), (32, CItoa), (43, bldC gWS), (44, bldC gAll), (45, strC 5)]) (tab_cons s41 (tab_cons (s42 hG) (tab_cons (s32 hG) (tab_cons sWS (tab_cons s44 (tab_cons sST tab_nil)))))) (pureC_lawful _) (pure_hX fun args p x K h hp hk => ?_)
  split at h <;> simp only [Option.bind_eq_some_iff, Option.map_eq_some_iff, Prod.mk.injEq, reduceCtorEq] at h
  obtain ⟨l, hl, a, ha, b, hb, rfl, rfl⟩ := h
  rw [unQ4_eq hl, unStr_eq ha, unStr_eq hb] at *
  obtain ⟨⟨h1, h2, h3⟩, ⟨h4, h5⟩, h6⟩ := hp
  refine ⟨Nat.le_of_ble_eq_true rfl, ?_⟩
  rcases chk_zero l a.length b.length with hz | hz
  · have hall := chk_all hz
    have hlen := h6 hz
    rw [if_pos hz, hz] at hk
    simp -dsimp (maxSteps := 2000000) only [S13, S13_0, S13r1, S13_1, S13r2, S13_2, S13r3, S13_3, S13r4, S13_4, S13r5, R13, CCheck, unQ4_rows, strRows_len, q4Rows_len, hz, ↓Ev.ffI, ↓Ev.ttI, ↓Ev.tfI, ↓Ev.ftI, ↓Ev.xStp_eq, ↓Ev.P, Ev.Q, eq_self, forall_eq_or_imp, implies_true, forall_const, forall_eq, ↓reduceIte, reduceIte, Nat.reduceEqDiff, Nat.reduceAdd, reduceCtorEq, Nat.reduceSub, Int.reduceToNat, Int.reduceLE, Int.reduceLT, Int.reduceNeg, Nat.reduceBEq, Nat.reduceMul, Nat.reduceLeDiff, Nat.reduceMod, UInt8.reduceOfNat, Nat.reduceLT, Int.reduceEq, Int.reduceAdd, Int.reduceSub, Int.reduceMul]
    refine ⟨by omega, ?_⟩
    refine xLoop_intro (fun k st => ∃ i : Nat, i ≤ l.length ∧ k = l.length - i ∧
      st = ⟨[(1, .d (.sl (strRows a))), (2, .d (.sl (strRows b))), (9, .ptr 0 0), (24, .d (.sl (q4Rows l))), (25, .d (.v (.int .i64 l.length))), (26, .d (.v (.int .i64 i)))], 1, [(0, .bld 72 5 (prntT (l.take i) a b))]⟩) l.length [0] ?_ ?_ ?_
    · simp -dsimp (maxSteps := 2000000) only [↓Ev.ffI, ↓Ev.ttI, ↓Ev.tfI, ↓Ev.ftI, ↓Ev.xStp_eq, ↓Ev.P, Ev.Q, eq_self, forall_eq_or_imp, implies_true, forall_const, forall_eq, ↓reduceIte, reduceIte, Nat.reduceEqDiff, Nat.reduceAdd, reduceCtorEq, Nat.reduceSub, Int.reduceToNat, Int.reduceLE, Int.reduceLT, Int.reduceNeg, Nat.reduceBEq, Nat.reduceMul, Nat.reduceLeDiff, Nat.reduceMod, UInt8.reduceOfNat, Nat.reduceLT, Int.reduceEq, Int.reduceAdd, Int.reduceSub, Int.reduceMul]
    · simp -dsimp (maxSteps := 2000000) only [↓Ev.ffI, ↓Ev.ttI, ↓Ev.tfI, ↓Ev.ftI, ↓Ev.xStp_eq, ↓Ev.P, Ev.Q, eq_self, forall_eq_or_imp, implies_true, forall_const, forall_eq, ↓reduceIte, reduceIte, Nat.reduceEqDiff, Nat.reduceAdd, reduceCtorEq, Nat.reduceSub, Int.reduceToNat, Int.reduceLE, Int.reduceLT, Int.reduceNeg, Nat.reduceBEq, Nat.reduceMul, Nat.reduceLeDiff, Nat.reduceMod, UInt8.reduceOfNat, Nat.reduceLT, Int.reduceEq, Int.reduceAdd, Int.reduceSub, Int.reduceMul]
      exact ⟨0, by omega, by omega, by simp [prntT]⟩
    · rintro k st ⟨i, hi, hk2, rfl⟩
      by_cases hil : i < l.length
      · have hi3 : (i : Int) < l.length := by omega
        have hg := q4Rows_get hil
        have hsn := prnt_snoc a b hil
        have hle := prnt_le l a b (i + 1)
        obtain ⟨⟨b1, b2, b3, b4, b5⟩, b6, b7⟩ := hall _ (q4_mem hil)
        rw [hsn, List.length_append] at hle
        generalize l.getD i (0, 0, 0, 0) = c at hg hsn hle b1 b2 b3 b4 b5 b6 b7
        obtain ⟨A, AN, B, BN⟩ := c
        simp only at b1 b2 b3 b4 b5 b6 b7
        rw [show chT a b (A, AN, B, BN) = changeT A.toNat AN.toNat B.toNat BN.toNat a b from rfl] at hle hsn
        obtain ⟨A, rfl⟩ := Int.eq_ofNat_of_zero_le b1.1
        obtain ⟨AN, rfl⟩ := Int.eq_ofNat_of_zero_le b2.1
        obtain ⟨B, rfl⟩ := Int.eq_ofNat_of_zero_le b3.1
        obtain ⟨BN, rfl⟩ := Int.eq_ofNat_of_zero_le b4.1
        simp only [Int.toNat_natCast] at hle hsn
        have rA : List.drop A (List.take ((A : Int) + (AN : Int)).toNat (strRows a)) = strRows (part a A AN) := by
          rw [show ((A : Int) + (AN : Int)).toNat = A + AN by omega, part_rows]
        have rB : List.drop B (List.take ((B : Int) + (BN : Int)).toNat (strRows b)) = strRows (part b B BN) := by
          rw [show ((B : Int) + (BN : Int)).toNat = B + BN by omega, part_rows]
        have pA := part_len a A AN
        have pB := part_len b B BN
        have mA : ∀ x ∈ part a A AN, x.length ≤ 1099511627776 := fun x hx => h4 x (mem_part hx)
        have mB : ∀ x ∈ part b B BN, x.length ≤ 1099511627776 := fun x hx => h5 x (mem_part hx)
        unfold changeT headT restT at hle hsn
        by_cases hzA : AN = 0
        · subst hzA
          have hzB : ¬ BN = 0 := by omega
          have hzB' : ¬ (BN : Int) = 0 := by omega
          have v1 : (([97] : List UInt8) = [99]) = False := by decide
          rw [if_pos rfl, if_neg (by omega : ¬ (0 < 0 ∧ 0 < BN))] at hle hsn
          simp only [List.length_append, List.length_cons, List.length_nil, List.append_nil] at hle
          simp only [Int.natCast_zero, part_zero] at rA
          simp -dsimp -implicitDefEqProofs only [hg, hi3, q4Row, CItoa, CSpan, gWS, gAll, bldT, unStr_rows, strRows_len, strRows_all, rA, rB, part_rows, allT_nil, hzB', v1, part_zero, List.length_append, Ev.St.giveC, ↓Ev.ffI, ↓Ev.ttI, ↓Ev.tfI, ↓Ev.ftI, ↓Ev.P, Ev.Q, eq_self, forall_eq_or_imp, implies_true, forall_const, forall_eq, ↓reduceIte, reduceIte, Nat.reduceEqDiff, Nat.reduceAdd, reduceCtorEq, Nat.reduceSub, Int.reduceToNat, Int.reduceLE, Int.reduceLT, Int.reduceNeg, Nat.reduceBEq, Nat.reduceMul, Nat.reduceLeDiff, Nat.reduceMod, UInt8.reduceOfNat, Nat.reduceLT, Int.reduceEq, Int.reduceAdd, Int.reduceSub, Int.reduceMul]
          repeat' (first | with_reducible assumption | refine And.intro ?_ ?_ | intro _ | (rw [Ev.xStp_eq]; simp -dsimp -implicitDefEqProofs only [hg, hi3, q4Row, CItoa, CSpan, gWS, gAll, bldT, unStr_rows, strRows_len, strRows_all, rA, rB, part_rows, allT_nil, hzB', v1, part_zero, List.length_append, Ev.St.giveC, ↓Ev.ffI, ↓Ev.ttI, ↓Ev.tfI, ↓Ev.ftI, ↓Ev.P, Ev.Q, eq_self, forall_eq_or_imp, implies_true, forall_const, forall_eq, ↓reduceIte, reduceIte, Nat.reduceEqDiff, Nat.reduceAdd, reduceCtorEq, Nat.reduceSub, Int.reduceToNat, Int.reduceLE, Int.reduceLT, Int.reduceNeg, Nat.reduceBEq, Nat.reduceMul, Nat.reduceLeDiff, Nat.reduceMod, UInt8.reduceOfNat, Nat.reduceLT, Int.reduceEq, Int.reduceAdd, Int.reduceSub, Int.reduceMul]))
          all_goals try omega
          refine xAgain_intro (l.length - (i + 1)) [0] (by omega) (by simp -dsimp -implicitDefEqProofs only [↓Ev.xStp_eq, ↓Ev.P, Ev.Q, eq_self, forall_eq_or_imp, implies_true, forall_const, forall_eq, ↓reduceIte, reduceIte, Nat.reduceEqDiff, Nat.reduceAdd, reduceCtorEq, Nat.reduceSub, Int.reduceToNat, Int.reduceLE, Int.reduceLT, Int.reduceNeg, Nat.reduceBEq, Nat.reduceMul, Nat.reduceLeDiff, Nat.reduceMod, UInt8.reduceOfNat, Nat.reduceLT, Int.reduceEq, Int.reduceAdd, Int.reduceSub, Int.reduceMul]) ⟨i + 1, by omega, rfl, ?_⟩
          rw [hsn]
          simp -dsimp -implicitDefEqProofs only [↓Ev.xStp_eq, ↓Ev.P, Ev.Q, eq_self, forall_eq_or_imp, implies_true, forall_const, forall_eq, ↓reduceIte, reduceIte, Nat.reduceEqDiff, Nat.reduceAdd, reduceCtorEq, Nat.reduceSub, Int.reduceToNat, Int.reduceLE, Int.reduceLT, Int.reduceNeg, Nat.reduceBEq, Nat.reduceMul, Nat.reduceLeDiff, Nat.reduceMod, UInt8.reduceOfNat, Nat.reduceLT, Int.reduceEq, Int.reduceAdd, Int.reduceSub, Int.reduceMul]
          simp [Nat.add_assoc, allT, part_zero]
        · by_cases hzB : BN = 0
          · subst hzB
            have hzA' : ¬ (AN : Int) = 0 := by omega
            have v1 : (([100] : List UInt8) = [99]) = False := by decide
            rw [if_neg hzA, if_pos rfl, if_neg (by omega : ¬ (0 < AN ∧ 0 < 0))] at hle hsn
            simp only [List.length_append, List.length_cons, List.length_nil, List.append_nil] at hle
            simp only [Int.natCast_zero, part_zero] at rB
            simp -dsimp -implicitDefEqProofs only [hg, hi3, q4Row, CItoa, CSpan, gWS, gAll, bldT, unStr_rows, strRows_len, strRows_all, rA, rB, part_rows, allT_nil, hzA', v1, part_zero, List.length_append, Ev.St.giveC, ↓Ev.ffI, ↓Ev.ttI, ↓Ev.tfI, ↓Ev.ftI, ↓Ev.P, Ev.Q, eq_self, forall_eq_or_imp, implies_true, forall_const, forall_eq, ↓reduceIte, reduceIte, Nat.reduceEqDiff, Nat.reduceAdd, reduceCtorEq, Nat.reduceSub, Int.reduceToNat, Int.reduceLE, Int.reduceLT, Int.reduceNeg, Nat.reduceBEq, Nat.reduceMul, Nat.reduceLeDiff, Nat.reduceMod, UInt8.reduceOfNat, Nat.reduceLT, Int.reduceEq, Int.reduceAdd, Int.reduceSub, Int.reduceMul]
            repeat' (first | with_reducible assumption | refine And.intro ?_ ?_ | intro _ | (rw [Ev.xStp_eq]; simp -dsimp -implicitDefEqProofs only [hg, hi3, q4Row, CItoa, CSpan, gWS, gAll, bldT, unStr_rows, strRows_len, strRows_all, rA, rB, part_rows, allT_nil, hzA', v1, part_zero, List.length_append, Ev.St.giveC, ↓Ev.ffI, ↓Ev.ttI, ↓Ev.tfI, ↓Ev.ftI, ↓Ev.P, Ev.Q, eq_self, forall_eq_or_imp, implies_true, forall_const, forall_eq, ↓reduceIte, reduceIte, Nat.reduceEqDiff, Nat.reduceAdd, reduceCtorEq, Nat.reduceSub, Int.reduceToNat, Int.reduceLE, Int.reduceLT, Int.reduceNeg, Nat.reduceBEq, Nat.reduceMul, Nat.reduceLeDiff, Nat.reduceMod, UInt8.reduceOfNat, Nat.reduceLT, Int.reduceEq, Int.reduceAdd, Int.reduceSub, Int.reduceMul]))
            all_goals try omega
            refine xAgain_intro (l.length - (i + 1)) [0] (by omega) (by simp -dsimp -implicitDefEqProofs only [↓Ev.xStp_eq, ↓Ev.P, Ev.Q, eq_self, forall_eq_or_imp, implies_true, forall_const, forall_eq, ↓reduceIte, reduceIte, Nat.reduceEqDiff, Nat.reduceAdd, reduceCtorEq, Nat.reduceSub, Int.reduceToNat, Int.reduceLE, Int.reduceLT, Int.reduceNeg, Nat.reduceBEq, Nat.reduceMul, Nat.reduceLeDiff, Nat.reduceMod, UInt8.reduceOfNat, Nat.reduceLT, Int.reduceEq, Int.reduceAdd, Int.reduceSub, Int.reduceMul]) ⟨i + 1, by omega, rfl, ?_⟩
            rw [hsn]
            simp -dsimp -implicitDefEqProofs only [↓Ev.xStp_eq, ↓Ev.P, Ev.Q, eq_self, forall_eq_or_imp, implies_true, forall_const, forall_eq, ↓reduceIte, reduceIte, Nat.reduceEqDiff, Nat.reduceAdd, reduceCtorEq, Nat.reduceSub, Int.reduceToNat, Int.reduceLE, Int.reduceLT, Int.reduceNeg, Nat.reduceBEq, Nat.reduceMul, Nat.reduceLeDiff, Nat.reduceMod, UInt8.reduceOfNat, Nat.reduceLT, Int.reduceEq, Int.reduceAdd, Int.reduceSub, Int.reduceMul]
            simp [Nat.add_assoc, allT, part_zero]
          · have hzA' : ¬ (AN : Int) = 0 := by omega
            have hzB' : ¬ (BN : Int) = 0 := by omega
            have v1 : (([99] : List UInt8) = [99]) = True := by decide
            rw [if_neg hzA, if_neg hzB, if_pos (by omega : (0 < AN ∧ 0 < BN))] at hle hsn
            simp only [List.length_append, List.length_cons, List.length_nil, List.append_nil] at hle
            simp -dsimp -implicitDefEqProofs only [hg, hi3, q4Row, CItoa, CSpan, gWS, gAll, bldT, unStr_rows, strRows_len, strRows_all, rA, rB, part_rows, allT_nil, hzA', hzB', v1, List.length_append, Ev.St.giveC, ↓Ev.ffI, ↓Ev.ttI, ↓Ev.tfI, ↓Ev.ftI, ↓Ev.P, Ev.Q, eq_self, forall_eq_or_imp, implies_true, forall_const, forall_eq, ↓reduceIte, reduceIte, Nat.reduceEqDiff, Nat.reduceAdd, reduceCtorEq, Nat.reduceSub, Int.reduceToNat, Int.reduceLE, Int.reduceLT, Int.reduceNeg, Nat.reduceBEq, Nat.reduceMul, Nat.reduceLeDiff, Nat.reduceMod, UInt8.reduceOfNat, Nat.reduceLT, Int.reduceEq, Int.reduceAdd, Int.reduceSub, Int.reduceMul]
            repeat' (first | with_reducible assumption | refine And.intro ?_ ?_ | intro _ | (rw [Ev.xStp_eq]; simp -dsimp -implicitDefEqProofs only [hg, hi3, q4Row, CItoa, CSpan, gWS, gAll, bldT, unStr_rows, strRows_len, strRows_all, rA, rB, part_rows, allT_nil, hzA', hzB', v1, List.length_append, Ev.St.giveC, ↓Ev.ffI, ↓Ev.ttI, ↓Ev.tfI, ↓Ev.ftI, ↓Ev.P, Ev.Q, eq_self, forall_eq_or_imp, implies_true, forall_const, forall_eq, ↓reduceIte, reduceIte, Nat.reduceEqDiff, Nat.reduceAdd, reduceCtorEq, Nat.reduceSub, Int.reduceToNat, Int.reduceLE, Int.reduceLT, Int.reduceNeg, Nat.reduceBEq, Nat.reduceMul, Nat.reduceLeDiff, Nat.reduceMod, UInt8.reduceOfNat, Nat.reduceLT, Int.reduceEq, Int.reduceAdd, Int.reduceSub, Int.reduceMul]))
            all_goals try omega
            refine xAgain_intro (l.length - (i + 1)) [0] (by omega) (by simp -dsimp -implicitDefEqProofs only [↓Ev.xStp_eq, ↓Ev.P, Ev.Q, eq_self, forall_eq_or_imp, implies_true, forall_const, forall_eq, ↓reduceIte, reduceIte, Nat.reduceEqDiff, Nat.reduceAdd, reduceCtorEq, Nat.reduceSub, Int.reduceToNat, Int.reduceLE, Int.reduceLT, Int.reduceNeg, Nat.reduceBEq, Nat.reduceMul, Nat.reduceLeDiff, Nat.reduceMod, UInt8.reduceOfNat, Nat.reduceLT, Int.reduceEq, Int.reduceAdd, Int.reduceSub, Int.reduceMul]) ⟨i + 1, by omega, rfl, ?_⟩
            rw [hsn]
            simp -dsimp -implicitDefEqProofs only [↓Ev.xStp_eq, ↓Ev.P, Ev.Q, eq_self, forall_eq_or_imp, implies_true, forall_const, forall_eq, ↓reduceIte, reduceIte, Nat.reduceEqDiff, Nat.reduceAdd, reduceCtorEq, Nat.reduceSub, Int.reduceToNat, Int.reduceLE, Int.reduceLT, Int.reduceNeg, Nat.reduceBEq, Nat.reduceMul, Nat.reduceLeDiff, Nat.reduceMod, UInt8.reduceOfNat, Nat.reduceLT, Int.reduceEq, Int.reduceAdd, Int.reduceSub, Int.reduceMul]
            simp [Nat.add_assoc, allT, part_zero]
      · have hi3 : ¬ (i : Int) < l.length := by omega
        simp -dsimp (maxSteps := 2000000) only [hi3, ↓Ev.ffI, ↓Ev.ttI, ↓Ev.tfI, ↓Ev.ftI, ↓Ev.xStp_eq, ↓Ev.P, Ev.Q, eq_self, forall_eq_or_imp, implies_true, forall_const, forall_eq, ↓reduceIte, reduceIte, Nat.reduceEqDiff, Nat.reduceAdd, reduceCtorEq, Nat.reduceSub, Int.reduceToNat, Int.reduceLE, Int.reduceLT, Int.reduceNeg, Nat.reduceBEq, Nat.reduceMul, Nat.reduceLeDiff, Nat.reduceMod, UInt8.reduceOfNat, Nat.reduceLT, Int.reduceEq, Int.reduceAdd, Int.reduceSub, Int.reduceMul]
        rw [List.take_of_length_le (by omega)]
        exact hk
  · have hz' : ¬ (50 : Int) = 0 := by omega
    rw [if_neg (by rw [hz]; exact hz'), hz] at hk
    simp -dsimp (maxSteps := 2000000) only [S13, S13_0, S13r1, S13_1, S13r2, S13_2, S13r3, S13_3, S13r4, S13_4, S13r5, R13, CCheck, unQ4_rows, strRows_len, hz, hz', ↓Ev.ffI, ↓Ev.ttI, ↓Ev.tfI, ↓Ev.ftI, ↓Ev.xStp_eq, ↓Ev.P, Ev.Q, eq_self, forall_eq_or_imp, implies_true, forall_const, forall_eq, ↓reduceIte, reduceIte, Nat.reduceEqDiff, Nat.reduceAdd, reduceCtorEq, Nat.reduceSub, Int.reduceToNat, Int.reduceLE, Int.reduceLT, Int.reduceNeg, Nat.reduceBEq, Nat.reduceMul, Nat.reduceLeDiff, Nat.reduceMod, UInt8.reduceOfNat, Nat.reduceLT, Int.reduceEq, Int.reduceAdd, Int.reduceSub, Int.reduceMul]
    exact ⟨by omega, hk⟩
end Go.Proofs.YtpbkdcfjlbdgfaaDoor
set_option linter.unusedVariables false
set_option linter.unusedSimpArgs false
namespace Go.Proofs.YtpbkdcfjlbdgfaaDoor
open Go Go.Ev
set_option maxRecDepth 100000
theorem rdStr {c : Rdr} {a : Addr} : ∀ {l : List (List UInt8)} {k : Nat}, (∀ i, i < l.length → c (a.add (k + i)) (.string ⟨(l.getD i []).toArray⟩)) → RdRows c a 1 k (strRows l)
  | [], k, h => by simp [strRows, RdRows]
  | s :: l, k, h => by
    have h0 := h 0 (by simp)
    have hr : RdRows c a 1 (k + 1) (strRows l) := rdStr fun i hi => by
      have := h (i + 1) (by simp; omega)
      rw [show k + 1 + i = k + (i + 1) by omega]
      simpa using this
    have e : strRows (s :: l) = [.v (.string ⟨s.toArray⟩)] :: strRows l := rfl
    rw [e]
    simp only [RdRows, RdCells, Rd]
    exact ⟨rfl, ⟨⟨_, by simpa using h0, rfl, rfl⟩, trivial⟩, hr⟩
theorem rdQ4 {c : Rdr} {a : Addr} : ∀ {l : List Q4} {k : Nat}, (∀ i, i < l.length → RdCells c a (k + i * 4) (q4Row (l.getD i (0, 0, 0, 0)))) → RdRows c a 4 k (q4Rows l)
  | [], k, h => by simp [q4Rows, RdRows]
  | s :: l, k, h => by
    have h0 := h 0 (by simp)
    have hr : RdRows c a 4 (k + 4) (q4Rows l) := rdQ4 fun i hi => by
      have := h (i + 1) (by simp; omega)
      rw [show k + 4 + i * 4 = k + (i + 1) * 4 by omega]
      simpa using this
    have e : q4Rows (s :: l) = q4Row s :: q4Rows l := rfl
    rw [e]
    simp only [RdRows]
    exact ⟨rfl, by simpa using h0, hr⟩
/-- A laid table's block holds its integers and nothing else. -/
theorem tab_only {P : Program} {W : World} {name : String} {k : IntKind} {zs : List Int} {g : Nat} (h : Lib.TabIs P W name k zs) (hg : P.globalNamed name = some g) {a : Addr} {u : Value} (ha : W.cell? a = some u) (hb : a.block = g) : ∃ z, u = .int k z := by
  unfold Lib.TabIs World.var? at h
  rw [hg] at h
  simp only [Option.bind_some] at h
  unfold World.cell? at ha
  rw [hb] at ha
  split at h
  · rename_i cs t f e
    rw [e] at ha
    simp only [Option.some.injEq] at h
    subst h
    simp only at ha
    split at ha
    · cases ha
    · have hm := Array.mem_of_getElem? ha
      simp only [List.mem_toArray, List.mem_map] at hm
      obtain ⟨z, _, rfl⟩ := hm
      exact ⟨z, rfl⟩
  · cases h
theorem gP10 : Tryd.prog.globalNamed "internal/strconv.uint64pow10" = some (Tryd.prog.globalNamed "internal/strconv.uint64pow10").get! := by kernel_rfl
/-- The table is hidden. -/
noncomputable def HP : Hd Pow10 := ⟨fun b => some b = Tryd.prog.globalNamed "internal/strconv.uint64pow10", fun b => some b = Tryd.prog.globalNamed "internal/strconv.uint64pow10", fun _ h => h, fun w w' h hb => by
  unfold Pow10 Lib.TabIs World.var? at h ⊢
  cases e : Tryd.prog.globalNamed "internal/strconv.uint64pow10" with
  | none => rw [e] at h; cases h
  | some g => rw [e] at h; simp only [Option.bind_some] at h ⊢; rw [hb g (by rw [e])]; exact h⟩
theorem HP_no {W : World} (h : Pow10 W) {a : Addr} {u : Value} (ha : W.cell? a = some u) (hu : ∀ z, u ≠ .int .u64 z) : ¬ HP a.block := fun hb => by
  obtain ⟨z, e⟩ := tab_only h hb.symm ha rfl
  exact hu z e
theorem HP_lt {W : World} (h : Pow10 W) {b : Nat} (hb : HP b) : b < W.heap.size := by
  have hb' : some b = Tryd.prog.globalNamed "internal/strconv.uint64pow10" := hb
  unfold Pow10 Lib.TabIs World.var? at h
  rw [← hb'] at h
  simp only [Option.bind_some] at h
  split at h
  · rename_i e
    exact (Array.getElem?_eq_some_iff.1 e).1
  · cases h
end Go.Proofs.YtpbkdcfjlbdgfaaDoor
