/- UnifiedAgain: what is read of any text is written and read again as the same Part 5 of 6. -/
import Derived.Shelf.Strings.Builder1
import Derived.Shelf.Small.Utf8
import Derived.Shelf.Small.Strs
import Derived.Shelf.Strings.BuilderF
import Derived.Shelf.Utf8.RuneCount
import Derived.Shelf.Strconv.Atoi
import Derived.Shelf.Strconv.Itoa0
import Derived.Shelf.Strconv.Itoa1
import Derived.Shelf.LaysM
import Derived.Shelf.Strconv.Itoa2
import Derived.Shelf.Strconv.Itoa3
import Derived.Shelf.Strconv.AtoiErrFast
import Derived.Shelf.Strconv.ParseIntEmpty
import Derived.Shelf.Strconv.AtoiFail
import Derived.Shelf.Strconv.Clone
import Derived.Shelf.Strconv.SyntaxError
import Derived.Shelf.LaysC
import Derived.Shelf.Strconv.ToError
import Derived.Shelf.Strconv.Lower
import Derived.Shelf.Strconv.ParseUint10
import Derived.Shelf.Strconv.ParseUint10Empty
import Derived.Shelf.Strconv.ParseUint10Any
import Derived.Shelf.Strconv.ParseInt10
import Derived.Shelf.Strconv.AtoiLong
import Derived.Shelf.Strconv.AtoiInnerAll
import Derived.Shelf.Strconv.RangeError
import Derived.Shelf.Strconv.ToErrorRange
import Derived.Shelf.Strconv.AtoiAll
import Derived.Shelf.Strconv.ErrVarAll
import Derived.Shelf.Strings.Search1
import Derived.Shelf.Strings.Search2
import Derived.Shelf.Strings.Search3
import Derived.Shelf.Strings.Cut
import Derived.Shelf.Strings.Count
import Derived.Shelf.Strings.Shaped
import Derived.Shelf.Strings.Prefix
import Derived.Shelf.Strings.Split
import Derived.Shelf.Unicode.Decode
import Derived.Shelf.Strings.Runes
import Derived.Shelf.Strings.RuneCount
import Derived.Shelf.Strings.IndexAny
import Derived.Shelf.Strings.AsciiSet
import Derived.Shelf.Strings.IndexAnyAll
import Derived.Shelf.Strings.Explode
import Derived.Shelf.Unicode.DecodeSlow
import Derived.Shelf.Unicode.DecodeAny
import Derived.Test.YtlghobefhmpfkaaGreatDoorProg
import Derived.Laws.RangeAny
import Derived.WalkKit
import Derived.RecoverIn
import Derived.RowKitTokens
import Derived.Below
import Derived.Test.YtlghobefhmpfkaaGreatDoorRows
import Derived.Deep.Slices
import Derived.Deep.Fields
import Derived.ChangeSame
import Derived.LaidEql
import Derived.Stop.Asserts
import Derived.RegionTactic
import Derived.ChangeAlike
import Derived.Test.YtlghobefhmpfkaaGreatDoorCards
import Derived.Test.YtlghobefhmpfkaaGreatDoorTie
import Derived.JoinedCond
import Derived.ProofKit
import Derived.Deep.DeepHandedRow
import Derived.Deep.DeepWitnessRowRef
import Derived.Stop.LaidErr
import Derived.Stop.Joined
import Derived.LaidLaws
import Derived.LaidHandle
import Derived.Lib.LaidIn
import Derived.SevenTiedAt
import Derived.Test.YtlghobefhmpfkaaGreatDoorUa1
import Derived.Test.YtlghobefhmpfkaaGreatDoorUa2
import Derived.Test.YtlghobefhmpfkaaGreatDoorUa3
import Derived.Test.YtlghobefhmpfkaaGreatDoorUa4
set_option linter.unusedSimpArgs false
set_option linter.unusedVariables false
namespace Go.Proofs.YtlghobefhmpfkaaGreatDoor
open Go Go.Ev
set_option maxRecDepth 100000
variable {G : World → Prop}
theorem enc3 {c : Int} (h : c = 32 ∨ c = 45 ∨ c = 43) : Utf8.encode (IntKind.i32.wrap c) = ⟨[UInt8.ofNat c.toNat].toArray⟩ := by
 rcases h with rfl | rfl | rfl <;> decide +kernel
theorem uLn_eq (c : Int) (t : List UInt8) : uLn (c, t) = [UInt8.ofNat c.toNat] ++ (bareS t).1 ++ [10] ++ (if (bareS t).2 = true then [] else markT) := by
 have h := bare_split t
 rw [uLn, lineT]
 rcases hb : bareS t with ⟨y, f⟩
 rw [hb] at h
 cases f with
 | true => simp only [if_true]; rw [h.1 rfl]; simp
 | false => simp only [Bool.false_eq_true, if_false]; rw [← h.2 rfl]
theorem uPt_snoc (o n : List UInt8) {l : List Hk} {i : Nat} (h : i < l.length) : uPt o n (l.take (i + 1)) = (if i = 0 then uTop o n else uPt o n (l.take i)) ++ uHk (l.getD i hk0) := by
 have hne : ¬ l.take (i + 1) = [] := by rw [hk_take h]; simp
 rw [uPt, if_neg hne, uHk_snoc h]
 by_cases h0 : i = 0
 · subst h0; simp
 · have : ¬ l.take i = [] := by
     intro e
     have : (l.take i).length = 0 := by rw [e]; rfl
     rw [List.length_take] at this
     omega
   rw [if_neg h0, uPt, if_neg this, List.append_assoc]
theorem uPt_le (o n : List UInt8) (l : List Hk) (i : Nat) : (uPt o n (l.take i)).length ≤ (uPt o n l).length := by
 rw [uPt]
 split
 · simp
 · rename_i h
   rw [uPt, if_neg (fun e => h (by rw [e]; simp)), List.length_append, List.length_append]
   have := uHk_le l i
   omega
set_option maxHeartbeats 4000000 in
theorem s25 (hG : ∀ w, G w → Pow10 w) : Sound G Tryz.prog 25 CUPrint := by
 refine sd25 (T := tabT [(22, CHk), (68, C68), (69, CCnt), (18, CBare), (67, bldC gWS), (70, strC 5)]) (tab_cons s22 (tab_cons s68 (tab_cons (s69 hG) (tab_cons s18 (tab_cons sWS (tab_cons sST tab_nil)))))) (pureC_lawful _) (pure_hX fun args p x K h hp hk => ?_)
 split at h <;> simp only [Option.map_eq_some_iff, Prod.mk.injEq, reduceCtorEq] at h
 obtain ⟨l, hl, rfl, rfl⟩ := h
 rw [unHk_eq hl] at *
 rename_i o n rows
 obtain ⟨o, rfl⟩ := ex_str o
 obtain ⟨n, rfl⟩ := ex_str n
 simp only [sem_str] at hk hp
 obtain ⟨⟨h1, h2⟩, h3⟩ := hp
 refine ⟨Nat.le_of_ble_eq_true rfl, ?_⟩
 by_cases ho : (64 : Int) < o.length
 · have hw : wrongT o n l = 253 := by rw [wrongT, if_pos (.inl (by omega))]
   rw [hw, if_neg (by decide)] at hk
   simp -dsimp -implicitDefEqProofs only [S25, R25, ho, ↓Ev.P, Ev.Q, Ev.Z, simprocAttr]
   repeat' (first | with_reducible assumption | refine And.intro ?_ ?_ | intro _ | (rw [Ev.xStp_eq]; simp -dsimp -implicitDefEqProofs only [ho, ↓Ev.P, Ev.Q, Ev.Z, simprocAttr]))
 · by_cases hn : (64 : Int) < n.length
   · have hw : wrongT o n l = 253 := by rw [wrongT, if_pos (.inr (by omega))]
     rw [hw, if_neg (by decide)] at hk
     simp -dsimp -implicitDefEqProofs only [S25, R25, ho, hn, ↓Ev.P, Ev.Q, Ev.Z, simprocAttr]
     repeat' (first | with_reducible assumption | refine And.intro ?_ ?_ | intro _ | (rw [Ev.xStp_eq]; simp -dsimp -implicitDefEqProofs only [ho, hn, ↓Ev.P, Ev.Q, Ev.Z, simprocAttr]))
   · by_cases hh : (4096 : Int) < l.length
     · have hw : wrongT o n l = 9 := by rw [wrongT, if_neg (by omega), if_pos (by omega)]
       rw [hw, if_neg (by decide)] at hk
       simp -dsimp -implicitDefEqProofs only [S25, R25, ho, hn, hh, hkRows_len, ↓Ev.P, Ev.Q, Ev.Z, simprocAttr]
       repeat' (first | with_reducible assumption | refine And.intro ?_ ?_ | intro _ | (rw [Ev.xStp_eq]; simp -dsimp -implicitDefEqProofs only [ho, hn, hh, hkRows_len, ↓Ev.P, Ev.Q, Ev.Z, simprocAttr]))
     · have hw : wrongT o n l = badHs l := by rw [wrongT, if_neg (by omega), if_neg (by omega)]
       rw [hw] at hk
       have n1 := nameS_len o
       have n2 := nameS_len n
       simp -dsimp -implicitDefEqProofs only [S25, R25, ho, hn, hh, hkRows_len, ↓Ev.P, Ev.Q, Ev.Z, simprocAttr]
       repeat' (first | with_reducible assumption | refine And.intro ?_ ?_ | intro _ | (rw [Ev.xStp_eq]; simp -dsimp -implicitDefEqProofs only [ho, hn, hh, hkRows_len, ↓Ev.P, Ev.Q, Ev.Z, simprocAttr]))
       refine xLoop_intro (fun k st => ∃ i : Nat, i ≤ l.length ∧ k = l.length - i ∧ badHs (l.drop i) = badHs l ∧
         st = ⟨[(1, .ptr 0 0), (4, .ptr 1 0), (27, .d (.sl (hkRows l))), (28, .d (.v (.int .i64 l.length))), (29, .d (.v (.int .i64 i)))], 2, [(0, .cells 55 [.d (.v (.string ⟨o.toArray⟩)), .d (.v (.string ⟨n.toArray⟩)), .d (.sl (hkRows l))]), (1, .bld 117 5 (uPt o n (l.take i)))]⟩) l.length [0, 1] ?_ ?_ ?_
       · simp -dsimp -implicitDefEqProofs only [↓Ev.xStp_eq, ↓Ev.P, Ev.Q, Ev.Z, simprocAttr]
       · simp -dsimp -implicitDefEqProofs only [↓Ev.xStp_eq, ↓Ev.P, Ev.Q, Ev.Z, simprocAttr]
         exact ⟨0, by omega, by omega, rfl, by simp [uPt]⟩
       · rintro k st ⟨i, hi, hk2, hb, rfl⟩
         by_cases hil : i < l.length
         · have hi3 : (i : Int) < l.length := by omega
           have hg := hkRows_get hil
           have hd := hk_drop hil
           have hsn := uPt_snoc o n hil
           have hle := uPt_le o n l (i + 1)
           have hm := h2 _ (hk_mem hil)
           rw [hd, badHs] at hb
           rw [hsn, List.length_append] at hle
           generalize l.getD i hk0 = h at hg hb hsn hle hm
           obtain ⟨⟨A, AN, B, BN⟩, m⟩ := h
           simp only at hm
           by_cases hc : hkChk A AN B BN m = 0
           · rw [if_pos (show chkH ((A, AN, B, BN), m) = 0 from hc)] at hb
             obtain ⟨c1, c2, c3, c4, c5⟩ := chk_ok hc
             have g1 := cnt_len (a := A) (n := AN) (by omega)
             have g2 := cnt_len (a := B) (n := BN) (by omega)
             have hsg := sign_ok c5
             simp only [uHk, uHd, List.length_append, List.length_cons, List.length_nil] at hle
             by_cases h0 : i = 0
             · have hi0 : ((i : Int) = 0) = True := eq_true (by omega)
               rw [if_pos h0] at hsn hle
               have hu : uPt o n (l.take i) = [] := by rw [h0]; rfl
               simp only [uTop, List.length_append, List.length_cons, List.length_nil] at hle
               simp -dsimp -implicitDefEqProofs only [hg, hi3, hu, hkRow, ↓Ev.P, Ev.Q, Ev.Z, simprocAttr]
               repeat' (first | with_reducible assumption | refine And.intro ?_ ?_ | intro _ | (rw [Ev.xStp_eq]; simp -dsimp -implicitDefEqProofs only [hg, hi3, hc, hi0, hkRow, CHk, C68, CCnt, gWS, bldT, unMk_rows, mkRows_len, List.length_append, Ev.St.giveC, ↓Ev.P, Ev.Q, Ev.Z, simprocAttr]))
               all_goals first | omega | exact hm.1 | exact hm.2 | skip
               obtain ⟨X, hX⟩ : ∃ X, X = uTop o n ++ uHd A AN B BN := ⟨_, rfl⟩
               have hXl : X.length = (uTop o n).length + (uHd A AN B BN).length := by rw [hX]; simp only [List.length_append]
               simp only [uHd, uTop, List.length_append, List.length_cons, List.length_nil] at hXl
               refine xLoop_intro (fun k st => ∃ j : Nat, j ≤ m.length ∧ k = m.length - j ∧
                 st = ⟨[(1, .ptr 0 0), (4, .ptr 1 0), (27, .d (.sl (hkRows l))), (28, .d (.v (.int .i64 l.length))), (29, .d (.v (.int .i64 i))), (68, .d (.sl (mkRows m))), (69, .d (.v (.int .i64 m.length))), (70, .d (.v (.int .i64 j)))], 2, [(0, .cells 55 [.d (.v (.string ⟨o.toArray⟩)), .d (.v (.string ⟨n.toArray⟩)), .d (.sl (hkRows l))]), (1, .bld 117 5 (X ++ (m.take j).flatMap uLn))]⟩) m.length [0, 1] ?_ ?_ ?_
               · simp -dsimp -implicitDefEqProofs only [↓Ev.xStp_eq, ↓Ev.P, Ev.Q, Ev.Z, simprocAttr]
               · simp -dsimp -implicitDefEqProofs only [↓Ev.xStp_eq, ↓Ev.P, Ev.Q, Ev.Z, simprocAttr]
                 exact ⟨0, by omega, by omega, by rw [hX]; simp [uHd, uTop]⟩
               · rintro k' st ⟨j, hj, hk3, rfl⟩
                 by_cases hjl : j < m.length
                 · have hj3 : (j : Int) < m.length := by omega
                   have hgm := mkRows_get hjl
                   have hsm := uLn_snoc hjl
                   have hlm := uLn_le m (j + 1)
                   have hmm := hm.2 _ (mk_mem hjl)
                   have hs3 := hsg _ (mk_mem hjl)
                   rw [hsm, List.length_append] at hlm
                   generalize m.getD j mk0 = x at hgm hsm hlm hmm hs3
                   obtain ⟨c, t⟩ := x
                   have hen := enc3 hs3
                   have hue := uLn_eq c t
                   have hbs := bare_split t
                   simp only at hmm
                   rw [hue] at hsm hlm
                   rcases hbx : bareS t with ⟨y, f⟩
                   rw [hbx] at hsm hlm
                   cases f with
                   | true =>
                     simp only [if_true, List.append_nil, List.length_append, List.length_cons, List.length_nil] at hsm hlm
                     simp -dsimp -implicitDefEqProofs only [hgm, hj3, hbx, hen, mkRow, CBare, gWS, bldT, List.length_append, ↓Ev.P, Ev.Q, Ev.Z, simprocAttr]
                     repeat' (first | with_reducible assumption | refine And.intro ?_ ?_ | intro _ | (rw [Ev.xStp_eq]; simp -dsimp -implicitDefEqProofs only [hgm, hj3, hbx, hen, mkRow, CBare, gWS, bldT, List.length_append, ↓Ev.P, Ev.Q, Ev.Z, simprocAttr]))
                     all_goals try omega
                     refine xAgain_intro (m.length - (j + 1)) [0, 1] (by omega) (by simp -dsimp -implicitDefEqProofs only [↓Ev.xStp_eq, ↓Ev.P, Ev.Q, Ev.Z, simprocAttr]) ⟨j + 1, by omega, rfl, ?_⟩
                     rw [hsm]
                     simp -dsimp -implicitDefEqProofs only [↓Ev.xStp_eq, ↓Ev.P, Ev.Q, Ev.Z, simprocAttr]
                     simp
                   | false =>
                     simp only [Bool.false_eq_true, if_false, List.length_append, List.length_cons, List.length_nil] at hsm hlm
                     simp -dsimp -implicitDefEqProofs only [hgm, hj3, hbx, hen, mkRow, CBare, gWS, bldT, List.length_append, ↓Ev.P, Ev.Q, Ev.Z, simprocAttr]
                     repeat' (first | with_reducible assumption | refine And.intro ?_ ?_ | intro _ | (rw [Ev.xStp_eq]; simp -dsimp -implicitDefEqProofs only [hgm, hj3, hbx, hen, mkRow, CBare, gWS, bldT, List.length_append, ↓Ev.P, Ev.Q, Ev.Z, simprocAttr]))
                     all_goals try omega
                     refine xAgain_intro (m.length - (j + 1)) [0, 1] (by omega) (by simp -dsimp -implicitDefEqProofs only [↓Ev.xStp_eq, ↓Ev.P, Ev.Q, Ev.Z, simprocAttr]) ⟨j + 1, by omega, rfl, ?_⟩
                     rw [hsm]
                     simp -dsimp -implicitDefEqProofs only [↓Ev.xStp_eq, ↓Ev.P, Ev.Q, Ev.Z, simprocAttr]
                     simp
                 · have hj3 : ¬ (j : Int) < m.length := by omega
                   simp -dsimp -implicitDefEqProofs only [hj3, ↓Ev.xStp_eq, ↓Ev.P, Ev.Q, Ev.Z, simprocAttr]
                   refine ⟨by omega, ?_⟩
                   refine xAgain_intro (l.length - (i + 1)) [0, 1] (by omega) (by simp -dsimp -implicitDefEqProofs only [↓Ev.xStp_eq, ↓Ev.P, Ev.Q, Ev.Z, simprocAttr]) ⟨i + 1, by omega, rfl, hb, ?_⟩
                   rw [hsn, List.take_of_length_le (by omega), hX]
                   simp -dsimp -implicitDefEqProofs only [↓Ev.xStp_eq, ↓Ev.P, Ev.Q, Ev.Z, simprocAttr]
                   simp [uHk]
             · have hi0 : ((i : Int) = 0) = False := eq_false (by omega)
               rw [if_neg h0] at hsn hle
               simp -dsimp -implicitDefEqProofs only [hg, hi3, hkRow, ↓Ev.P, Ev.Q, Ev.Z, simprocAttr]
               repeat' (first | with_reducible assumption | refine And.intro ?_ ?_ | intro _ | (rw [Ev.xStp_eq]; simp -dsimp -implicitDefEqProofs only [hg, hi3, hc, hi0, hkRow, CHk, C68, CCnt, gWS, bldT, unMk_rows, mkRows_len, List.length_append, Ev.St.giveC, ↓Ev.P, Ev.Q, Ev.Z, simprocAttr]))
               all_goals first | omega | exact hm.1 | exact hm.2 | skip
               obtain ⟨X, hX⟩ : ∃ X, X = uPt o n (l.take i) ++ uHd A AN B BN := ⟨_, rfl⟩
               have hXl : X.length = (uPt o n (l.take i)).length + (uHd A AN B BN).length := by rw [hX]; simp only [List.length_append]
               simp only [uHd, uTop, List.length_append, List.length_cons, List.length_nil] at hXl
               refine xLoop_intro (fun k st => ∃ j : Nat, j ≤ m.length ∧ k = m.length - j ∧
                 st = ⟨[(1, .ptr 0 0), (4, .ptr 1 0), (27, .d (.sl (hkRows l))), (28, .d (.v (.int .i64 l.length))), (29, .d (.v (.int .i64 i))), (68, .d (.sl (mkRows m))), (69, .d (.v (.int .i64 m.length))), (70, .d (.v (.int .i64 j)))], 2, [(0, .cells 55 [.d (.v (.string ⟨o.toArray⟩)), .d (.v (.string ⟨n.toArray⟩)), .d (.sl (hkRows l))]), (1, .bld 117 5 (X ++ (m.take j).flatMap uLn))]⟩) m.length [0, 1] ?_ ?_ ?_
               · simp -dsimp -implicitDefEqProofs only [↓Ev.xStp_eq, ↓Ev.P, Ev.Q, Ev.Z, simprocAttr]
               · simp -dsimp -implicitDefEqProofs only [↓Ev.xStp_eq, ↓Ev.P, Ev.Q, Ev.Z, simprocAttr]
                 exact ⟨0, by omega, by omega, by rw [hX]; simp [uHd, uTop]⟩
               · rintro k' st ⟨j, hj, hk3, rfl⟩
                 by_cases hjl : j < m.length
                 · have hj3 : (j : Int) < m.length := by omega
                   have hgm := mkRows_get hjl
                   have hsm := uLn_snoc hjl
                   have hlm := uLn_le m (j + 1)
                   have hmm := hm.2 _ (mk_mem hjl)
                   have hs3 := hsg _ (mk_mem hjl)
                   rw [hsm, List.length_append] at hlm
                   generalize m.getD j mk0 = x at hgm hsm hlm hmm hs3
                   obtain ⟨c, t⟩ := x
                   have hen := enc3 hs3
                   have hue := uLn_eq c t
                   have hbs := bare_split t
                   simp only at hmm
                   rw [hue] at hsm hlm
                   rcases hbx : bareS t with ⟨y, f⟩
                   rw [hbx] at hsm hlm
                   cases f with
                   | true =>
                     simp only [if_true, List.append_nil, List.length_append, List.length_cons, List.length_nil] at hsm hlm
                     simp -dsimp -implicitDefEqProofs only [hgm, hj3, hbx, hen, mkRow, CBare, gWS, bldT, List.length_append, ↓Ev.P, Ev.Q, Ev.Z, simprocAttr]
                     repeat' (first | with_reducible assumption | refine And.intro ?_ ?_ | intro _ | (rw [Ev.xStp_eq]; simp -dsimp -implicitDefEqProofs only [hgm, hj3, hbx, hen, mkRow, CBare, gWS, bldT, List.length_append, ↓Ev.P, Ev.Q, Ev.Z, simprocAttr]))
                     all_goals try omega
                     refine xAgain_intro (m.length - (j + 1)) [0, 1] (by omega) (by simp -dsimp -implicitDefEqProofs only [↓Ev.xStp_eq, ↓Ev.P, Ev.Q, Ev.Z, simprocAttr]) ⟨j + 1, by omega, rfl, ?_⟩
                     rw [hsm]
                     simp -dsimp -implicitDefEqProofs only [↓Ev.xStp_eq, ↓Ev.P, Ev.Q, Ev.Z, simprocAttr]
                     simp
                   | false =>
                     simp only [Bool.false_eq_true, if_false, List.length_append, List.length_cons, List.length_nil] at hsm hlm
                     simp -dsimp -implicitDefEqProofs only [hgm, hj3, hbx, hen, mkRow, CBare, gWS, bldT, List.length_append, ↓Ev.P, Ev.Q, Ev.Z, simprocAttr]
                     repeat' (first | with_reducible assumption | refine And.intro ?_ ?_ | intro _ | (rw [Ev.xStp_eq]; simp -dsimp -implicitDefEqProofs only [hgm, hj3, hbx, hen, mkRow, CBare, gWS, bldT, List.length_append, ↓Ev.P, Ev.Q, Ev.Z, simprocAttr]))
                     all_goals try omega
                     refine xAgain_intro (m.length - (j + 1)) [0, 1] (by omega) (by simp -dsimp -implicitDefEqProofs only [↓Ev.xStp_eq, ↓Ev.P, Ev.Q, Ev.Z, simprocAttr]) ⟨j + 1, by omega, rfl, ?_⟩
                     rw [hsm]
                     simp -dsimp -implicitDefEqProofs only [↓Ev.xStp_eq, ↓Ev.P, Ev.Q, Ev.Z, simprocAttr]
                     simp
                 · have hj3 : ¬ (j : Int) < m.length := by omega
                   simp -dsimp -implicitDefEqProofs only [hj3, ↓Ev.xStp_eq, ↓Ev.P, Ev.Q, Ev.Z, simprocAttr]
                   refine ⟨by omega, ?_⟩
                   refine xAgain_intro (l.length - (i + 1)) [0, 1] (by omega) (by simp -dsimp -implicitDefEqProofs only [↓Ev.xStp_eq, ↓Ev.P, Ev.Q, Ev.Z, simprocAttr]) ⟨i + 1, by omega, rfl, hb, ?_⟩
                   rw [hsn, List.take_of_length_le (by omega), hX]
                   simp -dsimp -implicitDefEqProofs only [↓Ev.xStp_eq, ↓Ev.P, Ev.Q, Ev.Z, simprocAttr]
                   simp [uHk]
           · rw [if_neg (show ¬ chkH ((A, AN, B, BN), m) = 0 from hc)] at hb
             have hb : hkChk A AN B BN m = badHs l := hb
             rw [← hb, if_neg hc] at hk
             simp -dsimp -implicitDefEqProofs only [hg, hi3, hkRow, ↓Ev.P, Ev.Q, Ev.Z, simprocAttr]
             repeat' (first | with_reducible assumption | refine And.intro ?_ ?_ | intro _ | (rw [Ev.xStp_eq]; simp -dsimp -implicitDefEqProofs only [hg, hi3, hc, hkRow, CHk, unMk_rows, Ev.St.giveC, ↓Ev.P, Ev.Q, Ev.Z, simprocAttr]))
             all_goals first | omega | exact hm.1 | exact hm.2 | exact hk
         · have hi3 : ¬ (i : Int) < l.length := by omega
           rw [List.drop_of_length_le (by omega)] at hb
           have hb0 : badHs l = 0 := hb.symm
           rw [hb0, if_pos rfl] at hk
           simp -dsimp -implicitDefEqProofs only [hi3, ↓Ev.xStp_eq, ↓Ev.P, Ev.Q, Ev.Z, simprocAttr]
           rw [List.take_of_length_le (by omega)]
           exact hk
end Go.Proofs.YtlghobefhmpfkaaGreatDoor
namespace Go.Proofs.YtlghobefhmpfkaaGreatDoor
open Go Go.Ev Go.Rcs
set_option maxRecDepth 100000
variable {G : World → Prop}
theorem itoa_dig {n : Int} (h : 0 ≤ n) : ∀ c ∈ Lib.itoa n, 48 ≤ c.toNat ∧ c.toNat ≤ 57 := by
 intro c hc
 rw [Lib.itoa, if_neg (by omega)] at hc
 have := List.all_eq_true.1 (dec_all n.toNat) c hc
 simp only [dig, Bool.and_eq_true, decide_eq_true_eq] at this
 omega
theorem cntT_mem {p n : Int} (hp : 0 ≤ p) (hn : 0 ≤ n) : ∀ c ∈ cntT p n, 44 ≤ c.toNat := by
 intro c hc
 unfold cntT at hc
 split at hc
 · have := itoa_dig hp c hc; omega
 · rw [List.append_assoc, List.mem_append, List.mem_append, List.mem_singleton] at hc
   rcases hc with hc | rfl | hc
   · have := itoa_dig hp c hc; omega
   · decide
   · have := itoa_dig hn c hc; omega
theorem not_mem_low {l : List UInt8} {k : UInt8} (hk : k.toNat < 44) (h : ∀ c ∈ l, 44 ≤ c.toNat) : k ∉ l := fun hm => by have := h k hm; omega
theorem cutK_mid {k : UInt8} : ∀ (x z : List UInt8), k ∉ x → cutK k (x ++ k :: z) = some (x, z)
 | [], z, _ => by rw [List.nil_append, cutK, if_pos rfl]
 | c :: x, z, h => by
   simp only [List.mem_cons, not_or] at h
   rw [List.cons_append, cutK, if_neg (fun e => h.1 e.symm), cutK_mid x z h.2]; rfl
theorem cntS_cntT {p n : Int} (hp : 0 ≤ p ∧ p ≤ 2147483647) (hn : 0 ≤ n ∧ n ≤ 2147483647) : cntS (cntT p n) = ((p, n), true) := by
 have k44 : ∀ {m : Int}, 0 ≤ m → 44 ∉ Lib.itoa m := fun hm hh => by have := itoa_dig hm 44 hh; revert this; decide
 have pt : ∀ {m : Int}, 0 ≤ m ∧ m ≤ 2147483647 → parseS (Lib.itoa m) = (m, 0) := fun hm => by rw [parse_text, if_neg (by omega), if_neg (by omega)]
 unfold cntT
 by_cases h1 : n = 1
 · rw [if_pos h1, cntS, cutK_non (k44 hp.1)]
   dsimp only
   rw [pt hp, h1]; rfl
 · rw [if_neg h1, cntS, List.append_assoc, List.singleton_append, cutK_mid _ _ (k44 hp.1)]
   dsimp only
   rw [pt hp, pt hn]; rfl
theorem cutS_mid {c : UInt8} {q : List UInt8} (x z : List UInt8) (h : c ∉ x) : cutS (c :: q) (x ++ ((c :: q) ++ z)) = some (x, z) := by
 have hno : Lib.NoOcc (x ++ ((c :: q) ++ z)) (c :: q) x.length := by
   intro j hj
   unfold Lib.occAt
   rw [List.drop_append_of_le_length (by omega), List.drop_eq_getElem_cons hj, List.cons_append, List.isPrefixOf_cons_cons]
   have : (c == x[j]) = false := by
     rw [beq_eq_false_iff_ne]
     exact fun e => h (e ▸ List.getElem_mem hj)
   rw [this]; rfl
 have hd : (x ++ ((c :: q) ++ z)).drop x.length = (c :: q) ++ z := by simp
 have ho : Lib.occAt (x ++ ((c :: q) ++ z)) (c :: q) x.length = true := by
   unfold Lib.occAt
   rw [hd, List.isPrefixOf_iff_prefix]
   exact List.prefix_append _ _
 have := Lib.index_hit hno (by simp) ho
 rw [cutS, this, if_neg (by omega), Int.toNat_natCast]
 have e1 : (x ++ ((c :: q) ++ z)).take x.length = x := by simp
 have e2 : (x ++ ((c :: q) ++ z)).drop (x.length + (c :: q).length) = z := by
   rw [← List.drop_drop, hd]; simp
 rw [e1, e2]
def hdL (A AN B BN : Int) : List UInt8 := [64, 64, 32, 45] ++ (cntT A AN ++ ([32, 43] ++ (cntT B BN ++ [32, 64, 64])))
theorem uHd_eq (A AN B BN : Int) : uHd A AN B BN = hdL A AN B BN ++ [10] := by simp [uHd, hdL]
theorem hdU_hdL {A AN B BN : Int} (h1 : 0 ≤ A ∧ A ≤ 2147483647) (h2 : 0 ≤ AN ∧ AN ≤ 2147483647) (h3 : 0 ≤ B ∧ B ≤ 2147483647) (h4 : 0 ≤ BN ∧ BN ≤ 2147483647) : hdU (hdL A AN B BN) = some (A, AN, B, BN) := by
 have t4 : (hdL A AN B BN).take 4 = [64, 64, 32, 45] := rfl
 have d4 : (hdL A AN B BN).drop 4 = cntT A AN ++ ([32, 43] ++ (cntT B BN ++ [32, 64, 64])) := rfl
 have c1 := cutS_mid (c := 32) (q := [43]) (cntT A AN) (cntT B BN ++ [32, 64, 64]) (not_mem_low (by decide) (cntT_mem h1.1 h2.1))
 have c2 := cutS_mid (c := 32) (q := [64, 64]) (cntT B BN) [] (not_mem_low (by decide) (cntT_mem h3.1 h4.1))
 rw [List.append_nil] at c2
 unfold hdU pcsU
 rw [if_pos t4, d4, c1]
 dsimp only
 rw [c2]
 dsimp only
 rw [if_pos (.inl rfl)]
 dsimp only
 rw [cntS_cntT h1 h2, cntS_cntT h3 h4]
 rfl
theorem hdL_ln {A AN B BN : Int} (h1 : 0 ≤ A) (h2 : 0 ≤ AN) (h3 : 0 ≤ B) (h4 : 0 ≤ BN) : 10 ∉ hdL A AN B BN := by
 have a := not_mem_low (k := 10) (by decide) (cntT_mem h1 h2)
 have b := not_mem_low (k := 10) (by decide) (cntT_mem h3 h4)
 simp only [hdL, List.mem_append, not_or]
 exact ⟨by decide, a, by decide, b, by decide⟩
def mLs (m : Mk) : List (List UInt8) := if (bareS m.2).2 = true then [UInt8.ofNat m.1.toNat :: m.2] else [UInt8.ofNat m.1.toNat :: (m.2 ++ [10]), markS]
def hLs (h : Hk) : List (List UInt8) := uHd h.1.1 h.1.2.1 h.1.2.2.1 h.1.2.2.2 :: h.2.flatMap mLs
theorem mark_ln : isLn markS := ⟨markS.dropLast, rfl, by decide⟩
theorem lineQ_ne {t : List UInt8} (h : (lineQ t).1 = true) : ¬ t = [] ∧ 10 ∉ t.dropLast := by
 unfold lineQ at h
 split at h
 · cases h
 · rename_i h1
   simpa [not_or] using h1
theorem bareB_split {t : List UInt8} (h : (bareS t).2 = true) : ∃ r, t = r ++ [10] := by
 unfold bareS at h
 split at h
 · rename_i hl
   obtain ⟨ys, e⟩ := List.getLast?_eq_some_iff.1 hl
   exact ⟨ys, e⟩
 · cases h
theorem bare_none {t : List UInt8} (h : (lineQ t).1 = true) (hb : (bareS t).2 = false) : 10 ∉ t := by
 obtain ⟨h1, h2⟩ := lineQ_ne h
 unfold bareS at hb
 split at hb
 · cases hb
 · rename_i hl
   intro hm
   have e := List.dropLast_concat_getLast h1
   rw [← e, List.mem_append, List.mem_singleton] at hm
   rcases hm with hm | hm
   · exact h2 hm
   · apply hl
     rw [List.getLast?_eq_some_getLast h1, ← hm]
theorem feed_none {r : List UInt8} (h : (lineQ (r ++ [10])).1 = true) : 10 ∉ r := by
 have := (lineQ_ne h).2
 simpa using this
theorem mLs_ln {m : Mk} (hs : m.1 = 32 ∨ m.1 = 45 ∨ m.1 = 43) (h : (lineQ m.2).1 = true) : ∀ x ∈ mLs m, isLn x := by
 obtain ⟨sg, t⟩ := m
 dsimp only at hs h
 have hc : UInt8.ofNat sg.toNat ≠ 10 := by rcases hs with rfl | rfl | rfl <;> decide
 intro x hx
 unfold mLs at hx
 dsimp only at hx
 split at hx
 · rename_i hb
   obtain ⟨r, rfl⟩ := bareB_split hb
   rw [List.mem_singleton] at hx
   subst hx
   refine ⟨UInt8.ofNat sg.toNat :: r, rfl, ?_⟩
   rw [List.mem_cons, not_or]
   exact ⟨fun e => hc e.symm, feed_none h⟩
 · rename_i hb
   rw [List.mem_cons, List.mem_singleton] at hx
   rcases hx with rfl | rfl
   · refine ⟨UInt8.ofNat sg.toNat :: t, rfl, ?_⟩
     rw [List.mem_cons, not_or]
     exact ⟨fun e => hc e.symm, bare_none h (by simpa using hb)⟩
   · exact mark_ln
theorem lnU_back {m : Mk} {o f : Int} (hs : m.1 = 32 ∨ m.1 = 45 ∨ m.1 = 43) (hq : (lineQ m.2).1 = true) (ho : isO m = true → 1 ≤ o) (hf : isN m = true → 1 ≤ f) (hl : (bareS m.2).2 = false → (isO m = true → o = 1) ∧ (isN m = true → f = 1))
   (pre post : List (List UInt8)) (hp : ∀ x r, post = x :: r → x ≠ markS) : lnU (pre ++ (mLs m ++ post)) o f pre.length = .ok ((m, (if isO m = true then o - 1 else o), (if isN m = true then f - 1 else f)), pre.length + (mLs m).length) := by
 obtain ⟨sg, t⟩ := m
 dsimp only at hs hq hl
 have hpk : ∀ (y : List UInt8), ¬ (pre.length + 1 < (pre ++ (y :: post)).length ∧ (pre ++ (y :: post)).getD (pre.length + 1) [] = markS) := by
   rintro y ⟨h1, h2⟩
   cases post with
   | nil => simp at h1
   | cons x r =>
     have : (pre ++ (y :: x :: r)).getD (pre.length + 1) [] = x := by
       have := getD_mid (pre ++ [y]) x r
       rw [List.length_append, List.length_singleton, List.append_assoc, List.singleton_append] at this
       exact this
     rw [this] at h2
     exact hp x r rfl h2
 have hmk : ∀ (y : List UInt8), pre.length + 1 < (pre ++ (y :: markS :: post)).length ∧ (pre ++ (y :: markS :: post)).getD (pre.length + 1) [] = markS := by
   intro y
   refine ⟨by simp, ?_⟩
   have := getD_mid (pre ++ [y]) markS post
   rw [List.length_append, List.length_singleton, List.append_assoc, List.singleton_append] at this
   exact this
 have sgn : ∀ w : List UInt8, (isO (32, w) = true ∧ isN (32, w) = true) ∧ (isO (45, w) = true ∧ isN (45, w) = false) ∧ isO (43, w) = false ∧ isN (43, w) = true := fun w => by simp [isO, isN]
 unfold mLs
 dsimp only
 cases hb : (bareS t).2 with
 | true =>
   obtain ⟨r, rfl⟩ := bareB_split hb
   rw [if_pos rfl]
   have hx := nextL_mid pre (UInt8.ofNat sg.toNat :: r) post
   unfold lnU
   rw [show pre ++ ([UInt8.ofNat sg.toNat :: (r ++ [10])] ++ post) = pre ++ ((UInt8.ofNat sg.toNat :: r) ++ [10]) :: post from rfl, hx]
   dsimp only
   obtain ⟨⟨s1, s2⟩, ⟨s3, s4⟩, s5, s6⟩ := sgn (r ++ [10])
   rcases hs with rfl | rfl | rfl
   · have := ho s1; have := hf s2
     rw [if_pos (show UInt8.ofNat (32 : Int).toNat = 32 from rfl), if_neg (by omega), if_neg (fun h => hpk _ h.2), s1, s2]; rfl
   · have := ho s3
     rw [if_neg (show ¬ UInt8.ofNat (45 : Int).toNat = 32 by decide), if_pos (show UInt8.ofNat (45 : Int).toNat = 45 from rfl), if_neg (by omega), if_neg (fun h => hpk _ h.2), s3, s4]; rfl
   · have := hf s6
     rw [if_neg (show ¬ UInt8.ofNat (43 : Int).toNat = 32 by decide), if_neg (show ¬ UInt8.ofNat (43 : Int).toNat = 45 by decide), if_pos (show UInt8.ofNat (43 : Int).toNat = 43 from rfl), if_neg (by omega), if_neg (fun h => hpk _ h.2), s5, s6]; rfl
 | false =>
   rw [if_neg (by decide)]
   obtain ⟨hO, hN⟩ := hl hb
   have hne := (lineQ_ne hq).1
   have hx := nextL_mid pre (UInt8.ofNat sg.toNat :: t) (markS :: post)
   unfold lnU
   rw [show pre ++ ([UInt8.ofNat sg.toNat :: (t ++ [10]), markS] ++ post) = pre ++ ((UInt8.ofNat sg.toNat :: t) ++ [10]) :: (markS :: post) from rfl, hx]
   dsimp only
   obtain ⟨⟨s1, s2⟩, ⟨s3, s4⟩, s5, s6⟩ := sgn t
   rcases hs with rfl | rfl | rfl
   · have := hO s1; have := hN s2
     rw [if_pos (show UInt8.ofNat (32 : Int).toNat = 32 from rfl), if_neg (by omega), if_pos ⟨⟨⟨by omega, by omega⟩, hne⟩, hmk _⟩, s1, s2]; rfl
   · have := hO s3
     rw [if_neg (show ¬ UInt8.ofNat (45 : Int).toNat = 32 by decide), if_pos (show UInt8.ofNat (45 : Int).toNat = 45 from rfl), if_neg (by omega), if_pos ⟨⟨by omega, hne⟩, hmk _⟩, s3, s4]; rfl
   · have := hN s6
     rw [if_neg (show ¬ UInt8.ofNat (43 : Int).toNat = 32 by decide), if_neg (show ¬ UInt8.ofNat (43 : Int).toNat = 45 by decide), if_pos (show UInt8.ofNat (43 : Int).toNat = 43 from rfl), if_neg (by omega), if_pos ⟨⟨by omega, hne⟩, hmk _⟩, s5, s6]; rfl
theorem mLs_head (m : Mk) (hs : m.1 = 32 ∨ m.1 = 45 ∨ m.1 = 43) : ∃ c x r, mLs m = (c :: x) :: r ∧ c ≠ 92 := by
 unfold mLs
 split
 · exact ⟨_, _, _, rfl, by rcases hs with h | h | h <;> rw [h] <;> decide⟩
 · exact ⟨_, _, _, rfl, by rcases hs with h | h | h <;> rw [h] <;> decide⟩
theorem any_filter {f : Mk → Bool} {l : List Mk} (h : l.any f = false) : (l.filter f).length = 0 := by
 rw [List.length_eq_zero_iff, List.filter_eq_nil_iff]
 intro m hm
 have := List.any_eq_false.1 h m hm
 simpa using this
theorem lnsU_back : ∀ (l : List Mk) (n : Nat) (o f : Int) (ms : List Mk) (pre post : List (List UInt8)), fieldsT l = true → ((l.filter isO).length : Int) = o → ((l.filter isN).length : Int) = f → o + f ≤ n → (∀ x r, post = x :: r → x ≠ markS) →
   lnsU (pre ++ (l.flatMap mLs ++ post)) n o f pre.length ms = .ok (ms ++ l, pre.length + (l.flatMap mLs).length)
 | [], n, o, f, ms, pre, post, hf, ho, hn, hle, hp => by
   simp only [List.filter_nil, List.length_nil] at ho hn
   cases n with
   | zero => simp [lnsU]
   | succ n => rw [lnsU, if_pos ⟨by omega, by omega⟩]; simp
 | m :: l, n, o, f, ms, pre, post, hf, ho, hn, hle, hp => by
   have hsg := sign_ok hf m (by simp)
   rw [fieldsT, Bool.and_eq_true, okAt, Bool.and_eq_true, Bool.and_eq_true] at hf
   obtain ⟨⟨⟨q1, q2⟩, q3⟩, hf2⟩ := hf
   rw [List.filter_cons] at ho hn
   have ho2 : ((l.filter isO).length : Int) = if isO m = true then o - 1 else o := by
     split at ho
     · rename_i h; rw [if_pos h]; rw [List.length_cons] at ho; omega
     · rename_i h; rw [if_neg h]; exact ho
   have hn2 : ((l.filter isN).length : Int) = if isN m = true then f - 1 else f := by
     split at hn
     · rename_i h; rw [if_pos h]; rw [List.length_cons] at hn; omega
     · rename_i h; rw [if_neg h]; exact hn
   have ho1 : isO m = true → 1 ≤ o := fun h => by rw [if_pos h] at ho2; omega
   have hn1 : isN m = true → 1 ≤ f := fun h => by rw [if_pos h] at hn2; omega
   have hlast : (bareS m.2).2 = false → (isO m = true → o = 1) ∧ (isN m = true → f = 1) := by
     intro hb
     have hq : (lineQ m.2).2 = false := by
       unfold lineQ
       split
       · rfl
       · rw [decide_eq_false_iff_not]
         intro e
         rw [bareS, if_pos e] at hb
         cases hb
     rw [hq, Bool.false_or, Bool.not_eq_true', Bool.or_eq_false_iff] at q3
     refine ⟨fun h => ?_, fun h => ?_⟩
     · have := any_filter (f := isO) (l := l) (by simpa [h] using q3.1)
       rw [if_pos h] at ho2; omega
     · have := any_filter (f := isN) (l := l) (by simpa [h] using q3.2)
       rw [if_pos h] at hn2; omega
   have hpost : ∀ x r, l.flatMap mLs ++ post = x :: r → x ≠ markS := by
     intro x r e
     cases l with
     | nil => exact hp x r e
     | cons m2 l =>
       obtain ⟨c, y, z, e2, hc⟩ := mLs_head m2 (sign_ok hf2 m2 (by simp))
       rw [List.flatMap_cons, e2, List.cons_append, List.cons_append] at e
       rw [← (List.cons.inj e).1]
       intro h
       exact hc (List.cons.inj h).1
   have hb := lnU_back hsg q1 ho1 hn1 hlast pre (l.flatMap mLs ++ post) hpost
   have hpos : 1 ≤ o + f := by
     rw [Bool.or_eq_true] at q2
     rcases q2 with h | h
     · have := ho1 h; have : 0 ≤ f := by rw [← hn]; omega
       omega
     · have := hn1 h; have : 0 ≤ o := by rw [← ho]; omega
       omega
   obtain ⟨n', rfl⟩ : ∃ k, n = k + 1 := ⟨n - 1, by omega⟩
   have e1 : pre ++ ((m :: l).flatMap mLs ++ post) = pre ++ (mLs m ++ (l.flatMap mLs ++ post)) := by rw [List.flatMap_cons, List.append_assoc]
   rw [lnsU, if_neg (by omega), e1, hb]
   dsimp only
   have ih := lnsU_back l n' _ _ (ms ++ [m]) (pre ++ mLs m) post hf2 ho2 hn2 (by
     have h1 : (if isO m = true then o - 1 else o) + (if isN m = true then f - 1 else f) < o + f := by
       rw [Bool.or_eq_true] at q2
       rcases q2 with h | h
       · rw [if_pos h]; split <;> omega
       · rw [if_pos h]; split <;> omega
     omega) hp
   rw [List.length_append, List.append_assoc] at ih
   rw [ih, List.flatMap_cons, List.length_append]
   simp [Nat.add_assoc]
theorem fields_line : ∀ {l : List Mk}, fieldsT l = true → ∀ m ∈ l, (lineQ m.2).1 = true
 | [], _, m, hm => by cases hm
 | x :: l, h, m, hm => by
   rw [fieldsT, Bool.and_eq_true, okAt, Bool.and_eq_true, Bool.and_eq_true] at h
   rcases List.mem_cons.1 hm with rfl | hm
   · exact h.1.1.1
   · exact fields_line h.2 m hm
theorem chkU_all {h : Hk} (hc : chkH h = 0) : ((0 ≤ h.1.1 ∧ h.1.1 ≤ 2147483647) ∧ (0 ≤ h.1.2.1 ∧ h.1.2.1 ≤ 2147483647) ∧ (0 ≤ h.1.2.2.1 ∧ h.1.2.2.1 ≤ 2147483647) ∧ 0 ≤ h.1.2.2.2 ∧ h.1.2.2.2 ≤ 2147483647) ∧ (¬ (h.1.1 = 0 ∧ 0 < h.1.2.1) ∧ ¬ (h.1.2.2.1 = 0 ∧ 0 < h.1.2.2.2)) ∧
   fieldsT h.2 = true ∧ (h.1.2.1 = (h.2.filter isO).length ∧ h.1.2.2.2 = (h.2.filter isN).length) ∧ h.2.any chgM = true := by
 obtain ⟨⟨A, AN, B, BN⟩, l⟩ := h
 have ho := chk_ok (show hkChk A AN B BN l = 0 from hc)
 unfold chkH hkChk at hc
 dsimp only at hc ⊢
 split at hc
 · cases hc
 · rename_i h1
   simp only [not_or] at h1
   split at hc
   · cases hc
   · split at hc
     · cases hc
     · rename_i h3
       simp only [not_or, Classical.not_not] at h3
       rw [pick_O, pick_N] at h3
       split at hc
       · cases hc
       · rename_i h4
         exact ⟨⟨ho.1, ho.2.1, ho.2.2.1, ho.2.2.2.1⟩, ⟨h1.1.2, h1.2⟩, ho.2.2.2.2, h3, by simpa using h4⟩
theorem backU : HkBack hkU [64, 64] [45, 45, 45, 32] (fun h => chkH h = 0) hLs where
 head := fun {h} hc => ⟨_, _, rfl, rfl⟩
 ln := by
   intro h hc x hx
   obtain ⟨⟨b1, b2, b3, b4⟩, _, hf, _, _⟩ := chkU_all hc
   rw [hLs, List.mem_cons] at hx
   rcases hx with rfl | hx
   · exact ⟨_, uHd_eq _ _ _ _, hdL_ln b1.1 b2.1 b3.1 b4.1⟩
   · obtain ⟨m, hm, hx⟩ := List.mem_flatMap.1 hx
     exact mLs_ln (sign_ok hf m hm) (fields_line hf m hm) x hx
 back := by
   intro h hc pre post ahead ha hpost
   obtain ⟨⟨b1, b2, b3, b4⟩, ⟨c1, c2⟩, hf, ⟨d1, d2⟩, hch⟩ := chkU_all hc
   obtain ⟨⟨A, AN, B, BN⟩, l⟩ := h
   dsimp only at b1 b2 b3 b4 c1 c2 hf d1 d2 hch
   have hp : ∀ x r, post = x :: r → x ≠ markS := by
     intro x r e hx
     subst hx
     rcases hpost with h | ⟨y, z, e2, h⟩
     · rw [h] at e; cases e
     · rw [e] at e2
       rw [← (List.cons.inj e2).1] at h
       rcases h with h | h
       · revert h; decide
       · revert h; decide
   have hx := nextL_mid pre (hdL A AN B BN) (l.flatMap mLs ++ post)
   have e1 : pre ++ (hLs ((A, AN, B, BN), l) ++ post) = pre ++ (hdL A AN B BN ++ [10]) :: (l.flatMap mLs ++ post) := by rw [hLs, uHd_eq]; rfl
   have e2 : pre ++ (hdL A AN B BN ++ [10]) :: (l.flatMap mLs ++ post) = (pre ++ [hdL A AN B BN ++ [10]]) ++ (l.flatMap mLs ++ post) := by simp
   have hb := lnsU_back l (AN + BN).toNat AN BN [] (pre ++ [hdL A AN B BN ++ [10]]) post hf d1.symm d2.symm (by omega) hp
   rw [← e2, List.length_append, List.length_singleton, List.nil_append] at hb
   unfold hkU
   rw [e1, hx]
   dsimp only
   rw [hdU_hdL b1 b2 b3 b4]
   dsimp only
   rw [if_neg (by omega), if_neg (by omega), hb]
   dsimp only
   rw [if_pos hch, hLs, List.length_cons]
   congr 2
   dsimp only
   omega
 neq := by
   intro x h e
   have h2 : (x.take 4).take 2 = x.take 2 := by rw [List.take_take]; rfl
   rw [h] at h2
   have e' : x.take 2 = [64, 64] := e
   rw [e'] at h2
   revert h2; decide
theorem mLs_flat (m : Mk) : (mLs m).flatten = uLn m := by
 unfold mLs uLn lineT
 split <;> simp [markS, markT]
theorem hLs_flat (h : Hk) : (hLs h).flatten = uHk h := by
 rw [hLs, List.flatten_cons, uHk]
 congr 1
 induction h.2 with
 | nil => rfl
 | cons m l ih => rw [List.flatMap_cons, List.flatten_append, mLs_flat, ih, List.flatMap_cons]
def uAll (ps : List Pt) : List UInt8 := ps.flatMap fun p => uPt p.1.1 p.1.2 p.2
theorem uAll_flat : ∀ {ps : List Pt}, (∀ p ∈ ps, ¬ p.2 = []) → (ps.flatMap (ptL [45, 45, 45, 32] [43, 43, 43, 32] hLs)).flatten = uAll ps
 | [], _ => rfl
 | p :: ps, h => by
   have ih := uAll_flat (ps := ps) fun q hq => h q (by simp [hq])
   have hp : (p.2.flatMap hLs).flatten = p.2.flatMap uHk := by
     induction p.2 with
     | nil => rfl
     | cons x l ih => rw [List.flatMap_cons, List.flatten_append, hLs_flat, ih, List.flatMap_cons]
   rw [List.flatMap_cons, List.flatten_append, ih, uAll, uAll, List.flatMap_cons, uPt, if_neg (h p (by simp))]
   congr 1
   rw [ptL, List.flatten_cons, List.flatten_cons, hp, uTop]
   simp
theorem againU {s : List UInt8} {ps : List Pt} (h : parG hkU [64, 64] [45, 45, 45, 32] [43, 43, 43, 32] s = .ok ps) (hlen : (uAll ps).length ≤ 1048576) : parG hkU [64, 64] [45, 45, 45, 32] [43, 43, 43, 32] (uAll ps) = .ok ps := by
 obtain ⟨h1, h2⟩ := parG_ok hkU_ok h
 have hne : ∀ p ∈ ps, ¬ p.2 = [] := fun p hp => (h2 p hp).2.2.1
 have hQ : ∀ p ∈ ps, PtQ (fun h => chkH h = 0) p := fun p hp => by
   obtain ⟨a, b, c, d, e⟩ := h2 p hp
   exact ⟨a, b, c, d, fun h hh => (e h hh).1⟩
 have := again (p2 := [43, 43, 43, 32]) backU rfl rfl (by decide) (by decide) hQ h1 (by rw [uAll_flat hne]; exact hlen)
 rw [uAll_flat hne] at this
 exact this
end Go.Proofs.YtlghobefhmpfkaaGreatDoor
namespace Go.Proofs
open Go.Shelf
def Tryz.lays119_ren : Go.Shelf.Ren := ⟨fun | 119 => 195 | n => n, fun | 21 => 21 | 4 => 4 | n => n, fun | n => n⟩
theorem Tryz.lays119 : Go.Proofs.Lays.n119 Tryz.prog Tryz.lays119_ren := {
 mixed := by kernel_rfl
 f119 := Tryz.func195.trans (congrArg some (by kernel_rfl))
 t4 := Tryz.underlying4
 a4 := Tryz.isAgg4
 z4 := Tryz.sizeOf4
 v4 := Tryz.zeroValue4
 t21 := Tryz.underlying21
 a21 := Tryz.isAgg21
 z21 := Tryz.sizeOf21
 v21 := Tryz.zeroValue21 }
theorem Tryz.utf8_ValidRune (r : Int) (w : World) :
 Calls Tryz.prog 195 #[.int .i32 r] w fun e w' => e = .returned (.bool (Lib.validRune r)) ∧ w' = w := Any.utf8_ValidRune Tryz.lays119 r w
end Go.Proofs
namespace Go.Proofs.YtlghobefhmpfkaaGreatDoor
open Go Go.Ev
set_option maxRecDepth 100000
variable {G : World → Prop}
def CValM : Contract := pureC fun args => match args with
 | [.d (.v (.int .i32 r))] => some (True, .d (.v (.bool (Lib.validRune r))))
 | _ => none
theorem sValM : Sound G Tryz.prog 195 CValM := by
 refine sound_calls ⟨Tryz.f195, by kernel_rfl, by kernel_rfl, by kernel_rfl⟩ fun args p x h hp => ?_
 split at h <;> simp only [Option.some.injEq, Prod.mk.injEq, reduceCtorEq] at h
 obtain ⟨rfl, rfl⟩ := h
 refine ⟨_, fun m n c => ⟨rfl, rfl⟩, fun m c vs hv w => ?_⟩
 match vs, hv with
 | [v], hv =>
   simp only [CnL, and_true] at hv
   rw [of_v hv]
   exact Tryz.utf8_ValidRune _ w
 | [], hv => simp [CnL] at hv
 | _ :: _ :: _, hv => simp [CnL] at hv
def idxM (r : Int) : Int := if r = 32 then 0 else if r = 45 then 1 else if r = 43 then 2 else -1
def CIdxM : Contract := pureC fun args => match args with
 | [.d (.v (.string p)), .d (.v (.int .i32 r))] => some (p.data.toList = [32, 45, 43] ∧ 0 ≤ r ∧ r ≤ 1114111, .d (.v (.int .i64 (idxM r))))
 | _ => none
theorem idxM_low (r : Int) (h : 0 ≤ r ∧ r < 128) : Lib.indexByte [32, 45, 43] (r.toNat.toUInt8) = idxM r := by
 have : ∀ n : Fin 128, Lib.indexByte [32, 45, 43] (n.val.toUInt8) = idxM (n.val : Int) := by decide +kernel
 have h2 := this ⟨r.toNat, by omega⟩
 simpa [Int.toNat_of_nonneg h.1] using h2
theorem wrap8M (r : Int) (h : 0 ≤ r ∧ r < 256) : IntKind.u8.wrap r = r := by
 simp only [IntKind.wrap, IntKind.bits, IntKind.signed]
 simp
 omega
theorem encM (r : Int) (h : 128 ≤ r) : ∃ l : List UInt8, Utf8.encode r = ⟨l.toArray⟩ ∧ 2 ≤ l.length ∧ l.length ≤ 4 ∧ 128 ≤ (l.getD (l.length - 1) 0).toNat := by
 have ho : ∀ n : Nat, 128 ≤ (UInt8.ofNat (128 + n % 64)).toNat := fun n => by simp [UInt8.toNat_ofNat']; omega
 have hc : 128 ≤ (if Utf8.valid r then r.toNat else Utf8.runeError) := by
   split
   · omega
   · decide
 unfold Utf8.encode
 generalize (if Utf8.valid r then r.toNat else Utf8.runeError) = c at hc
 simp only
 rw [if_neg (by omega)]
 split
 · exact ⟨[_, _], rfl, by simp, by simp, ho _⟩
 · split
   · exact ⟨[_, _, _], rfl, by simp, by simp, ho _⟩
   · exact ⟨[_, _, _, _], rfl, by simp, by simp, ho _⟩
theorem decM0 : Utf8.decode ⟨#[32, 45, 43]⟩ 0 = (32, 1) := by decide
theorem decM1 : Utf8.decode ⟨#[32, 45, 43]⟩ 1 = (45, 1) := by decide
theorem decM2 : Utf8.decode ⟨#[32, 45, 43]⟩ 2 = (43, 1) := by decide
set_option maxHeartbeats 2000000 in
theorem sIdxM : Sound G Tryz.prog 156 CIdxM := by
 refine sd156 (T := tabT [(116, C163), (195, CValM)]) (tab_cons s116 (tab_cons sValM tab_nil)) (pureC_lawful _) (pure_hX fun args p x K h hp hk => ?_)
 split at h <;> simp only [Option.some.injEq, Prod.mk.injEq, reduceCtorEq] at h
 obtain ⟨rfl, rfl⟩ := h
 refine ⟨Nat.le_of_ble_eq_true rfl, ?_⟩
 rename_i p r
 obtain ⟨p, rfl⟩ := ex_str p
 simp only [sem_str] at hp
 obtain ⟨rfl, h0, h1⟩ := hp
 have e1 : ((3 : Nat) : Int) = 3 := rfl
 by_cases hl : r < 128
 · have hi := idxM_low r ⟨h0, hl⟩
   have hw := wrap8M r ⟨h0, by omega⟩
   simp -dsimp -implicitDefEqProofs only [S156, R156, C163, CValM, h0, hl, hi, hw, ↓Ev.xStp_eq, ↓Ev.P, Ev.Q, Bool.cond_true, Bool.cond_false, eq_self, forall_eq_or_imp, implies_true, forall_const, forall_eq, ↓reduceIte, reduceIte, Nat.reduceEqDiff, Nat.reduceAdd, reduceCtorEq, Nat.reduceSub, Int.reduceToNat, Int.reduceLE, Int.reduceLT, Int.reduceNeg, Nat.reduceBEq, Nat.reduceMul, Nat.reduceLeDiff, Nat.reduceMod, UInt8.reduceOfNat, Nat.reduceLT, Int.reduceEq, Int.reduceAdd, Int.reduceSub, Int.reduceMul]
   exact hk
 · have hi : idxM r = -1 := by unfold idxM; rw [if_neg (by omega), if_neg (by omega), if_neg (by omega)]
   rw [hi] at hk
   by_cases he : r = 65533
   · subst he
     simp -dsimp -implicitDefEqProofs only [S156, R156, C163, CValM, ↓Ev.xStp_eq, ↓Ev.P, Ev.Q, Bool.cond_true, Bool.cond_false, eq_self, forall_eq_or_imp, implies_true, forall_const, forall_eq, ↓reduceIte, reduceIte, Nat.reduceEqDiff, Nat.reduceAdd, reduceCtorEq, Nat.reduceSub, Int.reduceToNat, Int.reduceLE, Int.reduceLT, Int.reduceNeg, Nat.reduceBEq, Nat.reduceMul, Nat.reduceLeDiff, Nat.reduceMod, UInt8.reduceOfNat, Nat.reduceLT, Int.reduceEq, Int.reduceAdd, Int.reduceSub, Int.reduceMul]
     refine xLoop_intro (fun k st => ∃ i : Nat, i ≤ 3 ∧ k = 3 - i ∧ st = ⟨[(175, .own 0)], 1, [(0, .iter ⟨#[32, 45, 43]⟩ i)]⟩) 3 [0] ?_ ?_ ?_
     · simp -dsimp -implicitDefEqProofs only [↓Ev.xStp_eq, ↓Ev.P, Ev.Q, Bool.cond_true, Bool.cond_false, eq_self, forall_eq_or_imp, implies_true, forall_const, forall_eq, ↓reduceIte, reduceIte, Nat.reduceEqDiff, Nat.reduceAdd, reduceCtorEq, Nat.reduceSub, Int.reduceToNat, Int.reduceLE, Int.reduceLT, Int.reduceNeg, Nat.reduceBEq, Nat.reduceMul, Nat.reduceLeDiff, Nat.reduceMod, UInt8.reduceOfNat, Nat.reduceLT, Int.reduceEq, Int.reduceAdd, Int.reduceSub, Int.reduceMul]
     · simp -dsimp -implicitDefEqProofs only [↓Ev.xStp_eq, ↓Ev.P, Ev.Q, Bool.cond_true, Bool.cond_false, eq_self, forall_eq_or_imp, implies_true, forall_const, forall_eq, ↓reduceIte, reduceIte, Nat.reduceEqDiff, Nat.reduceAdd, reduceCtorEq, Nat.reduceSub, Int.reduceToNat, Int.reduceLE, Int.reduceLT, Int.reduceNeg, Nat.reduceBEq, Nat.reduceMul, Nat.reduceLeDiff, Nat.reduceMod, UInt8.reduceOfNat, Nat.reduceLT, Int.reduceEq, Int.reduceAdd, Int.reduceSub, Int.reduceMul]
       exact ⟨0, by omega, by omega, rfl⟩
     · rintro k st ⟨i, hi, hk2, rfl⟩
       have hc : i = 0 ∨ i = 1 ∨ i = 2 ∨ i = 3 := by omega
       rcases hc with rfl | rfl | rfl | rfl
       · simp -dsimp -implicitDefEqProofs only [decM0, ↓Ev.xStp_eq, ↓Ev.P, Ev.Q, Bool.cond_true, Bool.cond_false, eq_self, forall_eq_or_imp, implies_true, forall_const, forall_eq, ↓reduceIte, reduceIte, Nat.reduceEqDiff, Nat.reduceAdd, reduceCtorEq, Nat.reduceSub, Int.reduceToNat, Int.reduceLE, Int.reduceLT, Int.reduceNeg, Nat.reduceBEq, Nat.reduceMul, Nat.reduceLeDiff, Nat.reduceMod, UInt8.reduceOfNat, Nat.reduceLT, Int.reduceEq, Int.reduceAdd, Int.reduceSub, Int.reduceMul]
         refine ⟨fun h => by omega, fun _ => ?_⟩
         refine xAgain_intro 2 [0] (by omega) (by simp -dsimp -implicitDefEqProofs only [↓Ev.xStp_eq, ↓Ev.P, Ev.Q, Bool.cond_true, Bool.cond_false, eq_self, forall_eq_or_imp, implies_true, forall_const, forall_eq, ↓reduceIte, reduceIte, Nat.reduceEqDiff, Nat.reduceAdd, reduceCtorEq, Nat.reduceSub, Int.reduceToNat, Int.reduceLE, Int.reduceLT, Int.reduceNeg, Nat.reduceBEq, Nat.reduceMul, Nat.reduceLeDiff, Nat.reduceMod, UInt8.reduceOfNat, Nat.reduceLT, Int.reduceEq, Int.reduceAdd, Int.reduceSub, Int.reduceMul]) ⟨1, by omega, rfl, ?_⟩
         simp -dsimp -implicitDefEqProofs only [↓Ev.xStp_eq, ↓Ev.P, Ev.Q, Bool.cond_true, Bool.cond_false, eq_self, forall_eq_or_imp, implies_true, forall_const, forall_eq, ↓reduceIte, reduceIte, Nat.reduceEqDiff, Nat.reduceAdd, reduceCtorEq, Nat.reduceSub, Int.reduceToNat, Int.reduceLE, Int.reduceLT, Int.reduceNeg, Nat.reduceBEq, Nat.reduceMul, Nat.reduceLeDiff, Nat.reduceMod, UInt8.reduceOfNat, Nat.reduceLT, Int.reduceEq, Int.reduceAdd, Int.reduceSub, Int.reduceMul]
       · simp -dsimp -implicitDefEqProofs only [decM1, ↓Ev.xStp_eq, ↓Ev.P, Ev.Q, Bool.cond_true, Bool.cond_false, eq_self, forall_eq_or_imp, implies_true, forall_const, forall_eq, ↓reduceIte, reduceIte, Nat.reduceEqDiff, Nat.reduceAdd, reduceCtorEq, Nat.reduceSub, Int.reduceToNat, Int.reduceLE, Int.reduceLT, Int.reduceNeg, Nat.reduceBEq, Nat.reduceMul, Nat.reduceLeDiff, Nat.reduceMod, UInt8.reduceOfNat, Nat.reduceLT, Int.reduceEq, Int.reduceAdd, Int.reduceSub, Int.reduceMul]
         refine ⟨fun h => by omega, fun _ => ?_⟩
         refine xAgain_intro 1 [0] (by omega) (by simp -dsimp -implicitDefEqProofs only [↓Ev.xStp_eq, ↓Ev.P, Ev.Q, Bool.cond_true, Bool.cond_false, eq_self, forall_eq_or_imp, implies_true, forall_const, forall_eq, ↓reduceIte, reduceIte, Nat.reduceEqDiff, Nat.reduceAdd, reduceCtorEq, Nat.reduceSub, Int.reduceToNat, Int.reduceLE, Int.reduceLT, Int.reduceNeg, Nat.reduceBEq, Nat.reduceMul, Nat.reduceLeDiff, Nat.reduceMod, UInt8.reduceOfNat, Nat.reduceLT, Int.reduceEq, Int.reduceAdd, Int.reduceSub, Int.reduceMul]) ⟨2, by omega, rfl, ?_⟩
         simp -dsimp -implicitDefEqProofs only [↓Ev.xStp_eq, ↓Ev.P, Ev.Q, Bool.cond_true, Bool.cond_false, eq_self, forall_eq_or_imp, implies_true, forall_const, forall_eq, ↓reduceIte, reduceIte, Nat.reduceEqDiff, Nat.reduceAdd, reduceCtorEq, Nat.reduceSub, Int.reduceToNat, Int.reduceLE, Int.reduceLT, Int.reduceNeg, Nat.reduceBEq, Nat.reduceMul, Nat.reduceLeDiff, Nat.reduceMod, UInt8.reduceOfNat, Nat.reduceLT, Int.reduceEq, Int.reduceAdd, Int.reduceSub, Int.reduceMul]
       · simp -dsimp -implicitDefEqProofs only [decM2, ↓Ev.xStp_eq, ↓Ev.P, Ev.Q, Bool.cond_true, Bool.cond_false, eq_self, forall_eq_or_imp, implies_true, forall_const, forall_eq, ↓reduceIte, reduceIte, Nat.reduceEqDiff, Nat.reduceAdd, reduceCtorEq, Nat.reduceSub, Int.reduceToNat, Int.reduceLE, Int.reduceLT, Int.reduceNeg, Nat.reduceBEq, Nat.reduceMul, Nat.reduceLeDiff, Nat.reduceMod, UInt8.reduceOfNat, Nat.reduceLT, Int.reduceEq, Int.reduceAdd, Int.reduceSub, Int.reduceMul]
         refine ⟨fun h => by omega, fun _ => ?_⟩
         refine xAgain_intro 0 [0] (by omega) (by simp -dsimp -implicitDefEqProofs only [↓Ev.xStp_eq, ↓Ev.P, Ev.Q, Bool.cond_true, Bool.cond_false, eq_self, forall_eq_or_imp, implies_true, forall_const, forall_eq, ↓reduceIte, reduceIte, Nat.reduceEqDiff, Nat.reduceAdd, reduceCtorEq, Nat.reduceSub, Int.reduceToNat, Int.reduceLE, Int.reduceLT, Int.reduceNeg, Nat.reduceBEq, Nat.reduceMul, Nat.reduceLeDiff, Nat.reduceMod, UInt8.reduceOfNat, Nat.reduceLT, Int.reduceEq, Int.reduceAdd, Int.reduceSub, Int.reduceMul]) ⟨3, by omega, rfl, ?_⟩
         simp -dsimp -implicitDefEqProofs only [↓Ev.xStp_eq, ↓Ev.P, Ev.Q, Bool.cond_true, Bool.cond_false, eq_self, forall_eq_or_imp, implies_true, forall_const, forall_eq, ↓reduceIte, reduceIte, Nat.reduceEqDiff, Nat.reduceAdd, reduceCtorEq, Nat.reduceSub, Int.reduceToNat, Int.reduceLE, Int.reduceLT, Int.reduceNeg, Nat.reduceBEq, Nat.reduceMul, Nat.reduceLeDiff, Nat.reduceMod, UInt8.reduceOfNat, Nat.reduceLT, Int.reduceEq, Int.reduceAdd, Int.reduceSub, Int.reduceMul]
       · simp -dsimp -implicitDefEqProofs only [↓Ev.xStp_eq, ↓Ev.P, Ev.Q, Bool.cond_true, Bool.cond_false, eq_self, forall_eq_or_imp, implies_true, forall_const, forall_eq, ↓reduceIte, reduceIte, Nat.reduceEqDiff, Nat.reduceAdd, reduceCtorEq, Nat.reduceSub, Int.reduceToNat, Int.reduceLE, Int.reduceLT, Int.reduceNeg, Nat.reduceBEq, Nat.reduceMul, Nat.reduceLeDiff, Nat.reduceMod, UInt8.reduceOfNat, Nat.reduceLT, Int.reduceEq, Int.reduceAdd, Int.reduceSub, Int.reduceMul]
         exact hk
   · cases hv : Lib.validRune r with
     | false =>
       simp -dsimp -implicitDefEqProofs only [S156, R156, C163, CValM, h0, hl, he, hv, ↓Ev.xStp_eq, ↓Ev.P, Ev.Q, Bool.cond_true, Bool.cond_false, eq_self, forall_eq_or_imp, implies_true, forall_const, forall_eq, ↓reduceIte, reduceIte, Nat.reduceEqDiff, Nat.reduceAdd, reduceCtorEq, Nat.reduceSub, Int.reduceToNat, Int.reduceLE, Int.reduceLT, Int.reduceNeg, Nat.reduceBEq, Nat.reduceMul, Nat.reduceLeDiff, Nat.reduceMod, UInt8.reduceOfNat, Nat.reduceLT, Int.reduceEq, Int.reduceAdd, Int.reduceSub, Int.reduceMul]
       exact hk
     | true =>
       obtain ⟨q, q1, q2, q3, q4⟩ := encM r (by omega)
       simp -dsimp -implicitDefEqProofs only [S156, R156, C163, CValM, h0, hl, he, hv, q1, ↓Ev.xStp_eq, ↓Ev.P, Ev.Q, Bool.cond_true, Bool.cond_false, eq_self, forall_eq_or_imp, implies_true, forall_const, forall_eq, ↓reduceIte, reduceIte, Nat.reduceEqDiff, Nat.reduceAdd, reduceCtorEq, Nat.reduceSub, Int.reduceToNat, Int.reduceLE, Int.reduceLT, Int.reduceNeg, Nat.reduceBEq, Nat.reduceMul, Nat.reduceLeDiff, Nat.reduceMod, UInt8.reduceOfNat, Nat.reduceLT, Int.reduceEq, Int.reduceAdd, Int.reduceSub, Int.reduceMul]
       refine ⟨by omega, ?_⟩
       refine xLoop_intro (fun k st => k = 0 ∧ st = ⟨[(0, .d (.v (.string ⟨#[32, 45, 43]⟩))), (7, .d (.v (.string ⟨q.toArray⟩))), (8, .d (.v (.int .i64 ((q.length : Int) - 1)))), (9, .d (.v (.int .i64 ((q.length : Int) - 1))))], 0, []⟩) 0 [] ?_ ?_ ?_
       · simp -dsimp -implicitDefEqProofs only [↓Ev.xStp_eq, ↓Ev.P, Ev.Q, Bool.cond_true, Bool.cond_false, eq_self, forall_eq_or_imp, implies_true, forall_const, forall_eq, ↓reduceIte, reduceIte, Nat.reduceEqDiff, Nat.reduceAdd, reduceCtorEq, Nat.reduceSub, Int.reduceToNat, Int.reduceLE, Int.reduceLT, Int.reduceNeg, Nat.reduceBEq, Nat.reduceMul, Nat.reduceLeDiff, Nat.reduceMod, UInt8.reduceOfNat, Nat.reduceLT, Int.reduceEq, Int.reduceAdd, Int.reduceSub, Int.reduceMul]
       · simp -dsimp -implicitDefEqProofs only [↓Ev.xStp_eq, ↓Ev.P, Ev.Q, Bool.cond_true, Bool.cond_false, eq_self, forall_eq_or_imp, implies_true, forall_const, forall_eq, ↓reduceIte, reduceIte, Nat.reduceEqDiff, Nat.reduceAdd, reduceCtorEq, Nat.reduceSub, Int.reduceToNat, Int.reduceLE, Int.reduceLT, Int.reduceNeg, Nat.reduceBEq, Nat.reduceMul, Nat.reduceLeDiff, Nat.reduceMod, UInt8.reduceOfNat, Nat.reduceLT, Int.reduceEq, Int.reduceAdd, Int.reduceSub, Int.reduceMul]
       · rintro k st ⟨rfl, rfl⟩
         have ib0 : ∀ c, Lib.indexByte [] c = -1 := fun _ => rfl
         have b100 : (UInt8.toNat 43) = 43 := rfl
         have b99 : (UInt8.toNat 45) = 45 := rfl
         by_cases h2 : q.length = 2
         · have e2 : ((q.length : Int) - 1) = 1 := by omega
           rw [h2] at q4
           simp only [Nat.add_one_sub_one] at q4
           have hne : ¬ ((UInt8.toNat 45 : Nat) : Int) = ((q.getD 1 0).toNat : Int) := by rw [b99]; omega
           have ib1 : Lib.indexByte [43] (q.getD 1 0) = -1 := by
             have h9 : (43 : UInt8) ≠ q.getD 1 0 := fun e => by rw [← e] at q4; revert q4; decide
             simpa [Lib.indexByte] using h9
           simp -dsimp -implicitDefEqProofs only [e2, e1, hne, ib0, ib1, UInt8.ofNat_toNat, C163, ↓Ev.xStp_eq, ↓Ev.P, Ev.Q, Bool.cond_true, Bool.cond_false, eq_self, forall_eq_or_imp, implies_true, forall_const, forall_eq, ↓reduceIte, reduceIte, Nat.reduceEqDiff, Nat.reduceAdd, reduceCtorEq, Nat.reduceSub, Int.reduceToNat, Int.reduceLE, Int.reduceLT, Int.reduceNeg, Nat.reduceBEq, Nat.reduceMul, Nat.reduceLeDiff, Nat.reduceMod, UInt8.reduceOfNat, Nat.reduceLT, Int.reduceEq, Int.reduceAdd, Int.reduceSub, Int.reduceMul]
           repeat' (first | with_reducible assumption | refine And.intro ?_ ?_ | intro _)
           all_goals first | omega | exact hk | skip
         · by_cases h3 : q.length = 3
           · have e2 : ((q.length : Int) - 1) = 2 := by omega
             rw [h3] at q4
             simp only [Nat.add_one_sub_one] at q4
             have hne : ¬ ((UInt8.toNat 43 : Nat) : Int) = ((q.getD 2 0).toNat : Int) := by rw [b100]; omega
             simp -dsimp -implicitDefEqProofs only [e2, e1, hne, ib0, C163, ↓Ev.xStp_eq, ↓Ev.P, Ev.Q, Bool.cond_true, Bool.cond_false, eq_self, forall_eq_or_imp, implies_true, forall_const, forall_eq, ↓reduceIte, reduceIte, Nat.reduceEqDiff, Nat.reduceAdd, reduceCtorEq, Nat.reduceSub, Int.reduceToNat, Int.reduceLE, Int.reduceLT, Int.reduceNeg, Nat.reduceBEq, Nat.reduceMul, Nat.reduceLeDiff, Nat.reduceMod, UInt8.reduceOfNat, Nat.reduceLT, Int.reduceEq, Int.reduceAdd, Int.reduceSub, Int.reduceMul]
             repeat' (first | with_reducible assumption | refine And.intro ?_ ?_ | intro _)
             all_goals first | omega | exact hk | skip
           · have e2 : ¬ ((q.length : Int) - 1) < 3 := by omega
             simp -dsimp -implicitDefEqProofs only [e2, e1, ↓Ev.xStp_eq, ↓Ev.P, Ev.Q, Bool.cond_true, Bool.cond_false, eq_self, forall_eq_or_imp, implies_true, forall_const, forall_eq, ↓reduceIte, reduceIte, Nat.reduceEqDiff, Nat.reduceAdd, reduceCtorEq, Nat.reduceSub, Int.reduceToNat, Int.reduceLE, Int.reduceLT, Int.reduceNeg, Nat.reduceBEq, Nat.reduceMul, Nat.reduceLeDiff, Nat.reduceMod, UInt8.reduceOfNat, Nat.reduceLT, Int.reduceEq, Int.reduceAdd, Int.reduceSub, Int.reduceMul]
             exact hk
end Go.Proofs.YtlghobefhmpfkaaGreatDoor
namespace Go.Proofs
open Go.Shelf
open Go.RowKit Go.Lib in
theorem Tryz.stringslite_Index (s sub : ByteArray) (m : Int) (w : World) (hs : s.size < 4294967281) (hm : w.cell? ⟨1, 0, none⟩ = some (.int .i64 m)) :
 Calls Tryz.prog 149 #[.string s, .string sub] w fun e w' => e = .returned (.int .i64 (Lib.index s.data.toList sub.data.toList)) ∧ w' = w := Any.stringslite_Index Tryz.lays219 s sub m w hs hm
end Go.Proofs
namespace Go.Proofs.YtlghobefhmpfkaaGreatDoor
open Go Go.Ev Go.Rcs
set_option maxRecDepth 100000
variable {G : World → Prop}
def MaxL (w : World) : Prop := ∃ m : Int, w.cell? ⟨1, 0, none⟩ = some (.int .i64 m)
def CIxS : Contract := pureC fun args => match args with
 | [.d (.v (.string s)), .d (.v (.string p))] => some (s.size ≤ 2147483648, .d (.v (.int .i64 (Lib.index s.data.toList p.data.toList))))
 | _ => none
theorem sIxS (hM : ∀ w, G w → MaxL w) : Sound G Tryz.prog 149 CIxS := by
 refine sound_lib ⟨Tryz.f149, by kernel_rfl, by kernel_rfl, by kernel_rfl⟩ fun args p x h hp => ?_
 split at h <;> simp only [Option.some.injEq, Prod.mk.injEq, reduceCtorEq] at h
 obtain ⟨rfl, rfl⟩ := h
 rename_i s q
 refine ⟨_, fun m n c => ⟨rfl, rfl⟩, fun w hw m c vs hc hv => ?_⟩
 match vs, hv with
 | [a, b], hv =>
   simp only [CnL, and_true] at hv
   obtain ⟨v1, v2⟩ := hv
   rw [of_v v1, of_v v2]
   obtain ⟨ml, hml⟩ := hM w hw
   refine (Tryz.stringslite_Index s q ml w (by omega) hml).mono ?_
   rintro e w' ⟨rfl, rfl⟩
   exact ⟨rfl, RowKit.Below.refl _ _⟩
 | [], hv => simp [CnL] at hv
 | [_], hv => simp [CnL] at hv
 | _ :: _ :: _ :: _, hv => simp [CnL] at hv
def cutSG (p s : List UInt8) : List UInt8 × List UInt8 := (cutS p s).getD (s, [])
def CCutAt : Contract := pureC fun args => match args with
 | [.d (.v (.string s)), .d (.v (.string p))] => some (s.size ≤ 2147483648 ∧ p.size ≤ 1048576, .tup [.d (.v (str (cutSG p.data.toList s.data.toList).1)), .d (.v (str (cutSG p.data.toList s.data.toList).2)), .d (.v (.bool (cutS p.data.toList s.data.toList).isSome))])
 | _ => none
theorem sCutAt0 (hM : ∀ w, G w → MaxL w) : Sound G Tryz.prog 146 CCutAt := by
 refine sd146 (T := tabT [(149, CIxS)]) (tab_cons (sIxS hM) tab_nil) (pureC_lawful _) (pure_hX fun args p x K h hp hk => ?_)
 split at h <;> simp only [Option.some.injEq, Prod.mk.injEq, reduceCtorEq] at h
 obtain ⟨rfl, rfl⟩ := h
 rename_i s q
 obtain ⟨q, rfl⟩ := ex_str q
 obtain ⟨s, rfl⟩ := ex_str s
 simp only [sem_str] at hp hk
 obtain ⟨h1, h2⟩ := hp
 refine ⟨Nat.le_of_ble_eq_true rfl, ?_⟩
 unfold cutSG cutS at hk
 by_cases hn : Lib.index s q < 0
 · rw [if_pos hn] at hk
   have hn2 : ¬ 0 ≤ Lib.index s q := by omega
   simp -dsimp -implicitDefEqProofs only [S146, R146, CIxS, hn2, ↓Ev.xStp_eq, ↓Ev.P, Ev.Q, Ev.Z, simprocAttr]
   exact ⟨h1, hk⟩
 · rw [if_neg hn] at hk
   have hn2 : 0 ≤ Lib.index s q := by omega
   have hroom := Lib.index_room s q hn2
   simp -dsimp -implicitDefEqProofs only [S146, R146, CIxS, hn2, ↓Ev.xStp_eq, ↓Ev.P, Ev.Q, Ev.Z, simprocAttr]
   obtain ⟨i, hi⟩ := Int.eq_ofNat_of_zero_le hn2
   rw [hi] at hk hroom ⊢
   refine ⟨h1, by omega, by omega, by omega, ?_⟩
   rw [show ((i : Int) + ((q.length : Nat) : Int)).toNat = i + q.length by omega]
   exact hk
theorem sCutAt (hM : ∀ w, G w → MaxL w) : Sound G Tryz.prog 85 CCutAt := by
 refine sd85 (T := tabT [(146, CCutAt)]) (tab_cons (sCutAt0 hM) tab_nil) (pureC_lawful _) (pure_hX fun args p x K h hp hk => ?_)
 split at h <;> simp only [Option.some.injEq, Prod.mk.injEq, reduceCtorEq] at h
 obtain ⟨rfl, rfl⟩ := h
 refine ⟨Nat.le_of_ble_eq_true rfl, ?_⟩
 simp -dsimp -implicitDefEqProofs only [S85, R85, CCutAt, ↓Ev.xStp_eq, ↓Ev.P, Ev.Q, Ev.Z, simprocAttr]
 exact ⟨hp, hk⟩
def uhK (t : TypeId) (rows : List (List D)) (K : Out → Store → Prop) : Except Fl (SV × Int) → Prop
 | .ok (x, a) => K (.ret x) ⟨1, [(0, .cells t [.d (.sl rows), .d (.v (.int .i64 a))])]⟩
 | .error (a, e) => ∀ i : Int, K (.pan (.d (fltV a e))) ⟨1, [(0, .cells t [.d (.sl rows), .d (.v (.int .i64 i))])]⟩
def uhW (g : List (List UInt8) → Int → List SV → Option (Prop × Except Fl (SV × Int))) (args : List SV) (st : Store) (K : Out → Store → Prop) : Prop := match args, st with
 | .ptr 0 0 :: rest, ⟨1, [(0, .cells t [.d (.sl rows), .d (.v (.int .i64 at_))])]⟩ => need ((unStr rows).bind fun L => g L at_ rest) fun z => z.1 ∧ uhK t rows K z.2
 | _, _ => False
def uhC (g : List (List UInt8) → Int → List SV → Option (Prop × Except Fl (SV × Int))) : Contract := wpC (uhW g)
theorem uhC_wp {g : List (List UInt8) → Int → List SV → Option (Prop × Except Fl (SV × Int))} {t : TypeId} {rows : List (List D)} {at_ : Int} {rest : List SV} {K : Out → Store → Prop} :
 (uhC g).wp (.ptr 0 0 :: rest) ⟨1, [(0, .cells t [.d (.sl rows), .d (.v (.int .i64 at_))])]⟩ K = need ((unStr rows).bind fun L => g L at_ rest) fun z => z.1 ∧ uhK t rows K z.2 := rfl
@[congr] theorem uhC_congr {g : List (List UInt8) → Int → List SV → Option (Prop × Except Fl (SV × Int))} {l l' : List SV} {s s' : Store} {K : Out → Store → Prop} (h : l = l') (h2 : s = s') : (uhC g).wp l s K = (uhC g).wp l' s' K := by rw [h, h2]
theorem uhK_ok {t : TypeId} {rows : List (List D)} {K : Out → Store → Prop} {x : SV} {a : Int} : uhK t rows K (.ok (x, a)) = K (.ret x) ⟨1, [(0, .cells t [.d (.sl rows), .d (.v (.int .i64 a))])]⟩ := rfl
theorem uhK_error {t : TypeId} {rows : List (List D)} {K : Out → Store → Prop} {a e : Int} : uhK t rows K (.error (a, e)) = ∀ i : Int, K (.pan (.d (fltV a e))) ⟨1, [(0, .cells t [.d (.sl rows), .d (.v (.int .i64 i))])]⟩ := rfl
theorem uhC_lawful (g : List (List UInt8) → Int → List SV → Option (Prop × Except Fl (SV × Int))) : (uhC g).lawful := wpC_lawful _
theorem uh_hX {T : FuncId → Contract} {n : Nat} {S : SCode} {R : List RR} {g : List (List UInt8) → Int → List SV → Option (Prop × Except Fl (SV × Int))}
   (h : ∀ t L at_ rest p z K, g L at_ rest = some (p, z) → p → uhK t (strRows L) K z → rest.length + 1 ≤ n ∧ xv T 1 S (st0 (.ptr 0 0 :: rest) ⟨1, [(0, .cells t [.d (.sl (strRows L)), .d (.v (.int .i64 at_))])]⟩) (retK R 1 [0] K) (panK 1 [0] K)) :
   ∀ args st K, (uhC g).wp args st K → args.length ≤ n ∧ ∃ os op, xv T st.n S (st0 args st) (retK R st.n os K) (panK st.n op K) := by
 intro args st K hw
 replace hw : uhW g args st K := hw
 unfold uhW at hw
 split at hw
 · rename_i rest t rows at_
   obtain ⟨z, h1, h2, h3⟩ := need_ex hw
   obtain ⟨L, h4, h5⟩ := Option.bind_eq_some_iff.1 h1
   rw [unStr_eq h4] at h3 ⊢
   obtain ⟨h6, h7⟩ := h t L at_ rest z.1 z.2 K h5 h2 h3
   exact ⟨h6, [0], [0], h7⟩
 · exact hw.elim
def CStopU : Contract := uhC fun L at_ rest => match rest with
 | [.d (.v (.int .i64 a)), .d (.v (.int .i64 e))] => some (True, .error (a, e))
 | _ => none
def CNextU : Contract := uhC fun L at_ rest => match rest with
 | [] => some ((0 ≤ at_ ∧ at_ ≤ 1099511627776 ∧ smL L), (nextL L at_.toNat).map strA)
 | _ => none
theorem s120 : Sound G Tryz.prog 120 CStopU := by
 refine sd120 (T := tabT []) tab_nil (uhC_lawful _) (uh_hX fun t L at_ rest p z K h hp hk => ?_)
 split at h <;> simp only [Option.some.injEq, Prod.mk.injEq, reduceCtorEq] at h
 obtain ⟨rfl, rfl⟩ := h
 rw [uhK_error] at hk
 refine ⟨Nat.le_of_ble_eq_true rfl, ?_⟩
 unfold fltV at hk
 simp -dsimp -implicitDefEqProofs only [S120, R120, Ev.panK, ↓Ev.xStp_eq, ↓Ev.P, Ev.Q, Ev.Z, simprocAttr]
 exact hk _
set_option maxHeartbeats 1000000 in
theorem s164 : Sound G Tryz.prog 164 CNextU := by
 refine sd164 (T := tabT [(120, CStopU), (18, CBare)]) (tab_cons s120 (tab_cons s18 tab_nil)) (uhC_lawful _) (uh_hX fun t L at_ rest p z K h hp hk => ?_)
 split at h <;> simp only [Option.some.injEq, Prod.mk.injEq, reduceCtorEq] at h
 obtain ⟨rfl, rfl⟩ := h
 obtain ⟨h1, h2, h3, h4⟩ := hp
 refine ⟨Nat.le_of_ble_eq_true rfl, ?_⟩
 obtain ⟨k, rfl⟩ := Int.eq_ofNat_of_zero_le h1
 rw [Int.toNat_natCast] at hk
 by_cases hlt : k < L.length
 · have h5 : ¬ (L.length : Int) < (k : Int) + 1 := by omega
   have e1 : ((k : Int) + 1 - 1).toNat = k := by omega
   have hg := strRows_get hlt
   have hb := h4 _ (getD_in hlt)
   cases hbs : (bareS (L.getD k [])).2 with
   | true =>
     rw [nextL_ok hlt hbs, map_ok, strA, uhK_ok] at hk
     generalize L.getD k [] = s at hg hb hk hbs
     simp -dsimp -implicitDefEqProofs only [S164, R164, h5, hg, e1, hbs, strRows_len, CBare, CStopU, uhC_wp, unStr_rows, uhK_ok, uhK_error, ↓Ev.xStp_eq, ↓Ev.P, Ev.Q, Ev.Z, simprocAttr]
     repeat' (first | with_reducible assumption | refine And.intro ?_ ?_ | intro _)
     all_goals try omega
     all_goals first | exact hk | exact hk _
   | false =>
     rw [nextL_bad hlt hbs, map_error, uhK_error] at hk
     generalize L.getD k [] = s at hg hb hk hbs
     unfold fltV at hk
     simp -dsimp -implicitDefEqProofs only [S164, R164, h5, hg, e1, hbs, strRows_len, CBare, CStopU, fltV, Ev.panK, uhC_wp, unStr_rows, uhK_ok, uhK_error, ↓Ev.xStp_eq, ↓Ev.P, Ev.Q, Ev.Z, simprocAttr]
     repeat' (first | with_reducible assumption | refine And.intro ?_ ?_ | intro _)
     all_goals try omega
     all_goals first | exact hk | exact hk _
 · have h5 : (L.length : Int) < (k : Int) + 1 := by omega
   rw [nextL_end hlt, map_error, uhK_error] at hk
   unfold fltV at hk
   simp -dsimp -implicitDefEqProofs only [S164, R164, h5, strRows_len, CBare, CStopU, fltV, Ev.panK, uhC_wp, unStr_rows, uhK_ok, uhK_error, ↓Ev.xStp_eq, ↓Ev.P, Ev.Q, Ev.Z, simprocAttr]
   repeat' (first | with_reducible assumption | refine And.intro ?_ ?_ | intro _)
   all_goals try omega
   all_goals first | exact hk | exact hk _
def CMoreU : Contract := uhC fun L at_ rest => match rest with
 | [] => some (True, .ok (.d (.v (.bool (decide (at_ < L.length)))), at_))
 | _ => none
theorem s65 : Sound G Tryz.prog 65 CMoreU := by
 refine sd65 (T := tabT []) tab_nil (uhC_lawful _) (uh_hX fun t L at_ rest p z K h hp hk => ?_)
 split at h <;> simp only [Option.some.injEq, Prod.mk.injEq, reduceCtorEq] at h
 obtain ⟨rfl, rfl⟩ := h
 refine ⟨Nat.le_of_ble_eq_true rfl, ?_⟩
 rw [uhK_ok] at hk
 simp -dsimp -implicitDefEqProofs only [S65, R65, strRows_len, ↓Ev.xStp_eq, ↓Ev.P, Ev.Q, Ev.Z, simprocAttr]
 exact hk
def CNmU : Contract := uhC fun L at_ rest => match rest with
 | [.d (.v (.string p))] => some ((0 ≤ at_ ∧ at_ ≤ 1099511627776 ∧ smL L ∧ p.size = 4), (nmG p.data.toList L at_.toNat).map strA)
 | _ => none
set_option maxHeartbeats 4000000 in
theorem s119 : Sound G Tryz.prog 119 CNmU := by
 refine sd119 (T := tabT [(164, CNextU), (120, CStopU), (161, CCutP), (165, C165)]) (tab_cons s164 (tab_cons s120 (tab_cons sCutP (tab_cons s165 tab_nil)))) (uhC_lawful _) (uh_hX fun t L at_ rest p z K h hp hk => ?_)
 split at h <;> simp only [Option.some.injEq, Prod.mk.injEq, reduceCtorEq] at h
 obtain ⟨rfl, rfl⟩ := h
 rename_i q
 obtain ⟨q, rfl⟩ := ex_str q
 simp only [sem_str] at hp hk
 obtain ⟨h1, h2, ⟨hLl, hL⟩, h4⟩ := hp
 obtain ⟨k, rfl⟩ := Int.eq_ofNat_of_zero_le h1
 rw [Int.toNat_natCast] at hk
 have hsm : smL L := ⟨hLl, hL⟩
 refine ⟨Nat.le_of_ble_eq_true rfl, ?_⟩
 unfold nmG at hk
 cases hx : nextL L k with
 | error xe =>
   obtain ⟨xa, xe⟩ := xe
   rw [hx] at hk; dsimp only at hk
   rw [map_error, uhK_error] at hk; unfold fltV at hk
   simp -dsimp -implicitDefEqProofs only [S119, R119, hx, CNextU, CStopU, CCutP, C165, fltV, Ev.panK, uhC_wp, unStr_rows, uhK_ok, uhK_error, map_ok, map_error, strA, ↓Ev.P, Ev.Q, Ev.Z, simprocAttr]
   repeat' (first | with_reducible assumption | refine And.intro ?_ ?_ | intro _ | (rw [Ev.xStp_eq]; simp -dsimp -implicitDefEqProofs only [hx, CNextU, CStopU, CCutP, C165, fltV, Ev.panK, uhC_wp, unStr_rows, uhK_ok, uhK_error, map_ok, map_error, strA, ↓Ev.P, Ev.Q, Ev.Z, simprocAttr]))
   all_goals try omega
   all_goals exact hk _
 | ok x =>
   obtain ⟨s, a⟩ := x
   obtain ⟨rfl, hlt, hs⟩ := nextL_le hx
   have hsz := hL _ (getD_in hlt)
   have hsl : s.length ≤ 1099511627776 := by rw [hs]; exact Nat.le_trans (bare_len _) hsz
   clear hs
   have hdl : (s.drop 4).length ≤ s.length := by rw [List.length_drop]; omega
   have ec : ((k + 1 : Nat) : Int) = (k : Int) + 1 := by omega
   rw [hx] at hk; dsimp only at hk
   by_cases hpre : s.take 4 = q
   · have hc : cutPre q s = (s.drop 4, true) := by rw [cutPre, h4, if_pos hpre]
     rw [if_pos hpre] at hk
     by_cases hn : (namedS (s.drop 4)).2 = 0
     · rw [if_pos hn, map_ok, strA, uhK_ok] at hk; dsimp only at hk
       simp only [ec] at hk
       simp -dsimp -implicitDefEqProofs only [S119, R119, hx, hc, hn, CNextU, CStopU, CCutP, C165, fltV, Ev.panK, uhC_wp, unStr_rows, uhK_ok, uhK_error, map_ok, map_error, strA, ↓Ev.P, Ev.Q, Ev.Z, simprocAttr]
       repeat' (first | with_reducible assumption | refine And.intro ?_ ?_ | intro _ | (rw [Ev.xStp_eq]; simp -dsimp -implicitDefEqProofs only [hx, hc, hn, CNextU, CStopU, CCutP, C165, fltV, Ev.panK, uhC_wp, unStr_rows, uhK_ok, uhK_error, map_ok, map_error, strA, ↓Ev.P, Ev.Q, Ev.Z, simprocAttr]))
       all_goals try omega
       all_goals first | exact hk | exact hk _
     · have hn2 : (namedS (s.drop 4)).2 = 253 := by
         unfold namedS at hn ⊢
         split
         · rfl
         · rename_i h; rw [if_neg h] at hn; exact absurd rfl hn
       rw [if_neg hn, map_error, uhK_error] at hk; unfold fltV at hk
       simp only [ec] at hk
       simp -dsimp -implicitDefEqProofs only [S119, R119, hx, hc, hn2, CNextU, CStopU, CCutP, C165, fltV, Ev.panK, uhC_wp, unStr_rows, uhK_ok, uhK_error, map_ok, map_error, strA, ↓Ev.P, Ev.Q, Ev.Z, simprocAttr]
       repeat' (first | with_reducible assumption | refine And.intro ?_ ?_ | intro _ | (rw [Ev.xStp_eq]; simp -dsimp -implicitDefEqProofs only [hx, hc, hn2, CNextU, CStopU, CCutP, C165, fltV, Ev.panK, uhC_wp, unStr_rows, uhK_ok, uhK_error, map_ok, map_error, strA, ↓Ev.P, Ev.Q, Ev.Z, simprocAttr]))
       all_goals try omega
       all_goals first | exact hk | exact hk _
   · have hc : cutPre q s = (s, false) := by rw [cutPre, h4, if_neg hpre]
     rw [if_neg hpre, map_error, uhK_error] at hk; unfold fltV at hk
     simp only [ec] at hk
     simp -dsimp -implicitDefEqProofs only [S119, R119, hx, hc, CNextU, CStopU, CCutP, C165, fltV, Ev.panK, uhC_wp, unStr_rows, uhK_ok, uhK_error, map_ok, map_error, strA, ↓Ev.P, Ev.Q, Ev.Z, simprocAttr]
     repeat' (first | with_reducible assumption | refine And.intro ?_ ?_ | intro _ | (rw [Ev.xStp_eq]; simp -dsimp -implicitDefEqProofs only [hx, hc, CNextU, CStopU, CCutP, C165, fltV, Ev.panK, uhC_wp, unStr_rows, uhK_ok, uhK_error, map_ok, map_error, strA, ↓Ev.P, Ev.Q, Ev.Z, simprocAttr]))
     all_goals try omega
     all_goals first | exact hk | exact hk _
def CNumC : Contract := pureC fun args => match args with
 | [.d (.v (.string s))] => some (s.size ≤ 1099511627776, .tup [.d (.v (.int .i64 (cntS s.data.toList).1.1)), .d (.v (.int .i64 (cntS s.data.toList).1.2)), .d (.v (.bool (cntS s.data.toList).2))])
 | _ => none
set_option maxHeartbeats 4000000 in
theorem s199 (hE : ∀ w, G w → ErrR w) : Sound G Tryz.prog 199 CNumC := by
 refine sd199 (T := tabT [(85, CCutC), (86, CParse)]) (tab_cons sCutCs (tab_cons (s86 hE) tab_nil)) (pureC_lawful _) (pure_hX fun args p x K h hp hk => ?_)
 split at h <;> simp only [Option.some.injEq, Prod.mk.injEq, reduceCtorEq] at h
 obtain ⟨rfl, rfl⟩ := h
 rename_i s
 obtain ⟨s, rfl⟩ := ex_str s
 simp only [sem_str] at hp hk
 refine ⟨Nat.le_of_ble_eq_true rfl, ?_⟩
 unfold cntS at hk
 cases hc : cutK 44 s with
 | none =>
   have hG : cutG 44 s = (s, []) := by rw [cutG, hc]; rfl
   rw [hc] at hk; dsimp only at hk
   by_cases h0 : (parseS s).2 = 0
   · simp only [h0, decide_true] at hk
     simp -dsimp -implicitDefEqProofs only [S199, R199, CCutC, CParse, hc, hG, h0, ↓Ev.xStp_eq, ↓Ev.P, Ev.Q, Ev.Z, simprocAttr]
     repeat' (first | with_reducible assumption | refine And.intro ?_ ?_ | intro _)
     all_goals exact hk
   · simp only [h0, decide_false] at hk
     simp -dsimp -implicitDefEqProofs only [S199, R199, CCutC, CParse, hc, hG, h0, ↓Ev.xStp_eq, ↓Ev.P, Ev.Q, Ev.Z, simprocAttr]
     repeat' (first | with_reducible assumption | refine And.intro ?_ ?_ | intro _)
     all_goals exact hk
 | some pq =>
   obtain ⟨p, q⟩ := pq
   have hG : cutG 44 s = (p, q) := by rw [cutG, hc]; rfl
   have hl := cutG_len 44 s
   rw [hG] at hl; dsimp only at hl
   rw [hc] at hk; dsimp only at hk
   by_cases h0 : (parseS p).2 = 0
   · by_cases h1 : (parseS q).2 = 0
     · simp only [h0, h1, decide_true, Bool.and_true] at hk
       simp -dsimp -implicitDefEqProofs only [S199, R199, CCutC, CParse, hc, hG, h0, h1, ↓Ev.xStp_eq, ↓Ev.P, Ev.Q, Ev.Z, simprocAttr]
       repeat' (first | with_reducible assumption | refine And.intro ?_ ?_ | intro _)
       all_goals first | omega | exact hk
     · simp only [h0, h1, decide_true, decide_false, Bool.and_false] at hk
       simp -dsimp -implicitDefEqProofs only [S199, R199, CCutC, CParse, hc, hG, h0, h1, ↓Ev.xStp_eq, ↓Ev.P, Ev.Q, Ev.Z, simprocAttr]
       repeat' (first | with_reducible assumption | refine And.intro ?_ ?_ | intro _)
       all_goals first | omega | exact hk
   · simp only [h0, decide_false, Bool.false_and] at hk
     simp -dsimp -implicitDefEqProofs only [S199, R199, CCutC, CParse, hc, hG, h0, ↓Ev.xStp_eq, ↓Ev.P, Ev.Q, Ev.Z, simprocAttr]
     repeat' (first | with_reducible assumption | refine And.intro ?_ ?_ | intro _)
     all_goals first | omega | exact hk
def CCont : Contract := pureC fun args => match args with
 | [.d (.v (.string p)), .d (.v (.int .i32 r))] => some (p.data.toList = [32, 45, 43] ∧ 0 ≤ r ∧ r ≤ 1114111, .d (.v (.bool (decide (0 ≤ idxM r)))))
 | _ => none
theorem s200 : Sound G Tryz.prog 200 CCont := by
 refine sd200 (T := tabT [(156, CIdxM)]) (tab_cons sIdxM tab_nil) (pureC_lawful _) (pure_hX fun args p x K h hp hk => ?_)
 split at h <;> simp only [Option.some.injEq, Prod.mk.injEq, reduceCtorEq] at h
 obtain ⟨rfl, rfl⟩ := h
 rename_i q r
 obtain ⟨q, rfl⟩ := ex_str q
 refine ⟨Nat.le_of_ble_eq_true rfl, ?_⟩
 simp only [sem_str] at hp
 simp -dsimp -implicitDefEqProofs only [S200, R200, CIdxM, ↓Ev.xStp_eq, ↓Ev.P, Ev.Q, Ev.Z, simprocAttr]
 exact ⟨hp, hk⟩
def hdQ (s : List UInt8) : Int × Int × Int × Int :=
 ((cntS (cutSG [32, 43] (cutPre [64, 64, 32, 45] s).1).1).1.1, (cntS (cutSG [32, 43] (cutPre [64, 64, 32, 45] s).1).1).1.2,
   (cntS (cutSG [32, 64, 64] (cutSG [32, 43] (cutPre [64, 64, 32, 45] s).1).2).1).1.1, (cntS (cutSG [32, 64, 64] (cutSG [32, 43] (cutPre [64, 64, 32, 45] s).1).2).1).1.2)
theorem hdQ_eq {s : List UInt8} {c : Int × Int × Int × Int} (h : hdU s = some c) : hdQ s = c := by
 unfold hdU at h
 split at h
 · cases h
 · rename_i old fresh e
   unfold pcsU at e
   split at e
   · rename_i h4
     have hc : cutPre [64, 64, 32, 45] s = (s.drop 4, true) := if_pos h4
     split at e
     · cases e
     · rename_i o r h1
       split at e
       · cases e
       · rename_i f t h2
         split at e
         · simp only [Option.some.injEq, Prod.mk.injEq] at e
           obtain ⟨rfl, rfl⟩ := e
           split at h
           · simp only [Option.some.injEq] at h
             subst h
             unfold hdQ
             rw [hc]
             simp only [cutSG, h1, h2, Option.getD_some]
           · cases h
         · cases e
   · cases e
def hdA (s : List UInt8) : SV := .tup [.agg [.d (.v (.int .i64 (hdQ s).1)), .d (.v (.int .i64 (hdQ s).2.1)), .d (.v (.int .i64 (hdQ s).2.2.1)), .d (.v (.int .i64 (hdQ s).2.2.2)), .own 0], .d (.v (.bool (hdU s).isSome))]
def CHead : Contract := stC fun args st => match args, st with
 | [.d (.v (.string s))], ⟨0, []⟩ => some (s.size ≤ 2147483648, hdA s.data.toList, ⟨1, [(0, .row 103 2 [])]⟩)
 | _, _ => none
theorem cutPre_len (p s : List UInt8) : (cutPre p s).1.length ≤ s.length := by unfold cutPre; split <;> simp
theorem cutSG_len (p s : List UInt8) : (cutSG p s).1.length ≤ s.length ∧ (cutSG p s).2.length ≤ s.length := by
 unfold cutSG
 cases h : cutS p s with
 | none => simp
 | some q => obtain ⟨a, b⟩ := q; simpa using cutS_len h
theorem hdU_is (s : List UInt8) : (hdU s).isSome = ((cutPre [64, 64, 32, 45] s).2 && ((cutS [32, 43] (cutPre [64, 64, 32, 45] s).1).isSome && ((cutS [32, 64, 64] (cutSG [32, 43] (cutPre [64, 64, 32, 45] s).1).2).isSome &&
   ((cntS (cutSG [32, 43] (cutPre [64, 64, 32, 45] s).1).1).2 && ((cntS (cutSG [32, 64, 64] (cutSG [32, 43] (cutPre [64, 64, 32, 45] s).1).2).1).2 &&
   (decide ((cutSG [32, 64, 64] (cutSG [32, 43] (cutPre [64, 64, 32, 45] s).1).2).2 = []) || decide ((cutSG [32, 64, 64] (cutSG [32, 43] (cutPre [64, 64, 32, 45] s).1).2).2.getD 0 0 = 32))))))) := by
 unfold hdU pcsU
 by_cases h4 : s.take 4 = [64, 64, 32, 45]
 · have hc : cutPre [64, 64, 32, 45] s = (s.drop 4, true) := if_pos h4
   rw [if_pos h4, hc]
   dsimp only
   cases h1 : cutS [32, 43] (s.drop 4) with
   | none => simp
   | some or_ =>
     obtain ⟨o, r⟩ := or_
     have g1 : cutSG [32, 43] (s.drop 4) = (o, r) := by rw [cutSG, h1]; rfl
     rw [g1]
     dsimp only
     cases h2 : cutS [32, 64, 64] r with
     | none => simp
     | some ft =>
       obtain ⟨f, t⟩ := ft
       have g2 : cutSG [32, 64, 64] r = (f, t) := by rw [cutSG, h2]; rfl
       rw [g2]
       dsimp only
       by_cases ht : t = [] ∨ t.getD 0 0 = 32
       · rw [if_pos ht]
         have ht2 : (decide (t = []) || decide (t.getD 0 0 = 32)) = true := by
           rcases ht with h | h
           · rw [decide_eq_true h]; rfl
           · rw [decide_eq_true h, Bool.or_true]
         rw [ht2]
         dsimp only
         cases (cntS o).2 <;> cases (cntS f).2 <;> simp
       · rw [if_neg ht]
         have ht2 : (decide (t = []) || decide (t.getD 0 0 = 32)) = false := by
           simp only [not_or] at ht
           rw [decide_eq_false ht.1, decide_eq_false ht.2]; rfl
         rw [ht2]
         simp
 · have hc : cutPre [64, 64, 32, 45] s = (s, false) := if_neg h4
   rw [if_neg h4, hc]
   rfl
set_option maxHeartbeats 8000000 in
theorem s167 (hE : ∀ w, G w → ErrR w) (hM : ∀ w, G w → MaxL w) : Sound G Tryz.prog 167 CHead := by
 refine sd167 (T := tabT [(161, CCutP), (85, CCutAt), (199, CNumC)]) (tab_cons sCutP (tab_cons (sCutAt hM) (tab_cons (s199 hE) tab_nil))) (stC_lawful _) (st_hX fun args st p x st' K h hp hk => ?_)
 split at h <;> simp only [Option.some.injEq, Prod.mk.injEq, reduceCtorEq] at h
 obtain ⟨rfl, rfl, rfl⟩ := h
 rename_i s
 obtain ⟨s, rfl⟩ := ex_str s
 simp only [sem_str] at hp hk
 refine ⟨Nat.le_of_ble_eq_true rfl, [0], ?_⟩
 unfold hdA hdQ at hk
 rw [hdU_is] at hk
 have l0 := cutPre_len [64, 64, 32, 45] s
 generalize hpre : cutPre [64, 64, 32, 45] s = x0 at hk l0
 obtain ⟨s0, b0⟩ := x0
 dsimp only at hk l0
 have l1 := cutSG_len [32, 43] s0
 generalize hc1 : cutSG [32, 43] s0 = x1 at hk l1
 generalize hi1 : (cutS [32, 43] s0).isSome = b1 at hk
 obtain ⟨old, rest⟩ := x1
 dsimp only at hk l1
 have l2 := cutSG_len [32, 64, 64] rest
 generalize hc2 : cutSG [32, 64, 64] rest = x2 at hk l2
 generalize hi2 : (cutS [32, 64, 64] rest).isSome = b2 at hk
 obtain ⟨fresh, tail⟩ := x2
 dsimp only at hk l2
 generalize hn1 : cntS old = y1 at hk
 generalize hn2 : cntS fresh = y2 at hk
 obtain ⟨⟨A, AN⟩, o1⟩ := y1
 obtain ⟨⟨B, BN⟩, o2⟩ := y2
 dsimp only at hk
 have v32 : (((tail.getD 0 0).toNat : Int) = 32) = (tail.getD 0 0 = 32) := u8_k _ 32 (by decide)
 cases b0 with
 | false =>
   simp only [Bool.false_and] at hk
   simp -dsimp -implicitDefEqProofs only [S167, R167, hpre, hc1, hi1, hc2, hi2, hn1, hn2, CCutP, CCutAt, CNumC, ↓Ev.P, Ev.Q, Ev.Z, simprocAttr]
   repeat' (first | with_reducible assumption | refine And.intro ?_ ?_ | intro _ | (rw [Ev.xStp_eq]; simp -dsimp -implicitDefEqProofs only [hpre, hc1, hi1, hc2, hi2, hn1, hn2, CCutP, CCutAt, CNumC, ↓Ev.P, Ev.Q, Ev.Z, simprocAttr]))
   all_goals try omega
   all_goals exact hk
 | true =>
   simp only [Bool.true_and] at hk
   cases b1 with
   | false =>
     simp only [Bool.false_and] at hk
     simp -dsimp -implicitDefEqProofs only [S167, R167, hpre, hc1, hi1, hc2, hi2, hn1, hn2, CCutP, CCutAt, CNumC, ↓Ev.P, Ev.Q, Ev.Z, simprocAttr]
     repeat' (first | with_reducible assumption | refine And.intro ?_ ?_ | intro _ | (rw [Ev.xStp_eq]; simp -dsimp -implicitDefEqProofs only [hpre, hc1, hi1, hc2, hi2, hn1, hn2, CCutP, CCutAt, CNumC, ↓Ev.P, Ev.Q, Ev.Z, simprocAttr]))
     all_goals try omega
     all_goals exact hk
   | true =>
     simp only [Bool.true_and] at hk
     cases b2 with
     | false =>
       simp only [Bool.false_and] at hk
       simp -dsimp -implicitDefEqProofs only [S167, R167, hpre, hc1, hi1, hc2, hi2, hn1, hn2, CCutP, CCutAt, CNumC, ↓Ev.P, Ev.Q, Ev.Z, simprocAttr]
       repeat' (first | with_reducible assumption | refine And.intro ?_ ?_ | intro _ | (rw [Ev.xStp_eq]; simp -dsimp -implicitDefEqProofs only [hpre, hc1, hi1, hc2, hi2, hn1, hn2, CCutP, CCutAt, CNumC, ↓Ev.P, Ev.Q, Ev.Z, simprocAttr]))
       all_goals try omega
       all_goals exact hk
     | true =>
       simp only [Bool.true_and] at hk
       cases o1 with
       | false =>
         simp only [Bool.false_and] at hk
         simp -dsimp -implicitDefEqProofs only [S167, R167, hpre, hc1, hi1, hc2, hi2, hn1, hn2, CCutP, CCutAt, CNumC, ↓Ev.P, Ev.Q, Ev.Z, simprocAttr]
         repeat' (first | with_reducible assumption | refine And.intro ?_ ?_ | intro _ | (rw [Ev.xStp_eq]; simp -dsimp -implicitDefEqProofs only [hpre, hc1, hi1, hc2, hi2, hn1, hn2, CCutP, CCutAt, CNumC, ↓Ev.P, Ev.Q, Ev.Z, simprocAttr]))
         all_goals try omega
         all_goals exact hk
       | true =>
         simp only [Bool.true_and] at hk
         cases o2 with
         | false =>
           simp only [Bool.false_and] at hk
           simp -dsimp -implicitDefEqProofs only [S167, R167, hpre, hc1, hi1, hc2, hi2, hn1, hn2, CCutP, CCutAt, CNumC, ↓Ev.P, Ev.Q, Ev.Z, simprocAttr]
           repeat' (first | with_reducible assumption | refine And.intro ?_ ?_ | intro _ | (rw [Ev.xStp_eq]; simp -dsimp -implicitDefEqProofs only [hpre, hc1, hi1, hc2, hi2, hn1, hn2, CCutP, CCutAt, CNumC, ↓Ev.P, Ev.Q, Ev.Z, simprocAttr]))
           all_goals try omega
           all_goals exact hk
         | true =>
           simp only [Bool.true_and] at hk
           by_cases ht0 : tail = []
           · subst ht0
             rw [decide_eq_true rfl, Bool.true_or] at hk
             simp -dsimp -implicitDefEqProofs only [S167, R167, hpre, hc1, hi1, hc2, hi2, hn1, hn2, CCutP, CCutAt, CNumC, ↓Ev.P, Ev.Q, Ev.Z, simprocAttr]
             repeat' (first | with_reducible assumption | refine And.intro ?_ ?_ | intro _ | (rw [Ev.xStp_eq]; simp -dsimp -implicitDefEqProofs only [hpre, hc1, hi1, hc2, hi2, hn1, hn2, CCutP, CCutAt, CNumC, ↓Ev.P, Ev.Q, Ev.Z, simprocAttr]))
             all_goals try omega
             all_goals exact hk
           · have hl0 : 0 < tail.length := List.length_pos_iff.2 ht0
             have hl1 : (0 : Int) < (tail.length : Int) := by omega
             rw [decide_eq_false ht0, Bool.false_or] at hk
             by_cases h32 : tail.getD 0 0 = 32
             · have w32 := v32.trans (eq_true h32)
               rw [decide_eq_true h32] at hk
               simp -dsimp -implicitDefEqProofs only [S167, R167, ht0, w32, hl1, hpre, hc1, hi1, hc2, hi2, hn1, hn2, CCutP, CCutAt, CNumC, ↓Ev.P, Ev.Q, Ev.Z, simprocAttr]
               repeat' (first | with_reducible assumption | refine And.intro ?_ ?_ | intro _ | (rw [Ev.xStp_eq]; simp -dsimp -implicitDefEqProofs only [ht0, w32, hl1, hpre, hc1, hi1, hc2, hi2, hn1, hn2, CCutP, CCutAt, CNumC, ↓Ev.P, Ev.Q, Ev.Z, simprocAttr]))
               all_goals try omega
               all_goals exact hk
             · have w32 := v32.trans (eq_false h32)
               rw [decide_eq_false h32] at hk
               simp -dsimp -implicitDefEqProofs only [S167, R167, ht0, w32, hl1, hpre, hc1, hi1, hc2, hi2, hn1, hn2, CCutP, CCutAt, CNumC, ↓Ev.P, Ev.Q, Ev.Z, simprocAttr]
               repeat' (first | with_reducible assumption | refine And.intro ?_ ?_ | intro _ | (rw [Ev.xStp_eq]; simp -dsimp -implicitDefEqProofs only [ht0, w32, hl1, hpre, hc1, hi1, hc2, hi2, hn1, hn2, CCutP, CCutAt, CNumC, ↓Ev.P, Ev.Q, Ev.Z, simprocAttr]))
               all_goals try omega
               all_goals exact hk
def lnK (t t2 : TypeId) (rows : List (List D)) (K : Out → Store → Prop) : Except Fl ((Mk × Int × Int) × Nat) → Prop
 | .ok ((m, o, f), a) => K (.ret (.agg [.d (.v (.int .u8 m.1)), .d (.v (.string ⟨m.2.toArray⟩))])) ⟨2, [(0, .cells t [.d (.sl rows), .d (.v (.int .i64 (a : Nat)))]), (1, .cells t2 [.d (.v (.int .i64 o)), .d (.v (.int .i64 f))])]⟩
 | .error (a, e) => ∀ i o f : Int, K (.pan (.d (fltV a e))) ⟨2, [(0, .cells t [.d (.sl rows), .d (.v (.int .i64 i))]), (1, .cells t2 [.d (.v (.int .i64 o)), .d (.v (.int .i64 f))])]⟩
def lnW (args : List SV) (st : Store) (K : Out → Store → Prop) : Prop := match args, st with
 | [.ptr 0 0, .ptr 1 0], ⟨2, [(0, .cells t [.d (.sl rows), .d (.v (.int .i64 at_))]), (1, .cells t2 [.d (.v (.int .i64 o)), .d (.v (.int .i64 f))])]⟩ =>
   need (unStr rows) fun L => ((0 ≤ at_ ∧ at_ ≤ L.length) ∧ smL L ∧ (0 ≤ o ∧ o ≤ 2147483647) ∧ 0 ≤ f ∧ f ≤ 2147483647) ∧ lnK t t2 rows K (lnU L o f at_.toNat)
 | _, _ => False
def CLnP : Contract := wpC lnW
theorem CLnP_wp {t t2 : TypeId} {rows : List (List D)} {at_ o f : Int} {K : Out → Store → Prop} :
 CLnP.wp [.ptr 0 0, .ptr 1 0] ⟨2, [(0, .cells t [.d (.sl rows), .d (.v (.int .i64 at_))]), (1, .cells t2 [.d (.v (.int .i64 o)), .d (.v (.int .i64 f))])]⟩ K =
 need (unStr rows) fun L => ((0 ≤ at_ ∧ at_ ≤ L.length) ∧ smL L ∧ (0 ≤ o ∧ o ≤ 2147483647) ∧ 0 ≤ f ∧ f ≤ 2147483647) ∧ lnK t t2 rows K (lnU L o f at_.toNat) := rfl
@[congr] theorem CLnP_congr {l l' : List SV} {s s' : Store} {K : Out → Store → Prop} (h : l = l') (h2 : s = s') : CLnP.wp l s K = CLnP.wp l' s' K := by rw [h, h2]
theorem wrap32 (c : UInt8) : IntKind.i32.wrap (c.toNat : Int) = (c.toNat : Int) := by
 have := c.toNat_lt
 simp only [IntKind.wrap, IntKind.bits, IntKind.signed]
 simp
 omega
theorem idxM_no {c : UInt8} (h1 : ¬ c = 32) (h2 : ¬ c = 45) (h3 : ¬ c = 43) : idxM (c.toNat : Int) = -1 := by
 have e : ∀ (k : Nat), k < 256 → ¬ c = UInt8.ofNat k → ¬ (c.toNat : Int) = k := fun k hk h e => h ((u8_eq c k hk).1 e)
 have a1 := e 32 (by omega) h1
 have a2 := e 45 (by omega) h2
 have a3 := e 43 (by omega) h3
 rw [idxM, if_neg (by omega), if_neg (by omega), if_neg (by omega)]
set_option maxHeartbeats 64000000 in
theorem s168 : Sound G Tryz.prog 168 CLnP := by
 refine sd168 (T := tabT [(164, CNextU), (120, CStopU), (65, CMoreU), (200, CCont)]) (tab_cons s164 (tab_cons s120 (tab_cons s65 (tab_cons s200 tab_nil)))) (wpC_lawful _) (fun args st K hW => ?_)
 replace hW : lnW args st K := hW
 unfold lnW at hW
 split at hW
 rotate_left
 · exact hW.elim
 rename_i t rows at_ t2 o f
 obtain ⟨L, hL0, ⟨⟨h1, h3⟩, ⟨hLl, hL⟩, ⟨o0, o1⟩, f0, f1⟩, hk⟩ := need_ex hW
 rw [unStr_eq hL0] at *
 have hsm : smL L := ⟨hLl, hL⟩
 obtain ⟨k, rfl⟩ := Int.eq_ofNat_of_zero_le h1
 rw [Int.toNat_natCast] at hk
 refine ⟨Nat.le_of_ble_eq_true rfl, [0, 1], [0, 1], ?_⟩
 unfold lnU at hk
 cases hx : nextL L k with
 | error xe =>
   obtain ⟨xa, xe⟩ := xe
   rw [hx] at hk; dsimp only [lnK] at hk; unfold fltV at hk
   simp -dsimp -implicitDefEqProofs only [S168, R168, hx, impF, CNextU, CStopU, CMoreU, CCont, fltV, Ev.panK, uhC_wp, uhK_ok, uhK_error, map_ok, map_error, strA, unStr_rows, strRows_len, List.length_append, ↓Ev.P, Ev.Q, Ev.Z, simprocAttr]
   repeat' (first | with_reducible assumption | refine And.intro ?_ ?_ | intro _ | (rw [Ev.xStp_eq]; simp -dsimp -implicitDefEqProofs only [hx, impF, CNextU, CStopU, CMoreU, CCont, fltV, Ev.panK, uhC_wp, uhK_ok, uhK_error, map_ok, map_error, strA, unStr_rows, strRows_len, List.length_append, ↓Ev.P, Ev.Q, Ev.Z, simprocAttr]))
   all_goals try omega
   all_goals exact hk _ _ _
 | ok x =>
   obtain ⟨s, a⟩ := x
   obtain ⟨rfl, hlt, hs⟩ := nextL_le hx
   have hsz := hL _ (getD_in hlt)
   have hsl : s.length ≤ 1099511627776 := by rw [hs]; exact Nat.le_trans (bare_len _) hsz
   rw [hx] at hk; dsimp only at hk
   clear hs hsz
   have ec : ((k + 1 : Nat) : Int) = (k : Int) + 1 := by omega
   have ec2 : ((k + 1 + 1 : Nat) : Int) = (k : Int) + 1 + 1 := by omega
   cases s with
   | nil =>
     dsimp only [lnK] at hk; unfold fltV at hk; simp only [ec] at hk
     simp -dsimp -implicitDefEqProofs only [S168, R168, hx, impF, CNextU, CStopU, CMoreU, CCont, fltV, Ev.panK, uhC_wp, uhK_ok, uhK_error, map_ok, map_error, strA, unStr_rows, strRows_len, List.length_append, ↓Ev.P, Ev.Q, Ev.Z, simprocAttr]
     repeat' (first | with_reducible assumption | refine And.intro ?_ ?_ | intro _ | (rw [Ev.xStp_eq]; simp -dsimp -implicitDefEqProofs only [hx, impF, CNextU, CStopU, CMoreU, CCont, fltV, Ev.panK, uhC_wp, uhK_ok, uhK_error, map_ok, map_error, strA, unStr_rows, strRows_len, List.length_append, ↓Ev.P, Ev.Q, Ev.Z, simprocAttr]))
     all_goals try omega
     all_goals exact hk _ _ _
   | cons c r =>
     dsimp only at hk
     have hrl : r.length ≤ 1099511627776 := by rw [List.length_cons] at hsl; omega
     have w32 := wrap32 c
     by_cases hc : c = 32
     · rw [if_pos hc] at hk
       have hcn : ((c.toNat : Nat) : Int) = 32 := by rw [hc]; rfl
       have hix : idxM 32 = 0 := rfl
       rw [hcn] at w32
       by_cases oz : o < 1
       · rw [if_pos (.inl oz)] at hk
         have q1 : (o - 1 < 0) = True := eq_true (by omega)
         dsimp only [lnK] at hk; unfold fltV at hk; simp only [ec] at hk
         simp -dsimp -implicitDefEqProofs only [S168, R168, hx, hcn, w32, hix, impF, CNextU, CStopU, CMoreU, CCont, fltV, Ev.panK, uhC_wp, uhK_ok, uhK_error, map_ok, map_error, strA, unStr_rows, strRows_len, List.length_append, ↓Ev.P, Ev.Q, Ev.Z, simprocAttr]
         repeat' (first | with_reducible assumption | refine And.intro ?_ ?_ | intro _ | (rw [Ev.xStp_eq]; simp -dsimp -implicitDefEqProofs only [hx, hcn, w32, hix, impF, CNextU, CStopU, CMoreU, CCont, fltV, Ev.panK, uhC_wp, uhK_ok, uhK_error, map_ok, map_error, strA, unStr_rows, strRows_len, List.length_append, ↓Ev.P, Ev.Q, Ev.Z, simprocAttr]))
         all_goals try omega
         refine xLoop_intro (fun n2 st => (n2 = 2 ∧ st = ⟨[(0, .ptr 0 0), (1, .ptr 1 0), (4, .ptr 2 0), (6, .ptr 3 0), (8, .d (.v (.bool true))), (40, .agg [.d (.v (.bool true)), .d (.v (.bool true))]), (41, .d (.v (.int .i64 0)))], 4, [(0, .cells t [.d (.sl (strRows L)), .d (.v (.int .i64 ((k : Int) + 1)))]), (1, .cells t2 [.d (.v (.int .i64 o)), .d (.v (.int .i64 f))]), (2, .cells 103 [.d (.v (.int .u8 0)), .d (.v (.string ⟨#[]⟩))]), (3, .cells 103 [.d (.v (.int .u8 32)), .d (.v (.string ⟨r.toArray⟩))])]⟩)) 2 [0, 1, 2, 3] ?_ ?_ ?_
         · simp -dsimp -implicitDefEqProofs only [↓Ev.xStp_eq, ↓Ev.P, Ev.Q, Ev.Z, simprocAttr]
         · simp -dsimp -implicitDefEqProofs only [↓Ev.xStp_eq, ↓Ev.P, Ev.Q, Ev.Z, simprocAttr]
           all_goals first | exact .inl ⟨rfl, rfl⟩ | exact .inl rfl | exact ⟨rfl, rfl⟩ | rfl | trivial
         · rintro n2 st2 ⟨rfl, rfl⟩
           · have _t := trivial
             simp -dsimp -implicitDefEqProofs only [S168, R168, q1, impF, CNextU, CStopU, CMoreU, CCont, fltV, Ev.panK, uhC_wp, uhK_ok, uhK_error, map_ok, map_error, strA, unStr_rows, strRows_len, List.length_append, ↓Ev.P, Ev.Q, Ev.Z, simprocAttr]
             repeat' (first | with_reducible assumption | refine And.intro ?_ ?_ | intro _ | (rw [Ev.xStp_eq]; simp -dsimp -implicitDefEqProofs only [q1, impF, CNextU, CStopU, CMoreU, CCont, fltV, Ev.panK, uhC_wp, uhK_ok, uhK_error, map_ok, map_error, strA, unStr_rows, strRows_len, List.length_append, ↓Ev.P, Ev.Q, Ev.Z, simprocAttr]))
             all_goals try omega
             all_goals exact hk _ _ _
       · by_cases oe : o = 1
         · by_cases fz : f < 1
           · rw [if_pos (.inr fz)] at hk
             have q1 : (o - 1 < 0) = False := eq_false (by omega)
             have q2 : (o - 1 = 0) = True := eq_true (by omega)
             have q3 : (f - 1 < 0) = True := eq_true (by omega)
             dsimp only [lnK] at hk; unfold fltV at hk; simp only [ec] at hk
             simp -dsimp -implicitDefEqProofs only [S168, R168, hx, hcn, w32, hix, impF, CNextU, CStopU, CMoreU, CCont, fltV, Ev.panK, uhC_wp, uhK_ok, uhK_error, map_ok, map_error, strA, unStr_rows, strRows_len, List.length_append, ↓Ev.P, Ev.Q, Ev.Z, simprocAttr]
             repeat' (first | with_reducible assumption | refine And.intro ?_ ?_ | intro _ | (rw [Ev.xStp_eq]; simp -dsimp -implicitDefEqProofs only [hx, hcn, w32, hix, impF, CNextU, CStopU, CMoreU, CCont, fltV, Ev.panK, uhC_wp, uhK_ok, uhK_error, map_ok, map_error, strA, unStr_rows, strRows_len, List.length_append, ↓Ev.P, Ev.Q, Ev.Z, simprocAttr]))
             all_goals try omega
             refine xLoop_intro (fun n2 st => (n2 = 2 ∧ st = ⟨[(0, .ptr 0 0), (1, .ptr 1 0), (4, .ptr 2 0), (6, .ptr 3 0), (8, .d (.v (.bool true))), (40, .agg [.d (.v (.bool true)), .d (.v (.bool true))]), (41, .d (.v (.int .i64 0)))], 4, [(0, .cells t [.d (.sl (strRows L)), .d (.v (.int .i64 ((k : Int) + 1)))]), (1, .cells t2 [.d (.v (.int .i64 o)), .d (.v (.int .i64 f))]), (2, .cells 103 [.d (.v (.int .u8 0)), .d (.v (.string ⟨#[]⟩))]), (3, .cells 103 [.d (.v (.int .u8 32)), .d (.v (.string ⟨r.toArray⟩))])]⟩) ∨ (n2 = 1 ∧ st = ⟨[(0, .ptr 0 0), (1, .ptr 1 0), (4, .ptr 2 0), (6, .ptr 3 0), (8, .d (.v (.bool true))), (40, .agg [.d (.v (.bool true)), .d (.v (.bool true))]), (41, .d (.v (.int .i64 1)))], 4, [(0, .cells t [.d (.sl (strRows L)), .d (.v (.int .i64 ((k : Int) + 1)))]), (1, .cells t2 [.d (.v (.int .i64 (o - 1))), .d (.v (.int .i64 f))]), (2, .cells 103 [.d (.v (.int .u8 0)), .d (.v (.string ⟨#[]⟩))]), (3, .cells 103 [.d (.v (.int .u8 32)), .d (.v (.string ⟨r.toArray⟩))])]⟩)) 2 [0, 1, 2, 3] ?_ ?_ ?_
             · simp -dsimp -implicitDefEqProofs only [↓Ev.xStp_eq, ↓Ev.P, Ev.Q, Ev.Z, simprocAttr]
             · simp -dsimp -implicitDefEqProofs only [↓Ev.xStp_eq, ↓Ev.P, Ev.Q, Ev.Z, simprocAttr]
               all_goals first | exact .inl ⟨rfl, rfl⟩ | exact .inl rfl | exact ⟨rfl, rfl⟩ | rfl | trivial
             · rintro n2 st2 (⟨rfl, rfl⟩ | ⟨rfl, rfl⟩)
               · have _t := trivial
                 simp -dsimp -implicitDefEqProofs only [S168, R168, q1, q2, q3, impF, CNextU, CStopU, CMoreU, CCont, fltV, Ev.panK, uhC_wp, uhK_ok, uhK_error, map_ok, map_error, strA, unStr_rows, strRows_len, List.length_append, ↓Ev.P, Ev.Q, Ev.Z, simprocAttr]
                 repeat' (first | with_reducible assumption | refine And.intro ?_ ?_ | intro _ | (rw [Ev.xStp_eq]; simp -dsimp -implicitDefEqProofs only [q1, q2, q3, impF, CNextU, CStopU, CMoreU, CCont, fltV, Ev.panK, uhC_wp, uhK_ok, uhK_error, map_ok, map_error, strA, unStr_rows, strRows_len, List.length_append, ↓Ev.P, Ev.Q, Ev.Z, simprocAttr]))
                 all_goals try omega
                 all_goals refine xAgain_intro 1 [0, 1, 2, 3] (by omega) (by simp -dsimp -implicitDefEqProofs only [↓Ev.xStp_eq, ↓Ev.P, Ev.Q, Ev.Z, simprocAttr]) (.inr ⟨rfl, ?_⟩)
                 all_goals simp -dsimp -implicitDefEqProofs only [↓Ev.xStp_eq, ↓Ev.P, Ev.Q, Ev.Z, simprocAttr]
                 all_goals rfl
               · have _t := trivial
                 simp -dsimp -implicitDefEqProofs only [S168, R168, q1, q2, q3, impF, CNextU, CStopU, CMoreU, CCont, fltV, Ev.panK, uhC_wp, uhK_ok, uhK_error, map_ok, map_error, strA, unStr_rows, strRows_len, List.length_append, ↓Ev.P, Ev.Q, Ev.Z, simprocAttr]
                 repeat' (first | with_reducible assumption | refine And.intro ?_ ?_ | intro _ | (rw [Ev.xStp_eq]; simp -dsimp -implicitDefEqProofs only [q1, q2, q3, impF, CNextU, CStopU, CMoreU, CCont, fltV, Ev.panK, uhC_wp, uhK_ok, uhK_error, map_ok, map_error, strA, unStr_rows, strRows_len, List.length_append, ↓Ev.P, Ev.Q, Ev.Z, simprocAttr]))
                 all_goals try omega
                 all_goals exact hk _ _ _
           · rw [if_neg (fun h => h.elim oz fz)] at hk
             by_cases fe : f = 1
             · have _t := trivial
               have q1 : (o - 1 < 0) = False := eq_false (by omega)
               have q2 : (o - 1 = 0) = True := eq_true (by omega)
               have q3 : (f - 1 < 0) = False := eq_false (by omega)
               have q4 : (f - 1 = 0) = True := eq_true (by omega)
               simp -dsimp -implicitDefEqProofs only [S168, R168, hx, hcn, w32, hix, impF, CNextU, CStopU, CMoreU, CCont, fltV, Ev.panK, uhC_wp, uhK_ok, uhK_error, map_ok, map_error, strA, unStr_rows, strRows_len, List.length_append, ↓Ev.P, Ev.Q, Ev.Z, simprocAttr]
               repeat' (first | with_reducible assumption | refine And.intro ?_ ?_ | intro _ | (rw [Ev.xStp_eq]; simp -dsimp -implicitDefEqProofs only [hx, hcn, w32, hix, impF, CNextU, CStopU, CMoreU, CCont, fltV, Ev.panK, uhC_wp, uhK_ok, uhK_error, map_ok, map_error, strA, unStr_rows, strRows_len, List.length_append, ↓Ev.P, Ev.Q, Ev.Z, simprocAttr]))
               all_goals try omega
               refine xLoop_intro (fun n2 st => (n2 = 2 ∧ st = ⟨[(0, .ptr 0 0), (1, .ptr 1 0), (4, .ptr 2 0), (6, .ptr 3 0), (8, .d (.v (.bool true))), (40, .agg [.d (.v (.bool true)), .d (.v (.bool true))]), (41, .d (.v (.int .i64 0)))], 4, [(0, .cells t [.d (.sl (strRows L)), .d (.v (.int .i64 ((k : Int) + 1)))]), (1, .cells t2 [.d (.v (.int .i64 o)), .d (.v (.int .i64 f))]), (2, .cells 103 [.d (.v (.int .u8 0)), .d (.v (.string ⟨#[]⟩))]), (3, .cells 103 [.d (.v (.int .u8 32)), .d (.v (.string ⟨r.toArray⟩))])]⟩) ∨ (n2 = 1 ∧ st = ⟨[(0, .ptr 0 0), (1, .ptr 1 0), (4, .ptr 2 0), (6, .ptr 3 0), (8, .d (.v (.bool true))), (40, .agg [.d (.v (.bool true)), .d (.v (.bool true))]), (41, .d (.v (.int .i64 1)))], 4, [(0, .cells t [.d (.sl (strRows L)), .d (.v (.int .i64 ((k : Int) + 1)))]), (1, .cells t2 [.d (.v (.int .i64 (o - 1))), .d (.v (.int .i64 f))]), (2, .cells 103 [.d (.v (.int .u8 0)), .d (.v (.string ⟨#[]⟩))]), (3, .cells 103 [.d (.v (.int .u8 32)), .d (.v (.string ⟨r.toArray⟩))])]⟩) ∨ (n2 = 0 ∧ st = ⟨[(0, .ptr 0 0), (1, .ptr 1 0), (4, .ptr 2 0), (6, .ptr 3 0), (8, .d (.v (.bool true))), (40, .agg [.d (.v (.bool true)), .d (.v (.bool true))]), (41, .d (.v (.int .i64 2)))], 4, [(0, .cells t [.d (.sl (strRows L)), .d (.v (.int .i64 ((k : Int) + 1)))]), (1, .cells t2 [.d (.v (.int .i64 (o - 1))), .d (.v (.int .i64 (f - 1)))]), (2, .cells 103 [.d (.v (.int .u8 0)), .d (.v (.string ⟨#[]⟩))]), (3, .cells 103 [.d (.v (.int .u8 32)), .d (.v (.string ⟨r.toArray⟩))])]⟩)) 2 [0, 1, 2, 3] ?_ ?_ ?_
               · simp -dsimp -implicitDefEqProofs only [↓Ev.xStp_eq, ↓Ev.P, Ev.Q, Ev.Z, simprocAttr]
               · simp -dsimp -implicitDefEqProofs only [↓Ev.xStp_eq, ↓Ev.P, Ev.Q, Ev.Z, simprocAttr]
                 all_goals first | exact .inl ⟨rfl, rfl⟩ | exact .inl rfl | exact ⟨rfl, rfl⟩ | rfl | trivial
               · rintro n2 st2 (⟨rfl, rfl⟩ | ⟨rfl, rfl⟩ | ⟨rfl, rfl⟩)
                 · have _t := trivial
                   simp -dsimp -implicitDefEqProofs only [S168, R168, q1, q2, q3, q4, impF, CNextU, CStopU, CMoreU, CCont, fltV, Ev.panK, uhC_wp, uhK_ok, uhK_error, map_ok, map_error, strA, unStr_rows, strRows_len, List.length_append, ↓Ev.P, Ev.Q, Ev.Z, simprocAttr]
                   repeat' (first | with_reducible assumption | refine And.intro ?_ ?_ | intro _ | (rw [Ev.xStp_eq]; simp -dsimp -implicitDefEqProofs only [q1, q2, q3, q4, impF, CNextU, CStopU, CMoreU, CCont, fltV, Ev.panK, uhC_wp, uhK_ok, uhK_error, map_ok, map_error, strA, unStr_rows, strRows_len, List.length_append, ↓Ev.P, Ev.Q, Ev.Z, simprocAttr]))
                   all_goals try omega
                   all_goals refine xAgain_intro 1 [0, 1, 2, 3] (by omega) (by simp -dsimp -implicitDefEqProofs only [↓Ev.xStp_eq, ↓Ev.P, Ev.Q, Ev.Z, simprocAttr]) (.inr (.inl ⟨rfl, ?_⟩))
                   all_goals simp -dsimp -implicitDefEqProofs only [↓Ev.xStp_eq, ↓Ev.P, Ev.Q, Ev.Z, simprocAttr]
                   all_goals rfl
                 · have _t := trivial
                   simp -dsimp -implicitDefEqProofs only [S168, R168, q1, q2, q3, q4, impF, CNextU, CStopU, CMoreU, CCont, fltV, Ev.panK, uhC_wp, uhK_ok, uhK_error, map_ok, map_error, strA, unStr_rows, strRows_len, List.length_append, ↓Ev.P, Ev.Q, Ev.Z, simprocAttr]
                   repeat' (first | with_reducible assumption | refine And.intro ?_ ?_ | intro _ | (rw [Ev.xStp_eq]; simp -dsimp -implicitDefEqProofs only [q1, q2, q3, q4, impF, CNextU, CStopU, CMoreU, CCont, fltV, Ev.panK, uhC_wp, uhK_ok, uhK_error, map_ok, map_error, strA, unStr_rows, strRows_len, List.length_append, ↓Ev.P, Ev.Q, Ev.Z, simprocAttr]))
                   all_goals try omega
                   all_goals refine xAgain_intro 0 [0, 1, 2, 3] (by omega) (by simp -dsimp -implicitDefEqProofs only [↓Ev.xStp_eq, ↓Ev.P, Ev.Q, Ev.Z, simprocAttr]) (.inr (.inr ⟨rfl, ?_⟩))
                   all_goals simp -dsimp -implicitDefEqProofs only [↓Ev.xStp_eq, ↓Ev.P, Ev.Q, Ev.Z, simprocAttr]
                   all_goals rfl
                 · have _t := trivial
                   by_cases hr : r = []
                   · rw [if_neg (fun h => h.1.2 hr)] at hk; dsimp only [lnK] at hk; simp only [ec] at hk
                     simp -dsimp -implicitDefEqProofs only [S168, R168, q1, q2, q3, q4, hr, impF, CNextU, CStopU, CMoreU, CCont, fltV, Ev.panK, uhC_wp, uhK_ok, uhK_error, map_ok, map_error, strA, unStr_rows, strRows_len, List.length_append, ↓Ev.P, Ev.Q, Ev.Z, simprocAttr]
                     repeat' (first | with_reducible assumption | refine And.intro ?_ ?_ | intro _ | (rw [Ev.xStp_eq]; simp -dsimp -implicitDefEqProofs only [q1, q2, q3, q4, hr, impF, CNextU, CStopU, CMoreU, CCont, fltV, Ev.panK, uhC_wp, uhK_ok, uhK_error, map_ok, map_error, strA, unStr_rows, strRows_len, List.length_append, ↓Ev.P, Ev.Q, Ev.Z, simprocAttr]))
                     all_goals try omega
                     all_goals first | exact hk | (simp only [hr] at hk ⊢; exact hk)
                   · by_cases hb2 : k + 1 < L.length
                     · have hl2 : (((k : Int) + 1) < (L.length : Int)) = True := eq_true (by omega)
                       have hg := strRows_get hb2
                       have hg2 : (strRows L).getD (k + 1) [] = [.v (.string ⟨(L.getD (k + 1) []).toArray⟩)] := by rw [List.getD_eq_getElem?_getD, hg]; rfl
                       have e1 : ((k : Int) + 1).toNat = k + 1 := by omega
                       by_cases hm : L.getD (k + 1) [] = markS
                       · have hl3 : (L.getD (k + 1) [] = [92, 32, 78, 111, 32, 110, 101, 119, 108, 105, 110, 101, 32, 97, 116, 32, 101, 110, 100, 32, 111, 102, 32, 102, 105, 108, 101, 10]) = True := eq_true hm
                         rw [if_pos ⟨⟨by omega, hr⟩, hb2, hm⟩] at hk; dsimp only [lnK] at hk; simp only [ec2] at hk
                         simp -dsimp -implicitDefEqProofs only [S168, R168, q1, q2, q3, q4, hr, hl2, hl3, hg, hg2, e1, impF, CNextU, CStopU, CMoreU, CCont, fltV, Ev.panK, uhC_wp, uhK_ok, uhK_error, map_ok, map_error, strA, unStr_rows, strRows_len, List.length_append, ↓Ev.P, Ev.Q, Ev.Z, simprocAttr]
                         repeat' (first | with_reducible assumption | refine And.intro ?_ ?_ | intro _ | (rw [Ev.xStp_eq]; simp -dsimp -implicitDefEqProofs only [q1, q2, q3, q4, hr, hl2, hl3, hg, hg2, e1, impF, CNextU, CStopU, CMoreU, CCont, fltV, Ev.panK, uhC_wp, uhK_ok, uhK_error, map_ok, map_error, strA, unStr_rows, strRows_len, List.length_append, ↓Ev.P, Ev.Q, Ev.Z, simprocAttr]))
                         all_goals try omega
                         all_goals exact hk
                       · have hl3 : (L.getD (k + 1) [] = [92, 32, 78, 111, 32, 110, 101, 119, 108, 105, 110, 101, 32, 97, 116, 32, 101, 110, 100, 32, 111, 102, 32, 102, 105, 108, 101, 10]) = False := eq_false hm
                         rw [if_neg (fun h => hm h.2.2)] at hk; dsimp only [lnK] at hk; simp only [ec] at hk
                         simp -dsimp -implicitDefEqProofs only [S168, R168, q1, q2, q3, q4, hr, hl2, hl3, hg, hg2, e1, impF, CNextU, CStopU, CMoreU, CCont, fltV, Ev.panK, uhC_wp, uhK_ok, uhK_error, map_ok, map_error, strA, unStr_rows, strRows_len, List.length_append, ↓Ev.P, Ev.Q, Ev.Z, simprocAttr]
                         repeat' (first | with_reducible assumption | refine And.intro ?_ ?_ | intro _ | (rw [Ev.xStp_eq]; simp -dsimp -implicitDefEqProofs only [q1, q2, q3, q4, hr, hl2, hl3, hg, hg2, e1, impF, CNextU, CStopU, CMoreU, CCont, fltV, Ev.panK, uhC_wp, uhK_ok, uhK_error, map_ok, map_error, strA, unStr_rows, strRows_len, List.length_append, ↓Ev.P, Ev.Q, Ev.Z, simprocAttr]))
                         all_goals try omega
                         all_goals exact hk
                     · have hl2 : (((k : Int) + 1) < (L.length : Int)) = False := eq_false (by omega)
                       rw [if_neg (fun h => hb2 h.2.1)] at hk; dsimp only [lnK] at hk; simp only [ec] at hk
                       simp -dsimp -implicitDefEqProofs only [S168, R168, q1, q2, q3, q4, hr, hl2, impF, CNextU, CStopU, CMoreU, CCont, fltV, Ev.panK, uhC_wp, uhK_ok, uhK_error, map_ok, map_error, strA, unStr_rows, strRows_len, List.length_append, ↓Ev.P, Ev.Q, Ev.Z, simprocAttr]
                       repeat' (first | with_reducible assumption | refine And.intro ?_ ?_ | intro _ | (rw [Ev.xStp_eq]; simp -dsimp -implicitDefEqProofs only [q1, q2, q3, q4, hr, hl2, impF, CNextU, CStopU, CMoreU, CCont, fltV, Ev.panK, uhC_wp, uhK_ok, uhK_error, map_ok, map_error, strA, unStr_rows, strRows_len, List.length_append, ↓Ev.P, Ev.Q, Ev.Z, simprocAttr]))
                       all_goals try omega
                       all_goals exact hk
             · have _t := trivial
               have q1 : (o - 1 < 0) = False := eq_false (by omega)
               have q2 : (o - 1 = 0) = True := eq_true (by omega)
               have q3 : (f - 1 < 0) = False := eq_false (by omega)
               have q4 : (f - 1 = 0) = False := eq_false (by omega)
               simp -dsimp -implicitDefEqProofs only [S168, R168, hx, hcn, w32, hix, impF, CNextU, CStopU, CMoreU, CCont, fltV, Ev.panK, uhC_wp, uhK_ok, uhK_error, map_ok, map_error, strA, unStr_rows, strRows_len, List.length_append, ↓Ev.P, Ev.Q, Ev.Z, simprocAttr]
               repeat' (first | with_reducible assumption | refine And.intro ?_ ?_ | intro _ | (rw [Ev.xStp_eq]; simp -dsimp -implicitDefEqProofs only [hx, hcn, w32, hix, impF, CNextU, CStopU, CMoreU, CCont, fltV, Ev.panK, uhC_wp, uhK_ok, uhK_error, map_ok, map_error, strA, unStr_rows, strRows_len, List.length_append, ↓Ev.P, Ev.Q, Ev.Z, simprocAttr]))
               all_goals try omega
               refine xLoop_intro (fun n2 st => (n2 = 2 ∧ st = ⟨[(0, .ptr 0 0), (1, .ptr 1 0), (4, .ptr 2 0), (6, .ptr 3 0), (8, .d (.v (.bool true))), (40, .agg [.d (.v (.bool true)), .d (.v (.bool true))]), (41, .d (.v (.int .i64 0)))], 4, [(0, .cells t [.d (.sl (strRows L)), .d (.v (.int .i64 ((k : Int) + 1)))]), (1, .cells t2 [.d (.v (.int .i64 o)), .d (.v (.int .i64 f))]), (2, .cells 103 [.d (.v (.int .u8 0)), .d (.v (.string ⟨#[]⟩))]), (3, .cells 103 [.d (.v (.int .u8 32)), .d (.v (.string ⟨r.toArray⟩))])]⟩) ∨ (n2 = 1 ∧ st = ⟨[(0, .ptr 0 0), (1, .ptr 1 0), (4, .ptr 2 0), (6, .ptr 3 0), (8, .d (.v (.bool true))), (40, .agg [.d (.v (.bool true)), .d (.v (.bool true))]), (41, .d (.v (.int .i64 1)))], 4, [(0, .cells t [.d (.sl (strRows L)), .d (.v (.int .i64 ((k : Int) + 1)))]), (1, .cells t2 [.d (.v (.int .i64 (o - 1))), .d (.v (.int .i64 f))]), (2, .cells 103 [.d (.v (.int .u8 0)), .d (.v (.string ⟨#[]⟩))]), (3, .cells 103 [.d (.v (.int .u8 32)), .d (.v (.string ⟨r.toArray⟩))])]⟩) ∨ (n2 = 0 ∧ st = ⟨[(0, .ptr 0 0), (1, .ptr 1 0), (4, .ptr 2 0), (6, .ptr 3 0), (8, .d (.v (.bool false))), (40, .agg [.d (.v (.bool true)), .d (.v (.bool true))]), (41, .d (.v (.int .i64 2)))], 4, [(0, .cells t [.d (.sl (strRows L)), .d (.v (.int .i64 ((k : Int) + 1)))]), (1, .cells t2 [.d (.v (.int .i64 (o - 1))), .d (.v (.int .i64 (f - 1)))]), (2, .cells 103 [.d (.v (.int .u8 0)), .d (.v (.string ⟨#[]⟩))]), (3, .cells 103 [.d (.v (.int .u8 32)), .d (.v (.string ⟨r.toArray⟩))])]⟩)) 2 [0, 1, 2, 3] ?_ ?_ ?_
               · simp -dsimp -implicitDefEqProofs only [↓Ev.xStp_eq, ↓Ev.P, Ev.Q, Ev.Z, simprocAttr]
               · simp -dsimp -implicitDefEqProofs only [↓Ev.xStp_eq, ↓Ev.P, Ev.Q, Ev.Z, simprocAttr]
                 all_goals first | exact .inl ⟨rfl, rfl⟩ | exact .inl rfl | exact ⟨rfl, rfl⟩ | rfl | trivial
               · rintro n2 st2 (⟨rfl, rfl⟩ | ⟨rfl, rfl⟩ | ⟨rfl, rfl⟩)
                 · have _t := trivial
                   simp -dsimp -implicitDefEqProofs only [S168, R168, q1, q2, q3, q4, impF, CNextU, CStopU, CMoreU, CCont, fltV, Ev.panK, uhC_wp, uhK_ok, uhK_error, map_ok, map_error, strA, unStr_rows, strRows_len, List.length_append, ↓Ev.P, Ev.Q, Ev.Z, simprocAttr]
                   repeat' (first | with_reducible assumption | refine And.intro ?_ ?_ | intro _ | (rw [Ev.xStp_eq]; simp -dsimp -implicitDefEqProofs only [q1, q2, q3, q4, impF, CNextU, CStopU, CMoreU, CCont, fltV, Ev.panK, uhC_wp, uhK_ok, uhK_error, map_ok, map_error, strA, unStr_rows, strRows_len, List.length_append, ↓Ev.P, Ev.Q, Ev.Z, simprocAttr]))
                   all_goals try omega
                   all_goals refine xAgain_intro 1 [0, 1, 2, 3] (by omega) (by simp -dsimp -implicitDefEqProofs only [↓Ev.xStp_eq, ↓Ev.P, Ev.Q, Ev.Z, simprocAttr]) (.inr (.inl ⟨rfl, ?_⟩))
                   all_goals simp -dsimp -implicitDefEqProofs only [↓Ev.xStp_eq, ↓Ev.P, Ev.Q, Ev.Z, simprocAttr]
                   all_goals rfl
                 · have _t := trivial
                   simp -dsimp -implicitDefEqProofs only [S168, R168, q1, q2, q3, q4, impF, CNextU, CStopU, CMoreU, CCont, fltV, Ev.panK, uhC_wp, uhK_ok, uhK_error, map_ok, map_error, strA, unStr_rows, strRows_len, List.length_append, ↓Ev.P, Ev.Q, Ev.Z, simprocAttr]
                   repeat' (first | with_reducible assumption | refine And.intro ?_ ?_ | intro _ | (rw [Ev.xStp_eq]; simp -dsimp -implicitDefEqProofs only [q1, q2, q3, q4, impF, CNextU, CStopU, CMoreU, CCont, fltV, Ev.panK, uhC_wp, uhK_ok, uhK_error, map_ok, map_error, strA, unStr_rows, strRows_len, List.length_append, ↓Ev.P, Ev.Q, Ev.Z, simprocAttr]))
                   all_goals try omega
                   all_goals refine xAgain_intro 0 [0, 1, 2, 3] (by omega) (by simp -dsimp -implicitDefEqProofs only [↓Ev.xStp_eq, ↓Ev.P, Ev.Q, Ev.Z, simprocAttr]) (.inr (.inr ⟨rfl, ?_⟩))
                   all_goals simp -dsimp -implicitDefEqProofs only [↓Ev.xStp_eq, ↓Ev.P, Ev.Q, Ev.Z, simprocAttr]
                   all_goals rfl
                 · have _t := trivial
                   rw [if_neg (fun h => by have := h.1.1; omega)] at hk; dsimp only [lnK] at hk; simp only [ec] at hk
                   simp -dsimp -implicitDefEqProofs only [S168, R168, q1, q2, q3, q4, impF, CNextU, CStopU, CMoreU, CCont, fltV, Ev.panK, uhC_wp, uhK_ok, uhK_error, map_ok, map_error, strA, unStr_rows, strRows_len, List.length_append, ↓Ev.P, Ev.Q, Ev.Z, simprocAttr]
                   repeat' (first | with_reducible assumption | refine And.intro ?_ ?_ | intro _ | (rw [Ev.xStp_eq]; simp -dsimp -implicitDefEqProofs only [q1, q2, q3, q4, impF, CNextU, CStopU, CMoreU, CCont, fltV, Ev.panK, uhC_wp, uhK_ok, uhK_error, map_ok, map_error, strA, unStr_rows, strRows_len, List.length_append, ↓Ev.P, Ev.Q, Ev.Z, simprocAttr]))
                   all_goals try omega
                   all_goals exact hk
         · by_cases fz : f < 1
           · rw [if_pos (.inr fz)] at hk
             have q1 : (o - 1 < 0) = False := eq_false (by omega)
             have q2 : (o - 1 = 0) = False := eq_false (by omega)
             have q3 : (f - 1 < 0) = True := eq_true (by omega)
             dsimp only [lnK] at hk; unfold fltV at hk; simp only [ec] at hk
             simp -dsimp -implicitDefEqProofs only [S168, R168, hx, hcn, w32, hix, impF, CNextU, CStopU, CMoreU, CCont, fltV, Ev.panK, uhC_wp, uhK_ok, uhK_error, map_ok, map_error, strA, unStr_rows, strRows_len, List.length_append, ↓Ev.P, Ev.Q, Ev.Z, simprocAttr]
             repeat' (first | with_reducible assumption | refine And.intro ?_ ?_ | intro _ | (rw [Ev.xStp_eq]; simp -dsimp -implicitDefEqProofs only [hx, hcn, w32, hix, impF, CNextU, CStopU, CMoreU, CCont, fltV, Ev.panK, uhC_wp, uhK_ok, uhK_error, map_ok, map_error, strA, unStr_rows, strRows_len, List.length_append, ↓Ev.P, Ev.Q, Ev.Z, simprocAttr]))
             all_goals try omega
             refine xLoop_intro (fun n2 st => (n2 = 2 ∧ st = ⟨[(0, .ptr 0 0), (1, .ptr 1 0), (4, .ptr 2 0), (6, .ptr 3 0), (8, .d (.v (.bool true))), (40, .agg [.d (.v (.bool true)), .d (.v (.bool true))]), (41, .d (.v (.int .i64 0)))], 4, [(0, .cells t [.d (.sl (strRows L)), .d (.v (.int .i64 ((k : Int) + 1)))]), (1, .cells t2 [.d (.v (.int .i64 o)), .d (.v (.int .i64 f))]), (2, .cells 103 [.d (.v (.int .u8 0)), .d (.v (.string ⟨#[]⟩))]), (3, .cells 103 [.d (.v (.int .u8 32)), .d (.v (.string ⟨r.toArray⟩))])]⟩) ∨ (n2 = 1 ∧ st = ⟨[(0, .ptr 0 0), (1, .ptr 1 0), (4, .ptr 2 0), (6, .ptr 3 0), (8, .d (.v (.bool false))), (40, .agg [.d (.v (.bool true)), .d (.v (.bool true))]), (41, .d (.v (.int .i64 1)))], 4, [(0, .cells t [.d (.sl (strRows L)), .d (.v (.int .i64 ((k : Int) + 1)))]), (1, .cells t2 [.d (.v (.int .i64 (o - 1))), .d (.v (.int .i64 f))]), (2, .cells 103 [.d (.v (.int .u8 0)), .d (.v (.string ⟨#[]⟩))]), (3, .cells 103 [.d (.v (.int .u8 32)), .d (.v (.string ⟨r.toArray⟩))])]⟩)) 2 [0, 1, 2, 3] ?_ ?_ ?_
             · simp -dsimp -implicitDefEqProofs only [↓Ev.xStp_eq, ↓Ev.P, Ev.Q, Ev.Z, simprocAttr]
             · simp -dsimp -implicitDefEqProofs only [↓Ev.xStp_eq, ↓Ev.P, Ev.Q, Ev.Z, simprocAttr]
               all_goals first | exact .inl ⟨rfl, rfl⟩ | exact .inl rfl | exact ⟨rfl, rfl⟩ | rfl | trivial
             · rintro n2 st2 (⟨rfl, rfl⟩ | ⟨rfl, rfl⟩)
               · have _t := trivial
                 simp -dsimp -implicitDefEqProofs only [S168, R168, q1, q2, q3, impF, CNextU, CStopU, CMoreU, CCont, fltV, Ev.panK, uhC_wp, uhK_ok, uhK_error, map_ok, map_error, strA, unStr_rows, strRows_len, List.length_append, ↓Ev.P, Ev.Q, Ev.Z, simprocAttr]
                 repeat' (first | with_reducible assumption | refine And.intro ?_ ?_ | intro _ | (rw [Ev.xStp_eq]; simp -dsimp -implicitDefEqProofs only [q1, q2, q3, impF, CNextU, CStopU, CMoreU, CCont, fltV, Ev.panK, uhC_wp, uhK_ok, uhK_error, map_ok, map_error, strA, unStr_rows, strRows_len, List.length_append, ↓Ev.P, Ev.Q, Ev.Z, simprocAttr]))
                 all_goals try omega
                 all_goals refine xAgain_intro 1 [0, 1, 2, 3] (by omega) (by simp -dsimp -implicitDefEqProofs only [↓Ev.xStp_eq, ↓Ev.P, Ev.Q, Ev.Z, simprocAttr]) (.inr ⟨rfl, ?_⟩)
                 all_goals simp -dsimp -implicitDefEqProofs only [↓Ev.xStp_eq, ↓Ev.P, Ev.Q, Ev.Z, simprocAttr]
                 all_goals rfl
               · have _t := trivial
                 simp -dsimp -implicitDefEqProofs only [S168, R168, q1, q2, q3, impF, CNextU, CStopU, CMoreU, CCont, fltV, Ev.panK, uhC_wp, uhK_ok, uhK_error, map_ok, map_error, strA, unStr_rows, strRows_len, List.length_append, ↓Ev.P, Ev.Q, Ev.Z, simprocAttr]
                 repeat' (first | with_reducible assumption | refine And.intro ?_ ?_ | intro _ | (rw [Ev.xStp_eq]; simp -dsimp -implicitDefEqProofs only [q1, q2, q3, impF, CNextU, CStopU, CMoreU, CCont, fltV, Ev.panK, uhC_wp, uhK_ok, uhK_error, map_ok, map_error, strA, unStr_rows, strRows_len, List.length_append, ↓Ev.P, Ev.Q, Ev.Z, simprocAttr]))
                 all_goals try omega
                 all_goals exact hk _ _ _
           · rw [if_neg (fun h => h.elim oz fz)] at hk
             by_cases fe : f = 1
             · have _t := trivial
               have q1 : (o - 1 < 0) = False := eq_false (by omega)
               have q2 : (o - 1 = 0) = False := eq_false (by omega)
               have q3 : (f - 1 < 0) = False := eq_false (by omega)
               have q4 : (f - 1 = 0) = True := eq_true (by omega)
               simp -dsimp -implicitDefEqProofs only [S168, R168, hx, hcn, w32, hix, impF, CNextU, CStopU, CMoreU, CCont, fltV, Ev.panK, uhC_wp, uhK_ok, uhK_error, map_ok, map_error, strA, unStr_rows, strRows_len, List.length_append, ↓Ev.P, Ev.Q, Ev.Z, simprocAttr]
               repeat' (first | with_reducible assumption | refine And.intro ?_ ?_ | intro _ | (rw [Ev.xStp_eq]; simp -dsimp -implicitDefEqProofs only [hx, hcn, w32, hix, impF, CNextU, CStopU, CMoreU, CCont, fltV, Ev.panK, uhC_wp, uhK_ok, uhK_error, map_ok, map_error, strA, unStr_rows, strRows_len, List.length_append, ↓Ev.P, Ev.Q, Ev.Z, simprocAttr]))
               all_goals try omega
               refine xLoop_intro (fun n2 st => (n2 = 2 ∧ st = ⟨[(0, .ptr 0 0), (1, .ptr 1 0), (4, .ptr 2 0), (6, .ptr 3 0), (8, .d (.v (.bool true))), (40, .agg [.d (.v (.bool true)), .d (.v (.bool true))]), (41, .d (.v (.int .i64 0)))], 4, [(0, .cells t [.d (.sl (strRows L)), .d (.v (.int .i64 ((k : Int) + 1)))]), (1, .cells t2 [.d (.v (.int .i64 o)), .d (.v (.int .i64 f))]), (2, .cells 103 [.d (.v (.int .u8 0)), .d (.v (.string ⟨#[]⟩))]), (3, .cells 103 [.d (.v (.int .u8 32)), .d (.v (.string ⟨r.toArray⟩))])]⟩) ∨ (n2 = 1 ∧ st = ⟨[(0, .ptr 0 0), (1, .ptr 1 0), (4, .ptr 2 0), (6, .ptr 3 0), (8, .d (.v (.bool false))), (40, .agg [.d (.v (.bool true)), .d (.v (.bool true))]), (41, .d (.v (.int .i64 1)))], 4, [(0, .cells t [.d (.sl (strRows L)), .d (.v (.int .i64 ((k : Int) + 1)))]), (1, .cells t2 [.d (.v (.int .i64 (o - 1))), .d (.v (.int .i64 f))]), (2, .cells 103 [.d (.v (.int .u8 0)), .d (.v (.string ⟨#[]⟩))]), (3, .cells 103 [.d (.v (.int .u8 32)), .d (.v (.string ⟨r.toArray⟩))])]⟩) ∨ (n2 = 0 ∧ st = ⟨[(0, .ptr 0 0), (1, .ptr 1 0), (4, .ptr 2 0), (6, .ptr 3 0), (8, .d (.v (.bool false))), (40, .agg [.d (.v (.bool true)), .d (.v (.bool true))]), (41, .d (.v (.int .i64 2)))], 4, [(0, .cells t [.d (.sl (strRows L)), .d (.v (.int .i64 ((k : Int) + 1)))]), (1, .cells t2 [.d (.v (.int .i64 (o - 1))), .d (.v (.int .i64 (f - 1)))]), (2, .cells 103 [.d (.v (.int .u8 0)), .d (.v (.string ⟨#[]⟩))]), (3, .cells 103 [.d (.v (.int .u8 32)), .d (.v (.string ⟨r.toArray⟩))])]⟩)) 2 [0, 1, 2, 3] ?_ ?_ ?_
               · simp -dsimp -implicitDefEqProofs only [↓Ev.xStp_eq, ↓Ev.P, Ev.Q, Ev.Z, simprocAttr]
               · simp -dsimp -implicitDefEqProofs only [↓Ev.xStp_eq, ↓Ev.P, Ev.Q, Ev.Z, simprocAttr]
                 all_goals first | exact .inl ⟨rfl, rfl⟩ | exact .inl rfl | exact ⟨rfl, rfl⟩ | rfl | trivial
               · rintro n2 st2 (⟨rfl, rfl⟩ | ⟨rfl, rfl⟩ | ⟨rfl, rfl⟩)
                 · have _t := trivial
                   simp -dsimp -implicitDefEqProofs only [S168, R168, q1, q2, q3, q4, impF, CNextU, CStopU, CMoreU, CCont, fltV, Ev.panK, uhC_wp, uhK_ok, uhK_error, map_ok, map_error, strA, unStr_rows, strRows_len, List.length_append, ↓Ev.P, Ev.Q, Ev.Z, simprocAttr]
                   repeat' (first | with_reducible assumption | refine And.intro ?_ ?_ | intro _ | (rw [Ev.xStp_eq]; simp -dsimp -implicitDefEqProofs only [q1, q2, q3, q4, impF, CNextU, CStopU, CMoreU, CCont, fltV, Ev.panK, uhC_wp, uhK_ok, uhK_error, map_ok, map_error, strA, unStr_rows, strRows_len, List.length_append, ↓Ev.P, Ev.Q, Ev.Z, simprocAttr]))
                   all_goals try omega
                   all_goals refine xAgain_intro 1 [0, 1, 2, 3] (by omega) (by simp -dsimp -implicitDefEqProofs only [↓Ev.xStp_eq, ↓Ev.P, Ev.Q, Ev.Z, simprocAttr]) (.inr (.inl ⟨rfl, ?_⟩))
                   all_goals simp -dsimp -implicitDefEqProofs only [↓Ev.xStp_eq, ↓Ev.P, Ev.Q, Ev.Z, simprocAttr]
                   all_goals rfl
                 · have _t := trivial
                   simp -dsimp -implicitDefEqProofs only [S168, R168, q1, q2, q3, q4, impF, CNextU, CStopU, CMoreU, CCont, fltV, Ev.panK, uhC_wp, uhK_ok, uhK_error, map_ok, map_error, strA, unStr_rows, strRows_len, List.length_append, ↓Ev.P, Ev.Q, Ev.Z, simprocAttr]
                   repeat' (first | with_reducible assumption | refine And.intro ?_ ?_ | intro _ | (rw [Ev.xStp_eq]; simp -dsimp -implicitDefEqProofs only [q1, q2, q3, q4, impF, CNextU, CStopU, CMoreU, CCont, fltV, Ev.panK, uhC_wp, uhK_ok, uhK_error, map_ok, map_error, strA, unStr_rows, strRows_len, List.length_append, ↓Ev.P, Ev.Q, Ev.Z, simprocAttr]))
                   all_goals try omega
                   all_goals refine xAgain_intro 0 [0, 1, 2, 3] (by omega) (by simp -dsimp -implicitDefEqProofs only [↓Ev.xStp_eq, ↓Ev.P, Ev.Q, Ev.Z, simprocAttr]) (.inr (.inr ⟨rfl, ?_⟩))
                   all_goals simp -dsimp -implicitDefEqProofs only [↓Ev.xStp_eq, ↓Ev.P, Ev.Q, Ev.Z, simprocAttr]
                   all_goals rfl
                 · have _t := trivial
                   rw [if_neg (fun h => by have := h.1.1; omega)] at hk; dsimp only [lnK] at hk; simp only [ec] at hk
                   simp -dsimp -implicitDefEqProofs only [S168, R168, q1, q2, q3, q4, impF, CNextU, CStopU, CMoreU, CCont, fltV, Ev.panK, uhC_wp, uhK_ok, uhK_error, map_ok, map_error, strA, unStr_rows, strRows_len, List.length_append, ↓Ev.P, Ev.Q, Ev.Z, simprocAttr]
                   repeat' (first | with_reducible assumption | refine And.intro ?_ ?_ | intro _ | (rw [Ev.xStp_eq]; simp -dsimp -implicitDefEqProofs only [q1, q2, q3, q4, impF, CNextU, CStopU, CMoreU, CCont, fltV, Ev.panK, uhC_wp, uhK_ok, uhK_error, map_ok, map_error, strA, unStr_rows, strRows_len, List.length_append, ↓Ev.P, Ev.Q, Ev.Z, simprocAttr]))
                   all_goals try omega
                   all_goals exact hk
             · have _t := trivial
               have q1 : (o - 1 < 0) = False := eq_false (by omega)
               have q2 : (o - 1 = 0) = False := eq_false (by omega)
               have q3 : (f - 1 < 0) = False := eq_false (by omega)
               have q4 : (f - 1 = 0) = False := eq_false (by omega)
               simp -dsimp -implicitDefEqProofs only [S168, R168, hx, hcn, w32, hix, impF, CNextU, CStopU, CMoreU, CCont, fltV, Ev.panK, uhC_wp, uhK_ok, uhK_error, map_ok, map_error, strA, unStr_rows, strRows_len, List.length_append, ↓Ev.P, Ev.Q, Ev.Z, simprocAttr]
               repeat' (first | with_reducible assumption | refine And.intro ?_ ?_ | intro _ | (rw [Ev.xStp_eq]; simp -dsimp -implicitDefEqProofs only [hx, hcn, w32, hix, impF, CNextU, CStopU, CMoreU, CCont, fltV, Ev.panK, uhC_wp, uhK_ok, uhK_error, map_ok, map_error, strA, unStr_rows, strRows_len, List.length_append, ↓Ev.P, Ev.Q, Ev.Z, simprocAttr]))
               all_goals try omega
               refine xLoop_intro (fun n2 st => (n2 = 2 ∧ st = ⟨[(0, .ptr 0 0), (1, .ptr 1 0), (4, .ptr 2 0), (6, .ptr 3 0), (8, .d (.v (.bool true))), (40, .agg [.d (.v (.bool true)), .d (.v (.bool true))]), (41, .d (.v (.int .i64 0)))], 4, [(0, .cells t [.d (.sl (strRows L)), .d (.v (.int .i64 ((k : Int) + 1)))]), (1, .cells t2 [.d (.v (.int .i64 o)), .d (.v (.int .i64 f))]), (2, .cells 103 [.d (.v (.int .u8 0)), .d (.v (.string ⟨#[]⟩))]), (3, .cells 103 [.d (.v (.int .u8 32)), .d (.v (.string ⟨r.toArray⟩))])]⟩) ∨ (n2 = 1 ∧ st = ⟨[(0, .ptr 0 0), (1, .ptr 1 0), (4, .ptr 2 0), (6, .ptr 3 0), (8, .d (.v (.bool false))), (40, .agg [.d (.v (.bool true)), .d (.v (.bool true))]), (41, .d (.v (.int .i64 1)))], 4, [(0, .cells t [.d (.sl (strRows L)), .d (.v (.int .i64 ((k : Int) + 1)))]), (1, .cells t2 [.d (.v (.int .i64 (o - 1))), .d (.v (.int .i64 f))]), (2, .cells 103 [.d (.v (.int .u8 0)), .d (.v (.string ⟨#[]⟩))]), (3, .cells 103 [.d (.v (.int .u8 32)), .d (.v (.string ⟨r.toArray⟩))])]⟩) ∨ (n2 = 0 ∧ st = ⟨[(0, .ptr 0 0), (1, .ptr 1 0), (4, .ptr 2 0), (6, .ptr 3 0), (8, .d (.v (.bool false))), (40, .agg [.d (.v (.bool true)), .d (.v (.bool true))]), (41, .d (.v (.int .i64 2)))], 4, [(0, .cells t [.d (.sl (strRows L)), .d (.v (.int .i64 ((k : Int) + 1)))]), (1, .cells t2 [.d (.v (.int .i64 (o - 1))), .d (.v (.int .i64 (f - 1)))]), (2, .cells 103 [.d (.v (.int .u8 0)), .d (.v (.string ⟨#[]⟩))]), (3, .cells 103 [.d (.v (.int .u8 32)), .d (.v (.string ⟨r.toArray⟩))])]⟩)) 2 [0, 1, 2, 3] ?_ ?_ ?_
               · simp -dsimp -implicitDefEqProofs only [↓Ev.xStp_eq, ↓Ev.P, Ev.Q, Ev.Z, simprocAttr]
               · simp -dsimp -implicitDefEqProofs only [↓Ev.xStp_eq, ↓Ev.P, Ev.Q, Ev.Z, simprocAttr]
                 all_goals first | exact .inl ⟨rfl, rfl⟩ | exact .inl rfl | exact ⟨rfl, rfl⟩ | rfl | trivial
               · rintro n2 st2 (⟨rfl, rfl⟩ | ⟨rfl, rfl⟩ | ⟨rfl, rfl⟩)
                 · have _t := trivial
                   simp -dsimp -implicitDefEqProofs only [S168, R168, q1, q2, q3, q4, impF, CNextU, CStopU, CMoreU, CCont, fltV, Ev.panK, uhC_wp, uhK_ok, uhK_error, map_ok, map_error, strA, unStr_rows, strRows_len, List.length_append, ↓Ev.P, Ev.Q, Ev.Z, simprocAttr]
                   repeat' (first | with_reducible assumption | refine And.intro ?_ ?_ | intro _ | (rw [Ev.xStp_eq]; simp -dsimp -implicitDefEqProofs only [q1, q2, q3, q4, impF, CNextU, CStopU, CMoreU, CCont, fltV, Ev.panK, uhC_wp, uhK_ok, uhK_error, map_ok, map_error, strA, unStr_rows, strRows_len, List.length_append, ↓Ev.P, Ev.Q, Ev.Z, simprocAttr]))
                   all_goals try omega
                   all_goals refine xAgain_intro 1 [0, 1, 2, 3] (by omega) (by simp -dsimp -implicitDefEqProofs only [↓Ev.xStp_eq, ↓Ev.P, Ev.Q, Ev.Z, simprocAttr]) (.inr (.inl ⟨rfl, ?_⟩))
                   all_goals simp -dsimp -implicitDefEqProofs only [↓Ev.xStp_eq, ↓Ev.P, Ev.Q, Ev.Z, simprocAttr]
                   all_goals rfl
                 · have _t := trivial
                   simp -dsimp -implicitDefEqProofs only [S168, R168, q1, q2, q3, q4, impF, CNextU, CStopU, CMoreU, CCont, fltV, Ev.panK, uhC_wp, uhK_ok, uhK_error, map_ok, map_error, strA, unStr_rows, strRows_len, List.length_append, ↓Ev.P, Ev.Q, Ev.Z, simprocAttr]
                   repeat' (first | with_reducible assumption | refine And.intro ?_ ?_ | intro _ | (rw [Ev.xStp_eq]; simp -dsimp -implicitDefEqProofs only [q1, q2, q3, q4, impF, CNextU, CStopU, CMoreU, CCont, fltV, Ev.panK, uhC_wp, uhK_ok, uhK_error, map_ok, map_error, strA, unStr_rows, strRows_len, List.length_append, ↓Ev.P, Ev.Q, Ev.Z, simprocAttr]))
                   all_goals try omega
                   all_goals refine xAgain_intro 0 [0, 1, 2, 3] (by omega) (by simp -dsimp -implicitDefEqProofs only [↓Ev.xStp_eq, ↓Ev.P, Ev.Q, Ev.Z, simprocAttr]) (.inr (.inr ⟨rfl, ?_⟩))
                   all_goals simp -dsimp -implicitDefEqProofs only [↓Ev.xStp_eq, ↓Ev.P, Ev.Q, Ev.Z, simprocAttr]
                   all_goals rfl
                 · have _t := trivial
                   rw [if_neg (fun h => by have := h.1.1; omega)] at hk; dsimp only [lnK] at hk; simp only [ec] at hk
                   simp -dsimp -implicitDefEqProofs only [S168, R168, q1, q2, q3, q4, impF, CNextU, CStopU, CMoreU, CCont, fltV, Ev.panK, uhC_wp, uhK_ok, uhK_error, map_ok, map_error, strA, unStr_rows, strRows_len, List.length_append, ↓Ev.P, Ev.Q, Ev.Z, simprocAttr]
                   repeat' (first | with_reducible assumption | refine And.intro ?_ ?_ | intro _ | (rw [Ev.xStp_eq]; simp -dsimp -implicitDefEqProofs only [q1, q2, q3, q4, impF, CNextU, CStopU, CMoreU, CCont, fltV, Ev.panK, uhC_wp, uhK_ok, uhK_error, map_ok, map_error, strA, unStr_rows, strRows_len, List.length_append, ↓Ev.P, Ev.Q, Ev.Z, simprocAttr]))
                   all_goals try omega
                   all_goals exact hk
     · rw [if_neg hc] at hk
       have hc32 := hc; clear hc
       by_cases hc : c = 45
       · rw [if_pos hc] at hk
         have hcn : ((c.toNat : Nat) : Int) = 45 := by rw [hc]; rfl
         have hix : idxM 45 = 1 := rfl
         rw [hcn] at w32
         by_cases oz : o < 1
         · rw [if_pos oz] at hk
           have q1 : (o - 1 < 0) = True := eq_true (by omega)
           dsimp only [lnK] at hk; unfold fltV at hk; simp only [ec] at hk
           simp -dsimp -implicitDefEqProofs only [S168, R168, hx, hcn, w32, hix, impF, CNextU, CStopU, CMoreU, CCont, fltV, Ev.panK, uhC_wp, uhK_ok, uhK_error, map_ok, map_error, strA, unStr_rows, strRows_len, List.length_append, ↓Ev.P, Ev.Q, Ev.Z, simprocAttr]
           repeat' (first | with_reducible assumption | refine And.intro ?_ ?_ | intro _ | (rw [Ev.xStp_eq]; simp -dsimp -implicitDefEqProofs only [hx, hcn, w32, hix, impF, CNextU, CStopU, CMoreU, CCont, fltV, Ev.panK, uhC_wp, uhK_ok, uhK_error, map_ok, map_error, strA, unStr_rows, strRows_len, List.length_append, ↓Ev.P, Ev.Q, Ev.Z, simprocAttr]))
           all_goals try omega
           refine xLoop_intro (fun n2 st => (n2 = 2 ∧ st = ⟨[(0, .ptr 0 0), (1, .ptr 1 0), (4, .ptr 2 0), (6, .ptr 3 0), (8, .d (.v (.bool true))), (40, .agg [.d (.v (.bool true)), .d (.v (.bool false))]), (41, .d (.v (.int .i64 0)))], 4, [(0, .cells t [.d (.sl (strRows L)), .d (.v (.int .i64 ((k : Int) + 1)))]), (1, .cells t2 [.d (.v (.int .i64 o)), .d (.v (.int .i64 f))]), (2, .cells 103 [.d (.v (.int .u8 0)), .d (.v (.string ⟨#[]⟩))]), (3, .cells 103 [.d (.v (.int .u8 45)), .d (.v (.string ⟨r.toArray⟩))])]⟩)) 2 [0, 1, 2, 3] ?_ ?_ ?_
           · simp -dsimp -implicitDefEqProofs only [↓Ev.xStp_eq, ↓Ev.P, Ev.Q, Ev.Z, simprocAttr]
           · simp -dsimp -implicitDefEqProofs only [↓Ev.xStp_eq, ↓Ev.P, Ev.Q, Ev.Z, simprocAttr]
             all_goals first | exact .inl ⟨rfl, rfl⟩ | exact .inl rfl | exact ⟨rfl, rfl⟩ | rfl | trivial
           · rintro n2 st2 ⟨rfl, rfl⟩
             · have _t := trivial
               simp -dsimp -implicitDefEqProofs only [S168, R168, q1, impF, CNextU, CStopU, CMoreU, CCont, fltV, Ev.panK, uhC_wp, uhK_ok, uhK_error, map_ok, map_error, strA, unStr_rows, strRows_len, List.length_append, ↓Ev.P, Ev.Q, Ev.Z, simprocAttr]
               repeat' (first | with_reducible assumption | refine And.intro ?_ ?_ | intro _ | (rw [Ev.xStp_eq]; simp -dsimp -implicitDefEqProofs only [q1, impF, CNextU, CStopU, CMoreU, CCont, fltV, Ev.panK, uhC_wp, uhK_ok, uhK_error, map_ok, map_error, strA, unStr_rows, strRows_len, List.length_append, ↓Ev.P, Ev.Q, Ev.Z, simprocAttr]))
               all_goals try omega
               all_goals exact hk _ _ _
         · rw [if_neg oz] at hk
           by_cases oe : o = 1
           · have _t := trivial
             have q1 : (o - 1 < 0) = False := eq_false (by omega)
             have q2 : (o - 1 = 0) = True := eq_true (by omega)
             simp -dsimp -implicitDefEqProofs only [S168, R168, hx, hcn, w32, hix, impF, CNextU, CStopU, CMoreU, CCont, fltV, Ev.panK, uhC_wp, uhK_ok, uhK_error, map_ok, map_error, strA, unStr_rows, strRows_len, List.length_append, ↓Ev.P, Ev.Q, Ev.Z, simprocAttr]
             repeat' (first | with_reducible assumption | refine And.intro ?_ ?_ | intro _ | (rw [Ev.xStp_eq]; simp -dsimp -implicitDefEqProofs only [hx, hcn, w32, hix, impF, CNextU, CStopU, CMoreU, CCont, fltV, Ev.panK, uhC_wp, uhK_ok, uhK_error, map_ok, map_error, strA, unStr_rows, strRows_len, List.length_append, ↓Ev.P, Ev.Q, Ev.Z, simprocAttr]))
             all_goals try omega
             refine xLoop_intro (fun n2 st => (n2 = 2 ∧ st = ⟨[(0, .ptr 0 0), (1, .ptr 1 0), (4, .ptr 2 0), (6, .ptr 3 0), (8, .d (.v (.bool true))), (40, .agg [.d (.v (.bool true)), .d (.v (.bool false))]), (41, .d (.v (.int .i64 0)))], 4, [(0, .cells t [.d (.sl (strRows L)), .d (.v (.int .i64 ((k : Int) + 1)))]), (1, .cells t2 [.d (.v (.int .i64 o)), .d (.v (.int .i64 f))]), (2, .cells 103 [.d (.v (.int .u8 0)), .d (.v (.string ⟨#[]⟩))]), (3, .cells 103 [.d (.v (.int .u8 45)), .d (.v (.string ⟨r.toArray⟩))])]⟩) ∨ (n2 = 1 ∧ st = ⟨[(0, .ptr 0 0), (1, .ptr 1 0), (4, .ptr 2 0), (6, .ptr 3 0), (8, .d (.v (.bool true))), (40, .agg [.d (.v (.bool true)), .d (.v (.bool false))]), (41, .d (.v (.int .i64 1)))], 4, [(0, .cells t [.d (.sl (strRows L)), .d (.v (.int .i64 ((k : Int) + 1)))]), (1, .cells t2 [.d (.v (.int .i64 (o - 1))), .d (.v (.int .i64 f))]), (2, .cells 103 [.d (.v (.int .u8 0)), .d (.v (.string ⟨#[]⟩))]), (3, .cells 103 [.d (.v (.int .u8 45)), .d (.v (.string ⟨r.toArray⟩))])]⟩) ∨ (n2 = 0 ∧ st = ⟨[(0, .ptr 0 0), (1, .ptr 1 0), (4, .ptr 2 0), (6, .ptr 3 0), (8, .d (.v (.bool true))), (40, .agg [.d (.v (.bool true)), .d (.v (.bool false))]), (41, .d (.v (.int .i64 2)))], 4, [(0, .cells t [.d (.sl (strRows L)), .d (.v (.int .i64 ((k : Int) + 1)))]), (1, .cells t2 [.d (.v (.int .i64 (o - 1))), .d (.v (.int .i64 f))]), (2, .cells 103 [.d (.v (.int .u8 0)), .d (.v (.string ⟨#[]⟩))]), (3, .cells 103 [.d (.v (.int .u8 45)), .d (.v (.string ⟨r.toArray⟩))])]⟩)) 2 [0, 1, 2, 3] ?_ ?_ ?_
             · simp -dsimp -implicitDefEqProofs only [↓Ev.xStp_eq, ↓Ev.P, Ev.Q, Ev.Z, simprocAttr]
             · simp -dsimp -implicitDefEqProofs only [↓Ev.xStp_eq, ↓Ev.P, Ev.Q, Ev.Z, simprocAttr]
               all_goals first | exact .inl ⟨rfl, rfl⟩ | exact .inl rfl | exact ⟨rfl, rfl⟩ | rfl | trivial
             · rintro n2 st2 (⟨rfl, rfl⟩ | ⟨rfl, rfl⟩ | ⟨rfl, rfl⟩)
               · have _t := trivial
                 simp -dsimp -implicitDefEqProofs only [S168, R168, q1, q2, impF, CNextU, CStopU, CMoreU, CCont, fltV, Ev.panK, uhC_wp, uhK_ok, uhK_error, map_ok, map_error, strA, unStr_rows, strRows_len, List.length_append, ↓Ev.P, Ev.Q, Ev.Z, simprocAttr]
                 repeat' (first | with_reducible assumption | refine And.intro ?_ ?_ | intro _ | (rw [Ev.xStp_eq]; simp -dsimp -implicitDefEqProofs only [q1, q2, impF, CNextU, CStopU, CMoreU, CCont, fltV, Ev.panK, uhC_wp, uhK_ok, uhK_error, map_ok, map_error, strA, unStr_rows, strRows_len, List.length_append, ↓Ev.P, Ev.Q, Ev.Z, simprocAttr]))
                 all_goals try omega
                 all_goals refine xAgain_intro 1 [0, 1, 2, 3] (by omega) (by simp -dsimp -implicitDefEqProofs only [↓Ev.xStp_eq, ↓Ev.P, Ev.Q, Ev.Z, simprocAttr]) (.inr (.inl ⟨rfl, ?_⟩))
                 all_goals simp -dsimp -implicitDefEqProofs only [↓Ev.xStp_eq, ↓Ev.P, Ev.Q, Ev.Z, simprocAttr]
                 all_goals rfl
               · have _t := trivial
                 simp -dsimp -implicitDefEqProofs only [S168, R168, q1, q2, impF, CNextU, CStopU, CMoreU, CCont, fltV, Ev.panK, uhC_wp, uhK_ok, uhK_error, map_ok, map_error, strA, unStr_rows, strRows_len, List.length_append, ↓Ev.P, Ev.Q, Ev.Z, simprocAttr]
                 repeat' (first | with_reducible assumption | refine And.intro ?_ ?_ | intro _ | (rw [Ev.xStp_eq]; simp -dsimp -implicitDefEqProofs only [q1, q2, impF, CNextU, CStopU, CMoreU, CCont, fltV, Ev.panK, uhC_wp, uhK_ok, uhK_error, map_ok, map_error, strA, unStr_rows, strRows_len, List.length_append, ↓Ev.P, Ev.Q, Ev.Z, simprocAttr]))
                 all_goals try omega
                 all_goals refine xAgain_intro 0 [0, 1, 2, 3] (by omega) (by simp -dsimp -implicitDefEqProofs only [↓Ev.xStp_eq, ↓Ev.P, Ev.Q, Ev.Z, simprocAttr]) (.inr (.inr ⟨rfl, ?_⟩))
                 all_goals simp -dsimp -implicitDefEqProofs only [↓Ev.xStp_eq, ↓Ev.P, Ev.Q, Ev.Z, simprocAttr]
                 all_goals rfl
               · have _t := trivial
                 by_cases hr : r = []
                 · rw [if_neg (fun h => h.1.2 hr)] at hk; dsimp only [lnK] at hk; simp only [ec] at hk
                   simp -dsimp -implicitDefEqProofs only [S168, R168, q1, q2, hr, impF, CNextU, CStopU, CMoreU, CCont, fltV, Ev.panK, uhC_wp, uhK_ok, uhK_error, map_ok, map_error, strA, unStr_rows, strRows_len, List.length_append, ↓Ev.P, Ev.Q, Ev.Z, simprocAttr]
                   repeat' (first | with_reducible assumption | refine And.intro ?_ ?_ | intro _ | (rw [Ev.xStp_eq]; simp -dsimp -implicitDefEqProofs only [q1, q2, hr, impF, CNextU, CStopU, CMoreU, CCont, fltV, Ev.panK, uhC_wp, uhK_ok, uhK_error, map_ok, map_error, strA, unStr_rows, strRows_len, List.length_append, ↓Ev.P, Ev.Q, Ev.Z, simprocAttr]))
                   all_goals try omega
                   all_goals first | exact hk | (simp only [hr] at hk ⊢; exact hk)
                 · by_cases hb2 : k + 1 < L.length
                   · have hl2 : (((k : Int) + 1) < (L.length : Int)) = True := eq_true (by omega)
                     have hg := strRows_get hb2
                     have hg2 : (strRows L).getD (k + 1) [] = [.v (.string ⟨(L.getD (k + 1) []).toArray⟩)] := by rw [List.getD_eq_getElem?_getD, hg]; rfl
                     have e1 : ((k : Int) + 1).toNat = k + 1 := by omega
                     by_cases hm : L.getD (k + 1) [] = markS
                     · have hl3 : (L.getD (k + 1) [] = [92, 32, 78, 111, 32, 110, 101, 119, 108, 105, 110, 101, 32, 97, 116, 32, 101, 110, 100, 32, 111, 102, 32, 102, 105, 108, 101, 10]) = True := eq_true hm
                       rw [if_pos ⟨⟨by omega, hr⟩, hb2, hm⟩] at hk; dsimp only [lnK] at hk; simp only [ec2] at hk
                       simp -dsimp -implicitDefEqProofs only [S168, R168, q1, q2, hr, hl2, hl3, hg, hg2, e1, impF, CNextU, CStopU, CMoreU, CCont, fltV, Ev.panK, uhC_wp, uhK_ok, uhK_error, map_ok, map_error, strA, unStr_rows, strRows_len, List.length_append, ↓Ev.P, Ev.Q, Ev.Z, simprocAttr]
                       repeat' (first | with_reducible assumption | refine And.intro ?_ ?_ | intro _ | (rw [Ev.xStp_eq]; simp -dsimp -implicitDefEqProofs only [q1, q2, hr, hl2, hl3, hg, hg2, e1, impF, CNextU, CStopU, CMoreU, CCont, fltV, Ev.panK, uhC_wp, uhK_ok, uhK_error, map_ok, map_error, strA, unStr_rows, strRows_len, List.length_append, ↓Ev.P, Ev.Q, Ev.Z, simprocAttr]))
                       all_goals try omega
                       all_goals exact hk
                     · have hl3 : (L.getD (k + 1) [] = [92, 32, 78, 111, 32, 110, 101, 119, 108, 105, 110, 101, 32, 97, 116, 32, 101, 110, 100, 32, 111, 102, 32, 102, 105, 108, 101, 10]) = False := eq_false hm
                       rw [if_neg (fun h => hm h.2.2)] at hk; dsimp only [lnK] at hk; simp only [ec] at hk
                       simp -dsimp -implicitDefEqProofs only [S168, R168, q1, q2, hr, hl2, hl3, hg, hg2, e1, impF, CNextU, CStopU, CMoreU, CCont, fltV, Ev.panK, uhC_wp, uhK_ok, uhK_error, map_ok, map_error, strA, unStr_rows, strRows_len, List.length_append, ↓Ev.P, Ev.Q, Ev.Z, simprocAttr]
                       repeat' (first | with_reducible assumption | refine And.intro ?_ ?_ | intro _ | (rw [Ev.xStp_eq]; simp -dsimp -implicitDefEqProofs only [q1, q2, hr, hl2, hl3, hg, hg2, e1, impF, CNextU, CStopU, CMoreU, CCont, fltV, Ev.panK, uhC_wp, uhK_ok, uhK_error, map_ok, map_error, strA, unStr_rows, strRows_len, List.length_append, ↓Ev.P, Ev.Q, Ev.Z, simprocAttr]))
                       all_goals try omega
                       all_goals exact hk
                   · have hl2 : (((k : Int) + 1) < (L.length : Int)) = False := eq_false (by omega)
                     rw [if_neg (fun h => hb2 h.2.1)] at hk; dsimp only [lnK] at hk; simp only [ec] at hk
                     simp -dsimp -implicitDefEqProofs only [S168, R168, q1, q2, hr, hl2, impF, CNextU, CStopU, CMoreU, CCont, fltV, Ev.panK, uhC_wp, uhK_ok, uhK_error, map_ok, map_error, strA, unStr_rows, strRows_len, List.length_append, ↓Ev.P, Ev.Q, Ev.Z, simprocAttr]
                     repeat' (first | with_reducible assumption | refine And.intro ?_ ?_ | intro _ | (rw [Ev.xStp_eq]; simp -dsimp -implicitDefEqProofs only [q1, q2, hr, hl2, impF, CNextU, CStopU, CMoreU, CCont, fltV, Ev.panK, uhC_wp, uhK_ok, uhK_error, map_ok, map_error, strA, unStr_rows, strRows_len, List.length_append, ↓Ev.P, Ev.Q, Ev.Z, simprocAttr]))
                     all_goals try omega
                     all_goals exact hk
           · have _t := trivial
             have q1 : (o - 1 < 0) = False := eq_false (by omega)
             have q2 : (o - 1 = 0) = False := eq_false (by omega)
             simp -dsimp -implicitDefEqProofs only [S168, R168, hx, hcn, w32, hix, impF, CNextU, CStopU, CMoreU, CCont, fltV, Ev.panK, uhC_wp, uhK_ok, uhK_error, map_ok, map_error, strA, unStr_rows, strRows_len, List.length_append, ↓Ev.P, Ev.Q, Ev.Z, simprocAttr]
             repeat' (first | with_reducible assumption | refine And.intro ?_ ?_ | intro _ | (rw [Ev.xStp_eq]; simp -dsimp -implicitDefEqProofs only [hx, hcn, w32, hix, impF, CNextU, CStopU, CMoreU, CCont, fltV, Ev.panK, uhC_wp, uhK_ok, uhK_error, map_ok, map_error, strA, unStr_rows, strRows_len, List.length_append, ↓Ev.P, Ev.Q, Ev.Z, simprocAttr]))
             all_goals try omega
             refine xLoop_intro (fun n2 st => (n2 = 2 ∧ st = ⟨[(0, .ptr 0 0), (1, .ptr 1 0), (4, .ptr 2 0), (6, .ptr 3 0), (8, .d (.v (.bool true))), (40, .agg [.d (.v (.bool true)), .d (.v (.bool false))]), (41, .d (.v (.int .i64 0)))], 4, [(0, .cells t [.d (.sl (strRows L)), .d (.v (.int .i64 ((k : Int) + 1)))]), (1, .cells t2 [.d (.v (.int .i64 o)), .d (.v (.int .i64 f))]), (2, .cells 103 [.d (.v (.int .u8 0)), .d (.v (.string ⟨#[]⟩))]), (3, .cells 103 [.d (.v (.int .u8 45)), .d (.v (.string ⟨r.toArray⟩))])]⟩) ∨ (n2 = 1 ∧ st = ⟨[(0, .ptr 0 0), (1, .ptr 1 0), (4, .ptr 2 0), (6, .ptr 3 0), (8, .d (.v (.bool false))), (40, .agg [.d (.v (.bool true)), .d (.v (.bool false))]), (41, .d (.v (.int .i64 1)))], 4, [(0, .cells t [.d (.sl (strRows L)), .d (.v (.int .i64 ((k : Int) + 1)))]), (1, .cells t2 [.d (.v (.int .i64 (o - 1))), .d (.v (.int .i64 f))]), (2, .cells 103 [.d (.v (.int .u8 0)), .d (.v (.string ⟨#[]⟩))]), (3, .cells 103 [.d (.v (.int .u8 45)), .d (.v (.string ⟨r.toArray⟩))])]⟩) ∨ (n2 = 0 ∧ st = ⟨[(0, .ptr 0 0), (1, .ptr 1 0), (4, .ptr 2 0), (6, .ptr 3 0), (8, .d (.v (.bool false))), (40, .agg [.d (.v (.bool true)), .d (.v (.bool false))]), (41, .d (.v (.int .i64 2)))], 4, [(0, .cells t [.d (.sl (strRows L)), .d (.v (.int .i64 ((k : Int) + 1)))]), (1, .cells t2 [.d (.v (.int .i64 (o - 1))), .d (.v (.int .i64 f))]), (2, .cells 103 [.d (.v (.int .u8 0)), .d (.v (.string ⟨#[]⟩))]), (3, .cells 103 [.d (.v (.int .u8 45)), .d (.v (.string ⟨r.toArray⟩))])]⟩)) 2 [0, 1, 2, 3] ?_ ?_ ?_
             · simp -dsimp -implicitDefEqProofs only [↓Ev.xStp_eq, ↓Ev.P, Ev.Q, Ev.Z, simprocAttr]
             · simp -dsimp -implicitDefEqProofs only [↓Ev.xStp_eq, ↓Ev.P, Ev.Q, Ev.Z, simprocAttr]
               all_goals first | exact .inl ⟨rfl, rfl⟩ | exact .inl rfl | exact ⟨rfl, rfl⟩ | rfl | trivial
             · rintro n2 st2 (⟨rfl, rfl⟩ | ⟨rfl, rfl⟩ | ⟨rfl, rfl⟩)
               · have _t := trivial
                 simp -dsimp -implicitDefEqProofs only [S168, R168, q1, q2, impF, CNextU, CStopU, CMoreU, CCont, fltV, Ev.panK, uhC_wp, uhK_ok, uhK_error, map_ok, map_error, strA, unStr_rows, strRows_len, List.length_append, ↓Ev.P, Ev.Q, Ev.Z, simprocAttr]
                 repeat' (first | with_reducible assumption | refine And.intro ?_ ?_ | intro _ | (rw [Ev.xStp_eq]; simp -dsimp -implicitDefEqProofs only [q1, q2, impF, CNextU, CStopU, CMoreU, CCont, fltV, Ev.panK, uhC_wp, uhK_ok, uhK_error, map_ok, map_error, strA, unStr_rows, strRows_len, List.length_append, ↓Ev.P, Ev.Q, Ev.Z, simprocAttr]))
                 all_goals try omega
                 all_goals refine xAgain_intro 1 [0, 1, 2, 3] (by omega) (by simp -dsimp -implicitDefEqProofs only [↓Ev.xStp_eq, ↓Ev.P, Ev.Q, Ev.Z, simprocAttr]) (.inr (.inl ⟨rfl, ?_⟩))
                 all_goals simp -dsimp -implicitDefEqProofs only [↓Ev.xStp_eq, ↓Ev.P, Ev.Q, Ev.Z, simprocAttr]
                 all_goals rfl
               · have _t := trivial
                 simp -dsimp -implicitDefEqProofs only [S168, R168, q1, q2, impF, CNextU, CStopU, CMoreU, CCont, fltV, Ev.panK, uhC_wp, uhK_ok, uhK_error, map_ok, map_error, strA, unStr_rows, strRows_len, List.length_append, ↓Ev.P, Ev.Q, Ev.Z, simprocAttr]
                 repeat' (first | with_reducible assumption | refine And.intro ?_ ?_ | intro _ | (rw [Ev.xStp_eq]; simp -dsimp -implicitDefEqProofs only [q1, q2, impF, CNextU, CStopU, CMoreU, CCont, fltV, Ev.panK, uhC_wp, uhK_ok, uhK_error, map_ok, map_error, strA, unStr_rows, strRows_len, List.length_append, ↓Ev.P, Ev.Q, Ev.Z, simprocAttr]))
                 all_goals try omega
                 all_goals refine xAgain_intro 0 [0, 1, 2, 3] (by omega) (by simp -dsimp -implicitDefEqProofs only [↓Ev.xStp_eq, ↓Ev.P, Ev.Q, Ev.Z, simprocAttr]) (.inr (.inr ⟨rfl, ?_⟩))
                 all_goals simp -dsimp -implicitDefEqProofs only [↓Ev.xStp_eq, ↓Ev.P, Ev.Q, Ev.Z, simprocAttr]
                 all_goals rfl
               · have _t := trivial
                 rw [if_neg (fun h => by have := h.1.1; omega)] at hk; dsimp only [lnK] at hk; simp only [ec] at hk
                 simp -dsimp -implicitDefEqProofs only [S168, R168, q1, q2, impF, CNextU, CStopU, CMoreU, CCont, fltV, Ev.panK, uhC_wp, uhK_ok, uhK_error, map_ok, map_error, strA, unStr_rows, strRows_len, List.length_append, ↓Ev.P, Ev.Q, Ev.Z, simprocAttr]
                 repeat' (first | with_reducible assumption | refine And.intro ?_ ?_ | intro _ | (rw [Ev.xStp_eq]; simp -dsimp -implicitDefEqProofs only [q1, q2, impF, CNextU, CStopU, CMoreU, CCont, fltV, Ev.panK, uhC_wp, uhK_ok, uhK_error, map_ok, map_error, strA, unStr_rows, strRows_len, List.length_append, ↓Ev.P, Ev.Q, Ev.Z, simprocAttr]))
                 all_goals try omega
                 all_goals exact hk
       · rw [if_neg hc] at hk
         have hc45 := hc; clear hc
         by_cases hc : c = 43
         · rw [if_pos hc] at hk
           have hcn : ((c.toNat : Nat) : Int) = 43 := by rw [hc]; rfl
           have hix : idxM 43 = 2 := rfl
           rw [hcn] at w32
           by_cases oz : f < 1
           · rw [if_pos oz] at hk
             have q3 : (f - 1 < 0) = True := eq_true (by omega)
             dsimp only [lnK] at hk; unfold fltV at hk; simp only [ec] at hk
             simp -dsimp -implicitDefEqProofs only [S168, R168, hx, hcn, w32, hix, impF, CNextU, CStopU, CMoreU, CCont, fltV, Ev.panK, uhC_wp, uhK_ok, uhK_error, map_ok, map_error, strA, unStr_rows, strRows_len, List.length_append, ↓Ev.P, Ev.Q, Ev.Z, simprocAttr]
             repeat' (first | with_reducible assumption | refine And.intro ?_ ?_ | intro _ | (rw [Ev.xStp_eq]; simp -dsimp -implicitDefEqProofs only [hx, hcn, w32, hix, impF, CNextU, CStopU, CMoreU, CCont, fltV, Ev.panK, uhC_wp, uhK_ok, uhK_error, map_ok, map_error, strA, unStr_rows, strRows_len, List.length_append, ↓Ev.P, Ev.Q, Ev.Z, simprocAttr]))
             all_goals try omega
             refine xLoop_intro (fun n2 st => (n2 = 2 ∧ st = ⟨[(0, .ptr 0 0), (1, .ptr 1 0), (4, .ptr 2 0), (6, .ptr 3 0), (8, .d (.v (.bool true))), (40, .agg [.d (.v (.bool false)), .d (.v (.bool true))]), (41, .d (.v (.int .i64 0)))], 4, [(0, .cells t [.d (.sl (strRows L)), .d (.v (.int .i64 ((k : Int) + 1)))]), (1, .cells t2 [.d (.v (.int .i64 o)), .d (.v (.int .i64 f))]), (2, .cells 103 [.d (.v (.int .u8 0)), .d (.v (.string ⟨#[]⟩))]), (3, .cells 103 [.d (.v (.int .u8 43)), .d (.v (.string ⟨r.toArray⟩))])]⟩) ∨ (n2 = 1 ∧ st = ⟨[(0, .ptr 0 0), (1, .ptr 1 0), (4, .ptr 2 0), (6, .ptr 3 0), (8, .d (.v (.bool true))), (40, .agg [.d (.v (.bool false)), .d (.v (.bool true))]), (41, .d (.v (.int .i64 1)))], 4, [(0, .cells t [.d (.sl (strRows L)), .d (.v (.int .i64 ((k : Int) + 1)))]), (1, .cells t2 [.d (.v (.int .i64 o)), .d (.v (.int .i64 f))]), (2, .cells 103 [.d (.v (.int .u8 0)), .d (.v (.string ⟨#[]⟩))]), (3, .cells 103 [.d (.v (.int .u8 43)), .d (.v (.string ⟨r.toArray⟩))])]⟩)) 2 [0, 1, 2, 3] ?_ ?_ ?_
             · simp -dsimp -implicitDefEqProofs only [↓Ev.xStp_eq, ↓Ev.P, Ev.Q, Ev.Z, simprocAttr]
             · simp -dsimp -implicitDefEqProofs only [↓Ev.xStp_eq, ↓Ev.P, Ev.Q, Ev.Z, simprocAttr]
               all_goals first | exact .inl ⟨rfl, rfl⟩ | exact .inl rfl | exact ⟨rfl, rfl⟩ | rfl | trivial
             · rintro n2 st2 (⟨rfl, rfl⟩ | ⟨rfl, rfl⟩)
               · have _t := trivial
                 simp -dsimp -implicitDefEqProofs only [S168, R168, q3, impF, CNextU, CStopU, CMoreU, CCont, fltV, Ev.panK, uhC_wp, uhK_ok, uhK_error, map_ok, map_error, strA, unStr_rows, strRows_len, List.length_append, ↓Ev.P, Ev.Q, Ev.Z, simprocAttr]
                 repeat' (first | with_reducible assumption | refine And.intro ?_ ?_ | intro _ | (rw [Ev.xStp_eq]; simp -dsimp -implicitDefEqProofs only [q3, impF, CNextU, CStopU, CMoreU, CCont, fltV, Ev.panK, uhC_wp, uhK_ok, uhK_error, map_ok, map_error, strA, unStr_rows, strRows_len, List.length_append, ↓Ev.P, Ev.Q, Ev.Z, simprocAttr]))
                 all_goals try omega
                 all_goals refine xAgain_intro 1 [0, 1, 2, 3] (by omega) (by simp -dsimp -implicitDefEqProofs only [↓Ev.xStp_eq, ↓Ev.P, Ev.Q, Ev.Z, simprocAttr]) (.inr ⟨rfl, ?_⟩)
                 all_goals simp -dsimp -implicitDefEqProofs only [↓Ev.xStp_eq, ↓Ev.P, Ev.Q, Ev.Z, simprocAttr]
                 all_goals rfl
               · have _t := trivial
                 simp -dsimp -implicitDefEqProofs only [S168, R168, q3, impF, CNextU, CStopU, CMoreU, CCont, fltV, Ev.panK, uhC_wp, uhK_ok, uhK_error, map_ok, map_error, strA, unStr_rows, strRows_len, List.length_append, ↓Ev.P, Ev.Q, Ev.Z, simprocAttr]
                 repeat' (first | with_reducible assumption | refine And.intro ?_ ?_ | intro _ | (rw [Ev.xStp_eq]; simp -dsimp -implicitDefEqProofs only [q3, impF, CNextU, CStopU, CMoreU, CCont, fltV, Ev.panK, uhC_wp, uhK_ok, uhK_error, map_ok, map_error, strA, unStr_rows, strRows_len, List.length_append, ↓Ev.P, Ev.Q, Ev.Z, simprocAttr]))
                 all_goals try omega
                 all_goals exact hk _ _ _
           · rw [if_neg oz] at hk
             by_cases oe : f = 1
             · have _t := trivial
               have q3 : (f - 1 < 0) = False := eq_false (by omega)
               have q4 : (f - 1 = 0) = True := eq_true (by omega)
               simp -dsimp -implicitDefEqProofs only [S168, R168, hx, hcn, w32, hix, impF, CNextU, CStopU, CMoreU, CCont, fltV, Ev.panK, uhC_wp, uhK_ok, uhK_error, map_ok, map_error, strA, unStr_rows, strRows_len, List.length_append, ↓Ev.P, Ev.Q, Ev.Z, simprocAttr]
               repeat' (first | with_reducible assumption | refine And.intro ?_ ?_ | intro _ | (rw [Ev.xStp_eq]; simp -dsimp -implicitDefEqProofs only [hx, hcn, w32, hix, impF, CNextU, CStopU, CMoreU, CCont, fltV, Ev.panK, uhC_wp, uhK_ok, uhK_error, map_ok, map_error, strA, unStr_rows, strRows_len, List.length_append, ↓Ev.P, Ev.Q, Ev.Z, simprocAttr]))
               all_goals try omega
               refine xLoop_intro (fun n2 st => (n2 = 2 ∧ st = ⟨[(0, .ptr 0 0), (1, .ptr 1 0), (4, .ptr 2 0), (6, .ptr 3 0), (8, .d (.v (.bool true))), (40, .agg [.d (.v (.bool false)), .d (.v (.bool true))]), (41, .d (.v (.int .i64 0)))], 4, [(0, .cells t [.d (.sl (strRows L)), .d (.v (.int .i64 ((k : Int) + 1)))]), (1, .cells t2 [.d (.v (.int .i64 o)), .d (.v (.int .i64 f))]), (2, .cells 103 [.d (.v (.int .u8 0)), .d (.v (.string ⟨#[]⟩))]), (3, .cells 103 [.d (.v (.int .u8 43)), .d (.v (.string ⟨r.toArray⟩))])]⟩) ∨ (n2 = 1 ∧ st = ⟨[(0, .ptr 0 0), (1, .ptr 1 0), (4, .ptr 2 0), (6, .ptr 3 0), (8, .d (.v (.bool true))), (40, .agg [.d (.v (.bool false)), .d (.v (.bool true))]), (41, .d (.v (.int .i64 1)))], 4, [(0, .cells t [.d (.sl (strRows L)), .d (.v (.int .i64 ((k : Int) + 1)))]), (1, .cells t2 [.d (.v (.int .i64 o)), .d (.v (.int .i64 f))]), (2, .cells 103 [.d (.v (.int .u8 0)), .d (.v (.string ⟨#[]⟩))]), (3, .cells 103 [.d (.v (.int .u8 43)), .d (.v (.string ⟨r.toArray⟩))])]⟩) ∨ (n2 = 0 ∧ st = ⟨[(0, .ptr 0 0), (1, .ptr 1 0), (4, .ptr 2 0), (6, .ptr 3 0), (8, .d (.v (.bool true))), (40, .agg [.d (.v (.bool false)), .d (.v (.bool true))]), (41, .d (.v (.int .i64 2)))], 4, [(0, .cells t [.d (.sl (strRows L)), .d (.v (.int .i64 ((k : Int) + 1)))]), (1, .cells t2 [.d (.v (.int .i64 o)), .d (.v (.int .i64 (f - 1)))]), (2, .cells 103 [.d (.v (.int .u8 0)), .d (.v (.string ⟨#[]⟩))]), (3, .cells 103 [.d (.v (.int .u8 43)), .d (.v (.string ⟨r.toArray⟩))])]⟩)) 2 [0, 1, 2, 3] ?_ ?_ ?_
               · simp -dsimp -implicitDefEqProofs only [↓Ev.xStp_eq, ↓Ev.P, Ev.Q, Ev.Z, simprocAttr]
               · simp -dsimp -implicitDefEqProofs only [↓Ev.xStp_eq, ↓Ev.P, Ev.Q, Ev.Z, simprocAttr]
                 all_goals first | exact .inl ⟨rfl, rfl⟩ | exact .inl rfl | exact ⟨rfl, rfl⟩ | rfl | trivial
               · rintro n2 st2 (⟨rfl, rfl⟩ | ⟨rfl, rfl⟩ | ⟨rfl, rfl⟩)
                 · have _t := trivial
                   simp -dsimp -implicitDefEqProofs only [S168, R168, q3, q4, impF, CNextU, CStopU, CMoreU, CCont, fltV, Ev.panK, uhC_wp, uhK_ok, uhK_error, map_ok, map_error, strA, unStr_rows, strRows_len, List.length_append, ↓Ev.P, Ev.Q, Ev.Z, simprocAttr]
                   repeat' (first | with_reducible assumption | refine And.intro ?_ ?_ | intro _ | (rw [Ev.xStp_eq]; simp -dsimp -implicitDefEqProofs only [q3, q4, impF, CNextU, CStopU, CMoreU, CCont, fltV, Ev.panK, uhC_wp, uhK_ok, uhK_error, map_ok, map_error, strA, unStr_rows, strRows_len, List.length_append, ↓Ev.P, Ev.Q, Ev.Z, simprocAttr]))
                   all_goals try omega
                   all_goals refine xAgain_intro 1 [0, 1, 2, 3] (by omega) (by simp -dsimp -implicitDefEqProofs only [↓Ev.xStp_eq, ↓Ev.P, Ev.Q, Ev.Z, simprocAttr]) (.inr (.inl ⟨rfl, ?_⟩))
                   all_goals simp -dsimp -implicitDefEqProofs only [↓Ev.xStp_eq, ↓Ev.P, Ev.Q, Ev.Z, simprocAttr]
                   all_goals rfl
                 · have _t := trivial
                   simp -dsimp -implicitDefEqProofs only [S168, R168, q3, q4, impF, CNextU, CStopU, CMoreU, CCont, fltV, Ev.panK, uhC_wp, uhK_ok, uhK_error, map_ok, map_error, strA, unStr_rows, strRows_len, List.length_append, ↓Ev.P, Ev.Q, Ev.Z, simprocAttr]
                   repeat' (first | with_reducible assumption | refine And.intro ?_ ?_ | intro _ | (rw [Ev.xStp_eq]; simp -dsimp -implicitDefEqProofs only [q3, q4, impF, CNextU, CStopU, CMoreU, CCont, fltV, Ev.panK, uhC_wp, uhK_ok, uhK_error, map_ok, map_error, strA, unStr_rows, strRows_len, List.length_append, ↓Ev.P, Ev.Q, Ev.Z, simprocAttr]))
                   all_goals try omega
                   all_goals refine xAgain_intro 0 [0, 1, 2, 3] (by omega) (by simp -dsimp -implicitDefEqProofs only [↓Ev.xStp_eq, ↓Ev.P, Ev.Q, Ev.Z, simprocAttr]) (.inr (.inr ⟨rfl, ?_⟩))
                   all_goals simp -dsimp -implicitDefEqProofs only [↓Ev.xStp_eq, ↓Ev.P, Ev.Q, Ev.Z, simprocAttr]
                   all_goals rfl
                 · have _t := trivial
                   by_cases hr : r = []
                   · rw [if_neg (fun h => h.1.2 hr)] at hk; dsimp only [lnK] at hk; simp only [ec] at hk
                     simp -dsimp -implicitDefEqProofs only [S168, R168, q3, q4, hr, impF, CNextU, CStopU, CMoreU, CCont, fltV, Ev.panK, uhC_wp, uhK_ok, uhK_error, map_ok, map_error, strA, unStr_rows, strRows_len, List.length_append, ↓Ev.P, Ev.Q, Ev.Z, simprocAttr]
                     repeat' (first | with_reducible assumption | refine And.intro ?_ ?_ | intro _ | (rw [Ev.xStp_eq]; simp -dsimp -implicitDefEqProofs only [q3, q4, hr, impF, CNextU, CStopU, CMoreU, CCont, fltV, Ev.panK, uhC_wp, uhK_ok, uhK_error, map_ok, map_error, strA, unStr_rows, strRows_len, List.length_append, ↓Ev.P, Ev.Q, Ev.Z, simprocAttr]))
                     all_goals try omega
                     all_goals first | exact hk | (simp only [hr] at hk ⊢; exact hk)
                   · by_cases hb2 : k + 1 < L.length
                     · have hl2 : (((k : Int) + 1) < (L.length : Int)) = True := eq_true (by omega)
                       have hg := strRows_get hb2
                       have hg2 : (strRows L).getD (k + 1) [] = [.v (.string ⟨(L.getD (k + 1) []).toArray⟩)] := by rw [List.getD_eq_getElem?_getD, hg]; rfl
                       have e1 : ((k : Int) + 1).toNat = k + 1 := by omega
                       by_cases hm : L.getD (k + 1) [] = markS
                       · have hl3 : (L.getD (k + 1) [] = [92, 32, 78, 111, 32, 110, 101, 119, 108, 105, 110, 101, 32, 97, 116, 32, 101, 110, 100, 32, 111, 102, 32, 102, 105, 108, 101, 10]) = True := eq_true hm
                         rw [if_pos ⟨⟨by omega, hr⟩, hb2, hm⟩] at hk; dsimp only [lnK] at hk; simp only [ec2] at hk
                         simp -dsimp -implicitDefEqProofs only [S168, R168, q3, q4, hr, hl2, hl3, hg, hg2, e1, impF, CNextU, CStopU, CMoreU, CCont, fltV, Ev.panK, uhC_wp, uhK_ok, uhK_error, map_ok, map_error, strA, unStr_rows, strRows_len, List.length_append, ↓Ev.P, Ev.Q, Ev.Z, simprocAttr]
                         repeat' (first | with_reducible assumption | refine And.intro ?_ ?_ | intro _ | (rw [Ev.xStp_eq]; simp -dsimp -implicitDefEqProofs only [q3, q4, hr, hl2, hl3, hg, hg2, e1, impF, CNextU, CStopU, CMoreU, CCont, fltV, Ev.panK, uhC_wp, uhK_ok, uhK_error, map_ok, map_error, strA, unStr_rows, strRows_len, List.length_append, ↓Ev.P, Ev.Q, Ev.Z, simprocAttr]))
                         all_goals try omega
                         all_goals exact hk
                       · have hl3 : (L.getD (k + 1) [] = [92, 32, 78, 111, 32, 110, 101, 119, 108, 105, 110, 101, 32, 97, 116, 32, 101, 110, 100, 32, 111, 102, 32, 102, 105, 108, 101, 10]) = False := eq_false hm
                         rw [if_neg (fun h => hm h.2.2)] at hk; dsimp only [lnK] at hk; simp only [ec] at hk
                         simp -dsimp -implicitDefEqProofs only [S168, R168, q3, q4, hr, hl2, hl3, hg, hg2, e1, impF, CNextU, CStopU, CMoreU, CCont, fltV, Ev.panK, uhC_wp, uhK_ok, uhK_error, map_ok, map_error, strA, unStr_rows, strRows_len, List.length_append, ↓Ev.P, Ev.Q, Ev.Z, simprocAttr]
                         repeat' (first | with_reducible assumption | refine And.intro ?_ ?_ | intro _ | (rw [Ev.xStp_eq]; simp -dsimp -implicitDefEqProofs only [q3, q4, hr, hl2, hl3, hg, hg2, e1, impF, CNextU, CStopU, CMoreU, CCont, fltV, Ev.panK, uhC_wp, uhK_ok, uhK_error, map_ok, map_error, strA, unStr_rows, strRows_len, List.length_append, ↓Ev.P, Ev.Q, Ev.Z, simprocAttr]))
                         all_goals try omega
                         all_goals exact hk
                     · have hl2 : (((k : Int) + 1) < (L.length : Int)) = False := eq_false (by omega)
                       rw [if_neg (fun h => hb2 h.2.1)] at hk; dsimp only [lnK] at hk; simp only [ec] at hk
                       simp -dsimp -implicitDefEqProofs only [S168, R168, q3, q4, hr, hl2, impF, CNextU, CStopU, CMoreU, CCont, fltV, Ev.panK, uhC_wp, uhK_ok, uhK_error, map_ok, map_error, strA, unStr_rows, strRows_len, List.length_append, ↓Ev.P, Ev.Q, Ev.Z, simprocAttr]
                       repeat' (first | with_reducible assumption | refine And.intro ?_ ?_ | intro _ | (rw [Ev.xStp_eq]; simp -dsimp -implicitDefEqProofs only [q3, q4, hr, hl2, impF, CNextU, CStopU, CMoreU, CCont, fltV, Ev.panK, uhC_wp, uhK_ok, uhK_error, map_ok, map_error, strA, unStr_rows, strRows_len, List.length_append, ↓Ev.P, Ev.Q, Ev.Z, simprocAttr]))
                       all_goals try omega
                       all_goals exact hk
             · have _t := trivial
               have q3 : (f - 1 < 0) = False := eq_false (by omega)
               have q4 : (f - 1 = 0) = False := eq_false (by omega)
               simp -dsimp -implicitDefEqProofs only [S168, R168, hx, hcn, w32, hix, impF, CNextU, CStopU, CMoreU, CCont, fltV, Ev.panK, uhC_wp, uhK_ok, uhK_error, map_ok, map_error, strA, unStr_rows, strRows_len, List.length_append, ↓Ev.P, Ev.Q, Ev.Z, simprocAttr]
               repeat' (first | with_reducible assumption | refine And.intro ?_ ?_ | intro _ | (rw [Ev.xStp_eq]; simp -dsimp -implicitDefEqProofs only [hx, hcn, w32, hix, impF, CNextU, CStopU, CMoreU, CCont, fltV, Ev.panK, uhC_wp, uhK_ok, uhK_error, map_ok, map_error, strA, unStr_rows, strRows_len, List.length_append, ↓Ev.P, Ev.Q, Ev.Z, simprocAttr]))
               all_goals try omega
               refine xLoop_intro (fun n2 st => (n2 = 2 ∧ st = ⟨[(0, .ptr 0 0), (1, .ptr 1 0), (4, .ptr 2 0), (6, .ptr 3 0), (8, .d (.v (.bool true))), (40, .agg [.d (.v (.bool false)), .d (.v (.bool true))]), (41, .d (.v (.int .i64 0)))], 4, [(0, .cells t [.d (.sl (strRows L)), .d (.v (.int .i64 ((k : Int) + 1)))]), (1, .cells t2 [.d (.v (.int .i64 o)), .d (.v (.int .i64 f))]), (2, .cells 103 [.d (.v (.int .u8 0)), .d (.v (.string ⟨#[]⟩))]), (3, .cells 103 [.d (.v (.int .u8 43)), .d (.v (.string ⟨r.toArray⟩))])]⟩) ∨ (n2 = 1 ∧ st = ⟨[(0, .ptr 0 0), (1, .ptr 1 0), (4, .ptr 2 0), (6, .ptr 3 0), (8, .d (.v (.bool true))), (40, .agg [.d (.v (.bool false)), .d (.v (.bool true))]), (41, .d (.v (.int .i64 1)))], 4, [(0, .cells t [.d (.sl (strRows L)), .d (.v (.int .i64 ((k : Int) + 1)))]), (1, .cells t2 [.d (.v (.int .i64 o)), .d (.v (.int .i64 f))]), (2, .cells 103 [.d (.v (.int .u8 0)), .d (.v (.string ⟨#[]⟩))]), (3, .cells 103 [.d (.v (.int .u8 43)), .d (.v (.string ⟨r.toArray⟩))])]⟩) ∨ (n2 = 0 ∧ st = ⟨[(0, .ptr 0 0), (1, .ptr 1 0), (4, .ptr 2 0), (6, .ptr 3 0), (8, .d (.v (.bool false))), (40, .agg [.d (.v (.bool false)), .d (.v (.bool true))]), (41, .d (.v (.int .i64 2)))], 4, [(0, .cells t [.d (.sl (strRows L)), .d (.v (.int .i64 ((k : Int) + 1)))]), (1, .cells t2 [.d (.v (.int .i64 o)), .d (.v (.int .i64 (f - 1)))]), (2, .cells 103 [.d (.v (.int .u8 0)), .d (.v (.string ⟨#[]⟩))]), (3, .cells 103 [.d (.v (.int .u8 43)), .d (.v (.string ⟨r.toArray⟩))])]⟩)) 2 [0, 1, 2, 3] ?_ ?_ ?_
               · simp -dsimp -implicitDefEqProofs only [↓Ev.xStp_eq, ↓Ev.P, Ev.Q, Ev.Z, simprocAttr]
               · simp -dsimp -implicitDefEqProofs only [↓Ev.xStp_eq, ↓Ev.P, Ev.Q, Ev.Z, simprocAttr]
                 all_goals first | exact .inl ⟨rfl, rfl⟩ | exact .inl rfl | exact ⟨rfl, rfl⟩ | rfl | trivial
               · rintro n2 st2 (⟨rfl, rfl⟩ | ⟨rfl, rfl⟩ | ⟨rfl, rfl⟩)
                 · have _t := trivial
                   simp -dsimp -implicitDefEqProofs only [S168, R168, q3, q4, impF, CNextU, CStopU, CMoreU, CCont, fltV, Ev.panK, uhC_wp, uhK_ok, uhK_error, map_ok, map_error, strA, unStr_rows, strRows_len, List.length_append, ↓Ev.P, Ev.Q, Ev.Z, simprocAttr]
                   repeat' (first | with_reducible assumption | refine And.intro ?_ ?_ | intro _ | (rw [Ev.xStp_eq]; simp -dsimp -implicitDefEqProofs only [q3, q4, impF, CNextU, CStopU, CMoreU, CCont, fltV, Ev.panK, uhC_wp, uhK_ok, uhK_error, map_ok, map_error, strA, unStr_rows, strRows_len, List.length_append, ↓Ev.P, Ev.Q, Ev.Z, simprocAttr]))
                   all_goals try omega
                   all_goals refine xAgain_intro 1 [0, 1, 2, 3] (by omega) (by simp -dsimp -implicitDefEqProofs only [↓Ev.xStp_eq, ↓Ev.P, Ev.Q, Ev.Z, simprocAttr]) (.inr (.inl ⟨rfl, ?_⟩))
                   all_goals simp -dsimp -implicitDefEqProofs only [↓Ev.xStp_eq, ↓Ev.P, Ev.Q, Ev.Z, simprocAttr]
                   all_goals rfl
                 · have _t := trivial
                   simp -dsimp -implicitDefEqProofs only [S168, R168, q3, q4, impF, CNextU, CStopU, CMoreU, CCont, fltV, Ev.panK, uhC_wp, uhK_ok, uhK_error, map_ok, map_error, strA, unStr_rows, strRows_len, List.length_append, ↓Ev.P, Ev.Q, Ev.Z, simprocAttr]
                   repeat' (first | with_reducible assumption | refine And.intro ?_ ?_ | intro _ | (rw [Ev.xStp_eq]; simp -dsimp -implicitDefEqProofs only [q3, q4, impF, CNextU, CStopU, CMoreU, CCont, fltV, Ev.panK, uhC_wp, uhK_ok, uhK_error, map_ok, map_error, strA, unStr_rows, strRows_len, List.length_append, ↓Ev.P, Ev.Q, Ev.Z, simprocAttr]))
                   all_goals try omega
                   all_goals refine xAgain_intro 0 [0, 1, 2, 3] (by omega) (by simp -dsimp -implicitDefEqProofs only [↓Ev.xStp_eq, ↓Ev.P, Ev.Q, Ev.Z, simprocAttr]) (.inr (.inr ⟨rfl, ?_⟩))
                   all_goals simp -dsimp -implicitDefEqProofs only [↓Ev.xStp_eq, ↓Ev.P, Ev.Q, Ev.Z, simprocAttr]
                   all_goals rfl
                 · have _t := trivial
                   rw [if_neg (fun h => by have := h.1.1; omega)] at hk; dsimp only [lnK] at hk; simp only [ec] at hk
                   simp -dsimp -implicitDefEqProofs only [S168, R168, q3, q4, impF, CNextU, CStopU, CMoreU, CCont, fltV, Ev.panK, uhC_wp, uhK_ok, uhK_error, map_ok, map_error, strA, unStr_rows, strRows_len, List.length_append, ↓Ev.P, Ev.Q, Ev.Z, simprocAttr]
                   repeat' (first | with_reducible assumption | refine And.intro ?_ ?_ | intro _ | (rw [Ev.xStp_eq]; simp -dsimp -implicitDefEqProofs only [q3, q4, impF, CNextU, CStopU, CMoreU, CCont, fltV, Ev.panK, uhC_wp, uhK_ok, uhK_error, map_ok, map_error, strA, unStr_rows, strRows_len, List.length_append, ↓Ev.P, Ev.Q, Ev.Z, simprocAttr]))
                   all_goals try omega
                   all_goals exact hk
         · rw [if_neg hc] at hk
           have hix := idxM_no hc32 hc45 hc
           have hcl := c.toNat_lt
           dsimp only [lnK] at hk; unfold fltV at hk; simp only [ec] at hk
           simp -dsimp -implicitDefEqProofs only [S168, R168, hx, w32, hix, impF, CNextU, CStopU, CMoreU, CCont, fltV, Ev.panK, uhC_wp, uhK_ok, uhK_error, map_ok, map_error, strA, unStr_rows, strRows_len, List.length_append, ↓Ev.P, Ev.Q, Ev.Z, simprocAttr]
           repeat' (first | with_reducible assumption | refine And.intro ?_ ?_ | intro _ | (rw [Ev.xStp_eq]; simp -dsimp -implicitDefEqProofs only [hx, w32, hix, impF, CNextU, CStopU, CMoreU, CCont, fltV, Ev.panK, uhC_wp, uhK_ok, uhK_error, map_ok, map_error, strA, unStr_rows, strRows_len, List.length_append, ↓Ev.P, Ev.Q, Ev.Z, simprocAttr]))
           all_goals try omega
           all_goals exact hk _ _ _
theorem lnK_ok {t t2 : TypeId} {rows : List (List D)} {K : Out → Store → Prop} {m : Mk} {o f : Int} {a : Nat} : lnK t t2 rows K (.ok ((m, o, f), a)) = K (.ret (.agg [.d (.v (.int .u8 m.1)), .d (.v (.string ⟨m.2.toArray⟩))])) ⟨2, [(0, .cells t [.d (.sl rows), .d (.v (.int .i64 (a : Nat)))]), (1, .cells t2 [.d (.v (.int .i64 o)), .d (.v (.int .i64 f))])]⟩ := rfl
theorem lnK_err {t t2 : TypeId} {rows : List (List D)} {K : Out → Store → Prop} {a e : Int} : lnK t t2 rows K (.error (a, e)) = ∀ i o f : Int, K (.pan (.d (fltV a e))) ⟨2, [(0, .cells t [.d (.sl rows), .d (.v (.int .i64 i))]), (1, .cells t2 [.d (.v (.int .i64 o)), .d (.v (.int .i64 f))])]⟩ := rfl
def CHunkU : Contract := uhC fun L at_ rest => match rest with
 | [.d (.v (.int .i64 ahead))] => some (((0 ≤ at_ ∧ at_ ≤ L.length) ∧ smL L ∧ ∀ x ∈ L, x.length ≤ 1048576), (hkU L ahead at_.toNat).map hkA)
 | _ => none
theorem any_snocM (ms : List Mk) (m : Mk) : (ms ++ [m]).any chgM = (ms.any chgM || chgM m) := by simp
set_option maxHeartbeats 64000000 in
theorem s122 (hE : ∀ w, G w → ErrR w) (hM : ∀ w, G w → MaxL w) : Sound G Tryz.prog 122 CHunkU := by
 refine sd122 (T := tabT [(164, CNextU), (167, CHead), (120, CStopU), (168, CLnP)]) (tab_cons s164 (tab_cons (s167 hE hM) (tab_cons s120 (tab_cons s168 tab_nil)))) (uhC_lawful _) (uh_hX fun t L at_ rest pp z K h hp hk => ?_)
 split at h <;> simp only [Option.some.injEq, Prod.mk.injEq, reduceCtorEq] at h
 obtain ⟨rfl, rfl⟩ := h
 rename_i ahead
 obtain ⟨⟨h1, h3⟩, ⟨hLl, hL⟩, hL1⟩ := hp
 have hsm : smL L := ⟨hLl, hL⟩
 obtain ⟨k0, rfl⟩ := Int.eq_ofNat_of_zero_le h1
 rw [Int.toNat_natCast] at hk
 refine ⟨Nat.le_of_ble_eq_true rfl, ?_⟩
 unfold hkU at hk
 cases hx : nextL L k0 with
 | error xe =>
   obtain ⟨xa, xe⟩ := xe
   rw [hx] at hk; dsimp only at hk; rw [map_error, uhK_error] at hk; unfold fltV at hk
   simp -dsimp -implicitDefEqProofs only [S122, S122_0, S122r1, S122_1, S122r2, S122_2, S122r3, S122_3, S122r4, S122_4, S122r5, S122_5, S122r6, S122_6, S122r7, S122_7, S122r8, R122, hx, impF, CNextU, CStopU, CHead, CLnP_wp, lnK_ok, lnK_err, hkA, fltV, Ev.panK, uhC_wp, uhK_ok, uhK_error, map_ok, map_error, strA, unStr_rows, strRows_len, mkRows_len, mkRows_all, List.length_append, ↓Ev.P, Ev.Q, Ev.Z, simprocAttr]
   repeat' (first | with_reducible assumption | refine And.intro ?_ ?_ | intro _ | (rw [Ev.xStp_eq]; simp -dsimp -implicitDefEqProofs only [S122, S122_0, S122r1, S122_1, S122r2, S122_2, S122r3, S122_3, S122r4, S122_4, S122r5, S122_5, S122r6, S122_6, S122r7, S122_7, S122r8, R122, hx, impF, CNextU, CStopU, CHead, CLnP_wp, lnK_ok, lnK_err, hkA, fltV, Ev.panK, uhC_wp, uhK_ok, uhK_error, map_ok, map_error, strA, unStr_rows, strRows_len, mkRows_len, mkRows_all, List.length_append, ↓Ev.P, Ev.Q, Ev.Z, simprocAttr]))
   all_goals try omega
   all_goals first | exact hk | exact hk _
 | ok x =>
   obtain ⟨s, a⟩ := x
   obtain ⟨rfl, hlt, hs⟩ := nextL_le hx
   have hsz := hL1 _ (getD_in hlt)
   have hsl : s.length ≤ 1048576 := by rw [hs]; exact Nat.le_trans (bare_len _) hsz
   rw [hx] at hk; dsimp only at hk
   clear hs hsz
   have ec : ((k0 + 1 : Nat) : Int) = (k0 : Int) + 1 := by omega
   cases hcm : hdU s with
   | none =>
     have hcA : hdA s = .tup [.agg [.d (.v (.int .i64 (hdQ s).1)), .d (.v (.int .i64 (hdQ s).2.1)), .d (.v (.int .i64 (hdQ s).2.2.1)), .d (.v (.int .i64 (hdQ s).2.2.2)), .own 0], .d (.v (.bool false))] := by rw [hdA, hcm]; rfl
     rw [hcm] at hk; dsimp only at hk; rw [map_error, uhK_error] at hk; unfold fltV at hk; simp only [ec] at hk
     simp -dsimp -implicitDefEqProofs only [S122, S122_0, S122r1, S122_1, S122r2, S122_2, S122r3, S122_3, S122r4, S122_4, S122r5, S122_5, S122r6, S122_6, S122r7, S122_7, S122r8, R122, hx, hcA, impF, CNextU, CStopU, CHead, CLnP_wp, lnK_ok, lnK_err, hkA, fltV, Ev.panK, uhC_wp, uhK_ok, uhK_error, map_ok, map_error, strA, unStr_rows, strRows_len, mkRows_len, mkRows_all, List.length_append, ↓Ev.P, Ev.Q, Ev.Z, simprocAttr]
     repeat' (first | with_reducible assumption | refine And.intro ?_ ?_ | intro _ | (rw [Ev.xStp_eq]; simp -dsimp -implicitDefEqProofs only [S122, S122_0, S122r1, S122_1, S122r2, S122_2, S122r3, S122_3, S122r4, S122_4, S122r5, S122_5, S122r6, S122_6, S122r7, S122_7, S122r8, R122, hx, hcA, impF, CNextU, CStopU, CHead, CLnP_wp, lnK_ok, lnK_err, hkA, fltV, Ev.panK, uhC_wp, uhK_ok, uhK_error, map_ok, map_error, strA, unStr_rows, strRows_len, mkRows_len, mkRows_all, List.length_append, ↓Ev.P, Ev.Q, Ev.Z, simprocAttr]))
     all_goals try omega
     all_goals first | exact hk | exact hk _
   | some c =>
     have hcA : hdA s = .tup [.agg [.d (.v (.int .i64 c.1)), .d (.v (.int .i64 c.2.1)), .d (.v (.int .i64 c.2.2.1)), .d (.v (.int .i64 c.2.2.2)), .own 0], .d (.v (.bool true))] := by rw [hdA, hdQ_eq hcm, hcm]; rfl
     obtain ⟨d1, d2, d3, d4⟩ := hdU_bd hcm
     rw [hcm] at hk; dsimp only at hk
     clear hcm
     obtain ⟨A, AN, B, BN⟩ := c
     dsimp only at hcA d1 d2 d3 d4 hk
     by_cases ha : 4096 ≤ ahead
     · rw [if_pos ha] at hk; rw [map_error, uhK_error] at hk; unfold fltV at hk; simp only [ec] at hk
       simp -dsimp -implicitDefEqProofs only [S122, S122_0, S122r1, S122_1, S122r2, S122_2, S122r3, S122_3, S122r4, S122_4, S122r5, S122_5, S122r6, S122_6, S122r7, S122_7, S122r8, R122, hx, hcA, ha, impF, CNextU, CStopU, CHead, CLnP_wp, lnK_ok, lnK_err, hkA, fltV, Ev.panK, uhC_wp, uhK_ok, uhK_error, map_ok, map_error, strA, unStr_rows, strRows_len, mkRows_len, mkRows_all, List.length_append, ↓Ev.P, Ev.Q, Ev.Z, simprocAttr]
       repeat' (first | with_reducible assumption | refine And.intro ?_ ?_ | intro _ | (rw [Ev.xStp_eq]; simp -dsimp -implicitDefEqProofs only [S122, S122_0, S122r1, S122_1, S122r2, S122_2, S122r3, S122_3, S122r4, S122_4, S122r5, S122_5, S122r6, S122_6, S122r7, S122_7, S122r8, R122, hx, hcA, ha, impF, CNextU, CStopU, CHead, CLnP_wp, lnK_ok, lnK_err, hkA, fltV, Ev.panK, uhC_wp, uhK_ok, uhK_error, map_ok, map_error, strA, unStr_rows, strRows_len, mkRows_len, mkRows_all, List.length_append, ↓Ev.P, Ev.Q, Ev.Z, simprocAttr]))
       all_goals try omega
       all_goals first | exact hk | exact hk _
     · rw [if_neg ha] at hk
       by_cases r1 : A < 1 ∧ 0 < AN
       · have q1 : (A < min 1 AN) = True := eq_true (by omega)
         rw [if_pos (.inl r1)] at hk; rw [map_error, uhK_error] at hk; unfold fltV at hk; simp only [ec] at hk
         simp -dsimp -implicitDefEqProofs only [S122, S122_0, S122r1, S122_1, S122r2, S122_2, S122r3, S122_3, S122r4, S122_4, S122r5, S122_5, S122r6, S122_6, S122r7, S122_7, S122r8, R122, hx, hcA, ha, q1, impF, CNextU, CStopU, CHead, CLnP_wp, lnK_ok, lnK_err, hkA, fltV, Ev.panK, uhC_wp, uhK_ok, uhK_error, map_ok, map_error, strA, unStr_rows, strRows_len, mkRows_len, mkRows_all, List.length_append, ↓Ev.P, Ev.Q, Ev.Z, simprocAttr]
         repeat' (first | with_reducible assumption | refine And.intro ?_ ?_ | intro _ | (rw [Ev.xStp_eq]; simp -dsimp -implicitDefEqProofs only [S122, S122_0, S122r1, S122_1, S122r2, S122_2, S122r3, S122_3, S122r4, S122_4, S122r5, S122_5, S122r6, S122_6, S122r7, S122_7, S122r8, R122, hx, hcA, ha, q1, impF, CNextU, CStopU, CHead, CLnP_wp, lnK_ok, lnK_err, hkA, fltV, Ev.panK, uhC_wp, uhK_ok, uhK_error, map_ok, map_error, strA, unStr_rows, strRows_len, mkRows_len, mkRows_all, List.length_append, ↓Ev.P, Ev.Q, Ev.Z, simprocAttr]))
         all_goals try omega
         all_goals first | exact hk | exact hk _
       · have q1 : (A < min 1 AN) = False := eq_false (by omega)
         by_cases r2 : B < 1 ∧ 0 < BN
         · have q2 : (B < min 1 BN) = True := eq_true (by omega)
           rw [if_pos (.inr r2)] at hk; rw [map_error, uhK_error] at hk; unfold fltV at hk; simp only [ec] at hk
           simp -dsimp -implicitDefEqProofs only [S122, S122_0, S122r1, S122_1, S122r2, S122_2, S122r3, S122_3, S122r4, S122_4, S122r5, S122_5, S122r6, S122_6, S122r7, S122_7, S122r8, R122, hx, hcA, ha, q1, q2, impF, CNextU, CStopU, CHead, CLnP_wp, lnK_ok, lnK_err, hkA, fltV, Ev.panK, uhC_wp, uhK_ok, uhK_error, map_ok, map_error, strA, unStr_rows, strRows_len, mkRows_len, mkRows_all, List.length_append, ↓Ev.P, Ev.Q, Ev.Z, simprocAttr]
           repeat' (first | with_reducible assumption | refine And.intro ?_ ?_ | intro _ | (rw [Ev.xStp_eq]; simp -dsimp -implicitDefEqProofs only [S122, S122_0, S122r1, S122_1, S122r2, S122_2, S122r3, S122_3, S122r4, S122_4, S122r5, S122_5, S122r6, S122_6, S122r7, S122_7, S122r8, R122, hx, hcA, ha, q1, q2, impF, CNextU, CStopU, CHead, CLnP_wp, lnK_ok, lnK_err, hkA, fltV, Ev.panK, uhC_wp, uhK_ok, uhK_error, map_ok, map_error, strA, unStr_rows, strRows_len, mkRows_len, mkRows_all, List.length_append, ↓Ev.P, Ev.Q, Ev.Z, simprocAttr]))
           all_goals try omega
           all_goals first | exact hk | exact hk _
         · have q2 : (B < min 1 BN) = False := eq_false (by omega)
           rw [if_neg (fun h => h.elim r1 r2)] at hk
           generalize hY : lnsU L (AN + BN).toNat AN BN (k0 + 1) [] = Y at hk
           simp -dsimp -implicitDefEqProofs only [S122, S122_0, S122r1, S122_1, S122r2, S122_2, S122r3, S122_3, S122r4, S122_4, S122r5, S122_5, S122r6, S122_6, S122r7, S122_7, S122r8, R122, hx, hcA, ha, q1, q2, impF, CNextU, CStopU, CHead, CLnP_wp, lnK_ok, lnK_err, hkA, fltV, Ev.panK, uhC_wp, uhK_ok, uhK_error, map_ok, map_error, strA, unStr_rows, strRows_len, mkRows_len, mkRows_all, List.length_append, ↓Ev.P, Ev.Q, Ev.Z, simprocAttr]
           repeat' (first | with_reducible assumption | refine And.intro ?_ ?_ | intro _ | (rw [Ev.xStp_eq]; simp -dsimp -implicitDefEqProofs only [S122, S122_0, S122r1, S122_1, S122r2, S122_2, S122r3, S122_3, S122r4, S122_4, S122r5, S122_5, S122r6, S122_6, S122r7, S122_7, S122r8, R122, hx, hcA, ha, q1, q2, impF, CNextU, CStopU, CHead, CLnP_wp, lnK_ok, lnK_err, hkA, fltV, Ev.panK, uhC_wp, uhK_ok, uhK_error, map_ok, map_error, strA, unStr_rows, strRows_len, mkRows_len, mkRows_all, List.length_append, ↓Ev.P, Ev.Q, Ev.Z, simprocAttr]))
           all_goals try omega
           refine xLoop_intro (fun n2 st => ∃ (o f : Int) (at_ : Nat) (ms : List Mk) (b : Bool), ((0 ≤ o ∧ o ≤ 2147483647) ∧ 0 ≤ f ∧ f ≤ 2147483647) ∧ o + f ≤ n2 ∧ at_ ≤ L.length ∧ ms.length ≤ at_ ∧ b = ms.any chgM ∧ lnsU L n2 o f at_ ms = Y ∧ st = ⟨[(0, .ptr 0 0), (4, .ptr 1 0), (5, .ptr 2 0), (7, .d (.v (.int .i64 ((k0 : Int) + 1)))), (8, .d (.v (.bool b))), (9, .ptr 4 0)], 5, [(0, .cells t [.d (.sl (strRows L)), .d (.v (.int .i64 (at_ : Nat)))]), (1, .cells 47 [.d (.v (.int .i64 0)), .d (.v (.int .i64 0)), .d (.v (.int .i64 0)), .d (.v (.int .i64 0)), .d (.v (.slice none 0 0))]), (2, .cells 47 [.d (.v (.int .i64 A)), .d (.v (.int .i64 AN)), .d (.v (.int .i64 B)), .d (.v (.int .i64 BN)), .own 3]), (3, .row 103 2 (mkRows ms)), (4, .cells 220 [.d (.v (.int .i64 o)), .d (.v (.int .i64 f))])]⟩) (AN + BN).toNat [0, 1, 3, 2, 4] ?_ ?_ ?_
           · simp -dsimp -implicitDefEqProofs only [↓Ev.xStp_eq, ↓Ev.P, Ev.Q, Ev.Z, simprocAttr]
           · simp -dsimp -implicitDefEqProofs only [↓Ev.xStp_eq, ↓Ev.P, Ev.Q, Ev.Z, simprocAttr]
             refine ⟨AN, BN, k0 + 1, [], false, ⟨d2, d4⟩, by omega, by omega, by simp, rfl, hY, ?_⟩
             all_goals rfl
           · rintro n2 st2 ⟨o, f, at_, ms, b, ⟨⟨o0, o1⟩, f0, f1⟩, hn2, hat, hml, hb, hgo, rfl⟩
             by_cases h0 : o = 0 ∧ f = 0
             · obtain ⟨rfl, rfl⟩ := h0
               have hgo2 : Y = .ok (ms, at_) := by
                 rw [← hgo]; cases n2 with
                 | zero => rfl
                 | succ n => rw [lnsU, if_pos ⟨rfl, rfl⟩]
               rw [hgo2] at hk; dsimp only at hk
               cases b with
               | true =>
                 rw [if_pos hb.symm, map_ok, hkA, uhK_ok] at hk; dsimp only at hk
                 simp -dsimp -implicitDefEqProofs only [S122, S122_0, S122r1, S122_1, S122r2, S122_2, S122r3, S122_3, S122r4, S122_4, S122r5, S122_5, S122r6, S122_6, S122r7, S122_7, S122r8, R122, impF, CNextU, CStopU, CHead, CLnP_wp, lnK_ok, lnK_err, hkA, fltV, Ev.panK, uhC_wp, uhK_ok, uhK_error, map_ok, map_error, strA, unStr_rows, strRows_len, mkRows_len, mkRows_all, List.length_append, ↓Ev.P, Ev.Q, Ev.Z, simprocAttr]
                 repeat' (first | with_reducible assumption | refine And.intro ?_ ?_ | intro _ | (rw [Ev.xStp_eq]; simp -dsimp -implicitDefEqProofs only [S122, S122_0, S122r1, S122_1, S122r2, S122_2, S122r3, S122_3, S122r4, S122_4, S122r5, S122_5, S122r6, S122_6, S122r7, S122_7, S122r8, R122, impF, CNextU, CStopU, CHead, CLnP_wp, lnK_ok, lnK_err, hkA, fltV, Ev.panK, uhC_wp, uhK_ok, uhK_error, map_ok, map_error, strA, unStr_rows, strRows_len, mkRows_len, mkRows_all, List.length_append, ↓Ev.P, Ev.Q, Ev.Z, simprocAttr]))
                 all_goals try omega
                 all_goals first | exact hk | exact hk _
               | false =>
                 rw [if_neg (by rw [← hb]; decide)] at hk; rw [map_error, uhK_error] at hk; unfold fltV at hk; simp only [ec] at hk
                 simp -dsimp -implicitDefEqProofs only [S122, S122_0, S122r1, S122_1, S122r2, S122_2, S122r3, S122_3, S122r4, S122_4, S122r5, S122_5, S122r6, S122_6, S122r7, S122_7, S122r8, R122, impF, CNextU, CStopU, CHead, CLnP_wp, lnK_ok, lnK_err, hkA, fltV, Ev.panK, uhC_wp, uhK_ok, uhK_error, map_ok, map_error, strA, unStr_rows, strRows_len, mkRows_len, mkRows_all, List.length_append, ↓Ev.P, Ev.Q, Ev.Z, simprocAttr]
                 repeat' (first | with_reducible assumption | refine And.intro ?_ ?_ | intro _ | (rw [Ev.xStp_eq]; simp -dsimp -implicitDefEqProofs only [S122, S122_0, S122r1, S122_1, S122r2, S122_2, S122r3, S122_3, S122r4, S122_4, S122r5, S122_5, S122r6, S122_6, S122r7, S122_7, S122r8, R122, impF, CNextU, CStopU, CHead, CLnP_wp, lnK_ok, lnK_err, hkA, fltV, Ev.panK, uhC_wp, uhK_ok, uhK_error, map_ok, map_error, strA, unStr_rows, strRows_len, mkRows_len, mkRows_all, List.length_append, ↓Ev.P, Ev.Q, Ev.Z, simprocAttr]))
                 all_goals try omega
                 all_goals first | exact hk | exact hk _
             · obtain ⟨n3, rfl⟩ : ∃ m, n2 = m + 1 := ⟨n2 - 1, by omega⟩
               rw [lnsU, if_neg h0] at hgo
               have hne : (decide (o = 0) && decide (f = 0)) = false := by
                 rw [Bool.eq_false_iff]; intro h; simp only [Bool.and_eq_true, decide_eq_true_eq] at h; exact h0 h
               cases hl : lnU L o f at_ with
               | error xe =>
                 obtain ⟨xa, xe⟩ := xe
                 rw [hl] at hgo; dsimp only at hgo; subst hgo; dsimp only at hk; rw [map_error, uhK_error] at hk; unfold fltV at hk
                 simp -dsimp -implicitDefEqProofs only [S122, S122_0, S122r1, S122_1, S122r2, S122_2, S122r3, S122_3, S122r4, S122_4, S122r5, S122_5, S122r6, S122_6, S122r7, S122_7, S122r8, R122, hne, hl, impF, CNextU, CStopU, CHead, CLnP_wp, lnK_ok, lnK_err, hkA, fltV, Ev.panK, uhC_wp, uhK_ok, uhK_error, map_ok, map_error, strA, unStr_rows, strRows_len, mkRows_len, mkRows_all, List.length_append, ↓Ev.P, Ev.Q, Ev.Z, simprocAttr]
                 repeat' (first | with_reducible assumption | refine And.intro ?_ ?_ | intro _ | (rw [Ev.xStp_eq]; simp -dsimp -implicitDefEqProofs only [S122, S122_0, S122r1, S122_1, S122r2, S122_2, S122r3, S122_3, S122r4, S122_4, S122r5, S122_5, S122r6, S122_6, S122r7, S122_7, S122r8, R122, hne, hl, impF, CNextU, CStopU, CHead, CLnP_wp, lnK_ok, lnK_err, hkA, fltV, Ev.panK, uhC_wp, uhK_ok, uhK_error, map_ok, map_error, strA, unStr_rows, strRows_len, mkRows_len, mkRows_all, List.length_append, ↓Ev.P, Ev.Q, Ev.Z, simprocAttr]))
                 all_goals try omega
                 all_goals first | exact hk | exact hk _
               | ok x =>
                 obtain ⟨⟨⟨sg, tx⟩, o', f'⟩, a1⟩ := x
                 obtain ⟨⟨g1, g2⟩, ⟨g3, g4⟩, g5, g6, g7⟩ := lnU_le hl o0 f0
                 have hcap := any_snocM ms (sg, tx)
                 rw [hl] at hgo; dsimp only at hgo
                 cases b with
                 | true =>
                   rw [← hb] at hcap
                   simp -dsimp -implicitDefEqProofs only [S122, S122_0, S122r1, S122_1, S122r2, S122_2, S122r3, S122_3, S122r4, S122_4, S122r5, S122_5, S122r6, S122_6, S122r7, S122_7, S122r8, R122, hne, hl, impF, CNextU, CStopU, CHead, CLnP_wp, lnK_ok, lnK_err, hkA, fltV, Ev.panK, uhC_wp, uhK_ok, uhK_error, map_ok, map_error, strA, unStr_rows, strRows_len, mkRows_len, mkRows_all, List.length_append, ↓Ev.P, Ev.Q, Ev.Z, simprocAttr]
                   repeat' (first | with_reducible assumption | refine And.intro ?_ ?_ | intro _ | (rw [Ev.xStp_eq]; simp -dsimp -implicitDefEqProofs only [S122, S122_0, S122r1, S122_1, S122r2, S122_2, S122r3, S122_3, S122r4, S122_4, S122r5, S122_5, S122r6, S122_6, S122r7, S122_7, S122r8, R122, hne, hl, impF, CNextU, CStopU, CHead, CLnP_wp, lnK_ok, lnK_err, hkA, fltV, Ev.panK, uhC_wp, uhK_ok, uhK_error, map_ok, map_error, strA, unStr_rows, strRows_len, mkRows_len, mkRows_all, List.length_append, ↓Ev.P, Ev.Q, Ev.Z, simprocAttr]))
                   all_goals try omega
                   all_goals refine xAgain_intro n3 [0, 1, 2, 7, 8] (by omega) (by simp -dsimp -implicitDefEqProofs only [↓Ev.xStp_eq, ↓Ev.P, Ev.Q, Ev.Z, simprocAttr]) ⟨o', f', a1, ms ++ [(sg, tx)], true, ⟨⟨g3, by omega⟩, g4, by omega⟩, by omega, g2, by rw [List.length_append, List.length_singleton]; omega, by rw [hcap]; rfl, hgo, ?_⟩
                   all_goals rw [← mkRows_snoc]
                   all_goals simp -dsimp -implicitDefEqProofs only [↓Ev.xStp_eq, ↓Ev.P, Ev.Q, Ev.Z, simprocAttr]
                   all_goals rfl
                 | false =>
                   rw [← hb] at hcap
                   by_cases hs : sg = 32
                   · have hch : chgM (sg, tx) = false := by simp [chgM, hs]
                     rw [hch] at hcap
                     simp -dsimp -implicitDefEqProofs only [S122, S122_0, S122r1, S122_1, S122r2, S122_2, S122r3, S122_3, S122r4, S122_4, S122r5, S122_5, S122r6, S122_6, S122r7, S122_7, S122r8, R122, hne, hl, hs, impF, CNextU, CStopU, CHead, CLnP_wp, lnK_ok, lnK_err, hkA, fltV, Ev.panK, uhC_wp, uhK_ok, uhK_error, map_ok, map_error, strA, unStr_rows, strRows_len, mkRows_len, mkRows_all, List.length_append, ↓Ev.P, Ev.Q, Ev.Z, simprocAttr]
                     repeat' (first | with_reducible assumption | refine And.intro ?_ ?_ | intro _ | (rw [Ev.xStp_eq]; simp -dsimp -implicitDefEqProofs only [S122, S122_0, S122r1, S122_1, S122r2, S122_2, S122r3, S122_3, S122r4, S122_4, S122r5, S122_5, S122r6, S122_6, S122r7, S122_7, S122r8, R122, hne, hl, hs, impF, CNextU, CStopU, CHead, CLnP_wp, lnK_ok, lnK_err, hkA, fltV, Ev.panK, uhC_wp, uhK_ok, uhK_error, map_ok, map_error, strA, unStr_rows, strRows_len, mkRows_len, mkRows_all, List.length_append, ↓Ev.P, Ev.Q, Ev.Z, simprocAttr]))
                     all_goals try omega
                     all_goals refine xAgain_intro n3 [0, 1, 2, 7, 8] (by omega) (by simp -dsimp -implicitDefEqProofs only [↓Ev.xStp_eq, ↓Ev.P, Ev.Q, Ev.Z, simprocAttr]) ⟨o', f', a1, ms ++ [(sg, tx)], false, ⟨⟨g3, by omega⟩, g4, by omega⟩, by omega, g2, by rw [List.length_append, List.length_singleton]; omega, by rw [hcap]; rfl, hgo, ?_⟩
                     all_goals rw [← mkRows_snoc]
                     all_goals simp -dsimp -implicitDefEqProofs only [hs, ↓Ev.xStp_eq, ↓Ev.P, Ev.Q, Ev.Z, simprocAttr]
                     all_goals first | rfl | (simp only [hs]; rfl)
                   · have hch : chgM (sg, tx) = true := by simp [chgM, hs]
                     rw [hch] at hcap
                     simp -dsimp -implicitDefEqProofs only [S122, S122_0, S122r1, S122_1, S122r2, S122_2, S122r3, S122_3, S122r4, S122_4, S122r5, S122_5, S122r6, S122_6, S122r7, S122_7, S122r8, R122, hne, hl, hs, impF, CNextU, CStopU, CHead, CLnP_wp, lnK_ok, lnK_err, hkA, fltV, Ev.panK, uhC_wp, uhK_ok, uhK_error, map_ok, map_error, strA, unStr_rows, strRows_len, mkRows_len, mkRows_all, List.length_append, ↓Ev.P, Ev.Q, Ev.Z, simprocAttr]
                     repeat' (first | with_reducible assumption | refine And.intro ?_ ?_ | intro _ | (rw [Ev.xStp_eq]; simp -dsimp -implicitDefEqProofs only [S122, S122_0, S122r1, S122_1, S122r2, S122_2, S122r3, S122_3, S122r4, S122_4, S122r5, S122_5, S122r6, S122_6, S122r7, S122_7, S122r8, R122, hne, hl, hs, impF, CNextU, CStopU, CHead, CLnP_wp, lnK_ok, lnK_err, hkA, fltV, Ev.panK, uhC_wp, uhK_ok, uhK_error, map_ok, map_error, strA, unStr_rows, strRows_len, mkRows_len, mkRows_all, List.length_append, ↓Ev.P, Ev.Q, Ev.Z, simprocAttr]))
                     all_goals try omega
                     all_goals refine xAgain_intro n3 [0, 1, 2, 7, 8] (by omega) (by simp -dsimp -implicitDefEqProofs only [↓Ev.xStp_eq, ↓Ev.P, Ev.Q, Ev.Z, simprocAttr]) ⟨o', f', a1, ms ++ [(sg, tx)], true, ⟨⟨g3, by omega⟩, g4, by omega⟩, by omega, g2, by rw [List.length_append, List.length_singleton]; omega, by rw [hcap]; rfl, hgo, ?_⟩
                     all_goals rw [← mkRows_snoc]
                     all_goals simp -dsimp -implicitDefEqProofs only [hs, ↓Ev.xStp_eq, ↓Ev.P, Ev.Q, Ev.Z, simprocAttr]
                     all_goals first | rfl | (simp only [hs]; rfl)
def ptA (x : Pt × Nat) : SV × Int := (.agg [.d (.v (.string ⟨x.1.1.1.toArray⟩)), .d (.v (.string ⟨x.1.1.2.toArray⟩)), .d (.sl (hkRows x.1.2))], (x.2 : Int))
def CPtU (hk : HkF) (bg p1 p2 : List UInt8) : Contract := uhC fun L at_ rest => match rest with
 | [.d (.v (.int .i64 ahead))] => some (((0 ≤ at_ ∧ at_ ≤ L.length) ∧ smL L ∧ L.length ≤ 1099511627776 ∧ ∀ x ∈ L, x.length ≤ 1048576), (ptG hk bg p1 p2 L ahead at_.toNat).map ptA)
 | _ => none
set_option maxHeartbeats 64000000 in
theorem s66 (hE : ∀ w, G w → ErrR w) (hM : ∀ w, G w → MaxL w) : Sound G Tryz.prog 66 (CPtU hkU [64, 64] [45, 45, 45, 32] [43, 43, 43, 32]) := by
 refine sd66 (T := tabT [(119, CNmU), (120, CStopU), (65, CMoreU), (122, CHunkU), (121, C166)]) (tab_cons s119 (tab_cons s120 (tab_cons s65 (tab_cons (s122 hE hM) (tab_cons s121 tab_nil))))) (uhC_lawful _) (uh_hX fun t L at_ rest pp z K h hp hk => ?_)
 split at h <;> simp only [Option.some.injEq, Prod.mk.injEq, reduceCtorEq] at h
 obtain ⟨rfl, rfl⟩ := h
 rename_i ahead
 obtain ⟨⟨h1, h3⟩, ⟨hLl, hL⟩, hLt, hL1⟩ := hp
 have hsm : smL L := ⟨hLl, hL⟩
 obtain ⟨k0, rfl⟩ := Int.eq_ofNat_of_zero_le h1
 rw [Int.toNat_natCast] at hk
 refine ⟨Nat.le_of_ble_eq_true rfl, ?_⟩
 unfold ptG at hk
 cases hx1 : nmG [45, 45, 45, 32] L k0 with
 | error xe =>
   obtain ⟨xa, xe⟩ := xe
   rw [hx1] at hk; dsimp only at hk; rw [map_error, uhK_error] at hk; unfold fltV at hk
   simp -dsimp -implicitDefEqProofs only [S66, R66, hx1, impF, CNmU, CStopU, CMoreU, CHunkU, C166, hasPre_list, hkA, fltV, Ev.panK, uhC_wp, uhK_ok, uhK_error, map_ok, map_error, strA, unStr_rows, strRows_len, hkRows_len, hkRows_all, mkRows_len, mkRows_all, hkRows_one, List.length_append, ↓Ev.P, Ev.Q, Ev.Z, simprocAttr]
   repeat' (first | with_reducible assumption | refine And.intro ?_ ?_ | intro _ | (rw [Ev.xStp_eq]; simp -dsimp -implicitDefEqProofs only [hx1, impF, CNmU, CStopU, CMoreU, CHunkU, C166, hasPre_list, hkA, fltV, Ev.panK, uhC_wp, uhK_ok, uhK_error, map_ok, map_error, strA, unStr_rows, strRows_len, hkRows_len, hkRows_all, mkRows_len, mkRows_all, hkRows_one, List.length_append, ↓Ev.P, Ev.Q, Ev.Z, simprocAttr]))
   all_goals try omega
   all_goals exact hk _
 | ok x =>
   obtain ⟨o, a⟩ := x
   obtain ⟨rfl, hlt1, ho1⟩ := nmG_le hx1
   rw [hx1] at hk; dsimp only at hk
   have ec : ((k0 + 1 : Nat) : Int) = (k0 : Int) + 1 := by omega
   have ec2 : ((k0 : Int) + 1).toNat = k0 + 1 := by omega
   by_cases ha : 64 ≤ ahead
   · rw [if_pos ha] at hk; rw [map_error, uhK_error] at hk; unfold fltV at hk; simp only [ec] at hk
     simp -dsimp -implicitDefEqProofs only [S66, R66, hx1, ha, impF, CNmU, CStopU, CMoreU, CHunkU, C166, hasPre_list, hkA, fltV, Ev.panK, uhC_wp, uhK_ok, uhK_error, map_ok, map_error, strA, unStr_rows, strRows_len, hkRows_len, hkRows_all, mkRows_len, mkRows_all, hkRows_one, List.length_append, ↓Ev.P, Ev.Q, Ev.Z, simprocAttr]
     repeat' (first | with_reducible assumption | refine And.intro ?_ ?_ | intro _ | (rw [Ev.xStp_eq]; simp -dsimp -implicitDefEqProofs only [hx1, ha, impF, CNmU, CStopU, CMoreU, CHunkU, C166, hasPre_list, hkA, fltV, Ev.panK, uhC_wp, uhK_ok, uhK_error, map_ok, map_error, strA, unStr_rows, strRows_len, hkRows_len, hkRows_all, mkRows_len, mkRows_all, hkRows_one, List.length_append, ↓Ev.P, Ev.Q, Ev.Z, simprocAttr]))
     all_goals try omega
     all_goals exact hk _
   · rw [if_neg ha] at hk
     cases hx2 : nmG [43, 43, 43, 32] L (k0 + 1) with
     | error xe =>
       obtain ⟨xa, xe⟩ := xe
       rw [hx2] at hk; dsimp only at hk; rw [map_error, uhK_error] at hk; unfold fltV at hk
       simp -dsimp -implicitDefEqProofs only [S66, R66, hx1, ha, hx2, ec2, impF, CNmU, CStopU, CMoreU, CHunkU, C166, hasPre_list, hkA, fltV, Ev.panK, uhC_wp, uhK_ok, uhK_error, map_ok, map_error, strA, unStr_rows, strRows_len, hkRows_len, hkRows_all, mkRows_len, mkRows_all, hkRows_one, List.length_append, ↓Ev.P, Ev.Q, Ev.Z, simprocAttr]
       repeat' (first | with_reducible assumption | refine And.intro ?_ ?_ | intro _ | (rw [Ev.xStp_eq]; simp -dsimp -implicitDefEqProofs only [hx1, ha, hx2, ec2, impF, CNmU, CStopU, CMoreU, CHunkU, C166, hasPre_list, hkA, fltV, Ev.panK, uhC_wp, uhK_ok, uhK_error, map_ok, map_error, strA, unStr_rows, strRows_len, hkRows_len, hkRows_all, mkRows_len, mkRows_all, hkRows_one, List.length_append, ↓Ev.P, Ev.Q, Ev.Z, simprocAttr]))
       all_goals try omega
       all_goals exact hk _
     | ok x =>
       obtain ⟨nn, a⟩ := x
       obtain ⟨rfl, hlt2, ho2⟩ := nmG_le hx2
       rw [hx2] at hk; dsimp only at hk
       generalize hY : hksG hkU [64, 64] L (L.length + 1) (k0 + 1 + 1) [] = Y at hk
       simp -dsimp -implicitDefEqProofs only [S66, R66, hx1, ha, hx2, ec2, impF, CNmU, CStopU, CMoreU, CHunkU, C166, hasPre_list, hkA, fltV, Ev.panK, uhC_wp, uhK_ok, uhK_error, map_ok, map_error, strA, unStr_rows, strRows_len, hkRows_len, hkRows_all, mkRows_len, mkRows_all, hkRows_one, List.length_append, ↓Ev.P, Ev.Q, Ev.Z, simprocAttr]
       repeat' (first | with_reducible assumption | refine And.intro ?_ ?_ | intro _ | (rw [Ev.xStp_eq]; simp -dsimp -implicitDefEqProofs only [hx1, ha, hx2, ec2, impF, CNmU, CStopU, CMoreU, CHunkU, C166, hasPre_list, hkA, fltV, Ev.panK, uhC_wp, uhK_ok, uhK_error, map_ok, map_error, strA, unStr_rows, strRows_len, hkRows_len, hkRows_all, mkRows_len, mkRows_all, hkRows_one, List.length_append, ↓Ev.P, Ev.Q, Ev.Z, simprocAttr]))
       all_goals try omega
       refine xLoop_intro (fun n2 st => (n2 = L.length + 2 ∧ st = ⟨[(0, .ptr 0 0), (4, .ptr 1 0), (5, .ptr 2 0)], 3, [(0, .cells t [.d (.sl (strRows L)), .d (.v (.int .i64 ((k0 + 1 + 1 : Nat) : Int)))]), (1, .cells 55 [.d (.v (.string ⟨#[]⟩)), .d (.v (.string ⟨#[]⟩)), .d (.v (.slice none 0 0))]), (2, .cells 55 [.d (.v (.string ⟨o.toArray⟩)), .d (.v (.string ⟨nn.toArray⟩)), .d (.v (.slice none 0 0))])]⟩) ∨ (∃ (f at_ : Nat) (hs : List Hk), ¬ hs = [] ∧ at_ ≤ L.length ∧ n2 = L.length - at_ + 1 ∧ L.length - at_ ≤ f ∧ hs.length ≤ 4096 ∧ hksG hkU [64, 64] L f at_ hs = Y ∧ st = ⟨[(0, .ptr 0 0), (4, .ptr 1 0), (5, .ptr 2 0)], 4, [(0, .cells t [.d (.sl (strRows L)), .d (.v (.int .i64 (at_ : Nat)))]), (1, .cells 55 [.d (.v (.string ⟨#[]⟩)), .d (.v (.string ⟨#[]⟩)), .d (.v (.slice none 0 0))]), (2, .cells 55 [.d (.v (.string ⟨o.toArray⟩)), .d (.v (.string ⟨nn.toArray⟩)), .own 3]), (3, .row 47 5 (hkRows hs))]⟩)) (L.length + 2) [0, 1, 2] ?_ ?_ ?_
       · simp -dsimp -implicitDefEqProofs only [↓Ev.xStp_eq, ↓Ev.P, Ev.Q, Ev.Z, simprocAttr]
       · simp -dsimp -implicitDefEqProofs only [↓Ev.xStp_eq, ↓Ev.P, Ev.Q, Ev.Z, simprocAttr]
         all_goals first | exact .inl ⟨rfl, rfl⟩ | exact .inl rfl | exact ⟨rfl, rfl⟩ | trivial
       · rintro n2 st2 (⟨rfl, rfl⟩ | ⟨f, at_, hs, hne, hat, rfl, hf, hhs, hgo, rfl⟩)
         · have _t := trivial
           have hgo := hY
           rw [hksG, if_pos (by rfl)] at hgo
           have e0 : ((([] : List Hk).length : Nat) : Int) = 0 := rfl
           rw [e0] at hgo
           cases hx : hkU L 0 (k0 + 1 + 1) with
           | error xe =>
             obtain ⟨xa, xe⟩ := xe
             rw [hx] at hgo; dsimp only at hgo; subst hgo; dsimp only at hk; rw [map_error, uhK_error] at hk; unfold fltV at hk
             simp -dsimp -implicitDefEqProofs only [S66, R66, hx, impF, CNmU, CStopU, CMoreU, CHunkU, C166, hasPre_list, hkA, fltV, Ev.panK, uhC_wp, uhK_ok, uhK_error, map_ok, map_error, strA, unStr_rows, strRows_len, hkRows_len, hkRows_all, mkRows_len, mkRows_all, hkRows_one, List.length_append, ↓Ev.P, Ev.Q, Ev.Z, simprocAttr]
             repeat' (first | with_reducible assumption | refine And.intro ?_ ?_ | intro _ | (rw [Ev.xStp_eq]; simp -dsimp -implicitDefEqProofs only [hx, impF, CNmU, CStopU, CMoreU, CHunkU, C166, hasPre_list, hkA, fltV, Ev.panK, uhC_wp, uhK_ok, uhK_error, map_ok, map_error, strA, unStr_rows, strRows_len, hkRows_len, hkRows_all, mkRows_len, mkRows_all, hkRows_one, List.length_append, ↓Ev.P, Ev.Q, Ev.Z, simprocAttr]))
             all_goals try omega
             all_goals exact hk _
           | ok x =>
             obtain ⟨h, a1⟩ := x
             obtain ⟨b1, b2, b3, b4⟩ := hkU_ok.le hx
             rw [hx] at hgo; dsimp only at hgo
             obtain ⟨⟨hA, hAN, hB, hBN⟩, hms⟩ := h
             simp -dsimp -implicitDefEqProofs only [S66, R66, hx, impF, CNmU, CStopU, CMoreU, CHunkU, C166, hasPre_list, hkA, fltV, Ev.panK, uhC_wp, uhK_ok, uhK_error, map_ok, map_error, strA, unStr_rows, strRows_len, hkRows_len, hkRows_all, mkRows_len, mkRows_all, hkRows_one, List.length_append, ↓Ev.P, Ev.Q, Ev.Z, simprocAttr]
             repeat' (first | with_reducible assumption | refine And.intro ?_ ?_ | intro _ | (rw [Ev.xStp_eq]; simp -dsimp -implicitDefEqProofs only [hx, impF, CNmU, CStopU, CMoreU, CHunkU, C166, hasPre_list, hkA, fltV, Ev.panK, uhC_wp, uhK_ok, uhK_error, map_ok, map_error, strA, unStr_rows, strRows_len, hkRows_len, hkRows_all, mkRows_len, mkRows_all, hkRows_one, List.length_append, ↓Ev.P, Ev.Q, Ev.Z, simprocAttr]))
             all_goals try omega
             all_goals refine xAgain_intro (L.length - a1 + 1) [0, 1, 2, 4] (by omega) (by simp -dsimp -implicitDefEqProofs only [↓Ev.xStp_eq, ↓Ev.P, Ev.Q, Ev.Z, simprocAttr]) (.inr ⟨L.length, a1, [] ++ [((hA, hAN, hB, hBN), hms)], by simp, b2, rfl, by omega, by first | (rw [List.length_append, List.length_singleton]; omega) | simp, hgo, ?_⟩)
             all_goals simp -dsimp -implicitDefEqProofs only [↓Ev.xStp_eq, ↓Ev.P, Ev.Q, Ev.Z, simprocAttr]
             all_goals rfl
         · have _t := trivial
           have hl0 : ((hs.length : Int) = 0) = False := eq_false (fun h => hne (List.length_eq_zero_iff.1 (by omega)))
           by_cases hlt : at_ < L.length
           · have hi3 : ((at_ : Int) < (L.length : Int)) = True := eq_true (by omega)
             have hg := strRows_get hlt
             have hg2 : (strRows L).getD at_ [] = [.v (.string ⟨(L.getD at_ []).toArray⟩)] := by rw [List.getD_eq_getElem?_getD, hg]; rfl
             by_cases hpre : (L.getD at_ []).take 2 = [64, 64]
             · obtain ⟨f, rfl⟩ : ∃ g, f = g + 1 := ⟨f - 1, by omega⟩
               have hgoes : goesH [64, 64] L at_ hs = true := by
                 rw [goesH, decide_eq_true hlt]
                 simp only [List.length_cons, List.length_nil, Nat.zero_add, Nat.reduceAdd]
                 rw [decide_eq_true hpre]; simp
               rw [hksG, if_pos hgoes] at hgo
               cases hx : hkU L hs.length at_ with
               | error xe =>
                 obtain ⟨xa, xe⟩ := xe
                 rw [hx] at hgo; dsimp only at hgo; subst hgo; dsimp only at hk; rw [map_error, uhK_error] at hk; unfold fltV at hk
                 simp -dsimp -implicitDefEqProofs only [S66, R66, hl0, hi3, hg, hg2, hpre, hx, impF, CNmU, CStopU, CMoreU, CHunkU, C166, hasPre_list, hkA, fltV, Ev.panK, uhC_wp, uhK_ok, uhK_error, map_ok, map_error, strA, unStr_rows, strRows_len, hkRows_len, hkRows_all, mkRows_len, mkRows_all, hkRows_one, List.length_append, ↓Ev.P, Ev.Q, Ev.Z, simprocAttr]
                 repeat' (first | with_reducible assumption | refine And.intro ?_ ?_ | intro _ | (rw [Ev.xStp_eq]; simp -dsimp -implicitDefEqProofs only [hl0, hi3, hg, hg2, hpre, hx, impF, CNmU, CStopU, CMoreU, CHunkU, C166, hasPre_list, hkA, fltV, Ev.panK, uhC_wp, uhK_ok, uhK_error, map_ok, map_error, strA, unStr_rows, strRows_len, hkRows_len, hkRows_all, mkRows_len, mkRows_all, hkRows_one, List.length_append, ↓Ev.P, Ev.Q, Ev.Z, simprocAttr]))
                 all_goals try omega
                 all_goals exact hk _
               | ok x =>
                 obtain ⟨h, a1⟩ := x
                 obtain ⟨b1, b2, b3, b4⟩ := hkU_ok.le hx
                 rw [hx] at hgo; dsimp only at hgo
                 obtain ⟨⟨hA, hAN, hB, hBN⟩, hms⟩ := h
                 simp -dsimp -implicitDefEqProofs only [S66, R66, hl0, hi3, hg, hg2, hpre, hx, impF, CNmU, CStopU, CMoreU, CHunkU, C166, hasPre_list, hkA, fltV, Ev.panK, uhC_wp, uhK_ok, uhK_error, map_ok, map_error, strA, unStr_rows, strRows_len, hkRows_len, hkRows_all, mkRows_len, mkRows_all, hkRows_one, List.length_append, ↓Ev.P, Ev.Q, Ev.Z, simprocAttr]
                 repeat' (first | with_reducible assumption | refine And.intro ?_ ?_ | intro _ | (rw [Ev.xStp_eq]; simp -dsimp -implicitDefEqProofs only [hl0, hi3, hg, hg2, hpre, hx, impF, CNmU, CStopU, CMoreU, CHunkU, C166, hasPre_list, hkA, fltV, Ev.panK, uhC_wp, uhK_ok, uhK_error, map_ok, map_error, strA, unStr_rows, strRows_len, hkRows_len, hkRows_all, mkRows_len, mkRows_all, hkRows_one, List.length_append, ↓Ev.P, Ev.Q, Ev.Z, simprocAttr]))
                 all_goals try omega
                 all_goals refine xAgain_intro (L.length - a1 + 1) [0, 1, 2, 5] (by omega) (by simp -dsimp -implicitDefEqProofs only [↓Ev.xStp_eq, ↓Ev.P, Ev.Q, Ev.Z, simprocAttr]) (.inr ⟨f, a1, hs ++ [((hA, hAN, hB, hBN), hms)], by simp, b2, rfl, by omega, by first | (rw [List.length_append, List.length_singleton]; omega) | simp, hgo, ?_⟩)
                 all_goals simp -dsimp -implicitDefEqProofs only [↓Ev.xStp_eq, ↓Ev.P, Ev.Q, Ev.Z, simprocAttr]
                 all_goals rfl
             · have _t := trivial
               have hgoes : goesH [64, 64] L at_ hs = false := by
                 rw [goesH, decide_eq_false hne, decide_eq_true hlt]
                 simp only [List.length_cons, List.length_nil, Nat.zero_add, Nat.reduceAdd]
                 rw [decide_eq_false hpre]; rfl
               rw [hksG_end hgoes] at hgo; subst hgo
               dsimp only at hk; rw [map_ok, ptA, uhK_ok] at hk; dsimp only at hk
               simp -dsimp -implicitDefEqProofs only [S66, R66, hl0, hi3, hg, hg2, hpre, impF, CNmU, CStopU, CMoreU, CHunkU, C166, hasPre_list, hkA, fltV, Ev.panK, uhC_wp, uhK_ok, uhK_error, map_ok, map_error, strA, unStr_rows, strRows_len, hkRows_len, hkRows_all, mkRows_len, mkRows_all, hkRows_one, List.length_append, ↓Ev.P, Ev.Q, Ev.Z, simprocAttr]
               repeat' (first | with_reducible assumption | refine And.intro ?_ ?_ | intro _ | (rw [Ev.xStp_eq]; simp -dsimp -implicitDefEqProofs only [hl0, hi3, hg, hg2, hpre, impF, CNmU, CStopU, CMoreU, CHunkU, C166, hasPre_list, hkA, fltV, Ev.panK, uhC_wp, uhK_ok, uhK_error, map_ok, map_error, strA, unStr_rows, strRows_len, hkRows_len, hkRows_all, mkRows_len, mkRows_all, hkRows_one, List.length_append, ↓Ev.P, Ev.Q, Ev.Z, simprocAttr]))
               all_goals try omega
               all_goals first | exact hk | exact hk _
           · have hi3 : ((at_ : Int) < (L.length : Int)) = False := eq_false (by omega)
             have hgoes : goesH [64, 64] L at_ hs = false := by
               rw [goesH, decide_eq_false hne, decide_eq_false hlt]
               rfl
             rw [hksG_end hgoes] at hgo; subst hgo
             dsimp only at hk; rw [map_ok, ptA, uhK_ok] at hk; dsimp only at hk
             simp -dsimp -implicitDefEqProofs only [S66, R66, hl0, hi3, impF, CNmU, CStopU, CMoreU, CHunkU, C166, hasPre_list, hkA, fltV, Ev.panK, uhC_wp, uhK_ok, uhK_error, map_ok, map_error, strA, unStr_rows, strRows_len, hkRows_len, hkRows_all, mkRows_len, mkRows_all, hkRows_one, List.length_append, ↓Ev.P, Ev.Q, Ev.Z, simprocAttr]
             repeat' (first | with_reducible assumption | refine And.intro ?_ ?_ | intro _ | (rw [Ev.xStp_eq]; simp -dsimp -implicitDefEqProofs only [hl0, hi3, impF, CNmU, CStopU, CMoreU, CHunkU, C166, hasPre_list, hkA, fltV, Ev.panK, uhC_wp, uhK_ok, uhK_error, map_ok, map_error, strA, unStr_rows, strRows_len, hkRows_len, hkRows_all, mkRows_len, mkRows_all, hkRows_one, List.length_append, ↓Ev.P, Ev.Q, Ev.Z, simprocAttr]))
             all_goals try omega
             all_goals first | exact hk | exact hk _
end Go.Proofs.YtlghobefhmpfkaaGreatDoor
namespace Go.Proofs.YtlghobefhmpfkaaGreatDoor
open Go Go.RowKit
set_option maxRecDepth 100000
theorem ta_fltU (v : Value) (xT : TypeId) (w : World) : (Instr.typeAssert (.iface 79 v) xT 79 true).run Tryz.prog w = .ok (.tuple #[v, .bool true]) w := by kernel_rfl
set_option maxHeartbeats 1000000 in
theorem catch_panU (p0 p1 : Addr) (q : Addr) (x0 x1 : Value) (w : World) (h0 : w.cell? p0 = some x0) (h1 : w.cell? p1 = some x1) (f0 : w.frozen? p0 = false) (f1 : w.frozen? p1 = false) (hne : p0.block ≠ p1.block) :
   CallsDIn Fence.wide 0 Tryz.prog 64 #[.pointer (some p0), .pointer (some p1)] (.panicking [{ v := .iface 79 (.pointer (some q)), recovered := false }]) w fun e u w' =>
     e = .returned (.tuple #[]) ∧ u = .panicking [{ v := .iface 79 (.pointer (some q)), recovered := true }] ∧ w' = (w.setCell p0 (.slice none 0 0)).setCell p1 (.iface 79 (.pointer (some q))) := by
 have hta := ta_fltU
 refine callsDIn_of_wpSIn Tryz.func64 rfl trivial fun c₀ cs hu => ?_
 refine wpSIn_seq (wpSIn_region ?_)
 simp [wpOpsSIn, go_sem, recoverD, hu, Tryz.ntmps64, Exit.thenS]
 refine wpSIn_of_wpIn rfl (wpIn_wide.2 ?_)
 have f1' : (w.setCell p0 (.slice none 0 0)).frozen? p1 = false := by rw [World.frozen?_setCell]; exact f1
 have h1' : (w.setCell p0 (.slice none 0 0)).cell? p1 = some x1 := by rw [World.cell?_setCell_other _ _ _ _ (fun e => hne (by rw [e]))]; exact h1
 go_wp2
 exact ⟨rfl, _, rfl, _, results_none rfl _ _ _, rfl, rfl, rfl⟩
theorem catch_idleU (p0 p1 : Addr) (w : World) :
   CallsDIn Fence.wide 0 Tryz.prog 64 #[.pointer (some p0), .pointer (some p1)] .returning w fun e u w' => e = .returned (.tuple #[]) ∧ u = .returning ∧ w' = w := by
 refine callsDIn_of_wpSIn Tryz.func64 rfl trivial fun c₀ cs hu => ?_
 refine wpSIn_seq (wpSIn_region ?_)
 simp [wpOpsSIn, go_sem, recoverD, hu, Tryz.ntmps64, Exit.thenS]
 refine wpSIn_of_wpIn rfl (wpIn_wide.2 ?_)
 go_wp2
 refine ⟨rfl, .returning, ?_, _, results_none rfl _ _ _, rfl, rfl, rfl⟩
 cases c₀
 simp_all
end Go.Proofs.YtlghobefhmpfkaaGreatDoor
namespace Go.Proofs.YtlghobefhmpfkaaGreatDoor
open Go Go.Ev
set_option maxRecDepth 100000
variable {G : World → Prop}
def DCatchU (tf : TypeId) : DCon := fun x caps s K => match x, caps with
 | none, [.ptr _ 0, .ptr _ 0] => K s
 | some (.d (.ifc t (.pt cells))), [.ptr o1 0, .ptr o2 0] => match lk s.ob o1, lk s.ob o2 with
   | some (.cells t1 [x1]), some (.cells t2 [x2]) => (t = tf ∧ o1 ≠ o2) ∧ K ⟨s.n, (o2, .cells t2 [.d (.ifc t (.pt cells))]) :: (o1, .cells t1 [.d (.v (.slice none 0 0))]) :: s.ob⟩
   | _, _ => False
 | _, _ => False
theorem heap_setU {w : World} {b : Nat} {c : Value} {t : TypeId} (h : w.heap[b]? = some (.cells #[c] t (0, 0))) (u : Value) : (w.setCell ⟨b, 0, none⟩ u).heap[b]? = some (.cells #[u] t (0, 0)) := by
 simp only [World.setCell, Array.getElem?_modify, if_true, h, Option.map_some]
 rfl
theorem one_cellU {cs : Array Value} {m : Nat → Value} {n : Nat} {c : Rdr} {x : SV} (h : CnL m n c [x] cs.toList) : ∃ v, cs = #[v] ∧ Cn m n c x v := by
 obtain ⟨l⟩ := cs
 match l, h with
 | [v], h => exact ⟨v, rfl, by simpa [CnL] using h⟩
 | [], h => simp [CnL] at h
 | _ :: _ :: _, h => simp [CnL] at h
theorem set_oneU {H : Hd G} {w : World} {m : Nat → Value} {B : Nat → Nat → Prop} {s : Store} (hO : SOk H w m B s) {o b : Nat} {t : TypeId} {x : SV} (ho : lk s.ob o = some (.cells t [x])) (hb : m o = .pointer (some ⟨b, 0, none⟩)) {y : SV} {u : Value} (hy : Cn m s.n (vw H w B s.ob) y u) (hu : u.oneCell' = true) :
   ∃ c, w.heap[b]? = some (.cells #[c] t (0, 0)) ∧ (∀ z, B o z ↔ z = b) ∧ ∃ B', Since w m B s (w.setCell ⟨b, 0, none⟩ u) m B' ⟨s.n, (o, .cells t [y]) :: s.ob⟩ ∧ SOk H (w.setCell ⟨b, 0, none⟩ u) m B' ⟨s.n, (o, .cells t [y]) :: s.ob⟩ ∧ ∀ k, k ≠ o → ∀ z, B' k z ↔ B k z := by
 obtain ⟨b', cs, g1, g2, g3, g4, g5⟩ := hO.obs o _ ho
 rw [hb] at g1
 simp only [Value.pointer.injEq, Option.some.injEq, Addr.mk.injEq, and_true] at g1
 subst g1
 obtain ⟨c, rfl, _⟩ := one_cellU g3
 have hs := heap_setU g2 u
 have hsz : (w.setCell ⟨b, 0, none⟩ u).heap.size = w.heap.size := by simp [World.setCell]
 have hup := SOk.upd (w1 := w.setCell ⟨b, 0, none⟩ u) hO o _ (.cells t [y]) ho rfl (fun z => z = b) rfl rfl rfl (by omega) (fun j _ hj => RowKit.Below.heap_setCell _ _ _ _ (fun e => hj ((g5 j).2 e)))
   (fun j _ hj => by subst hj; exact ⟨by rw [hsz]; exact (Array.getElem?_eq_some_iff.1 g2).1, .inl ((g5 j).2 rfl)⟩) (fun c' hc1 _ => by
     refine ⟨b, _, hb, hs, ?_, ?_, fun z => Iff.rfl⟩
     · simp only [CnL, and_true]; exact Cn_mono (Nat.le_refl _) (fun _ _ => rfl) hc1 _ _ hy
     · intro z hz; simp at hz; subst hz; exact hu)
 exact ⟨c, g2, g5, _, hup.1, hup.2, fun k hk z => by simp [hk]⟩
theorem sCatchU : SoundD G Tryz.prog 64 (DCatchU 79) := by
 intro H w m B s caps vs hO hc
 refine ⟨⟨Tryz.f64, by kernel_rfl, by kernel_rfl, by kernel_rfl⟩, fun K hK => ?_, fun x v K hx hK => ?_⟩
 · unfold DCatchU at hK
   split at hK
   · rename_i o1 o2 _
     match vs, hc with
     | [a, b], hc =>
       simp only [CnL, Cn, and_true] at hc
       obtain ⟨⟨n1, b1, e1, rfl⟩, n2, b2, e2, rfl⟩ := hc
       refine (catch_idleU ⟨b1, 0, none⟩ ⟨b2, 0, none⟩ w).mono ?_
       rintro e u w' ⟨rfl, rfl, rfl⟩
       exact ⟨⟨_, rfl⟩, rfl, m, B, s, hK, hO, Since.refl _ _ _ _⟩
     | [], hc => simp [CnL] at hc
     | [_], hc => simp [CnL] at hc
     | _ :: _ :: _ :: _, hc => simp [CnL] at hc
   · rename_i h; cases h
   · exact hK.elim
 · unfold DCatchU at hK
   split at hK
   · rename_i h; cases h
   · rename_i t cells o1 o2 h
     simp only [Option.some.injEq] at h
     subst h
     split at hK
     · rename_i t1 x1 t2 x2 l1 l2
       obtain ⟨⟨rfl, hne⟩, hK⟩ := hK
       match vs, hc with
       | [a, b], hc =>
         simp only [CnL, Cn, and_true] at hc
         obtain ⟨⟨n1, b1, e1, rfl⟩, n2, b2, e2, rfl⟩ := hc
         simp only [Cn, Rd] at hx
         obtain ⟨z, rfl, ad, rfl, hcells⟩ := hx
         obtain ⟨c1, p1, p2, B1, p3, p4, p5⟩ := set_oneU hO l1 e1 (y := .d (.v (.slice none 0 0))) (u := .slice none 0 0) ⟨rfl, rfl⟩ rfl
         have l2' : lk ((o1, Ob.cells t1 [.d (.v (.slice none 0 0))]) :: s.ob) o2 = some (.cells t2 [x2]) := by rw [lk_cons, if_neg hne]; exact l2
         have hcells2 := RdCells_mono p3.vw ad 0 cells hcells
         obtain ⟨c2, q1, q2, B2, q3, q4, q5⟩ := set_oneU p4 l2' e2 (y := .d (.ifc 79 (.pt cells))) (u := .iface 79 (.pointer (some ad))) (by simp only [Cn, Rd]; exact ⟨_, rfl, ad, rfl, hcells2⟩) rfl
         obtain ⟨c2', q1', q2', _⟩ := set_oneU hO l2 e2 (y := .d (.v (.slice none 0 0))) (u := .slice none 0 0) ⟨rfl, rfl⟩ rfl
         have hb : b1 ≠ b2 := fun e => hO.sep o1 o2 _ _ l1 l2 rfl rfl hne b1 ((p2 b1).2 rfl) ((q2' b1).2 e)
         refine (catch_panU ⟨b1, 0, none⟩ ⟨b2, 0, none⟩ ad c1 c2' w (by rw [cell_at p1]; rfl) (by rw [cell_at q1']; rfl) ?_ ?_ hb).mono ?_
         · simp [World.frozen?, p1]
         · simp [World.frozen?, q1']
         · rintro e u w' ⟨rfl, rfl, rfl⟩
           exact ⟨⟨_, rfl⟩, rfl, m, B2, _, hK, q4, p3.trans q3⟩
       | [], hc => simp [CnL] at hc
       | [_], hc => simp [CnL] at hc
       | _ :: _ :: _ :: _, hc => simp [CnL] at hc
     · exact hK.elim
   · exact hK.elim
end Go.Proofs.YtlghobefhmpfkaaGreatDoor
namespace Go.Proofs.YtlghobefhmpfkaaGreatDoor
open Go Go.Ev Go.Rcs
set_option maxRecDepth 100000
variable {G : World → Prop}
theorem defE_nU {D : DCon} {rs : List RR} {n0 : Nat} {os : List Nat} {K : Out → Store → Prop} {caps : List SV} {st : St} : Ev.defE D rs n0 os K caps .normal st = Ev.defK D rs n0 os K none caps st := rfl
theorem defE_rU {D : DCon} {rs : List RR} {n0 : Nat} {os : List Nat} {K : Out → Store → Prop} {caps : List SV} {st : St} : Ev.defE D rs n0 os K caps .ret st = Ev.defK D rs n0 os K none caps st := rfl
def parPU : Except Fl (List Pt) → SV × Store
 | .ok ps => (.tup [.own 0, .d (.v .nilIface)], ⟨1, [(0, .row 55 3 (ptRows ps))]⟩)
 | .error (a, e) => (.tup [.d (.sl []), .d (fltV a e)], ⟨0, []⟩)
def CParPU (hk : HkF) (bg p1 p2 : List UInt8) : Contract := stC fun args st => match args, st with
 | [.d (.v (.string s))], ⟨0, []⟩ => some (s.size ≤ 1099511627776, parPU (parG hk bg p1 p2 s.data.toList))
 | _, _ => none
set_option maxHeartbeats 32000000 in
theorem s24 (hH : Sound G Tryz.prog 66 (CPtU hkU [64, 64] [45, 45, 45, 32] [43, 43, 43, 32])) : Sound G Tryz.prog 24 (CParPU hkU [64, 64] [45, 45, 45, 32] [43, 43, 43, 32]) := by
 refine sd24 (T := tabT [(34, CSplit), (65, CMoreU), (66, CPtU hkU [64, 64] [45, 45, 45, 32] [43, 43, 43, 32])]) (tab_cons s34 (tab_cons s65 (tab_cons hH tab_nil))) sCatchU (stC_lawful _) (fun args st K hW => ?_)
 replace hW := (stC_wp _ args st K).mp hW
 obtain ⟨z, h, hp, hk⟩ := need_ex hW
 split at h <;> simp only [Option.some.injEq, Prod.mk.injEq, reduceCtorEq] at h
 obtain ⟨rfl⟩ := h
 rename_i s
 obtain ⟨s, rfl⟩ := ex_str s
 simp only [sem_str] at hp hk
 refine ⟨Nat.le_of_ble_eq_true rfl, ?_⟩
 by_cases h4 : 1048576 < s.length
 · have h4' : (1048576 : Int) < (s.length : Int) := by omega
   have h5 : parG hkU [64, 64] [45, 45, 45, 32] [43, 43, 43, 32] s = .error (0, 9) := by rw [parG, if_pos h4]
   rw [h5] at hk; simp only [parPU] at hk; unfold fltV at hk
   refine ⟨[], ?_⟩
   simp -dsimp -implicitDefEqProofs only [S24, SP24, R24, h4', impF, CSplit, CMoreU, CPtU, ptA, DCatchU, Ev.defK, defE_nU, defE_rU, Ev.endK, Ev.xvs, uhC_wp, uhK_ok, uhK_error, map_ok, map_error, fltV, unStr_rows, strRows_len, ptRows_len, ptRows_all, ptRows_one, List.length_append, Ev.St.giveC, ↓Ev.P, Ev.Q, Ev.Z, simprocAttr]
   repeat' (first | with_reducible assumption | refine And.intro ?_ ?_ | intro _ | (rw [Ev.xStp_eq]; simp -dsimp -implicitDefEqProofs only [S24, SP24, R24, h4', impF, CSplit, CMoreU, CPtU, ptA, DCatchU, Ev.defK, defE_nU, defE_rU, Ev.endK, Ev.xvs, uhC_wp, uhK_ok, uhK_error, map_ok, map_error, fltV, unStr_rows, strRows_len, ptRows_len, ptRows_all, ptRows_one, List.length_append, Ev.St.giveC, ↓Ev.P, Ev.Q, Ev.Z, simprocAttr]))
   all_goals try omega
   all_goals exact hk
 · have h4' : ¬ (1048576 : Int) < (s.length : Int) := by omega
   have h5 : parG hkU [64, 64] [45, 45, 45, 32] [43, 43, 43, 32] s = psG hkU [64, 64] [45, 45, 45, 32] [43, 43, 43, 32] (lns s) (lns s).length 0 [] := by rw [parG, if_neg h4]
   rw [h5] at hk
   obtain ⟨hLl, hL0⟩ := lns_szN s (by omega)
   generalize hLs : lns s = L at hk hLl hL0
   have hL : ∀ x ∈ L, x.length ≤ 1099511627776 := fun x hx => Nat.le_trans (hL0 x hx) (by omega)
   have hsm : smL L := ⟨by omega, hL⟩
   have hLt : L.length ≤ 1099511627776 := by omega
   cases hY : psG hkU [64, 64] [45, 45, 45, 32] [43, 43, 43, 32] L L.length 0 [] with
   | error xe =>
     obtain ⟨a, e⟩ := xe
     rw [hY] at hk; simp only [parPU] at hk; unfold fltV at hk
     refine ⟨[], ?_⟩
     simp -dsimp -implicitDefEqProofs only [S24, SP24, R24, h4', hLs, impF, CSplit, CMoreU, CPtU, ptA, DCatchU, Ev.defK, defE_nU, defE_rU, Ev.endK, Ev.xvs, uhC_wp, uhK_ok, uhK_error, map_ok, map_error, fltV, unStr_rows, strRows_len, ptRows_len, ptRows_all, ptRows_one, List.length_append, Ev.St.giveC, ↓Ev.P, Ev.Q, Ev.Z, simprocAttr]
     repeat' (first | with_reducible assumption | refine And.intro ?_ ?_ | intro _ | (rw [Ev.xStp_eq]; simp -dsimp -implicitDefEqProofs only [S24, SP24, R24, h4', hLs, impF, CSplit, CMoreU, CPtU, ptA, DCatchU, Ev.defK, defE_nU, defE_rU, Ev.endK, Ev.xvs, uhC_wp, uhK_ok, uhK_error, map_ok, map_error, fltV, unStr_rows, strRows_len, ptRows_len, ptRows_all, ptRows_one, List.length_append, Ev.St.giveC, ↓Ev.P, Ev.Q, Ev.Z, simprocAttr]))
     all_goals try omega
     refine xLoop_intro (fun n2 st => (n2 = L.length + 2 ∧ st = ⟨[(2, .ptr 1 0), (3, .ptr 2 0), (4, .ptr 3 0)], 4, [(0, .row 55 3 (ptRows [])), (1, .cells 49 [.own 0]), (2, .cells 24 [.d (.v .nilIface)]), (3, .cells 112 [.d (.sl (strRows L)), .d (.v (.int .i64 0))])]⟩) ∨ (∃ (f at_ : Nat) (hs : List Pt), at_ ≤ L.length ∧ n2 = L.length - at_ + 1 ∧ L.length - at_ ≤ f ∧ hs.length ≤ 64 ∧ psG hkU [64, 64] [45, 45, 45, 32] [43, 43, 43, 32] L f at_ hs = .error (a, e) ∧ st = ⟨[(2, .ptr 1 0), (3, .ptr 2 0), (4, .ptr 3 0)], 5, [(0, .dead), (1, .cells 49 [.own 4]), (2, .cells 24 [.d (.v .nilIface)]), (3, .cells 112 [.d (.sl (strRows L)), .d (.v (.int .i64 (at_ : Nat)))]), (4, .row 55 3 (ptRows hs))]⟩)) (L.length + 2) [0, 1, 2, 3] ?_ ?_ ?_
     · simp -dsimp -implicitDefEqProofs only [↓Ev.xStp_eq, ↓Ev.P, Ev.Q, Ev.Z, simprocAttr]
     · simp -dsimp -implicitDefEqProofs only [↓Ev.xStp_eq, ↓Ev.P, Ev.Q, Ev.Z, simprocAttr]
       first | exact .inl ⟨rfl, rfl⟩ | exact .inl rfl
     · rintro n2 st2 (⟨rfl, rfl⟩ | ⟨f, at_, hs, hat, rfl, hf, hhs, hgo, rfl⟩)
       · have _t := trivial
         by_cases hlt : 0 < L.length
         · have hi3 : (0 : Int) < L.length := by omega
           have hgo := hY
           obtain ⟨f, hf⟩ : ∃ g, L.length = g + 1 := ⟨L.length - 1, by omega⟩
           rw [hf, psG, if_pos (by omega)] at hgo
           cases hx : ptG hkU [64, 64] [45, 45, 45, 32] [43, 43, 43, 32] L ([] : List Pt).length 0 with
           | error xe =>
             obtain ⟨xa, xe⟩ := xe
             rw [hx] at hgo; cases hgo
             have hx0 := hx; simp only [List.length_nil, Int.natCast_zero] at hx0
             simp -dsimp -implicitDefEqProofs only [S24, SP24, R24, hi3, hx, hx0, impF, CSplit, CMoreU, CPtU, ptA, DCatchU, Ev.defK, defE_nU, defE_rU, Ev.endK, Ev.xvs, uhC_wp, uhK_ok, uhK_error, map_ok, map_error, fltV, unStr_rows, strRows_len, ptRows_len, ptRows_all, ptRows_one, List.length_append, Ev.St.giveC, ↓Ev.P, Ev.Q, Ev.Z, simprocAttr]
             repeat' (first | with_reducible assumption | refine And.intro ?_ ?_ | intro _ | (rw [Ev.xStp_eq]; simp -dsimp -implicitDefEqProofs only [S24, SP24, R24, hi3, hx, hx0, impF, CSplit, CMoreU, CPtU, ptA, DCatchU, Ev.defK, defE_nU, defE_rU, Ev.endK, Ev.xvs, uhC_wp, uhK_ok, uhK_error, map_ok, map_error, fltV, unStr_rows, strRows_len, ptRows_len, ptRows_all, ptRows_one, List.length_append, Ev.St.giveC, ↓Ev.P, Ev.Q, Ev.Z, simprocAttr]))
             all_goals try omega
             all_goals exact hk
           | ok x =>
             obtain ⟨h, a1⟩ := x
             obtain ⟨b1, b2, b3⟩ := ptG_le hkU_ok hx
             rw [hx] at hgo; dsimp only at hgo
             obtain ⟨⟨po, pn⟩, ph⟩ := h
             have hx0 := hx; simp only [List.length_nil, Int.natCast_zero] at hx0
             simp -dsimp -implicitDefEqProofs only [S24, SP24, R24, hi3, hx, hx0, impF, CSplit, CMoreU, CPtU, ptA, DCatchU, Ev.defK, defE_nU, defE_rU, Ev.endK, Ev.xvs, uhC_wp, uhK_ok, uhK_error, map_ok, map_error, fltV, unStr_rows, strRows_len, ptRows_len, ptRows_all, ptRows_one, List.length_append, Ev.St.giveC, ↓Ev.P, Ev.Q, Ev.Z, simprocAttr]
             repeat' (first | with_reducible assumption | refine And.intro ?_ ?_ | intro _ | (rw [Ev.xStp_eq]; simp -dsimp -implicitDefEqProofs only [S24, SP24, R24, hi3, hx, hx0, impF, CSplit, CMoreU, CPtU, ptA, DCatchU, Ev.defK, defE_nU, defE_rU, Ev.endK, Ev.xvs, uhC_wp, uhK_ok, uhK_error, map_ok, map_error, fltV, unStr_rows, strRows_len, ptRows_len, ptRows_all, ptRows_one, List.length_append, Ev.St.giveC, ↓Ev.P, Ev.Q, Ev.Z, simprocAttr]))
             all_goals try omega
             all_goals try refine xAgain_intro (L.length - a1 + 1) [0, 1, 2, 3, 5] (by omega) (by simp -dsimp -implicitDefEqProofs only [↓Ev.xStp_eq, ↓Ev.P, Ev.Q, Ev.Z, simprocAttr]) (.inr ⟨f, a1, [] ++ [((po, pn), ph)], b2, rfl, by omega, by rw [List.length_append, List.length_singleton]; omega, hgo, ?_⟩)
             all_goals simp -dsimp -implicitDefEqProofs only [↓Ev.xStp_eq, ↓Ev.P, Ev.Q, Ev.Z, simprocAttr]
             all_goals rfl
         · have hi3 : ¬ (0 : Int) < L.length := by omega
           rw [psG_end (n := L.length) hlt] at hY; cases hY
       · have _t := trivial
         by_cases hlt : at_ < L.length
         · have hi3 : (at_ : Int) < L.length := by omega
           obtain ⟨f, rfl⟩ : ∃ g, f = g + 1 := ⟨f - 1, by omega⟩
           rw [psG, if_pos hlt] at hgo
           cases hx : ptG hkU [64, 64] [45, 45, 45, 32] [43, 43, 43, 32] L (hs : List Pt).length at_ with
           | error xe =>
             obtain ⟨xa, xe⟩ := xe
             rw [hx] at hgo; cases hgo
             simp -dsimp -implicitDefEqProofs only [S24, SP24, R24, hi3, hx, impF, CSplit, CMoreU, CPtU, ptA, DCatchU, Ev.defK, defE_nU, defE_rU, Ev.endK, Ev.xvs, uhC_wp, uhK_ok, uhK_error, map_ok, map_error, fltV, unStr_rows, strRows_len, ptRows_len, ptRows_all, ptRows_one, List.length_append, Ev.St.giveC, ↓Ev.P, Ev.Q, Ev.Z, simprocAttr]
             repeat' (first | with_reducible assumption | refine And.intro ?_ ?_ | intro _ | (rw [Ev.xStp_eq]; simp -dsimp -implicitDefEqProofs only [S24, SP24, R24, hi3, hx, impF, CSplit, CMoreU, CPtU, ptA, DCatchU, Ev.defK, defE_nU, defE_rU, Ev.endK, Ev.xvs, uhC_wp, uhK_ok, uhK_error, map_ok, map_error, fltV, unStr_rows, strRows_len, ptRows_len, ptRows_all, ptRows_one, List.length_append, Ev.St.giveC, ↓Ev.P, Ev.Q, Ev.Z, simprocAttr]))
             all_goals try omega
             all_goals exact hk
           | ok x =>
             obtain ⟨h, a1⟩ := x
             obtain ⟨b1, b2, b3⟩ := ptG_le hkU_ok hx
             rw [hx] at hgo; dsimp only at hgo
             obtain ⟨⟨po, pn⟩, ph⟩ := h
             simp -dsimp -implicitDefEqProofs only [S24, SP24, R24, hi3, hx, impF, CSplit, CMoreU, CPtU, ptA, DCatchU, Ev.defK, defE_nU, defE_rU, Ev.endK, Ev.xvs, uhC_wp, uhK_ok, uhK_error, map_ok, map_error, fltV, unStr_rows, strRows_len, ptRows_len, ptRows_all, ptRows_one, List.length_append, Ev.St.giveC, ↓Ev.P, Ev.Q, Ev.Z, simprocAttr]
             repeat' (first | with_reducible assumption | refine And.intro ?_ ?_ | intro _ | (rw [Ev.xStp_eq]; simp -dsimp -implicitDefEqProofs only [S24, SP24, R24, hi3, hx, impF, CSplit, CMoreU, CPtU, ptA, DCatchU, Ev.defK, defE_nU, defE_rU, Ev.endK, Ev.xvs, uhC_wp, uhK_ok, uhK_error, map_ok, map_error, fltV, unStr_rows, strRows_len, ptRows_len, ptRows_all, ptRows_one, List.length_append, Ev.St.giveC, ↓Ev.P, Ev.Q, Ev.Z, simprocAttr]))
             all_goals try omega
             all_goals try refine xAgain_intro (L.length - a1 + 1) [0, 1, 2, 3, 6] (by omega) (by simp -dsimp -implicitDefEqProofs only [↓Ev.xStp_eq, ↓Ev.P, Ev.Q, Ev.Z, simprocAttr]) (.inr ⟨f, a1, hs ++ [((po, pn), ph)], b2, rfl, by omega, by rw [List.length_append, List.length_singleton]; omega, hgo, ?_⟩)
             all_goals simp -dsimp -implicitDefEqProofs only [↓Ev.xStp_eq, ↓Ev.P, Ev.Q, Ev.Z, simprocAttr]
             all_goals rfl
         · have hi3 : ¬ (at_ : Int) < L.length := by omega
           rw [psG_end hlt] at hgo; cases hgo
   | ok hh =>
     rw [hY] at hk; simp only [parPU] at hk
     by_cases hl0 : 0 < L.length
     · refine ⟨[4], ?_⟩
       simp -dsimp -implicitDefEqProofs only [S24, SP24, R24, h4', hLs, impF, CSplit, CMoreU, CPtU, ptA, DCatchU, Ev.defK, defE_nU, defE_rU, Ev.endK, Ev.xvs, uhC_wp, uhK_ok, uhK_error, map_ok, map_error, fltV, unStr_rows, strRows_len, ptRows_len, ptRows_all, ptRows_one, List.length_append, Ev.St.giveC, ↓Ev.P, Ev.Q, Ev.Z, simprocAttr]
       repeat' (first | with_reducible assumption | refine And.intro ?_ ?_ | intro _ | (rw [Ev.xStp_eq]; simp -dsimp -implicitDefEqProofs only [S24, SP24, R24, h4', hLs, impF, CSplit, CMoreU, CPtU, ptA, DCatchU, Ev.defK, defE_nU, defE_rU, Ev.endK, Ev.xvs, uhC_wp, uhK_ok, uhK_error, map_ok, map_error, fltV, unStr_rows, strRows_len, ptRows_len, ptRows_all, ptRows_one, List.length_append, Ev.St.giveC, ↓Ev.P, Ev.Q, Ev.Z, simprocAttr]))
       all_goals try omega
       refine xLoop_intro (fun n2 st => (n2 = L.length + 2 ∧ st = ⟨[(2, .ptr 1 0), (3, .ptr 2 0), (4, .ptr 3 0)], 4, [(0, .row 55 3 (ptRows [])), (1, .cells 49 [.own 0]), (2, .cells 24 [.d (.v .nilIface)]), (3, .cells 112 [.d (.sl (strRows L)), .d (.v (.int .i64 0))])]⟩) ∨ (∃ (f at_ : Nat) (hs : List Pt), at_ ≤ L.length ∧ n2 = L.length - at_ + 1 ∧ L.length - at_ ≤ f ∧ hs.length ≤ 64 ∧ psG hkU [64, 64] [45, 45, 45, 32] [43, 43, 43, 32] L f at_ hs = .ok hh ∧ st = ⟨[(2, .ptr 1 0), (3, .ptr 2 0), (4, .ptr 3 0)], 5, [(0, .dead), (1, .cells 49 [.own 4]), (2, .cells 24 [.d (.v .nilIface)]), (3, .cells 112 [.d (.sl (strRows L)), .d (.v (.int .i64 (at_ : Nat)))]), (4, .row 55 3 (ptRows hs))]⟩)) (L.length + 2) [0, 1, 2, 3] ?_ ?_ ?_
       · simp -dsimp -implicitDefEqProofs only [↓Ev.xStp_eq, ↓Ev.P, Ev.Q, Ev.Z, simprocAttr]
       · simp -dsimp -implicitDefEqProofs only [↓Ev.xStp_eq, ↓Ev.P, Ev.Q, Ev.Z, simprocAttr]
         first | exact .inl ⟨rfl, rfl⟩ | exact .inl rfl
       · rintro n2 st2 (⟨rfl, rfl⟩ | ⟨f, at_, hs, hat, rfl, hf, hhs, hgo, rfl⟩)
         · have _t := trivial
           by_cases hlt : 0 < L.length
           · have hi3 : (0 : Int) < L.length := by omega
             have hgo := hY
             obtain ⟨f, hf⟩ : ∃ g, L.length = g + 1 := ⟨L.length - 1, by omega⟩
             rw [hf, psG, if_pos (by omega)] at hgo
             cases hx : ptG hkU [64, 64] [45, 45, 45, 32] [43, 43, 43, 32] L ([] : List Pt).length 0 with
             | error xe =>
               obtain ⟨xa, xe⟩ := xe
               rw [hx] at hgo; cases hgo
             | ok x =>
               obtain ⟨h, a1⟩ := x
               obtain ⟨b1, b2, b3⟩ := ptG_le hkU_ok hx
               rw [hx] at hgo; dsimp only at hgo
               obtain ⟨⟨po, pn⟩, ph⟩ := h
               have hx0 := hx; simp only [List.length_nil, Int.natCast_zero] at hx0
               simp -dsimp -implicitDefEqProofs only [S24, SP24, R24, hi3, hx, hx0, impF, CSplit, CMoreU, CPtU, ptA, DCatchU, Ev.defK, defE_nU, defE_rU, Ev.endK, Ev.xvs, uhC_wp, uhK_ok, uhK_error, map_ok, map_error, fltV, unStr_rows, strRows_len, ptRows_len, ptRows_all, ptRows_one, List.length_append, Ev.St.giveC, ↓Ev.P, Ev.Q, Ev.Z, simprocAttr]
               repeat' (first | with_reducible assumption | refine And.intro ?_ ?_ | intro _ | (rw [Ev.xStp_eq]; simp -dsimp -implicitDefEqProofs only [S24, SP24, R24, hi3, hx, hx0, impF, CSplit, CMoreU, CPtU, ptA, DCatchU, Ev.defK, defE_nU, defE_rU, Ev.endK, Ev.xvs, uhC_wp, uhK_ok, uhK_error, map_ok, map_error, fltV, unStr_rows, strRows_len, ptRows_len, ptRows_all, ptRows_one, List.length_append, Ev.St.giveC, ↓Ev.P, Ev.Q, Ev.Z, simprocAttr]))
               all_goals try omega
               all_goals try refine xAgain_intro (L.length - a1 + 1) [0, 1, 2, 3, 5] (by omega) (by simp -dsimp -implicitDefEqProofs only [↓Ev.xStp_eq, ↓Ev.P, Ev.Q, Ev.Z, simprocAttr]) (.inr ⟨f, a1, [] ++ [((po, pn), ph)], b2, rfl, by omega, by rw [List.length_append, List.length_singleton]; omega, hgo, ?_⟩)
               all_goals simp -dsimp -implicitDefEqProofs only [↓Ev.xStp_eq, ↓Ev.P, Ev.Q, Ev.Z, simprocAttr]
               all_goals rfl
           · have hi3 : ¬ (0 : Int) < L.length := by omega
             omega
         · have _t := trivial
           by_cases hlt : at_ < L.length
           · have hi3 : (at_ : Int) < L.length := by omega
             obtain ⟨f, rfl⟩ : ∃ g, f = g + 1 := ⟨f - 1, by omega⟩
             rw [psG, if_pos hlt] at hgo
             cases hx : ptG hkU [64, 64] [45, 45, 45, 32] [43, 43, 43, 32] L (hs : List Pt).length at_ with
             | error xe =>
               obtain ⟨xa, xe⟩ := xe
               rw [hx] at hgo; cases hgo
             | ok x =>
               obtain ⟨h, a1⟩ := x
               obtain ⟨b1, b2, b3⟩ := ptG_le hkU_ok hx
               rw [hx] at hgo; dsimp only at hgo
               obtain ⟨⟨po, pn⟩, ph⟩ := h
               simp -dsimp -implicitDefEqProofs only [S24, SP24, R24, hi3, hx, impF, CSplit, CMoreU, CPtU, ptA, DCatchU, Ev.defK, defE_nU, defE_rU, Ev.endK, Ev.xvs, uhC_wp, uhK_ok, uhK_error, map_ok, map_error, fltV, unStr_rows, strRows_len, ptRows_len, ptRows_all, ptRows_one, List.length_append, Ev.St.giveC, ↓Ev.P, Ev.Q, Ev.Z, simprocAttr]
               repeat' (first | with_reducible assumption | refine And.intro ?_ ?_ | intro _ | (rw [Ev.xStp_eq]; simp -dsimp -implicitDefEqProofs only [S24, SP24, R24, hi3, hx, impF, CSplit, CMoreU, CPtU, ptA, DCatchU, Ev.defK, defE_nU, defE_rU, Ev.endK, Ev.xvs, uhC_wp, uhK_ok, uhK_error, map_ok, map_error, fltV, unStr_rows, strRows_len, ptRows_len, ptRows_all, ptRows_one, List.length_append, Ev.St.giveC, ↓Ev.P, Ev.Q, Ev.Z, simprocAttr]))
               all_goals try omega
               all_goals try refine xAgain_intro (L.length - a1 + 1) [0, 1, 2, 3, 6] (by omega) (by simp -dsimp -implicitDefEqProofs only [↓Ev.xStp_eq, ↓Ev.P, Ev.Q, Ev.Z, simprocAttr]) (.inr ⟨f, a1, hs ++ [((po, pn), ph)], b2, rfl, by omega, by rw [List.length_append, List.length_singleton]; omega, hgo, ?_⟩)
               all_goals simp -dsimp -implicitDefEqProofs only [↓Ev.xStp_eq, ↓Ev.P, Ev.Q, Ev.Z, simprocAttr]
               all_goals rfl
           · have hi3 : ¬ (at_ : Int) < L.length := by omega
             rw [psG_end hlt] at hgo; cases hgo
             simp -dsimp -implicitDefEqProofs only [S24, SP24, R24, hi3, impF, CSplit, CMoreU, CPtU, ptA, DCatchU, Ev.defK, defE_nU, defE_rU, Ev.endK, Ev.xvs, uhC_wp, uhK_ok, uhK_error, map_ok, map_error, fltV, unStr_rows, strRows_len, ptRows_len, ptRows_all, ptRows_one, List.length_append, Ev.St.giveC, ↓Ev.P, Ev.Q, Ev.Z, simprocAttr]
             repeat' (first | with_reducible assumption | refine And.intro ?_ ?_ | intro _ | (rw [Ev.xStp_eq]; simp -dsimp -implicitDefEqProofs only [S24, SP24, R24, hi3, impF, CSplit, CMoreU, CPtU, ptA, DCatchU, Ev.defK, defE_nU, defE_rU, Ev.endK, Ev.xvs, uhC_wp, uhK_ok, uhK_error, map_ok, map_error, fltV, unStr_rows, strRows_len, ptRows_len, ptRows_all, ptRows_one, List.length_append, Ev.St.giveC, ↓Ev.P, Ev.Q, Ev.Z, simprocAttr]))
             all_goals try omega
             all_goals exact hk
     · refine ⟨[0], ?_⟩
       simp -dsimp -implicitDefEqProofs only [S24, SP24, R24, h4', hLs, impF, CSplit, CMoreU, CPtU, ptA, DCatchU, Ev.defK, defE_nU, defE_rU, Ev.endK, Ev.xvs, uhC_wp, uhK_ok, uhK_error, map_ok, map_error, fltV, unStr_rows, strRows_len, ptRows_len, ptRows_all, ptRows_one, List.length_append, Ev.St.giveC, ↓Ev.P, Ev.Q, Ev.Z, simprocAttr]
       repeat' (first | with_reducible assumption | refine And.intro ?_ ?_ | intro _ | (rw [Ev.xStp_eq]; simp -dsimp -implicitDefEqProofs only [S24, SP24, R24, h4', hLs, impF, CSplit, CMoreU, CPtU, ptA, DCatchU, Ev.defK, defE_nU, defE_rU, Ev.endK, Ev.xvs, uhC_wp, uhK_ok, uhK_error, map_ok, map_error, fltV, unStr_rows, strRows_len, ptRows_len, ptRows_all, ptRows_one, List.length_append, Ev.St.giveC, ↓Ev.P, Ev.Q, Ev.Z, simprocAttr]))
       all_goals try omega
       refine xLoop_intro (fun n2 st => (n2 = L.length + 2 ∧ st = ⟨[(2, .ptr 1 0), (3, .ptr 2 0), (4, .ptr 3 0)], 4, [(0, .row 55 3 (ptRows [])), (1, .cells 49 [.own 0]), (2, .cells 24 [.d (.v .nilIface)]), (3, .cells 112 [.d (.sl (strRows L)), .d (.v (.int .i64 0))])]⟩)) (L.length + 2) [0, 1, 2, 3] ?_ ?_ ?_
       · simp -dsimp -implicitDefEqProofs only [↓Ev.xStp_eq, ↓Ev.P, Ev.Q, Ev.Z, simprocAttr]
       · simp -dsimp -implicitDefEqProofs only [↓Ev.xStp_eq, ↓Ev.P, Ev.Q, Ev.Z, simprocAttr]
         all_goals first | rfl | exact ⟨rfl, rfl⟩ | trivial
       · rintro n2 st2 ⟨rfl, rfl⟩
         · have _t := trivial
           by_cases hlt : 0 < L.length
           · have hi3 : (0 : Int) < L.length := by omega
             omega
           · have hi3 : ¬ (0 : Int) < L.length := by omega
             rw [psG_end (n := L.length) hlt] at hY; cases hY
             simp -dsimp -implicitDefEqProofs only [S24, SP24, R24, hi3, impF, CSplit, CMoreU, CPtU, ptA, DCatchU, Ev.defK, defE_nU, defE_rU, Ev.endK, Ev.xvs, uhC_wp, uhK_ok, uhK_error, map_ok, map_error, fltV, unStr_rows, strRows_len, ptRows_len, ptRows_all, ptRows_one, List.length_append, Ev.St.giveC, ↓Ev.P, Ev.Q, Ev.Z, simprocAttr]
             repeat' (first | with_reducible assumption | refine And.intro ?_ ?_ | intro _ | (rw [Ev.xStp_eq]; simp -dsimp -implicitDefEqProofs only [S24, SP24, R24, hi3, impF, CSplit, CMoreU, CPtU, ptA, DCatchU, Ev.defK, defE_nU, defE_rU, Ev.endK, Ev.xvs, uhC_wp, uhK_ok, uhK_error, map_ok, map_error, fltV, unStr_rows, strRows_len, ptRows_len, ptRows_all, ptRows_one, List.length_append, Ev.St.giveC, ↓Ev.P, Ev.Q, Ev.Z, simprocAttr]))
             all_goals try omega
             all_goals exact hk
def CSameA : Contract := pureC fun args => match args with
 | [.d (.sl rows), .d (.sl rows')] => (unPt rows).bind fun l => (unPt rows').map fun m => (l = m ∧ smP l, .d (.v (.bool true)))
 | _ => none
set_option maxHeartbeats 4000000 in
theorem s30 : Sound G Tryz.prog 30 CSameA := by
 refine sd30 (T := tabT [(71, CSameP)]) (tab_cons s71 tab_nil) (pureC_lawful _) (pure_hX fun args p x K h hp hk => ?_)
 split at h <;> simp only [Option.bind_eq_some_iff, Option.map_eq_some_iff, Prod.mk.injEq, reduceCtorEq] at h
 obtain ⟨l, hl, m, hm, rfl, rfl⟩ := h
 rw [unPt_eq hl, unPt_eq hm] at *
 obtain ⟨rfl, h1, h2⟩ := hp
 refine ⟨Nat.le_of_ble_eq_true rfl, ?_⟩
 simp -dsimp -implicitDefEqProofs only [S30, R30, ptRows_len, ↓Ev.xStp_eq, ↓Ev.P, Ev.Q, Ev.Z, simprocAttr]
 refine xLoop_intro (fun n st => ∃ i : Nat, i ≤ l.length ∧ n = l.length - i ∧ st = ⟨[(0, .d (.sl (ptRows l))), (1, .d (.sl (ptRows l))), (5, .d (.v (.int .i64 i)))], 0, []⟩) l.length [] ?_ ?_ ?_
 · simp -dsimp -implicitDefEqProofs only [↓Ev.xStp_eq, ↓Ev.P, Ev.Q, Ev.Z, simprocAttr]
 · simp -dsimp -implicitDefEqProofs only [↓Ev.xStp_eq, ↓Ev.P, Ev.Q, Ev.Z, simprocAttr]
   exact ⟨0, by omega, by omega, rfl⟩
 · rintro n st ⟨i, hi, hn, rfl⟩
   by_cases hil : i < l.length
   · have hi3 : (i : Int) < l.length := by omega
     have hg := ptRows_get hil
     have hg2 : (ptRows l).getD i [] = ptRow (l.getD i pt0) := by rw [List.getD_eq_getElem?_getD, hg]; rfl
     have hm := h2 _ (pt_mem hil)
     generalize l.getD i pt0 = q at hg hg2 hm
     obtain ⟨⟨o, nn⟩, hs⟩ := q
     dsimp only at hm
     simp -dsimp -implicitDefEqProofs only [hg, hg2, hi3, ptRow, ptRows_len, CSameP, unHk_rows, Ev.St.giveC, ↓Ev.P, Ev.Q, Ev.Z, simprocAttr]
     repeat' (first | with_reducible assumption | refine And.intro ?_ ?_ | intro _ | (rw [Ev.xStp_eq]; simp -dsimp -implicitDefEqProofs only [hg, hg2, hi3, ptRow, ptRows_len, CSameP, unHk_rows, Ev.St.giveC, ↓Ev.P, Ev.Q, Ev.Z, simprocAttr]))
     all_goals try omega
     all_goals try rfl
     refine xAgain_intro (l.length - (i + 1)) [] (by omega) (by simp -dsimp -implicitDefEqProofs only [↓Ev.xStp_eq, ↓Ev.P, Ev.Q, Ev.Z, simprocAttr]) ⟨i + 1, by omega, rfl, ?_⟩
     simp -dsimp -implicitDefEqProofs only [↓Ev.xStp_eq, ↓Ev.P, Ev.Q, Ev.Z, simprocAttr]
     all_goals rfl
   · have hi3 : ¬ (i : Int) < l.length := by omega
     simp -dsimp -implicitDefEqProofs only [hi3, ptRows_len, ↓Ev.xStp_eq, ↓Ev.P, Ev.Q, Ev.Z, simprocAttr]
     exact hk
theorem s26 : Sound G Tryz.prog 26 CSameA := by
 refine sd26 (T := tabT [(30, CSameA)]) (tab_cons s30 tab_nil) (pureC_lawful _) (pure_hX fun args p x K h hp hk => ?_)
 split at h <;> simp only [Option.bind_eq_some_iff, Option.map_eq_some_iff, Prod.mk.injEq, reduceCtorEq] at h
 obtain ⟨l, hl, m, hm, rfl, rfl⟩ := h
 rw [unPt_eq hl, unPt_eq hm] at *
 obtain ⟨rfl, h1⟩ := hp
 refine ⟨Nat.le_of_ble_eq_true rfl, ?_⟩
 simp -dsimp -implicitDefEqProofs only [S26, R26, CSameA, unPt_rows, Ev.St.giveC, ↓Ev.P, Ev.Q, Ev.Z, simprocAttr]
 repeat' (first | with_reducible assumption | refine And.intro ?_ ?_ | intro _ | (rw [Ev.xStp_eq]; simp -dsimp -implicitDefEqProofs only [CSameA, unPt_rows, Ev.St.giveC, ↓Ev.P, Ev.Q, Ev.Z, simprocAttr]))
 all_goals first | rfl | exact h1 | exact hk
end Go.Proofs.YtlghobefhmpfkaaGreatDoor
namespace Go.Proofs.YtlghobefhmpfkaaGreatDoor
open Go Go.Ev
set_option maxRecDepth 100000
def A7 : Ann := ⟨fun r i => if r = 17 ∧ i = 5 then 1 else 0, fun _ => none, fun r => if r = 3 then some (false, [0]) else if r = 5 then some (false, [3]) else if r = 8 then some (false, [3, 5, 6]) else if r = 9 then some (false, [3, 5, 6]) else if r = 10 then some (false, [3, 5, 6]) else if r = 13 then some (false, [3, 5, 6, 7]) else if r = 14 then some (false, [3, 5]) else if r = 16 then some (false, [3, 5]) else if r = 17 then some (false, [3, 9, 10]) else none, fun r => if r = 8 then [3, 5, 6] else []⟩
def S7 : SCode :=
 (.seq (.ops [⟨none, (some 2), .mv 2 (.k (Value.bool false)), false⟩])
 (.seq (.seq (.ops [⟨none, (some 11), .call (some 11) 23 false [], false⟩,
   ⟨none, (some 12), .not 12 (.s 11), false⟩])
 (.cond (.s 12) (.seq (.ops [⟨none, (some 2), .mv 2 (.k (Value.bool false)), false⟩])
 .ret) .skip))
 (.seq (.seq (.keep [0]) (.ops [⟨none, (some 14), .mv 14 (.s 0), false⟩,
   ⟨none, (some 15), .call (some 15) 24 false [(.s 14)], false⟩,
   ⟨none, (some 13), .mv 13 (.s 15), false⟩,
   ⟨none, (some 16), .ex 16 (.s 13) 0, false⟩,
   ⟨none, (some 17), .ex 17 (.s 13) 1, false⟩,
   ⟨none, (some 3), .mv 3 (.s 16), false⟩,
   ⟨none, (some 4), .mv 4 (.s 17), false⟩]))
 (.seq (.seq (.ops [⟨none, (some 18), .mv 18 (.s 4), false⟩,
   ⟨none, (some 19), .isnil 19 true true (.s 18), false⟩])
 (.cond (.s 19) (.seq (.seq (.keep [3]) (.ops [⟨none, (some 20), .mv 20 (.s 3), false⟩,
   ⟨none, (some 21), .len 21 (.s 20), false⟩,
   ⟨none, (some 22), .bin 22 .eql (.s 21) (.k (Value.int .i64 0)), false⟩,
   ⟨none, (some 2), .mv 2 (.s 22), false⟩]))
 .ret) .skip))
 (.seq (.ops [⟨none, (some 5), .mv 5 (.k (Value.string ⟨#[]⟩)), false⟩])
 (.seq (.seq (.ops [⟨none, (some 6), .mv 6 (.k (Value.int .i64 0)), false⟩])
 (.block 0 (.loop [3, 5, 6] (.seq (.seq (.seq (.keep [3, 5, 6]) (.ops [⟨none, (some 23), .mv 23 (.s 6), false⟩,
   ⟨none, (some 24), .mv 24 (.s 3), false⟩,
   ⟨none, (some 25), .len 25 (.s 24), false⟩,
   ⟨none, (some 26), .bin 26 .lss (.s 23) (.s 25), false⟩]))
 (.cond (.s 26) .skip (.exit 0)))
 (.seq (.block 1 (.seq (.seq (.keep [3, 5, 6]) (.ops [⟨none, (some 30), .mv 30 (.s 3), false⟩,
   ⟨none, (some 31), .mv 31 (.s 6), false⟩,
   ⟨none, (some 32), .ia 32 3 (.s 30) (.s 31), false⟩,
   ⟨none, (some 33), .ld 33 true 3 (.s 32), false⟩,
   ⟨none, (some 34), .call (some 34) 25 false [(.s 33)], false⟩,
   ⟨none, (some 29), .mv 29 (.s 34), false⟩,
   ⟨none, (some 35), .ex 35 (.s 29) 0, false⟩,
   ⟨none, (some 36), .ex 36 (.s 29) 1, false⟩,
   ⟨none, (some 7), .mv 7 (.s 35), false⟩,
   ⟨none, (some 8), .mv 8 (.s 36), true⟩]))
 (.seq (.seq (.ops [⟨none, (some 37), .mv 37 (.s 8), false⟩,
   ⟨none, (some 38), .bin 38 .neq (.s 37) (.k (Value.int .i64 0)), false⟩])
 (.cond (.s 38) (.seq (.ops [⟨none, (some 2), .mv 2 (.k (Value.bool false)), false⟩])
 .ret) .skip))
 (.seq (.keep [3, 5, 6, 7]) (.ops [⟨none, (some 39), .mv 39 (.s 5), false⟩,
   ⟨none, (some 40), .mv 40 (.s 7), false⟩,
   ⟨none, (some 41), .bin 41 .add (.s 39) (.s 40), false⟩,
   ⟨none, (some 5), .mv 5 (.s 41), false⟩])))))
 (.seq (.keep [3, 5, 6]) (.ops [⟨none, (some 27), .mv 27 (.s 6), false⟩,
   ⟨none, (some 28), .binc 28 .add (.s 27) (.k (Value.int .i64 1)), false⟩,
   ⟨none, (some 6), .mv 6 (.s 28), false⟩])))))))
 (.seq (.seq (.seq (.keep [3, 5]) (.ops [⟨none, (some 42), .mv 42 (.s 5), false⟩,
   ⟨none, (some 43), .lens 43 (.s 42), false⟩,
   ⟨none, (some 44), .bin 44 .gtr (.s 43) (.k (Value.int .i64 1048576)), false⟩]))
 (.cond (.s 44) (.seq (.ops [⟨none, (some 2), .mv 2 (.k (Value.bool true)), false⟩])
 .ret) .skip))
 (.seq (.seq (.keep [3, 5]) (.ops [⟨none, (some 46), .mv 46 (.s 5), false⟩,
   ⟨none, (some 47), .call (some 47) 24 false [(.s 46)], false⟩,
   ⟨none, (some 45), .mv 45 (.s 47), false⟩,
   ⟨none, (some 48), .ex 48 (.s 45) 0, false⟩,
   ⟨none, (some 49), .ex 49 (.s 45) 1, false⟩,
   ⟨none, (some 9), .mv 9 (.s 48), false⟩,
   ⟨none, (some 10), .mv 10 (.s 49), false⟩]))
 (.seq (.seq (.keep [3, 9, 10]) (.ops [⟨none, (some 50), .mv 50 (.s 10), false⟩,
   ⟨none, (some 51), .isnil 51 false true (.s 50), false⟩,
   ⟨none, (some 52), .mv 52 (.s 51), false⟩,
   ⟨(some (52, true)), (some 53), .mv 53 (.s 9), false⟩,
   ⟨(some (52, true)), (some 54), .mv 54 (.s 3), false⟩,
   ⟨(some (52, true)), (some 55), .call (some 55) 26 true [(.s 53), (.s 54)], false⟩,
   ⟨none, (some 56), .pk 56 (.s 52) (.s 55) (.k (Value.bool false)), false⟩,
   ⟨none, (some 2), .mv 2 (.s 56), false⟩]))
 .ret)))))))))
def R7 : List RR := [.sl 2]
theorem sd7 : SdT Tryz.prog 7 57 S7 R7 := fun hT hl hC hit => sdX (F := Tryz.f7) (A := A7) mo (by kernel_rfl) (by kernel_rfl) (by kernel_rfl) (by kernel_rfl) hT hl hC hit
def A23 : Ann := ⟨fun r i => if r = 4 ∧ i = 12 then 1 else if r = 4 ∧ i = 20 then 1 else 0, fun r => if r = 4 then some [(0, true, []), (1, true, []), (2, true, []), (3, true, []), (4, true, []), (5, true, []), (6, true, []), (7, true, []), (8, true, []), (9, true, []), (10, true, []), (11, true, []), (12, true, []), (13, true, []), (14, true, []), (15, true, []), (16, true, []), (17, true, []), (18, true, []), (19, true, []), (20, false, [0, 1, 2, 3, 4, 5, 6, 7, 8, 9, 10, 11, 12, 13, 14, 15]), (21, true, []), (22, true, [])] else none, fun r => if r = 1 then some (false, []) else if r = 2 then some (false, [1]) else if r = 3 then some (false, [1, 2, 3]) else if r = 4 then some (false, [1, 2, 3, 4, 5]) else none, fun _ => []⟩
def S23 : SCode :=
 (.seq (.ops [⟨none, (some 0), .mv 0 (.k (Value.bool false)), false⟩])
 (.seq (.seq (.keep []) (.ops [⟨none, (some 6), .bd 6 [(Value.int .u8 0), (Value.string ⟨#[]⟩)] [(0, 1, (.k (Value.int .u8 32))), (1, 1, (.k (Value.string ⟨#[49, 10]⟩)))], false⟩,
   ⟨none, (some 7), .bd 7 [(Value.int .u8 0), (Value.string ⟨#[]⟩)] [(0, 1, (.k (Value.int .u8 45))), (1, 1, (.k (Value.string ⟨#[50]⟩)))], false⟩,
   ⟨none, (some 8), .bs 8 103 2 [(.s 6), (.s 7)], false⟩,
   ⟨none, (some 9), .bd 9 [(Value.int .i64 0), (Value.int .i64 0), (Value.int .i64 0), (Value.int .i64 0), (Value.slice none 0 0)] [(0, 1, (.k (Value.int .i64 1))), (1, 1, (.k (Value.int .i64 2))), (2, 1, (.k (Value.int .i64 1))), (3, 1, (.k (Value.int .i64 1))), (4, 1, (.s 8))], false⟩,
   ⟨none, (some 10), .bs 10 47 5 [(.s 9)], false⟩,
   ⟨none, (some 11), .bd 11 [(Value.string ⟨#[]⟩), (Value.string ⟨#[]⟩), (Value.slice none 0 0)] [(0, 1, (.k (Value.string ⟨#[97]⟩))), (1, 1, (.k (Value.string ⟨#[98]⟩))), (2, 1, (.s 10))], false⟩,
   ⟨none, (some 1), .al 1 55 [(Value.string ⟨#[]⟩), (Value.string ⟨#[]⟩), (Value.slice none 0 0)], false⟩,
   ⟨none, none, .st true 3 (.s 1) (.s 11), false⟩]))
 (.seq (.seq (.keep [1]) (.ops [⟨none, (some 13), .ld 13 true 3 (.s 1), false⟩,
   ⟨none, (some 14), .call (some 14) 25 false [(.s 13)], false⟩,
   ⟨none, (some 12), .mv 12 (.s 14), false⟩,
   ⟨none, (some 15), .ex 15 (.s 12) 0, false⟩,
   ⟨none, (some 16), .ex 16 (.s 12) 1, false⟩,
   ⟨none, (some 2), .mv 2 (.s 15), false⟩,
   ⟨none, (some 3), .mv 3 (.s 16), false⟩]))
 (.seq (.seq (.keep [1, 2, 3]) (.ops [⟨none, (some 18), .mv 18 (.s 2), false⟩,
   ⟨none, (some 19), .call (some 19) 24 false [(.s 18)], false⟩,
   ⟨none, (some 17), .mv 17 (.s 19), false⟩,
   ⟨none, (some 20), .ex 20 (.s 17) 0, false⟩,
   ⟨none, (some 21), .ex 21 (.s 17) 1, false⟩,
   ⟨none, (some 4), .mv 4 (.s 20), false⟩,
   ⟨none, (some 5), .mv 5 (.s 21), false⟩]))
 (.seq (.seq (.keep [1, 2, 3, 4, 5]) (.dr [([], true, ⟨none, (some 22), .mv 22 (.s 3), false⟩),
   ([], true, ⟨none, (some 23), .bin 23 .eql (.s 22) (.k (Value.int .i64 0)), false⟩),
   ([], true, ⟨none, (some 24), .mv 24 (.s 23), false⟩),
   ([], true, ⟨(some (24, true)), (some 25), .mv 25 (.s 2), false⟩),
   ([], true, ⟨(some (24, true)), (some 26), .bin 26 .eql (.s 25) (.k (Value.string ⟨#[45, 45, 45, 32, 97, 10, 43, 43, 43, 32, 98, 10, 64, 64, 32, 45, 49, 44, 50, 32, 43, 49, 32, 64, 64, 10, 32, 49, 10, 45, 50, 10, 92, 32, 78, 111, 32, 110, 101, 119, 108, 105, 110, 101, 32, 97, 116, 32, 101, 110, 100, 32, 111, 102, 32, 102, 105, 108, 101, 10]⟩)), false⟩),
   ([], true, ⟨none, (some 27), .pk 27 (.s 24) (.s 26) (.k (Value.bool false)), false⟩),
   ([], true, ⟨none, (some 28), .mv 28 (.s 27), false⟩),
   ([], true, ⟨(some (28, true)), (some 29), .mv 29 (.s 5), false⟩),
   ([], true, ⟨(some (28, true)), (some 30), .isnil 30 false true (.s 29), false⟩),
   ([], true, ⟨none, (some 31), .pk 31 (.s 28) (.s 30) (.k (Value.bool false)), true⟩),
   ([], true, ⟨none, (some 32), .mv 32 (.s 31), false⟩),
   ([], true, ⟨(some (32, true)), (some 33), .mv 33 (.s 4), false⟩),
   ([], true, ⟨(some (32, true)), (some 34), .len 34 (.s 33), false⟩),
   ([], true, ⟨(some (32, true)), (some 35), .bin 35 .eql (.s 34) (.k (Value.int .i64 1)), false⟩),
   ([], true, ⟨none, (some 36), .pk 36 (.s 32) (.s 35) (.k (Value.bool false)), false⟩),
   ([], true, ⟨none, (some 37), .mv 37 (.s 36), false⟩),
   ([], true, ⟨(some (37, true)), (some 38), .mv 38 (.s 4), false⟩),
   ([], true, ⟨(some (37, true)), (some 39), .ia 39 3 (.s 38) (.k (Value.int .i64 0)), false⟩),
   ([], true, ⟨(some (37, true)), (some 40), .ld 40 true 3 (.s 39), false⟩),
   ([], true, ⟨(some (37, true)), (some 41), .ld 41 true 3 (.s 1), true⟩),
   ([0, 1, 2, 3, 4, 5, 6, 7, 8, 9, 10, 11, 12, 13, 14, 15], false, ⟨(some (37, true)), (some 42), .call (some 42) 63 true [(.s 40), (.s 41)], false⟩),
   ([], true, ⟨none, (some 43), .pk 43 (.s 37) (.s 42) (.k (Value.bool false)), false⟩),
   ([], true, ⟨none, (some 0), .mv 0 (.s 43), false⟩)]))
 .ret)))))
def R23 : List RR := [.sl 0]
theorem sd23 : SdT Tryz.prog 23 44 S23 R23 := fun hT hl hC hit => sdX (F := Tryz.f23) (A := A23) mo (by kernel_rfl) (by kernel_rfl) (by kernel_rfl) (by kernel_rfl) hT hl hC hit
end Go.Proofs.YtlghobefhmpfkaaGreatDoor
namespace Go.Proofs.YtlghobefhmpfkaaGreatDoor
open Go Go.Ev Go.Rcs
set_option maxRecDepth 100000
variable {G : World → Prop}
theorem uLn_le2 (m : Mk) : (uLn m).length ≤ m.2.length + 30 := by
 unfold uLn lineT
 split <;> simp only [List.length_append, List.length_cons, List.length_nil, markT] <;> omega
theorem uLns_le : ∀ {l : List Mk}, (∀ m ∈ l, m.2.length ≤ 1048577) → (l.flatMap uLn).length ≤ l.length * 1048608
 | [], _ => by simp
 | m :: l, h => by
   have a := uLn_le2 m
   have b := h m (by simp)
   have c := uLns_le (l := l) fun x hx => h x (by simp [hx])
   rw [List.flatMap_cons, List.length_append, List.length_cons, Nat.add_mul]
   omega
theorem uHks_le : ∀ {hs : List Hk}, (∀ h ∈ hs, chkH h = 0 ∧ ∀ m ∈ h.2, m.2.length ≤ 1048577) → (hs.flatMap uHk).length ≤ hs.length * 100 + lnN hs * 1048608
 | [], _ => by simp [lnN]
 | h :: hs, hh => by
   have ih := uHks_le (hs := hs) fun x hx => hh x (by simp [hx])
   obtain ⟨hc, hm⟩ := hh h (by simp)
   obtain ⟨⟨b1, b2, b3, b4⟩, _⟩ := chkU_all hc
   have a := uLns_le hm
   have g1 := cnt_len (a := h.1.1) (n := h.1.2.1) (by omega)
   have g2 := cnt_len (a := h.1.2.2.1) (n := h.1.2.2.2) (by omega)
   simp only [lnN] at ih
   simp only [List.flatMap_cons, List.length_append, uHk, uHd, List.length_cons, List.length_nil, lnN, List.map_cons, List.sum_cons, Nat.add_mul]
   omega
theorem uPt_le2 {hk : HkF} (H : HkOk hk) {bg p1 p2 s : List UInt8} {pp : List Pt} (h : parG hk bg p1 p2 s = .ok pp) : ∀ p ∈ pp, (uPt p.1.1 p.1.2 p.2).length ≤ 2199023255552 := by
 intro p hp
 obtain ⟨_, h2⟩ := parG_ok H h
 obtain ⟨a, b, c, d, e⟩ := h2 p hp
 have f := parG_sum H h p hp
 have g := uHks_le (hs := p.2) fun x hx => ⟨(e x hx).1, (e x hx).2.2⟩
 have n1 := nameS_len p.1.1
 have n2 := nameS_len p.1.2
 rw [uPt, if_neg c]
 simp only [uTop, List.length_append, List.length_cons, List.length_nil]
 have : lnN p.2 * 1048608 ≤ 1048576 * 1048608 := Nat.mul_le_mul_right _ f
 omega
theorem uAll_snoc {ps : List Pt} {i : Nat} (h : i < ps.length) : uAll (ps.take (i + 1)) = uAll (ps.take i) ++ uPt (ps.getD i pt0).1.1 (ps.getD i pt0).1.2 (ps.getD i pt0).2 := by
 rw [uAll, pt_take h, List.flatMap_append]
 simp [uAll]
theorem uAll_le {ps : List Pt} (h : ∀ p ∈ ps, (uPt p.1.1 p.1.2 p.2).length ≤ 2199023255552) : (uAll ps).length ≤ ps.length * 2199023255552 := by
 induction ps with
 | nil => simp [uAll]
 | cons p ps ih =>
   have a := h p (by simp)
   have b := ih fun x hx => h x (by simp [hx])
   simp only [uAll, List.flatMap_cons, List.length_append, List.length_cons, Nat.add_mul] at b ⊢
   omega
theorem wrong_none {p : Pt} (h : PtOk p) : wrongT p.1.1 p.1.2 p.2 = 0 := by
 obtain ⟨a, b, _, d, e⟩ := h
 have : badHs p.2 = 0 := by
   generalize p.2 = hs at e
   induction hs with
   | nil => rfl
   | cons x l ih => rw [badHs, if_pos (e x (by simp)).1]; exact ih fun y hy => e y (by simp [hy])
 rw [wrongT, if_neg (by omega), if_neg (by omega), this]
abbrev wkP : Pt := (([97], [98]), [((1, 2, 1, 1), [(32, [49, 10]), (45, [50])])])
abbrev wkS : List UInt8 := uPt [97] [98] [((1, 2, 1, 1), [(32, [49, 10]), (45, [50])])]
theorem wk_text : wkS = [45, 45, 45, 32, 97, 10, 43, 43, 43, 32, 98, 10, 64, 64, 32, 45, 49, 44, 50, 32, 43, 49, 32, 64, 64, 10, 32, 49, 10, 45, 50, 10, 92, 32, 78, 111, 32, 110, 101, 119, 108, 105, 110, 101, 32, 97, 116, 32, 101, 110, 100, 32, 111, 102, 32, 102, 105, 108, 101, 10] := by decide +kernel
theorem wk_wrong : wrongT [97] [98] [((1, 2, 1, 1), [(32, [49, 10]), (45, [50])])] = 0 := by decide +kernel
theorem wk_chk : chkH ((1, 2, 1, 1), [(32, [49, 10]), (45, [50])]) = 0 := by decide +kernel
theorem wk_par : parG hkU [64, 64] [45, 45, 45, 32] [43, 43, 43, 32] wkS = .ok [wkP] := by
 have hQ : ∀ p ∈ [wkP], PtQ (fun h => chkH h = 0) p := by
   intro p hp
   rw [List.mem_singleton] at hp
   subst hp
   refine ⟨by decide, by decide, by simp, by decide, fun h hh => ?_⟩
   rw [List.mem_singleton] at hh
   subst hh
   exact wk_chk
 have hu : uAll [wkP] = wkS := by simp [uAll]
 have hne : ∀ p ∈ [wkP], ¬ p.2 = [] := fun p hp => (hQ p hp).2.2.1
 have := again (p2 := [43, 43, 43, 32]) backU rfl rfl (by decide) (by decide) hQ (by decide) (by rw [uAll_flat hne, hu, wk_text]; decide)
 rw [uAll_flat hne, hu] at this
 exact this
theorem smH_wk : smH [((1, 2, 1, 1), [(32, [49, 10]), (45, [50])])] := by
 refine ⟨by decide, fun h hh => ?_⟩
 rw [List.mem_singleton] at hh
 subst hh
 exact ⟨by decide, fun m hm => by
   simp only [List.mem_cons, List.not_mem_nil, or_false] at hm
   rcases hm with rfl | rfl <;> decide⟩
def CWk : Contract := pureC fun args => match args with
 | [] => some (True, .d (.v (.bool true)))
 | _ => none
set_option maxHeartbeats 8000000 in
theorem s23 (hG : ∀ w, G w → Pow10 w) (hE : ∀ w, G w → ErrR w) (hM : ∀ w, G w → MaxL w) : Sound G Tryz.prog 23 CWk := by
 refine sd23 (T := tabT [(25, CUPrint), (24, CParPU hkU [64, 64] [45, 45, 45, 32] [43, 43, 43, 32]), (63, CSameP)]) (tab_cons (s25 hG) (tab_cons (s24 (s66 hE hM)) (tab_cons s63 tab_nil))) (pureC_lawful _) (pure_hX fun args p x K h hp hk => ?_)
 split at h <;> simp only [Option.some.injEq, Prod.mk.injEq, reduceCtorEq] at h
 obtain ⟨rfl, rfl⟩ := h
 refine ⟨Nat.le_of_ble_eq_true rfl, ?_⟩
 have u1 : unHk [[.v (.int .i64 1), .v (.int .i64 2), .v (.int .i64 1), .v (.int .i64 1), .sl [[.v (.int .u8 32), .v (.string ⟨#[49, 10]⟩)], [.v (.int .u8 45), .v (.string ⟨#[50]⟩)]]]] = some [((1, 2, 1, 1), [(32, [49, 10]), (45, [50])])] := rfl
 have hX : parPU (.ok [wkP]) = (.tup [.own 0, .d (.v .nilIface)], ⟨1, [(0, .row 55 3 (ptRows [wkP]))]⟩) := rfl
 have hr : ptRows [wkP] = [[.v (.string ⟨#[97]⟩), .v (.string ⟨#[98]⟩), .sl [[.v (.int .i64 1), .v (.int .i64 2), .v (.int .i64 1), .v (.int .i64 1), .sl [[.v (.int .u8 32), .v (.string ⟨#[49, 10]⟩)], [.v (.int .u8 45), .v (.string ⟨#[50]⟩)]]]]]] := rfl
 have hw := wk_wrong
 have hl : wkS.length ≤ 70368744177664 := by rw [wk_text]; decide
 have hl2 : wkS.length ≤ 1099511627776 := by rw [wk_text]; decide
 have hsm := smH_wk
 have hpar := wk_par
 have hpar2 := wk_par
 rw [wk_text] at hpar2
 simp -dsimp -implicitDefEqProofs only [S23, R23, CUPrint, CParPU, CSameP, u1, hw, hpar, hpar2, hX, hr, Ev.St.giveC, ↓Ev.P, Ev.Q, Ev.Z, simprocAttr]
 repeat' (first | with_reducible assumption | refine And.intro ?_ ?_ | intro _ | (rw [Ev.xStp_eq]; simp -dsimp -implicitDefEqProofs only [CUPrint, CParPU, CSameP, u1, hw, hpar, hpar2, hX, hr, wk_text, Ev.St.giveC, ↓Ev.P, Ev.Q, Ev.Z, simprocAttr]))
 all_goals try omega
 all_goals first | exact hk | exact hsm | rfl | skip
def CLawA : Contract := pureC fun args => match args with
 | [.d (.v (.string s))] => some (s.size ≤ 1099511627776, .d (.v (.bool true)))
 | _ => none
set_option maxHeartbeats 32000000 in
theorem s7 (hG : ∀ w, G w → Pow10 w) (hE : ∀ w, G w → ErrR w) (hM : ∀ w, G w → MaxL w) : Sound G Tryz.prog 7 CLawA := by
 refine sd7 (T := tabT [(23, CWk), (25, CUPrint), (24, CParPU hkU [64, 64] [45, 45, 45, 32] [43, 43, 43, 32]), (26, CSameA)]) (tab_cons (s23 hG hE hM) (tab_cons (s25 hG) (tab_cons (s24 (s66 hE hM)) (tab_cons s26 tab_nil)))) (pureC_lawful _) (pure_hX fun args p x K h hp hk => ?_)
 split at h <;> simp only [Option.some.injEq, Prod.mk.injEq, reduceCtorEq] at h
 obtain ⟨rfl, rfl⟩ := h
 rename_i s
 obtain ⟨s, rfl⟩ := ex_str s
 simp only [sem_str] at hp
 refine ⟨Nat.le_of_ble_eq_true rfl, ?_⟩
 cases hY : parG hkU [64, 64] [45, 45, 45, 32] [43, 43, 43, 32] s with
 | error xe =>
   obtain ⟨a, e⟩ := xe
   have hX : parPU (.error (a, e)) = (.tup [.d (.sl []), .d (fltV a e)], ⟨0, []⟩) := rfl
   simp -dsimp -implicitDefEqProofs only [S7, R7, CWk, CParPU, hY, hX, fltV, Ev.St.giveC, ↓Ev.P, Ev.Q, Ev.Z, simprocAttr]
   repeat' (first | with_reducible assumption | refine And.intro ?_ ?_ | intro _ | (rw [Ev.xStp_eq]; simp -dsimp -implicitDefEqProofs only [CWk, CParPU, hY, hX, fltV, Ev.St.giveC, ↓Ev.P, Ev.Q, Ev.Z, simprocAttr]))
   all_goals first | omega | exact hk
 | ok pp =>
   have hX : parPU (.ok pp) = (.tup [.own 0, .d (.v .nilIface)], ⟨1, [(0, .row 55 3 (ptRows pp))]⟩) := rfl
   have hs0 : smP pp := by
     obtain ⟨h1, h2⟩ := parG_ok hkU_ok hY
     refine ⟨by omega, fun p hp => ?_⟩
     obtain ⟨_, _, _, a, b⟩ := h2 p hp
     exact ⟨by omega, fun x hx => ⟨by have := (b x hx).2.1; omega, fun m hm => by have := (b x hx).2.2 m hm; omega⟩⟩
   obtain ⟨hs1, hs2⟩ := parG_ok hkU_ok hY
   have hle := uPt_le2 hkU_ok hY
   simp -dsimp -implicitDefEqProofs only [S7, R7, CWk, CParPU, hY, hX, ptRows_len, ptRows_all, Ev.St.giveC, ↓Ev.P, Ev.Q, Ev.Z, simprocAttr]
   repeat' (first | with_reducible assumption | refine And.intro ?_ ?_ | intro _ | (rw [Ev.xStp_eq]; simp -dsimp -implicitDefEqProofs only [CWk, CParPU, hY, hX, ptRows_len, ptRows_all, Ev.St.giveC, ↓Ev.P, Ev.Q, Ev.Z, simprocAttr]))
   all_goals try omega
   refine xLoop_intro (fun n st => ∃ i : Nat, i ≤ pp.length ∧ n = pp.length - i ∧ st = ⟨[(3, .own 0), (5, .d (.v (.string ⟨(uAll (pp.take i)).toArray⟩))), (6, .d (.v (.int .i64 i)))], 1, [(0, .row 55 3 (ptRows pp))]⟩) pp.length [0] ?_ ?_ ?_
   · simp -dsimp -implicitDefEqProofs only [↓Ev.xStp_eq, ↓Ev.P, Ev.Q, Ev.Z, simprocAttr]
   · simp -dsimp -implicitDefEqProofs only [↓Ev.xStp_eq, ↓Ev.P, Ev.Q, Ev.Z, simprocAttr]
     exact ⟨0, by omega, by omega, rfl⟩
   · rintro n st ⟨i, hi, hn, rfl⟩
     by_cases hil : i < pp.length
     · have hi3 : (i : Int) < pp.length := by omega
       have hg := ptRows_get hil
       have hsn := uAll_snoc hil
       have hz := hs2 _ (pt_mem hil)
       have hpl := hle _ (pt_mem hil)
       have hsm := hs0.2 _ (pt_mem hil)
       have hal := uAll_le (ps := pp.take i) fun p hp => hle p (List.mem_of_mem_take hp)
       have htl : (pp.take i).length ≤ 64 := by rw [List.length_take]; omega
       have hal2 : (pp.take i).length * 2199023255552 ≤ 64 * 2199023255552 := Nat.mul_le_mul_right _ htl
       have hw := wrong_none hz
       generalize pp.getD i pt0 = q at hg hsn hpl hsm hw
       obtain ⟨⟨o, nn⟩, hs⟩ := q
       dsimp only at hsn hpl hsm hw
       simp -dsimp -implicitDefEqProofs only [hg, hi3, hw, ptRow, CUPrint, unHk_rows, ptRows_len, ptRows_all, Ev.St.giveC, ↓Ev.P, Ev.Q, Ev.Z, simprocAttr]
       repeat' (first | with_reducible assumption | refine And.intro ?_ ?_ | intro _ | (rw [Ev.xStp_eq]; simp -dsimp -implicitDefEqProofs only [hg, hi3, hw, ptRow, CUPrint, unHk_rows, ptRows_len, ptRows_all, Ev.St.giveC, ↓Ev.P, Ev.Q, Ev.Z, simprocAttr]))
       all_goals try omega
       refine xAgain_intro (pp.length - (i + 1)) [0] (by omega) (by simp -dsimp -implicitDefEqProofs only [↓Ev.xStp_eq, ↓Ev.P, Ev.Q, Ev.Z, simprocAttr]) ⟨i + 1, by omega, rfl, ?_⟩
       rw [hsn]
       simp -dsimp -implicitDefEqProofs only [↓Ev.xStp_eq, ↓Ev.P, Ev.Q, Ev.Z, simprocAttr]
       all_goals rfl
     · have hi3 : ¬ (i : Int) < pp.length := by omega
       obtain rfl : i = pp.length := by omega
       rw [List.take_length]
       by_cases hbig : (1048576 : Int) < ((uAll pp).length : Int)
       · simp -dsimp -implicitDefEqProofs only [hi3, hbig, ptRows_len, ↓Ev.P, Ev.Q, Ev.Z, simprocAttr]
         repeat' (first | with_reducible assumption | refine And.intro ?_ ?_ | intro _ | (rw [Ev.xStp_eq]; simp -dsimp -implicitDefEqProofs only [hi3, hbig, ptRows_len, ↓Ev.P, Ev.Q, Ev.Z, simprocAttr]))
         all_goals first | omega | exact hk
       · have hY2 := againU hY (by omega)
         simp -dsimp -implicitDefEqProofs only [hi3, hbig, hY2, hX, CParPU, CSameA, unPt_rows, ptRows_len, ptRows_all, Ev.St.giveC, ↓Ev.P, Ev.Q, Ev.Z, simprocAttr]
         repeat' (first | with_reducible assumption | refine And.intro ?_ ?_ | intro _ | (rw [Ev.xStp_eq]; simp -dsimp -implicitDefEqProofs only [hi3, hbig, hY2, hX, CParPU, CSameA, unPt_rows, ptRows_len, ptRows_all, Ev.St.giveC, ↓Ev.P, Ev.Q, Ev.Z, simprocAttr]))
         all_goals first | omega | exact hk | exact hs0 | rfl | skip
end Go.Proofs.YtlghobefhmpfkaaGreatDoor
namespace Go.Proofs.YtlghobefhmpfkaaGreatDoor
open Go Go.Ev
open Go.ChangeShapes Go.WideShapes Go.ChangeAt Go.RowKit
set_option maxRecDepth 100000
variable {H : Type} {enc : TypeId × Value → H}
end Go.Proofs.YtlghobefhmpfkaaGreatDoor
namespace Go.Proofs.YtlghobefhmpfkaaGreatDoor
open Go.RowKit Go.Extern.Stop Go.Stop Go.Extern Go
end Go.Proofs.YtlghobefhmpfkaaGreatDoor
namespace Go.Proofs.YtlghobefhmpfkaaGreatDoor
open Go.RowKit Go.Extern.Stop Go.Stop Go.Extern Go
set_option maxRecDepth 100000
end Go.Proofs.YtlghobefhmpfkaaGreatDoor
namespace Go.Proofs.YtlghobefhmpfkaaGreatDoor
open Go Go.Ev
open Go.ChangeShapes Go.WideShapes Go.ChangeAt Go.RowKit
open Go.ChangeMaps (open_string shut_string)
set_option maxRecDepth 100000
variable {H : Type} {enc : TypeId × Value → H}
theorem var_if {W : World} {name : String} {t : TypeId} {x : Value} (h : W.var? Tryz.prog name = some #[.iface t x]) {b : Nat} (hb : some b = Tryz.prog.globalNamed name) : b < W.heap.size ∧ ∀ (a : Addr) (u : Value), W.cell? a = some u → a.block = b → ∃ t x, u = .iface t x := by
 unfold World.var? at h
 rw [← hb] at h
 simp only [Option.bind_some] at h
 split at h
 · rename_i cs t f e
   refine ⟨(Array.getElem?_eq_some_iff.1 e).1, fun a u ha hab => ?_⟩
   unfold World.cell? at ha
   rw [hab, e] at ha
   simp only [Option.some.injEq] at h
   subst h
   simp only at ha
   split at ha
   · cases ha
   · have hm := Array.mem_of_getElem? ha
     simp only [List.mem_toArray, List.mem_singleton, List.mem_cons, List.not_mem_nil, or_false] at hm
     exact ⟨_, _, hm⟩
 · cases h
theorem var_keep {W W' : World} {name : String} {cs : Array Value} (h : W.var? Tryz.prog name = some cs) (hb : ∀ b, some b = Tryz.prog.globalNamed name → W'.heap[b]? = W.heap[b]?) : W'.var? Tryz.prog name = some cs := by
 unfold World.var? at h ⊢
 cases e : Tryz.prog.globalNamed name with
 | none => rw [e] at h; cases h
 | some g => rw [e] at h; simp only [Option.bind_some] at h ⊢; rw [hb g e.symm]; exact h
def ErrV (w : World) : Prop := w.var? Tryz.prog "errors.errorType" = some #[.iface 199 (.agg #[typeHandle Tryz.prog 24])]
def GL (w : World) : Prop := Pow10 w ∧ ErrR w ∧ ErrV w
def hidL (b : Nat) : Prop := some b = Tryz.prog.globalNamed "internal/strconv.uint64pow10" ∨ some b = Tryz.prog.globalNamed "strconv.ErrRange" ∨ some b = Tryz.prog.globalNamed "errors.errorType"
noncomputable def HL : Hd GL := ⟨hidL, hidL, fun _ h => h, fun w w' h hb => by
 obtain ⟨h1, ⟨tp, p, h2⟩, h3⟩ := h
 exact ⟨HP.st w w' h1 fun b e => hb b (.inl e), ⟨tp, p, var_keep h2 fun b e => hb b (.inr (.inl e))⟩, var_keep h3 fun b e => hb b (.inr (.inr e))⟩, 0, []⟩
theorem hh : typeHandle Tryz.prog 24 = .pointer (some ⟨9, 24, none⟩) := by kernel_rfl
theorem size_eq (s : ByteArray) : s.data.toList.length = s.size := by rw [Array.length_toList]; rfl
theorem own : ownKnob Tryz.prog.godebug = none := by kernel_rfl
theorem gTab : Tryz.prog.globalNamed "internal/strconv.uint64pow10" = some 6 := by kernel_rfl
theorem gTabType : (Tryz.prog.globals[6]?).map (·.type) = some 290 := by kernel_rfl
theorem starE : "*" ++ "errors.errorString" = "*errors.errorString" := by decide
theorem rowE (u : TypeId) (h : Tryz.prog.typeName? 3 u = some "*errors.errorString") : u = 286 :=
 typeName_ptr_named (nm := "errors.errorString") (by rw [starE]; kernel_rfl) (by kernel_rfl) (by decide) u (by rw [starE]; exact h)
theorem errR {W : World} {l : List (String × DataW Unit)} (h : laidMet Tryz.prog (("strconv.ErrRange", Rows.laid_strconv_ErrRange) :: l) W) : ErrR W := by
 obtain ⟨a, s, h3, _⟩ := laid_sentinel (g := 3) (ti := 24) (tp := 286) (te := 288) (ts := 9) h (by kernel_rfl) (by kernel_rfl) Tryz.underlying24 rowE Tryz.underlying286 Tryz.underlying288 rfl rfl Tryz.underlying9 (by kernel_rfl) (by kernel_rfl)
 exact ⟨_, _, h3⟩
theorem pow10 {W : World} {l : List (String × DataW Unit)} (h : laidMet Tryz.prog (("internal/strconv.uint64pow10", Rows.laid_internal_strconv_uint64pow10) :: l) W) : Pow10 W :=
 Lib.tabIs_of_head (n := 20) (e := 270) gTab gTabType (by kernel_rfl) (by kernel_rfl) (by kernel_rfl) (by kernel_rfl) h
def lits : List (DataW Unit) → List Value
 | [] => []
 | .lit (.int k z) :: r => Value.int k z :: lits r
 | .agg l :: r => (l.map fun x => match x with | .lit (.int k z) => Value.int k z | _ => undef) ++ lits r
 | _ :: r => lits r
def valsU : DataW Unit → Array Value
 | .agg l => (lits l).toArray
 | _ => #[]
def text : DataW Unit → ByteArray
 | .iface _ (.ptr (.agg [.lit (.string s)])) => ⟨s.toArray⟩
 | _ => ⟨#[]⟩
noncomputable def low (os : Os) : Nat := (World.holding Tryz.prog os ⟨#[], #[], []⟩).heap.size
def put (h : Array Obj) (g : Nat) (cs : Array Value) : Array Obj := h.modify g fun
 | .cells _ t frozen => .cells cs t frozen
 | o => o
noncomputable def laidWorld (os : Os) : World :=
 let w0 := World.holding Tryz.prog os ⟨#[.cells #[.string (text Rows.laid_strconv_ErrRange)] 288, .cells #[.string (text Rows.laid_strconv_ErrSyntax)] 288], #[], []⟩
 let h1 := put w0.heap 6 (valsU Rows.laid_internal_strconv_uint64pow10)
 let h2 := put h1 7 (valsU Rows.laid_math_bits_deBruijn32tab)
 let h3 := put h2 8 (valsU Rows.laid_math_bits_deBruijn64tab)
 let h4 := put h3 3 #[.iface 286 (.pointer (some ⟨low os, 0, none⟩))]
 let h5 := put h4 2 #[.iface 286 (.pointer (some ⟨low os + 1, 0, none⟩))]
 let h6 := put h5 4 (valsU Rows.laid_unicode_utf8_first)
 let h7 := put h6 5 (valsU Rows.laid_unicode_utf8_acceptRanges)
 let h8 := put h7 0 #[.iface 199 (.agg #[.pointer (some ⟨9, 24, none⟩)])]
 { w0 with heap := h8 }
end Go.Proofs.YtlghobefhmpfkaaGreatDoor
