/- NumBack: what was written is read again, for every input; the form of up to 1048576 values. Part 3 of 4. -/
import Derived.Shelf.Small.Utf8
import Derived.Shelf.Small.Strs
import Derived.Shelf.Strconv.Itoa0
import Derived.Shelf.Strconv.Itoa1
import Derived.Shelf.LaysM
import Derived.Shelf.Strconv.Itoa2
import Derived.Shelf.Strconv.Itoa3
import Derived.Shelf.Strings.Search1
import Derived.Shelf.Strings.Search2
import Derived.Shelf.Strings.Search3
import Derived.Shelf.Strings.Count
import Derived.Shelf.Strings.Shaped
import Derived.Shelf.Strings.Runes
import Derived.Shelf.Strings.IndexAny
import Derived.Shelf.Strings.AsciiSet
import Derived.Shelf.Strings.IndexAnyAll
import Derived.Shelf.Bits.Mul64
import Derived.Shelf.Unicode.DecodeSlow
import Derived.Test.YtpbkdcfjlbdgfaaDoorProg
import Derived.Lib.ItoaLen
import Derived.Shelf.Strings.Builder1
import Derived.Shelf.Strings.Builder2
import Derived.Shelf.Strings.OnBuilder
import Derived.Shelf.Strings.Trim
import Derived.Shelf.Small.Wraps
import Derived.Shelf.Utf8.RuneCount
import Derived.Shelf.Strings.Builder2Cap
import Derived.Shelf.Strconv.Atoi
import Derived.Shelf.Strconv.AtoiErrFast
import Derived.Shelf.Strconv.ParseIntEmpty
import Derived.Shelf.Strconv.AtoiFail
import Derived.Shelf.Strconv.Clone
import Derived.Shelf.Strconv.SyntaxError
import Derived.Shelf.LaysC
import Derived.Shelf.Strconv.ToError
import Derived.Shelf.Strconv.Lower
import Derived.Shelf.Strconv.ParseUint10
import Derived.Shelf.Strconv.ParseUint10Empty
import Derived.Shelf.Strconv.ParseUint10Any
import Derived.Shelf.Strconv.ParseInt10
import Derived.Shelf.Strconv.AtoiLong
import Derived.Shelf.Strconv.AtoiInnerAll
import Derived.Shelf.Strconv.RangeError
import Derived.Shelf.Strconv.ToErrorRange
import Derived.Shelf.Strconv.AtoiAll
import Derived.Shelf.Strconv.ErrVarAll
import Derived.Shelf.Strings.Prefix
import Derived.Shelf.Strings.Split
import Derived.Shelf.Unicode.Decode
import Derived.Shelf.Strings.RuneCount
import Derived.Shelf.Strings.Explode
import Derived.Shelf.Unicode.DecodeAny
import Derived.Lib.AtoiErrMem
import Derived.Laws.RangeAny
import Derived.Lib.Strings
import Derived.Lib.Slices
import Derived.Lib.Walk
import Derived.Lib.Bytealg
import Derived.Lib.Builder
import Derived.Lib.UnsafeStr
import Derived.WalkKit
import Derived.Laws.Externs
import Derived.Test.YtpbkdcfjlbdgfaaDoorNumBackM1
import Derived.Test.YtpbkdcfjlbdgfaaDoorNumBackM2
/-
  DERIVED: THE SHELF's CONTRACTS AT THIS DUMP, IN PLAIN WORDS (tools/lay-plain.mjs out of 'TrydShelfPart.lean', which tools/lay-shelf.mjs wrote): THE SAME DECLARATIONS UNDER THE SAME NAMES: 'import', 'namespace', 'open', 'def', 'theorem' AND NOTHING ELSE: no command of the shelf's: FOR A HAND-IN. Each laying: the table of numbers ('.._ren') and one theorem, a field a fact of the dump's own or the kernel's comparison; each contract: ONE APPLICATION.
-/
namespace Go.Proofs
open Go.Shelf
def Tryd.laysM171_ren : Go.Shelf.Ren := ⟨fun | 171 => 79 | 243 => 126 | 246 => 158 | 283 => 180 | 284 => 181 | 285 => 182 | 286 => 183 | 129 => 194 | 317 => 193 | 318 => 195 | 319 => 196 | 320 => 197 | 337 => 201 | 338 => 202 | n => n, fun | 3 => 3 | 9 => 9 | 2 => 2 | 4 => 4 | 171 => 209 | 0 => 0 | 53 => 64 | 37 => 68 | 5 => 5 | 173 => 212 | 212 => 230 | 51 => 215 | 20 => 20 | 213 => 231 | 46 => 114 | 232 => 236 | 233 => 237 | n => n, fun | 17 => 6 | 18 => 7 | 19 => 8 | n => n⟩
theorem Tryd.laysM171 : Go.Proofs.LaysM.n171 Tryd.prog Tryd.laysM171_ren := {
  mixed := by kernel_rfl
  f129 := Tryd.func194.trans (congrArg some (by kernel_rfl))
  f171 := Tryd.func79.trans (congrArg some (by kernel_rfl))
  f243 := Tryd.func126.trans (congrArg some (by kernel_rfl))
  f246 := Tryd.func158.trans (congrArg some (by kernel_rfl))
  f283 := Tryd.func180.trans (congrArg some (by kernel_rfl))
  f284 := Tryd.func181.trans (congrArg some (by kernel_rfl))
  f285 := Tryd.func182.trans (congrArg some (by kernel_rfl))
  f286 := Tryd.func183.trans (congrArg some (by kernel_rfl))
  f317 := Tryd.func193.trans (congrArg some (by kernel_rfl))
  f318 := Tryd.func195.trans (congrArg some (by kernel_rfl))
  f319 := Tryd.func196.trans (congrArg some (by kernel_rfl))
  f320 := Tryd.func197.trans (congrArg some (by kernel_rfl))
  f337 := Tryd.func201.trans (congrArg some (by kernel_rfl))
  f338 := Tryd.func202.trans (congrArg some (by kernel_rfl))
  t0 := Tryd.underlying0
  a0 := Tryd.isAgg0
  z0 := Tryd.sizeOf0
  v0 := Tryd.zeroValue0
  t2 := Tryd.underlying2
  a2 := Tryd.isAgg2
  z2 := Tryd.sizeOf2
  v2 := Tryd.zeroValue2
  t3 := Tryd.underlying3
  a3 := Tryd.isAgg3
  z3 := Tryd.sizeOf3
  v3 := Tryd.zeroValue3
  t4 := Tryd.underlying4
  a4 := Tryd.isAgg4
  z4 := Tryd.sizeOf4
  v4 := Tryd.zeroValue4
  t5 := Tryd.underlying5
  a5 := Tryd.isAgg5
  z5 := Tryd.sizeOf5
  v5 := Tryd.zeroValue5
  t9 := Tryd.underlying9
  a9 := Tryd.isAgg9
  z9 := Tryd.sizeOf9
  v9 := Tryd.zeroValue9
  t20 := Tryd.underlying20
  a20 := Tryd.isAgg20
  z20 := Tryd.sizeOf20
  v20 := Tryd.zeroValue20
  t37 := Tryd.underlying68
  a37 := Tryd.isAgg68
  z37 := Tryd.sizeOf68
  v37 := Tryd.zeroValue68
  t46 := Tryd.underlying114
  a46 := Tryd.isAgg114
  z46 := Tryd.sizeOf114
  v46 := Tryd.zeroValue114
  t51 := Tryd.underlying215
  a51 := Tryd.isAgg215
  z51 := Tryd.sizeOf215
  v51 := Tryd.zeroValue215
  t53 := Tryd.underlying64
  a53 := Tryd.isAgg64
  z53 := Tryd.sizeOf64
  v53 := Tryd.zeroValue64
  t171 := Tryd.underlying209
  a171 := Tryd.isAgg209
  z171 := Tryd.sizeOf209
  v171 := Tryd.zeroValue209
  t173 := Tryd.underlying212
  a173 := Tryd.isAgg212
  z173 := Tryd.sizeOf212
  v173 := Tryd.zeroValue212
  t212 := Tryd.underlying230
  a212 := Tryd.isAgg230
  z212 := Tryd.sizeOf230
  v212 := Tryd.zeroValue230
  t213 := Tryd.underlying231
  a213 := Tryd.isAgg231
  z213 := Tryd.sizeOf231
  t232 := Tryd.underlying236
  a232 := Tryd.isAgg236
  z232 := Tryd.sizeOf236
  v232 := Tryd.zeroValue236
  t233 := Tryd.underlying237
  a233 := Tryd.isAgg237
  z233 := Tryd.sizeOf237
  v233 := Tryd.zeroValue237
  g17 := by kernel_rfl
  g18 := by kernel_rfl
  g19 := by kernel_rfl
  i0 := by kernel_rfl
  i2 := by kernel_rfl
  i3 := by kernel_rfl
  i4 := by kernel_rfl
  i5 := by kernel_rfl
  i9 := by kernel_rfl
  i20 := by kernel_rfl
  i37 := by kernel_rfl
  i46 := by kernel_rfl
  i51 := by kernel_rfl
  i53 := by kernel_rfl
  i171 := by kernel_rfl
  i173 := by kernel_rfl
  i212 := by kernel_rfl
  i232 := by kernel_rfl
  i233 := by kernel_rfl
  m17 := by kernel_rfl
  m18 := by kernel_rfl
  m19 := by kernel_rfl }
open Go.RowKit Go.Sort Go.Lib in
/-- strconv.Itoa: "Itoa is equivalent to FormatInt(int64(i), 10).": i's DECIMAL NUMERAL ('Lib.itoa': a '-' where i is negative, then the digits), FOR EVERY int. The world behind the call: the world before it, new blocks behind the heap (the library's 'var a [24]byte'), draws. (LAID: no walk: one application.) -/
theorem Tryd.strconv_Itoa (n : Int) (h0 : -9223372036854775808 ≤ n) (h1 : n ≤ 9223372036854775807) (w : World) (htab : Lib.TabIs Tryd.prog w "internal/strconv.uint64pow10" .u64 Lib.pow10Tab) :
    Calls Tryd.prog 79 #[.int .i64 n] w fun e w' => e = .returned (.string ⟨(Lib.itoa n).toArray⟩) ∧ ∃ k os, w' = grow (w.drewN k) os := Any.strconv_Itoa Tryd.laysM171 n h0 h1 w htab
end Go.Proofs
set_option linter.unusedVariables false
set_option linter.unusedSimpArgs false
namespace Go.Proofs.YtpbkdcfjlbdgfaaDoor
open Go Go.Ev
set_option maxRecDepth 100000
variable {G : World → Prop}
/-- The variables that strconv.Itoa reads. -/
def Pow10 (w : World) : Prop := Lib.TabIs Tryd.prog w "internal/strconv.uint64pow10" .u64 Lib.pow10Tab
def CItoa : Contract := pureC fun args => match args with
  | [.d (.v (.int .i64 n))] => some (-9223372036854775808 ≤ n ∧ n ≤ 9223372036854775807, .d (.v (str (Lib.itoa n))))
  | _ => none
theorem sItoa (hG : ∀ w, G w → Pow10 w) : Sound G Tryd.prog 79 CItoa := by
  refine sound_lib ⟨Tryd.f79, by kernel_rfl, by kernel_rfl, by kernel_rfl⟩ fun args p x h hp => ?_
  split at h <;> simp only [Option.some.injEq, Prod.mk.injEq, reduceCtorEq] at h
  obtain ⟨rfl, rfl⟩ := h
  refine ⟨_, fun m n c => ⟨rfl, rfl⟩, fun w hw m c vs hc hv => ?_⟩
  match vs, hv with
  | [a], hv =>
    simp only [CnL, and_true] at hv
    rw [of_v hv]
    refine (Tryd.strconv_Itoa _ hp.1 hp.2 w (hG w hw)).mono ?_
    rintro e w' ⟨rfl, k, os, rfl⟩
    refine ⟨rfl, ⟨rfl, rfl, rfl, ?_, fun b hb => ?_⟩⟩
    · simp [«Sort».grow, World.drewN]
    · simp [«Sort».grow, World.drewN, Array.getElem?_append_left hb]
  | [], hv => simp [CnL] at hv
  | _ :: _ :: _, hv => simp [CnL] at hv
theorem itoa_len {n : Int} (h : -9223372036854775808 ≤ n ∧ n ≤ 9223372036854775807) : (Lib.itoa n).length ≤ 21 := Lib.itoa_length_le n h.1 h.2
theorem s32 (hG : ∀ w, G w → Pow10 w) : Sound G Tryd.prog 32 CItoa := by
  refine sd32 (T := tabT [(79, CItoa)]) (tab_cons (sItoa hG) tab_nil) (pureC_lawful _) (pure_hX fun args p x K h hp hk => ?_)
  split at h <;> simp only [Option.some.injEq, Prod.mk.injEq, reduceCtorEq] at h
  obtain ⟨rfl, rfl⟩ := h
  refine ⟨Nat.le_of_ble_eq_true rfl, ?_⟩
  simp -dsimp -implicitDefEqProofs only [S32, R32, CItoa, ↓Ev.xStp_eq, ↓Ev.P, Ev.Q, eq_self, forall_eq_or_imp, implies_true, forall_const, forall_eq, ↓reduceIte, reduceIte, Nat.reduceEqDiff, Nat.reduceAdd, reduceCtorEq, Nat.reduceSub, Int.reduceToNat, Int.reduceLE, Int.reduceLT, Int.reduceNeg, Nat.reduceBEq, Nat.reduceMul, Nat.reduceLeDiff, Nat.reduceMod, UInt8.reduceOfNat, Nat.reduceLT, Int.reduceEq, Int.reduceAdd, Int.reduceSub, Int.reduceMul]
  exact ⟨hp, hk⟩
def C80 : Contract := pureC fun args => match args with
  | [.d (.v (.int .u64 u))] => some (0 ≤ u ∧ u < 18446744073709551616, .d (.v (str (Lib.decDigits u.toNat))))
  | _ => none
theorem dig1 (u : Nat) : IntKind.u8.wrap (IntKind.u64.wrap (48 + ((u : Int)).tmod 10)) = ((48 + u % 10 : Nat) : Int) := by
  have : ((u : Int)).tmod 10 = ((u % 10 : Nat) : Int) := by rw [Int.tmod_eq_emod_of_nonneg (by omega)]; omega
  rw [this]
  simp only [IntKind.wrap, IntKind.bits, IntKind.signed]
  simp
  omega
theorem dig2 (u : Nat) (h : u < 18446744073709551616) : IntKind.u64.wrap (((u : Int)).tdiv 10) = ((u / 10 : Nat) : Int) := by
  have : ((u : Int)).tdiv 10 = ((u / 10 : Nat) : Int) := by rw [Int.tdiv_eq_ediv_of_nonneg (by omega)]; omega
  rw [this]
  simp only [IntKind.wrap, IntKind.bits, IntKind.signed]
  simp
  omega
theorem dec_big {u : Nat} (h : ¬ u < 10) : Lib.decDigits u = Lib.decDigits (u / 10) ++ [UInt8.ofNat (48 + u % 10)] := by rw [Lib.decDigits, dif_neg h]
theorem dec_small {u : Nat} (h : u < 10) : Lib.decDigits u = [UInt8.ofNat (48 + u % 10)] := by rw [Lib.decDigits, dif_pos h, Nat.mod_eq_of_lt h]
theorem s80 : Sound G Tryd.prog 80 C80 := by
  refine sd80 (T := tabT []) tab_nil (pureC_lawful _) (pure_hX fun args p x K h hp hk => ?_)
  split at h <;> simp only [Option.some.injEq, Prod.mk.injEq, reduceCtorEq] at h
  obtain ⟨rfl, rfl⟩ := h
  refine ⟨Nat.le_of_ble_eq_true rfl, ?_⟩
  rename_i u
  obtain ⟨u, rfl⟩ := Int.eq_ofNat_of_zero_le hp.1
  have hu : u < 18446744073709551616 := by omega
  simp only [Int.toNat_natCast] at hk
  simp -dsimp -implicitDefEqProofs only [S80, R80, dig1, dig2 u hu, ↓Ev.xStp_eq, ↓Ev.P, Ev.Q, eq_self, forall_eq_or_imp, implies_true, forall_const, forall_eq, ↓reduceIte, reduceIte, Nat.reduceEqDiff, Nat.reduceAdd, reduceCtorEq, Nat.reduceSub, Int.reduceToNat, Int.reduceLE, Int.reduceLT, Int.reduceNeg, Nat.reduceBEq, Nat.reduceMul, Nat.reduceLeDiff, Nat.reduceMod, UInt8.reduceOfNat, Nat.reduceLT, Int.reduceEq, Int.reduceAdd, Int.reduceSub, Int.reduceMul]
  have hlen : ∀ u : Nat, u < 18446744073709551616 → (Lib.decDigits u).length ≤ 21 := fun u h => by
    rw [Lib.decDigits_length]; have := Lib.nDigits_le20 u h; omega
  refine xLoop_intro (fun n st => ∃ (k : Nat) (s : List UInt8), n = k ∧ k < 18446744073709551616 ∧ (Lib.decDigits u = if k = 0 then s else Lib.decDigits k ++ s) ∧
      st = ⟨[(0, .d (.v (.int .u64 k))), (3, .d (.v (.string ⟨s.toArray⟩)))], 0, []⟩) (u / 10) [] ?_ ?_ ?_
  · simp -dsimp -implicitDefEqProofs only [↓Ev.xStp_eq, ↓Ev.P, Ev.Q, eq_self, forall_eq_or_imp, implies_true, forall_const, forall_eq, ↓reduceIte, reduceIte, Nat.reduceEqDiff, Nat.reduceAdd, reduceCtorEq, Nat.reduceSub, Int.reduceToNat, Int.reduceLE, Int.reduceLT, Int.reduceNeg, Nat.reduceBEq, Nat.reduceMul, Nat.reduceLeDiff, Nat.reduceMod, UInt8.reduceOfNat, Nat.reduceLT, Int.reduceEq, Int.reduceAdd, Int.reduceSub, Int.reduceMul]
  · simp -dsimp -implicitDefEqProofs only [↓Ev.xStp_eq, ↓Ev.P, Ev.Q, eq_self, forall_eq_or_imp, implies_true, forall_const, forall_eq, ↓reduceIte, reduceIte, Nat.reduceEqDiff, Nat.reduceAdd, reduceCtorEq, Nat.reduceSub, Int.reduceToNat, Int.reduceLE, Int.reduceLT, Int.reduceNeg, Nat.reduceBEq, Nat.reduceMul, Nat.reduceLeDiff, Nat.reduceMod, UInt8.reduceOfNat, Nat.reduceLT, Int.reduceEq, Int.reduceAdd, Int.reduceSub, Int.reduceMul]
    refine ⟨u / 10, _, rfl, by omega, ?_, rfl⟩
    by_cases h : u < 10
    · rw [if_pos (by omega), dec_small h]
    · rw [if_neg (by omega), dec_big h]
  · rintro n st ⟨k, s, hn, hk2, hd, rfl⟩
    simp -dsimp -implicitDefEqProofs only [dig1, dig2 k hk2, ↓Ev.xStp_eq, ↓Ev.P, Ev.Q, eq_self, forall_eq_or_imp, implies_true, forall_const, forall_eq, ↓reduceIte, reduceIte, Nat.reduceEqDiff, Nat.reduceAdd, reduceCtorEq, Nat.reduceSub, Int.reduceToNat, Int.reduceLE, Int.reduceLT, Int.reduceNeg, Nat.reduceBEq, Nat.reduceMul, Nat.reduceLeDiff, Nat.reduceMod, UInt8.reduceOfNat, Nat.reduceLT, Int.reduceEq, Int.reduceAdd, Int.reduceSub, Int.reduceMul]
    repeat' (first | with_reducible assumption | refine And.intro ?_ ?_ | intro _)
    · rename_i h
      have hl := congrArg List.length hd
      rw [if_neg (by omega), List.length_append] at hl
      have := hlen u hu
      omega
    · rename_i h
      refine xAgain_intro (k / 10) [] (by omega) (by simp -dsimp -implicitDefEqProofs only [↓Ev.xStp_eq, ↓Ev.P, Ev.Q, eq_self, forall_eq_or_imp, implies_true, forall_const, forall_eq, ↓reduceIte, reduceIte, Nat.reduceEqDiff, Nat.reduceAdd, reduceCtorEq, Nat.reduceSub, Int.reduceToNat, Int.reduceLE, Int.reduceLT, Int.reduceNeg, Nat.reduceBEq, Nat.reduceMul, Nat.reduceLeDiff, Nat.reduceMod, UInt8.reduceOfNat, Nat.reduceLT, Int.reduceEq, Int.reduceAdd, Int.reduceSub, Int.reduceMul]) ⟨k / 10, UInt8.ofNat (48 + k % 10) :: s, rfl, by omega, ?_, ?_⟩
      rotate_left
      · simp -dsimp -implicitDefEqProofs only [↓Ev.xStp_eq, ↓Ev.P, Ev.Q, eq_self, forall_eq_or_imp, implies_true, forall_const, forall_eq, ↓reduceIte, reduceIte, Nat.reduceEqDiff, Nat.reduceAdd, reduceCtorEq, Nat.reduceSub, Int.reduceToNat, Int.reduceLE, Int.reduceLT, Int.reduceNeg, Nat.reduceBEq, Nat.reduceMul, Nat.reduceLeDiff, Nat.reduceMod, UInt8.reduceOfNat, Nat.reduceLT, Int.reduceEq, Int.reduceAdd, Int.reduceSub, Int.reduceMul]
      rw [hd, if_neg (by omega)]
      by_cases h : k < 10
      · rw [if_pos (by omega), dec_small h]; rfl
      · rw [if_neg (by omega), dec_big h]; simp
    · rename_i h
      rw [if_pos (by omega)] at hd
      rw [hd] at hk; exact hk
theorem s33 : Sound G Tryd.prog 33 CItoa := by
  refine sd33 (T := tabT [(80, C80)]) (tab_cons s80 tab_nil) (pureC_lawful _) (pure_hX fun args p x K h hp hk => ?_)
  split at h <;> simp only [Option.some.injEq, Prod.mk.injEq, reduceCtorEq] at h
  obtain ⟨rfl, rfl⟩ := h
  refine ⟨Nat.le_of_ble_eq_true rfl, ?_⟩
  rename_i n
  have hlen : ∀ u : Nat, u < 18446744073709551616 → (Lib.decDigits u).length ≤ 21 := fun u h => by
    rw [Lib.decDigits_length]; have := Lib.nDigits_le20 u h; omega
  by_cases h0 : n < 0
  · have e1 : IntKind.u64.wrap (0 - IntKind.u64.wrap n) = ((n.natAbs : Nat) : Int) := by
      simp only [IntKind.wrap, IntKind.bits, IntKind.signed]
      simp
      omega
    rw [show Lib.itoa n = 45 :: Lib.decDigits n.natAbs by rw [Lib.itoa, if_pos h0]] at hk
    have := hlen n.natAbs (by omega)
    simp -dsimp -implicitDefEqProofs only [S33, R33, C80, e1, h0, ↓Ev.xStp_eq, ↓Ev.P, Ev.Q, eq_self, forall_eq_or_imp, implies_true, forall_const, forall_eq, ↓reduceIte, reduceIte, Nat.reduceEqDiff, Nat.reduceAdd, reduceCtorEq, Nat.reduceSub, Int.reduceToNat, Int.reduceLE, Int.reduceLT, Int.reduceNeg, Nat.reduceBEq, Nat.reduceMul, Nat.reduceLeDiff, Nat.reduceMod, UInt8.reduceOfNat, Nat.reduceLT, Int.reduceEq, Int.reduceAdd, Int.reduceSub, Int.reduceMul]
    repeat' (first | with_reducible assumption | refine And.intro ?_ ?_ | intro _)
    all_goals first | omega | exact hk
  · have e1 : IntKind.u64.wrap n = ((n.toNat : Nat) : Int) := by
      simp only [IntKind.wrap, IntKind.bits, IntKind.signed]
      simp
      omega
    rw [show Lib.itoa n = Lib.decDigits n.toNat by rw [Lib.itoa, if_neg h0]] at hk
    simp -dsimp -implicitDefEqProofs only [S33, R33, C80, e1, h0, ↓Ev.xStp_eq, ↓Ev.P, Ev.Q, eq_self, forall_eq_or_imp, implies_true, forall_const, forall_eq, ↓reduceIte, reduceIte, Nat.reduceEqDiff, Nat.reduceAdd, reduceCtorEq, Nat.reduceSub, Int.reduceToNat, Int.reduceLE, Int.reduceLT, Int.reduceNeg, Nat.reduceBEq, Nat.reduceMul, Nat.reduceLeDiff, Nat.reduceMod, UInt8.reduceOfNat, Nat.reduceLT, Int.reduceEq, Int.reduceAdd, Int.reduceSub, Int.reduceMul]
    repeat' (first | with_reducible assumption | refine And.intro ?_ ?_ | intro _)
    all_goals first | omega | exact hk
end Go.Proofs.YtpbkdcfjlbdgfaaDoor
/- The compiled code of functions, by program (gen.py): each theorem says that the loaded program compiles to it. -/
set_option linter.unusedVariables false
namespace Go.Proofs.YtpbkdcfjlbdgfaaDoor
open Go Go.Ev
set_option maxRecDepth 100000

/-! 9: redline/redlinelaw01.NumNumbers -/
def A9 : Ann := ⟨fun _ _ => 0, fun _ => none, fun r => if r = 1 then some (false, [0, 1]) else if r = 2 then some (false, [0, 1, 5, 6]) else if r = 3 then some (false, [0, 5, 6, 7, 8]) else none, fun _ => []⟩
def S9 : SCode :=
  (.seq (.ops [⟨none, (some 4), .mv 4 (.k (Value.bool false)), false⟩])
  (.seq (.seq (.keep [0, 1]) (.ops [⟨none, (some 10), .mv 10 (.s 1), false⟩,
    ⟨none, (some 11), .call (some 11) 30 false [(.s 10)], false⟩,
    ⟨none, (some 9), .mv 9 (.s 11), false⟩,
    ⟨none, (some 12), .ex 12 (.s 9) 0, false⟩,
    ⟨none, (some 13), .ex 13 (.s 9) 1, false⟩,
    ⟨none, (some 5), .mv 5 (.s 12), false⟩,
    ⟨none, (some 6), .mv 6 (.s 13), false⟩]))
  (.seq (.seq (.keep [0, 1, 5, 6]) (.ops [⟨none, (some 15), .mv 15 (.s 1), false⟩,
    ⟨none, (some 16), .call (some 16) 31 false [(.s 15)], false⟩,
    ⟨none, (some 14), .mv 14 (.s 16), false⟩,
    ⟨none, (some 17), .ex 17 (.s 14) 0, false⟩,
    ⟨none, (some 18), .ex 18 (.s 14) 1, false⟩,
    ⟨none, (some 7), .mv 7 (.s 17), false⟩,
    ⟨none, (some 8), .mv 8 (.s 18), false⟩]))
  (.seq (.seq (.keep [0, 5, 6, 7, 8]) (.ops [⟨none, (some 19), .mv 19 (.s 0), false⟩,
    ⟨none, (some 20), .call (some 20) 32 false [(.s 19)], false⟩,
    ⟨none, (some 21), .mv 21 (.s 0), false⟩,
    ⟨none, (some 22), .call (some 22) 33 false [(.s 21)], false⟩,
    ⟨none, (some 23), .bin 23 .eql (.s 20) (.s 22), false⟩,
    ⟨none, (some 24), .mv 24 (.s 23), false⟩,
    ⟨(some (24, true)), (some 25), .mv 25 (.s 5), false⟩,
    ⟨(some (24, true)), (some 26), .mv 26 (.s 7), false⟩,
    ⟨(some (24, true)), (some 27), .bin 27 .eql (.s 25) (.s 26), false⟩,
    ⟨none, (some 28), .pk 28 (.s 24) (.s 27) (.k (Value.bool false)), true⟩,
    ⟨none, (some 29), .mv 29 (.s 28), false⟩,
    ⟨(some (29, true)), (some 30), .mv 30 (.s 6), false⟩,
    ⟨(some (29, true)), (some 31), .mv 31 (.s 8), false⟩,
    ⟨(some (29, true)), (some 32), .bin 32 .eql (.s 30) (.s 31), false⟩,
    ⟨none, (some 33), .pk 33 (.s 29) (.s 32) (.k (Value.bool false)), false⟩,
    ⟨none, (some 4), .mv 4 (.s 33), false⟩]))
  .ret))))
theorem cc9 : (Tryd.f9.body).bind (cc Tryd.prog Tryd.f9.ntmps A9) = some S9 := by kernel_rfl
def R9 : List RR := [.sl 4]
theorem cr9 : Tryd.f9.results.toList.map (crr Tryd.prog) = R9.map some := by kernel_rfl
theorem nm9 : (Tryd.f9.name == "runtime.NumGoroutine") = false := by kernel_rfl
theorem fn9 : Tryd.prog.funcs[9]? = some Tryd.f9 := by kernel_rfl
theorem bd9 : ∃ b, Tryd.f9.body = some b ∧ cc Tryd.prog Tryd.f9.ntmps A9 b = some S9 := Option.bind_eq_some_iff.1 cc9
theorem sd9 {G : World → Prop} {T : FuncId → Contract} {C : Contract} (hT : ∀ f, Sound G Tryd.prog f (T f)) (hl : C.lawful) (hC : ∀ args st K, C.wp args st K → args.length ≤ 34 ∧ ∃ os op, xv T st.n S9 (st0 args st) (retK R9 st.n os K) (panK st.n op K)) : Sound G Tryd.prog 9 C := by
  obtain ⟨b, hb, hc⟩ := bd9
  rw [xv_eq] at hC
  exact sound_of_ev mo fn9 hb nm9 hc cr9 hT hl hC

/-! 30: redline/num.Parse -/
def A30 : Ann := ⟨fun r i => if r = 1 ∧ i = 4 then 1 else 0, fun _ => none, fun r => if r = 1 then some (false, [0]) else if r = 6 then some (false, [0, 5, 21]) else if r = 8 then some (false, [0]) else if r = 9 then some (false, [6, 7]) else if r = 11 then some (false, [6]) else none, fun r => if r = 4 then [0, 21] else []⟩
def S30_0 : SCode :=
  (.ops [⟨none, (some 2), .mv 2 (.k (Value.int .i64 0)), false⟩,
    ⟨none, (some 3), .mv 3 (.k (Value.int .i64 0)), false⟩])
def S30_1 : SCode :=
  (.seq (.seq (.keep [0]) (.ops [⟨none, (some 8), .mv 8 (.s 0), false⟩,
    ⟨none, (some 9), .bin 9 .eql (.s 8) (.k (Value.string ⟨#[]⟩)), false⟩,
    ⟨none, (some 10), .mv 10 (.s 9), false⟩,
    ⟨(some (10, false)), (some 11), .mv 11 (.s 0), false⟩,
    ⟨(some (10, false)), (some 12), .lens 12 (.s 11), false⟩,
    ⟨(some (10, false)), (some 13), .bin 13 .gtr (.s 12) (.k (Value.int .i64 1)), false⟩,
    ⟨(some (10, false)), (some 14), .mv 14 (.s 13), false⟩,
    ⟨(some (14, true)), (some 15), .mv 15 (.s 0), false⟩,
    ⟨(some (14, true)), (some 16), .ixs 16 (.s 15) (.k (Value.int .i64 0)), false⟩,
    ⟨(some (14, true)), (some 17), .bin 17 .eql (.s 16) (.k (Value.int .u8 48)), true⟩,
    ⟨(some (10, false)), (some 18), .pk 18 (.s 14) (.s 17) (.k (Value.bool false)), false⟩,
    ⟨none, (some 19), .pk 19 (.s 10) (.k (Value.bool true)) (.s 18), false⟩]))
  (.cond (.s 19) (.seq (.ops [⟨none, (some 2), .mv 2 (.k (Value.int .i64 0)), false⟩,
    ⟨none, (some 3), .mv 3 (.k (Value.int .i64 3)), false⟩])
  .ret) .skip))
def S30_2 : SCode :=
  (.seq (.ops [⟨none, (some 20), .mv 20 (.s 0), false⟩,
    ⟨none, (some 21), .rg 21 (.s 20), false⟩])
  (.block 0 (.loop [0, 21] (.seq (.ops [⟨none, (some 22), .nx 22 (.s 21), false⟩,
    ⟨none, (some 23), .ex 23 (.s 22) 0, false⟩])
  (.seq (.cond (.s 23) .skip (.exit 0))
  (.block 1 (.seq (.ops [⟨none, (some 24), .ex 24 (.s 22) 2, false⟩,
    ⟨none, (some 5), .mv 5 (.s 24), false⟩])
  (.seq (.seq (.keep [0, 5, 21]) (.ops [⟨none, (some 25), .mv 25 (.s 5), false⟩,
    ⟨none, (some 26), .bin 26 .lss (.s 25) (.k (Value.int .i32 48)), false⟩,
    ⟨none, (some 27), .mv 27 (.s 26), false⟩,
    ⟨(some (27, false)), (some 28), .mv 28 (.s 5), false⟩,
    ⟨(some (27, false)), (some 29), .bin 29 .gtr (.s 28) (.k (Value.int .i32 57)), false⟩,
    ⟨none, (some 30), .pk 30 (.s 27) (.k (Value.bool true)) (.s 29), false⟩]))
  (.cond (.s 30) (.seq (.ops [⟨none, (some 2), .mv 2 (.k (Value.int .i64 0)), false⟩,
    ⟨none, (some 3), .mv 3 (.k (Value.int .i64 3)), false⟩])
  .ret) .skip)))))))))
def S30_3 : SCode :=
  (.seq (.keep [0]) (.ops [⟨none, (some 32), .mv 32 (.s 0), false⟩,
    ⟨none, (some 33), .call (some 33) 78 false [(.s 32)], false⟩,
    ⟨none, (some 31), .mv 31 (.s 33), false⟩,
    ⟨none, (some 34), .ex 34 (.s 31) 0, false⟩,
    ⟨none, (some 35), .ex 35 (.s 31) 1, false⟩,
    ⟨none, (some 6), .mv 6 (.s 34), false⟩,
    ⟨none, (some 7), .mv 7 (.s 35), false⟩]))
def S30_4 : SCode :=
  (.seq (.seq (.keep [6, 7]) (.ops [⟨none, (some 36), .mv 36 (.s 7), false⟩,
    ⟨none, (some 37), .isnil 37 true true (.s 36), false⟩,
    ⟨none, (some 38), .mv 38 (.s 37), false⟩,
    ⟨(some (38, false)), (some 39), .mv 39 (.s 6), false⟩,
    ⟨(some (38, false)), (some 40), .bin 40 .gtr (.s 39) (.k (Value.int .i64 2147483647)), false⟩,
    ⟨none, (some 41), .pk 41 (.s 38) (.k (Value.bool true)) (.s 40), false⟩]))
  (.cond (.s 41) (.seq (.ops [⟨none, (some 2), .mv 2 (.k (Value.int .i64 0)), false⟩,
    ⟨none, (some 3), .mv 3 (.k (Value.int .i64 2)), false⟩])
  .ret) .skip))
def S30_5 : SCode :=
  (.seq (.keep [6]) (.ops [⟨none, (some 42), .mv 42 (.s 6), false⟩,
    ⟨none, (some 2), .mv 2 (.s 42), false⟩,
    ⟨none, (some 3), .mv 3 (.k (Value.int .i64 0)), false⟩]))
def S30r6 : SCode := .ret
def S30r5 : SCode := .seq S30_5 S30r6
def S30r4 : SCode := .seq S30_4 S30r5
def S30r3 : SCode := .seq S30_3 S30r4
def S30r2 : SCode := .seq S30_2 S30r3
def S30r1 : SCode := .seq S30_1 S30r2
def S30 : SCode := .seq S30_0 S30r1
theorem cc30 : (Tryd.f30.body).bind (cc Tryd.prog Tryd.f30.ntmps A30) = some S30 := by kernel_rfl
def R30 : List RR := [.sl 2, .sl 3]
theorem cr30 : Tryd.f30.results.toList.map (crr Tryd.prog) = R30.map some := by kernel_rfl
theorem nm30 : (Tryd.f30.name == "runtime.NumGoroutine") = false := by kernel_rfl
theorem fn30 : Tryd.prog.funcs[30]? = some Tryd.f30 := by kernel_rfl
theorem bd30 : ∃ b, Tryd.f30.body = some b ∧ cc Tryd.prog Tryd.f30.ntmps A30 b = some S30 := Option.bind_eq_some_iff.1 cc30
theorem sd30 {G : World → Prop} {T : FuncId → Contract} {C : Contract} (hT : ∀ f, Sound G Tryd.prog f (T f)) (hl : C.lawful) (hC : ∀ args st K, C.wp args st K → args.length ≤ 43 ∧ ∃ os op, xv T st.n S30 (st0 args st) (retK R30 st.n os K) (panK st.n op K)) : Sound G Tryd.prog 30 C := by
  obtain ⟨b, hb, hc⟩ := bd30
  rw [xv_eq] at hC
  exact sound_of_ev mo fn30 hb nm30 hc cr30 hT hl hC

/-! 31: redline/redlineref01.Parse -/
def A31 : Ann := ⟨fun r i => if r = 1 ∧ i = 5 then 1 else 0, fun _ => none, fun r => if r = 1 then some (false, [0]) else if r = 5 then some (false, [0, 4, 5]) else if r = 6 then some (false, [0, 4, 5]) else if r = 7 then some (false, [0, 4, 5]) else if r = 9 then some (false, [0, 4, 5]) else if r = 12 then some (false, [4]) else none, fun r => if r = 5 then [0, 4, 5] else []⟩
def S31 : SCode :=
  (.seq (.ops [⟨none, (some 2), .mv 2 (.k (Value.int .i64 0)), false⟩,
    ⟨none, (some 3), .mv 3 (.k (Value.int .i64 0)), false⟩])
  (.seq (.seq (.seq (.keep [0]) (.ops [⟨none, (some 6), .mv 6 (.s 0), false⟩,
    ⟨none, (some 7), .lens 7 (.s 6), false⟩,
    ⟨none, (some 8), .bin 8 .eql (.s 7) (.k (Value.int .i64 0)), false⟩,
    ⟨none, (some 9), .mv 9 (.s 8), false⟩,
    ⟨(some (9, false)), (some 10), .mv 10 (.s 0), false⟩,
    ⟨(some (9, false)), (some 11), .lens 11 (.s 10), false⟩,
    ⟨(some (9, false)), (some 12), .bin 12 .gtr (.s 11) (.k (Value.int .i64 1)), false⟩,
    ⟨(some (9, false)), (some 13), .mv 13 (.s 12), false⟩,
    ⟨(some (13, true)), (some 14), .mv 14 (.s 0), false⟩,
    ⟨(some (13, true)), (some 15), .ixs 15 (.s 14) (.k (Value.int .i64 0)), true⟩,
    ⟨(some (13, true)), (some 16), .bin 16 .eql (.s 15) (.k (Value.int .u8 48)), false⟩,
    ⟨(some (9, false)), (some 17), .pk 17 (.s 13) (.s 16) (.k (Value.bool false)), false⟩,
    ⟨none, (some 18), .pk 18 (.s 9) (.k (Value.bool true)) (.s 17), false⟩]))
  (.cond (.s 18) (.seq (.ops [⟨none, (some 2), .mv 2 (.k (Value.int .i64 0)), false⟩,
    ⟨none, (some 3), .mv 3 (.k (Value.int .i64 3)), false⟩])
  .ret) .skip))
  (.seq (.ops [⟨none, (some 4), .mv 4 (.k (Value.int .i64 0)), false⟩])
  (.seq (.seq (.ops [⟨none, (some 5), .mv 5 (.k (Value.int .i64 0)), false⟩])
  (.block 0 (.loop [0, 4, 5] (.seq (.seq (.seq (.keep [0, 4, 5]) (.ops [⟨none, (some 19), .mv 19 (.s 5), false⟩,
    ⟨none, (some 20), .mv 20 (.s 0), false⟩,
    ⟨none, (some 21), .lens 21 (.s 20), false⟩,
    ⟨none, (some 22), .bin 22 .lss (.s 19) (.s 21), false⟩]))
  (.cond (.s 22) .skip (.exit 0)))
  (.seq (.block 1 (.seq (.seq (.seq (.keep [0, 4, 5]) (.ops [⟨none, (some 25), .mv 25 (.s 0), false⟩,
    ⟨none, (some 26), .mv 26 (.s 5), false⟩,
    ⟨none, (some 27), .ixs 27 (.s 25) (.s 26), false⟩,
    ⟨none, (some 28), .bin 28 .lss (.s 27) (.k (Value.int .u8 48)), false⟩,
    ⟨none, (some 29), .mv 29 (.s 28), false⟩,
    ⟨(some (29, false)), (some 30), .mv 30 (.s 0), false⟩,
    ⟨(some (29, false)), (some 31), .mv 31 (.s 5), false⟩,
    ⟨(some (29, false)), (some 32), .ixs 32 (.s 30) (.s 31), false⟩,
    ⟨(some (29, false)), (some 33), .bin 33 .gtr (.s 32) (.k (Value.int .u8 57)), false⟩,
    ⟨none, (some 34), .pk 34 (.s 29) (.k (Value.bool true)) (.s 33), true⟩]))
  (.cond (.s 34) (.seq (.ops [⟨none, (some 2), .mv 2 (.k (Value.int .i64 0)), false⟩,
    ⟨none, (some 3), .mv 3 (.k (Value.int .i64 3)), false⟩])
  .ret) .skip))
  (.seq (.keep [0, 4, 5]) (.ops [⟨none, (some 35), .mv 35 (.s 4), false⟩,
    ⟨none, (some 36), .binc 36 .mul (.s 35) (.k (Value.int .i64 10)), false⟩,
    ⟨none, (some 37), .mv 37 (.s 0), false⟩,
    ⟨none, (some 38), .mv 38 (.s 5), false⟩,
    ⟨none, (some 39), .ixs 39 (.s 37) (.s 38), false⟩,
    ⟨none, (some 40), .bin 40 .sub (.s 39) (.k (Value.int .u8 48)), false⟩,
    ⟨none, (some 41), .cvi 41 .i64 (.s 40), false⟩,
    ⟨none, (some 42), .binc 42 .add (.s 36) (.s 41), false⟩,
    ⟨none, (some 43), .mm 43 true (.s 42) [(.k (Value.int .i64 2147483648))], false⟩,
    ⟨none, (some 4), .mv 4 (.s 43), true⟩]))))
  (.seq (.keep [0, 4, 5]) (.ops [⟨none, (some 23), .mv 23 (.s 5), false⟩,
    ⟨none, (some 24), .binc 24 .add (.s 23) (.k (Value.int .i64 1)), false⟩,
    ⟨none, (some 5), .mv 5 (.s 24), false⟩])))))))
  (.seq (.seq (.ops [⟨none, (some 44), .mv 44 (.s 4), false⟩,
    ⟨none, (some 45), .bin 45 .gtr (.s 44) (.k (Value.int .i64 2147483647)), false⟩])
  (.cond (.s 45) (.seq (.ops [⟨none, (some 2), .mv 2 (.k (Value.int .i64 0)), false⟩,
    ⟨none, (some 3), .mv 3 (.k (Value.int .i64 2)), false⟩])
  .ret) .skip))
  (.seq (.seq (.keep [4]) (.ops [⟨none, (some 46), .mv 46 (.s 4), false⟩,
    ⟨none, (some 2), .mv 2 (.s 46), false⟩,
    ⟨none, (some 3), .mv 3 (.k (Value.int .i64 0)), false⟩]))
  .ret))))))
theorem cc31 : (Tryd.f31.body).bind (cc Tryd.prog Tryd.f31.ntmps A31) = some S31 := by kernel_rfl
def R31 : List RR := [.sl 2, .sl 3]
theorem cr31 : Tryd.f31.results.toList.map (crr Tryd.prog) = R31.map some := by kernel_rfl
theorem nm31 : (Tryd.f31.name == "runtime.NumGoroutine") = false := by kernel_rfl
theorem fn31 : Tryd.prog.funcs[31]? = some Tryd.f31 := by kernel_rfl
theorem bd31 : ∃ b, Tryd.f31.body = some b ∧ cc Tryd.prog Tryd.f31.ntmps A31 b = some S31 := Option.bind_eq_some_iff.1 cc31
theorem sd31 {G : World → Prop} {T : FuncId → Contract} {C : Contract} (hT : ∀ f, Sound G Tryd.prog f (T f)) (hl : C.lawful) (hC : ∀ args st K, C.wp args st K → args.length ≤ 47 ∧ ∃ os op, xv T st.n S31 (st0 args st) (retK R31 st.n os K) (panK st.n op K)) : Sound G Tryd.prog 31 C := by
  obtain ⟨b, hb, hc⟩ := bd31
  rw [xv_eq] at hC
  exact sound_of_ev mo fn31 hb nm31 hc cr31 hT hl hC

end Go.Proofs.YtpbkdcfjlbdgfaaDoor
/-
  DERIVED: THE SHELF's CONTRACTS AT THIS DUMP, IN PLAIN WORDS (tools/lay-plain.mjs out of 'TrydShelfPart.lean', which tools/lay-shelf.mjs wrote): THE SAME DECLARATIONS UNDER THE SAME NAMES: 'import', 'namespace', 'open', 'def', 'theorem' AND NOTHING ELSE: no command of the shelf's: FOR A HAND-IN. Each laying: the table of numbers ('.._ren') and one theorem, a field a fact of the dump's own or the kernel's comparison; each contract: ONE APPLICATION.
-/
namespace Go.Proofs
open Go.Shelf
def Tryd.laysC172_ren : Go.Shelf.Ren := ⟨fun | 172 => 78 | 244 => 124 | 245 => 125 | 247 => 153 | 279 => 154 | 280 => 155 | 281 => 156 | 282 => 157 | 287 => 177 | 316 => 178 | 171 => 79 | 205 => 179 | 321 => 191 | 322 => 192 | 243 => 126 | 246 => 158 | 283 => 180 | 284 => 181 | 285 => 182 | 286 => 183 | 129 => 194 | 317 => 193 | 318 => 195 | 319 => 196 | 320 => 197 | 337 => 201 | 338 => 202 | n => n, fun | 9 => 9 | 3 => 3 | 75 => 47 | 76 => 76 | 4 => 4 | 5 => 5 | 167 => 174 | 37 => 68 | 0 => 0 | 85 => 175 | 2 => 2 | 168 => 177 | 53 => 64 | 175 => 204 | 46 => 114 | 210 => 207 | 127 => 120 | 145 => 228 | 143 => 226 | 21 => 21 | 171 => 209 | 173 => 212 | 212 => 230 | 51 => 215 | 20 => 20 | 213 => 231 | 232 => 236 | 233 => 237 | 80 => 79 | n => n, fun | 15 => 2 | 16 => 3 | 17 => 6 | 18 => 7 | 19 => 8 | n => n⟩
theorem Tryd.laysC172 : Go.Proofs.LaysC.n172 Tryd.prog Tryd.laysC172_ren := {
  mixed := by kernel_rfl
  f129 := Tryd.func194.trans (congrArg some (by kernel_rfl))
  f171 := Tryd.func79.trans (congrArg some (by kernel_rfl))
  f172 := Tryd.func78.trans (congrArg some (by kernel_rfl))
  f205 := Tryd.func179.trans (congrArg some (by kernel_rfl))
  f243 := Tryd.func126.trans (congrArg some (by kernel_rfl))
  f244 := Tryd.func124.trans (congrArg some (by kernel_rfl))
  f245 := Tryd.func125.trans (congrArg some (by kernel_rfl))
  f246 := Tryd.func158.trans (congrArg some (by kernel_rfl))
  f247 := Tryd.func153.trans (congrArg some (by kernel_rfl))
  f279 := Tryd.func154.trans (congrArg some (by kernel_rfl))
  f280 := Tryd.func155.trans (congrArg some (by kernel_rfl))
  f281 := Tryd.func156.trans (congrArg some (by kernel_rfl))
  f282 := Tryd.func157.trans (congrArg some (by kernel_rfl))
  f283 := Tryd.func180.trans (congrArg some (by kernel_rfl))
  f284 := Tryd.func181.trans (congrArg some (by kernel_rfl))
  f285 := Tryd.func182.trans (congrArg some (by kernel_rfl))
  f286 := Tryd.func183.trans (congrArg some (by kernel_rfl))
  f287 := Tryd.func177.trans (congrArg some (by kernel_rfl))
  f316 := Tryd.func178.trans (congrArg some (by kernel_rfl))
  f317 := Tryd.func193.trans (congrArg some (by kernel_rfl))
  f318 := Tryd.func195.trans (congrArg some (by kernel_rfl))
  f319 := Tryd.func196.trans (congrArg some (by kernel_rfl))
  f320 := Tryd.func197.trans (congrArg some (by kernel_rfl))
  f321 := Tryd.func191.trans (congrArg some (by kernel_rfl))
  f322 := Tryd.func192.trans (congrArg some (by kernel_rfl))
  f337 := Tryd.func201.trans (congrArg some (by kernel_rfl))
  f338 := Tryd.func202.trans (congrArg some (by kernel_rfl))
  t0 := Tryd.underlying0
  a0 := Tryd.isAgg0
  z0 := Tryd.sizeOf0
  v0 := Tryd.zeroValue0
  t2 := Tryd.underlying2
  a2 := Tryd.isAgg2
  z2 := Tryd.sizeOf2
  v2 := Tryd.zeroValue2
  t3 := Tryd.underlying3
  a3 := Tryd.isAgg3
  z3 := Tryd.sizeOf3
  v3 := Tryd.zeroValue3
  t4 := Tryd.underlying4
  a4 := Tryd.isAgg4
  z4 := Tryd.sizeOf4
  v4 := Tryd.zeroValue4
  t5 := Tryd.underlying5
  a5 := Tryd.isAgg5
  z5 := Tryd.sizeOf5
  v5 := Tryd.zeroValue5
  t9 := Tryd.underlying9
  a9 := Tryd.isAgg9
  z9 := Tryd.sizeOf9
  v9 := Tryd.zeroValue9
  t20 := Tryd.underlying20
  a20 := Tryd.isAgg20
  z20 := Tryd.sizeOf20
  v20 := Tryd.zeroValue20
  t21 := Tryd.underlying21
  a21 := Tryd.isAgg21
  z21 := Tryd.sizeOf21
  v21 := Tryd.zeroValue21
  t37 := Tryd.underlying68
  a37 := Tryd.isAgg68
  z37 := Tryd.sizeOf68
  v37 := Tryd.zeroValue68
  t46 := Tryd.underlying114
  a46 := Tryd.isAgg114
  z46 := Tryd.sizeOf114
  v46 := Tryd.zeroValue114
  t51 := Tryd.underlying215
  a51 := Tryd.isAgg215
  z51 := Tryd.sizeOf215
  v51 := Tryd.zeroValue215
  t53 := Tryd.underlying64
  a53 := Tryd.isAgg64
  z53 := Tryd.sizeOf64
  v53 := Tryd.zeroValue64
  t75 := Tryd.underlying47
  a75 := Tryd.isAgg47
  z75 := Tryd.sizeOf47
  v75 := Tryd.zeroValue47
  t76 := Tryd.underlying76
  a76 := Tryd.isAgg76
  z76 := Tryd.sizeOf76
  v76 := Tryd.zeroValue76
  t85 := Tryd.underlying175
  a85 := Tryd.isAgg175
  z85 := Tryd.sizeOf175
  v85 := Tryd.zeroValue175
  t127 := Tryd.underlying120
  a127 := Tryd.isAgg120
  z127 := Tryd.sizeOf120
  v127 := Tryd.zeroValue120
  t143 := Tryd.underlying226
  a143 := Tryd.isAgg226
  z143 := Tryd.sizeOf226
  v143 := Tryd.zeroValue226
  t145 := Tryd.underlying228
  a145 := Tryd.isAgg228
  z145 := Tryd.sizeOf228
  v145 := Tryd.zeroValue228
  t167 := Tryd.underlying174
  a167 := Tryd.isAgg174
  z167 := Tryd.sizeOf174
  v167 := Tryd.zeroValue174
  t168 := Tryd.underlying177
  a168 := Tryd.isAgg177
  z168 := Tryd.sizeOf177
  v168 := Tryd.zeroValue177
  t171 := Tryd.underlying209
  a171 := Tryd.isAgg209
  z171 := Tryd.sizeOf209
  v171 := Tryd.zeroValue209
  t173 := Tryd.underlying212
  a173 := Tryd.isAgg212
  z173 := Tryd.sizeOf212
  v173 := Tryd.zeroValue212
  t175 := Tryd.underlying204
  a175 := Tryd.isAgg204
  z175 := Tryd.sizeOf204
  v175 := Tryd.zeroValue204
  t210 := Tryd.underlying207
  a210 := Tryd.isAgg207
  z210 := Tryd.sizeOf207
  v210 := Tryd.zeroValue207
  t212 := Tryd.underlying230
  a212 := Tryd.isAgg230
  z212 := Tryd.sizeOf230
  v212 := Tryd.zeroValue230
  t213 := Tryd.underlying231
  a213 := Tryd.isAgg231
  z213 := Tryd.sizeOf231
  t232 := Tryd.underlying236
  a232 := Tryd.isAgg236
  z232 := Tryd.sizeOf236
  v232 := Tryd.zeroValue236
  t233 := Tryd.underlying237
  a233 := Tryd.isAgg237
  z233 := Tryd.sizeOf237
  v233 := Tryd.zeroValue237
  g15 := by kernel_rfl
  g16 := by kernel_rfl
  g17 := by kernel_rfl
  g18 := by kernel_rfl
  g19 := by kernel_rfl
  t80 := Tryd.underlying79
  a80 := Tryd.isAgg79
  z80 := Tryd.sizeOf79
  v80 := Tryd.zeroValue79
  i0 := by kernel_rfl
  i2 := by kernel_rfl
  i3 := by kernel_rfl
  i4 := by kernel_rfl
  i5 := by kernel_rfl
  i9 := by kernel_rfl
  i20 := by kernel_rfl
  i21 := by kernel_rfl
  i37 := by kernel_rfl
  i46 := by kernel_rfl
  i51 := by kernel_rfl
  i53 := by kernel_rfl
  i75 := by kernel_rfl
  i76 := by kernel_rfl
  i80 := by kernel_rfl
  i85 := by kernel_rfl
  i127 := by kernel_rfl
  i143 := by kernel_rfl
  i145 := by kernel_rfl
  i167 := by kernel_rfl
  i168 := by kernel_rfl
  i171 := by kernel_rfl
  i173 := by kernel_rfl
  i175 := by kernel_rfl
  i210 := by kernel_rfl
  i212 := by kernel_rfl
  i232 := by kernel_rfl
  i233 := by kernel_rfl
  m15 := by kernel_rfl
  m16 := by kernel_rfl
  m17 := by kernel_rfl
  m18 := by kernel_rfl
  m19 := by kernel_rfl
  c0 := by kernel_rfl
  c2 := by kernel_rfl
  c3 := by kernel_rfl
  c4 := by kernel_rfl
  c5 := by kernel_rfl
  c9 := by kernel_rfl
  c20 := by kernel_rfl
  c21 := by kernel_rfl
  c37 := by kernel_rfl
  c46 := by kernel_rfl
  c51 := by kernel_rfl
  c53 := by kernel_rfl
  c75 := by kernel_rfl
  c76 := by kernel_rfl
  c80 := by kernel_rfl
  c85 := by kernel_rfl
  c127 := by kernel_rfl
  c143 := by kernel_rfl
  c145 := by kernel_rfl
  c167 := by kernel_rfl
  c168 := by kernel_rfl
  c171 := by kernel_rfl
  c173 := by kernel_rfl
  c175 := by kernel_rfl
  c210 := by kernel_rfl
  c212 := by kernel_rfl
  c213 := by kernel_rfl
  c232 := by kernel_rfl
  c233 := by kernel_rfl }
open Go.RowKit in
/-- strconv.Atoi, AT EVERY STRING THAT SPELLS AN int ('Lib.atoiAll .. = .ok v'; of whatever length: leading zeros count): v, AND NO ERROR. The world: as it was, or with the one new row that '[]byte(..)' lays. (LAID: no walk: one application.) -/
theorem Tryd.strconv_Atoi_ok (s : ByteArray) (hmax : s.size ≤ 9223372036854775806) (v : Int) (h : Lib.atoiAll s.data.toList = .ok v) (w : World) :
    Calls Tryd.prog 78 #[.string s] w fun e w' => e = .returned (.tuple #[.int .i64 v, .nilIface]) ∧ (w' = w ∨ ∃ t, w' = Lib.bytesWorld w 5 t) := Any.strconv_Atoi_ok Tryd.laysC172 s hmax v h w
open Go.RowKit in
theorem Tryd.strconv_Atoi_range_var (s : ByteArray) (hlim : s.size ≤ 281474976710656) (h : Lib.atoiAll s.data.toList = .range) (tp : TypeId) (p : Value) (w : World) (hvar : w.var? Tryd.prog "strconv.ErrRange" = some #[.iface tp p]) :
    Calls Tryd.prog 78 #[.string s] w fun e w' => ∃ N, e = .returned (.tuple #[.int .i64 (Lib.atoiSat s.data.toList), .iface 177 (.pointer (some ⟨N, 0, none⟩))]) ∧ w.heap.size ≤ N ∧ w'.heap[N]? = some (.cells #[.string ⟨#[65, 116, 111, 105]⟩, .string s, .iface tp p] 207 (0, 0)) ∧ Below w.heap.size w w' := Any.strconv_Atoi_range_var Tryd.laysC172 s hlim h tp p w hvar
end Go.Proofs
set_option linter.unusedVariables false
set_option linter.unusedSimpArgs false
namespace Go.Proofs.YtpbkdcfjlbdgfaaDoor
open Go Go.Ev
set_option maxRecDepth 100000
variable {G : World → Prop}
/-- Digits. -/
def dig (c : UInt8) : Bool := decide (48 ≤ (c.toNat : Int)) && decide ((c.toNat : Int) ≤ 57)
def valT (l : List UInt8) : Nat := l.foldl (fun n c => n * 10 + (c.toNat - 48)) 0
theorem val_app (l : List UInt8) (c : UInt8) : valT (l ++ [c]) = valT l * 10 + (c.toNat - 48) := by simp [valT]
theorem val_snoc {l : List UInt8} {i : Nat} (h : i < l.length) : valT (l.take (i + 1)) = valT (l.take i) * 10 + ((l.getD i 0).toNat - 48) := by
  rw [List.take_succ_eq_append_getElem h, val_app]
  simp [List.getD_eq_getElem?_getD, List.getElem?_eq_getElem h]
theorem all_take {l : List UInt8} {i : Nat} (h : i < l.length) : (l.take (i + 1)).all dig = ((l.take i).all dig && dig (l.getD i 0)) := by
  rw [List.take_succ_eq_append_getElem h, List.all_append]
  simp [List.getD_eq_getElem?_getD, List.getElem?_eq_getElem h]
theorem not_all {l : List UInt8} {i : Nat} (h : i < l.length) (hd : dig (l.getD i 0) = false) : l.all dig = false := by
  rw [List.all_eq_false]
  exact ⟨l.getD i 0, by simp [List.getD_eq_getElem?_getD, List.getElem?_eq_getElem h], by rw [hd]; decide⟩
/-- Numbers are read. -/
def badP (l : List UInt8) : Prop := l = [] ∨ (1 < l.length ∧ l.getD 0 0 = 48)
instance (l : List UInt8) : Decidable (badP l) := by unfold badP; infer_instance
def parseS (l : List UInt8) : Int × Int := if badP l then (0, 3) else if l.all dig = false then (0, 3) else if 2147483647 < valT l then (0, 2) else (valT l, 0)
def CParse : Contract := pureC fun args => match args with
  | [.d (.v (.string s))] => some (s.size ≤ 1099511627776, .tup [.d (.v (.int .i64 (parseS s.data.toList).1)), .d (.v (.int .i64 (parseS s.data.toList).2))])
  | _ => none
def valA (a : Nat) (l : List UInt8) : Nat := l.foldl (fun n c => n * 10 + (c.toNat - 48)) a
theorem valA_le : ∀ (l : List UInt8) (a : Nat), a ≤ valA a l
  | [], a => Nat.le_refl _
  | c :: l, a => Nat.le_trans (by omega) (valA_le l (a * 10 + (c.toNat - 48)))
theorem dig_nat {c : UInt8} (h : dig c = true) : 48 ≤ c.toNat ∧ c.toNat ≤ 57 := by
  simp only [dig, Bool.and_eq_true, decide_eq_true_eq] at h; omega
theorem pu10 : ∀ (l : List UInt8) (a : Nat), l.all dig = true → a < 18446744073709551616 → Lib.parseUint10 a l = if 18446744073709551616 ≤ valA a l then .range else .ok (valA a l)
  | [], a, _, ha => by simp only [Lib.parseUint10, valA, List.foldl_nil]; exact (if_neg (Nat.not_le.2 ha)).symm
  | c :: l, a, h, ha => by
    simp only [List.all_cons, Bool.and_eq_true] at h
    obtain ⟨h1, h2⟩ := dig_nat h.1
    have hle := valA_le l (a * 10 + (c.toNat - 48))
    have e : valA a (c :: l) = valA (a * 10 + (c.toNat - 48)) l := rfl
    rw [Lib.parseUint10, if_pos ⟨h1, h2⟩, e]
    by_cases k1 : 1844674407370955162 ≤ a
    · rw [if_pos k1, if_pos (by omega)]
    · rw [if_neg k1]
      by_cases k2 : 18446744073709551616 ≤ a * 10 + (c.toNat - 48)
      · rw [if_pos k2, if_pos (by omega)]
      · rw [if_neg k2, pu10 l _ h.2 (by omega)]
theorem atoi_dig {l : List UInt8} (hne : l ≠ []) (h : l.all dig = true) : Lib.atoiAll l = if 9223372036854775808 ≤ valT l then .range else .ok (valT l) := by
  cases l with
  | nil => exact absurd rfl hne
  | cons c r =>
    have hd := dig_nat (List.all_eq_true.1 h c (by simp))
    have hp := pu10 (c :: r) 0 h (by omega)
    have e : valA 0 (c :: r) = valT (c :: r) := rfl
    rw [e] at hp
    simp only [Lib.atoiAll]
    rw [if_neg (by omega), Lib.parseMag, if_neg (by simp), hp]
    by_cases k : 18446744073709551616 ≤ valT (c :: r)
    · rw [if_pos k, if_pos (by omega)]
    · rw [if_neg k]
      simp only
      by_cases k2 : 9223372036854775808 ≤ valT (c :: r)
      · rw [if_pos ⟨by omega, k2⟩, if_pos k2]
      · rw [if_neg (by omega), if_neg (by omega), if_neg k2, if_neg (by omega)]
theorem sat_dig {l : List UInt8} (h : l.all dig = true) : Lib.atoiSat l = 9223372036854775807 := by
  unfold Lib.atoiSat
  cases l with
  | nil => simp
  | cons c r =>
    have hd := dig_nat (List.all_eq_true.1 h c (by simp))
    simp only [List.head?_cons, Option.map_some, Option.some.injEq]
    rw [if_neg (by omega)]
/-- What strconv.Atoi reads beside its tables. -/
def ErrR (w : World) : Prop := ∃ tp p, w.var? Tryd.prog "strconv.ErrRange" = some #[.iface tp p]
def CAtoi : Contract := pureC fun args => match args with
  | [.d (.v (.string s))] => some (s.size ≤ 1099511627776 ∧ s.data.toList ≠ [] ∧ s.data.toList.all dig = true, .tup [.d (.v (.int .i64 (if 9223372036854775808 ≤ valT s.data.toList then 9223372036854775807 else valT s.data.toList))), .d (if 9223372036854775808 ≤ valT s.data.toList then .ifc 177 (.pt []) else .v .nilIface)])
  | _ => none
theorem sAtoi (hG : ∀ w, G w → ErrR w) : Sound G Tryd.prog 78 CAtoi := by
  refine sound_lib2 ⟨Tryd.f78, by kernel_rfl, by kernel_rfl, by kernel_rfl⟩ fun args p x h hp => ?_
  split at h <;> simp only [Option.some.injEq, Prod.mk.injEq, reduceCtorEq] at h
  obtain ⟨rfl, rfl⟩ := h
  rename_i s
  obtain ⟨h1, h2, h3⟩ := hp
  intro w hw m c vs hc hv
  match vs, hv with
  | [a], hv =>
    simp only [CnL, and_true] at hv
    rw [of_v hv]
    have hA := atoi_dig h2 h3
    by_cases k : 9223372036854775808 ≤ valT s.data.toList
    · rw [if_pos k] at hA
      obtain ⟨tp, p, he⟩ := hG w hw
      refine (Tryd.strconv_Atoi_range_var s (by omega) hA tp p w he).mono ?_
      rintro e w' ⟨N, rfl, _, _, hB⟩
      refine ⟨⟨_, rfl, fun m n c => ?_⟩, hB⟩
      rw [if_pos k, if_pos k, sat_dig h3]
      simp [Cn, CnL, Rd, RdCells, Value.oneCell']
    · rw [if_neg k] at hA
      refine (Tryd.strconv_Atoi_ok s (by omega) _ hA w).mono ?_
      rintro e w' ⟨rfl, hB⟩
      refine ⟨⟨_, rfl, fun m n c => ?_⟩, ?_⟩
      · rw [if_neg k, if_neg k]
        simp [Cn, CnL, Rd, Value.oneCell']
      · rcases hB with rfl | ⟨t, rfl⟩
        · exact RowKit.Below.refl _ _
        · exact Lib.bytesWorld_below w _ t
  | [], hv => simp [CnL] at hv
  | _ :: _ :: _, hv => simp [CnL] at hv
end Go.Proofs.YtpbkdcfjlbdgfaaDoor
set_option linter.unusedVariables false
set_option linter.unusedSimpArgs false
namespace Go.Proofs.YtpbkdcfjlbdgfaaDoor
open Go Go.Ev
set_option maxRecDepth 100000
variable {G : World → Prop}
def capN (n : Nat) : Nat := if 2147483648 < n then 2147483648 else n
theorem cap_step (n d : Nat) : capN (n * 10 + d) = if 2147483648 < capN n * 10 + d then 2147483648 else capN n * 10 + d := by
  unfold capN; (repeat' split) <;> first | rfl | omega
theorem cap_le (n : Nat) : capN n ≤ 2147483648 := by unfold capN; split <;> omega
theorem u8s (c : Nat) (h : 48 ≤ c ∧ c ≤ 57) : IntKind.u8.wrap ((c : Int) - 48) = ((c - 48 : Nat) : Int) := by
  simp only [IntKind.wrap, IntKind.bits, IntKind.signed]
  simp
  omega
theorem i64n (c : Nat) (h : c ≤ 1000) : IntKind.i64.wrap (c : Int) = (c : Int) := wrap64 _ (by omega) (by omega)
theorem bad_head {l : List UInt8} (h : badP l) : (decide ((l.length : Int) = 0) || (decide (1 < (l.length : Int)) && decide (((l.getD 0 0).toNat : Int) = 48))) = true := by
  rcases h with rfl | ⟨h1, h2⟩
  · rfl
  · rw [h2]; simp; right; omega
theorem bad_not {l : List UInt8} (h : ¬ badP l) : (0 < l.length) ∧ ¬ (1 < (l.length : Int) ∧ ((l.getD 0 0).toNat : Int) = 48) := by
  refine ⟨?_, fun ⟨h1, h2⟩ => h (.inr ⟨by omega, UInt8.toNat_inj.1 (by show _ = 48; omega)⟩)⟩
  cases l with
  | nil => exact absurd (.inl rfl) h
  | cons => simp
set_option maxHeartbeats 1000000 in
theorem s31 : Sound G Tryd.prog 31 CParse := by
  refine sd31 (T := tabT []) tab_nil (pureC_lawful _) (pure_hX fun args p x K h hp hk => ?_)
  split at h <;> simp only [Option.some.injEq, Prod.mk.injEq, reduceCtorEq] at h
  obtain ⟨rfl, rfl⟩ := h
  refine ⟨Nat.le_of_ble_eq_true rfl, ?_⟩
  rename_i s
  obtain ⟨l, rfl⟩ := ex_str s
  simp only [sem_str] at hk hp
  by_cases hb : badP l
  · rw [show parseS l = (0, 3) by rw [parseS, if_pos hb]] at hk
    simp -dsimp -implicitDefEqProofs only [S31, R31, ↓Ev.xStp_eq, ↓Ev.P, Ev.Q, eq_self, forall_eq_or_imp, implies_true, forall_const, forall_eq, ↓reduceIte, reduceIte, Nat.reduceEqDiff, Nat.reduceAdd, reduceCtorEq, Nat.reduceSub, Int.reduceToNat, Int.reduceLE, Int.reduceLT, Int.reduceNeg, Nat.reduceBEq, Nat.reduceMul, Nat.reduceLeDiff, Nat.reduceMod, UInt8.reduceOfNat, Nat.reduceLT, Int.reduceEq, Int.reduceAdd, Int.reduceSub, Int.reduceMul]
    have hh := bad_head hb
    simp only [Bool.or_eq_true, Bool.and_eq_true, decide_eq_true_eq] at hh
    refine ⟨by omega, by omega, fun _ => hk, fun h => ?_⟩
    omega
  · obtain ⟨h1, h2⟩ := bad_not hb
    simp -dsimp -implicitDefEqProofs only [S31, R31, ↓Ev.xStp_eq, ↓Ev.P, Ev.Q, eq_self, forall_eq_or_imp, implies_true, forall_const, forall_eq, ↓reduceIte, reduceIte, Nat.reduceEqDiff, Nat.reduceAdd, reduceCtorEq, Nat.reduceSub, Int.reduceToNat, Int.reduceLE, Int.reduceLT, Int.reduceNeg, Nat.reduceBEq, Nat.reduceMul, Nat.reduceLeDiff, Nat.reduceMod, UInt8.reduceOfNat, Nat.reduceLT, Int.reduceEq, Int.reduceAdd, Int.reduceSub, Int.reduceMul]
    refine ⟨by omega, by omega, fun h => by omega, fun _ => ?_⟩
    refine xLoop_intro (fun k st => ∃ i : Nat, i ≤ l.length ∧ k = l.length - i ∧ (l.take i).all dig = true ∧
      st = ⟨[(0, .d (.v (.string ⟨l.toArray⟩))), (4, .d (.v (.int .i64 (capN (valT (l.take i)))))), (5, .d (.v (.int .i64 i)))], 0, []⟩) l.length [] ?_ ?_ ?_
    · simp -dsimp -implicitDefEqProofs only [↓Ev.xStp_eq, ↓Ev.P, Ev.Q, eq_self, forall_eq_or_imp, implies_true, forall_const, forall_eq, ↓reduceIte, reduceIte, Nat.reduceEqDiff, Nat.reduceAdd, reduceCtorEq, Nat.reduceSub, Int.reduceToNat, Int.reduceLE, Int.reduceLT, Int.reduceNeg, Nat.reduceBEq, Nat.reduceMul, Nat.reduceLeDiff, Nat.reduceMod, UInt8.reduceOfNat, Nat.reduceLT, Int.reduceEq, Int.reduceAdd, Int.reduceSub, Int.reduceMul]
    · simp -dsimp -implicitDefEqProofs only [↓Ev.xStp_eq, ↓Ev.P, Ev.Q, eq_self, forall_eq_or_imp, implies_true, forall_const, forall_eq, ↓reduceIte, reduceIte, Nat.reduceEqDiff, Nat.reduceAdd, reduceCtorEq, Nat.reduceSub, Int.reduceToNat, Int.reduceLE, Int.reduceLT, Int.reduceNeg, Nat.reduceBEq, Nat.reduceMul, Nat.reduceLeDiff, Nat.reduceMod, UInt8.reduceOfNat, Nat.reduceLT, Int.reduceEq, Int.reduceAdd, Int.reduceSub, Int.reduceMul]
      exact ⟨0, by omega, by omega, rfl, rfl⟩
    · rintro k st ⟨i, hi, hk2, hall, rfl⟩
      by_cases hil : i < l.length
      · have hi3 : (i : Int) < l.length := by omega
        have hcl := cap_le (valT (l.take i))
        by_cases hd : dig (l.getD i 0) = true
        · obtain ⟨d1, d2⟩ := dig_nat hd
          have d3 : ¬ ((l.getD i 0).toNat : Int) < 48 := by omega
          have d4 : ¬ (57 : Int) < ((l.getD i 0).toNat : Int) := by omega
          have hu := u8s _ ⟨d1, d2⟩
          have hc := i64n ((l.getD i 0).toNat - 48) (by omega)
          simp -dsimp -implicitDefEqProofs only [hi3, d3, d4, hu, hc, ↓Ev.xStp_eq, ↓Ev.P, Ev.Q, eq_self, forall_eq_or_imp, implies_true, forall_const, forall_eq, ↓reduceIte, reduceIte, Nat.reduceEqDiff, Nat.reduceAdd, reduceCtorEq, Nat.reduceSub, Int.reduceToNat, Int.reduceLE, Int.reduceLT, Int.reduceNeg, Nat.reduceBEq, Nat.reduceMul, Nat.reduceLeDiff, Nat.reduceMod, UInt8.reduceOfNat, Nat.reduceLT, Int.reduceEq, Int.reduceAdd, Int.reduceSub, Int.reduceMul]
          repeat' (first | with_reducible assumption | refine And.intro ?_ ?_ | intro _)
          all_goals try omega
          refine xAgain_intro (l.length - (i + 1)) [] (by omega) (by simp -dsimp -implicitDefEqProofs only [↓Ev.xStp_eq, ↓Ev.P, Ev.Q, eq_self, forall_eq_or_imp, implies_true, forall_const, forall_eq, ↓reduceIte, reduceIte, Nat.reduceEqDiff, Nat.reduceAdd, reduceCtorEq, Nat.reduceSub, Int.reduceToNat, Int.reduceLE, Int.reduceLT, Int.reduceNeg, Nat.reduceBEq, Nat.reduceMul, Nat.reduceLeDiff, Nat.reduceMod, UInt8.reduceOfNat, Nat.reduceLT, Int.reduceEq, Int.reduceAdd, Int.reduceSub, Int.reduceMul]) ⟨i + 1, by omega, rfl, by rw [all_take hil, hall, hd]; rfl, ?_⟩
          rw [val_snoc hil, cap_step]
          simp -dsimp -implicitDefEqProofs only [↓Ev.xStp_eq, ↓Ev.P, Ev.Q, eq_self, forall_eq_or_imp, implies_true, forall_const, forall_eq, ↓reduceIte, reduceIte, Nat.reduceEqDiff, Nat.reduceAdd, reduceCtorEq, Nat.reduceSub, Int.reduceToNat, Int.reduceLE, Int.reduceLT, Int.reduceNeg, Nat.reduceBEq, Nat.reduceMul, Nat.reduceLeDiff, Nat.reduceMod, UInt8.reduceOfNat, Nat.reduceLT, Int.reduceEq, Int.reduceAdd, Int.reduceSub, Int.reduceMul]
          simp
          split <;> split <;> omega
        · simp only [Bool.not_eq_true] at hd
          have hna := not_all hil hd
          rw [show parseS l = (0, 3) by rw [parseS, if_neg hb, if_pos hna]] at hk
          have hd2 : ((l.getD i 0).toNat : Int) < 48 ∨ (57 : Int) < ((l.getD i 0).toNat : Int) := by
            simp only [dig, Bool.and_eq_false_iff, decide_eq_false_iff_not] at hd; omega
          simp -dsimp -implicitDefEqProofs only [hi3, ↓Ev.xStp_eq, ↓Ev.P, Ev.Q, eq_self, forall_eq_or_imp, implies_true, forall_const, forall_eq, ↓reduceIte, reduceIte, Nat.reduceEqDiff, Nat.reduceAdd, reduceCtorEq, Nat.reduceSub, Int.reduceToNat, Int.reduceLE, Int.reduceLT, Int.reduceNeg, Nat.reduceBEq, Nat.reduceMul, Nat.reduceLeDiff, Nat.reduceMod, UInt8.reduceOfNat, Nat.reduceLT, Int.reduceEq, Int.reduceAdd, Int.reduceSub, Int.reduceMul]
          repeat' (first | with_reducible assumption | refine And.intro ?_ ?_ | intro _)
          all_goals first | omega | exact hk | skip
      · have hi3 : ¬ (i : Int) < l.length := by omega
        obtain rfl : i = l.length := by omega
        rw [List.take_length] at hall
        rw [show parseS l = if 2147483647 < valT l then (0, 2) else ((valT l : Int), 0) by rw [parseS, if_neg hb, if_neg (by rw [hall]; decide)]] at hk
        simp -dsimp -implicitDefEqProofs only [hi3, List.take_length, ↓Ev.xStp_eq, ↓Ev.P, Ev.Q, eq_self, forall_eq_or_imp, implies_true, forall_const, forall_eq, ↓reduceIte, reduceIte, Nat.reduceEqDiff, Nat.reduceAdd, reduceCtorEq, Nat.reduceSub, Int.reduceToNat, Int.reduceLE, Int.reduceLT, Int.reduceNeg, Nat.reduceBEq, Nat.reduceMul, Nat.reduceLeDiff, Nat.reduceMod, UInt8.reduceOfNat, Nat.reduceLT, Int.reduceEq, Int.reduceAdd, Int.reduceSub, Int.reduceMul]
        refine ⟨fun h => ?_, fun h => ?_⟩
        · rw [if_pos (by unfold capN at h; split at h <;> omega)] at hk; exact hk
        · have hv : valT l ≤ 2147483647 := by unfold capN at h; split at h <;> omega
          rw [if_neg (by omega)] at hk
          rw [show capN (valT l) = valT l by unfold capN; rw [if_neg (by omega)]]
          exact hk
end Go.Proofs.YtpbkdcfjlbdgfaaDoor
set_option linter.unusedVariables false
set_option linter.unusedSimpArgs false
namespace Go.Proofs.YtpbkdcfjlbdgfaaDoor
open Go Go.Ev
set_option maxRecDepth 100000
variable {G : World → Prop}
theorem dec_at (l : List UInt8) (i : Nat) (h : i < l.length) : (dig (l.getD i 0) = true → Utf8.decode ⟨l.toArray⟩ i = ((l.getD i 0).toNat, 1)) ∧ (dig (l.getD i 0) = false → ((Utf8.decode ⟨l.toArray⟩ i).1 : Int) < 48 ∨ (57 : Int) < ((Utf8.decode ⟨l.toArray⟩ i).1 : Int)) := by
  have hs : i < (⟨l.toArray⟩ : ByteArray).size := h
  have hg : (⟨l.toArray⟩ : ByteArray)[i]'hs = l.getD i 0 := by
    simp [List.getD_eq_getElem?_getD, List.getElem?_eq_getElem h]
    rfl
  by_cases ha : ((⟨l.toArray⟩ : ByteArray)[i]'hs).toNat < 128
  · have := decode_ascii _ i hs ha
    rw [hg] at this
    refine ⟨fun _ => this, fun hd => ?_⟩
    rw [this]
    simp only [dig, Bool.and_eq_false_iff, decide_eq_false_iff_not] at hd
    omega
  · have h2 := (decode_high _ i hs (by omega)).1
    rw [hg] at ha
    refine ⟨fun hd => ?_, fun _ => .inr (by omega)⟩
    have := dig_nat hd
    omega
theorem empty_iff (l : List UInt8) : ((⟨l.toArray⟩ : ByteArray) = ⟨#[]⟩) = (l = []) := by simp
set_option maxHeartbeats 1000000 in
theorem s30 (hG : ∀ w, G w → ErrR w) : Sound G Tryd.prog 30 CParse := by
  refine sd30 (T := tabT [(78, CAtoi)]) (tab_cons (sAtoi hG) tab_nil) (pureC_lawful _) (pure_hX fun args p x K h hp hk => ?_)
  split at h <;> simp only [Option.some.injEq, Prod.mk.injEq, reduceCtorEq] at h
  obtain ⟨rfl, rfl⟩ := h
  refine ⟨Nat.le_of_ble_eq_true rfl, ?_⟩
  rename_i s
  obtain ⟨l, rfl⟩ := ex_str s
  simp only [sem_str] at hk hp
  by_cases hb : badP l
  · rw [show parseS l = (0, 3) by rw [parseS, if_pos hb]] at hk
    simp -dsimp -implicitDefEqProofs only [S30, S30_0, S30r1, S30_1, S30r2, R30, empty_iff, ↓Ev.xStp_eq, ↓Ev.P, Ev.Q, eq_self, forall_eq_or_imp, implies_true, forall_const, forall_eq, ↓reduceIte, reduceIte, Nat.reduceEqDiff, Nat.reduceAdd, reduceCtorEq, Nat.reduceSub, Int.reduceToNat, Int.reduceLE, Int.reduceLT, Int.reduceNeg, Nat.reduceBEq, Nat.reduceMul, Nat.reduceLeDiff, Nat.reduceMod, UInt8.reduceOfNat, Nat.reduceLT, Int.reduceEq, Int.reduceAdd, Int.reduceSub, Int.reduceMul]
    have hh := bad_head hb
    simp only [Bool.or_eq_true, Bool.and_eq_true, decide_eq_true_eq] at hh
    repeat' (first | with_reducible assumption | refine And.intro ?_ ?_ | intro _)
    all_goals first | omega | exact hk | skip
    all_goals (rename_i h; rcases hb with rfl | hb <;> first | exact absurd rfl h.1 | omega)
  · obtain ⟨h1, h2⟩ := bad_not hb
    have hne : ¬ l = [] := fun e => hb (.inl e)
    simp -dsimp -implicitDefEqProofs only [S30, S30_0, S30r1, S30_1, S30r2, S30_2, S30r3, R30, empty_iff, hne, ↓Ev.xStp_eq, ↓Ev.P, Ev.Q, eq_self, forall_eq_or_imp, implies_true, forall_const, forall_eq, ↓reduceIte, reduceIte, Nat.reduceEqDiff, Nat.reduceAdd, reduceCtorEq, Nat.reduceSub, Int.reduceToNat, Int.reduceLE, Int.reduceLT, Int.reduceNeg, Nat.reduceBEq, Nat.reduceMul, Nat.reduceLeDiff, Nat.reduceMod, UInt8.reduceOfNat, Nat.reduceLT, Int.reduceEq, Int.reduceAdd, Int.reduceSub, Int.reduceMul]
    refine ⟨by omega, fun h => by omega, fun _ => ?_⟩
    refine xLoop_intro (fun k st => ∃ i : Nat, i ≤ l.length ∧ k = l.length - i ∧ (l.take i).all dig = true ∧
      st = ⟨[(0, .d (.v (.string ⟨l.toArray⟩))), (21, .own 0)], 1, [(0, .iter ⟨l.toArray⟩ i)]⟩) l.length [0] ?_ ?_ ?_
    · simp -dsimp -implicitDefEqProofs only [↓Ev.xStp_eq, ↓Ev.P, Ev.Q, eq_self, forall_eq_or_imp, implies_true, forall_const, forall_eq, ↓reduceIte, reduceIte, Nat.reduceEqDiff, Nat.reduceAdd, reduceCtorEq, Nat.reduceSub, Int.reduceToNat, Int.reduceLE, Int.reduceLT, Int.reduceNeg, Nat.reduceBEq, Nat.reduceMul, Nat.reduceLeDiff, Nat.reduceMod, UInt8.reduceOfNat, Nat.reduceLT, Int.reduceEq, Int.reduceAdd, Int.reduceSub, Int.reduceMul]
    · simp -dsimp -implicitDefEqProofs only [↓Ev.xStp_eq, ↓Ev.P, Ev.Q, eq_self, forall_eq_or_imp, implies_true, forall_const, forall_eq, ↓reduceIte, reduceIte, Nat.reduceEqDiff, Nat.reduceAdd, reduceCtorEq, Nat.reduceSub, Int.reduceToNat, Int.reduceLE, Int.reduceLT, Int.reduceNeg, Nat.reduceBEq, Nat.reduceMul, Nat.reduceLeDiff, Nat.reduceMod, UInt8.reduceOfNat, Nat.reduceLT, Int.reduceEq, Int.reduceAdd, Int.reduceSub, Int.reduceMul]
      exact ⟨0, by omega, by omega, rfl, rfl⟩
    · rintro k st ⟨i, hi, hk2, hall, rfl⟩
      by_cases hil : i < l.length
      · obtain ⟨e1, e2⟩ := dec_at l i hil
        by_cases hd : dig (l.getD i 0) = true
        · obtain ⟨d1, d2⟩ := dig_nat hd
          have e1 := e1 hd
          have d3 : ¬ ((l.getD i 0).toNat : Int) < 48 := by omega
          have d4 : ¬ (57 : Int) < ((l.getD i 0).toNat : Int) := by omega
          simp -dsimp -implicitDefEqProofs only [hil, e1, d3, d4, ↓Ev.xStp_eq, ↓Ev.P, Ev.Q, eq_self, forall_eq_or_imp, implies_true, forall_const, forall_eq, ↓reduceIte, reduceIte, Nat.reduceEqDiff, Nat.reduceAdd, reduceCtorEq, Nat.reduceSub, Int.reduceToNat, Int.reduceLE, Int.reduceLT, Int.reduceNeg, Nat.reduceBEq, Nat.reduceMul, Nat.reduceLeDiff, Nat.reduceMod, UInt8.reduceOfNat, Nat.reduceLT, Int.reduceEq, Int.reduceAdd, Int.reduceSub, Int.reduceMul]
          repeat' (first | with_reducible assumption | refine And.intro ?_ ?_ | intro _)
          all_goals try omega
          refine xAgain_intro (l.length - (i + 1)) [0] (by omega) (by simp -dsimp -implicitDefEqProofs only [↓Ev.xStp_eq, ↓Ev.P, Ev.Q, eq_self, forall_eq_or_imp, implies_true, forall_const, forall_eq, ↓reduceIte, reduceIte, Nat.reduceEqDiff, Nat.reduceAdd, reduceCtorEq, Nat.reduceSub, Int.reduceToNat, Int.reduceLE, Int.reduceLT, Int.reduceNeg, Nat.reduceBEq, Nat.reduceMul, Nat.reduceLeDiff, Nat.reduceMod, UInt8.reduceOfNat, Nat.reduceLT, Int.reduceEq, Int.reduceAdd, Int.reduceSub, Int.reduceMul]) ⟨i + 1, by omega, rfl, by rw [all_take hil, hall, hd]; rfl, ?_⟩
          simp -dsimp -implicitDefEqProofs only [↓Ev.xStp_eq, ↓Ev.P, Ev.Q, eq_self, forall_eq_or_imp, implies_true, forall_const, forall_eq, ↓reduceIte, reduceIte, Nat.reduceEqDiff, Nat.reduceAdd, reduceCtorEq, Nat.reduceSub, Int.reduceToNat, Int.reduceLE, Int.reduceLT, Int.reduceNeg, Nat.reduceBEq, Nat.reduceMul, Nat.reduceLeDiff, Nat.reduceMod, UInt8.reduceOfNat, Nat.reduceLT, Int.reduceEq, Int.reduceAdd, Int.reduceSub, Int.reduceMul]
        · simp only [Bool.not_eq_true] at hd
          have hna := not_all hil hd
          rw [show parseS l = (0, 3) by rw [parseS, if_neg hb, if_pos hna]] at hk
          have e2 := e2 hd
          simp -dsimp -implicitDefEqProofs only [hil, ↓Ev.xStp_eq, ↓Ev.P, Ev.Q, eq_self, forall_eq_or_imp, implies_true, forall_const, forall_eq, ↓reduceIte, reduceIte, Nat.reduceEqDiff, Nat.reduceAdd, reduceCtorEq, Nat.reduceSub, Int.reduceToNat, Int.reduceLE, Int.reduceLT, Int.reduceNeg, Nat.reduceBEq, Nat.reduceMul, Nat.reduceLeDiff, Nat.reduceMod, UInt8.reduceOfNat, Nat.reduceLT, Int.reduceEq, Int.reduceAdd, Int.reduceSub, Int.reduceMul]
          repeat' (first | with_reducible assumption | refine And.intro ?_ ?_ | intro _)
          all_goals first | omega | exact hk | skip
      · obtain rfl : i = l.length := by omega
        rw [List.take_length] at hall
        rw [show parseS l = if 2147483647 < valT l then (0, 2) else ((valT l : Int), 0) by rw [parseS, if_neg hb, if_neg (by rw [hall]; decide)]] at hk
        by_cases k : 9223372036854775808 ≤ valT l
        · rw [if_pos (by omega)] at hk
          simp -dsimp -implicitDefEqProofs only [Nat.lt_irrefl, S30_3, S30r4, S30_4, S30r5, S30_5, S30r6, CAtoi, k, ↓Ev.xStp_eq, ↓Ev.P, Ev.Q, eq_self, forall_eq_or_imp, implies_true, forall_const, forall_eq, ↓reduceIte, reduceIte, Nat.reduceEqDiff, Nat.reduceAdd, reduceCtorEq, Nat.reduceSub, Int.reduceToNat, Int.reduceLE, Int.reduceLT, Int.reduceNeg, Nat.reduceBEq, Nat.reduceMul, Nat.reduceLeDiff, Nat.reduceMod, UInt8.reduceOfNat, Nat.reduceLT, Int.reduceEq, Int.reduceAdd, Int.reduceSub, Int.reduceMul]
          repeat' (first | with_reducible assumption | refine And.intro ?_ ?_ | intro _)
          all_goals first | omega | exact hk | skip
        · simp -dsimp -implicitDefEqProofs only [Nat.lt_irrefl, S30_3, S30r4, S30_4, S30r5, S30_5, S30r6, CAtoi, k, ↓Ev.xStp_eq, ↓Ev.P, Ev.Q, eq_self, forall_eq_or_imp, implies_true, forall_const, forall_eq, ↓reduceIte, reduceIte, Nat.reduceEqDiff, Nat.reduceAdd, reduceCtorEq, Nat.reduceSub, Int.reduceToNat, Int.reduceLE, Int.reduceLT, Int.reduceNeg, Nat.reduceBEq, Nat.reduceMul, Nat.reduceLeDiff, Nat.reduceMod, UInt8.reduceOfNat, Nat.reduceLT, Int.reduceEq, Int.reduceAdd, Int.reduceSub, Int.reduceMul]
          refine ⟨⟨by omega, hne, hall⟩, fun h => ?_, fun h => ?_⟩
          · rw [if_pos (by simp at h; omega)] at hk; exact hk
          · rw [if_neg (by simp at h; omega)] at hk; exact hk
end Go.Proofs.YtpbkdcfjlbdgfaaDoor
set_option linter.unusedVariables false
set_option linter.unusedSimpArgs false
namespace Go.Proofs.YtpbkdcfjlbdgfaaDoor
open Go Go.Ev
set_option maxRecDepth 100000
variable {G : World → Prop}
def CLawN : Contract := pureC fun args => match args with
  | [.d (.v (.int .i64 n)), .d (.v (.string s))] => some ((-9223372036854775808 ≤ n ∧ n ≤ 9223372036854775807) ∧ s.size ≤ 1099511627776, .d (.v (.bool true)))
  | _ => none
theorem s9 (hG : ∀ w, G w → Pow10 w) (hE : ∀ w, G w → ErrR w) : Sound G Tryd.prog 9 CLawN := by
  refine sd9 (T := tabT [(30, CParse), (31, CParse), (32, CItoa), (33, CItoa)]) (tab_cons (s30 hE) (tab_cons s31 (tab_cons (s32 hG) (tab_cons s33 tab_nil)))) (pureC_lawful _) (pure_hX fun args p x K h hp hk => ?_)
  split at h <;> simp only [Option.some.injEq, Prod.mk.injEq, reduceCtorEq] at h
  obtain ⟨rfl, rfl⟩ := h
  refine ⟨Nat.le_of_ble_eq_true rfl, ?_⟩
  rename_i n s
  obtain ⟨l, rfl⟩ := ex_str s
  simp only [sem_str] at hk hp
  simp -dsimp -implicitDefEqProofs only [S9, R9, CParse, CItoa, ↓Ev.xStp_eq, ↓Ev.P, Ev.Q, eq_self, forall_eq_or_imp, implies_true, forall_const, forall_eq, ↓reduceIte, reduceIte, Nat.reduceEqDiff, Nat.reduceAdd, reduceCtorEq, Nat.reduceSub, Int.reduceToNat, Int.reduceLE, Int.reduceLT, Int.reduceNeg, Nat.reduceBEq, Nat.reduceMul, Nat.reduceLeDiff, Nat.reduceMod, UInt8.reduceOfNat, Nat.reduceLT, Int.reduceEq, Int.reduceAdd, Int.reduceSub, Int.reduceMul]
  repeat' (first | with_reducible assumption | refine And.intro ?_ ?_ | intro _)
  all_goals first | omega | exact hk | skip
end Go.Proofs.YtpbkdcfjlbdgfaaDoor
/- The compiled code of functions, by program (gen.py): each theorem says that the loaded program compiles to it. -/
set_option linter.unusedVariables false
namespace Go.Proofs.YtpbkdcfjlbdgfaaDoor
open Go Go.Ev
set_option maxRecDepth 100000

/-! 40: redline/num.Unquote -/
def A40 : Ann := ⟨fun r i => if r = 4 ∧ i = 0 then 7 else 0, fun _ => none, fun r => if r = 1 then some (false, [0]) else if r = 3 then some (false, []) else if r = 6 then some (false, [5, 7]) else if r = 7 then some (false, [5, 7, 8]) else if r = 8 then some (false, [5, 7, 8]) else if r = 9 then some (false, [5, 7, 8, 9, 10]) else if r = 10 then some (false, []) else if r = 11 then some (false, [5, 7, 9]) else if r = 12 then some (false, [5, 7]) else if r = 13 then some (false, [5, 7, 8]) else if r = 14 then some (false, [5, 7]) else if r = 15 then some (false, [5, 7, 8]) else if r = 16 then some (false, [5, 7, 8]) else if r = 17 then some (false, []) else none, fun r => if r = 5 then [5, 7] else []⟩
def S40 : SCode :=
  (.seq (.ops [⟨none, (some 2), .mv 2 (.k (Value.string ⟨#[]⟩)), false⟩,
    ⟨none, (some 3), .mv 3 (.k (Value.string ⟨#[]⟩)), false⟩,
    ⟨none, (some 4), .mv 4 (.k (Value.int .i64 0)), false⟩])
  (.seq (.seq (.keep [0]) (.ops [⟨none, (some 12), .mv 12 (.s 0), false⟩,
    ⟨none, (some 13), .call (some 13) 91 false [(.s 12), (.k (Value.string ⟨#[34]⟩))], false⟩,
    ⟨none, (some 11), .mv 11 (.s 13), false⟩,
    ⟨none, (some 14), .ex 14 (.s 11) 0, false⟩,
    ⟨none, (some 15), .ex 15 (.s 11) 1, false⟩,
    ⟨none, (some 5), .mv 5 (.s 14), false⟩,
    ⟨none, (some 6), .mv 6 (.s 15), false⟩]))
  (.seq (.seq (.ops [⟨none, (some 16), .mv 16 (.s 6), false⟩,
    ⟨none, (some 17), .not 17 (.s 16), false⟩])
  (.cond (.s 17) (.seq (.seq (.keep []) (.ops [⟨none, (some 2), .mv 2 (.k (Value.string ⟨#[]⟩)), false⟩,
    ⟨none, (some 3), .mv 3 (.k (Value.string ⟨#[]⟩)), false⟩,
    ⟨none, (some 4), .mv 4 (.k (Value.int .i64 3)), false⟩]))
  .ret) .skip))
  (.seq (.ops [⟨none, (some 7), .nr 7 5 1, false⟩])
  (.seq (.block 0 (.loop [5, 7] (.seq (.seq (.ops [⟨none, (some 18), .mv 18 (.s 5), false⟩,
    ⟨none, (some 19), .bin 19 .neq (.s 18) (.k (Value.string ⟨#[]⟩)), false⟩])
  (.cond (.s 19) .skip (.exit 0)))
  (.block 1 (.seq (.seq (.keep [5, 7]) (.ops [⟨none, (some 20), .mv 20 (.s 5), false⟩,
    ⟨none, (some 21), .ixs 21 (.s 20) (.k (Value.int .i64 0)), false⟩,
    ⟨none, (some 8), .mv 8 (.s 21), false⟩]))
  (.seq (.seq (.keep [5, 7, 8]) (.ops [⟨none, (some 22), .mv 22 (.s 5), false⟩,
    ⟨none, (some 23), .sls 23 (.s 22) (some (.k (Value.int .i64 1))) none, false⟩,
    ⟨none, (some 5), .mv 5 (.s 23), false⟩]))
  (.block 2 (.seq (.seq (.keep [5, 7, 8]) (.ops [⟨none, (some 42), .mv 42 (.s 8), false⟩,
    ⟨none, (some 43), .bin 43 .eql (.s 42) (.k (Value.int .u8 34)), false⟩,
    ⟨none, (some 41), .mv 41 (.s 43), false⟩]))
  (.cond (.s 41) (.seq (.seq (.keep [5, 7]) (.ops [⟨none, (some 44), .mv 44 (.s 7), false⟩,
    ⟨none, (some 45), .b2s 45 (.s 44), false⟩,
    ⟨none, (some 46), .mv 46 (.s 5), false⟩,
    ⟨none, (some 2), .mv 2 (.s 45), false⟩,
    ⟨none, (some 3), .mv 3 (.s 46), false⟩,
    ⟨none, (some 4), .mv 4 (.k (Value.int .i64 0)), false⟩]))
  .ret) (.seq (.seq (.keep [5, 7, 8]) (.ops [⟨none, (some 48), .mv 48 (.s 8), false⟩,
    ⟨none, (some 49), .call (some 49) 89 false [(.s 48)], false⟩,
    ⟨none, (some 47), .mv 47 (.s 49), false⟩]))
  (.cond (.s 47) (.seq (.keep [5, 7, 8]) (.ops [⟨none, (some 50), .mv 50 (.s 7), false⟩,
    ⟨none, (some 51), .mv 51 (.s 8), false⟩,
    ⟨none, (some 52), .bs 52 5 1 [(.s 51)], false⟩,
    ⟨none, (some 53), .ap 53 5 1 1 (.s 50) (.s 52), false⟩,
    ⟨none, (some 7), .mv 7 (.s 53), false⟩])) (.seq (.seq (.keep [5, 7, 8]) (.ops [⟨none, (some 25), .mv 25 (.s 5), false⟩,
    ⟨none, (some 26), .call (some 26) 92 false [(.s 25)], false⟩,
    ⟨none, (some 24), .mv 24 (.s 26), false⟩,
    ⟨none, (some 27), .ex 27 (.s 24) 0, false⟩,
    ⟨none, (some 28), .ex 28 (.s 24) 1, false⟩,
    ⟨none, (some 9), .mv 9 (.s 27), false⟩,
    ⟨none, (some 10), .mv 10 (.s 28), false⟩]))
  (.seq (.seq (.seq (.keep [5, 7, 8, 9, 10]) (.ops [⟨none, (some 29), .mv 29 (.s 8), false⟩,
    ⟨none, (some 30), .bin 30 .neq (.s 29) (.k (Value.int .u8 92)), false⟩,
    ⟨none, (some 31), .mv 31 (.s 30), false⟩,
    ⟨(some (31, false)), (some 32), .mv 32 (.s 10), false⟩,
    ⟨(some (31, false)), (some 33), .not 33 (.s 32), false⟩,
    ⟨none, (some 34), .pk 34 (.s 31) (.k (Value.bool true)) (.s 33), false⟩]))
  (.cond (.s 34) (.seq (.seq (.keep []) (.ops [⟨none, (some 2), .mv 2 (.k (Value.string ⟨#[]⟩)), false⟩,
    ⟨none, (some 3), .mv 3 (.k (Value.string ⟨#[]⟩)), false⟩,
    ⟨none, (some 4), .mv 4 (.k (Value.int .i64 3)), false⟩]))
  .ret) .skip))
  (.seq (.seq (.keep [5, 7, 9]) (.ops [⟨none, (some 35), .mv 35 (.s 7), false⟩,
    ⟨none, (some 36), .mv 36 (.s 9), false⟩,
    ⟨none, (some 37), .bs 37 5 1 [(.s 36)], false⟩,
    ⟨none, (some 38), .ap 38 5 1 1 (.s 35) (.s 37), false⟩,
    ⟨none, (some 7), .mv 7 (.s 38), false⟩]))
  (.seq (.keep [5, 7]) (.ops [⟨none, (some 39), .mv 39 (.s 5), false⟩,
    ⟨none, (some 40), .sls 40 (.s 39) (some (.k (Value.int .i64 2))) none, false⟩,
    ⟨none, (some 5), .mv 5 (.s 40), false⟩]))))))))))))))))
  (.seq (.seq (.keep []) (.ops [⟨none, (some 2), .mv 2 (.k (Value.string ⟨#[]⟩)), false⟩,
    ⟨none, (some 3), .mv 3 (.k (Value.string ⟨#[]⟩)), false⟩,
    ⟨none, (some 4), .mv 4 (.k (Value.int .i64 3)), false⟩]))
  .ret))))))
theorem cc40 : (Tryd.f40.body).bind (cc Tryd.prog Tryd.f40.ntmps A40) = some S40 := by kernel_rfl
def R40 : List RR := [.sl 2, .sl 3, .sl 4]
theorem cr40 : Tryd.f40.results.toList.map (crr Tryd.prog) = R40.map some := by kernel_rfl
theorem nm40 : (Tryd.f40.name == "runtime.NumGoroutine") = false := by kernel_rfl
theorem fn40 : Tryd.prog.funcs[40]? = some Tryd.f40 := by kernel_rfl
theorem bd40 : ∃ b, Tryd.f40.body = some b ∧ cc Tryd.prog Tryd.f40.ntmps A40 b = some S40 := Option.bind_eq_some_iff.1 cc40
theorem sd40 {G : World → Prop} {T : FuncId → Contract} {C : Contract} (hT : ∀ f, Sound G Tryd.prog f (T f)) (hl : C.lawful) (hC : ∀ args st K, C.wp args st K → args.length ≤ 54 ∧ ∃ os op, xv T st.n S40 (st0 args st) (retK R40 st.n os K) (panK st.n op K)) : Sound G Tryd.prog 40 C := by
  obtain ⟨b, hb, hc⟩ := bd40
  rw [xv_eq] at hC
  exact sound_of_ev mo fn40 hb nm40 hc cr40 hT hl hC

/-! 54: redline/redlineref01.Unquote -/
def A54 : Ann := ⟨fun r i => if r = 3 ∧ i = 0 then 7 else if r = 12 ∧ i = 8 then 1 else if r = 12 ∧ i = 16 then 1 else if r = 12 ∧ i = 24 then 1 else if r = 12 ∧ i = 32 then 1 else if r = 12 ∧ i = 38 then 1 else if r = 12 ∧ i = 41 then 1 else 0, fun r => if r = 9 then some ([0, 1, 2, 3, 4, 5, 6, 7, 8, 9, 10, 11, 12, 13, 14, 15], [(0, true), (2, true), (3, true), (4, true), (5, true), (1, false), (6, true), (7, true), (8, true)]) else if r = 13 then some ([0, 1, 2, 3, 4, 5, 6, 7, 8, 9, 10, 11, 12, 13, 14, 15], [(0, true), (1, true), (2, true), (3, true), (4, true), (7, true), (8, true), (9, true), (10, true), (5, false), (6, true), (11, false), (12, true), (13, true), (14, false), (15, false), (16, true)]) else if r = 12 then some ([0, 1, 2, 3, 4, 5, 6, 7, 8, 9, 10, 11, 12, 13, 14, 15], [(0, true), (1, true), (2, true), (3, true), (4, true), (5, true), (6, true), (7, true), (8, true), (9, true), (10, true), (11, true), (12, true), (13, true), (14, true), (15, true), (16, false), (17, true), (18, true), (19, true), (20, true), (21, true), (22, true), (23, true), (24, false), (25, true), (26, true), (27, true), (28, true), (29, true), (30, true), (31, true), (34, true), (35, true), (36, true), (37, true), (32, false), (33, true), (38, false), (39, true), (40, true), (41, false), (42, true), (43, true), (44, true)]) else none, fun r => if r = 1 then some (false, [0]) else if r = 2 then some (false, []) else if r = 5 then some (false, [0, 5, 6]) else if r = 6 then some (false, [0, 5, 6]) else if r = 7 then some (false, []) else if r = 8 then some (false, [0, 5, 6]) else if r = 9 then some (false, [0, 5, 6]) else if r = 10 then some (false, [0, 5, 6]) else if r = 11 then some (false, [0, 5, 6]) else if r = 12 then some (false, [0, 5, 6]) else if r = 13 then some (false, [0, 5, 6]) else if r = 14 then some (false, [0, 5, 6]) else if r = 15 then some (false, []) else none, fun r => if r = 5 then [0, 5, 6] else []⟩
def S54 : SCode :=
  (.seq (.ops [⟨none, (some 2), .mv 2 (.k (Value.string ⟨#[]⟩)), false⟩,
    ⟨none, (some 3), .mv 3 (.k (Value.string ⟨#[]⟩)), false⟩,
    ⟨none, (some 4), .mv 4 (.k (Value.int .i64 0)), false⟩])
  (.seq (.seq (.seq (.keep [0]) (.ops [⟨none, (some 7), .mv 7 (.s 0), false⟩,
    ⟨none, (some 8), .lens 8 (.s 7), false⟩,
    ⟨none, (some 9), .bin 9 .eql (.s 8) (.k (Value.int .i64 0)), false⟩,
    ⟨none, (some 10), .mv 10 (.s 9), false⟩,
    ⟨(some (10, false)), (some 11), .mv 11 (.s 0), false⟩,
    ⟨(some (10, false)), (some 12), .ixs 12 (.s 11) (.k (Value.int .i64 0)), false⟩,
    ⟨(some (10, false)), (some 13), .bin 13 .neq (.s 12) (.k (Value.int .u8 34)), false⟩,
    ⟨none, (some 14), .pk 14 (.s 10) (.k (Value.bool true)) (.s 13), false⟩]))
  (.cond (.s 14) (.seq (.seq (.keep []) (.ops [⟨none, (some 2), .mv 2 (.k (Value.string ⟨#[]⟩)), false⟩,
    ⟨none, (some 3), .mv 3 (.k (Value.string ⟨#[]⟩)), false⟩,
    ⟨none, (some 4), .mv 4 (.k (Value.int .i64 3)), false⟩]))
  .ret) .skip))
  (.seq (.ops [⟨none, (some 5), .nr 5 5 1, false⟩])
  (.seq (.seq (.ops [⟨none, (some 6), .mv 6 (.k (Value.int .i64 1)), false⟩])
  (.block 0 (.loop [0, 5, 6] (.seq (.seq (.seq (.keep [0, 5, 6]) (.ops [⟨none, (some 15), .mv 15 (.s 6), false⟩,
    ⟨none, (some 16), .mv 16 (.s 0), false⟩,
    ⟨none, (some 17), .lens 17 (.s 16), false⟩,
    ⟨none, (some 18), .bin 18 .lss (.s 15) (.s 17), false⟩]))
  (.cond (.s 18) .skip (.exit 0)))
  (.seq (.block 1 (.block 2 (.seq (.seq (.keep [0, 5, 6]) (.ops [⟨none, (some 22), .mv 22 (.s 0), false⟩,
    ⟨none, (some 23), .mv 23 (.s 6), false⟩,
    ⟨none, (some 24), .ixs 24 (.s 22) (.s 23), false⟩,
    ⟨none, (some 25), .bin 25 .eql (.s 24) (.k (Value.int .u8 34)), false⟩,
    ⟨none, (some 21), .mv 21 (.s 25), false⟩]))
  (.cond (.s 21) (.seq (.seq (.keep [0, 5, 6]) (.dr [0, 1, 2, 3, 4, 5, 6, 7, 8, 9, 10, 11, 12, 13, 14, 15] [(0, true, ⟨none, (some 26), .mv 26 (.s 5), false⟩),
    (2, true, ⟨none, (some 28), .mv 28 (.s 0), false⟩),
    (3, true, ⟨none, (some 29), .mv 29 (.s 6), false⟩),
    (4, true, ⟨none, (some 30), .binc 30 .add (.s 29) (.k (Value.int .i64 1)), false⟩),
    (5, true, ⟨none, (some 31), .sls 31 (.s 28) (some (.s 30)) none, false⟩),
    (1, false, ⟨none, (some 27), .b2s 27 (.s 26), false⟩),
    (6, true, ⟨none, (some 2), .mv 2 (.s 27), false⟩),
    (7, true, ⟨none, (some 3), .mv 3 (.s 31), false⟩),
    (8, true, ⟨none, (some 4), .mv 4 (.k (Value.int .i64 0)), false⟩)]))
  .ret) (.seq (.seq (.keep [0, 5, 6]) (.ops [⟨none, (some 33), .mv 33 (.s 0), false⟩,
    ⟨none, (some 34), .mv 34 (.s 6), false⟩,
    ⟨none, (some 35), .ixs 35 (.s 33) (.s 34), false⟩,
    ⟨none, (some 36), .call (some 36) 104 false [(.s 35)], false⟩,
    ⟨none, (some 32), .mv 32 (.s 36), false⟩]))
  (.cond (.s 32) (.seq (.keep [0, 5, 6]) (.ops [⟨none, (some 37), .mv 37 (.s 5), false⟩,
    ⟨none, (some 38), .mv 38 (.s 0), false⟩,
    ⟨none, (some 39), .mv 39 (.s 6), false⟩,
    ⟨none, (some 40), .ixs 40 (.s 38) (.s 39), false⟩,
    ⟨none, (some 41), .bs 41 5 1 [(.s 40)], false⟩,
    ⟨none, (some 42), .ap 42 5 1 1 (.s 37) (.s 41), false⟩,
    ⟨none, (some 5), .mv 5 (.s 42), false⟩])) (.seq (.seq (.keep [0, 5, 6]) (.dr [0, 1, 2, 3, 4, 5, 6, 7, 8, 9, 10, 11, 12, 13, 14, 15] [(0, true, ⟨none, (some 44), .mv 44 (.s 0), false⟩),
    (1, true, ⟨none, (some 45), .mv 45 (.s 6), false⟩),
    (2, true, ⟨none, (some 46), .ixs 46 (.s 44) (.s 45), false⟩),
    (3, true, ⟨none, (some 47), .bin 47 .eql (.s 46) (.k (Value.int .u8 92)), false⟩),
    (4, true, ⟨none, (some 48), .mv 48 (.s 47), false⟩),
    (5, true, ⟨(some (48, true)), (some 49), .mv 49 (.s 6), false⟩),
    (6, true, ⟨(some (48, true)), (some 50), .binc 50 .add (.s 49) (.k (Value.int .i64 2)), false⟩),
    (7, true, ⟨(some (48, true)), (some 51), .mv 51 (.s 0), false⟩),
    (8, true, ⟨(some (48, true)), (some 52), .lens 52 (.s 51), false⟩),
    (9, true, ⟨(some (48, true)), (some 53), .bin 53 .lss (.s 50) (.s 52), true⟩),
    (10, true, ⟨none, (some 54), .pk 54 (.s 48) (.s 53) (.k (Value.bool false)), false⟩),
    (11, true, ⟨none, (some 55), .mv 55 (.s 54), false⟩),
    (12, true, ⟨(some (55, true)), (some 56), .mv 56 (.s 0), false⟩),
    (13, true, ⟨(some (55, true)), (some 57), .mv 57 (.s 6), false⟩),
    (14, true, ⟨(some (55, true)), (some 58), .binc 58 .add (.s 57) (.k (Value.int .i64 1)), false⟩),
    (15, true, ⟨(some (55, true)), (some 59), .ixs 59 (.s 56) (.s 58), false⟩),
    (16, false, ⟨(some (55, true)), (some 60), .call (some 60) 105 true [(.s 59)], false⟩),
    (17, true, ⟨(some (55, true)), (some 61), .bin 61 .geq (.s 60) (.k (Value.int .i64 0)), false⟩),
    (18, true, ⟨none, (some 62), .pk 62 (.s 55) (.s 61) (.k (Value.bool false)), false⟩),
    (19, true, ⟨none, (some 63), .mv 63 (.s 62), true⟩),
    (20, true, ⟨(some (63, true)), (some 64), .mv 64 (.s 0), false⟩),
    (21, true, ⟨(some (63, true)), (some 65), .mv 65 (.s 6), false⟩),
    (22, true, ⟨(some (63, true)), (some 66), .binc 66 .add (.s 65) (.k (Value.int .i64 2)), false⟩),
    (23, true, ⟨(some (63, true)), (some 67), .ixs 67 (.s 64) (.s 66), false⟩),
    (24, false, ⟨(some (63, true)), (some 68), .call (some 68) 105 true [(.s 67)], false⟩),
    (25, true, ⟨(some (63, true)), (some 69), .bin 69 .geq (.s 68) (.k (Value.int .i64 0)), false⟩),
    (26, true, ⟨none, (some 70), .pk 70 (.s 63) (.s 69) (.k (Value.bool false)), false⟩),
    (27, true, ⟨none, (some 71), .mv 71 (.s 70), false⟩),
    (28, true, ⟨(some (71, true)), (some 72), .mv 72 (.s 0), false⟩),
    (29, true, ⟨(some (71, true)), (some 73), .mv 73 (.s 6), true⟩),
    (30, true, ⟨(some (71, true)), (some 74), .binc 74 .add (.s 73) (.k (Value.int .i64 1)), false⟩),
    (31, true, ⟨(some (71, true)), (some 75), .ixs 75 (.s 72) (.s 74), false⟩),
    (34, true, ⟨(some (71, true)), (some 78), .mv 78 (.s 0), false⟩),
    (35, true, ⟨(some (71, true)), (some 79), .mv 79 (.s 6), false⟩),
    (36, true, ⟨(some (71, true)), (some 80), .binc 80 .add (.s 79) (.k (Value.int .i64 2)), false⟩),
    (37, true, ⟨(some (71, true)), (some 81), .ixs 81 (.s 78) (.s 80), false⟩),
    (32, false, ⟨(some (71, true)), (some 76), .call (some 76) 105 true [(.s 75)], false⟩),
    (33, true, ⟨(some (71, true)), (some 77), .binc 77 .mul (.k (Value.int .i64 16)) (.s 76), false⟩),
    (38, false, ⟨(some (71, true)), (some 82), .call (some 82) 105 true [(.s 81)], false⟩),
    (39, true, ⟨(some (71, true)), (some 83), .binc 83 .add (.s 77) (.s 82), true⟩),
    (40, true, ⟨(some (71, true)), (some 84), .cvi 84 .u8 (.s 83), false⟩),
    (41, false, ⟨(some (71, true)), (some 85), .call (some 85) 104 true [(.s 84)], false⟩),
    (42, true, ⟨(some (71, true)), (some 86), .not 86 (.s 85), false⟩),
    (43, true, ⟨none, (some 87), .pk 87 (.s 71) (.s 86) (.k (Value.bool false)), false⟩),
    (44, true, ⟨none, (some 43), .mv 43 (.s 87), false⟩)]))
  (.cond (.s 43) (.seq (.seq (.keep [0, 5, 6]) (.dr [0, 1, 2, 3, 4, 5, 6, 7, 8, 9, 10, 11, 12, 13, 14, 15] [(0, true, ⟨none, (some 88), .mv 88 (.s 5), false⟩),
    (1, true, ⟨none, (some 89), .mv 89 (.s 0), false⟩),
    (2, true, ⟨none, (some 90), .mv 90 (.s 6), false⟩),
    (3, true, ⟨none, (some 91), .binc 91 .add (.s 90) (.k (Value.int .i64 1)), false⟩),
    (4, true, ⟨none, (some 92), .ixs 92 (.s 89) (.s 91), false⟩),
    (7, true, ⟨none, (some 95), .mv 95 (.s 0), false⟩),
    (8, true, ⟨none, (some 96), .mv 96 (.s 6), false⟩),
    (9, true, ⟨none, (some 97), .binc 97 .add (.s 96) (.k (Value.int .i64 2)), true⟩),
    (10, true, ⟨none, (some 98), .ixs 98 (.s 95) (.s 97), false⟩),
    (5, false, ⟨none, (some 93), .call (some 93) 105 false [(.s 92)], false⟩),
    (6, true, ⟨none, (some 94), .binc 94 .mul (.k (Value.int .i64 16)) (.s 93), false⟩),
    (11, false, ⟨none, (some 99), .call (some 99) 105 false [(.s 98)], false⟩),
    (12, true, ⟨none, (some 100), .binc 100 .add (.s 94) (.s 99), false⟩),
    (13, true, ⟨none, (some 101), .cvi 101 .u8 (.s 100), false⟩),
    (14, false, ⟨none, (some 102), .bs 102 5 1 [(.s 101)], false⟩),
    (15, false, ⟨none, (some 103), .ap 103 5 1 1 (.s 88) (.s 102), false⟩),
    (16, true, ⟨none, (some 5), .mv 5 (.s 103), false⟩)]))
  (.seq (.keep [0, 5, 6]) (.ops [⟨none, (some 104), .mv 104 (.s 6), false⟩,
    ⟨none, (some 105), .binc 105 .add (.s 104) (.k (Value.int .i64 2)), false⟩,
    ⟨none, (some 6), .mv 6 (.s 105), false⟩]))) (.seq (.seq (.keep []) (.ops [⟨none, (some 2), .mv 2 (.k (Value.string ⟨#[]⟩)), false⟩,
    ⟨none, (some 3), .mv 3 (.k (Value.string ⟨#[]⟩)), false⟩,
    ⟨none, (some 4), .mv 4 (.k (Value.int .i64 3)), false⟩]))
  .ret)))))))))
  (.seq (.keep [0, 5, 6]) (.ops [⟨none, (some 19), .mv 19 (.s 6), false⟩,
    ⟨none, (some 20), .binc 20 .add (.s 19) (.k (Value.int .i64 1)), false⟩,
    ⟨none, (some 6), .mv 6 (.s 20), false⟩])))))))
  (.seq (.seq (.keep []) (.ops [⟨none, (some 2), .mv 2 (.k (Value.string ⟨#[]⟩)), false⟩,
    ⟨none, (some 3), .mv 3 (.k (Value.string ⟨#[]⟩)), false⟩,
    ⟨none, (some 4), .mv 4 (.k (Value.int .i64 3)), false⟩]))
  .ret)))))
theorem cc54 : (Tryd.f54.body).bind (cc Tryd.prog Tryd.f54.ntmps A54) = some S54 := by kernel_rfl
def R54 : List RR := [.sl 2, .sl 3, .sl 4]
theorem cr54 : Tryd.f54.results.toList.map (crr Tryd.prog) = R54.map some := by kernel_rfl
theorem nm54 : (Tryd.f54.name == "runtime.NumGoroutine") = false := by kernel_rfl
theorem fn54 : Tryd.prog.funcs[54]? = some Tryd.f54 := by kernel_rfl
theorem bd54 : ∃ b, Tryd.f54.body = some b ∧ cc Tryd.prog Tryd.f54.ntmps A54 b = some S54 := Option.bind_eq_some_iff.1 cc54
theorem sd54 {G : World → Prop} {T : FuncId → Contract} {C : Contract} (hT : ∀ f, Sound G Tryd.prog f (T f)) (hl : C.lawful) (hC : ∀ args st K, C.wp args st K → args.length ≤ 106 ∧ ∃ os op, xv T st.n S54 (st0 args st) (retK R54 st.n os K) (panK st.n op K)) : Sound G Tryd.prog 54 C := by
  obtain ⟨b, hb, hc⟩ := bd54
  rw [xv_eq] at hC
  exact sound_of_ev mo fn54 hb nm54 hc cr54 hT hl hC

/-! 39: redline/num.Quote -/
def A39 : Ann := ⟨fun r i => if r = 1 ∧ i = 0 then 7 else 0, fun r => if r = 9 then some ([0, 1, 2, 3, 4, 5, 6, 7, 8, 9, 10, 11, 12, 13, 14, 15], [(0, true), (1, true), (2, true), (3, true), (4, true), (5, true), (6, false), (7, false)]) else none, fun r => if r = 3 then some (false, [0, 3]) else if r = 6 then some (false, [0, 3, 4, 8, 9]) else if r = 9 then some (false, [0, 3, 5, 8, 9]) else none, fun r => if r = 4 then [0, 3, 8, 9] else []⟩
def S39 : SCode :=
  (.seq (.ops [⟨none, (some 2), .mv 2 (.k (Value.string ⟨#[]⟩)), false⟩])
  (.seq (.ops [⟨none, (some 3), .alb 3 70 5, false⟩])
  (.seq (.ops [⟨none, (some 6), .call (some 6) 88 false [(.s 3), (.k (Value.int .u8 34))], false⟩])
  (.seq (.seq (.seq (.keep [0, 3]) (.ops [⟨none, (some 7), .mv 7 (.s 0), false⟩,
    ⟨none, (some 8), .lens 8 (.s 7), false⟩,
    ⟨none, (some 9), .mv 9 (.k (Value.int .i64 0)), false⟩]))
  (.block 0 (.loop [0, 3, 8, 9] (.seq (.ops [⟨none, (some 10), .bin 10 .lss (.s 9) (.s 8), false⟩])
  (.seq (.cond (.s 10) .skip (.exit 0))
  (.seq (.block 1 (.seq (.ops [⟨none, (some 11), .mv 11 (.s 9), false⟩,
    ⟨none, (some 4), .mv 4 (.s 11), false⟩])
  (.seq (.seq (.keep [0, 3, 4, 8, 9]) (.ops [⟨none, (some 12), .mv 12 (.s 0), false⟩,
    ⟨none, (some 13), .mv 13 (.s 4), false⟩,
    ⟨none, (some 14), .ixs 14 (.s 12) (.s 13), false⟩,
    ⟨none, (some 5), .mv 5 (.s 14), false⟩]))
  (.seq (.ops [⟨none, (some 15), .mv 15 (.s 5), false⟩,
    ⟨none, (some 16), .call (some 16) 89 false [(.s 15)], false⟩])
  (.cond (.s 16) (.ops [⟨none, (some 17), .mv 17 (.s 5), false⟩,
    ⟨none, (some 18), .call (some 18) 88 false [(.s 3), (.s 17)], false⟩]) (.seq (.keep [0, 3, 5, 8, 9]) (.dr [0, 1, 2, 3, 4, 5, 6, 7, 8, 9, 10, 11, 12, 13, 14, 15] [(0, true, ⟨none, (some 19), .mv 19 (.s 5), false⟩),
    (1, true, ⟨none, (some 20), .bin 20 .shr (.s 19) (.k (Value.int .u64 4)), false⟩),
    (2, true, ⟨none, (some 21), .ixs 21 (.k (Value.string ⟨#[48, 49, 50, 51, 52, 53, 54, 55, 56, 57, 97, 98, 99, 100, 101, 102]⟩)) (.s 20), false⟩),
    (3, true, ⟨none, (some 22), .mv 22 (.s 5), false⟩),
    (4, true, ⟨none, (some 23), .bin 23 .and (.s 22) (.k (Value.int .u8 15)), false⟩),
    (5, true, ⟨none, (some 24), .ixs 24 (.k (Value.string ⟨#[48, 49, 50, 51, 52, 53, 54, 55, 56, 57, 97, 98, 99, 100, 101, 102]⟩)) (.s 23), false⟩),
    (6, false, ⟨none, (some 25), .bs 25 5 1 [(.k (Value.int .u8 92)), (.s 21), (.s 24)], false⟩),
    (7, false, ⟨none, (some 26), .call (some 26) 90 false [(.s 3), (.s 25)], false⟩)])))))))
  (.ops [⟨none, (some 27), .binc 27 .add (.s 9) (.k (Value.int .i64 1)), false⟩,
    ⟨none, (some 9), .mv 9 (.s 27), false⟩])))))))
  (.seq (.ops [⟨none, (some 28), .call (some 28) 88 false [(.s 3), (.k (Value.int .u8 34))], false⟩])
  (.seq (.ops [⟨none, (some 29), .call (some 29) 45 false [(.s 3)], false⟩,
    ⟨none, (some 2), .mv 2 (.s 29), false⟩])
  .ret))))))
theorem cc39 : (Tryd.f39.body).bind (cc Tryd.prog Tryd.f39.ntmps A39) = some S39 := by kernel_rfl
def R39 : List RR := [.sl 2]
theorem cr39 : Tryd.f39.results.toList.map (crr Tryd.prog) = R39.map some := by kernel_rfl
theorem nm39 : (Tryd.f39.name == "runtime.NumGoroutine") = false := by kernel_rfl
theorem fn39 : Tryd.prog.funcs[39]? = some Tryd.f39 := by kernel_rfl
theorem bd39 : ∃ b, Tryd.f39.body = some b ∧ cc Tryd.prog Tryd.f39.ntmps A39 b = some S39 := Option.bind_eq_some_iff.1 cc39
theorem sd39 {G : World → Prop} {T : FuncId → Contract} {C : Contract} (hT : ∀ f, Sound G Tryd.prog f (T f)) (hl : C.lawful) (hC : ∀ args st K, C.wp args st K → args.length ≤ 30 ∧ ∃ os op, xv T st.n S39 (st0 args st) (retK R39 st.n os K) (panK st.n op K)) : Sound G Tryd.prog 39 C := by
  obtain ⟨b, hb, hc⟩ := bd39
  rw [xv_eq] at hC
  exact sound_of_ev mo fn39 hb nm39 hc cr39 hT hl hC

/-! 121: redline/redlineref01.Quote -/
def A121 : Ann := ⟨fun _ _ => 0, fun r => if r = 7 then some ([0, 1, 2, 3, 4, 5, 6, 7, 8, 9, 10, 11, 12, 13, 14, 15], [(0, true), (1, true), (2, true), (3, true), (4, true), (5, true), (6, true), (7, true), (8, true), (9, true), (10, true), (11, false), (12, false), (13, true)]) else none, fun r => if r = 3 then some (false, [0, 3, 4]) else if r = 4 then some (false, [0, 3, 4]) else if r = 5 then some (false, [0, 3, 4]) else if r = 6 then some (false, [0, 3, 4]) else if r = 7 then some (false, [0, 3, 4]) else if r = 8 then some (false, [3]) else none, fun r => if r = 3 then [0, 3, 4] else []⟩
def S121 : SCode :=
  (.seq (.ops [⟨none, (some 2), .mv 2 (.k (Value.string ⟨#[]⟩)), false⟩])
  (.seq (.ops [⟨none, (some 5), .bs 5 5 1 [(.k (Value.int .u8 34))], false⟩,
    ⟨none, (some 3), .mv 3 (.s 5), false⟩])
  (.seq (.seq (.ops [⟨none, (some 4), .mv 4 (.k (Value.int .i64 0)), false⟩])
  (.block 0 (.loop [0, 3, 4] (.seq (.seq (.seq (.keep [0, 3, 4]) (.ops [⟨none, (some 6), .mv 6 (.s 4), false⟩,
    ⟨none, (some 7), .mv 7 (.s 0), false⟩,
    ⟨none, (some 8), .lens 8 (.s 7), false⟩,
    ⟨none, (some 9), .bin 9 .lss (.s 6) (.s 8), false⟩]))
  (.cond (.s 9) .skip (.exit 0)))
  (.seq (.block 1 (.seq (.seq (.keep [0, 3, 4]) (.ops [⟨none, (some 12), .mv 12 (.s 0), false⟩,
    ⟨none, (some 13), .mv 13 (.s 4), false⟩,
    ⟨none, (some 14), .ixs 14 (.s 12) (.s 13), false⟩,
    ⟨none, (some 15), .call (some 15) 104 false [(.s 14)], false⟩]))
  (.cond (.s 15) (.seq (.keep [0, 3, 4]) (.ops [⟨none, (some 16), .mv 16 (.s 3), false⟩,
    ⟨none, (some 17), .mv 17 (.s 0), false⟩,
    ⟨none, (some 18), .mv 18 (.s 4), false⟩,
    ⟨none, (some 19), .ixs 19 (.s 17) (.s 18), false⟩,
    ⟨none, (some 20), .bs 20 5 1 [(.s 19)], false⟩,
    ⟨none, (some 21), .ap 21 5 1 1 (.s 16) (.s 20), false⟩,
    ⟨none, (some 3), .mv 3 (.s 21), false⟩])) (.seq (.keep [0, 3, 4]) (.dr [0, 1, 2, 3, 4, 5, 6, 7, 8, 9, 10, 11, 12, 13, 14, 15] [(0, true, ⟨none, (some 22), .mv 22 (.s 3), false⟩),
    (1, true, ⟨none, (some 23), .mv 23 (.s 0), false⟩),
    (2, true, ⟨none, (some 24), .mv 24 (.s 4), false⟩),
    (3, true, ⟨none, (some 25), .ixs 25 (.s 23) (.s 24), false⟩),
    (4, true, ⟨none, (some 26), .bin 26 .quo (.s 25) (.k (Value.int .u8 16)), false⟩),
    (5, true, ⟨none, (some 27), .ixs 27 (.k (Value.string ⟨#[48, 49, 50, 51, 52, 53, 54, 55, 56, 57, 97, 98, 99, 100, 101, 102]⟩)) (.s 26), false⟩),
    (6, true, ⟨none, (some 28), .mv 28 (.s 0), false⟩),
    (7, true, ⟨none, (some 29), .mv 29 (.s 4), false⟩),
    (8, true, ⟨none, (some 30), .ixs 30 (.s 28) (.s 29), false⟩),
    (9, true, ⟨none, (some 31), .bin 31 .rem (.s 30) (.k (Value.int .u8 16)), true⟩),
    (10, true, ⟨none, (some 32), .ixs 32 (.k (Value.string ⟨#[48, 49, 50, 51, 52, 53, 54, 55, 56, 57, 97, 98, 99, 100, 101, 102]⟩)) (.s 31), false⟩),
    (11, false, ⟨none, (some 33), .bs 33 5 1 [(.k (Value.int .u8 92)), (.s 27), (.s 32)], false⟩),
    (12, false, ⟨none, (some 34), .ap 34 5 1 1 (.s 22) (.s 33), false⟩),
    (13, true, ⟨none, (some 3), .mv 3 (.s 34), false⟩)])))))
  (.seq (.keep [0, 3, 4]) (.ops [⟨none, (some 10), .mv 10 (.s 4), false⟩,
    ⟨none, (some 11), .binc 11 .add (.s 10) (.k (Value.int .i64 1)), false⟩,
    ⟨none, (some 4), .mv 4 (.s 11), false⟩])))))))
  (.seq (.seq (.keep [3]) (.ops [⟨none, (some 35), .mv 35 (.s 3), false⟩,
    ⟨none, (some 36), .bs 36 5 1 [(.k (Value.int .u8 34))], false⟩,
    ⟨none, (some 37), .ap 37 5 1 1 (.s 35) (.s 36), false⟩,
    ⟨none, (some 38), .b2s 38 (.s 37), false⟩,
    ⟨none, (some 2), .mv 2 (.s 38), false⟩]))
  .ret))))
theorem cc121 : (Tryd.f121.body).bind (cc Tryd.prog Tryd.f121.ntmps A121) = some S121 := by kernel_rfl
def R121 : List RR := [.sl 2]
theorem cr121 : Tryd.f121.results.toList.map (crr Tryd.prog) = R121.map some := by kernel_rfl
theorem nm121 : (Tryd.f121.name == "runtime.NumGoroutine") = false := by kernel_rfl
theorem fn121 : Tryd.prog.funcs[121]? = some Tryd.f121 := by kernel_rfl
theorem bd121 : ∃ b, Tryd.f121.body = some b ∧ cc Tryd.prog Tryd.f121.ntmps A121 b = some S121 := Option.bind_eq_some_iff.1 cc121
theorem sd121 {G : World → Prop} {T : FuncId → Contract} {C : Contract} (hT : ∀ f, Sound G Tryd.prog f (T f)) (hl : C.lawful) (hC : ∀ args st K, C.wp args st K → args.length ≤ 39 ∧ ∃ os op, xv T st.n S121 (st0 args st) (retK R121 st.n os K) (panK st.n op K)) : Sound G Tryd.prog 121 C := by
  obtain ⟨b, hb, hc⟩ := bd121
  rw [xv_eq] at hC
  exact sound_of_ev mo fn121 hb nm121 hc cr121 hT hl hC

/-! 91: strings.CutPrefix -/
def A91 : Ann := ⟨fun _ _ => 0, fun _ => none, fun r => if r = 1 then some (false, [0, 1]) else none, fun _ => []⟩
def S91 : SCode :=
  (.seq (.ops [⟨none, (some 4), .mv 4 (.k (Value.string ⟨#[]⟩)), false⟩,
    ⟨none, (some 5), .mv 5 (.k (Value.bool false)), false⟩])
  (.seq (.seq (.keep [0, 1]) (.ops [⟨none, (some 6), .mv 6 (.s 0), false⟩,
    ⟨none, (some 7), .mv 7 (.s 1), false⟩,
    ⟨none, (some 8), .call (some 8) 134 false [(.s 6), (.s 7)], false⟩,
    ⟨none, (some 9), .ex 9 (.s 8) 0, false⟩,
    ⟨none, (some 10), .ex 10 (.s 8) 1, false⟩,
    ⟨none, (some 4), .mv 4 (.s 9), false⟩,
    ⟨none, (some 5), .mv 5 (.s 10), false⟩]))
  .ret))
theorem cc91 : (Tryd.f91.body).bind (cc Tryd.prog Tryd.f91.ntmps A91) = some S91 := by kernel_rfl
def R91 : List RR := [.sl 4, .sl 5]
theorem cr91 : Tryd.f91.results.toList.map (crr Tryd.prog) = R91.map some := by kernel_rfl
theorem nm91 : (Tryd.f91.name == "runtime.NumGoroutine") = false := by kernel_rfl
theorem fn91 : Tryd.prog.funcs[91]? = some Tryd.f91 := by kernel_rfl
theorem bd91 : ∃ b, Tryd.f91.body = some b ∧ cc Tryd.prog Tryd.f91.ntmps A91 b = some S91 := Option.bind_eq_some_iff.1 cc91
theorem sd91 {G : World → Prop} {T : FuncId → Contract} {C : Contract} (hT : ∀ f, Sound G Tryd.prog f (T f)) (hl : C.lawful) (hC : ∀ args st K, C.wp args st K → args.length ≤ 11 ∧ ∃ os op, xv T st.n S91 (st0 args st) (retK R91 st.n os K) (panK st.n op K)) : Sound G Tryd.prog 91 C := by
  obtain ⟨b, hb, hc⟩ := bd91
  rw [xv_eq] at hC
  exact sound_of_ev mo fn91 hb nm91 hc cr91 hT hl hC

/-! 89: redline/num.plain -/
def A89 : Ann := ⟨fun _ _ => 0, fun _ => none, fun r => if r = 1 then some (false, [0]) else none, fun _ => []⟩
def S89 : SCode :=
  (.seq (.ops [⟨none, (some 2), .mv 2 (.k (Value.bool false)), false⟩])
  (.seq (.seq (.keep [0]) (.ops [⟨none, (some 3), .mv 3 (.s 0), false⟩,
    ⟨none, (some 4), .bin 4 .geq (.s 3) (.k (Value.int .u8 32)), false⟩,
    ⟨none, (some 5), .mv 5 (.s 4), false⟩,
    ⟨(some (5, true)), (some 6), .mv 6 (.s 0), false⟩,
    ⟨(some (5, true)), (some 7), .bin 7 .leq (.s 6) (.k (Value.int .u8 126)), false⟩,
    ⟨none, (some 8), .pk 8 (.s 5) (.s 7) (.k (Value.bool false)), false⟩,
    ⟨none, (some 9), .mv 9 (.s 8), false⟩,
    ⟨(some (9, true)), (some 10), .mv 10 (.s 0), false⟩,
    ⟨(some (9, true)), (some 11), .bin 11 .neq (.s 10) (.k (Value.int .u8 34)), false⟩,
    ⟨none, (some 12), .pk 12 (.s 9) (.s 11) (.k (Value.bool false)), true⟩,
    ⟨none, (some 13), .mv 13 (.s 12), false⟩,
    ⟨(some (13, true)), (some 14), .mv 14 (.s 0), false⟩,
    ⟨(some (13, true)), (some 15), .bin 15 .neq (.s 14) (.k (Value.int .u8 92)), false⟩,
    ⟨none, (some 16), .pk 16 (.s 13) (.s 15) (.k (Value.bool false)), false⟩,
    ⟨none, (some 2), .mv 2 (.s 16), false⟩]))
  .ret))
theorem cc89 : (Tryd.f89.body).bind (cc Tryd.prog Tryd.f89.ntmps A89) = some S89 := by kernel_rfl
def R89 : List RR := [.sl 2]
theorem cr89 : Tryd.f89.results.toList.map (crr Tryd.prog) = R89.map some := by kernel_rfl
theorem nm89 : (Tryd.f89.name == "runtime.NumGoroutine") = false := by kernel_rfl
theorem fn89 : Tryd.prog.funcs[89]? = some Tryd.f89 := by kernel_rfl
theorem bd89 : ∃ b, Tryd.f89.body = some b ∧ cc Tryd.prog Tryd.f89.ntmps A89 b = some S89 := Option.bind_eq_some_iff.1 cc89
theorem sd89 {G : World → Prop} {T : FuncId → Contract} {C : Contract} (hT : ∀ f, Sound G Tryd.prog f (T f)) (hl : C.lawful) (hC : ∀ args st K, C.wp args st K → args.length ≤ 17 ∧ ∃ os op, xv T st.n S89 (st0 args st) (retK R89 st.n os K) (panK st.n op K)) : Sound G Tryd.prog 89 C := by
  obtain ⟨b, hb, hc⟩ := bd89
  rw [xv_eq] at hC
  exact sound_of_ev mo fn89 hb nm89 hc cr89 hT hl hC

/-! 92: redline/num.octet -/
def A92 : Ann := ⟨fun r i => if r = 5 ∧ i = 9 then 1 else 0, fun r => if r = 3 then some ([0, 1, 2, 3, 4, 5, 6, 7, 8, 9, 10, 11, 12, 13, 14, 15], [(0, true), (1, true), (3, true), (4, true), (2, false), (5, false), (6, true), (7, true)]) else none, fun r => if r = 1 then some (false, [0]) else if r = 3 then some (false, [0]) else if r = 4 then some (false, [4, 5]) else if r = 5 then some (false, [4, 5, 6]) else none, fun _ => []⟩
def S92 : SCode :=
  (.seq (.ops [⟨none, (some 2), .mv 2 (.k (Value.int .u8 0)), false⟩,
    ⟨none, (some 3), .mv 3 (.k (Value.bool false)), false⟩])
  (.seq (.seq (.seq (.keep [0]) (.ops [⟨none, (some 7), .mv 7 (.s 0), false⟩,
    ⟨none, (some 8), .lens 8 (.s 7), false⟩,
    ⟨none, (some 9), .bin 9 .lss (.s 8) (.k (Value.int .i64 2)), false⟩]))
  (.cond (.s 9) (.seq (.ops [⟨none, (some 2), .mv 2 (.k (Value.int .u8 0)), false⟩,
    ⟨none, (some 3), .mv 3 (.k (Value.bool false)), false⟩])
  .ret) .skip))
  (.seq (.seq (.keep [0]) (.dr [0, 1, 2, 3, 4, 5, 6, 7, 8, 9, 10, 11, 12, 13, 14, 15] [(0, true, ⟨none, (some 10), .mv 10 (.s 0), false⟩),
    (1, true, ⟨none, (some 11), .ixs 11 (.s 10) (.k (Value.int .i64 0)), false⟩),
    (3, true, ⟨none, (some 13), .mv 13 (.s 0), false⟩),
    (4, true, ⟨none, (some 14), .ixs 14 (.s 13) (.k (Value.int .i64 1)), false⟩),
    (2, false, ⟨none, (some 12), .call (some 12) 135 false [(.k (Value.string ⟨#[48, 49, 50, 51, 52, 53, 54, 55, 56, 57, 97, 98, 99, 100, 101, 102]⟩)), (.s 11)], false⟩),
    (5, false, ⟨none, (some 15), .call (some 15) 135 false [(.k (Value.string ⟨#[48, 49, 50, 51, 52, 53, 54, 55, 56, 57, 97, 98, 99, 100, 101, 102]⟩)), (.s 14)], false⟩),
    (6, true, ⟨none, (some 4), .mv 4 (.s 12), false⟩),
    (7, true, ⟨none, (some 5), .mv 5 (.s 15), false⟩)]))
  (.seq (.seq (.keep [4, 5]) (.ops [⟨none, (some 16), .mv 16 (.s 4), false⟩,
    ⟨none, (some 17), .bin 17 .shl (.s 16) (.k (Value.int .u64 4)), false⟩,
    ⟨none, (some 18), .mv 18 (.s 5), false⟩,
    ⟨none, (some 19), .bin 19 .or (.s 17) (.s 18), false⟩,
    ⟨none, (some 20), .cvi 20 .u8 (.s 19), false⟩,
    ⟨none, (some 6), .mv 6 (.s 20), false⟩]))
  (.seq (.seq (.keep [4, 5, 6]) (.ops [⟨none, (some 21), .mv 21 (.s 6), false⟩,
    ⟨none, (some 22), .mv 22 (.s 4), false⟩,
    ⟨none, (some 23), .bin 23 .geq (.s 22) (.k (Value.int .i64 0)), false⟩,
    ⟨none, (some 24), .mv 24 (.s 23), false⟩,
    ⟨(some (24, true)), (some 25), .mv 25 (.s 5), false⟩,
    ⟨(some (24, true)), (some 26), .bin 26 .geq (.s 25) (.k (Value.int .i64 0)), false⟩,
    ⟨none, (some 27), .pk 27 (.s 24) (.s 26) (.k (Value.bool false)), false⟩,
    ⟨none, (some 28), .mv 28 (.s 27), false⟩,
    ⟨(some (28, true)), (some 29), .mv 29 (.s 6), false⟩,
    ⟨(some (28, true)), (some 30), .call (some 30) 89 true [(.s 29)], true⟩,
    ⟨(some (28, true)), (some 31), .not 31 (.s 30), false⟩,
    ⟨none, (some 32), .pk 32 (.s 28) (.s 31) (.k (Value.bool false)), false⟩,
    ⟨none, (some 2), .mv 2 (.s 21), false⟩,
    ⟨none, (some 3), .mv 3 (.s 32), false⟩]))
  .ret)))))
theorem cc92 : (Tryd.f92.body).bind (cc Tryd.prog Tryd.f92.ntmps A92) = some S92 := by kernel_rfl
def R92 : List RR := [.sl 2, .sl 3]
theorem cr92 : Tryd.f92.results.toList.map (crr Tryd.prog) = R92.map some := by kernel_rfl
theorem nm92 : (Tryd.f92.name == "runtime.NumGoroutine") = false := by kernel_rfl
theorem fn92 : Tryd.prog.funcs[92]? = some Tryd.f92 := by kernel_rfl
theorem bd92 : ∃ b, Tryd.f92.body = some b ∧ cc Tryd.prog Tryd.f92.ntmps A92 b = some S92 := Option.bind_eq_some_iff.1 cc92
theorem sd92 {G : World → Prop} {T : FuncId → Contract} {C : Contract} (hT : ∀ f, Sound G Tryd.prog f (T f)) (hl : C.lawful) (hC : ∀ args st K, C.wp args st K → args.length ≤ 33 ∧ ∃ os op, xv T st.n S92 (st0 args st) (retK R92 st.n os K) (panK st.n op K)) : Sound G Tryd.prog 92 C := by
  obtain ⟨b, hb, hc⟩ := bd92
  rw [xv_eq] at hC
  exact sound_of_ev mo fn92 hb nm92 hc cr92 hT hl hC

/-! 104: redline/redlineref01.plain -/
def A104 : Ann := ⟨fun _ _ => 0, fun _ => none, fun r => if r = 1 then some (false, [0]) else none, fun _ => []⟩
def S104 : SCode :=
  (.seq (.ops [⟨none, (some 2), .mv 2 (.k (Value.bool false)), false⟩])
  (.seq (.seq (.keep [0]) (.ops [⟨none, (some 3), .mv 3 (.s 0), false⟩,
    ⟨none, (some 4), .bin 4 .geq (.s 3) (.k (Value.int .u8 32)), false⟩,
    ⟨none, (some 5), .mv 5 (.s 4), false⟩,
    ⟨(some (5, true)), (some 6), .mv 6 (.s 0), false⟩,
    ⟨(some (5, true)), (some 7), .bin 7 .leq (.s 6) (.k (Value.int .u8 126)), false⟩,
    ⟨none, (some 8), .pk 8 (.s 5) (.s 7) (.k (Value.bool false)), false⟩,
    ⟨none, (some 9), .mv 9 (.s 8), false⟩,
    ⟨(some (9, true)), (some 10), .mv 10 (.s 0), false⟩,
    ⟨(some (9, true)), (some 11), .bin 11 .neq (.s 10) (.k (Value.int .u8 34)), false⟩,
    ⟨none, (some 12), .pk 12 (.s 9) (.s 11) (.k (Value.bool false)), true⟩,
    ⟨none, (some 13), .mv 13 (.s 12), false⟩,
    ⟨(some (13, true)), (some 14), .mv 14 (.s 0), false⟩,
    ⟨(some (13, true)), (some 15), .bin 15 .neq (.s 14) (.k (Value.int .u8 92)), false⟩,
    ⟨none, (some 16), .pk 16 (.s 13) (.s 15) (.k (Value.bool false)), false⟩,
    ⟨none, (some 2), .mv 2 (.s 16), false⟩]))
  .ret))
theorem cc104 : (Tryd.f104.body).bind (cc Tryd.prog Tryd.f104.ntmps A104) = some S104 := by kernel_rfl
def R104 : List RR := [.sl 2]
theorem cr104 : Tryd.f104.results.toList.map (crr Tryd.prog) = R104.map some := by kernel_rfl
theorem nm104 : (Tryd.f104.name == "runtime.NumGoroutine") = false := by kernel_rfl
theorem fn104 : Tryd.prog.funcs[104]? = some Tryd.f104 := by kernel_rfl
theorem bd104 : ∃ b, Tryd.f104.body = some b ∧ cc Tryd.prog Tryd.f104.ntmps A104 b = some S104 := Option.bind_eq_some_iff.1 cc104
theorem sd104 {G : World → Prop} {T : FuncId → Contract} {C : Contract} (hT : ∀ f, Sound G Tryd.prog f (T f)) (hl : C.lawful) (hC : ∀ args st K, C.wp args st K → args.length ≤ 17 ∧ ∃ os op, xv T st.n S104 (st0 args st) (retK R104 st.n os K) (panK st.n op K)) : Sound G Tryd.prog 104 C := by
  obtain ⟨b, hb, hc⟩ := bd104
  rw [xv_eq] at hC
  exact sound_of_ev mo fn104 hb nm104 hc cr104 hT hl hC

/-! 105: redline/redlineref01.digit -/
def A105 : Ann := ⟨fun _ _ => 0, fun _ => none, fun r => if r = 3 then some (false, [0, 3]) else if r = 4 then some (false, [0, 3]) else none, fun r => if r = 2 then [0, 3] else []⟩
def S105 : SCode :=
  (.seq (.ops [⟨none, (some 2), .mv 2 (.k (Value.int .i64 0)), false⟩])
  (.seq (.seq (.ops [⟨none, (some 3), .mv 3 (.k (Value.int .i64 0)), false⟩])
  (.block 0 (.loop [0, 3] (.seq (.seq (.ops [⟨none, (some 4), .mv 4 (.s 3), false⟩,
    ⟨none, (some 5), .bin 5 .lss (.s 4) (.k (Value.int .i64 16)), false⟩])
  (.cond (.s 5) .skip (.exit 0)))
  (.seq (.block 1 (.seq (.seq (.keep [0, 3]) (.ops [⟨none, (some 8), .mv 8 (.s 3), false⟩,
    ⟨none, (some 9), .ixs 9 (.k (Value.string ⟨#[48, 49, 50, 51, 52, 53, 54, 55, 56, 57, 97, 98, 99, 100, 101, 102]⟩)) (.s 8), false⟩,
    ⟨none, (some 10), .mv 10 (.s 0), false⟩,
    ⟨none, (some 11), .bin 11 .eql (.s 9) (.s 10), false⟩]))
  (.cond (.s 11) (.seq (.ops [⟨none, (some 12), .mv 12 (.s 3), false⟩,
    ⟨none, (some 2), .mv 2 (.s 12), false⟩])
  .ret) .skip)))
  (.seq (.keep [0, 3]) (.ops [⟨none, (some 6), .mv 6 (.s 3), false⟩,
    ⟨none, (some 7), .binc 7 .add (.s 6) (.k (Value.int .i64 1)), false⟩,
    ⟨none, (some 3), .mv 3 (.s 7), false⟩])))))))
  (.seq (.ops [⟨none, (some 2), .mv 2 (.k (Value.int .i64 (-1))), false⟩])
  .ret)))
theorem cc105 : (Tryd.f105.body).bind (cc Tryd.prog Tryd.f105.ntmps A105) = some S105 := by kernel_rfl
def R105 : List RR := [.sl 2]
theorem cr105 : Tryd.f105.results.toList.map (crr Tryd.prog) = R105.map some := by kernel_rfl
theorem nm105 : (Tryd.f105.name == "runtime.NumGoroutine") = false := by kernel_rfl
theorem fn105 : Tryd.prog.funcs[105]? = some Tryd.f105 := by kernel_rfl
theorem bd105 : ∃ b, Tryd.f105.body = some b ∧ cc Tryd.prog Tryd.f105.ntmps A105 b = some S105 := Option.bind_eq_some_iff.1 cc105
theorem sd105 {G : World → Prop} {T : FuncId → Contract} {C : Contract} (hT : ∀ f, Sound G Tryd.prog f (T f)) (hl : C.lawful) (hC : ∀ args st K, C.wp args st K → args.length ≤ 13 ∧ ∃ os op, xv T st.n S105 (st0 args st) (retK R105 st.n os K) (panK st.n op K)) : Sound G Tryd.prog 105 C := by
  obtain ⟨b, hb, hc⟩ := bd105
  rw [xv_eq] at hC
  exact sound_of_ev mo fn105 hb nm105 hc cr105 hT hl hC

/-! 88: (*strings.Builder).WriteByte -/
def A88 : Ann := ⟨fun _ _ => 0, fun _ => none, fun r => if r = 2 then some (false, [0, 1]) else none, fun _ => []⟩
def S88 : SCode :=
  (.seq (.ops [⟨none, (some 4), .mv 4 (.k Value.nilIface), false⟩])
  (.seq (.ops [⟨none, (some 5), .mv 5 (.s 0), false⟩,
    ⟨none, (some 6), .call (some 6) 94 false [(.s 5)], false⟩])
  (.seq (.seq (.keep [0, 1]) (.ops [⟨none, (some 7), .mv 7 (.s 0), false⟩,
    ⟨none, (some 8), .mv 8 (.s 0), false⟩,
    ⟨none, (some 9), .nc 9 (.s 8), false⟩,
    ⟨none, (some 10), .fa 10 1 (.s 9), false⟩,
    ⟨none, (some 11), .ld 11 false 1 (.s 10), false⟩,
    ⟨none, (some 12), .mv 12 (.s 1), false⟩,
    ⟨none, (some 13), .bs 13 5 1 [(.s 12)], false⟩,
    ⟨none, (some 14), .ap 14 5 1 1 (.s 11) (.s 13), false⟩,
    ⟨none, (some 15), .nc 15 (.s 7), false⟩,
    ⟨none, (some 16), .fa 16 1 (.s 15), true⟩,
    ⟨none, none, .st false 1 (.s 16) (.s 14), false⟩]))
  (.seq (.ops [⟨none, (some 4), .mv 4 (.k Value.nilIface), false⟩])
  .ret))))
theorem cc88 : (Tryd.f88.body).bind (cc Tryd.prog Tryd.f88.ntmps A88) = some S88 := by kernel_rfl
def R88 : List RR := [.sl 4]
theorem cr88 : Tryd.f88.results.toList.map (crr Tryd.prog) = R88.map some := by kernel_rfl
theorem nm88 : (Tryd.f88.name == "runtime.NumGoroutine") = false := by kernel_rfl
theorem fn88 : Tryd.prog.funcs[88]? = some Tryd.f88 := by kernel_rfl
theorem bd88 : ∃ b, Tryd.f88.body = some b ∧ cc Tryd.prog Tryd.f88.ntmps A88 b = some S88 := Option.bind_eq_some_iff.1 cc88
theorem sd88 {G : World → Prop} {T : FuncId → Contract} {C : Contract} (hT : ∀ f, Sound G Tryd.prog f (T f)) (hl : C.lawful) (hC : ∀ args st K, C.wp args st K → args.length ≤ 17 ∧ ∃ os op, xv T st.n S88 (st0 args st) (retK R88 st.n os K) (panK st.n op K)) : Sound G Tryd.prog 88 C := by
  obtain ⟨b, hb, hc⟩ := bd88
  rw [xv_eq] at hC
  exact sound_of_ev mo fn88 hb nm88 hc cr88 hT hl hC

/-! 90: (*strings.Builder).Write -/
def A90 : Ann := ⟨fun _ _ => 0, fun _ => none, fun r => if r = 2 then some (false, [0, 1]) else if r = 3 then some (false, [1]) else none, fun _ => []⟩
def S90 : SCode :=
  (.seq (.ops [⟨none, (some 4), .mv 4 (.k (Value.int .i64 0)), false⟩,
    ⟨none, (some 5), .mv 5 (.k Value.nilIface), false⟩])
  (.seq (.ops [⟨none, (some 6), .mv 6 (.s 0), false⟩,
    ⟨none, (some 7), .call (some 7) 94 false [(.s 6)], false⟩])
  (.seq (.seq (.keep [0, 1]) (.ops [⟨none, (some 8), .mv 8 (.s 0), false⟩,
    ⟨none, (some 9), .mv 9 (.s 0), false⟩,
    ⟨none, (some 10), .nc 10 (.s 9), false⟩,
    ⟨none, (some 11), .fa 11 1 (.s 10), false⟩,
    ⟨none, (some 12), .ld 12 false 1 (.s 11), false⟩,
    ⟨none, (some 13), .mv 13 (.s 1), false⟩,
    ⟨none, (some 14), .ap 14 5 1 1 (.s 12) (.s 13), false⟩,
    ⟨none, (some 15), .nc 15 (.s 8), false⟩,
    ⟨none, (some 16), .fa 16 1 (.s 15), false⟩,
    ⟨none, none, .st false 1 (.s 16) (.s 14), true⟩]))
  (.seq (.seq (.keep [1]) (.ops [⟨none, (some 17), .mv 17 (.s 1), false⟩,
    ⟨none, (some 18), .len 18 (.s 17), false⟩,
    ⟨none, (some 4), .mv 4 (.s 18), false⟩,
    ⟨none, (some 5), .mv 5 (.k Value.nilIface), false⟩]))
  .ret))))
theorem cc90 : (Tryd.f90.body).bind (cc Tryd.prog Tryd.f90.ntmps A90) = some S90 := by kernel_rfl
def R90 : List RR := [.sl 4, .sl 5]
theorem cr90 : Tryd.f90.results.toList.map (crr Tryd.prog) = R90.map some := by kernel_rfl
theorem nm90 : (Tryd.f90.name == "runtime.NumGoroutine") = false := by kernel_rfl
theorem fn90 : Tryd.prog.funcs[90]? = some Tryd.f90 := by kernel_rfl
theorem bd90 : ∃ b, Tryd.f90.body = some b ∧ cc Tryd.prog Tryd.f90.ntmps A90 b = some S90 := Option.bind_eq_some_iff.1 cc90
theorem sd90 {G : World → Prop} {T : FuncId → Contract} {C : Contract} (hT : ∀ f, Sound G Tryd.prog f (T f)) (hl : C.lawful) (hC : ∀ args st K, C.wp args st K → args.length ≤ 19 ∧ ∃ os op, xv T st.n S90 (st0 args st) (retK R90 st.n os K) (panK st.n op K)) : Sound G Tryd.prog 90 C := by
  obtain ⟨b, hb, hc⟩ := bd90
  rw [xv_eq] at hC
  exact sound_of_ev mo fn90 hb nm90 hc cr90 hT hl hC

/-! 162: strings.HasPrefix -/
def A162 : Ann := ⟨fun _ _ => 0, fun _ => none, fun r => if r = 1 then some (false, [0, 1]) else none, fun _ => []⟩
def S162 : SCode :=
  (.seq (.ops [⟨none, (some 4), .mv 4 (.k (Value.bool false)), false⟩])
  (.seq (.seq (.keep [0, 1]) (.ops [⟨none, (some 5), .mv 5 (.s 0), false⟩,
    ⟨none, (some 6), .mv 6 (.s 1), false⟩,
    ⟨none, (some 7), .call (some 7) 167 false [(.s 5), (.s 6)], false⟩,
    ⟨none, (some 4), .mv 4 (.s 7), false⟩]))
  .ret))
theorem cc162 : (Tryd.f162.body).bind (cc Tryd.prog Tryd.f162.ntmps A162) = some S162 := by kernel_rfl
def R162 : List RR := [.sl 4]
theorem cr162 : Tryd.f162.results.toList.map (crr Tryd.prog) = R162.map some := by kernel_rfl
theorem nm162 : (Tryd.f162.name == "runtime.NumGoroutine") = false := by kernel_rfl
theorem fn162 : Tryd.prog.funcs[162]? = some Tryd.f162 := by kernel_rfl
theorem bd162 : ∃ b, Tryd.f162.body = some b ∧ cc Tryd.prog Tryd.f162.ntmps A162 b = some S162 := Option.bind_eq_some_iff.1 cc162
theorem sd162 {G : World → Prop} {T : FuncId → Contract} {C : Contract} (hT : ∀ f, Sound G Tryd.prog f (T f)) (hl : C.lawful) (hC : ∀ args st K, C.wp args st K → args.length ≤ 8 ∧ ∃ os op, xv T st.n S162 (st0 args st) (retK R162 st.n os K) (panK st.n op K)) : Sound G Tryd.prog 162 C := by
  obtain ⟨b, hb, hc⟩ := bd162
  rw [xv_eq] at hC
  exact sound_of_ev mo fn162 hb nm162 hc cr162 hT hl hC

/-! 134: internal/stringslite.CutPrefix -/
def A134 : Ann := ⟨fun _ _ => 0, fun _ => none, fun r => if r = 1 then some (false, [0, 1]) else if r = 2 then some (false, [0]) else if r = 3 then some (false, [0, 1]) else none, fun _ => []⟩
def S134 : SCode :=
  (.seq (.ops [⟨none, (some 4), .mv 4 (.k (Value.string ⟨#[]⟩)), false⟩,
    ⟨none, (some 5), .mv 5 (.k (Value.bool false)), false⟩])
  (.seq (.seq (.seq (.keep [0, 1]) (.ops [⟨none, (some 6), .mv 6 (.s 0), false⟩,
    ⟨none, (some 7), .mv 7 (.s 1), false⟩,
    ⟨none, (some 8), .call (some 8) 167 false [(.s 6), (.s 7)], false⟩,
    ⟨none, (some 9), .not 9 (.s 8), false⟩]))
  (.cond (.s 9) (.seq (.seq (.keep [0]) (.ops [⟨none, (some 10), .mv 10 (.s 0), false⟩,
    ⟨none, (some 4), .mv 4 (.s 10), false⟩,
    ⟨none, (some 5), .mv 5 (.k (Value.bool false)), false⟩]))
  .ret) .skip))
  (.seq (.seq (.keep [0, 1]) (.ops [⟨none, (some 11), .mv 11 (.s 0), false⟩,
    ⟨none, (some 12), .mv 12 (.s 1), false⟩,
    ⟨none, (some 13), .lens 13 (.s 12), false⟩,
    ⟨none, (some 14), .sls 14 (.s 11) (some (.s 13)) none, false⟩,
    ⟨none, (some 4), .mv 4 (.s 14), false⟩,
    ⟨none, (some 5), .mv 5 (.k (Value.bool true)), false⟩]))
  .ret)))
theorem cc134 : (Tryd.f134.body).bind (cc Tryd.prog Tryd.f134.ntmps A134) = some S134 := by kernel_rfl
def R134 : List RR := [.sl 4, .sl 5]
theorem cr134 : Tryd.f134.results.toList.map (crr Tryd.prog) = R134.map some := by kernel_rfl
theorem nm134 : (Tryd.f134.name == "runtime.NumGoroutine") = false := by kernel_rfl
theorem fn134 : Tryd.prog.funcs[134]? = some Tryd.f134 := by kernel_rfl
theorem bd134 : ∃ b, Tryd.f134.body = some b ∧ cc Tryd.prog Tryd.f134.ntmps A134 b = some S134 := Option.bind_eq_some_iff.1 cc134
theorem sd134 {G : World → Prop} {T : FuncId → Contract} {C : Contract} (hT : ∀ f, Sound G Tryd.prog f (T f)) (hl : C.lawful) (hC : ∀ args st K, C.wp args st K → args.length ≤ 15 ∧ ∃ os op, xv T st.n S134 (st0 args st) (retK R134 st.n os K) (panK st.n op K)) : Sound G Tryd.prog 134 C := by
  obtain ⟨b, hb, hc⟩ := bd134
  rw [xv_eq] at hC
  exact sound_of_ev mo fn134 hb nm134 hc cr134 hT hl hC

/-! 135: strings.IndexByte -/
def A135 : Ann := ⟨fun _ _ => 0, fun _ => none, fun r => if r = 1 then some (false, [0, 1]) else none, fun _ => []⟩
def S135 : SCode :=
  (.seq (.ops [⟨none, (some 4), .mv 4 (.k (Value.int .i64 0)), false⟩])
  (.seq (.seq (.keep [0, 1]) (.ops [⟨none, (some 5), .mv 5 (.s 0), false⟩,
    ⟨none, (some 6), .mv 6 (.s 1), false⟩,
    ⟨none, (some 7), .call (some 7) 168 false [(.s 5), (.s 6)], false⟩,
    ⟨none, (some 4), .mv 4 (.s 7), false⟩]))
  .ret))
theorem cc135 : (Tryd.f135.body).bind (cc Tryd.prog Tryd.f135.ntmps A135) = some S135 := by kernel_rfl
def R135 : List RR := [.sl 4]
theorem cr135 : Tryd.f135.results.toList.map (crr Tryd.prog) = R135.map some := by kernel_rfl
theorem nm135 : (Tryd.f135.name == "runtime.NumGoroutine") = false := by kernel_rfl
theorem fn135 : Tryd.prog.funcs[135]? = some Tryd.f135 := by kernel_rfl
theorem bd135 : ∃ b, Tryd.f135.body = some b ∧ cc Tryd.prog Tryd.f135.ntmps A135 b = some S135 := Option.bind_eq_some_iff.1 cc135
theorem sd135 {G : World → Prop} {T : FuncId → Contract} {C : Contract} (hT : ∀ f, Sound G Tryd.prog f (T f)) (hl : C.lawful) (hC : ∀ args st K, C.wp args st K → args.length ≤ 8 ∧ ∃ os op, xv T st.n S135 (st0 args st) (retK R135 st.n os K) (panK st.n op K)) : Sound G Tryd.prog 135 C := by
  obtain ⟨b, hb, hc⟩ := bd135
  rw [xv_eq] at hC
  exact sound_of_ev mo fn135 hb nm135 hc cr135 hT hl hC

/-! 167: internal/stringslite.HasPrefix -/
def A167 : Ann := ⟨fun r i => if r = 1 ∧ i = 8 then 1 else 0, fun _ => none, fun r => if r = 1 then some (false, [0, 1]) else none, fun _ => []⟩
def S167 : SCode :=
  (.seq (.ops [⟨none, (some 4), .mv 4 (.k (Value.bool false)), false⟩])
  (.seq (.seq (.keep [0, 1]) (.ops [⟨none, (some 5), .mv 5 (.s 0), false⟩,
    ⟨none, (some 6), .lens 6 (.s 5), false⟩,
    ⟨none, (some 7), .mv 7 (.s 1), false⟩,
    ⟨none, (some 8), .lens 8 (.s 7), false⟩,
    ⟨none, (some 9), .bin 9 .geq (.s 6) (.s 8), false⟩,
    ⟨none, (some 10), .mv 10 (.s 9), false⟩,
    ⟨(some (10, true)), (some 11), .mv 11 (.s 0), false⟩,
    ⟨(some (10, true)), (some 12), .mv 12 (.s 1), false⟩,
    ⟨(some (10, true)), (some 13), .lens 13 (.s 12), false⟩,
    ⟨(some (10, true)), (some 14), .sls 14 (.s 11) none (some (.s 13)), true⟩,
    ⟨(some (10, true)), (some 15), .mv 15 (.s 1), false⟩,
    ⟨(some (10, true)), (some 16), .bin 16 .eql (.s 14) (.s 15), false⟩,
    ⟨none, (some 17), .pk 17 (.s 10) (.s 16) (.k (Value.bool false)), false⟩,
    ⟨none, (some 4), .mv 4 (.s 17), false⟩]))
  .ret))
theorem cc167 : (Tryd.f167.body).bind (cc Tryd.prog Tryd.f167.ntmps A167) = some S167 := by kernel_rfl
def R167 : List RR := [.sl 4]
theorem cr167 : Tryd.f167.results.toList.map (crr Tryd.prog) = R167.map some := by kernel_rfl
theorem nm167 : (Tryd.f167.name == "runtime.NumGoroutine") = false := by kernel_rfl
theorem fn167 : Tryd.prog.funcs[167]? = some Tryd.f167 := by kernel_rfl
theorem bd167 : ∃ b, Tryd.f167.body = some b ∧ cc Tryd.prog Tryd.f167.ntmps A167 b = some S167 := Option.bind_eq_some_iff.1 cc167
theorem sd167 {G : World → Prop} {T : FuncId → Contract} {C : Contract} (hT : ∀ f, Sound G Tryd.prog f (T f)) (hl : C.lawful) (hC : ∀ args st K, C.wp args st K → args.length ≤ 18 ∧ ∃ os op, xv T st.n S167 (st0 args st) (retK R167 st.n os K) (panK st.n op K)) : Sound G Tryd.prog 167 C := by
  obtain ⟨b, hb, hc⟩ := bd167
  rw [xv_eq] at hC
  exact sound_of_ev mo fn167 hb nm167 hc cr167 hT hl hC

end Go.Proofs.YtpbkdcfjlbdgfaaDoor
set_option linter.unusedVariables false
set_option linter.unusedSimpArgs false
namespace Go.Proofs.YtpbkdcfjlbdgfaaDoor
open Go Go.Ev
set_option maxHeartbeats 1000000 in
set_option maxRecDepth 100000 in
theorem calls168 (s : ByteArray) (c : Int) (w : World) :
    Calls Tryd.prog 168 #[.string s, .int .u8 c] w fun e w' => e = .returned (.int .i64 (Lib.indexByte s.data.toList c.toNat.toUInt8)) ∧ w' = w := by
  go_enter Tryd.func168, Tryd.ntmps168
  go_wp2
  rw [run_callFunc_extern Tryd.func189 (by kernel_rfl) (by kernel_rfl) (by kernel_rfl) (e := Extern.BytealgIndexByte.indexByte) (by kernel_rfl), Lib.run_indexByteString]
  simp only [Result.andThen]
  rw [Oper.upon_value]
  go_wp2
  go_ret
  exact ⟨rfl, rfl⟩
def C168 : Contract := pureC fun args => match args with
  | [.d (.v (.string s)), .d (.v (.int .u8 c))] => some (True, .d (.v (.int .i64 (Lib.indexByte s.data.toList c.toNat.toUInt8))))
  | _ => none
set_option maxRecDepth 100000 in
theorem hb168 : HasBody Tryd.prog 168 := ⟨Tryd.f168, by kernel_rfl, by kernel_rfl, by kernel_rfl⟩
set_option maxRecDepth 100000 in
theorem s168 {G : World → Prop} : Sound G Tryd.prog 168 C168 := by
  refine sound_calls hb168 fun args p x h hp => ?_
  split at h <;> simp only [Option.some.injEq, Prod.mk.injEq, reduceCtorEq] at h
  obtain ⟨rfl, rfl⟩ := h
  refine ⟨_, fun m n c => ⟨rfl, rfl⟩, fun m c vs hv w => ?_⟩
  match vs, hv with
  | [a, b], hv =>
    simp only [CnL, and_true] at hv
    rw [of_v hv.1, of_v hv.2]
    exact calls168 _ _ w
  | [], hv => simp [CnL] at hv
  | [_], hv => simp [CnL] at hv
  | _ :: _ :: _ :: _, hv => simp [CnL] at hv
end Go.Proofs.YtpbkdcfjlbdgfaaDoor
set_option linter.unusedVariables false
set_option linter.unusedSimpArgs false
namespace Go.Proofs.YtpbkdcfjlbdgfaaDoor
open Go Go.Ev
set_option maxRecDepth 100000
variable {G : World → Prop}
def plainB (c : Int) : Bool := decide (32 ≤ c) && decide (c ≤ 126) && !decide (c = 34) && !decide (c = 92)
def C89 : Contract := pureC fun args => match args with
  | [.d (.v (.int .u8 c))] => some (True, .d (.v (.bool (plainB c))))
  | _ => none
theorem s89 : Sound G Tryd.prog 89 C89 := by
  refine sd89 (T := tabT []) tab_nil (pureC_lawful _) (pure_hX fun args p x K h hp hk => ?_)
  split at h <;> simp only [Option.some.injEq, Prod.mk.injEq, reduceCtorEq] at h
  obtain ⟨rfl, rfl⟩ := h
  refine ⟨Nat.le_of_ble_eq_true rfl, ?_⟩
  simp -dsimp -implicitDefEqProofs only [S89, R89, ↓Ev.xStp_eq, ↓Ev.P, Ev.Q, eq_self, forall_eq_or_imp, implies_true, forall_const, forall_eq, ↓reduceIte, reduceIte, Nat.reduceEqDiff, Nat.reduceAdd, reduceCtorEq, Nat.reduceSub, Int.reduceToNat, Int.reduceLE, Int.reduceLT, Int.reduceNeg, Nat.reduceBEq, Nat.reduceMul, Nat.reduceLeDiff, Nat.reduceMod, UInt8.reduceOfNat, Nat.reduceLT, Int.reduceEq, Int.reduceAdd, Int.reduceSub, Int.reduceMul]
  exact hk
theorem s104 : Sound G Tryd.prog 104 C89 := by
  refine sd104 (T := tabT []) tab_nil (pureC_lawful _) (pure_hX fun args p x K h hp hk => ?_)
  split at h <;> simp only [Option.some.injEq, Prod.mk.injEq, reduceCtorEq] at h
  obtain ⟨rfl, rfl⟩ := h
  refine ⟨Nat.le_of_ble_eq_true rfl, ?_⟩
  simp -dsimp -implicitDefEqProofs only [S104, R104, ↓Ev.xStp_eq, ↓Ev.P, Ev.Q, eq_self, forall_eq_or_imp, implies_true, forall_const, forall_eq, ↓reduceIte, reduceIte, Nat.reduceEqDiff, Nat.reduceAdd, reduceCtorEq, Nat.reduceSub, Int.reduceToNat, Int.reduceLE, Int.reduceLT, Int.reduceNeg, Nat.reduceBEq, Nat.reduceMul, Nat.reduceLeDiff, Nat.reduceMod, UInt8.reduceOfNat, Nat.reduceLT, Int.reduceEq, Int.reduceAdd, Int.reduceSub, Int.reduceMul]
  exact hk
def hasPre (s p : ByteArray) : Bool := decide ((p.size : Int) ≤ (s.size : Int)) && decide (s.extract 0 p.size = p)
def C167 : Contract := pureC fun args => match args with
  | [.d (.v (.string s)), .d (.v (.string p))] => some (True, .d (.v (.bool (hasPre s p))))
  | _ => none
theorem s167 : Sound G Tryd.prog 167 C167 := by
  refine sd167 (T := tabT []) tab_nil (pureC_lawful _) (pure_hX fun args p x K h hp hk => ?_)
  split at h <;> simp only [Option.some.injEq, Prod.mk.injEq, reduceCtorEq] at h
  obtain ⟨rfl, rfl⟩ := h
  refine ⟨Nat.le_of_ble_eq_true rfl, ?_⟩
  simp -dsimp -implicitDefEqProofs only [S167, R167, ↓Ev.xStp_eq, ↓Ev.P, Ev.Q, eq_self, forall_eq_or_imp, implies_true, forall_const, forall_eq, ↓reduceIte, reduceIte, Nat.reduceEqDiff, Nat.reduceAdd, reduceCtorEq, Nat.reduceSub, Int.reduceToNat, Int.reduceLE, Int.reduceLT, Int.reduceNeg, Nat.reduceBEq, Nat.reduceMul, Nat.reduceLeDiff, Nat.reduceMod, UInt8.reduceOfNat, Nat.reduceLT, Int.reduceEq, Int.reduceAdd, Int.reduceSub, Int.reduceMul]
  exact ⟨fun h => by omega, hk⟩
theorem s162 : Sound G Tryd.prog 162 C167 := by
  refine sd162 (T := tabT [(167, C167)]) (tab_cons s167 tab_nil) (pureC_lawful _) (pure_hX fun args p x K h hp hk => ?_)
  split at h <;> simp only [Option.some.injEq, Prod.mk.injEq, reduceCtorEq] at h
  obtain ⟨rfl, rfl⟩ := h
  refine ⟨Nat.le_of_ble_eq_true rfl, ?_⟩
  simp -dsimp -implicitDefEqProofs only [S162, R162, C167, ↓Ev.xStp_eq, ↓Ev.P, Ev.Q, eq_self, forall_eq_or_imp, implies_true, forall_const, forall_eq, ↓reduceIte, reduceIte, Nat.reduceEqDiff, Nat.reduceAdd, reduceCtorEq, Nat.reduceSub, Int.reduceToNat, Int.reduceLE, Int.reduceLT, Int.reduceNeg, Nat.reduceBEq, Nat.reduceMul, Nat.reduceLeDiff, Nat.reduceMod, UInt8.reduceOfNat, Nat.reduceLT, Int.reduceEq, Int.reduceAdd, Int.reduceSub, Int.reduceMul]
  exact hk
def C134 : Contract := pureC fun args => match args with
  | [.d (.v (.string s)), .d (.v (.string p))] => some (True, .tup [.d (.v (.string (if hasPre s p then s.extract p.size s.size else s))), .d (.v (.bool (hasPre s p)))])
  | _ => none
theorem s134 : Sound G Tryd.prog 134 C134 := by
  refine sd134 (T := tabT [(167, C167)]) (tab_cons s167 tab_nil) (pureC_lawful _) (pure_hX fun args p x K h hp hk => ?_)
  split at h <;> simp only [Option.some.injEq, Prod.mk.injEq, reduceCtorEq] at h
  obtain ⟨rfl, rfl⟩ := h
  rename_i s q
  refine ⟨Nat.le_of_ble_eq_true rfl, ?_⟩
  simp -dsimp -implicitDefEqProofs only [S134, R134, C167, ↓Ev.xStp_eq, ↓Ev.P, Ev.Q, eq_self, forall_eq_or_imp, implies_true, forall_const, forall_eq, ↓reduceIte, reduceIte, Nat.reduceEqDiff, Nat.reduceAdd, reduceCtorEq, Nat.reduceSub, Int.reduceToNat, Int.reduceLE, Int.reduceLT, Int.reduceNeg, Nat.reduceBEq, Nat.reduceMul, Nat.reduceLeDiff, Nat.reduceMod, UInt8.reduceOfNat, Nat.reduceLT, Int.reduceEq, Int.reduceAdd, Int.reduceSub, Int.reduceMul]
  refine ⟨fun h => ?_, fun h => ?_⟩
  · have h' : hasPre s q = false := by simpa using h
    rw [h'] at hk; exact hk
  · have h' : hasPre s q = true := by simpa using h
    rw [h'] at hk
    have hs : ∀ s p, hasPre s p = true → p.size ≤ s.size := fun s p h => by simp only [hasPre, Bool.and_eq_true, decide_eq_true_eq] at h; omega
    have := hs _ _ h'
    exact ⟨by omega, hk⟩
theorem s91 : Sound G Tryd.prog 91 C134 := by
  refine sd91 (T := tabT [(134, C134)]) (tab_cons s134 tab_nil) (pureC_lawful _) (pure_hX fun args p x K h hp hk => ?_)
  split at h <;> simp only [Option.some.injEq, Prod.mk.injEq, reduceCtorEq] at h
  obtain ⟨rfl, rfl⟩ := h
  refine ⟨Nat.le_of_ble_eq_true rfl, ?_⟩
  simp -dsimp -implicitDefEqProofs only [S91, R91, C134, ↓Ev.xStp_eq, ↓Ev.P, Ev.Q, eq_self, forall_eq_or_imp, implies_true, forall_const, forall_eq, ↓reduceIte, reduceIte, Nat.reduceEqDiff, Nat.reduceAdd, reduceCtorEq, Nat.reduceSub, Int.reduceToNat, Int.reduceLE, Int.reduceLT, Int.reduceNeg, Nat.reduceBEq, Nat.reduceMul, Nat.reduceLeDiff, Nat.reduceMod, UInt8.reduceOfNat, Nat.reduceLT, Int.reduceEq, Int.reduceAdd, Int.reduceSub, Int.reduceMul]
  exact hk
end Go.Proofs.YtpbkdcfjlbdgfaaDoor
set_option linter.unusedVariables false
set_option linter.unusedSimpArgs false
namespace Go.Proofs.YtpbkdcfjlbdgfaaDoor
open Go Go.Ev
set_option maxRecDepth 100000
variable {G : World → Prop}
theorem s135 : Sound G Tryd.prog 135 C168 := by
  refine sd135 (T := tabT [(168, C168)]) (tab_cons s168 tab_nil) (pureC_lawful _) (pure_hX fun args p x K h hp hk => ?_)
  split at h <;> simp only [Option.some.injEq, Prod.mk.injEq, reduceCtorEq] at h
  obtain ⟨rfl, rfl⟩ := h
  refine ⟨Nat.le_of_ble_eq_true rfl, ?_⟩
  simp -dsimp -implicitDefEqProofs only [S135, R135, C168, ↓Ev.xStp_eq, ↓Ev.P, Ev.Q, eq_self, forall_eq_or_imp, implies_true, forall_const, forall_eq, ↓reduceIte, reduceIte, Nat.reduceEqDiff, Nat.reduceAdd, reduceCtorEq, Nat.reduceSub, Int.reduceToNat, Int.reduceLE, Int.reduceLT, Int.reduceNeg, Nat.reduceBEq, Nat.reduceMul, Nat.reduceLeDiff, Nat.reduceMod, UInt8.reduceOfNat, Nat.reduceLT, Int.reduceEq, Int.reduceAdd, Int.reduceSub, Int.reduceMul]
  exact hk
/-- A digit's place, or -1. -/
def hx (c : UInt8) : Int := Lib.indexByte [48, 49, 50, 51, 52, 53, 54, 55, 56, 57, 97, 98, 99, 100, 101, 102] c
def octV (a b : UInt8) : Int := IntKind.u8.wrap (IntKind.i64.wrap ((BitVec.ofInt IntKind.i64.bits (IntKind.i64.wrap (hx a * 2 ^ min 4 IntKind.i64.bits)) ||| BitVec.ofInt IntKind.i64.bits (hx b)).toNat))
def okO (a b : UInt8) : Bool := decide (0 ≤ hx a) && decide (0 ≤ hx b) && !plainB (octV a b)
def oct2 : List UInt8 → Int × Bool
  | a :: b :: _ => (octV a b, okO a b)
  | _ => (0, false)
def C92 : Contract := pureC fun args => match args with
  | [.d (.v (.string s))] => some (True, .tup [.d (.v (.int .u8 (oct2 s.data.toList).1)), .d (.v (.bool (oct2 s.data.toList).2))])
  | _ => none
theorem s92 : Sound G Tryd.prog 92 C92 := by
  refine sd92 (T := tabT [(89, C89), (135, C168)]) (tab_cons s89 (tab_cons s135 tab_nil)) (pureC_lawful _) (pure_hX fun args p x K h hp hk => ?_)
  split at h <;> simp only [Option.some.injEq, Prod.mk.injEq, reduceCtorEq] at h
  obtain ⟨rfl, rfl⟩ := h
  refine ⟨Nat.le_of_ble_eq_true rfl, ?_⟩
  rename_i s
  obtain ⟨l, rfl⟩ := ex_str s
  simp only [sem_str] at hk
  match l, hk with
  | [], hk =>
    simp -dsimp -implicitDefEqProofs only [S92, R92, C168, C89, ↓Ev.xStp_eq, ↓Ev.P, Ev.Q, eq_self, forall_eq_or_imp, implies_true, forall_const, forall_eq, ↓reduceIte, reduceIte, Nat.reduceEqDiff, Nat.reduceAdd, reduceCtorEq, Nat.reduceSub, Int.reduceToNat, Int.reduceLE, Int.reduceLT, Int.reduceNeg, Nat.reduceBEq, Nat.reduceMul, Nat.reduceLeDiff, Nat.reduceMod, UInt8.reduceOfNat, Nat.reduceLT, Int.reduceEq, Int.reduceAdd, Int.reduceSub, Int.reduceMul]
    repeat' (first | refine And.intro ?_ ?_ | intro _)
    all_goals first | omega | exact hk
  | [a], hk =>
    simp -dsimp -implicitDefEqProofs only [S92, R92, C168, C89, ↓Ev.xStp_eq, ↓Ev.P, Ev.Q, eq_self, forall_eq_or_imp, implies_true, forall_const, forall_eq, ↓reduceIte, reduceIte, Nat.reduceEqDiff, Nat.reduceAdd, reduceCtorEq, Nat.reduceSub, Int.reduceToNat, Int.reduceLE, Int.reduceLT, Int.reduceNeg, Nat.reduceBEq, Nat.reduceMul, Nat.reduceLeDiff, Nat.reduceMod, UInt8.reduceOfNat, Nat.reduceLT, Int.reduceEq, Int.reduceAdd, Int.reduceSub, Int.reduceMul]
    repeat' (first | refine And.intro ?_ ?_ | intro _)
    all_goals first | omega | exact hk
  | a :: b :: r, hk =>
    simp -dsimp -implicitDefEqProofs only [S92, R92, C168, C89, ↓Ev.xStp_eq, ↓Ev.P, Ev.Q, eq_self, forall_eq_or_imp, implies_true, forall_const, forall_eq, ↓reduceIte, reduceIte, Nat.reduceEqDiff, Nat.reduceAdd, reduceCtorEq, Nat.reduceSub, Int.reduceToNat, Int.reduceLE, Int.reduceLT, Int.reduceNeg, Nat.reduceBEq, Nat.reduceMul, Nat.reduceLeDiff, Nat.reduceMod, UInt8.reduceOfNat, Nat.reduceLT, Int.reduceEq, Int.reduceAdd, Int.reduceSub, Int.reduceMul]
    repeat' (first | refine And.intro ?_ ?_ | intro _)
    all_goals first | omega | exact hk
/-- The bytes of a quoted text from behind its first mark, and what is behind it. -/
def unq : List UInt8 → List UInt8 → Option (List UInt8 × List UInt8)
  | [], _ => none
  | c :: r, out => if c = 34 then some (out, r) else if plainB c.toNat = true then unq r (out ++ [c]) else
    if c = 92 ∧ (oct2 r).2 = true then unq (r.drop 2) (out ++ [UInt8.ofNat (oct2 r).1.toNat]) else none
  termination_by l => l.length
  decreasing_by all_goals (simp; try omega)
def unqS : Option (List UInt8 × List UInt8) → SV
  | some (o, r) => .tup [.d (.v (str o)), .d (.v (str r)), .d (.v (.int .i64 0))]
  | none => .tup [.d (.v (str [])), .d (.v (str [])), .d (.v (.int .i64 3))]
def unqL : List UInt8 → Option (List UInt8 × List UInt8)
  | 34 :: r => unq r []
  | _ => none
def C40 : Contract := pureC fun args => match args with
  | [.d (.v (.string s))] => some (s.size ≤ 1099511627776, unqS (unqL s.data.toList))
  | _ => none
theorem pre34 (l : List UInt8) : hasPre ⟨l.toArray⟩ ⟨[34].toArray⟩ = (match l with | c :: _ => decide (c = 34) | [] => false) := by
  unfold hasPre
  simp only [sem_str]
  cases l with
  | nil => rfl
  | cons c r => simp; omega
theorem octV_byte (a b : UInt8) : ((UInt8.ofNat (octV a b).toNat).toNat : Int) = octV a b := by
  have : 0 ≤ octV a b ∧ octV a b < 256 := by
    unfold octV
    generalize IntKind.i64.wrap _ = z
    simp only [IntKind.wrap, IntKind.bits, IntKind.signed]
    simp
    omega
  simp
  omega
theorem u8_eq (d : UInt8) (n : Nat) (hn : n < 256) : ((d.toNat : Int) = n) ↔ d = UInt8.ofNat n := by
  constructor
  · intro h
    apply UInt8.toNat_inj.1
    rw [UInt8.toNat_ofNat']
    omega
  · rintro rfl
    rw [UInt8.toNat_ofNat']
    omega
theorem unq_end (m out : List UInt8) : unq (34 :: m) out = some (out, m) := by rw [unq]; simp
theorem unq_plain {d : UInt8} (m out : List UInt8) (h : d ≠ 34) (hp : plainB d.toNat = true) : unq (d :: m) out = unq m (out ++ [d]) := by rw [unq]; simp [h, hp]
theorem unq_oct (m out : List UInt8) (ho : (oct2 m).2 = true) : 2 ≤ m.length ∧ unq (92 :: m) out = unq (m.drop 2) (out ++ [UInt8.ofNat (oct2 m).1.toNat]) ∧ (((UInt8.ofNat (oct2 m).1.toNat).toNat : Int) = (oct2 m).1) := by
  match m, ho with
  | a :: b :: r, ho =>
    refine ⟨by simp, ?_, octV_byte a b⟩
    have hp : plainB (92 : UInt8).toNat = false := by decide
    rw [unq]
    simp only [hp]
    simp [ho]
  | [], ho => cases ho
  | [_], ho => cases ho
theorem unq_bad {d : UInt8} (m out : List UInt8) (h : d ≠ 34) (hp : plainB d.toNat = false) (hb : d = 92 → (oct2 m).2 = false) : unq (d :: m) out = none := by
  rw [unq]
  simp only [h, if_false, hp, Bool.false_eq_true]
  rw [if_neg]
  rintro ⟨h1, h2⟩
  rw [hb h1] at h2; cases h2
end Go.Proofs.YtpbkdcfjlbdgfaaDoor
set_option linter.unusedVariables false
set_option linter.unusedSimpArgs false
namespace Go.Proofs.YtpbkdcfjlbdgfaaDoor
open Go Go.Ev
set_option maxRecDepth 100000
variable {G : World → Prop}
theorem s40 : Sound G Tryd.prog 40 C40 := by
  refine sd40 (T := tabT [(91, C134), (89, C89), (92, C92)]) (tab_cons s91 (tab_cons s89 (tab_cons s92 tab_nil))) (pureC_lawful _) (pure_hX fun args p x K h hp hk => ?_)
  split at h <;> simp only [Option.some.injEq, Prod.mk.injEq, reduceCtorEq] at h
  obtain ⟨rfl, rfl⟩ := h
  refine ⟨Nat.le_of_ble_eq_true rfl, ?_⟩
  rename_i s
  obtain ⟨l, rfl⟩ := ex_str s
  simp only [sem_str] at hk hp
  have hpre := pre34 l
  have bad : unqL l = none → K (.ret (.tup [.d (.v (.string ⟨#[]⟩)), .d (.v (.string ⟨#[]⟩)), .d (.v (.int .i64 3))])) ⟨0, []⟩ := fun e => by rw [e] at hk; exact hk
  match l, hpre with
  | [], hpre =>
    simp -dsimp -implicitDefEqProofs only [S40, R40, C134, C89, C92, hpre, ↓Ev.xStp_eq, ↓Ev.P, Ev.Q, eq_self, forall_eq_or_imp, implies_true, forall_const, forall_eq, ↓reduceIte, reduceIte, Nat.reduceEqDiff, Nat.reduceAdd, reduceCtorEq, Nat.reduceSub, Int.reduceToNat, Int.reduceLE, Int.reduceLT, Int.reduceNeg, Nat.reduceBEq, Nat.reduceMul, Nat.reduceLeDiff, Nat.reduceMod, UInt8.reduceOfNat, Nat.reduceLT, Int.reduceEq, Int.reduceAdd, Int.reduceSub, Int.reduceMul]
    exact bad rfl
  | c :: r, hpre =>
    by_cases hc : c = 34
    case neg =>
      have hpre : hasPre ⟨(c :: r).toArray⟩ ⟨[34].toArray⟩ = false := by rw [hpre]; simp [hc]
      simp -dsimp -implicitDefEqProofs only [S40, R40, C134, C89, C92, hpre, ↓Ev.xStp_eq, ↓Ev.P, Ev.Q, eq_self, forall_eq_or_imp, implies_true, forall_const, forall_eq, ↓reduceIte, reduceIte, Nat.reduceEqDiff, Nat.reduceAdd, reduceCtorEq, Nat.reduceSub, Int.reduceToNat, Int.reduceLE, Int.reduceLT, Int.reduceNeg, Nat.reduceBEq, Nat.reduceMul, Nat.reduceLeDiff, Nat.reduceMod, UInt8.reduceOfNat, Nat.reduceLT, Int.reduceEq, Int.reduceAdd, Int.reduceSub, Int.reduceMul]
      refine bad ?_
      unfold unqL
      split
      · simp_all
      · rfl
    subst hc
    have hpre : hasPre ⟨((34 : UInt8) :: r).toArray⟩ ⟨[34].toArray⟩ = true := by rw [hpre]; simp
    simp -dsimp -implicitDefEqProofs only [S40, R40, C134, C89, C92, hpre, ↓Ev.xStp_eq, ↓Ev.P, Ev.Q, eq_self, forall_eq_or_imp, implies_true, forall_const, forall_eq, ↓reduceIte, reduceIte, Nat.reduceEqDiff, Nat.reduceAdd, reduceCtorEq, Nat.reduceSub, Int.reduceToNat, Int.reduceLE, Int.reduceLT, Int.reduceNeg, Nat.reduceBEq, Nat.reduceMul, Nat.reduceLeDiff, Nat.reduceMod, UInt8.reduceOfNat, Nat.reduceLT, Int.reduceEq, Int.reduceAdd, Int.reduceSub, Int.reduceMul]
    have good : ∀ o m, unq r [] = some (o, m) → K (.ret (.tup [.d (.v (.string ⟨o.toArray⟩)), .d (.v (.string ⟨m.toArray⟩)), .d (.v (.int .i64 0))])) ⟨0, []⟩ := fun o m e => by
      rw [unqL, e] at hk; exact hk
    have hr : r.length ≤ 1099511627776 := by simp only [List.length_cons] at hp; omega
    refine xLoop_intro (fun n st => ∃ (l out : List UInt8), n = l.length ∧ l.length + out.length ≤ r.length ∧ unq l out = unq r [] ∧
      st = ⟨[(5, .d (.v (.string ⟨l.toArray⟩))), (7, .own 0)], 1, [(0, .row 5 1 (byteRows out))]⟩) r.length [0] ?_ ?_ ?_
    · simp -dsimp -implicitDefEqProofs only [↓Ev.xStp_eq, ↓Ev.P, Ev.Q, eq_self, forall_eq_or_imp, implies_true, forall_const, forall_eq, ↓reduceIte, reduceIte, Nat.reduceEqDiff, Nat.reduceAdd, reduceCtorEq, Nat.reduceSub, Int.reduceToNat, Int.reduceLE, Int.reduceLT, Int.reduceNeg, Nat.reduceBEq, Nat.reduceMul, Nat.reduceLeDiff, Nat.reduceMod, UInt8.reduceOfNat, Nat.reduceLT, Int.reduceEq, Int.reduceAdd, Int.reduceSub, Int.reduceMul]
    · simp -dsimp -implicitDefEqProofs only [↓Ev.xStp_eq, ↓Ev.P, Ev.Q, eq_self, forall_eq_or_imp, implies_true, forall_const, forall_eq, ↓reduceIte, reduceIte, Nat.reduceEqDiff, Nat.reduceAdd, reduceCtorEq, Nat.reduceSub, Int.reduceToNat, Int.reduceLE, Int.reduceLT, Int.reduceNeg, Nat.reduceBEq, Nat.reduceMul, Nat.reduceLeDiff, Nat.reduceMod, UInt8.reduceOfNat, Nat.reduceLT, Int.reduceEq, Int.reduceAdd, Int.reduceSub, Int.reduceMul]
      exact ⟨r, [], rfl, by simp, rfl, rfl⟩
    · rintro n st ⟨l, out, hn, hlen, hu, rfl⟩
      cases l with
      | nil =>
        have hb := bad (by rw [unqL, ← hu, unq])
        simp -dsimp -implicitDefEqProofs only [↓Ev.xStp_eq, ↓Ev.P, Ev.Q, eq_self, forall_eq_or_imp, implies_true, forall_const, forall_eq, ↓reduceIte, reduceIte, Nat.reduceEqDiff, Nat.reduceAdd, reduceCtorEq, Nat.reduceSub, Int.reduceToNat, Int.reduceLE, Int.reduceLT, Int.reduceNeg, Nat.reduceBEq, Nat.reduceMul, Nat.reduceLeDiff, Nat.reduceMod, UInt8.reduceOfNat, Nat.reduceLT, Int.reduceEq, Int.reduceAdd, Int.reduceSub, Int.reduceMul]
        exact hb
      | cons d m =>
        have h34' : ((d.toNat : Int) = 34) ↔ d = 34 := u8_eq d 34 (by omega)
        have h92' : ((d.toNat : Int) = 92) ↔ d = 92 := u8_eq d 92 (by omega)
        simp only [List.length_cons] at hlen hn
        simp -dsimp -implicitDefEqProofs only [↓Ev.xStp_eq, ↓Ev.P, Ev.Q, eq_self, forall_eq_or_imp, implies_true, forall_const, forall_eq, ↓reduceIte, reduceIte, Nat.reduceEqDiff, Nat.reduceAdd, reduceCtorEq, Nat.reduceSub, Int.reduceToNat, Int.reduceLE, Int.reduceLT, Int.reduceNeg, Nat.reduceBEq, Nat.reduceMul, Nat.reduceLeDiff, Nat.reduceMod, UInt8.reduceOfNat, Nat.reduceLT, Int.reduceEq, Int.reduceAdd, Int.reduceSub, Int.reduceMul]
        repeat' (first | refine And.intro ?_ ?_ | intro _)
        all_goals try omega
        · rename_i h
          exact good _ _ (by rw [← hu, h34'.1 h, unq_end])
        · rename_i h hp
          refine xAgain_intro m.length [2] (by omega) (by simp -dsimp -implicitDefEqProofs only [↓Ev.xStp_eq, ↓Ev.P, Ev.Q, eq_self, forall_eq_or_imp, implies_true, forall_const, forall_eq, ↓reduceIte, reduceIte, Nat.reduceEqDiff, Nat.reduceAdd, reduceCtorEq, Nat.reduceSub, Int.reduceToNat, Int.reduceLE, Int.reduceLT, Int.reduceNeg, Nat.reduceBEq, Nat.reduceMul, Nat.reduceLeDiff, Nat.reduceMod, UInt8.reduceOfNat, Nat.reduceLT, Int.reduceEq, Int.reduceAdd, Int.reduceSub, Int.reduceMul]) ⟨m, out ++ [d], rfl, by simp; omega, by rw [← hu, unq_plain _ _ (fun e => h (h34'.2 e)) hp], ?_⟩
          simp -dsimp -implicitDefEqProofs only [↓Ev.xStp_eq, ↓Ev.P, Ev.Q, eq_self, forall_eq_or_imp, implies_true, forall_const, forall_eq, ↓reduceIte, reduceIte, Nat.reduceEqDiff, Nat.reduceAdd, reduceCtorEq, Nat.reduceSub, Int.reduceToNat, Int.reduceLE, Int.reduceLT, Int.reduceNeg, Nat.reduceBEq, Nat.reduceMul, Nat.reduceLeDiff, Nat.reduceMod, UInt8.reduceOfNat, Nat.reduceLT, Int.reduceEq, Int.reduceAdd, Int.reduceSub, Int.reduceMul]
          simp [byteRows]
        · rename_i h hp hb
          refine bad ?_
          rw [unqL, ← hu]
          refine unq_bad _ _ (fun e => h (h34'.2 e)) hp fun e => ?_
          rcases hb with hb | hb
          · exact absurd (h92'.2 e) hb
          · exact hb
        all_goals
          rename_i h hp hb
          obtain ⟨h1, h2⟩ := hb
          have := h92'.1 h1
          subst this
          obtain ⟨k1, k2, k3⟩ := unq_oct m out h2
        · omega
        · refine xAgain_intro (m.drop 2).length [2] (by simp; omega) (by simp -dsimp -implicitDefEqProofs only [↓Ev.xStp_eq, ↓Ev.P, Ev.Q, eq_self, forall_eq_or_imp, implies_true, forall_const, forall_eq, ↓reduceIte, reduceIte, Nat.reduceEqDiff, Nat.reduceAdd, reduceCtorEq, Nat.reduceSub, Int.reduceToNat, Int.reduceLE, Int.reduceLT, Int.reduceNeg, Nat.reduceBEq, Nat.reduceMul, Nat.reduceLeDiff, Nat.reduceMod, UInt8.reduceOfNat, Nat.reduceLT, Int.reduceEq, Int.reduceAdd, Int.reduceSub, Int.reduceMul]) ⟨m.drop 2, _, rfl, ?_, by rw [← hu, k2], ?_⟩
          · simp; omega
          · simp -dsimp -implicitDefEqProofs only [↓Ev.xStp_eq, ↓Ev.P, Ev.Q, eq_self, forall_eq_or_imp, implies_true, forall_const, forall_eq, ↓reduceIte, reduceIte, Nat.reduceEqDiff, Nat.reduceAdd, reduceCtorEq, Nat.reduceSub, Int.reduceToNat, Int.reduceLE, Int.reduceLT, Int.reduceNeg, Nat.reduceBEq, Nat.reduceMul, Nat.reduceLeDiff, Nat.reduceMod, UInt8.reduceOfNat, Nat.reduceLT, Int.reduceEq, Int.reduceAdd, Int.reduceSub, Int.reduceMul]
            simp only [byteRows, List.map_append, List.map_cons, List.map_nil, k3]
end Go.Proofs.YtpbkdcfjlbdgfaaDoor
set_option linter.unusedVariables false
set_option linter.unusedSimpArgs false
namespace Go.Proofs.YtpbkdcfjlbdgfaaDoor
open Go Go.Ev
set_option maxRecDepth 100000
variable {G : World → Prop}
theorem idx_hit : ∀ (l : List UInt8) (i : Nat) (d : UInt8), i < l.length → (∀ j, j < i → l.getD j 0 ≠ d) → l.getD i 0 = d → Lib.indexByte l d = i
  | [], i, d, h, _, _ => by simp at h
  | b :: l, 0, d, h, h1, h2 => by simp at h2; simp [Lib.indexByte, h2]
  | b :: l, i + 1, d, h, h1, h2 => by
    have h3 := h1 0 (by omega)
    simp only [List.getD_cons_zero] at h3
    have h4 := idx_hit l i d (by simpa using h) (fun j hj => by have := h1 (j + 1) (by omega); simpa using this) (by simpa using h2)
    simp only [Lib.indexByte, h4]
    simp [h3]
theorem idx_miss : ∀ (l : List UInt8) (d : UInt8), (∀ j, j < l.length → l.getD j 0 ≠ d) → Lib.indexByte l d = -1
  | [], d, _ => rfl
  | b :: l, d, h => by
    have h3 := h 0 (by simp)
    simp only [List.getD_cons_zero] at h3
    have h4 := idx_miss l d fun j hj => by have := h (j + 1) (by simp; omega); simpa using this
    simp only [Lib.indexByte, h4]
    simp [h3]
theorem u8_inj (a b : UInt8) : ((a.toNat : Int) = b.toNat) ↔ a = b := by
  constructor
  · intro h; exact UInt8.toNat_inj.1 (by omega)
  · rintro rfl; rfl
abbrev hexs : List UInt8 := [48, 49, 50, 51, 52, 53, 54, 55, 56, 57, 97, 98, 99, 100, 101, 102]
def C105 : Contract := pureC fun args => match args with
  | [.d (.v (.int .u8 c))] => some (∃ d : UInt8, c = d.toNat, .d (.v (.int .i64 (hx c.toNat.toUInt8))))
  | _ => none
theorem s105 : Sound G Tryd.prog 105 C105 := by
  refine sd105 (T := tabT []) tab_nil (pureC_lawful _) (pure_hX fun args p x K h hp hk => ?_)
  split at h <;> simp only [Option.some.injEq, Prod.mk.injEq, reduceCtorEq] at h
  rename_i c
  obtain ⟨rfl, rfl⟩ := h
  obtain ⟨d, rfl⟩ := hp
  simp only [Int.toNat_natCast, u8rt] at hk
  refine ⟨Nat.le_of_ble_eq_true rfl, ?_⟩
  simp -dsimp -implicitDefEqProofs only [S105, R105, ↓Ev.xStp_eq, ↓Ev.P, Ev.Q, eq_self, forall_eq_or_imp, implies_true, forall_const, forall_eq, ↓reduceIte, reduceIte, Nat.reduceEqDiff, Nat.reduceAdd, reduceCtorEq, Nat.reduceSub, Int.reduceToNat, Int.reduceLE, Int.reduceLT, Int.reduceNeg, Nat.reduceBEq, Nat.reduceMul, Nat.reduceLeDiff, Nat.reduceMod, UInt8.reduceOfNat, Nat.reduceLT, Int.reduceEq, Int.reduceAdd, Int.reduceSub, Int.reduceMul]
  refine xLoop_intro (fun n st => ∃ i : Nat, i ≤ 16 ∧ n = 16 - i ∧ st = ⟨[(0, .d (.v (.int .u8 d.toNat))), (3, .d (.v (.int .i64 i)))], 0, []⟩ ∧ ∀ j < i, hexs.getD j 0 ≠ d) 16 [] ?_ ?_ ?_
  · simp -dsimp -implicitDefEqProofs only [↓Ev.xStp_eq, ↓Ev.P, Ev.Q, eq_self, forall_eq_or_imp, implies_true, forall_const, forall_eq, ↓reduceIte, reduceIte, Nat.reduceEqDiff, Nat.reduceAdd, reduceCtorEq, Nat.reduceSub, Int.reduceToNat, Int.reduceLE, Int.reduceLT, Int.reduceNeg, Nat.reduceBEq, Nat.reduceMul, Nat.reduceLeDiff, Nat.reduceMod, UInt8.reduceOfNat, Nat.reduceLT, Int.reduceEq, Int.reduceAdd, Int.reduceSub, Int.reduceMul]
  · simp -dsimp -implicitDefEqProofs only [↓Ev.xStp_eq, ↓Ev.P, Ev.Q, eq_self, forall_eq_or_imp, implies_true, forall_const, forall_eq, ↓reduceIte, reduceIte, Nat.reduceEqDiff, Nat.reduceAdd, reduceCtorEq, Nat.reduceSub, Int.reduceToNat, Int.reduceLE, Int.reduceLT, Int.reduceNeg, Nat.reduceBEq, Nat.reduceMul, Nat.reduceLeDiff, Nat.reduceMod, UInt8.reduceOfNat, Nat.reduceLT, Int.reduceEq, Int.reduceAdd, Int.reduceSub, Int.reduceMul]
    exact ⟨0, by omega, rfl, rfl, fun j h => by omega⟩
  · rintro n st ⟨i, hi, rfl, rfl, hj⟩
    simp -dsimp -implicitDefEqProofs only [↓Ev.xStp_eq, ↓Ev.P, Ev.Q, eq_self, forall_eq_or_imp, implies_true, forall_const, forall_eq, ↓reduceIte, reduceIte, Nat.reduceEqDiff, Nat.reduceAdd, reduceCtorEq, Nat.reduceSub, Int.reduceToNat, Int.reduceLE, Int.reduceLT, Int.reduceNeg, Nat.reduceBEq, Nat.reduceMul, Nat.reduceLeDiff, Nat.reduceMod, UInt8.reduceOfNat, Nat.reduceLT, Int.reduceEq, Int.reduceAdd, Int.reduceSub, Int.reduceMul]
    repeat' (first | refine And.intro ?_ ?_ | intro _)
    all_goals try omega
    · rename_i h1 h2
      have := idx_hit hexs i d (by simp; omega) hj ((u8_inj _ _).1 h2)
      rw [show hx d = i from this] at hk
      exact hk
    · rename_i h1 h2
      refine xAgain_intro (16 - (i + 1)) [] (by omega) (by simp -dsimp -implicitDefEqProofs only [↓Ev.xStp_eq, ↓Ev.P, Ev.Q, eq_self, forall_eq_or_imp, implies_true, forall_const, forall_eq, ↓reduceIte, reduceIte, Nat.reduceEqDiff, Nat.reduceAdd, reduceCtorEq, Nat.reduceSub, Int.reduceToNat, Int.reduceLE, Int.reduceLT, Int.reduceNeg, Nat.reduceBEq, Nat.reduceMul, Nat.reduceLeDiff, Nat.reduceMod, UInt8.reduceOfNat, Nat.reduceLT, Int.reduceEq, Int.reduceAdd, Int.reduceSub, Int.reduceMul]) ⟨i + 1, by omega, rfl, ?_, ?_⟩
      · simp -dsimp -implicitDefEqProofs only [↓Ev.xStp_eq, ↓Ev.P, Ev.Q, eq_self, forall_eq_or_imp, implies_true, forall_const, forall_eq, ↓reduceIte, reduceIte, Nat.reduceEqDiff, Nat.reduceAdd, reduceCtorEq, Nat.reduceSub, Int.reduceToNat, Int.reduceLE, Int.reduceLT, Int.reduceNeg, Nat.reduceBEq, Nat.reduceMul, Nat.reduceLeDiff, Nat.reduceMod, UInt8.reduceOfNat, Nat.reduceLT, Int.reduceEq, Int.reduceAdd, Int.reduceSub, Int.reduceMul]
        rfl
      · intro j hj2
        by_cases e : j = i
        · subst e; exact fun e => h2 ((u8_inj _ _).2 e)
        · exact hj j (by omega)
    · rename_i h1
      have := idx_miss hexs d fun j hj2 => hj j (by simp at hj2; omega)
      rw [show hx d = -1 from this] at hk
      exact hk
end Go.Proofs.YtpbkdcfjlbdgfaaDoor
set_option linter.unusedVariables false
set_option linter.unusedSimpArgs false
namespace Go.Proofs.YtpbkdcfjlbdgfaaDoor
open Go Go.Ev
set_option maxRecDepth 100000
variable {G : World → Prop}
theorem hx_b (c : UInt8) : -1 ≤ hx c ∧ hx c < 16 := by
  refine ⟨Lib.indexByte_ge _ _, ?_⟩
  unfold hx
  have : ∀ l : List UInt8, Lib.indexByte l c < l.length := by
    intro l
    induction l with
    | nil => simp [Lib.indexByte]
    | cons b l ih =>
      simp only [Lib.indexByte, List.length_cons]
      have := Lib.indexByte_ge l c
      split
      · omega
      · split <;> omega
  exact this _
theorem oct_tab : ∀ a b : Fin 16, IntKind.u8.wrap (IntKind.i64.wrap ((BitVec.ofInt IntKind.i64.bits (IntKind.i64.wrap ((a.val : Int) * 2 ^ min 4 IntKind.i64.bits)) ||| BitVec.ofInt IntKind.i64.bits (b.val : Int)).toNat)) = IntKind.u8.wrap (16 * (a.val : Int) + (b.val : Int)) := by decide +kernel
theorem octV_eq (a b : UInt8) (ha : 0 ≤ hx a) (hb : 0 ≤ hx b) : octV a b = IntKind.u8.wrap (16 * hx a + hx b) := by
  have h1 := hx_b a
  have h2 := hx_b b
  have := oct_tab ⟨(hx a).toNat, by omega⟩ ⟨(hx b).toNat, by omega⟩
  have e1 : (((hx a).toNat : Nat) : Int) = hx a := by omega
  have e2 : (((hx b).toNat : Nat) : Int) = hx b := by omega
  simp only [e1, e2] at this
  exact this
theorem drop_cons (q : List UInt8) (i : Nat) (h : i < q.length) : q.drop i = q.getD i 0 :: q.drop (i + 1) := by
  rw [List.drop_eq_getElem_cons h]
  simp [List.getD_eq_getElem?_getD, List.getElem?_eq_getElem h]
/-- The value of two digits, as the reference reckons it. -/
def octR (a b : UInt8) : Int := IntKind.u8.wrap (16 * hx a + hx b)
theorem octR_eq (a b : UInt8) (ha : 0 ≤ hx a) (hb : 0 ≤ hx b) : octR a b = octV a b := (octV_eq a b ha hb).symm
def okR (q : List UInt8) (i : Nat) : Prop := ((((((q.getD i 0).toNat : Nat) : Int) = 92 ∧ (i : Int) + 2 < (q.length : Int)) ∧ 0 ≤ hx (q.getD (i + 1) 0)) ∧ 0 ≤ hx (q.getD (i + 2) 0)) ∧ plainB (octR (q.getD (i + 1) 0) (q.getD (i + 2) 0)) = false
section
variable {q out : List UInt8} {i : Nat} (hi : (i : Int) < (q.length : Int))
include hi
theorem at_end (hu : unq (q.drop i) out = unqL q) (h : ((q.getD i 0).toNat : Int) = 34) : unqL q = some (out, q.drop (i + 1)) := by
  rw [← hu, drop_cons q i (by omega), (u8_eq _ 34 (by omega)).1 h]
  exact unq_end _ _
theorem at_plain (hu : unq (q.drop i) out = unqL q) (h : ¬ ((q.getD i 0).toNat : Int) = 34) (hp : plainB (q.getD i 0).toNat = true) : unq (q.drop (i + 1)) (out ++ [q.getD i 0]) = unqL q := by
  rw [← hu, drop_cons q i (by omega), unq_plain _ _ (fun e => h ((u8_eq _ 34 (by omega)).2 e)) hp]
theorem oct2_at : oct2 (q.drop (i + 1)) = if (i : Int) + 2 < (q.length : Int) then (octV (q.getD (i + 1) 0) (q.getD (i + 2) 0), okO (q.getD (i + 1) 0) (q.getD (i + 2) 0)) else (0, false) := by
  by_cases h : (i : Int) + 2 < (q.length : Int)
  · rw [if_pos h, drop_cons q (i + 1) (by omega), drop_cons q (i + 1 + 1) (by omega)]
    rfl
  · rw [if_neg h]
    have : (q.drop (i + 1)).length ≤ 1 := by simp; omega
    match q.drop (i + 1), this with
    | [], _ => rfl
    | [_], _ => rfl
    | _ :: _ :: _, h => simp at h
theorem at_oct (hu : unq (q.drop i) out = unqL q) (h : ¬ ((q.getD i 0).toNat : Int) = 34) (hp : plainB (q.getD i 0).toNat = false) (hk : okR q i) :
    unq (q.drop (i + 3)) (out ++ [UInt8.ofNat (octR (q.getD (i + 1) 0) (q.getD (i + 2) 0)).toNat]) = unqL q ∧ ((UInt8.ofNat (octR (q.getD (i + 1) 0) (q.getD (i + 2) 0)).toNat).toNat : Int) = octR (q.getD (i + 1) 0) (q.getD (i + 2) 0) := by
  obtain ⟨⟨⟨⟨h1, h2⟩, h3⟩, h4⟩, h5⟩ := hk
  have ho := oct2_at hi
  rw [if_pos h2] at ho
  have he := octR_eq _ _ h3 h4
  have hok : (oct2 (q.drop (i + 1))).2 = true := by
    rw [ho]
    simp only [okO, Bool.and_eq_true, decide_eq_true_eq, Bool.not_eq_true']
    exact ⟨⟨h3, h4⟩, by rw [← he]; exact h5⟩
  obtain ⟨k1, k2, k3⟩ := unq_oct (q.drop (i + 1)) out hok
  rw [ho, List.drop_drop] at k2
  rw [ho] at k3
  rw [he]
  refine ⟨?_, k3⟩
  rw [← hu, drop_cons q i (by omega), (u8_eq _ 92 (by omega)).1 h1]
  exact k2.symm
theorem at_bad (hu : unq (q.drop i) out = unqL q) (h : ¬ ((q.getD i 0).toNat : Int) = 34) (hp : plainB (q.getD i 0).toNat = false) (hk : ¬ okR q i) : unqL q = none := by
  rw [← hu, drop_cons q i (by omega)]
  refine unq_bad _ _ (fun e => h ((u8_eq _ 34 (by omega)).2 e)) hp fun e => ?_
  rw [oct2_at hi]
  split
  · rename_i h2
    cases hc : okO (q.getD (i + 1) 0) (q.getD (i + 2) 0) with
    | false => rfl
    | true =>
      exfalso
      refine hk ?_
      simp only [okO, Bool.and_eq_true, decide_eq_true_eq, Bool.not_eq_true'] at hc
      exact ⟨⟨⟨⟨(u8_eq _ 92 (by omega)).2 e, h2⟩, hc.1.1⟩, hc.1.2⟩, by rw [octR_eq _ _ hc.1.1 hc.1.2]; exact hc.2⟩
  · rfl
end
end Go.Proofs.YtpbkdcfjlbdgfaaDoor
set_option linter.unusedVariables false
set_option linter.unusedSimpArgs false
namespace Go.Proofs.YtpbkdcfjlbdgfaaDoor
open Go Go.Ev
set_option maxRecDepth 100000
variable {G : World → Prop}
set_option maxHeartbeats 2000000 in
theorem s54 : Sound G Tryd.prog 54 C40 := by
  refine sd54 (T := tabT [(104, C89), (105, C105)]) (tab_cons s104 (tab_cons s105 tab_nil)) (pureC_lawful _) (pure_hX fun args p x K h hp hk => ?_)
  split at h <;> simp only [Option.some.injEq, Prod.mk.injEq, reduceCtorEq] at h
  obtain ⟨rfl, rfl⟩ := h
  refine ⟨Nat.le_of_ble_eq_true rfl, ?_⟩
  rename_i s
  obtain ⟨q, rfl⟩ := ex_str s
  simp only [sem_str] at hk hp
  have bad : unqL q = none → K (.ret (.tup [.d (.v (.string ⟨#[]⟩)), .d (.v (.string ⟨#[]⟩)), .d (.v (.int .i64 3))])) ⟨0, []⟩ := fun e => by rw [e] at hk; exact hk
  have good : ∀ o m, unqL q = some (o, m) → K (.ret (.tup [.d (.v (.string ⟨o.toArray⟩)), .d (.v (.string ⟨m.toArray⟩)), .d (.v (.int .i64 0))])) ⟨0, []⟩ := fun o m e => by
    rw [e] at hk; exact hk
  have hq : q.length ≤ 1099511627776 := hp
  simp -dsimp -implicitDefEqProofs only [S54, R54, C89, C105, ↓Ev.xStp_eq, ↓Ev.P, Ev.Q, eq_self, forall_eq_or_imp, implies_true, forall_const, forall_eq, ↓reduceIte, reduceIte, Nat.reduceEqDiff, Nat.reduceAdd, reduceCtorEq, Nat.reduceSub, Int.reduceToNat, Int.reduceLE, Int.reduceLT, Int.reduceNeg, Nat.reduceBEq, Nat.reduceMul, Nat.reduceLeDiff, Nat.reduceMod, UInt8.reduceOfNat, Nat.reduceLT, Int.reduceEq, Int.reduceAdd, Int.reduceSub, Int.reduceMul]
  have q34 : ∀ (i : Nat), ((((q.getD i 0).toNat : Nat) : Int) = 34) ↔ q.getD i 0 = 34 := fun i => u8_eq _ 34 (by omega)
  repeat' (first | refine And.intro ?_ ?_ | intro _)
  all_goals try omega
  · rename_i h
    refine bad ?_
    cases q with
    | nil => rfl
    | cons c r =>
      have : c ≠ 34 := fun e => by
        rcases h with h | h
        · simp only [List.length_cons] at h; omega
        · exact h ((q34 0).2 e)
      unfold unqL; split <;> simp_all
  rename_i h
  have h0 : unqL q = unq (q.drop 1) [] := by
    cases q with
    | nil => exact absurd rfl h.1
    | cons c r =>
      have : c = 34 := by have := (q34 0).1 (by simpa using h.2); simpa using this
      subst this; rfl
  have h1 : 1 ≤ q.length := by omega
  refine xLoop_intro (fun n st => ∃ (i : Nat) (out : List UInt8), n = q.length - i ∧ 1 ≤ i ∧ i ≤ q.length ∧ out.length ≤ i ∧ unq (q.drop i) out = unqL q ∧
      st = ⟨[(0, .d (.v (.string ⟨q.toArray⟩))), (5, .own 0), (6, .d (.v (.int .i64 i)))], 1, [(0, .row 5 1 (byteRows out))]⟩) (q.length - 1) [0] ?_ ?_ ?_
  · simp -dsimp -implicitDefEqProofs only [↓Ev.xStp_eq, ↓Ev.P, Ev.Q, eq_self, forall_eq_or_imp, implies_true, forall_const, forall_eq, ↓reduceIte, reduceIte, Nat.reduceEqDiff, Nat.reduceAdd, reduceCtorEq, Nat.reduceSub, Int.reduceToNat, Int.reduceLE, Int.reduceLT, Int.reduceNeg, Nat.reduceBEq, Nat.reduceMul, Nat.reduceLeDiff, Nat.reduceMod, UInt8.reduceOfNat, Nat.reduceLT, Int.reduceEq, Int.reduceAdd, Int.reduceSub, Int.reduceMul]
  · simp -dsimp -implicitDefEqProofs only [↓Ev.xStp_eq, ↓Ev.P, Ev.Q, eq_self, forall_eq_or_imp, implies_true, forall_const, forall_eq, ↓reduceIte, reduceIte, Nat.reduceEqDiff, Nat.reduceAdd, reduceCtorEq, Nat.reduceSub, Int.reduceToNat, Int.reduceLE, Int.reduceLT, Int.reduceNeg, Nat.reduceBEq, Nat.reduceMul, Nat.reduceLeDiff, Nat.reduceMod, UInt8.reduceOfNat, Nat.reduceLT, Int.reduceEq, Int.reduceAdd, Int.reduceSub, Int.reduceMul]
    exact ⟨1, [], rfl, by omega, h1, by simp, h0.symm, rfl⟩
  · rintro n st ⟨i, out, hn, hi1, hi2, ho, hu, rfl⟩
    have nb : ∀ x : UInt8, ∃ d : UInt8, (x.toNat : Int) = d.toNat := fun x => ⟨x, rfl⟩
    simp -dsimp -implicitDefEqProofs only [↓Ev.P, Ev.Q, eq_self, forall_eq_or_imp, implies_true, forall_const, forall_eq, ↓reduceIte, reduceIte, Nat.reduceEqDiff, Nat.reduceAdd, reduceCtorEq, Nat.reduceSub, Int.reduceToNat, Int.reduceLE, Int.reduceLT, Int.reduceNeg, Nat.reduceBEq, Nat.reduceMul, Nat.reduceLeDiff, Nat.reduceMod, UInt8.reduceOfNat, Nat.reduceLT, Int.reduceEq, Int.reduceAdd, Int.reduceSub, Int.reduceMul]
    have b1 := hx_b (q.getD (i + 1) 0)
    have b2 := hx_b (q.getD (i + 2) 0)
    repeat' (first | exact nb _ | refine And.intro ?_ ?_ | intro _ | (rw [Ev.xStp_eq]; simp -dsimp -implicitDefEqProofs only [↓Ev.P, Ev.Q, eq_self, forall_eq_or_imp, implies_true, forall_const, forall_eq, ↓reduceIte, reduceIte, Nat.reduceEqDiff, Nat.reduceAdd, reduceCtorEq, Nat.reduceSub, Int.reduceToNat, Int.reduceLE, Int.reduceLT, Int.reduceNeg, Nat.reduceBEq, Nat.reduceMul, Nat.reduceLeDiff, Nat.reduceMod, UInt8.reduceOfNat, Nat.reduceLT, Int.reduceEq, Int.reduceAdd, Int.reduceSub, Int.reduceMul]))
    all_goals try omega
    · rename_i hl h
      exact good _ _ (at_end hl hu h)
    · rename_i hl h hp
      refine xAgain_intro (q.length - (i + 1)) [2] (by omega) (by simp -dsimp -implicitDefEqProofs only [↓Ev.xStp_eq, ↓Ev.P, Ev.Q, eq_self, forall_eq_or_imp, implies_true, forall_const, forall_eq, ↓reduceIte, reduceIte, Nat.reduceEqDiff, Nat.reduceAdd, reduceCtorEq, Nat.reduceSub, Int.reduceToNat, Int.reduceLE, Int.reduceLT, Int.reduceNeg, Nat.reduceBEq, Nat.reduceMul, Nat.reduceLeDiff, Nat.reduceMod, UInt8.reduceOfNat, Nat.reduceLT, Int.reduceEq, Int.reduceAdd, Int.reduceSub, Int.reduceMul]) ⟨i + 1, out ++ [q.getD i 0], rfl, by omega, by omega, by simp; omega, at_plain hl hu h hp, ?_⟩
      simp -dsimp -implicitDefEqProofs only [↓Ev.xStp_eq, ↓Ev.P, Ev.Q, eq_self, forall_eq_or_imp, implies_true, forall_const, forall_eq, ↓reduceIte, reduceIte, Nat.reduceEqDiff, Nat.reduceAdd, reduceCtorEq, Nat.reduceSub, Int.reduceToNat, Int.reduceLE, Int.reduceLT, Int.reduceNeg, Nat.reduceBEq, Nat.reduceMul, Nat.reduceLeDiff, Nat.reduceMod, UInt8.reduceOfNat, Nat.reduceLT, Int.reduceEq, Int.reduceAdd, Int.reduceSub, Int.reduceMul]
      simp [byteRows]
    · rename_i hl h hp hk
      obtain ⟨k1, k2⟩ := at_oct hl hu h hp hk
      obtain ⟨⟨⟨⟨_, h2⟩, _⟩, _⟩, _⟩ := hk
      refine xAgain_intro (q.length - (i + 3)) [2] (by omega) (by simp -dsimp -implicitDefEqProofs only [↓Ev.xStp_eq, ↓Ev.P, Ev.Q, eq_self, forall_eq_or_imp, implies_true, forall_const, forall_eq, ↓reduceIte, reduceIte, Nat.reduceEqDiff, Nat.reduceAdd, reduceCtorEq, Nat.reduceSub, Int.reduceToNat, Int.reduceLE, Int.reduceLT, Int.reduceNeg, Nat.reduceBEq, Nat.reduceMul, Nat.reduceLeDiff, Nat.reduceMod, UInt8.reduceOfNat, Nat.reduceLT, Int.reduceEq, Int.reduceAdd, Int.reduceSub, Int.reduceMul]) ⟨i + 3, _, rfl, by omega, by omega, ?_, k1, ?_⟩
      · simp; omega
      · simp -dsimp -implicitDefEqProofs only [↓Ev.xStp_eq, ↓Ev.P, Ev.Q, eq_self, forall_eq_or_imp, implies_true, forall_const, forall_eq, ↓reduceIte, reduceIte, Nat.reduceEqDiff, Nat.reduceAdd, reduceCtorEq, Nat.reduceSub, Int.reduceToNat, Int.reduceLE, Int.reduceLT, Int.reduceNeg, Nat.reduceBEq, Nat.reduceMul, Nat.reduceLeDiff, Nat.reduceMod, UInt8.reduceOfNat, Nat.reduceLT, Int.reduceEq, Int.reduceAdd, Int.reduceSub, Int.reduceMul]
        simp only [byteRows, List.map_append, List.map_cons, List.map_nil, k2]
        simp only [octR]
        rfl
    · rename_i hl h hp hk
      refine bad (at_bad hl hu h hp fun h => ?_)
      obtain ⟨⟨⟨⟨h1, h2⟩, h3⟩, h4⟩, h5⟩ := h
      rcases hk with (((hk | hk) | hk) | hk) | hk
      · exact hk h1
      · exact hk h2
      · exact hk h3
      · exact hk h4
      · rw [octR] at h5; rw [h5] at hk; cases hk
    · refine bad ?_
      rw [← hu, List.drop_of_length_le (by omega), unq]
end Go.Proofs.YtpbkdcfjlbdgfaaDoor
/- (*strings.Builder).copyCheck: its first cell holds its own address. -/
set_option linter.unusedVariables false
set_option linter.unusedSimpArgs false
namespace Go.Proofs.YtpbkdcfjlbdgfaaDoor
open Go Go.Ev Go.RowKit
/-- The types that are Builders: the library's, and structs that are one. -/
def bldT (t : Nat) : Bool := t == 70
  || t == 72
  || t == 99
theorem szB : (Tryd.prog.info? 70).map (·.size) = some 2 := by kernel_rfl
theorem ubB : Tryd.prog.underlying 67 = some (.pointer 70) := by kernel_rfl
theorem ubU : Tryd.prog.underlying 149 = some .unsafePointer := by kernel_rfl
theorem lies0 : liesAt Tryd.prog Tryd.prog.depth 70 (2 / Tryd.prog.cellsOf 70) 0 70 1 = true := by kernel_rfl
theorem lies1 : liesAt Tryd.prog Tryd.prog.depth 72 (2 / Tryd.prog.cellsOf 72) 0 70 1 = true := by kernel_rfl
theorem lies3 : liesAt Tryd.prog Tryd.prog.depth 99 (2 / Tryd.prog.cellsOf 99) 0 70 1 = true := by kernel_rfl
set_option maxRecDepth 100000 in
theorem lies (t : Nat) (h : bldT t = true) : liesAt Tryd.prog Tryd.prog.depth t (2 / Tryd.prog.cellsOf t) 0 70 1 = true := by
  by_cases e0 : t = 70
  · subst e0; exact lies0
  by_cases e1 : t = 72
  · subst e1; exact lies1
  by_cases e3 : t = 99
  · subst e3; exact lies3
  exfalso; simp only [bldT, Bool.or_eq_true, beq_iff_eq] at h; omega
set_option maxHeartbeats 1000000 in
set_option maxRecDepth 100000 in
theorem cc_used (b : Nat) (w : World) (h0 : w.cell? ⟨b, 0, none⟩ = some (.pointer (some ⟨b, 0, none⟩))) :
    Calls Tryd.prog 94 #[.pointer (some ⟨b, 0, none⟩)] w fun e w' => e = .returned (.tuple #[]) ∧ w' = w := by
  obtain ⟨j, hj, _⟩ := Option.map_eq_some_iff.1 szB
  go_enter Tryd.func94, Tryd.ntmps94
  go_wp2
  rw [Lib.run_neq_ptr_same w _ ubB hj]
  go_wp2
  go_end0
  exact ⟨rfl, rfl⟩
set_option maxHeartbeats 1000000 in
set_option maxRecDepth 100000 in
theorem cc_fresh (t b : Nat) (ht : bldT t = true) (w : World) (h0 : w.cell? ⟨b, 0, none⟩ = some (.pointer none)) (hsh : w.shape? b = some (t, 2)) (hfz : w.frozen? ⟨b, 0, none⟩ = false) :
    Calls Tryd.prog 94 #[.pointer (some ⟨b, 0, none⟩)] w fun e w' => e = .returned (.tuple #[]) ∧ w' = w.setCell ⟨b, 0, none⟩ (.pointer (some ⟨b, 0, none⟩)) := by
  obtain ⟨j, hj, hjs⟩ := Option.map_eq_some_iff.1 szB
  go_enter Tryd.func94, Tryd.ntmps94
  go_wp2
  rw [Lib.run_to_unsafe w ⟨b, 0, none⟩ ubB ubU hj (by rw [hjs]; decide) hsh (Nat.zero_lt_succ 1)]
  simp only [Result.andThen]
  rw [Oper.upon_value]
  go_wp2
  rw [run_callFunc_extern Tryd.func136 (by kernel_rfl) (by kernel_rfl) (by kernel_rfl) (e := Extern.AbiNoEscape.same) (by kernel_rfl)]
  rw [Lib.run_noEscape]
  simp only [Result.andThen]
  rw [Oper.upon_value]
  go_wp2
  rw [Lib.run_from_unsafe w ⟨b, 0, none⟩ ubU ubB hj hsh (lies t ht)]
  simp only [Result.andThen]
  rw [Oper.upon_value]
  go_wp2
  go_end0
  exact ⟨rfl, rfl⟩
theorem cc_at {t u b : Nat} {p v : Value} {bs : List UInt8} (ht : bldT t = true) {w : World} (h : BldAt w t u b p v bs) :
    Calls Tryd.prog 94 #[.pointer (some ⟨b, 0, none⟩)] w fun e w' => e = .returned (.tuple #[]) ∧ BldTo w w' t u b v bs ∧ BldAt w' t u b (.pointer (some ⟨b, 0, none⟩)) v bs := by
  have hc : w.cell? ⟨b, 0, none⟩ = some p := by rw [Lib.cell_of_heap h.blk]; rfl
  rcases h.ptr with rfl | rfl
  · have hu := h.used rfl
    refine (cc_fresh t b ht w hc (by simp [World.shape?, h.blk]) (Lib.frozen_of_heap h.blk 0)).mono ?_
    rintro e w' ⟨rfl, rfl⟩
    refine ⟨rfl, hu, ?_⟩
    have hlt : b < w.heap.size := (Array.getElem?_eq_some_iff.1 h.blk).1
    obtain ⟨p', v', k, _⟩ := hu.is
    have hb : (w.setCell ⟨b, 0, none⟩ (.pointer (some ⟨b, 0, none⟩))).heap[b]? = some (.cells #[.pointer (some ⟨b, 0, none⟩), v] t (0, 0)) := by
      simp [World.setCell, Array.getElem?_modify, h.blk]
    have := k.blk
    rw [hb] at this
    simp only [Option.some.injEq, Obj.cells.injEq] at this
    obtain ⟨h1, _⟩ := this
    have h2 : v' = v := by simpa using (congrArg (fun a : Array Value => a.getD 1 undef) h1).symm
    subst h2
    exact ⟨hb, .inr rfl, k.own, k.ne⟩
  · refine (cc_used b w hc).mono ?_
    rintro e w' ⟨rfl, rfl⟩
    exact ⟨rfl, ⟨rfl, rfl, rfl, Nat.le_refl _, fun _ _ _ _ => rfl, ⟨_, v, h, .inl rfl⟩⟩, h⟩
end Go.Proofs.YtpbkdcfjlbdgfaaDoor
/- (*strings.Builder).WriteByte. -/
set_option linter.unusedVariables false
set_option linter.unusedSimpArgs false
namespace Go.Proofs.YtpbkdcfjlbdgfaaDoor
open Go Go.Ev Go.RowKit
theorem ubyte : Tryd.prog.underlying 68 = some (.slice 5) := by kernel_rfl
theorem infB : (Tryd.prog.info? 5).map (fun i => (i.zero, i.size, i.bytes)) = some (some (.int .u8 0), 1, 1) := by kernel_rfl
set_option maxHeartbeats 2000000 in
set_option maxRecDepth 100000 in
theorem wb_at {t b : Nat} {p v : Value} {bs : List UInt8} (ht : bldT t = true) {w : World} (h : BldAt w t 5 b p v bs) (c : Int) (hc0 : 0 ≤ c) (hc1 : c < 256) (hlen : bs.length + 1 ≤ 140737488355328) :
    Calls Tryd.prog 88 #[.pointer (some ⟨b, 0, none⟩), .int .u8 c] w fun e w' => e = .returned .nilIface ∧ BldTo w w' t 5 b v (bs ++ [UInt8.ofNat c.toNat]) := by
  obtain ⟨i0, hi, hz0, hz1, hz2⟩ := info_parts infB
  go_enter Tryd.func88, Tryd.ntmps88
  go_wp2_with (go_at_call 94; refine (cc_at ht h).mono ?_)
  rintro e w1 ⟨rfl, hb1, h1⟩
  have c0 : w1.cell? ⟨b, 0, none⟩ = some (.pointer (some ⟨b, 0, none⟩)) := by rw [Lib.cell_of_heap h1.blk]; rfl
  have c1 : w1.cell? ⟨b, 1, none⟩ = some v := by rw [Lib.cell_of_heap h1.blk]; rfl
  go_wp2_with (at_builtin; refine wpList_app (t := 68) rfl rfl ubyte hi hz0 hz1 hz2 rfl (h1.own.alloc _) (A := some ⟨w1.heap.size, 0, none⟩) (k := 1) (cap := 1) rfl (news := [.int .u8 c]) rfl ?c1 ?c2 ?c4 ?_)
  case c1 =>
    intro j u hj
    match j, hj with
    | 0, hj => simp at hj; subst hj; exact ⟨_, rfl, by simp [Addr.add]⟩
  case c2 => intro u hu; simp at hu; subst hu; rfl
  case c4 => omega
  intro v' w2 hown' hgrow hv
  have hlt : b < w1.heap.size := (Array.getElem?_eq_some_iff.1 h1.blk).1
  have hb2 : w2.heap[b]? = some (.cells #[.pointer (some ⟨b, 0, none⟩), v] t (0, 0)) := by
    rw [hgrow.block b (by simp; omega) (fun e => h1.ne e.symm), Lib.alloc_old w1 _ b hlt]
    exact h1.blk
  have d0 : w2.cell? ⟨b, 0, none⟩ = some (.pointer (some ⟨b, 0, none⟩)) := by rw [Lib.cell_of_heap hb2]; rfl
  have d1 : w2.cell? ⟨b, 1, none⟩ = some v := by rw [Lib.cell_of_heap hb2]; rfl
  have f1 : w2.frozen? ⟨b, 1, none⟩ = false := Lib.frozen_of_heap hb2 1
  have hfin := BldAt.wrote (hb1.alloc _) (h1.alloc _) (bs' := bs ++ [UInt8.ofNat c.toNat]) (by rw [byteVals_snoc _ _ hc0 hc1]; simpa using hown') hgrow (by simpa using hv)
  obtain ⟨g, cap, rfl⟩ : ∃ g cap, v' = .slice (some ⟨g, 0, none⟩) (bs.length + 1) cap := by
    rcases hown'.2 with ⟨_, h0⟩ | ⟨g, cap, cur, hv, _⟩
    · omega
    · exact ⟨g, cap, hv⟩
  go_wp2
  go_ret
  exact ⟨rfl, hfin⟩
/-- A byte is written. -/
def gWB : List SV → Nat → Nat → List UInt8 → Option (Prop × SV × List UInt8)
  | [.d (.v (.int .u8 c))], t, u, bs => if bldT t = true ∧ u = 5 then some ((0 ≤ c ∧ c < 256) ∧ bs.length + 1 ≤ 140737488355328, .d (.v .nilIface), bs ++ [UInt8.ofNat c.toNat]) else none
  | _, _, _, _ => none
theorem sWB {G : World → Prop} : Sound G Tryd.prog 88 (bldC gWB) := by
  refine bld_sound ⟨Tryd.f88, by kernel_rfl, by kernel_rfl, by kernel_rfl⟩ ?_
  intro args t u bs p x bs' hg hp w b q v hb c m vs hc ha
  unfold gWB at hg
  split at hg
  · obtain ⟨⟨h1, rfl⟩, hg2⟩ := Option.ite_none_right_eq_some.1 hg
    simp only [Option.some.injEq, Prod.mk.injEq] at hg2
    obtain ⟨rfl, rfl, rfl⟩ := hg2
    match vs, ha with
    | [y], ha =>
      simp only [CnL, and_true] at ha
      rw [of_v ha]
      exact ⟨_, fun _ _ _ => ⟨rfl, rfl⟩, wb_at h1 hb _ hp.1.1 hp.1.2 hp.2⟩
    | [], ha => simp [CnL] at ha
    | _ :: _ :: _, ha => simp [CnL] at ha
  · simp only [reduceCtorEq] at hg
end Go.Proofs.YtpbkdcfjlbdgfaaDoor
/- (*strings.Builder).Write. -/
set_option linter.unusedVariables false
set_option linter.unusedSimpArgs false
namespace Go.Proofs.YtpbkdcfjlbdgfaaDoor
open Go Go.Ev Go.RowKit
theorem ubyte3 : Tryd.prog.underlying 68 = some (.slice 5) := by kernel_rfl
theorem infB3 : (Tryd.prog.info? 5).map (fun i => (i.zero, i.size, i.bytes)) = some (some (.int .u8 0), 1, 1) := by kernel_rfl
set_option maxHeartbeats 2000000 in
set_option maxRecDepth 100000 in
theorem ww_at {t b : Nat} {p v : Value} {bs : List UInt8} (ht : bldT t = true) {w : World} (h : BldAt w t 5 b p v bs) (A : Option Addr) (k cap : Nat) (l : List UInt8) (hl : l.length = k) (hA : ∀ j u, (byteVals l)[j]? = some u → ∃ ad, A = some ad ∧ w.cell? (ad.add j) = some u ∧ (ad.add j).block ≠ b ∧ some (ad.add j).block ≠ v.ownBlock) (hlen : bs.length + k ≤ 140737488355328) :
    Calls Tryd.prog 90 #[.pointer (some ⟨b, 0, none⟩), .slice A k cap] w fun e w' => e = .returned (.tuple #[.int .i64 k, .nilIface]) ∧ BldTo w w' t 5 b v (bs ++ l) := by
  obtain ⟨i0, hi, hz0, hz1, hz2⟩ := info_parts infB3
  go_enter Tryd.func90, Tryd.ntmps90
  go_wp2_with (go_at_call 94; refine (cc_at ht h).mono ?_)
  rintro e w1 ⟨rfl, hb1, h1⟩
  have c0 : w1.cell? ⟨b, 0, none⟩ = some (.pointer (some ⟨b, 0, none⟩)) := by rw [Lib.cell_of_heap h1.blk]; rfl
  have c1 : w1.cell? ⟨b, 1, none⟩ = some v := by rw [Lib.cell_of_heap h1.blk]; rfl
  have hA1 : ∀ j u, (byteVals l)[j]? = some u → ∃ ad, A = some ad ∧ w1.cell? (ad.add j) = some u := by
    intro j u hj
    obtain ⟨ad, e1, e2, e3, e4⟩ := hA j u hj
    exact ⟨ad, e1, by rw [World.cell?_of_block (hb1.block _ (cell_lt e2) e3 e4)]; exact e2⟩
  clear hA
  go_wp2_with (at_builtin; refine wpList_app (t := 68) rfl rfl ubyte3 hi hz0 hz1 hz2 rfl h1.own (A := A) (k := k) (cap := cap) rfl (news := byteVals l) (by rw [byteVals_len]; exact hl) hA1 ?c2 ?c4 ?_)
  case c2 => intro u hu; simp only [byteVals, List.mem_map] at hu; obtain ⟨x, _, rfl⟩ := hu; rfl
  case c4 => omega
  intro v' w2 hown' hgrow hv
  have hlt : b < w1.heap.size := (Array.getElem?_eq_some_iff.1 h1.blk).1
  have hb2 : w2.heap[b]? = some (.cells #[.pointer (some ⟨b, 0, none⟩), v] t (0, 0)) := by
    rw [hgrow.block b hlt (fun e => h1.ne e.symm)]
    exact h1.blk
  have d0 : w2.cell? ⟨b, 0, none⟩ = some (.pointer (some ⟨b, 0, none⟩)) := by rw [Lib.cell_of_heap hb2]; rfl
  have d1 : w2.cell? ⟨b, 1, none⟩ = some v := by rw [Lib.cell_of_heap hb2]; rfl
  have f1 : w2.frozen? ⟨b, 1, none⟩ = false := Lib.frozen_of_heap hb2 1
  have hfin := BldAt.wrote hb1 h1 (bs' := bs ++ l) (by rw [show byteVals (bs ++ l) = byteVals bs ++ byteVals l by simp [byteVals]]; simpa [hl] using hown') hgrow hv
  obtain ⟨ao, n', cap, rfl⟩ : ∃ ao n' cap, v' = .slice ao n' cap := by
    rcases hown'.2 with ⟨hv, _⟩ | ⟨g, cap, cur, hv, _⟩
    · exact ⟨_, _, _, hv⟩
    · exact ⟨_, _, _, hv⟩
  clear hA1
  go_wp2
  go_ret2
  exact ⟨rfl, hfin⟩
/-- Bytes are written. -/
def gWW : List SV → Nat → Nat → List UInt8 → Option (Prop × SV × List UInt8)
  | [.d (.sl rows)], t, u, bs => (bytesOf rows).bind fun l => if bldT t = true ∧ u = 5 then some (bs.length + rows.length ≤ 140737488355328 ∧ bytesIn rows, .tup [.d (.v (.int .i64 rows.length)), .d (.v .nilIface)], bs ++ l) else none
  | _, _, _, _ => none
theorem sWW {G : World → Prop} : Sound G Tryd.prog 90 (bldC gWW) := by
  refine bld_sound ⟨Tryd.f90, by kernel_rfl, by kernel_rfl, by kernel_rfl⟩ ?_
  intro args t u bs p x bs' hg hp w b q v hb c m vs hc ha
  unfold gWW at hg
  split at hg
  · obtain ⟨l, hl, hg⟩ := Option.bind_eq_some_iff.1 hg
    obtain ⟨⟨h1, rfl⟩, hg2⟩ := Option.ite_none_right_eq_some.1 hg
    simp only [Option.some.injEq, Prod.mk.injEq] at hg2
    obtain ⟨rfl, rfl, rfl⟩ := hg2
    match vs, ha with
    | [y], ha =>
      simp only [CnL, and_true] at ha
      obtain ⟨A, cap, rfl, hlc, hrows⟩ := sl_bytes hp.2 hl ha
      exact ⟨_, fun m n c => by simp only [Cn]; exact ⟨_, rfl, by simp only [CnL, Cn, and_true]; exact ⟨⟨rfl, rfl⟩, ⟨rfl, rfl⟩⟩⟩, ww_at h1 hb A _ cap l hlc (fun j u hj => by
        obtain ⟨ad, e1, e2⟩ := hrows j u hj
        exact ⟨ad, e1, hc _ _ e2⟩) hp.1⟩
    | [], ha => simp [CnL] at ha
    | _ :: _ :: _, ha => simp [CnL] at ha
  · simp only [reduceCtorEq] at hg
end Go.Proofs.YtpbkdcfjlbdgfaaDoor
/- (*strings.Builder).String. -/
set_option linter.unusedVariables false
set_option linter.unusedSimpArgs false
namespace Go.Proofs.YtpbkdcfjlbdgfaaDoor
open Go Go.Ev Go.RowKit
theorem infB4 : (Tryd.prog.info? 5).map (·.size) = some 1 := by kernel_rfl
theorem uptr4 : Tryd.prog.underlying 120 = some (.pointer 5) := by kernel_rfl
theorem cellsB4 : Tryd.prog.cellsOf 5 = 1 := by kernel_rfl
set_option maxHeartbeats 2000000 in
set_option maxRecDepth 100000 in
theorem st_some {t b g cap : Nat} {p : Value} {l : List UInt8} {cur : Array Value} {w : World} (hbk : w.heap[b]? = some (.cells #[p, .slice (some ⟨g, 0, none⟩) l.length cap] t (0, 0))) (hg : w.heap[g]? = some (.cells cur 5 (0, 0))) (h0 : l ≠ []) (hown : w.ownsRow 0 5 1 (.slice (some ⟨g, 0, none⟩) l.length cap) l.length (byteVals l)) (hnc : l.length ≤ cap) (hcm : cap ≤ maxLen) (hcs : cur.size = cap * 1) :
    Calls Tryd.prog 45 #[.pointer (some ⟨b, 0, none⟩)] w fun e w' => e = .returned (.string ⟨l.toArray⟩) ∧ BldEnd w w' b (.slice (some ⟨g, 0, none⟩) l.length cap) := by
  have hl0 : l.length ≠ 0 := by simpa using h0
  have c1 : w.drew.cell? ⟨b, 1, none⟩ = some (.slice (some ⟨g, 0, none⟩) l.length cap) := by
    have : w.drew.heap[b]? = some (.cells #[p, .slice (some ⟨g, 0, none⟩) l.length cap] t (0, 0)) := hbk
    rw [Lib.cell_of_heap this]; rfl
  have hSD : (Builtin.unsafeSliceData_ #[68] 120 #[.slice (some ⟨g, 0, none⟩) l.length cap]).run Tryd.prog w.drew = .ok (.pointer (some ⟨g, 0, none⟩)) w.drew :=
    Lib.run_unsafeSliceData_row _ _ _ _ _ _ (by omega)
  have hUS : (Builtin.unsafeString_ #[120, 3] 9 #[.pointer (some ⟨g, 0, none⟩), .int .i64 l.length]).run Tryd.prog w.drew = .ok (.string ⟨l.toArray⟩) (w.drew.freeze ⟨g, 0, none⟩ l.length) := by
    refine Lib.run_unsafeString_row w.drew 120 3 9 5 uptr4 cellsB4 g cur.size (by have hg' : w.drew.heap[g]? = some (.cells cur 5 (0, 0)) := hg; simp [World.shape?, hg']) l h0 (by omega) (by unfold maxLen at hcm; omega) ?_
    intro j x hx
    have := hown.cells (g := g) rfl j (.int .u8 x.toNat) (by simp [byteVals, hx])
    exact this
  clear hown hnc hcm hcs
  go_enter Tryd.func45, Tryd.ntmps45
  go_wp2
  go_region
  all_goals (go_wp2; go_ret; exact ⟨rfl, BldEnd.freeze (BldEnd.drew (BldEnd.refl w b _)) rfl _⟩)
theorem us_none (W : World) (q : Option Addr) : (Builtin.unsafeString_ #[120, 3] 9 #[.pointer q, .int .i64 0]).run Tryd.prog W = .ok (.string .empty) W :=
  Lib.run_unsafeString_none W _ _ _ q
set_option maxHeartbeats 2000000 in
set_option maxRecDepth 100000 in
theorem st_nil {t b : Nat} {p : Value} {w : World} (hbk : w.heap[b]? = some (.cells #[p, .slice none 0 0] t (0, 0))) :
    Calls Tryd.prog 45 #[.pointer (some ⟨b, 0, none⟩)] w fun e w' => e = .returned (.string ⟨#[]⟩) ∧ BldEnd w w' b (.slice none 0 0) := by
  have hUS := us_none
  have c1 : w.drew.cell? ⟨b, 1, none⟩ = some (.slice none 0 0) := by
    have : w.drew.heap[b]? = some (.cells #[p, .slice none 0 0] t (0, 0)) := hbk
    rw [Lib.cell_of_heap this]; rfl
  have hSD : (Builtin.unsafeSliceData_ #[68] 120 #[.slice none 0 0]).run Tryd.prog w.drew = .ok (.pointer none) w.drew := rfl
  go_enter Tryd.func45, Tryd.ntmps45
  go_wp2
  go_region
  all_goals (go_wp2; go_ret; exact ⟨rfl, BldEnd.drew (BldEnd.refl w b _)⟩)
set_option maxHeartbeats 2000000 in
set_option maxRecDepth 100000 in
theorem st_noroom {t b g : Nat} {p : Value} {cur : Array Value} {w : World} (hbk : w.heap[b]? = some (.cells #[p, .slice (some ⟨g, 0, none⟩) 0 0] t (0, 0))) (hg : w.heap[g]? = some (.cells cur 5 (0, 0))) :
    Calls Tryd.prog 45 #[.pointer (some ⟨b, 0, none⟩)] w fun e w' => e = .returned (.string ⟨#[]⟩) ∧ BldEnd w w' b (.slice (some ⟨g, 0, none⟩) 0 0) := by
  have hUS := us_none
  have hlt : b < w.heap.size := (Array.getElem?_eq_some_iff.1 hbk).1
  have c1 : w.drew.cell? ⟨b, 1, none⟩ = some (.slice (some ⟨g, 0, none⟩) 0 0) := by
    have : w.drew.heap[b]? = some (.cells #[p, .slice (some ⟨g, 0, none⟩) 0 0] t (0, 0)) := hbk
    rw [Lib.cell_of_heap this]; rfl
  have hSD : (Builtin.unsafeSliceData_ #[68] 120 #[.slice (some ⟨g, 0, none⟩) 0 0]).run Tryd.prog w.drew = .ok (.pointer (some ⟨w.drew.heap.size, 0, none⟩)) (w.drew.alloc (.view ⟨g, 0, none⟩ 5)) :=
    Lib.run_unsafeSliceData_zero w.drew _ _ 5 uptr4 ⟨g, 0, none⟩ 0 (5, cur.size) (by have hg' : w.drew.heap[g]? = some (.cells cur 5 (0, 0)) := hg; simp [World.shape?, hg'])
  have c2 : (w.drew.alloc (.view ⟨g, 0, none⟩ 5)).cell? ⟨b, 1, none⟩ = some (.slice (some ⟨g, 0, none⟩) 0 0) := by
    have : (w.drew.alloc (.view ⟨g, 0, none⟩ 5)).heap[b]? = _ := (Lib.alloc_old w.drew _ b hlt).trans hbk
    rw [Lib.cell_of_heap this]; rfl
  have c3 : (w.alloc (.view ⟨g, 0, none⟩ 5)).drew.cell? ⟨b, 1, none⟩ = some (.slice (some ⟨g, 0, none⟩) 0 0) := c2
  have c0 : w.cell? ⟨b, 1, none⟩ = some (.slice (some ⟨g, 0, none⟩) 0 0) := c1
  go_enter Tryd.func45, Tryd.ntmps45
  go_wp2
  go_region
  all_goals (go_wp2; go_ret; exact ⟨rfl, BldEnd.alloc (BldEnd.drew (BldEnd.refl w b _)) _⟩)
set_option maxHeartbeats 2000000 in
set_option maxRecDepth 100000 in
theorem st_room {t b g cap : Nat} {p : Value} {w : World} (hc0 : cap ≠ 0) (hbk : w.heap[b]? = some (.cells #[p, .slice (some ⟨g, 0, none⟩) 0 cap] t (0, 0))) :
    Calls Tryd.prog 45 #[.pointer (some ⟨b, 0, none⟩)] w fun e w' => e = .returned (.string ⟨#[]⟩) ∧ BldEnd w w' b (.slice (some ⟨g, 0, none⟩) 0 cap) := by
  have hUS := us_none
  have c1 : w.drew.cell? ⟨b, 1, none⟩ = some (.slice (some ⟨g, 0, none⟩) 0 cap) := by
    have : w.drew.heap[b]? = some (.cells #[p, .slice (some ⟨g, 0, none⟩) 0 cap] t (0, 0)) := hbk
    rw [Lib.cell_of_heap this]; rfl
  have hSD : (Builtin.unsafeSliceData_ #[68] 120 #[.slice (some ⟨g, 0, none⟩) 0 cap]).run Tryd.prog w.drew = .ok (.pointer (some ⟨g, 0, none⟩)) w.drew :=
    Lib.run_unsafeSliceData_row _ _ _ _ _ _ hc0
  clear hc0
  go_enter Tryd.func45, Tryd.ntmps45
  go_wp2
  go_region
  all_goals (go_wp2; go_ret; exact ⟨rfl, BldEnd.drew (BldEnd.refl w b _)⟩)
theorem sST {G : World → Prop} : Sound G Tryd.prog 45 (strC 5) := by
  refine str_sound ⟨Tryd.f45, by kernel_rfl, by kernel_rfl, by kernel_rfl⟩ ?_
  rintro w t b p v bs h
  obtain ⟨h1, _, hown, h4⟩ := h
  have hown' := hown
  obtain ⟨g1, g2⟩ := hown
  rcases g2 with ⟨rfl, h0⟩ | ⟨g, cap, cur, rfl, e2, e3, e4, e5, e6, e7⟩
  · have : bs = [] := List.eq_nil_of_length_eq_zero h0
    subst this
    exact st_nil h1
  · cases bs with
    | nil =>
      by_cases hc0 : cap = 0
      · subst hc0; exact st_noroom h1 e3
      · exact st_room hc0 h1
    | cons x r => exact st_some h1 e3 (by simp) hown' e4 e5 e6
end Go.Proofs.YtpbkdcfjlbdgfaaDoor
set_option linter.unusedVariables false
set_option linter.unusedSimpArgs false
namespace Go.Proofs.YtpbkdcfjlbdgfaaDoor
open Go Go.Ev
set_option maxRecDepth 100000
variable {G : World → Prop}
/-- A byte in a quoted text. -/
def qb (c : UInt8) : List UInt8 := if plainB c.toNat = true then [c] else [92, hexs.getD (c.toNat / 16) 0, hexs.getD (c.toNat % 16) 0]
def quo (l : List UInt8) : List UInt8 := 34 :: l.flatMap qb ++ [34]
theorem qb_len (c : UInt8) : (qb c).length ≤ 3 := by unfold qb; split <;> simp
theorem quo_len (l : List UInt8) : (quo l).length ≤ 3 * l.length + 2 := by
  unfold quo
  have : ∀ l : List UInt8, (l.flatMap qb).length ≤ 3 * l.length := by
    intro l
    induction l with
    | nil => simp
    | cons c r ih => have := qb_len c; simp only [List.flatMap_cons, List.length_append, List.length_cons]; omega
  have := this l
  simp only [List.length_append, List.length_cons, List.length_nil]; omega
def C39 : Contract := pureC fun args => match args with
  | [.d (.v (.string s))] => some (s.size ≤ 1099511627776, .d (.v (str (quo s.data.toList))))
  | _ => none
theorem take_snoc (l : List UInt8) (i : Nat) (h : i < l.length) : l.take (i + 1) = l.take i ++ [l.getD i 0] := by
  rw [List.take_succ_eq_append_getElem h]
  simp [List.getD_eq_getElem?_getD, List.getElem?_eq_getElem h]
theorem nib_hi (c : UInt8) : ((c.toNat : Nat) : Int).fdiv (2 ^ min 4 IntKind.u8.bits) = ((c.toNat / 16 : Nat) : Int) := by
  have : ∀ n : Fin 256, ((n.val : Nat) : Int).fdiv (2 ^ min 4 IntKind.u8.bits) = ((n.val / 16 : Nat) : Int) := by decide +kernel
  exact this ⟨c.toNat, c.toNat_lt⟩
theorem nib_lo (c : UInt8) : IntKind.u8.wrap ((BitVec.ofInt IntKind.u8.bits ((c.toNat : Nat) : Int) &&& BitVec.ofInt IntKind.u8.bits 15).toNat : Int) = ((c.toNat % 16 : Nat) : Int) := by
  have : ∀ n : Fin 256, IntKind.u8.wrap ((BitVec.ofInt IntKind.u8.bits ((n.val : Nat) : Int) &&& BitVec.ofInt IntKind.u8.bits 15).toNat : Int) = ((n.val % 16 : Nat) : Int) := by decide +kernel
  exact this ⟨c.toNat, c.toNat_lt⟩
theorem flat_len (q : List UInt8) (i : Nat) : ((q.take i).flatMap qb).length ≤ 3 * q.length := by
  have h := quo_len (q.take i)
  unfold quo at h
  simp only [List.length_append, List.length_cons, List.length_nil, List.length_take] at h
  omega
theorem flat_snoc (q : List UInt8) (i : Nat) (h : i < q.length) : (q.take (i + 1)).flatMap qb = (q.take i).flatMap qb ++ qb (q.getD i 0) := by
  rw [take_snoc q i h, List.flatMap_append]; simp
theorem s39 : Sound G Tryd.prog 39 C39 := by
  refine sd39 (T := tabT [(89, C89), (88, bldC gWB), (90, bldC gWW), (45, strC 5)]) (tab_cons s89 (tab_cons sWB (tab_cons sWW (tab_cons sST tab_nil)))) (pureC_lawful _) (pure_hX fun args p x K h hp hk => ?_)
  split at h <;> simp only [Option.some.injEq, Prod.mk.injEq, reduceCtorEq] at h
  obtain ⟨rfl, rfl⟩ := h
  refine ⟨Nat.le_of_ble_eq_true rfl, ?_⟩
  rename_i s
  obtain ⟨q, rfl⟩ := ex_str s
  simp only [sem_str] at hk hp
  simp -dsimp -implicitDefEqProofs only [S39, R39, C89, gWB, gWW, bldT, ↓Ev.xStp_eq, ↓Ev.P, Ev.Q, eq_self, forall_eq_or_imp, implies_true, forall_const, forall_eq, ↓reduceIte, reduceIte, Nat.reduceEqDiff, Nat.reduceAdd, reduceCtorEq, Nat.reduceSub, Int.reduceToNat, Int.reduceLE, Int.reduceLT, Int.reduceNeg, Nat.reduceBEq, Nat.reduceMul, Nat.reduceLeDiff, Nat.reduceMod, UInt8.reduceOfNat, Nat.reduceLT, Int.reduceEq, Int.reduceAdd, Int.reduceSub, Int.reduceMul]
  refine xLoop_intro (fun n st => ∃ i : Nat, i ≤ q.length ∧ n = q.length - i ∧ 
      st = ⟨[(0, .d (.v (.string ⟨q.toArray⟩))), (3, .ptr 0 0), (8, .d (.v (.int .i64 q.length))), (9, .d (.v (.int .i64 i)))], 1, [(0, .bld 70 5 (34 :: (q.take i).flatMap qb))]⟩) q.length [0] ?_ ?_ ?_
  · simp -dsimp -implicitDefEqProofs only [↓Ev.xStp_eq, ↓Ev.P, Ev.Q, eq_self, forall_eq_or_imp, implies_true, forall_const, forall_eq, ↓reduceIte, reduceIte, Nat.reduceEqDiff, Nat.reduceAdd, reduceCtorEq, Nat.reduceSub, Int.reduceToNat, Int.reduceLE, Int.reduceLT, Int.reduceNeg, Nat.reduceBEq, Nat.reduceMul, Nat.reduceLeDiff, Nat.reduceMod, UInt8.reduceOfNat, Nat.reduceLT, Int.reduceEq, Int.reduceAdd, Int.reduceSub, Int.reduceMul]
  · simp -dsimp -implicitDefEqProofs only [↓Ev.xStp_eq, ↓Ev.P, Ev.Q, eq_self, forall_eq_or_imp, implies_true, forall_const, forall_eq, ↓reduceIte, reduceIte, Nat.reduceEqDiff, Nat.reduceAdd, reduceCtorEq, Nat.reduceSub, Int.reduceToNat, Int.reduceLE, Int.reduceLT, Int.reduceNeg, Nat.reduceBEq, Nat.reduceMul, Nat.reduceLeDiff, Nat.reduceMod, UInt8.reduceOfNat, Nat.reduceLT, Int.reduceEq, Int.reduceAdd, Int.reduceSub, Int.reduceMul]
    refine ⟨0, by omega, by omega, rfl⟩
  · rintro n st ⟨i, hi, hn, rfl⟩
    have hf := flat_len q i
    have hb := (q.getD i 0).toNat_lt
    simp -dsimp -implicitDefEqProofs only [C89, gWB, gWW, bldT, nib_hi, nib_lo, ↓Ev.xStp_eq, ↓Ev.P, Ev.Q, eq_self, forall_eq_or_imp, implies_true, forall_const, forall_eq, ↓reduceIte, reduceIte, Nat.reduceEqDiff, Nat.reduceAdd, reduceCtorEq, Nat.reduceSub, Int.reduceToNat, Int.reduceLE, Int.reduceLT, Int.reduceNeg, Nat.reduceBEq, Nat.reduceMul, Nat.reduceLeDiff, Nat.reduceMod, UInt8.reduceOfNat, Nat.reduceLT, Int.reduceEq, Int.reduceAdd, Int.reduceSub, Int.reduceMul]
    repeat' (first | refine And.intro ?_ ?_ | intro _)
    all_goals try omega
    · rename_i hl hp
      refine xAgain_intro (q.length - (i + 1)) [0] (by omega) (by simp -dsimp -implicitDefEqProofs only [↓Ev.xStp_eq, ↓Ev.P, Ev.Q, eq_self, forall_eq_or_imp, implies_true, forall_const, forall_eq, ↓reduceIte, reduceIte, Nat.reduceEqDiff, Nat.reduceAdd, reduceCtorEq, Nat.reduceSub, Int.reduceToNat, Int.reduceLE, Int.reduceLT, Int.reduceNeg, Nat.reduceBEq, Nat.reduceMul, Nat.reduceLeDiff, Nat.reduceMod, UInt8.reduceOfNat, Nat.reduceLT, Int.reduceEq, Int.reduceAdd, Int.reduceSub, Int.reduceMul]) ⟨i + 1, by omega, rfl, ?_⟩
      rw [flat_snoc q i (by omega), qb, if_pos hp]
      simp -dsimp -implicitDefEqProofs only [↓Ev.xStp_eq, ↓Ev.P, Ev.Q, eq_self, forall_eq_or_imp, implies_true, forall_const, forall_eq, ↓reduceIte, reduceIte, Nat.reduceEqDiff, Nat.reduceAdd, reduceCtorEq, Nat.reduceSub, Int.reduceToNat, Int.reduceLE, Int.reduceLT, Int.reduceNeg, Nat.reduceBEq, Nat.reduceMul, Nat.reduceLeDiff, Nat.reduceMod, UInt8.reduceOfNat, Nat.reduceLT, Int.reduceEq, Int.reduceAdd, Int.reduceSub, Int.reduceMul]
      simp
    · rename_i hl hp
      refine xAgain_intro (q.length - (i + 1)) [0] (by omega) (by simp -dsimp -implicitDefEqProofs only [↓Ev.xStp_eq, ↓Ev.P, Ev.Q, eq_self, forall_eq_or_imp, implies_true, forall_const, forall_eq, ↓reduceIte, reduceIte, Nat.reduceEqDiff, Nat.reduceAdd, reduceCtorEq, Nat.reduceSub, Int.reduceToNat, Int.reduceLE, Int.reduceLT, Int.reduceNeg, Nat.reduceBEq, Nat.reduceMul, Nat.reduceLeDiff, Nat.reduceMod, UInt8.reduceOfNat, Nat.reduceLT, Int.reduceEq, Int.reduceAdd, Int.reduceSub, Int.reduceMul]) ⟨i + 1, by omega, rfl, ?_⟩
      rw [flat_snoc q i (by omega), qb, if_neg (by rw [hp]; exact Bool.false_ne_true)]
      simp -dsimp -implicitDefEqProofs only [↓Ev.xStp_eq, ↓Ev.P, Ev.Q, eq_self, forall_eq_or_imp, implies_true, forall_const, forall_eq, ↓reduceIte, reduceIte, Nat.reduceEqDiff, Nat.reduceAdd, reduceCtorEq, Nat.reduceSub, Int.reduceToNat, Int.reduceLE, Int.reduceLT, Int.reduceNeg, Nat.reduceBEq, Nat.reduceMul, Nat.reduceLeDiff, Nat.reduceMod, UInt8.reduceOfNat, Nat.reduceLT, Int.reduceEq, Int.reduceAdd, Int.reduceSub, Int.reduceMul]
      simp
    · rename_i hl
      rw [List.take_of_length_le (by omega)]
      exact hk
end Go.Proofs.YtpbkdcfjlbdgfaaDoor
set_option linter.unusedVariables false
set_option linter.unusedSimpArgs false
namespace Go.Proofs.YtpbkdcfjlbdgfaaDoor
open Go Go.Ev
set_option maxRecDepth 100000
theorem dig_of {c : UInt8} (h : 48 ≤ c.toNat ∧ c.toNat ≤ 57) : dig c = true := by simp only [dig, Bool.and_eq_true, decide_eq_true_eq]; omega
theorem digit_nat (k : Nat) (h : k < 10) : (UInt8.ofNat (48 + k)).toNat = 48 + k := by
  simp [UInt8.toNat_ofNat']; omega
theorem dec_all : ∀ u : Nat, (Lib.decDigits u).all dig = true := by
  intro u
  induction u using Nat.strongRecOn with
  | _ u ih =>
    by_cases h : u < 10
    · rw [dec_small h]
      simp only [List.all_cons, List.all_nil, Bool.and_true]
      exact dig_of (by rw [digit_nat _ (by omega)]; omega)
    · rw [dec_big h, List.all_append, ih (u / 10) (by omega)]
      simp only [List.all_cons, List.all_nil, Bool.and_true, Bool.true_and]
      exact dig_of (by rw [digit_nat _ (by omega)]; omega)
theorem dec_val : ∀ u : Nat, valT (Lib.decDigits u) = u := by
  intro u
  induction u using Nat.strongRecOn with
  | _ u ih =>
    by_cases h : u < 10
    · rw [dec_small h]
      simp only [valT, List.foldl_cons, List.foldl_nil]
      rw [digit_nat _ (by omega)]; omega
    · rw [dec_big h, val_app, ih (u / 10) (by omega), digit_nat _ (by omega)]; omega
theorem dec_ne (u : Nat) : Lib.decDigits u ≠ [] := by
  by_cases h : u < 10
  · rw [dec_small h]; simp
  · rw [dec_big h]; simp
theorem dec_head : ∀ u : Nat, 1 ≤ u → (Lib.decDigits u).getD 0 0 ≠ 48 := by
  intro u
  induction u using Nat.strongRecOn with
  | _ u ih =>
    intro h1
    by_cases h : u < 10
    · rw [dec_small h]
      simp only [List.getD_cons_zero]
      intro e
      have := congrArg UInt8.toNat e
      rw [digit_nat _ (by omega), show (48 : UInt8).toNat = 48 from rfl] at this
      omega
    · rw [dec_big h]
      have hi := ih (u / 10) (by omega) (by omega)
      cases e : Lib.decDigits (u / 10) with
      | nil => exact absurd e (dec_ne _)
      | cons c r => rw [e] at hi; exact hi
theorem dec_good (u : Nat) : ¬ badP (Lib.decDigits u) := by
  rintro (h | ⟨h1, h2⟩)
  · exact dec_ne u h
  · by_cases h : u < 10
    · rw [dec_small h] at h1; simp at h1
    · exact dec_head u (by omega) h2
/-- What was written is read again. -/
theorem parse_text (n : Int) : parseS (Lib.itoa n) = if n < 0 then (0, 3) else if 2147483647 < n then (0, 2) else (n, 0) := by
  unfold Lib.itoa
  by_cases h : n < 0
  · rw [if_pos h, if_pos h]
    unfold parseS
    by_cases hb : badP (45 :: Lib.decDigits n.natAbs)
    · rw [if_pos hb]
    · rw [if_neg hb, if_pos]
      rfl
  · rw [if_neg h, if_neg h]
    unfold parseS
    rw [if_neg (dec_good _), if_neg (by rw [dec_all]; decide), dec_val]
    by_cases k : 2147483647 < n
    · rw [if_pos k, if_pos (by omega)]
    · rw [if_neg k, if_neg (by omega)]
      congr 1
      omega
theorem quo_byte : ∀ c : UInt8, plainB c.toNat = false → (plainB (92 : UInt8).toNat = false) ∧ okO (hexs.getD (c.toNat / 16) 0) (hexs.getD (c.toNat % 16) 0) = true ∧ UInt8.ofNat (octV (hexs.getD (c.toNat / 16) 0) (hexs.getD (c.toNat % 16) 0)).toNat = c := by
  have : ∀ n : Fin 256, plainB ((n.val : Nat) : Int) = false → (plainB (92 : UInt8).toNat = false) ∧ okO (hexs.getD (n.val / 16) 0) (hexs.getD (n.val % 16) 0) = true ∧ UInt8.ofNat (octV (hexs.getD (n.val / 16) 0) (hexs.getD (n.val % 16) 0)).toNat = UInt8.ofNat n.val := by decide +kernel
  intro c hc
  have h := this ⟨c.toNat, c.toNat_lt⟩ hc
  simpa using h
theorem unq_quo : ∀ (l rest out : List UInt8), unq (l.flatMap qb ++ 34 :: rest) out = some (out ++ l, rest)
  | [], rest, out => by simp [unq]
  | c :: l, rest, out => by
    have ih := unq_quo l rest (out ++ [c])
    by_cases hp : plainB c.toNat = true
    · have hne : ¬ c = 34 := by rintro rfl; revert hp; decide
      have e : (c :: l).flatMap qb ++ 34 :: rest = c :: (l.flatMap qb ++ 34 :: rest) := by simp [qb, hp]
      rw [e, unq, if_neg hne, if_pos hp, ih]
      simp
    · simp only [Bool.not_eq_true] at hp
      obtain ⟨q1, q2, q3⟩ := quo_byte c hp
      have e : (c :: l).flatMap qb ++ 34 :: rest = 92 :: hexs.getD (c.toNat / 16) 0 :: hexs.getD (c.toNat % 16) 0 :: (l.flatMap qb ++ 34 :: rest) := by simp [qb, hp]
      rw [e, unq, if_neg (by decide), if_neg (by rw [q1]; decide), if_pos ⟨rfl, by simp only [oct2]; exact q2⟩]
      simp only [oct2, List.drop_succ_cons, List.drop_zero, q3, ih]
      simp
theorem unq_back (l rest : List UInt8) : unqL (quo l ++ rest) = some (l, rest) := by
  have := unq_quo l rest []
  simp only [quo, List.cons_append, List.append_assoc, List.nil_append] at this ⊢
  simp only [unqL]
  exact this
theorem quo_plain (l : List UInt8) : ∀ c ∈ quo l, 32 ≤ c.toNat ∧ c.toNat ≤ 126 := by
  intro c hc
  simp only [quo, List.cons_append, List.mem_cons, List.mem_append, List.mem_flatMap, List.not_mem_nil, or_false] at hc
  rcases hc with rfl | ⟨d, _, hd⟩ | rfl
  · decide
  · have : ∀ n : Fin 256, ∀ x ∈ qb (UInt8.ofNat n.val), 32 ≤ x.toNat ∧ x.toNat ≤ 126 := by decide +kernel
    have h := this ⟨d.toNat, d.toNat_lt⟩ c
    simp only [UInt8.ofNat_toNat] at h
    exact h hd
  · decide
end Go.Proofs.YtpbkdcfjlbdgfaaDoor
/- The compiled code of functions, by program (gen.py): each theorem says that the loaded program compiles to it. -/
set_option linter.unusedVariables false
namespace Go.Proofs.YtpbkdcfjlbdgfaaDoor
open Go Go.Ev
set_option maxRecDepth 100000

/-! 11: redline/redlinelaw01.NumBack -/
def A11 : Ann := ⟨fun _ _ => 0, fun _ => none, fun r => if r = 3 then some (false, [0, 1, 2]) else if r = 4 then some (false, [0, 1, 2, 7, 8]) else if r = 6 then some (false, [1, 2]) else if r = 7 then some (false, [1, 2, 9]) else if r = 9 then some (false, [1, 2, 9, 10, 11, 12, 13]) else if r = 10 then some (false, [1, 2, 9, 10, 11, 12, 13]) else if r = 11 then some (false, [1, 2, 9, 10, 11, 12, 13]) else if r = 13 then some (false, [1, 2, 10, 11, 12]) else none, fun r => if r = 9 then [1, 2, 9, 10, 11, 12, 13] else []⟩
def S11 : SCode :=
  (.seq (.ops [⟨none, (some 6), .mv 6 (.k (Value.bool false)), false⟩])
  (.seq (.seq (.ops [⟨none, (some 14), .call (some 14) 38 false [], false⟩,
    ⟨none, (some 15), .not 15 (.s 14), false⟩])
  (.cond (.s 15) (.seq (.ops [⟨none, (some 6), .mv 6 (.k (Value.bool false)), false⟩])
  .ret) .skip))
  (.seq (.seq (.keep [0, 1, 2]) (.ops [⟨none, (some 17), .mv 17 (.s 0), false⟩,
    ⟨none, (some 18), .call (some 18) 32 false [(.s 17)], false⟩,
    ⟨none, (some 19), .call (some 19) 30 false [(.s 18)], false⟩,
    ⟨none, (some 16), .mv 16 (.s 19), false⟩,
    ⟨none, (some 20), .ex 20 (.s 16) 0, false⟩,
    ⟨none, (some 21), .ex 21 (.s 16) 1, false⟩,
    ⟨none, (some 7), .mv 7 (.s 20), false⟩,
    ⟨none, (some 8), .mv 8 (.s 21), false⟩]))
  (.seq (.seq (.seq (.keep [0, 1, 2, 7, 8]) (.ops [⟨none, (some 22), .mv 22 (.s 0), false⟩,
    ⟨none, (some 23), .bin 23 .geq (.s 22) (.k (Value.int .i64 0)), false⟩,
    ⟨none, (some 24), .mv 24 (.s 23), false⟩,
    ⟨(some (24, true)), (some 25), .mv 25 (.s 0), false⟩,
    ⟨(some (24, true)), (some 26), .bin 26 .leq (.s 25) (.k (Value.int .i64 2147483647)), false⟩,
    ⟨none, (some 27), .pk 27 (.s 24) (.s 26) (.k (Value.bool false)), false⟩,
    ⟨none, (some 28), .mv 28 (.s 27), false⟩,
    ⟨(some (28, true)), (some 29), .mv 29 (.s 7), false⟩,
    ⟨(some (28, true)), (some 30), .mv 30 (.s 0), false⟩,
    ⟨(some (28, true)), (some 31), .bin 31 .neq (.s 29) (.s 30), true⟩,
    ⟨(some (28, true)), (some 32), .mv 32 (.s 31), false⟩,
    ⟨(some (32, false)), (some 33), .mv 33 (.s 8), false⟩,
    ⟨(some (32, false)), (some 34), .bin 34 .neq (.s 33) (.k (Value.int .i64 0)), false⟩,
    ⟨(some (28, true)), (some 35), .pk 35 (.s 32) (.k (Value.bool true)) (.s 34), false⟩,
    ⟨none, (some 36), .pk 36 (.s 28) (.s 35) (.k (Value.bool false)), false⟩,
    ⟨none, (some 37), .mv 37 (.s 36), false⟩,
    ⟨(some (37, false)), (some 38), .mv 38 (.s 0), false⟩,
    ⟨(some (37, false)), (some 39), .bin 39 .lss (.s 38) (.k (Value.int .i64 0)), false⟩,
    ⟨(some (37, false)), (some 40), .mv 40 (.s 39), false⟩,
    ⟨(some (40, true)), (some 41), .mv 41 (.s 8), true⟩,
    ⟨(some (40, true)), (some 42), .bin 42 .neq (.s 41) (.k (Value.int .i64 3)), false⟩,
    ⟨(some (37, false)), (some 43), .pk 43 (.s 40) (.s 42) (.k (Value.bool false)), false⟩,
    ⟨none, (some 44), .pk 44 (.s 37) (.k (Value.bool true)) (.s 43), false⟩,
    ⟨none, (some 45), .mv 45 (.s 44), false⟩,
    ⟨(some (45, false)), (some 46), .mv 46 (.s 0), false⟩,
    ⟨(some (45, false)), (some 47), .bin 47 .gtr (.s 46) (.k (Value.int .i64 2147483647)), false⟩,
    ⟨(some (45, false)), (some 48), .mv 48 (.s 47), false⟩,
    ⟨(some (48, true)), (some 49), .mv 49 (.s 8), false⟩,
    ⟨(some (48, true)), (some 50), .bin 50 .neq (.s 49) (.k (Value.int .i64 2)), false⟩,
    ⟨(some (45, false)), (some 51), .pk 51 (.s 48) (.s 50) (.k (Value.bool false)), true⟩,
    ⟨none, (some 52), .pk 52 (.s 45) (.k (Value.bool true)) (.s 51), false⟩]))
  (.cond (.s 52) (.seq (.ops [⟨none, (some 6), .mv 6 (.k (Value.bool false)), false⟩])
  .ret) .skip))
  (.seq (.seq (.keep [1, 2]) (.ops [⟨none, (some 53), .mv 53 (.s 1), false⟩,
    ⟨none, (some 54), .call (some 54) 39 false [(.s 53)], false⟩,
    ⟨none, (some 9), .mv 9 (.s 54), false⟩]))
  (.seq (.seq (.keep [1, 2, 9]) (.ops [⟨none, (some 56), .mv 56 (.s 9), false⟩,
    ⟨none, (some 57), .mv 57 (.s 2), false⟩,
    ⟨none, (some 58), .bin 58 .add (.s 56) (.s 57), false⟩,
    ⟨none, (some 59), .call (some 59) 40 false [(.s 58)], false⟩,
    ⟨none, (some 55), .mv 55 (.s 59), false⟩,
    ⟨none, (some 60), .ex 60 (.s 55) 0, false⟩,
    ⟨none, (some 61), .ex 61 (.s 55) 1, false⟩,
    ⟨none, (some 62), .ex 62 (.s 55) 2, false⟩,
    ⟨none, (some 10), .mv 10 (.s 60), false⟩,
    ⟨none, (some 11), .mv 11 (.s 61), true⟩,
    ⟨none, (some 12), .mv 12 (.s 62), false⟩]))
  (.seq (.seq (.ops [⟨none, (some 13), .mv 13 (.k (Value.int .i64 0)), false⟩])
  (.block 0 (.loop [1, 2, 9, 10, 11, 12, 13] (.seq (.seq (.seq (.keep [1, 2, 9, 10, 11, 12, 13]) (.ops [⟨none, (some 63), .mv 63 (.s 13), false⟩,
    ⟨none, (some 64), .mv 64 (.s 9), false⟩,
    ⟨none, (some 65), .lens 65 (.s 64), false⟩,
    ⟨none, (some 66), .bin 66 .lss (.s 63) (.s 65), false⟩]))
  (.cond (.s 66) .skip (.exit 0)))
  (.seq (.block 1 (.seq (.seq (.keep [1, 2, 9, 10, 11, 12, 13]) (.ops [⟨none, (some 69), .mv 69 (.s 9), false⟩,
    ⟨none, (some 70), .mv 70 (.s 13), false⟩,
    ⟨none, (some 71), .ixs 71 (.s 69) (.s 70), false⟩,
    ⟨none, (some 72), .bin 72 .lss (.s 71) (.k (Value.int .u8 32)), false⟩,
    ⟨none, (some 73), .mv 73 (.s 72), false⟩,
    ⟨(some (73, false)), (some 74), .mv 74 (.s 9), false⟩,
    ⟨(some (73, false)), (some 75), .mv 75 (.s 13), false⟩,
    ⟨(some (73, false)), (some 76), .ixs 76 (.s 74) (.s 75), false⟩,
    ⟨(some (73, false)), (some 77), .bin 77 .gtr (.s 76) (.k (Value.int .u8 126)), false⟩,
    ⟨none, (some 78), .pk 78 (.s 73) (.k (Value.bool true)) (.s 77), true⟩]))
  (.cond (.s 78) (.seq (.ops [⟨none, (some 6), .mv 6 (.k (Value.bool false)), false⟩])
  .ret) .skip)))
  (.seq (.keep [1, 2, 9, 10, 11, 12, 13]) (.ops [⟨none, (some 67), .mv 67 (.s 13), false⟩,
    ⟨none, (some 68), .binc 68 .add (.s 67) (.k (Value.int .i64 1)), false⟩,
    ⟨none, (some 13), .mv 13 (.s 68), false⟩])))))))
  (.seq (.seq (.keep [1, 2, 10, 11, 12]) (.ops [⟨none, (some 79), .mv 79 (.s 12), false⟩,
    ⟨none, (some 80), .bin 80 .eql (.s 79) (.k (Value.int .i64 0)), false⟩,
    ⟨none, (some 81), .mv 81 (.s 80), false⟩,
    ⟨(some (81, true)), (some 82), .mv 82 (.s 10), false⟩,
    ⟨(some (81, true)), (some 83), .mv 83 (.s 1), false⟩,
    ⟨(some (81, true)), (some 84), .bin 84 .eql (.s 82) (.s 83), false⟩,
    ⟨none, (some 85), .pk 85 (.s 81) (.s 84) (.k (Value.bool false)), false⟩,
    ⟨none, (some 86), .mv 86 (.s 85), false⟩,
    ⟨(some (86, true)), (some 87), .mv 87 (.s 11), false⟩,
    ⟨(some (86, true)), (some 88), .mv 88 (.s 2), true⟩,
    ⟨(some (86, true)), (some 89), .bin 89 .eql (.s 87) (.s 88), false⟩,
    ⟨none, (some 90), .pk 90 (.s 86) (.s 89) (.k (Value.bool false)), false⟩,
    ⟨none, (some 6), .mv 6 (.s 90), false⟩]))
  .ret))))))))
theorem cc11 : (Tryd.f11.body).bind (cc Tryd.prog Tryd.f11.ntmps A11) = some S11 := by kernel_rfl
def R11 : List RR := [.sl 6]
theorem cr11 : Tryd.f11.results.toList.map (crr Tryd.prog) = R11.map some := by kernel_rfl
theorem nm11 : (Tryd.f11.name == "runtime.NumGoroutine") = false := by kernel_rfl
theorem fn11 : Tryd.prog.funcs[11]? = some Tryd.f11 := by kernel_rfl
theorem bd11 : ∃ b, Tryd.f11.body = some b ∧ cc Tryd.prog Tryd.f11.ntmps A11 b = some S11 := Option.bind_eq_some_iff.1 cc11
theorem sd11 {G : World → Prop} {T : FuncId → Contract} {C : Contract} (hT : ∀ f, Sound G Tryd.prog f (T f)) (hl : C.lawful) (hC : ∀ args st K, C.wp args st K → args.length ≤ 91 ∧ ∃ os op, xv T st.n S11 (st0 args st) (retK R11 st.n os K) (panK st.n op K)) : Sound G Tryd.prog 11 C := by
  obtain ⟨b, hb, hc⟩ := bd11
  rw [xv_eq] at hC
  exact sound_of_ev mo fn11 hb nm11 hc cr11 hT hl hC

/-! 38: redline/redlinelaw01.works -/
def A38 : Ann := ⟨fun r i => if r = 3 ∧ i = 23 then 1 else 0, fun _ => none, fun r => if r = 1 then some (false, []) else if r = 2 then some (false, [1, 2]) else if r = 3 then some (false, [1, 2, 3, 4, 5]) else none, fun _ => []⟩
def S38 : SCode :=
  (.seq (.ops [⟨none, (some 0), .mv 0 (.k (Value.bool false)), false⟩])
  (.seq (.seq (.keep []) (.ops [⟨none, (some 7), .call (some 7) 30 false [(.k (Value.string ⟨#[49, 55]⟩))], false⟩,
    ⟨none, (some 6), .mv 6 (.s 7), false⟩,
    ⟨none, (some 8), .ex 8 (.s 6) 0, false⟩,
    ⟨none, (some 9), .ex 9 (.s 6) 1, false⟩,
    ⟨none, (some 1), .mv 1 (.s 8), false⟩,
    ⟨none, (some 2), .mv 2 (.s 9), false⟩]))
  (.seq (.seq (.keep [1, 2]) (.ops [⟨none, (some 11), .call (some 11) 40 false [(.k (Value.string ⟨#[34, 97, 92, 48, 97, 34, 120]⟩))], false⟩,
    ⟨none, (some 10), .mv 10 (.s 11), false⟩,
    ⟨none, (some 12), .ex 12 (.s 10) 0, false⟩,
    ⟨none, (some 13), .ex 13 (.s 10) 1, false⟩,
    ⟨none, (some 14), .ex 14 (.s 10) 2, false⟩,
    ⟨none, (some 3), .mv 3 (.s 12), false⟩,
    ⟨none, (some 4), .mv 4 (.s 13), false⟩,
    ⟨none, (some 5), .mv 5 (.s 14), false⟩]))
  (.seq (.seq (.keep [1, 2, 3, 4, 5]) (.ops [⟨none, (some 15), .call (some 15) 32 false [(.k (Value.int .i64 (-12)))], false⟩,
    ⟨none, (some 16), .bin 16 .eql (.s 15) (.k (Value.string ⟨#[45, 49, 50]⟩)), false⟩,
    ⟨none, (some 17), .mv 17 (.s 16), false⟩,
    ⟨(some (17, true)), (some 18), .mv 18 (.s 1), false⟩,
    ⟨(some (17, true)), (some 19), .bin 19 .eql (.s 18) (.k (Value.int .i64 17)), false⟩,
    ⟨none, (some 20), .pk 20 (.s 17) (.s 19) (.k (Value.bool false)), false⟩,
    ⟨none, (some 21), .mv 21 (.s 20), false⟩,
    ⟨(some (21, true)), (some 22), .mv 22 (.s 2), false⟩,
    ⟨(some (21, true)), (some 23), .bin 23 .eql (.s 22) (.k (Value.int .i64 0)), false⟩,
    ⟨none, (some 24), .pk 24 (.s 21) (.s 23) (.k (Value.bool false)), true⟩,
    ⟨none, (some 25), .mv 25 (.s 24), false⟩,
    ⟨(some (25, true)), (some 26), .mv 26 (.s 3), false⟩,
    ⟨(some (25, true)), (some 27), .bin 27 .eql (.s 26) (.k (Value.string ⟨#[97, 10]⟩)), false⟩,
    ⟨none, (some 28), .pk 28 (.s 25) (.s 27) (.k (Value.bool false)), false⟩,
    ⟨none, (some 29), .mv 29 (.s 28), false⟩,
    ⟨(some (29, true)), (some 30), .mv 30 (.s 4), false⟩,
    ⟨(some (29, true)), (some 31), .bin 31 .eql (.s 30) (.k (Value.string ⟨#[120]⟩)), false⟩,
    ⟨none, (some 32), .pk 32 (.s 29) (.s 31) (.k (Value.bool false)), false⟩,
    ⟨none, (some 33), .mv 33 (.s 32), false⟩,
    ⟨(some (33, true)), (some 34), .mv 34 (.s 5), true⟩,
    ⟨(some (33, true)), (some 35), .bin 35 .eql (.s 34) (.k (Value.int .i64 0)), false⟩,
    ⟨none, (some 36), .pk 36 (.s 33) (.s 35) (.k (Value.bool false)), false⟩,
    ⟨none, (some 37), .mv 37 (.s 36), false⟩,
    ⟨(some (37, true)), (some 38), .call (some 38) 39 true [(.k (Value.string ⟨#[10]⟩))], false⟩,
    ⟨(some (37, true)), (some 39), .bin 39 .eql (.s 38) (.k (Value.string ⟨#[34, 92, 48, 97, 34]⟩)), false⟩,
    ⟨none, (some 40), .pk 40 (.s 37) (.s 39) (.k (Value.bool false)), false⟩,
    ⟨none, (some 0), .mv 0 (.s 40), false⟩]))
  .ret))))
theorem cc38 : (Tryd.f38.body).bind (cc Tryd.prog Tryd.f38.ntmps A38) = some S38 := by kernel_rfl
def R38 : List RR := [.sl 0]
theorem cr38 : Tryd.f38.results.toList.map (crr Tryd.prog) = R38.map some := by kernel_rfl
theorem nm38 : (Tryd.f38.name == "runtime.NumGoroutine") = false := by kernel_rfl
theorem fn38 : Tryd.prog.funcs[38]? = some Tryd.f38 := by kernel_rfl
theorem bd38 : ∃ b, Tryd.f38.body = some b ∧ cc Tryd.prog Tryd.f38.ntmps A38 b = some S38 := Option.bind_eq_some_iff.1 cc38
theorem sd38 {G : World → Prop} {T : FuncId → Contract} {C : Contract} (hT : ∀ f, Sound G Tryd.prog f (T f)) (hl : C.lawful) (hC : ∀ args st K, C.wp args st K → args.length ≤ 41 ∧ ∃ os op, xv T st.n S38 (st0 args st) (retK R38 st.n os K) (panK st.n op K)) : Sound G Tryd.prog 38 C := by
  obtain ⟨b, hb, hc⟩ := bd38
  rw [xv_eq] at hC
  exact sound_of_ev mo fn38 hb nm38 hc cr38 hT hl hC

end Go.Proofs.YtpbkdcfjlbdgfaaDoor
set_option linter.unusedVariables false
set_option linter.unusedSimpArgs false
namespace Go.Proofs.YtpbkdcfjlbdgfaaDoor
open Go Go.Ev
set_option maxRecDepth 100000
variable {G : World → Prop}
def CTrue0 : Contract := pureC fun args => match args with
  | [] => some (True, .d (.v (.bool true)))
  | _ => none
theorem w1 : parseS [49, 55] = (17, 0) := by decide
theorem w2 : unqL [34, 97, 92, 48, 97, 34, 120] = some ([97, 10], [120]) := by
  have h : quo [97, 10] ++ [120] = [34, 97, 92, 48, 97, 34, 120] := by decide
  rw [← h, unq_back]
theorem w3 : Lib.itoa (-12) = [45, 49, 50] := by
  have h := Lib.itoa_neg 12 (by omega)
  rw [Lib.decDigits_two (by omega) (by omega)] at h
  exact h
theorem w4 : quo [10] = [34, 92, 48, 97, 34] := by decide
theorem s38 (hG : ∀ w, G w → Pow10 w) (hE : ∀ w, G w → ErrR w) : Sound G Tryd.prog 38 CTrue0 := by
  refine sd38 (T := tabT [(30, CParse), (40, C40), (32, CItoa), (39, C39)]) (tab_cons (s30 hE) (tab_cons s40 (tab_cons (s32 hG) (tab_cons s39 tab_nil)))) (pureC_lawful _) (pure_hX fun args p x K h hp hk => ?_)
  split at h <;> simp only [Option.some.injEq, Prod.mk.injEq, reduceCtorEq] at h
  obtain ⟨rfl, rfl⟩ := h
  refine ⟨Nat.le_of_ble_eq_true rfl, ?_⟩
  have p1 := congrArg Prod.fst w1
  have p2 := congrArg Prod.snd w1
  simp only at p1 p2
  have e1 : (({ data := #[49, 55] } : ByteArray)).data.toList = [49, 55] := rfl
  have e2 : (({ data := #[34, 97, 92, 48, 97, 34, 120] } : ByteArray)).data.toList = [34, 97, 92, 48, 97, 34, 120] := rfl
  have e4 : (({ data := #[10] } : ByteArray)).data.toList = [10] := rfl
  simp -dsimp -implicitDefEqProofs only [S38, R38, CParse, CItoa, C40, C39, e1, e2, e4, p1, p2, w2, w3, w4, unqS, ↓Ev.xStp_eq, ↓Ev.P, Ev.Q, eq_self, forall_eq_or_imp, implies_true, forall_const, forall_eq, ↓reduceIte, reduceIte, Nat.reduceEqDiff, Nat.reduceAdd, reduceCtorEq, Nat.reduceSub, Int.reduceToNat, Int.reduceLE, Int.reduceLT, Int.reduceNeg, Nat.reduceBEq, Nat.reduceMul, Nat.reduceLeDiff, Nat.reduceMod, UInt8.reduceOfNat, Nat.reduceLT, Int.reduceEq, Int.reduceAdd, Int.reduceSub, Int.reduceMul]
  repeat' (first | with_reducible assumption | refine And.intro ?_ ?_ | intro _)
  all_goals first | omega | decide | exact hk | skip
def CLawB : Contract := pureC fun args => match args with
  | [.d (.v (.int .i64 n)), .d (.v (.string s)), .d (.v (.string r))] => some ((-9223372036854775808 ≤ n ∧ n ≤ 9223372036854775807) ∧ s.size ≤ 1073741824 ∧ r.size ≤ 1073741824, .d (.v (.bool true)))
  | _ => none
set_option maxHeartbeats 1000000 in
theorem s11 (hG : ∀ w, G w → Pow10 w) (hE : ∀ w, G w → ErrR w) : Sound G Tryd.prog 11 CLawB := by
  refine sd11 (T := tabT [(38, CTrue0), (30, CParse), (40, C40), (32, CItoa), (39, C39)]) (tab_cons (s38 hG hE) (tab_cons (s30 hE) (tab_cons s40 (tab_cons (s32 hG) (tab_cons s39 tab_nil))))) (pureC_lawful _) (pure_hX fun args p x K h hp hk => ?_)
  split at h <;> simp only [Option.some.injEq, Prod.mk.injEq, reduceCtorEq] at h
  obtain ⟨rfl, rfl⟩ := h
  refine ⟨Nat.le_of_ble_eq_true rfl, ?_⟩
  rename_i n s r
  obtain ⟨s, rfl⟩ := ex_str s
  obtain ⟨r, rfl⟩ := ex_str r
  simp only [sem_str] at hp
  obtain ⟨hn, hs, hr⟩ := hp
  have hil := itoa_len (n := n) (by omega)
  have hql := quo_len s
  have hub := unq_back s r
  have hqp := quo_plain s
  obtain ⟨a, e, hP, hc⟩ : ∃ a e : Int, parseS (Lib.itoa n) = (a, e) ∧ ¬ ((0 ≤ n ∧ n ≤ 2147483647 ∧ (a ≠ n ∨ e ≠ 0)) ∨ (n < 0 ∧ e ≠ 3) ∨ (2147483647 < n ∧ e ≠ 2)) := by
    refine ⟨(parseS (Lib.itoa n)).1, (parseS (Lib.itoa n)).2, rfl, ?_⟩
    rw [parse_text]
    split
    · simp only; omega
    · split
      · simp only; omega
      · simp only; omega
  simp -dsimp -implicitDefEqProofs only [S11, R11, CTrue0, CParse, CItoa, C40, C39, hP, hub, unqS, List.length_append, ↓Ev.xStp_eq, ↓Ev.P, Ev.Q, eq_self, forall_eq_or_imp, implies_true, forall_const, forall_eq, ↓reduceIte, reduceIte, Nat.reduceEqDiff, Nat.reduceAdd, reduceCtorEq, Nat.reduceSub, Int.reduceToNat, Int.reduceLE, Int.reduceLT, Int.reduceNeg, Nat.reduceBEq, Nat.reduceMul, Nat.reduceLeDiff, Nat.reduceMod, UInt8.reduceOfNat, Nat.reduceLT, Int.reduceEq, Int.reduceAdd, Int.reduceSub, Int.reduceMul]
  repeat' (first | with_reducible assumption | refine And.intro ?_ ?_ | intro _)
  all_goals first | omega | skip
  refine xLoop_intro (fun k st => ∃ i : Nat, i ≤ (quo s).length ∧ k = (quo s).length - i ∧
      st = ⟨[(1, .d (.v (.string ⟨s.toArray⟩))), (2, .d (.v (.string ⟨r.toArray⟩))), (9, .d (.v (.string ⟨(quo s).toArray⟩))), (10, .d (.v (.string ⟨s.toArray⟩))), (11, .d (.v (.string ⟨r.toArray⟩))), (12, .d (.v (.int .i64 0))), (13, .d (.v (.int .i64 i)))], 0, []⟩) (quo s).length [] ?_ ?_ ?_
  · simp -dsimp -implicitDefEqProofs only [↓Ev.xStp_eq, ↓Ev.P, Ev.Q, eq_self, forall_eq_or_imp, implies_true, forall_const, forall_eq, ↓reduceIte, reduceIte, Nat.reduceEqDiff, Nat.reduceAdd, reduceCtorEq, Nat.reduceSub, Int.reduceToNat, Int.reduceLE, Int.reduceLT, Int.reduceNeg, Nat.reduceBEq, Nat.reduceMul, Nat.reduceLeDiff, Nat.reduceMod, UInt8.reduceOfNat, Nat.reduceLT, Int.reduceEq, Int.reduceAdd, Int.reduceSub, Int.reduceMul]
  · simp -dsimp -implicitDefEqProofs only [↓Ev.xStp_eq, ↓Ev.P, Ev.Q, eq_self, forall_eq_or_imp, implies_true, forall_const, forall_eq, ↓reduceIte, reduceIte, Nat.reduceEqDiff, Nat.reduceAdd, reduceCtorEq, Nat.reduceSub, Int.reduceToNat, Int.reduceLE, Int.reduceLT, Int.reduceNeg, Nat.reduceBEq, Nat.reduceMul, Nat.reduceLeDiff, Nat.reduceMod, UInt8.reduceOfNat, Nat.reduceLT, Int.reduceEq, Int.reduceAdd, Int.reduceSub, Int.reduceMul]
    exact ⟨0, by omega, by omega, rfl⟩
  · rintro k st ⟨i, hi, hk2, rfl⟩
    by_cases hil : i < (quo s).length
    · have hi3 : (i : Int) < (quo s).length := by omega
      have hb := hqp ((quo s).getD i 0) (by simp [List.getD_eq_getElem?_getD, List.getElem?_eq_getElem hil])
      have d3 : ¬ (((quo s).getD i 0).toNat : Int) < 32 := by omega
      have d4 : ¬ (126 : Int) < (((quo s).getD i 0).toNat : Int) := by omega
      simp -dsimp -implicitDefEqProofs only [hi3, d3, d4, ↓Ev.xStp_eq, ↓Ev.P, Ev.Q, eq_self, forall_eq_or_imp, implies_true, forall_const, forall_eq, ↓reduceIte, reduceIte, Nat.reduceEqDiff, Nat.reduceAdd, reduceCtorEq, Nat.reduceSub, Int.reduceToNat, Int.reduceLE, Int.reduceLT, Int.reduceNeg, Nat.reduceBEq, Nat.reduceMul, Nat.reduceLeDiff, Nat.reduceMod, UInt8.reduceOfNat, Nat.reduceLT, Int.reduceEq, Int.reduceAdd, Int.reduceSub, Int.reduceMul]
      repeat' (first | with_reducible assumption | refine And.intro ?_ ?_ | intro _)
      all_goals try omega
      refine xAgain_intro ((quo s).length - (i + 1)) [] (by omega) (by simp -dsimp -implicitDefEqProofs only [↓Ev.xStp_eq, ↓Ev.P, Ev.Q, eq_self, forall_eq_or_imp, implies_true, forall_const, forall_eq, ↓reduceIte, reduceIte, Nat.reduceEqDiff, Nat.reduceAdd, reduceCtorEq, Nat.reduceSub, Int.reduceToNat, Int.reduceLE, Int.reduceLT, Int.reduceNeg, Nat.reduceBEq, Nat.reduceMul, Nat.reduceLeDiff, Nat.reduceMod, UInt8.reduceOfNat, Nat.reduceLT, Int.reduceEq, Int.reduceAdd, Int.reduceSub, Int.reduceMul]) ⟨i + 1, by omega, rfl, ?_⟩
      simp -dsimp -implicitDefEqProofs only [↓Ev.xStp_eq, ↓Ev.P, Ev.Q, eq_self, forall_eq_or_imp, implies_true, forall_const, forall_eq, ↓reduceIte, reduceIte, Nat.reduceEqDiff, Nat.reduceAdd, reduceCtorEq, Nat.reduceSub, Int.reduceToNat, Int.reduceLE, Int.reduceLT, Int.reduceNeg, Nat.reduceBEq, Nat.reduceMul, Nat.reduceLeDiff, Nat.reduceMod, UInt8.reduceOfNat, Nat.reduceLT, Int.reduceEq, Int.reduceAdd, Int.reduceSub, Int.reduceMul]
      rfl
    · have hi3 : ¬ (i : Int) < (quo s).length := by omega
      simp -dsimp -implicitDefEqProofs only [hi3, ↓Ev.xStp_eq, ↓Ev.P, Ev.Q, eq_self, forall_eq_or_imp, implies_true, forall_const, forall_eq, ↓reduceIte, reduceIte, Nat.reduceEqDiff, Nat.reduceAdd, reduceCtorEq, Nat.reduceSub, Int.reduceToNat, Int.reduceLE, Int.reduceLT, Int.reduceNeg, Nat.reduceBEq, Nat.reduceMul, Nat.reduceLeDiff, Nat.reduceMod, UInt8.reduceOfNat, Nat.reduceLT, Int.reduceEq, Int.reduceAdd, Int.reduceSub, Int.reduceMul]
      exact hk
end Go.Proofs.YtpbkdcfjlbdgfaaDoor
set_option linter.unusedVariables false
set_option linter.unusedSimpArgs false
namespace Go.Ev
open Go
/-! Rows of texts. -/
def strRows (l : List (List UInt8)) : List (List D) := l.map fun s => [.v (.string ⟨s.toArray⟩)]
theorem strRows_len (l : List (List UInt8)) : (strRows l).length = l.length := by simp [strRows]
theorem strRows_get {l : List (List UInt8)} {i : Nat} (h : i < l.length) : (strRows l)[i]? = some [.v (.string ⟨(l.getD i []).toArray⟩)] := by
  simp [strRows, List.getD_eq_getElem?_getD, List.getElem?_eq_getElem h]
theorem strRows_all (l : List (List UInt8)) : (∀ r ∈ strRows l, r.length = 1) = True := by
  simp only [strRows, List.mem_map, eq_iff_iff, iff_true]
  rintro r ⟨s, _, rfl⟩; rfl
theorem strRows_sub (l : List (List UInt8)) (a b : Nat) : ((strRows l).take a).drop b = strRows ((l.take a).drop b) := by simp [strRows, List.map_take, List.map_drop]
def unStr : List (List D) → Option (List (List UInt8))
  | [] => some []
  | [.v (.string s)] :: r => (unStr r).map (s.data.toList :: ·)
  | _ :: _ => none
theorem unStr_rows : ∀ l : List (List UInt8), unStr (strRows l) = some l
  | [] => rfl
  | s :: l => by
    have h := unStr_rows l
    unfold strRows at h
    simp [strRows, unStr, h]
theorem unStr_eq : ∀ {rows : List (List D)} {l : List (List UInt8)}, unStr rows = some l → rows = strRows l
  | [], l, h => by simp only [unStr, Option.some.injEq] at h; subst h; rfl
  | r :: rs, l, h => by
    unfold unStr at h
    split at h
    · rename_i e; cases e
    · rename_i s r' e
      simp only [List.cons.injEq] at e
      obtain ⟨rfl, rfl⟩ := e
      obtain ⟨m, h1, rfl⟩ := Option.map_eq_some_iff.1 h
      rw [unStr_eq h1]
      simp [strRows]
    · cases h
/-! Rows of four ints. -/
def q4Row (c : Int × Int × Int × Int) : List D := [.v (.int .i64 c.1), .v (.int .i64 c.2.1), .v (.int .i64 c.2.2.1), .v (.int .i64 c.2.2.2)]
def q4Rows (l : List (Int × Int × Int × Int)) : List (List D) := l.map q4Row
theorem q4Rows_len (l : List (Int × Int × Int × Int)) : (q4Rows l).length = l.length := by simp [q4Rows]
theorem q4Rows_get {l : List (Int × Int × Int × Int)} {i : Nat} (h : i < l.length) : (q4Rows l)[i]? = some (q4Row (l.getD i (0, 0, 0, 0))) := by
  simp [q4Rows, List.getD_eq_getElem?_getD, List.getElem?_eq_getElem h]
theorem q4Rows_all (l : List (Int × Int × Int × Int)) : (∀ r ∈ q4Rows l, r.length = 4) = True := by
  simp only [q4Rows, List.mem_map, eq_iff_iff, iff_true]
  rintro r ⟨s, _, rfl⟩; rfl
def unQ4 : List (List D) → Option (List (Int × Int × Int × Int))
  | [] => some []
  | [.v (.int .i64 a), .v (.int .i64 b), .v (.int .i64 c), .v (.int .i64 d)] :: r => (unQ4 r).map ((a, b, c, d) :: ·)
  | _ :: _ => none
theorem unQ4_rows : ∀ l : List (Int × Int × Int × Int), unQ4 (q4Rows l) = some l
  | [] => rfl
  | (a, b, c, d) :: l => by
    have h := unQ4_rows l
    unfold q4Rows at h
    simp [q4Rows, q4Row, unQ4, h]
theorem unQ4_eq : ∀ {rows : List (List D)} {l : List (Int × Int × Int × Int)}, unQ4 rows = some l → rows = q4Rows l
  | [], l, h => by simp only [unQ4, Option.some.injEq] at h; subst h; rfl
  | r :: rs, l, h => by
    unfold unQ4 at h
    split at h
    · rename_i e; cases e
    · rename_i a b c d r' e
      simp only [List.cons.injEq] at e
      obtain ⟨rfl, rfl⟩ := e
      obtain ⟨m, h1, rfl⟩ := Option.map_eq_some_iff.1 h
      rw [unQ4_eq h1]
      simp [q4Rows, q4Row]
    · cases h
end Go.Ev
namespace Go.Proofs.YtpbkdcfjlbdgfaaDoor
open Go Go.Ev
set_option maxRecDepth 100000
variable {G : World → Prop}
/-- A line without its line feed. -/
def bareS (s : List UInt8) : List UInt8 × Bool := if s.getLast? = some 10 then (s.dropLast, true) else (s, false)
def CBare : Contract := pureC fun args => match args with
  | [.d (.v (.string s))] => some (s.size ≤ 1099511627776, .tup [.d (.v (str (bareS s.data.toList).1)), .d (.v (.bool (bareS s.data.toList).2))])
  | _ => none
def hasSuf (s p : List UInt8) : Bool := decide ((p.length : Int) ≤ (s.length : Int)) && decide (s.drop (s.length - p.length) = p)
def CSuf : Contract := pureC fun args => match args with
  | [.d (.v (.string s)), .d (.v (.string p))] => some (s.size ≤ 1099511627776 ∧ p.size ≤ 1099511627776, .d (.v (.bool (hasSuf s.data.toList p.data.toList))))
  | _ => none
theorem s171 : Sound G Tryd.prog 171 CSuf := by
  refine sd171 (T := tabT []) tab_nil (pureC_lawful _) (pure_hX fun args p x K h hp hk => ?_)
  split at h <;> simp only [Option.some.injEq, Prod.mk.injEq, reduceCtorEq] at h
  obtain ⟨rfl, rfl⟩ := h
  refine ⟨Nat.le_of_ble_eq_true rfl, ?_⟩
  rename_i s p
  obtain ⟨s, rfl⟩ := ex_str s
  obtain ⟨p, rfl⟩ := ex_str p
  simp only [sem_str] at hk hp
  simp -dsimp -implicitDefEqProofs only [S171, R171, ↓Ev.xStp_eq, ↓Ev.P, Ev.Q, eq_self, forall_eq_or_imp, implies_true, forall_const, forall_eq, ↓reduceIte, reduceIte, Nat.reduceEqDiff, Nat.reduceAdd, reduceCtorEq, Nat.reduceSub, Int.reduceToNat, Int.reduceLE, Int.reduceLT, Int.reduceNeg, Nat.reduceBEq, Nat.reduceMul, Nat.reduceLeDiff, Nat.reduceMod, UInt8.reduceOfNat, Nat.reduceLT, Int.reduceEq, Int.reduceAdd, Int.reduceSub, Int.reduceMul]
  repeat' (first | with_reducible assumption | refine And.intro ?_ ?_ | intro _)
  all_goals first | omega | exact hk
def CCutS : Contract := pureC fun args => match args with
  | [.d (.v (.string s)), .d (.v (.string p))] => some (s.size ≤ 1099511627776 ∧ p.size ≤ 1099511627776, .tup [.d (.v (str (if hasSuf s.data.toList p.data.toList then s.data.toList.take (s.data.toList.length - p.data.toList.length) else s.data.toList))), .d (.v (.bool (hasSuf s.data.toList p.data.toList)))])
  | _ => none
theorem s143 : Sound G Tryd.prog 143 CCutS := by
  refine sd143 (T := tabT [(171, CSuf)]) (tab_cons s171 tab_nil) (pureC_lawful _) (pure_hX fun args p x K h hp hk => ?_)
  split at h <;> simp only [Option.some.injEq, Prod.mk.injEq, reduceCtorEq] at h
  obtain ⟨rfl, rfl⟩ := h
  refine ⟨Nat.le_of_ble_eq_true rfl, ?_⟩
  rename_i s p
  obtain ⟨s, rfl⟩ := ex_str s
  obtain ⟨p, rfl⟩ := ex_str p
  simp only [sem_str] at hk hp
  simp -dsimp -implicitDefEqProofs only [S143, R143, CSuf, ↓Ev.xStp_eq, ↓Ev.P, Ev.Q, eq_self, forall_eq_or_imp, implies_true, forall_const, forall_eq, ↓reduceIte, reduceIte, Nat.reduceEqDiff, Nat.reduceAdd, reduceCtorEq, Nat.reduceSub, Int.reduceToNat, Int.reduceLE, Int.reduceLT, Int.reduceNeg, Nat.reduceBEq, Nat.reduceMul, Nat.reduceLeDiff, Nat.reduceMod, UInt8.reduceOfNat, Nat.reduceLT, Int.reduceEq, Int.reduceAdd, Int.reduceSub, Int.reduceMul]
  refine ⟨hp, fun h => ?_, fun h => ?_⟩
  · rw [h] at hk; exact hk
  · have : p.length ≤ s.length := by simp only [hasSuf, Bool.and_eq_true, decide_eq_true_eq] at h; omega
    rw [h] at hk
    repeat' (first | with_reducible assumption | refine And.intro ?_ ?_ | intro _)
    all_goals first | omega | exact hk
theorem s107 : Sound G Tryd.prog 107 CCutS := by
  refine sd107 (T := tabT [(143, CCutS)]) (tab_cons s143 tab_nil) (pureC_lawful _) (pure_hX fun args p x K h hp hk => ?_)
  split at h <;> simp only [Option.some.injEq, Prod.mk.injEq, reduceCtorEq] at h
  obtain ⟨rfl, rfl⟩ := h
  refine ⟨Nat.le_of_ble_eq_true rfl, ?_⟩
  simp -dsimp -implicitDefEqProofs only [S107, R107, CCutS, ↓Ev.xStp_eq, ↓Ev.P, Ev.Q, eq_self, forall_eq_or_imp, implies_true, forall_const, forall_eq, ↓reduceIte, reduceIte, Nat.reduceEqDiff, Nat.reduceAdd, reduceCtorEq, Nat.reduceSub, Int.reduceToNat, Int.reduceLE, Int.reduceLT, Int.reduceNeg, Nat.reduceBEq, Nat.reduceMul, Nat.reduceLeDiff, Nat.reduceMod, UInt8.reduceOfNat, Nat.reduceLT, Int.reduceEq, Int.reduceAdd, Int.reduceSub, Int.reduceMul]
  exact ⟨hp, hk⟩
theorem suf10 (s : List UInt8) : hasSuf s [10] = (bareS s).2 ∧ (if hasSuf s [10] then s.take (s.length - 1) else s) = (bareS s).1 := by
  rcases List.eq_nil_or_concat s with rfl | ⟨m, c, rfl⟩
  · exact ⟨rfl, rfl⟩
  · rw [List.concat_eq_append]
    have e : hasSuf (m ++ [c]) [10] = decide (c = 10) := by
      unfold hasSuf
      have h1 : decide ((([10] : List UInt8).length : Int) ≤ ((m ++ [c]).length : Int)) = true := by simp; omega
      have h2 : (m ++ [c]).drop ((m ++ [c]).length - ([10] : List UInt8).length) = [c] := by simp
      rw [h1, h2]; simp
    rw [e]
    unfold bareS
    by_cases h : c = 10
    · subst h; simp
    · simp [h]
theorem s58 : Sound G Tryd.prog 58 CBare := by
  refine sd58 (T := tabT [(107, CCutS)]) (tab_cons s107 tab_nil) (pureC_lawful _) (pure_hX fun args p x K h hp hk => ?_)
  split at h <;> simp only [Option.some.injEq, Prod.mk.injEq, reduceCtorEq] at h
  obtain ⟨rfl, rfl⟩ := h
  refine ⟨Nat.le_of_ble_eq_true rfl, ?_⟩
  rename_i s
  obtain ⟨s, rfl⟩ := ex_str s
  simp only [sem_str] at hk hp
  obtain ⟨h1, h2⟩ := suf10 s
  rw [← h1, ← h2] at hk
  simp -dsimp -implicitDefEqProofs only [S58, R58, CCutS, ↓Ev.xStp_eq, ↓Ev.P, Ev.Q, eq_self, forall_eq_or_imp, implies_true, forall_const, forall_eq, ↓reduceIte, reduceIte, Nat.reduceEqDiff, Nat.reduceAdd, reduceCtorEq, Nat.reduceSub, Int.reduceToNat, Int.reduceLE, Int.reduceLT, Int.reduceNeg, Nat.reduceBEq, Nat.reduceMul, Nat.reduceLeDiff, Nat.reduceMod, UInt8.reduceOfNat, Nat.reduceLT, Int.reduceEq, Int.reduceAdd, Int.reduceSub, Int.reduceMul]
  exact ⟨hp, hk⟩
theorem bare_get (s : List UInt8) : (bareS s).2 = (decide (0 < s.length) && decide ((s.getD (s.length - 1) 0) = 10)) ∧ (bareS s).1 = if (bareS s).2 then s.take (s.length - 1) else s := by
  rcases List.eq_nil_or_concat s with rfl | ⟨m, c, rfl⟩
  · exact ⟨rfl, rfl⟩
  · rw [List.concat_eq_append]
    unfold bareS
    by_cases h : c = 10
    · subst h; simp
    · simp [h]
theorem s61 : Sound G Tryd.prog 61 CBare := by
  refine sd61 (T := tabT []) tab_nil (pureC_lawful _) (pure_hX fun args p x K h hp hk => ?_)
  split at h <;> simp only [Option.some.injEq, Prod.mk.injEq, reduceCtorEq] at h
  obtain ⟨rfl, rfl⟩ := h
  refine ⟨Nat.le_of_ble_eq_true rfl, ?_⟩
  rename_i s
  obtain ⟨s, rfl⟩ := ex_str s
  simp only [sem_str] at hk hp
  obtain ⟨h1, h2⟩ := bare_get s
  simp -dsimp -implicitDefEqProofs only [S61, R61, ↓Ev.xStp_eq, ↓Ev.P, Ev.Q, eq_self, forall_eq_or_imp, implies_true, forall_const, forall_eq, ↓reduceIte, reduceIte, Nat.reduceEqDiff, Nat.reduceAdd, reduceCtorEq, Nat.reduceSub, Int.reduceToNat, Int.reduceLE, Int.reduceLT, Int.reduceNeg, Nat.reduceBEq, Nat.reduceMul, Nat.reduceLeDiff, Nat.reduceMod, UInt8.reduceOfNat, Nat.reduceLT, Int.reduceEq, Int.reduceAdd, Int.reduceSub, Int.reduceMul]
  repeat' (first | with_reducible assumption | refine And.intro ?_ ?_ | intro _)
  all_goals try omega
  · rename_i h
    have : (bareS s).2 = false := by
      rw [h1, Bool.and_eq_false_iff]
      rcases h with h | h
      · left; rw [decide_eq_false_iff_not]; omega
      · right; rw [decide_eq_false_iff_not]; exact fun e => h (by rw [e]; rfl)
    rw [this, if_neg (by decide)] at h2
    rw [h2, this] at hk; exact hk
  · rename_i h
    have : (bareS s).2 = true := by
      rw [h1, Bool.and_eq_true]
      exact ⟨by rw [decide_eq_true_eq]; omega, by rw [decide_eq_true_eq]; exact UInt8.toNat_inj.1 (by have := h.2; show _ = 10; omega)⟩
    rw [this, if_pos rfl] at h2
    rw [h2, this] at hk; exact hk
end Go.Proofs.YtpbkdcfjlbdgfaaDoor
/- (*strings.Builder).WriteString. -/
set_option linter.unusedVariables false
set_option linter.unusedSimpArgs false
namespace Go.Proofs.YtpbkdcfjlbdgfaaDoor
open Go Go.Ev Go.RowKit
theorem ubyte2 : Tryd.prog.underlying 68 = some (.slice 5) := by kernel_rfl
theorem ustr2 : Tryd.prog.underlying 9 = some .string := by kernel_rfl
theorem infB2 : (Tryd.prog.info? 5).map (fun i => (i.zero, i.size, i.bytes)) = some (some (.int .u8 0), 1, 1) := by kernel_rfl
set_option maxHeartbeats 2000000 in
set_option maxRecDepth 100000 in
theorem ws_at {t b : Nat} {p v : Value} {bs : List UInt8} (ht : bldT t = true) {w : World} (h : BldAt w t 5 b p v bs) (s : ByteArray) (hlen : bs.length + s.size ≤ 140737488355328) :
    Calls Tryd.prog 43 #[.pointer (some ⟨b, 0, none⟩), .string s] w fun e w' => e = .returned (.tuple #[.int .i64 s.size, .nilIface]) ∧ BldTo w w' t 5 b v (bs ++ s.data.toList) := by
  obtain ⟨i0, hi, hz0, hz1, hz2⟩ := info_parts infB2
  go_enter Tryd.func43, Tryd.ntmps43
  go_wp2_with (go_at_call 94; refine (cc_at ht h).mono ?_)
  rintro e w1 ⟨rfl, hb1, h1⟩
  have c0 : w1.cell? ⟨b, 0, none⟩ = some (.pointer (some ⟨b, 0, none⟩)) := by rw [Lib.cell_of_heap h1.blk]; rfl
  have c1 : w1.cell? ⟨b, 1, none⟩ = some v := by rw [Lib.cell_of_heap h1.blk]; rfl
  go_wp2_with (at_builtin; refine wpList_app_str (t := 68) (u := 9) rfl rfl ubyte2 ustr2 hi hz0 hz1 hz2 rfl h1.own (s := s) rfl hlen ?_)
  intro v' w2 hown' hgrow hv
  have hlt : b < w1.heap.size := (Array.getElem?_eq_some_iff.1 h1.blk).1
  have hb2 : w2.heap[b]? = some (.cells #[.pointer (some ⟨b, 0, none⟩), v] t (0, 0)) := by
    rw [hgrow.block b hlt (fun e => h1.ne e.symm)]
    exact h1.blk
  have d0 : w2.cell? ⟨b, 0, none⟩ = some (.pointer (some ⟨b, 0, none⟩)) := by rw [Lib.cell_of_heap hb2]; rfl
  have d1 : w2.cell? ⟨b, 1, none⟩ = some v := by rw [Lib.cell_of_heap hb2]; rfl
  have f1 : w2.frozen? ⟨b, 1, none⟩ = false := Lib.frozen_of_heap hb2 1
  have hfin := BldAt.wrote hb1 h1 (bs' := bs ++ s.data.toList) (by rw [byteVals_str]; simpa using hown') hgrow hv
  obtain ⟨ao, n', cap, rfl⟩ : ∃ ao n' cap, v' = .slice ao n' cap := by
    rcases hown'.2 with ⟨hv, _⟩ | ⟨g, cap, cur, hv, _⟩
    · exact ⟨_, _, _, hv⟩
    · exact ⟨_, _, _, hv⟩
  go_wp2
  go_ret2
  exact ⟨rfl, hfin⟩
/-- A text is written. -/
def gWS : List SV → Nat → Nat → List UInt8 → Option (Prop × SV × List UInt8)
  | [.d (.v (.string s))], t, u, bs => if bldT t = true ∧ u = 5 then some (bs.length + s.size ≤ 140737488355328, .tup [.d (.v (.int .i64 s.size)), .d (.v .nilIface)], bs ++ s.data.toList) else none
  | _, _, _, _ => none
theorem sWS {G : World → Prop} : Sound G Tryd.prog 43 (bldC gWS) := by
  refine bld_sound ⟨Tryd.f43, by kernel_rfl, by kernel_rfl, by kernel_rfl⟩ ?_
  intro args t u bs p x bs' hg hp w b q v hb c m vs hc ha
  unfold gWS at hg
  split at hg
  · obtain ⟨⟨h1, rfl⟩, hg2⟩ := Option.ite_none_right_eq_some.1 hg
    simp only [Option.some.injEq, Prod.mk.injEq] at hg2
    obtain ⟨rfl, rfl, rfl⟩ := hg2
    match vs, ha with
    | [y], ha =>
      simp only [CnL, and_true] at ha
      rw [of_v ha]
      exact ⟨_, fun m n c => by simp only [Cn]; exact ⟨_, rfl, by simp only [CnL, Cn, and_true]; exact ⟨⟨rfl, rfl⟩, ⟨rfl, rfl⟩⟩⟩, ws_at h1 hb _ hp⟩
    | [], ha => simp [CnL] at ha
    | _ :: _ :: _, ha => simp [CnL] at ha
  · simp only [reduceCtorEq] at hg
end Go.Proofs.YtpbkdcfjlbdgfaaDoor
set_option linter.unusedVariables false
set_option linter.unusedSimpArgs false
namespace Go.Proofs.YtpbkdcfjlbdgfaaDoor
open Go Go.Ev
set_option maxRecDepth 100000
variable {G : World → Prop}
def cntB (n : Int) : Bool := decide (0 ≤ n) && decide (n ≤ 2147483647)
def CCount : Contract := pureC fun args => match args with
  | [.d (.v (.int .i64 n))] => some (True, .d (.v (.bool (cntB n))))
  | _ => none
theorem s93 : Sound G Tryd.prog 93 CCount := by
  refine sd93 (T := tabT []) tab_nil (pureC_lawful _) (pure_hX fun args p x K h hp hk => ?_)
  split at h <;> simp only [Option.some.injEq, Prod.mk.injEq, reduceCtorEq] at h
  obtain ⟨rfl, rfl⟩ := h
  refine ⟨Nat.le_of_ble_eq_true rfl, ?_⟩
  simp -dsimp -implicitDefEqProofs only [S93, R93, ↓Ev.xStp_eq, ↓Ev.P, Ev.Q, eq_self, forall_eq_or_imp, implies_true, forall_const, forall_eq, ↓reduceIte, reduceIte, Nat.reduceEqDiff, Nat.reduceAdd, reduceCtorEq, Nat.reduceSub, Int.reduceToNat, Int.reduceLE, Int.reduceLT, Int.reduceNeg, Nat.reduceBEq, Nat.reduceMul, Nat.reduceLeDiff, Nat.reduceMod, UInt8.reduceOfNat, Nat.reduceLT, Int.reduceEq, Int.reduceAdd, Int.reduceSub, Int.reduceMul]
  exact hk
theorem s95 : Sound G Tryd.prog 95 CCount := by
  refine sd95 (T := tabT []) tab_nil (pureC_lawful _) (pure_hX fun args p x K h hp hk => ?_)
  split at h <;> simp only [Option.some.injEq, Prod.mk.injEq, reduceCtorEq] at h
  obtain ⟨rfl, rfl⟩ := h
  refine ⟨Nat.le_of_ble_eq_true rfl, ?_⟩
  simp -dsimp -implicitDefEqProofs only [S95, R95, ↓Ev.xStp_eq, ↓Ev.P, Ev.Q, eq_self, forall_eq_or_imp, implies_true, forall_const, forall_eq, ↓reduceIte, reduceIte, Nat.reduceEqDiff, Nat.reduceAdd, reduceCtorEq, Nat.reduceSub, Int.reduceToNat, Int.reduceLE, Int.reduceLT, Int.reduceNeg, Nat.reduceBEq, Nat.reduceMul, Nat.reduceLeDiff, Nat.reduceMod, UInt8.reduceOfNat, Nat.reduceLT, Int.reduceEq, Int.reduceAdd, Int.reduceSub, Int.reduceMul]
  exact hk
/-- A range. -/
def spanT (at_ n : Int) : List UInt8 := if n = 1 then Lib.itoa (at_ + 1) else Lib.itoa (at_ + 1) ++ [44] ++ Lib.itoa (at_ + n)
def CSpan : Contract := pureC fun args => match args with
  | [.d (.v (.int .i64 a)), .d (.v (.int .i64 n))] => some ((0 ≤ a ∧ a ≤ 4294967296) ∧ (0 ≤ n ∧ n ≤ 4294967296), .d (.v (str (spanT a n))))
  | _ => none
theorem span_len {a n : Int} (h : (0 ≤ a ∧ a ≤ 4294967296) ∧ (0 ≤ n ∧ n ≤ 4294967296)) : (spanT a n).length ≤ 43 := by
  have h1 := itoa_len (n := a + 1) (by omega)
  have h2 := itoa_len (n := a + n) (by omega)
  unfold spanT
  split
  · omega
  · simp only [List.length_append, List.length_cons, List.length_nil]; omega
theorem s42 (hG : ∀ w, G w → Pow10 w) : Sound G Tryd.prog 42 CSpan := by
  refine sd42 (T := tabT [(32, CItoa)]) (tab_cons (s32 hG) tab_nil) (pureC_lawful _) (pure_hX fun args p x K h hp hk => ?_)
  split at h <;> simp only [Option.some.injEq, Prod.mk.injEq, reduceCtorEq] at h
  obtain ⟨rfl, rfl⟩ := h
  refine ⟨Nat.le_of_ble_eq_true rfl, ?_⟩
  rename_i a n
  have h1 := itoa_len (n := a + 1) (by omega)
  have h2 := itoa_len (n := a + n) (by omega)
  simp -dsimp -implicitDefEqProofs only [S42, R42, CItoa, List.length_append, ↓Ev.xStp_eq, ↓Ev.P, Ev.Q, eq_self, forall_eq_or_imp, implies_true, forall_const, forall_eq, ↓reduceIte, reduceIte, Nat.reduceEqDiff, Nat.reduceAdd, reduceCtorEq, Nat.reduceSub, Int.reduceToNat, Int.reduceLE, Int.reduceLT, Int.reduceNeg, Nat.reduceBEq, Nat.reduceMul, Nat.reduceLeDiff, Nat.reduceMod, UInt8.reduceOfNat, Nat.reduceLT, Int.reduceEq, Int.reduceAdd, Int.reduceSub, Int.reduceMul]
  by_cases hn : n = 1
  · rw [spanT, if_pos hn] at hk
    repeat' (first | with_reducible assumption | refine And.intro ?_ ?_ | intro _)
    all_goals first | omega | exact hk
  · rw [spanT, if_neg hn] at hk
    repeat' (first | with_reducible assumption | refine And.intro ?_ ?_ | intro _)
    all_goals first | omega | exact hk
theorem s60 : Sound G Tryd.prog 60 CSpan := by
  refine sd60 (T := tabT [(33, CItoa)]) (tab_cons s33 tab_nil) (pureC_lawful _) (pure_hX fun args p x K h hp hk => ?_)
  split at h <;> simp only [Option.some.injEq, Prod.mk.injEq, reduceCtorEq] at h
  obtain ⟨rfl, rfl⟩ := h
  refine ⟨Nat.le_of_ble_eq_true rfl, ?_⟩
  rename_i a n
  have h1 := itoa_len (n := a + 1) (by omega)
  have h2 := itoa_len (n := a + n) (by omega)
  simp -dsimp -implicitDefEqProofs only [S60, R60, CItoa, List.length_append, ↓Ev.xStp_eq, ↓Ev.P, Ev.Q, eq_self, forall_eq_or_imp, implies_true, forall_const, forall_eq, ↓reduceIte, reduceIte, Nat.reduceEqDiff, Nat.reduceAdd, reduceCtorEq, Nat.reduceSub, Int.reduceToNat, Int.reduceLE, Int.reduceLT, Int.reduceNeg, Nat.reduceBEq, Nat.reduceMul, Nat.reduceLeDiff, Nat.reduceMod, UInt8.reduceOfNat, Nat.reduceLT, Int.reduceEq, Int.reduceAdd, Int.reduceSub, Int.reduceMul]
  by_cases hn : n = 1
  · rw [spanT, if_pos hn] at hk
    repeat' (first | with_reducible assumption | refine And.intro ?_ ?_ | intro _)
    all_goals first | omega | exact hk
  · rw [spanT, if_neg hn] at hk
    repeat' (first | with_reducible assumption | refine And.intro ?_ ?_ | intro _)
    all_goals first | omega | exact hk
/-- The line that says that a line feed is missing. -/
abbrev markT : List UInt8 := [92, 32, 78, 111, 32, 110, 101, 119, 108, 105, 110, 101, 32, 97, 116, 32, 101, 110, 100, 32, 111, 102, 32, 102, 105, 108, 101, 10]
def lineT (ahead s : List UInt8) : List UInt8 := if (bareS s).2 then ahead ++ s else ahead ++ s ++ [10] ++ markT
def CLine : Contract := pureC fun args => match args with
  | [.d (.v (.string a)), .d (.v (.string s))] => some (a.size ≤ 1099511627776 ∧ s.size ≤ 1099511627776, .d (.v (str (lineT a.data.toList s.data.toList))))
  | _ => none
theorem s68 : Sound G Tryd.prog 68 CLine := by
  refine sd68 (T := tabT [(61, CBare)]) (tab_cons s61 tab_nil) (pureC_lawful _) (pure_hX fun args p x K h hp hk => ?_)
  split at h <;> simp only [Option.some.injEq, Prod.mk.injEq, reduceCtorEq] at h
  obtain ⟨rfl, rfl⟩ := h
  refine ⟨Nat.le_of_ble_eq_true rfl, ?_⟩
  rename_i a s
  obtain ⟨a, rfl⟩ := ex_str a
  obtain ⟨s, rfl⟩ := ex_str s
  simp only [sem_str] at hk hp
  simp -dsimp -implicitDefEqProofs only [S68, R68, CBare, List.length_append, ↓Ev.xStp_eq, ↓Ev.P, Ev.Q, eq_self, forall_eq_or_imp, implies_true, forall_const, forall_eq, ↓reduceIte, reduceIte, Nat.reduceEqDiff, Nat.reduceAdd, reduceCtorEq, Nat.reduceSub, Int.reduceToNat, Int.reduceLE, Int.reduceLT, Int.reduceNeg, Nat.reduceBEq, Nat.reduceMul, Nat.reduceLeDiff, Nat.reduceMod, UInt8.reduceOfNat, Nat.reduceLT, Int.reduceEq, Int.reduceAdd, Int.reduceSub, Int.reduceMul]
  cases hb : (bareS s).2
  · rw [lineT, hb, if_neg (by decide)] at hk
    repeat' (first | with_reducible assumption | refine And.intro ?_ ?_ | intro _)
    all_goals first | omega | exact hk | contradiction
  · rw [lineT, hb, if_pos rfl] at hk
    repeat' (first | with_reducible assumption | refine And.intro ?_ ?_ | intro _)
    all_goals first | omega | exact hk | contradiction
end Go.Proofs.YtpbkdcfjlbdgfaaDoor
set_option linter.unusedVariables false
set_option linter.unusedSimpArgs false
namespace Go.Proofs.YtpbkdcfjlbdgfaaDoor
open Go Go.Ev
set_option maxRecDepth 100000
variable {G : World → Prop}
abbrev Q4 := Int × Int × Int × Int
/-- What is wrong with one change by itself. -/
def badC (c : Q4) : Prop := ((((cntB c.1 = false ∨ cntB c.2.1 = false) ∨ cntB c.2.2.1 = false) ∨ cntB c.2.2.2 = false) ∨ (c.2.1 = 0 ∧ c.2.2.2 = 0))
def outC (f : Bool) (a b : Int) (c : Q4) : Prop := (c.1 - a < 0 ∨ (f = false ∧ c.1 - a = 0)) ∨ ¬ c.1 - a = c.2.2.1 - b
instance (c : Q4) : Decidable (badC c) := by unfold badC; infer_instance
instance (f : Bool) (a b : Int) (c : Q4) : Decidable (outC f a b c) := by unfold outC; infer_instance
def chkL : Bool → Int → Int → List Q4 → Option (Int × Int)
  | _, a, b, [] => some (a, b)
  | f, a, b, c :: r => if badC c then none else if outC f a b c then none else chkL false (c.1 + c.2.1) (c.2.2.1 + c.2.2.2) r
def chk (l : List Q4) (n m : Int) : Int := match chkL true 0 0 l with
  | none => 50
  | some (a, b) => if (n < a ∨ m < b) ∨ ¬ n - a = m - b then 50 else 0
theorem chk_none {l : List Q4} {n m : Int} (h : chkL true 0 0 l = none) : chk l n m = 50 := by rw [chk, h]
theorem chk_some {l : List Q4} {n m a b : Int} (h : chkL true 0 0 l = some (a, b)) : chk l n m = if (n < a ∨ m < b) ∨ ¬ n - a = m - b then 50 else 0 := by rw [chk, h]
theorem q4_drop {l : List Q4} {i : Nat} (h : i < l.length) : l.drop i = l.getD i (0, 0, 0, 0) :: l.drop (i + 1) := by
  rw [List.drop_eq_getElem_cons h]; simp [List.getD_eq_getElem?_getD, List.getElem?_eq_getElem h]
theorem cnt_in {n : Int} (h : ¬ cntB n = false) : 0 ≤ n ∧ n ≤ 2147483647 := by simpa [cntB] using h
theorem okC {c : Q4} (h : ¬ badC c) : (0 ≤ c.1 ∧ c.1 ≤ 2147483647) ∧ (0 ≤ c.2.1 ∧ c.2.1 ≤ 2147483647) ∧ (0 ≤ c.2.2.1 ∧ c.2.2.1 ≤ 2147483647) ∧ (0 ≤ c.2.2.2 ∧ c.2.2.2 ≤ 2147483647) ∧ ¬ (c.2.1 = 0 ∧ c.2.2.2 = 0) :=
  ⟨cnt_in fun e => h (.inl (.inl (.inl (.inl e)))), cnt_in fun e => h (.inl (.inl (.inl (.inr e)))), cnt_in fun e => h (.inl (.inl (.inr e))), cnt_in fun e => h (.inl (.inr e)), fun e => h (.inr e)⟩
theorem cnt4 {A AN B BN : Int} {Z : Prop} (h : (((cntB A = true ∧ cntB AN = true) ∧ cntB B = true) ∧ cntB BN = true) ∧ Z) : (0 ≤ A ∧ A ≤ 2147483647) ∧ (0 ≤ AN ∧ AN ≤ 2147483647) ∧ (0 ≤ B ∧ B ≤ 2147483647) ∧ (0 ≤ BN ∧ BN ≤ 2147483647) := by
  have k : ∀ n, cntB n = true → 0 ≤ n ∧ n ≤ 2147483647 := fun n h => by simpa [cntB] using h
  exact ⟨k _ h.1.1.1.1, k _ h.1.1.1.2, k _ h.1.1.2, k _ h.1.2⟩
theorem good4 {A AN B BN : Int} (h : (((cntB A = true ∧ cntB AN = true) ∧ cntB B = true) ∧ cntB BN = true) ∧ (¬ AN = 0 ∨ ¬ BN = 0)) : ¬ badC (A, AN, B, BN) := by
  rintro ((((e | e) | e) | e) | e)
  · rw [h.1.1.1.1] at e; cases e
  · rw [h.1.1.1.2] at e; cases e
  · rw [h.1.1.2] at e; cases e
  · rw [h.1.2] at e; cases e
  · exact h.2.elim (fun k => k e.1) fun k => k e.2
theorem chkL_bad {f : Bool} {a b : Int} {c : Q4} {r : List Q4} (h : badC c) : chkL f a b (c :: r) = none := by rw [chkL, if_pos h]
theorem chkL_out {f : Bool} {a b : Int} {c : Q4} {r : List Q4} (h : ¬ badC c) (h2 : outC f a b c) : chkL f a b (c :: r) = none := by rw [chkL, if_neg h, if_pos h2]
theorem chkL_in {f : Bool} {a b : Int} {c : Q4} {r : List Q4} (h : ¬ badC c) (h2 : ¬ outC f a b c) : chkL f a b (c :: r) = chkL false (c.1 + c.2.1) (c.2.2.1 + c.2.2.2) r := by rw [chkL, if_neg h, if_neg h2]
def CCheck : Contract := pureC fun args => match args with
  | [.d (.sl rows), .d (.v (.int .i64 n)), .d (.v (.int .i64 m))] => (unQ4 rows).map fun l => (l.length ≤ 1099511627776 ∧ (0 ≤ n ∧ n ≤ 1099511627776) ∧ (0 ≤ m ∧ m ≤ 1099511627776), .d (.v (.int .i64 (chk l n m))))
  | _ => none
theorem s41 : Sound G Tryd.prog 41 CCheck := by
  refine sd41 (T := tabT [(93, CCount)]) (tab_cons s93 tab_nil) (pureC_lawful _) (pure_hX fun args p x K h hp hk => ?_)
  split at h <;> simp only [Option.map_eq_some_iff, Prod.mk.injEq, reduceCtorEq] at h
  obtain ⟨l, hl, rfl, rfl⟩ := h
  rw [unQ4_eq hl] at *
  refine ⟨Nat.le_of_ble_eq_true rfl, ?_⟩
  rename_i n m
  obtain ⟨hl1, hn, hm⟩ := hp
  simp -dsimp -implicitDefEqProofs only [S41, R41, q4Rows_len, ↓Ev.xStp_eq, ↓Ev.P, Ev.Q, eq_self, forall_eq_or_imp, implies_true, forall_const, forall_eq, ↓reduceIte, reduceIte, Nat.reduceEqDiff, Nat.reduceAdd, reduceCtorEq, Nat.reduceSub, Int.reduceToNat, Int.reduceLE, Int.reduceLT, Int.reduceNeg, Nat.reduceBEq, Nat.reduceMul, Nat.reduceLeDiff, Nat.reduceMod, UInt8.reduceOfNat, Nat.reduceLT, Int.reduceEq, Int.reduceAdd, Int.reduceSub, Int.reduceMul]
  refine xLoop_intro (fun k st => ∃ (i : Nat) (a b : Int), i ≤ l.length ∧ k = l.length - i ∧ chkL (decide (i = 0)) a b (l.drop i) = chkL true 0 0 l ∧ (0 ≤ a ∧ a ≤ 4294967294) ∧ (0 ≤ b ∧ b ≤ 4294967294) ∧
      st = ⟨[(1, .d (.v (.int .i64 n))), (2, .d (.v (.int .i64 m))), (7, .d (.v (.int .i64 a))), (8, .d (.v (.int .i64 b))), (12, .d (.sl (q4Rows l))), (13, .d (.v (.int .i64 l.length))), (14, .d (.v (.int .i64 i)))], 0, []⟩) l.length [] ?_ ?_ ?_
  · simp -dsimp -implicitDefEqProofs only [↓Ev.xStp_eq, ↓Ev.P, Ev.Q, eq_self, forall_eq_or_imp, implies_true, forall_const, forall_eq, ↓reduceIte, reduceIte, Nat.reduceEqDiff, Nat.reduceAdd, reduceCtorEq, Nat.reduceSub, Int.reduceToNat, Int.reduceLE, Int.reduceLT, Int.reduceNeg, Nat.reduceBEq, Nat.reduceMul, Nat.reduceLeDiff, Nat.reduceMod, UInt8.reduceOfNat, Nat.reduceLT, Int.reduceEq, Int.reduceAdd, Int.reduceSub, Int.reduceMul]
  · simp -dsimp -implicitDefEqProofs only [↓Ev.xStp_eq, ↓Ev.P, Ev.Q, eq_self, forall_eq_or_imp, implies_true, forall_const, forall_eq, ↓reduceIte, reduceIte, Nat.reduceEqDiff, Nat.reduceAdd, reduceCtorEq, Nat.reduceSub, Int.reduceToNat, Int.reduceLE, Int.reduceLT, Int.reduceNeg, Nat.reduceBEq, Nat.reduceMul, Nat.reduceLeDiff, Nat.reduceMod, UInt8.reduceOfNat, Nat.reduceLT, Int.reduceEq, Int.reduceAdd, Int.reduceSub, Int.reduceMul]
    exact ⟨0, 0, 0, by omega, by omega, rfl, by omega, by omega, rfl⟩
  · rintro k st ⟨i, a, b, hi, hk2, hc, ha, hb, rfl⟩
    by_cases hil : i < l.length
    · have hg := q4Rows_get hil
      have hd := q4_drop hil
      generalize l.getD i (0, 0, 0, 0) = c at hg hd
      obtain ⟨A, AN, B, BN⟩ := c
      have hi3 : (i : Int) < l.length := by omega
      simp -dsimp -implicitDefEqProofs only [hi3, ↓Ev.P, Ev.Q, eq_self, forall_eq_or_imp, implies_true, forall_const, forall_eq, ↓reduceIte, reduceIte, Nat.reduceEqDiff, Nat.reduceAdd, reduceCtorEq, Nat.reduceSub, Int.reduceToNat, Int.reduceLE, Int.reduceLT, Int.reduceNeg, Nat.reduceBEq, Nat.reduceMul, Nat.reduceLeDiff, Nat.reduceMod, UInt8.reduceOfNat, Nat.reduceLT, Int.reduceEq, Int.reduceAdd, Int.reduceSub, Int.reduceMul]
      repeat' (first | with_reducible assumption | refine And.intro ?_ ?_ | intro _ | (rw [Ev.xStp_eq]; simp -dsimp -implicitDefEqProofs only [hg, q4Row, CCount, ↓Ev.P, Ev.Q, eq_self, forall_eq_or_imp, implies_true, forall_const, forall_eq, ↓reduceIte, reduceIte, Nat.reduceEqDiff, Nat.reduceAdd, reduceCtorEq, Nat.reduceSub, Int.reduceToNat, Int.reduceLE, Int.reduceLT, Int.reduceNeg, Nat.reduceBEq, Nat.reduceMul, Nat.reduceLeDiff, Nat.reduceMod, UInt8.reduceOfNat, Nat.reduceLT, Int.reduceEq, Int.reduceAdd, Int.reduceSub, Int.reduceMul]))
      all_goals try omega
      all_goals try (have hq := cnt4 (by assumption); omega)
      · rename_i h
        rw [hd, chkL_bad (show badC (A, AN, B, BN) from h)] at hc
        rw [chk_none hc.symm] at hk; exact hk
      · rename_i h h2
        rw [hd, chkL_out (good4 h) ?_] at hc
        · rw [chk_none hc.symm] at hk; exact hk
        · rcases h2 with (h2 | h2) | h2
          · exact .inl (.inl h2)
          · exact .inl (.inr ⟨by simp; omega, h2.2⟩)
          · exact .inr h2
      · rename_i h h2
        have hq := cnt4 h
        refine xAgain_intro (l.length - (i + 1)) [] (by omega) (by simp -dsimp -implicitDefEqProofs only [↓Ev.xStp_eq, ↓Ev.P, Ev.Q, eq_self, forall_eq_or_imp, implies_true, forall_const, forall_eq, ↓reduceIte, reduceIte, Nat.reduceEqDiff, Nat.reduceAdd, reduceCtorEq, Nat.reduceSub, Int.reduceToNat, Int.reduceLE, Int.reduceLT, Int.reduceNeg, Nat.reduceBEq, Nat.reduceMul, Nat.reduceLeDiff, Nat.reduceMod, UInt8.reduceOfNat, Nat.reduceLT, Int.reduceEq, Int.reduceAdd, Int.reduceSub, Int.reduceMul]) ⟨i + 1, A + AN, B + BN, by omega, rfl, ?_, by omega, by omega, ?_⟩
        · rw [← hc, hd, chkL_in (good4 h) ?_]
          · simp
          · rintro ((k | k) | k)
            · exact h2.1.1 k
            · obtain ⟨k1, k2⟩ := k
              simp only [decide_eq_false_iff_not] at k1
              exact h2.1.2.elim (fun e => e (by omega)) fun e => e k2
            · exact k h2.2
        · simp -dsimp -implicitDefEqProofs only [↓Ev.xStp_eq, ↓Ev.P, Ev.Q, eq_self, forall_eq_or_imp, implies_true, forall_const, forall_eq, ↓reduceIte, reduceIte, Nat.reduceEqDiff, Nat.reduceAdd, reduceCtorEq, Nat.reduceSub, Int.reduceToNat, Int.reduceLE, Int.reduceLT, Int.reduceNeg, Nat.reduceBEq, Nat.reduceMul, Nat.reduceLeDiff, Nat.reduceMod, UInt8.reduceOfNat, Nat.reduceLT, Int.reduceEq, Int.reduceAdd, Int.reduceSub, Int.reduceMul]
          rfl
    · have hi3 : ¬ (i : Int) < l.length := by omega
      simp -dsimp -implicitDefEqProofs only [hi3, ↓Ev.P, Ev.Q, eq_self, forall_eq_or_imp, implies_true, forall_const, forall_eq, ↓reduceIte, reduceIte, Nat.reduceEqDiff, Nat.reduceAdd, reduceCtorEq, Nat.reduceSub, Int.reduceToNat, Int.reduceLE, Int.reduceLT, Int.reduceNeg, Nat.reduceBEq, Nat.reduceMul, Nat.reduceLeDiff, Nat.reduceMod, UInt8.reduceOfNat, Nat.reduceLT, Int.reduceEq, Int.reduceAdd, Int.reduceSub, Int.reduceMul]
      repeat' (first | with_reducible assumption | refine And.intro ?_ ?_ | intro _ | (rw [Ev.xStp_eq]; simp -dsimp -implicitDefEqProofs only [↓Ev.P, Ev.Q, eq_self, forall_eq_or_imp, implies_true, forall_const, forall_eq, ↓reduceIte, reduceIte, Nat.reduceEqDiff, Nat.reduceAdd, reduceCtorEq, Nat.reduceSub, Int.reduceToNat, Int.reduceLE, Int.reduceLT, Int.reduceNeg, Nat.reduceBEq, Nat.reduceMul, Nat.reduceLeDiff, Nat.reduceMod, UInt8.reduceOfNat, Nat.reduceLT, Int.reduceEq, Int.reduceAdd, Int.reduceSub, Int.reduceMul]))
      all_goals try omega
      all_goals
        rename_i h
        rw [List.drop_of_length_le (by omega), chkL] at hc
        rw [chk_some hc.symm] at hk
      · rw [if_pos h] at hk; exact hk
      · rw [if_neg (by rintro ((k | k) | k); exact h.1.1 k; exact h.1.2 k; exact k h.2)] at hk; exact hk
end Go.Proofs.YtpbkdcfjlbdgfaaDoor
set_option linter.unusedVariables false
set_option linter.unusedSimpArgs false
namespace Go.Proofs.YtpbkdcfjlbdgfaaDoor
open Go Go.Ev
set_option maxRecDepth 100000
variable {G : World → Prop}
theorem bad_sum {A AN B BN : Int} (h : (((cntB A = false ∨ cntB AN = false) ∨ cntB B = false) ∨ cntB BN = false) ∨ AN + BN = 0) : badC (A, AN, B, BN) := by
  by_cases k : (((cntB A = false ∨ cntB AN = false) ∨ cntB B = false) ∨ cntB BN = false)
  · rcases k with ((k | k) | k) | k
    · exact .inl (.inl (.inl (.inl k)))
    · exact .inl (.inl (.inl (.inr k)))
    · exact .inl (.inl (.inr k))
    · exact .inl (.inr k)
  · have h2 : AN + BN = 0 := h.elim (fun e => absurd e k) id
    have h3 := cnt_in (n := AN) fun e => k (.inl (.inl (.inr e)))
    have h4 := cnt_in (n := BN) fun e => k (.inr e)
    exact .inr ⟨by simp only; omega, by simp only; omega⟩
theorem s46 : Sound G Tryd.prog 46 CCheck := by
  refine sd46 (T := tabT [(95, CCount)]) (tab_cons s95 tab_nil) (pureC_lawful _) (pure_hX fun args p x K h hp hk => ?_)
  split at h <;> simp only [Option.map_eq_some_iff, Prod.mk.injEq, reduceCtorEq] at h
  obtain ⟨l, hl, rfl, rfl⟩ := h
  rw [unQ4_eq hl] at *
  refine ⟨Nat.le_of_ble_eq_true rfl, ?_⟩
  rename_i n m
  obtain ⟨hl1, hn, hm⟩ := hp
  have hn0 : ¬ n < 0 := by omega
  have hm0 : ¬ m < 0 := by omega
  simp -dsimp -implicitDefEqProofs only [S46, R46, q4Rows_len, hn0, hm0, ↓Ev.xStp_eq, ↓Ev.P, Ev.Q, eq_self, forall_eq_or_imp, implies_true, forall_const, forall_eq, ↓reduceIte, reduceIte, Nat.reduceEqDiff, Nat.reduceAdd, reduceCtorEq, Nat.reduceSub, Int.reduceToNat, Int.reduceLE, Int.reduceLT, Int.reduceNeg, Nat.reduceBEq, Nat.reduceMul, Nat.reduceLeDiff, Nat.reduceMod, UInt8.reduceOfNat, Nat.reduceLT, Int.reduceEq, Int.reduceAdd, Int.reduceSub, Int.reduceMul]
  refine xLoop_intro (fun k st => ∃ (i : Nat) (a b : Int), i ≤ l.length ∧ k = l.length - i ∧ chkL (decide (i = 0)) a b (l.drop i) = chkL true 0 0 l ∧ (0 ≤ a ∧ a ≤ 4294967294) ∧ (0 ≤ b ∧ b ≤ 4294967294) ∧
      st = ⟨[(0, .d (.sl (q4Rows l))), (1, .d (.v (.int .i64 n))), (2, .d (.v (.int .i64 m))), (7, .d (.v (.int .i64 a))), (8, .d (.v (.int .i64 b))), (9, .d (.v (.int .i64 i)))], 0, []⟩) l.length [] ?_ ?_ ?_
  · simp -dsimp -implicitDefEqProofs only [↓Ev.xStp_eq, ↓Ev.P, Ev.Q, eq_self, forall_eq_or_imp, implies_true, forall_const, forall_eq, ↓reduceIte, reduceIte, Nat.reduceEqDiff, Nat.reduceAdd, reduceCtorEq, Nat.reduceSub, Int.reduceToNat, Int.reduceLE, Int.reduceLT, Int.reduceNeg, Nat.reduceBEq, Nat.reduceMul, Nat.reduceLeDiff, Nat.reduceMod, UInt8.reduceOfNat, Nat.reduceLT, Int.reduceEq, Int.reduceAdd, Int.reduceSub, Int.reduceMul]
  · simp -dsimp -implicitDefEqProofs only [↓Ev.xStp_eq, ↓Ev.P, Ev.Q, eq_self, forall_eq_or_imp, implies_true, forall_const, forall_eq, ↓reduceIte, reduceIte, Nat.reduceEqDiff, Nat.reduceAdd, reduceCtorEq, Nat.reduceSub, Int.reduceToNat, Int.reduceLE, Int.reduceLT, Int.reduceNeg, Nat.reduceBEq, Nat.reduceMul, Nat.reduceLeDiff, Nat.reduceMod, UInt8.reduceOfNat, Nat.reduceLT, Int.reduceEq, Int.reduceAdd, Int.reduceSub, Int.reduceMul]
    exact ⟨0, 0, 0, by omega, by omega, rfl, by omega, by omega, rfl⟩
  · rintro k st ⟨i, a, b, hi, hk2, hc, ha, hb, rfl⟩
    by_cases hil : i < l.length
    · have hg := q4Rows_get hil
      have hd := q4_drop hil
      generalize l.getD i (0, 0, 0, 0) = c at hg hd
      obtain ⟨A, AN, B, BN⟩ := c
      have hi3 : (i : Int) < l.length := by omega
      simp -dsimp -implicitDefEqProofs only [hi3, q4Rows_len, ↓Ev.P, Ev.Q, eq_self, forall_eq_or_imp, implies_true, forall_const, forall_eq, ↓reduceIte, reduceIte, Nat.reduceEqDiff, Nat.reduceAdd, reduceCtorEq, Nat.reduceSub, Int.reduceToNat, Int.reduceLE, Int.reduceLT, Int.reduceNeg, Nat.reduceBEq, Nat.reduceMul, Nat.reduceLeDiff, Nat.reduceMod, UInt8.reduceOfNat, Nat.reduceLT, Int.reduceEq, Int.reduceAdd, Int.reduceSub, Int.reduceMul]
      repeat' (first | with_reducible assumption | refine And.intro ?_ ?_ | intro _ | (rw [Ev.xStp_eq]; simp -dsimp -implicitDefEqProofs only [hg, hi3, q4Rows_len, q4Row, CCount, ↓Ev.P, Ev.Q, eq_self, forall_eq_or_imp, implies_true, forall_const, forall_eq, ↓reduceIte, reduceIte, Nat.reduceEqDiff, Nat.reduceAdd, reduceCtorEq, Nat.reduceSub, Int.reduceToNat, Int.reduceLE, Int.reduceLT, Int.reduceNeg, Nat.reduceBEq, Nat.reduceMul, Nat.reduceLeDiff, Nat.reduceMod, UInt8.reduceOfNat, Nat.reduceLT, Int.reduceEq, Int.reduceAdd, Int.reduceSub, Int.reduceMul]))
      all_goals try omega
      all_goals try (have hq := cnt4 (by assumption); omega)
      all_goals try (have hq := cnt4 ⟨by assumption, trivial⟩; omega)
      · rename_i h
        rw [hd, chkL_bad (bad_sum h)] at hc
        rw [chk_none hc.symm] at hk; exact hk
      · rename_i h h2
        have hq := cnt4 h
        have hg4 := good4 (AN := AN) (BN := BN) ⟨h.1, by have := h.2; omega⟩
        rw [hd, chkL_out hg4 ?_] at hc
        · rw [chk_none hc.symm] at hk; exact hk
        · rcases h2 with (h2 | h2) | h2
          · exact .inr h2
          · exact .inl (.inl (by simp only; omega))
          · exact .inl (.inr ⟨by simp; omega, by simp only; omega⟩)
      · rename_i h h2
        have hq := cnt4 h
        have hg4 := good4 (AN := AN) (BN := BN) ⟨h.1, by have := h.2; omega⟩
        refine xAgain_intro (l.length - (i + 1)) [] (by omega) (by simp -dsimp -implicitDefEqProofs only [↓Ev.xStp_eq, ↓Ev.P, Ev.Q, eq_self, forall_eq_or_imp, implies_true, forall_const, forall_eq, ↓reduceIte, reduceIte, Nat.reduceEqDiff, Nat.reduceAdd, reduceCtorEq, Nat.reduceSub, Int.reduceToNat, Int.reduceLE, Int.reduceLT, Int.reduceNeg, Nat.reduceBEq, Nat.reduceMul, Nat.reduceLeDiff, Nat.reduceMod, UInt8.reduceOfNat, Nat.reduceLT, Int.reduceEq, Int.reduceAdd, Int.reduceSub, Int.reduceMul]) ⟨i + 1, A + AN, B + BN, by omega, rfl, ?_, by omega, by omega, ?_⟩
        · rw [← hc, hd, chkL_in hg4 ?_]
          · simp
          · rintro ((k | k) | k)
            · simp only at k; omega
            · obtain ⟨k1, k2⟩ := k
              simp only [decide_eq_false_iff_not] at k1 k2
              exact h2.2.elim (fun e => e (by omega)) fun e => e (by omega)
            · exact k h2.1.1
        · simp -dsimp -implicitDefEqProofs only [↓Ev.xStp_eq, ↓Ev.P, Ev.Q, eq_self, forall_eq_or_imp, implies_true, forall_const, forall_eq, ↓reduceIte, reduceIte, Nat.reduceEqDiff, Nat.reduceAdd, reduceCtorEq, Nat.reduceSub, Int.reduceToNat, Int.reduceLE, Int.reduceLT, Int.reduceNeg, Nat.reduceBEq, Nat.reduceMul, Nat.reduceLeDiff, Nat.reduceMod, UInt8.reduceOfNat, Nat.reduceLT, Int.reduceEq, Int.reduceAdd, Int.reduceSub, Int.reduceMul]
          rfl
    · have hi3 : ¬ (i : Int) < l.length := by omega
      simp -dsimp -implicitDefEqProofs only [hi3, q4Rows_len, ↓Ev.P, Ev.Q, eq_self, forall_eq_or_imp, implies_true, forall_const, forall_eq, ↓reduceIte, reduceIte, Nat.reduceEqDiff, Nat.reduceAdd, reduceCtorEq, Nat.reduceSub, Int.reduceToNat, Int.reduceLE, Int.reduceLT, Int.reduceNeg, Nat.reduceBEq, Nat.reduceMul, Nat.reduceLeDiff, Nat.reduceMod, UInt8.reduceOfNat, Nat.reduceLT, Int.reduceEq, Int.reduceAdd, Int.reduceSub, Int.reduceMul]
      repeat' (first | with_reducible assumption | refine And.intro ?_ ?_ | intro _ | (rw [Ev.xStp_eq]; simp -dsimp -implicitDefEqProofs only [hi3, q4Rows_len, ↓Ev.P, Ev.Q, eq_self, forall_eq_or_imp, implies_true, forall_const, forall_eq, ↓reduceIte, reduceIte, Nat.reduceEqDiff, Nat.reduceAdd, reduceCtorEq, Nat.reduceSub, Int.reduceToNat, Int.reduceLE, Int.reduceLT, Int.reduceNeg, Nat.reduceBEq, Nat.reduceMul, Nat.reduceLeDiff, Nat.reduceMod, UInt8.reduceOfNat, Nat.reduceLT, Int.reduceEq, Int.reduceAdd, Int.reduceSub, Int.reduceMul]))
      all_goals try omega
      all_goals
        rename_i h
        rw [List.drop_of_length_le (by omega), chkL] at hc
        rw [chk_some hc.symm] at hk
      · rw [if_pos h] at hk; exact hk
      · rw [if_neg (by rintro ((k | k) | k); exact h.1.1 k; exact h.1.2 k; exact k h.2)] at hk; exact hk
end Go.Proofs.YtpbkdcfjlbdgfaaDoor
set_option linter.unusedVariables false
set_option linter.unusedSimpArgs false
namespace Go.Proofs.YtpbkdcfjlbdgfaaDoor
open Go Go.Ev
set_option maxRecDepth 100000
variable {G : World → Prop}
def CSame : Contract := pureC fun args => match args with
  | [.d (.sl a), .d (.sl b)] => (unStr a).bind fun x => (unStr b).map fun y => (x.length ≤ 1099511627776 ∧ y.length ≤ 1099511627776, .d (.v (.bool (decide (x = y)))))
  | _ => none
theorem getD_ext {l m : List (List UInt8)} (h : l.length = m.length) (h2 : ∀ i, i < l.length → l.getD i [] = m.getD i []) : l = m := by
  refine List.ext_getElem h fun i h3 h4 => ?_
  have := h2 i h3
  simpa [List.getD_eq_getElem?_getD, List.getElem?_eq_getElem h3, List.getElem?_eq_getElem h4] using this
theorem s15 : Sound G Tryd.prog 15 CSame := by
  refine sd15 (T := tabT []) tab_nil (pureC_lawful _) (pure_hX fun args p x K h hp hk => ?_)
  split at h <;> simp only [Option.bind_eq_some_iff, Option.map_eq_some_iff, Prod.mk.injEq, reduceCtorEq] at h
  obtain ⟨l, hl, m, hm, rfl, rfl⟩ := h
  rw [unStr_eq hl, unStr_eq hm] at *
  refine ⟨Nat.le_of_ble_eq_true rfl, ?_⟩
  obtain ⟨h1, h2⟩ := hp
  simp -dsimp -implicitDefEqProofs only [S15, R15, strRows_len, ↓Ev.xStp_eq, ↓Ev.P, Ev.Q, eq_self, forall_eq_or_imp, implies_true, forall_const, forall_eq, ↓reduceIte, reduceIte, Nat.reduceEqDiff, Nat.reduceAdd, reduceCtorEq, Nat.reduceSub, Int.reduceToNat, Int.reduceLE, Int.reduceLT, Int.reduceNeg, Nat.reduceBEq, Nat.reduceMul, Nat.reduceLeDiff, Nat.reduceMod, UInt8.reduceOfNat, Nat.reduceLT, Int.reduceEq, Int.reduceAdd, Int.reduceSub, Int.reduceMul]
  refine ⟨fun h => ?_, fun h => ?_⟩
  · rw [decide_eq_false (fun e => h (by rw [e]))] at hk; exact hk
  have hlm : l.length = m.length := by omega
  refine xLoop_intro (fun k st => ∃ (i : Nat), i ≤ l.length ∧ k = l.length - i ∧ (∀ j, j < i → l.getD j [] = m.getD j []) ∧
      st = ⟨[(0, .d (.sl (strRows l))), (1, .d (.sl (strRows m))), (5, .d (.v (.int .i64 i)))], 0, []⟩) l.length [] ?_ ?_ ?_
  · simp -dsimp -implicitDefEqProofs only [↓Ev.xStp_eq, ↓Ev.P, Ev.Q, eq_self, forall_eq_or_imp, implies_true, forall_const, forall_eq, ↓reduceIte, reduceIte, Nat.reduceEqDiff, Nat.reduceAdd, reduceCtorEq, Nat.reduceSub, Int.reduceToNat, Int.reduceLE, Int.reduceLT, Int.reduceNeg, Nat.reduceBEq, Nat.reduceMul, Nat.reduceLeDiff, Nat.reduceMod, UInt8.reduceOfNat, Nat.reduceLT, Int.reduceEq, Int.reduceAdd, Int.reduceSub, Int.reduceMul]
  · simp -dsimp -implicitDefEqProofs only [↓Ev.xStp_eq, ↓Ev.P, Ev.Q, eq_self, forall_eq_or_imp, implies_true, forall_const, forall_eq, ↓reduceIte, reduceIte, Nat.reduceEqDiff, Nat.reduceAdd, reduceCtorEq, Nat.reduceSub, Int.reduceToNat, Int.reduceLE, Int.reduceLT, Int.reduceNeg, Nat.reduceBEq, Nat.reduceMul, Nat.reduceLeDiff, Nat.reduceMod, UInt8.reduceOfNat, Nat.reduceLT, Int.reduceEq, Int.reduceAdd, Int.reduceSub, Int.reduceMul]
    exact ⟨0, by omega, by omega, fun j hj => by omega, rfl⟩
  · rintro k st ⟨i, hi, hk2, hj, rfl⟩
    by_cases hil : i < l.length
    · have hi3 : (i : Int) < l.length := by omega
      simp -dsimp -implicitDefEqProofs only [strRows_get hil, strRows_get (show i < m.length by omega), hi3, strRows_len, ↓Ev.xStp_eq, ↓Ev.P, Ev.Q, eq_self, forall_eq_or_imp, implies_true, forall_const, forall_eq, ↓reduceIte, reduceIte, Nat.reduceEqDiff, Nat.reduceAdd, reduceCtorEq, Nat.reduceSub, Int.reduceToNat, Int.reduceLE, Int.reduceLT, Int.reduceNeg, Nat.reduceBEq, Nat.reduceMul, Nat.reduceLeDiff, Nat.reduceMod, UInt8.reduceOfNat, Nat.reduceLT, Int.reduceEq, Int.reduceAdd, Int.reduceSub, Int.reduceMul]
      repeat' (first | with_reducible assumption | refine And.intro ?_ ?_ | intro _)
      all_goals try omega
      · rename_i h
        rw [decide_eq_false (fun e => h (by rw [e]))] at hk; exact hk
      · rename_i h
        refine xAgain_intro (l.length - (i + 1)) [] (by omega) (by simp -dsimp -implicitDefEqProofs only [↓Ev.xStp_eq, ↓Ev.P, Ev.Q, eq_self, forall_eq_or_imp, implies_true, forall_const, forall_eq, ↓reduceIte, reduceIte, Nat.reduceEqDiff, Nat.reduceAdd, reduceCtorEq, Nat.reduceSub, Int.reduceToNat, Int.reduceLE, Int.reduceLT, Int.reduceNeg, Nat.reduceBEq, Nat.reduceMul, Nat.reduceLeDiff, Nat.reduceMod, UInt8.reduceOfNat, Nat.reduceLT, Int.reduceEq, Int.reduceAdd, Int.reduceSub, Int.reduceMul]) ⟨i + 1, by omega, rfl, fun j hj2 => ?_, ?_⟩
        · by_cases e : j = i
          · rw [e]; exact h
          · exact hj j (by omega)
        · simp -dsimp -implicitDefEqProofs only [↓Ev.xStp_eq, ↓Ev.P, Ev.Q, eq_self, forall_eq_or_imp, implies_true, forall_const, forall_eq, ↓reduceIte, reduceIte, Nat.reduceEqDiff, Nat.reduceAdd, reduceCtorEq, Nat.reduceSub, Int.reduceToNat, Int.reduceLE, Int.reduceLT, Int.reduceNeg, Nat.reduceBEq, Nat.reduceMul, Nat.reduceLeDiff, Nat.reduceMod, UInt8.reduceOfNat, Nat.reduceLT, Int.reduceEq, Int.reduceAdd, Int.reduceSub, Int.reduceMul]
          rfl
    · have hi3 : ¬ (i : Int) < l.length := by omega
      simp -dsimp -implicitDefEqProofs only [hi3, strRows_len, ↓Ev.xStp_eq, ↓Ev.P, Ev.Q, eq_self, forall_eq_or_imp, implies_true, forall_const, forall_eq, ↓reduceIte, reduceIte, Nat.reduceEqDiff, Nat.reduceAdd, reduceCtorEq, Nat.reduceSub, Int.reduceToNat, Int.reduceLE, Int.reduceLT, Int.reduceNeg, Nat.reduceBEq, Nat.reduceMul, Nat.reduceLeDiff, Nat.reduceMod, UInt8.reduceOfNat, Nat.reduceLT, Int.reduceEq, Int.reduceAdd, Int.reduceSub, Int.reduceMul]
      rw [decide_eq_true (getD_ext hlm fun j hj2 => hj j (by omega))] at hk; exact hk
/-- Lines behind a sign. -/
def allT (s : List UInt8) (l : List (List UInt8)) : List UInt8 := l.flatMap (lineT s)
theorem all_snoc (s : List UInt8) (l : List (List UInt8)) (i : Nat) (h : i < l.length) : allT s (l.take (i + 1)) = allT s (l.take i) ++ lineT s (l.getD i []) := by
  rw [allT, List.take_succ_eq_append_getElem h, List.flatMap_append]
  simp [allT, List.getD_eq_getElem?_getD, List.getElem?_eq_getElem h]
theorem all_le (s : List UInt8) (l : List (List UInt8)) (i : Nat) : (allT s (l.take i)).length ≤ (allT s l).length := by
  conv => rhs; rw [← List.take_append_drop i l, allT, List.flatMap_append, List.length_append]
  exact Nat.le_add_right _ _
theorem bare_split (x : List UInt8) : ((bareS x).2 = true → x = (bareS x).1 ++ [10]) ∧ ((bareS x).2 = false → (bareS x).1 = x) := by
  unfold bareS
  split
  · rename_i h
    refine ⟨fun _ => ?_, fun h => by cases h⟩
    rcases List.eq_nil_or_concat x with rfl | ⟨m, c, rfl⟩
    · cases h
    · rw [List.concat_eq_append] at h ⊢
      have : c = 10 := by simpa using h
      subst this; simp
  · exact ⟨fun h => by simp at h, fun _ => rfl⟩
def gAll : List SV → Nat → Nat → List UInt8 → Option (Prop × SV × List UInt8)
  | [.d (.v (.string s)), .d (.sl rows)], t, u, bs => (unStr rows).bind fun l => if t = 72 ∧ u = 5 then
      some ((bs.length + (allT s.data.toList l).length ≤ 140737488355328 ∧ s.size ≤ 1000) ∧ l.length ≤ 1099511627776 ∧ ∀ x ∈ l, x.length ≤ 1099511627776, .tup [], bs ++ allT s.data.toList l) else none
  | _, _, _, _ => none
theorem s44 : Sound G Tryd.prog 44 (bldC gAll) := by
  refine sd44 (T := tabT [(58, CBare), (43, bldC gWS)]) (tab_cons s58 (tab_cons sWS tab_nil)) (bldC_lawful _) (bld_hX fun zs t u bs p x bs' K hg hp hk => ?_)
  unfold gAll at hg
  split at hg
  · obtain ⟨l, hl, hg2⟩ := Option.bind_eq_some_iff.1 hg
    obtain ⟨⟨rfl, rfl⟩, hg3⟩ := Option.ite_none_right_eq_some.1 hg2
    simp only [Option.some.injEq, Prod.mk.injEq] at hg3
    obtain ⟨rfl, rfl, rfl⟩ := hg3
    rw [unStr_eq hl] at *
    rename_i s _
    obtain ⟨s, rfl⟩ := ex_str s
    simp only [sem_str] at hk hp
    refine ⟨Nat.le_of_ble_eq_true rfl, ?_⟩
    obtain ⟨⟨hp1, hs⟩, hl1, hlx⟩ := hp
    simp -dsimp -implicitDefEqProofs only [S44, R44, strRows_len, ↓Ev.xStp_eq, ↓Ev.P, Ev.Q, eq_self, forall_eq_or_imp, implies_true, forall_const, forall_eq, ↓reduceIte, reduceIte, Nat.reduceEqDiff, Nat.reduceAdd, reduceCtorEq, Nat.reduceSub, Int.reduceToNat, Int.reduceLE, Int.reduceLT, Int.reduceNeg, Nat.reduceBEq, Nat.reduceMul, Nat.reduceLeDiff, Nat.reduceMod, UInt8.reduceOfNat, Nat.reduceLT, Int.reduceEq, Int.reduceAdd, Int.reduceSub, Int.reduceMul]
    refine xLoop_intro (fun k st => ∃ (i : Nat), i ≤ l.length ∧ k = l.length - i ∧
      st = ⟨[(0, .ptr 0 0), (1, .d (.v (.string ⟨s.toArray⟩))), (10, .d (.sl (strRows l))), (11, .d (.v (.int .i64 l.length))), (12, .d (.v (.int .i64 i)))], 1, [(0, .bld 72 5 (bs ++ allT s (l.take i)))]⟩) l.length [0] ?_ ?_ ?_
    · simp -dsimp -implicitDefEqProofs only [↓Ev.xStp_eq, ↓Ev.P, Ev.Q, eq_self, forall_eq_or_imp, implies_true, forall_const, forall_eq, ↓reduceIte, reduceIte, Nat.reduceEqDiff, Nat.reduceAdd, reduceCtorEq, Nat.reduceSub, Int.reduceToNat, Int.reduceLE, Int.reduceLT, Int.reduceNeg, Nat.reduceBEq, Nat.reduceMul, Nat.reduceLeDiff, Nat.reduceMod, UInt8.reduceOfNat, Nat.reduceLT, Int.reduceEq, Int.reduceAdd, Int.reduceSub, Int.reduceMul]
    · simp -dsimp -implicitDefEqProofs only [↓Ev.xStp_eq, ↓Ev.P, Ev.Q, eq_self, forall_eq_or_imp, implies_true, forall_const, forall_eq, ↓reduceIte, reduceIte, Nat.reduceEqDiff, Nat.reduceAdd, reduceCtorEq, Nat.reduceSub, Int.reduceToNat, Int.reduceLE, Int.reduceLT, Int.reduceNeg, Nat.reduceBEq, Nat.reduceMul, Nat.reduceLeDiff, Nat.reduceMod, UInt8.reduceOfNat, Nat.reduceLT, Int.reduceEq, Int.reduceAdd, Int.reduceSub, Int.reduceMul]
      exact ⟨0, by omega, by omega, by simp [allT]⟩
    · rintro k st ⟨i, hi, hk2, rfl⟩
      by_cases hil : i < l.length
      · have hi3 : (i : Int) < l.length := by omega
        have hx := hlx (l.getD i []) (by simp [List.getD_eq_getElem?_getD, List.getElem?_eq_getElem hil])
        have hle := all_le s l (i + 1)
        have hsn := all_snoc s l i hil
        have hb := bare_split (l.getD i [])
        have hgx := strRows_get hil
        generalize l.getD i [] = x at hx hsn hb hgx
        rcases hbx : bareS x with ⟨t, f⟩
        rw [hbx] at hb
        cases f with
        | false =>
          have hxt : t = x := hb.2 rfl
          subst hxt
          have hlt : lineT s t = s ++ t ++ [10] ++ markT := by rw [lineT, hbx, if_neg (fun h => by cases h)]
          rw [hlt] at hsn
          rw [hsn] at hle
          simp only [List.length_append, List.length_cons, List.length_nil] at hle
          simp -dsimp -implicitDefEqProofs only [hgx, hbx, hi3, CBare, gWS, bldT, List.length_append, ↓Ev.xStp_eq, ↓Ev.P, Ev.Q, eq_self, forall_eq_or_imp, implies_true, forall_const, forall_eq, ↓reduceIte, reduceIte, Nat.reduceEqDiff, Nat.reduceAdd, reduceCtorEq, Nat.reduceSub, Int.reduceToNat, Int.reduceLE, Int.reduceLT, Int.reduceNeg, Nat.reduceBEq, Nat.reduceMul, Nat.reduceLeDiff, Nat.reduceMod, UInt8.reduceOfNat, Nat.reduceLT, Int.reduceEq, Int.reduceAdd, Int.reduceSub, Int.reduceMul]
          repeat' (first | with_reducible assumption | refine And.intro ?_ ?_ | intro _)
          all_goals try omega
          refine xAgain_intro (l.length - (i + 1)) [0] (by omega) (by simp -dsimp -implicitDefEqProofs only [↓Ev.xStp_eq, ↓Ev.P, Ev.Q, eq_self, forall_eq_or_imp, implies_true, forall_const, forall_eq, ↓reduceIte, reduceIte, Nat.reduceEqDiff, Nat.reduceAdd, reduceCtorEq, Nat.reduceSub, Int.reduceToNat, Int.reduceLE, Int.reduceLT, Int.reduceNeg, Nat.reduceBEq, Nat.reduceMul, Nat.reduceLeDiff, Nat.reduceMod, UInt8.reduceOfNat, Nat.reduceLT, Int.reduceEq, Int.reduceAdd, Int.reduceSub, Int.reduceMul]) ⟨i + 1, by omega, rfl, ?_⟩
          rw [hsn]
          simp -dsimp -implicitDefEqProofs only [↓Ev.xStp_eq, ↓Ev.P, Ev.Q, eq_self, forall_eq_or_imp, implies_true, forall_const, forall_eq, ↓reduceIte, reduceIte, Nat.reduceEqDiff, Nat.reduceAdd, reduceCtorEq, Nat.reduceSub, Int.reduceToNat, Int.reduceLE, Int.reduceLT, Int.reduceNeg, Nat.reduceBEq, Nat.reduceMul, Nat.reduceLeDiff, Nat.reduceMod, UInt8.reduceOfNat, Nat.reduceLT, Int.reduceEq, Int.reduceAdd, Int.reduceSub, Int.reduceMul]
          simp
        | true =>
          have hxt : x = t ++ [10] := hb.1 rfl
          have hlt : lineT s x = s ++ x := by rw [lineT, hbx, if_pos rfl]
          rw [hlt] at hsn
          rw [hsn, hxt] at hle
          rw [hxt] at hx
          simp only [List.length_append, List.length_cons, List.length_nil] at hle hx
          simp -dsimp -implicitDefEqProofs only [hgx, hbx, hi3, CBare, gWS, bldT, List.length_append, ↓Ev.xStp_eq, ↓Ev.P, Ev.Q, eq_self, forall_eq_or_imp, implies_true, forall_const, forall_eq, ↓reduceIte, reduceIte, Nat.reduceEqDiff, Nat.reduceAdd, reduceCtorEq, Nat.reduceSub, Int.reduceToNat, Int.reduceLE, Int.reduceLT, Int.reduceNeg, Nat.reduceBEq, Nat.reduceMul, Nat.reduceLeDiff, Nat.reduceMod, UInt8.reduceOfNat, Nat.reduceLT, Int.reduceEq, Int.reduceAdd, Int.reduceSub, Int.reduceMul]
          repeat' (first | with_reducible assumption | refine And.intro ?_ ?_ | intro _)
          all_goals try (rw [hxt]; simp only [List.length_append, List.length_cons, List.length_nil])
          all_goals try omega
          refine xAgain_intro (l.length - (i + 1)) [0] (by omega) (by simp -dsimp -implicitDefEqProofs only [↓Ev.xStp_eq, ↓Ev.P, Ev.Q, eq_self, forall_eq_or_imp, implies_true, forall_const, forall_eq, ↓reduceIte, reduceIte, Nat.reduceEqDiff, Nat.reduceAdd, reduceCtorEq, Nat.reduceSub, Int.reduceToNat, Int.reduceLE, Int.reduceLT, Int.reduceNeg, Nat.reduceBEq, Nat.reduceMul, Nat.reduceLeDiff, Nat.reduceMod, UInt8.reduceOfNat, Nat.reduceLT, Int.reduceEq, Int.reduceAdd, Int.reduceSub, Int.reduceMul]) ⟨i + 1, by omega, rfl, ?_⟩
          rw [hsn, hxt]
          simp -dsimp -implicitDefEqProofs only [↓Ev.xStp_eq, ↓Ev.P, Ev.Q, eq_self, forall_eq_or_imp, implies_true, forall_const, forall_eq, ↓reduceIte, reduceIte, Nat.reduceEqDiff, Nat.reduceAdd, reduceCtorEq, Nat.reduceSub, Int.reduceToNat, Int.reduceLE, Int.reduceLT, Int.reduceNeg, Nat.reduceBEq, Nat.reduceMul, Nat.reduceLeDiff, Nat.reduceMod, UInt8.reduceOfNat, Nat.reduceLT, Int.reduceEq, Int.reduceAdd, Int.reduceSub, Int.reduceMul]
          simp
      · have hi3 : ¬ (i : Int) < l.length := by omega
        simp -dsimp -implicitDefEqProofs only [hi3, ↓Ev.xStp_eq, ↓Ev.P, Ev.Q, eq_self, forall_eq_or_imp, implies_true, forall_const, forall_eq, ↓reduceIte, reduceIte, Nat.reduceEqDiff, Nat.reduceAdd, reduceCtorEq, Nat.reduceSub, Int.reduceToNat, Int.reduceLE, Int.reduceLT, Int.reduceNeg, Nat.reduceBEq, Nat.reduceMul, Nat.reduceLeDiff, Nat.reduceMod, UInt8.reduceOfNat, Nat.reduceLT, Int.reduceEq, Int.reduceAdd, Int.reduceSub, Int.reduceMul]
        rw [List.take_of_length_le (by omega)]
        exact hk
  · cases hg
end Go.Proofs.YtpbkdcfjlbdgfaaDoor
