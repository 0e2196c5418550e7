/- The proof of NumList, from the evaluator up to the card. Part 3 of 5. -/
import Derived.Test.YtpbkdcfjlbdgfaaDoorProg
import Derived.Shelf.Strings.Builder1
import Derived.Shelf.Strings.Builder2
import Derived.Shelf.Strings.OnBuilder
import Derived.Shelf.Strings.Trim
import Derived.Shelf.Small.Utf8
import Derived.Shelf.Small.Strs
import Derived.Shelf.Small.Wraps
import Derived.Shelf.Strings.BuilderF
import Derived.Shelf.Strings.BuilderK
import Derived.Shelf.Utf8.RuneCount
import Derived.Shelf.Strings.Builder2Cap
import Derived.Shelf.Strconv.Atoi
import Derived.Shelf.Strconv.Itoa0
import Derived.Shelf.Strconv.Itoa1
import Derived.Shelf.LaysM
import Derived.Shelf.Strconv.Itoa2
import Derived.Shelf.Strconv.Itoa3
import Derived.Shelf.Strconv.AtoiErrFast
import Derived.Shelf.Strconv.ParseIntEmpty
import Derived.Shelf.Strconv.AtoiFail
import Derived.Shelf.Strconv.Clone
import Derived.Shelf.Strconv.SyntaxError
import Derived.Shelf.LaysC
import Derived.Shelf.Strconv.ToError
import Derived.Shelf.Strconv.Lower
import Derived.Shelf.Strconv.ParseUint10
import Derived.Shelf.Strconv.ParseUint10Empty
import Derived.Shelf.Strconv.ParseUint10Any
import Derived.Shelf.Strconv.ParseInt10
import Derived.Shelf.Strconv.AtoiLong
import Derived.Shelf.Strconv.AtoiInnerAll
import Derived.Shelf.Strconv.RangeError
import Derived.Shelf.Strconv.ToErrorRange
import Derived.Shelf.Strconv.AtoiAll
import Derived.Shelf.Strconv.ErrVarAll
import Derived.Shelf.Strconv.ParseUintEmpty
import Derived.Shelf.Strconv.ParseUint10b64
import Derived.Shelf.Strconv.ParseUint10b32
import Derived.Shelf.Strconv.ParseUint10b16
import Derived.Shelf.Strconv.ParseUint10b8
import Derived.Shelf.Strings.Search1
import Derived.Shelf.Strings.Search2
import Derived.Shelf.Strings.Search3
import Derived.Shelf.Strings.Count
import Derived.Shelf.Strings.Shaped
import Derived.Shelf.Strings.Prefix
import Derived.Shelf.Strings.Split
import Derived.Shelf.Unicode.Decode
import Derived.Shelf.Strings.Runes
import Derived.Shelf.Strings.RuneCount
import Derived.Shelf.Strings.IndexAny
import Derived.Shelf.Strings.AsciiSet
import Derived.Shelf.Strings.IndexAnyAll
import Derived.Shelf.Strings.Explode
import Derived.Shelf.Bits.Mul64
import Derived.Shelf.Strings.Repeat
import Derived.Shelf.Unicode.DecodeSlow
import Derived.Shelf.Unicode.DecodeAny
import Derived.Lib.AsciiSet
import Derived.Laws.RangeAny
import Derived.Lib.ItoaLen
import Derived.Test.YtpbkdcfjlbdgfaaDoorNumListM1
import Derived.Test.YtpbkdcfjlbdgfaaDoorNumListM2
/- The compiled code of functions, by program (gen.py): each theorem says that the loaded program compiles to it. -/
set_option linter.unusedVariables false
namespace Go.Proofs.YtpbkdcfjlbdgfaaDoor
open Go Go.Ev
set_option maxRecDepth 100000

/-! 5: redline/redlinelaw01.NumWords -/
def A5 : Ann := ⟨fun r i => if r = 3 ∧ i = 6 then 1 else 0, fun _ => none, fun r => if r = 1 then some (false, [0]) else if r = 2 then some (false, [0, 3, 4]) else if r = 3 then some (false, [0, 3, 4, 5, 6]) else if r = 6 then some (false, [0, 3, 5, 7]) else if r = 7 then some (false, [0, 3, 5, 7]) else if r = 8 then some (false, [0, 3, 5, 7]) else if r = 9 then some (false, [0, 5]) else if r = 10 then some (false, [5, 8]) else none, fun r => if r = 6 then [0, 3, 5, 7] else []⟩
def S5 : SCode :=
  (.seq (.ops [⟨none, (some 2), .mv 2 (.k (Value.bool false)), false⟩])
  (.seq (.seq (.keep [0]) (.ops [⟨none, (some 11), .mv 11 (.s 0), false⟩,
    ⟨none, (some 12), .call (some 12) 18 false [(.s 11)], false⟩,
    ⟨none, (some 10), .mv 10 (.s 12), false⟩,
    ⟨none, (some 13), .ex 13 (.s 10) 0, false⟩,
    ⟨none, (some 14), .ex 14 (.s 10) 1, false⟩,
    ⟨none, (some 3), .mv 3 (.s 13), false⟩,
    ⟨none, (some 4), .mv 4 (.s 14), false⟩]))
  (.seq (.seq (.keep [0, 3, 4]) (.ops [⟨none, (some 16), .mv 16 (.s 0), false⟩,
    ⟨none, (some 17), .call (some 17) 19 false [(.s 16)], false⟩,
    ⟨none, (some 15), .mv 15 (.s 17), false⟩,
    ⟨none, (some 18), .ex 18 (.s 15) 0, false⟩,
    ⟨none, (some 19), .ex 19 (.s 15) 1, false⟩,
    ⟨none, (some 5), .mv 5 (.s 18), false⟩,
    ⟨none, (some 6), .mv 6 (.s 19), false⟩]))
  (.seq (.seq (.seq (.keep [0, 3, 4, 5, 6]) (.ops [⟨none, (some 20), .mv 20 (.s 4), false⟩,
    ⟨none, (some 21), .mv 21 (.s 6), false⟩,
    ⟨none, (some 22), .bin 22 .neq (.s 20) (.s 21), false⟩,
    ⟨none, (some 23), .mv 23 (.s 22), false⟩,
    ⟨(some (23, false)), (some 24), .mv 24 (.s 3), false⟩,
    ⟨(some (23, false)), (some 25), .mv 25 (.s 5), false⟩,
    ⟨(some (23, false)), (some 26), .call (some 26) 15 true [(.s 24), (.s 25)], false⟩,
    ⟨(some (23, false)), (some 27), .not 27 (.s 26), false⟩,
    ⟨none, (some 28), .pk 28 (.s 23) (.k (Value.bool true)) (.s 27), false⟩]))
  (.cond (.s 28) (.seq (.ops [⟨none, (some 2), .mv 2 (.k (Value.bool false)), false⟩])
  .ret) .skip))
  (.seq (.seq (.ops [⟨none, (some 7), .mv 7 (.k (Value.int .i64 0)), false⟩])
  (.block 0 (.loop [0, 3, 5, 7] (.seq (.seq (.seq (.keep [0, 3, 5, 7]) (.ops [⟨none, (some 29), .mv 29 (.s 7), false⟩,
    ⟨none, (some 30), .mv 30 (.s 3), false⟩,
    ⟨none, (some 31), .len 31 (.s 30), false⟩,
    ⟨none, (some 32), .bin 32 .lss (.s 29) (.s 31), false⟩]))
  (.cond (.s 32) .skip (.exit 0)))
  (.seq (.block 1 (.seq (.keep [0, 3, 5, 7]) (.ops [⟨none, (some 35), .mv 35 (.s 3), false⟩,
    ⟨none, (some 36), .mv 36 (.s 7), false⟩,
    ⟨none, (some 37), .ia 37 1 (.s 35) (.s 36), false⟩,
    ⟨none, none, .st false 1 (.s 37) (.k (Value.string ⟨#[115, 112, 111, 105, 108, 116]⟩)), false⟩])))
  (.seq (.keep [0, 3, 5, 7]) (.ops [⟨none, (some 33), .mv 33 (.s 7), false⟩,
    ⟨none, (some 34), .binc 34 .add (.s 33) (.k (Value.int .i64 1)), false⟩,
    ⟨none, (some 7), .mv 7 (.s 34), false⟩])))))))
  (.seq (.seq (.keep [0, 5]) (.ops [⟨none, (some 39), .mv 39 (.s 0), false⟩,
    ⟨none, (some 40), .call (some 40) 18 false [(.s 39)], false⟩,
    ⟨none, (some 38), .mv 38 (.s 40), false⟩,
    ⟨none, (some 41), .ex 41 (.s 38) 0, false⟩,
    ⟨none, (some 42), .ex 42 (.s 38) 1, false⟩,
    ⟨none, (some 8), .mv 8 (.s 41), false⟩,
    ⟨none, (some 9), .mv 9 (.s 42), false⟩]))
  (.seq (.seq (.keep [5, 8]) (.ops [⟨none, (some 43), .mv 43 (.s 8), false⟩,
    ⟨none, (some 44), .mv 44 (.s 5), false⟩,
    ⟨none, (some 45), .call (some 45) 15 false [(.s 43), (.s 44)], false⟩,
    ⟨none, (some 2), .mv 2 (.s 45), false⟩]))
  .ret)))))))
theorem cc5 : (Tryd.f5.body).bind (cc Tryd.prog Tryd.f5.ntmps A5) = some S5 := by kernel_rfl
def R5 : List RR := [.sl 2]
theorem cr5 : Tryd.f5.results.toList.map (crr Tryd.prog) = R5.map some := by kernel_rfl
theorem nm5 : (Tryd.f5.name == "runtime.NumGoroutine") = false := by kernel_rfl
theorem fn5 : Tryd.prog.funcs[5]? = some Tryd.f5 := by kernel_rfl
theorem bd5 : ∃ b, Tryd.f5.body = some b ∧ cc Tryd.prog Tryd.f5.ntmps A5 b = some S5 := Option.bind_eq_some_iff.1 cc5
theorem sd5 {G : World → Prop} {T : FuncId → Contract} {C : Contract} (hT : ∀ f, Sound G Tryd.prog f (T f)) (hl : C.lawful) (hC : ∀ args st K, C.wp args st K → args.length ≤ 46 ∧ ∃ os op, xv T st.n S5 (st0 args st) (retK R5 st.n os K) (panK st.n op K)) : Sound G Tryd.prog 5 C := by
  obtain ⟨b, hb, hc⟩ := bd5
  rw [xv_eq] at hC
  exact sound_of_ev mo fn5 hb nm5 hc cr5 hT hl hC

/-! 18: redline/num.Words -/
def A18 : Ann := ⟨fun r i => if r = 1 ∧ i = 0 then 11 else if r = 8 ∧ i = 4 then 1 else 0, fun r => if r = 13 then some ([], [(0, true), (1, true), (2, true), (3, true), (4, true), (5, true), (6, true), (7, true)]) else none, fun r => if r = 2 then some (false, [0, 4]) else if r = 4 then some (false, [4]) else if r = 5 then some (false, [0, 4]) else if r = 6 then some (false, [0, 4, 5, 6]) else if r = 7 then some (false, [0, 4]) else if r = 8 then some (false, [4, 7, 8, 9]) else if r = 10 then some (false, [4, 7, 8]) else if r = 11 then some (false, [0, 4, 5, 6]) else if r = 13 then some (false, [0, 4, 10]) else if r = 14 then some (false, [4, 5, 6]) else if r = 16 then some (false, [4, 5, 6]) else none, fun r => if r = 2 then [0, 4] else []⟩
def S18 : SCode :=
  (.seq (.ops [⟨none, (some 2), .mv 2 (.k (Value.slice none 0 0)), false⟩,
    ⟨none, (some 3), .mv 3 (.k (Value.int .i64 0)), false⟩])
  (.seq (.ops [⟨none, (some 4), .nr 4 9 1, false⟩])
  (.block 0 (.loop [0, 4] (.block 1 (.seq (.seq (.keep [0, 4]) (.ops [⟨none, (some 11), .mv 11 (.s 0), false⟩,
    ⟨none, (some 12), .call (some 12) 50 false [(.s 11), (.k (Value.string ⟨#[32, 9]⟩))], false⟩,
    ⟨none, (some 0), .mv 0 (.s 12), false⟩]))
  (.seq (.seq (.ops [⟨none, (some 13), .mv 13 (.s 0), false⟩,
    ⟨none, (some 14), .bin 14 .eql (.s 13) (.k (Value.string ⟨#[]⟩)), false⟩])
  (.cond (.s 14) (.seq (.seq (.keep [4]) (.ops [⟨none, (some 15), .mv 15 (.s 4), false⟩,
    ⟨none, (some 2), .mv 2 (.s 15), false⟩,
    ⟨none, (some 3), .mv 3 (.k (Value.int .i64 0)), false⟩]))
  .ret) .skip))
  (.seq (.seq (.keep [0, 4]) (.ops [⟨none, (some 16), .mv 16 (.s 0), false⟩,
    ⟨none, (some 5), .mv 5 (.s 16), false⟩,
    ⟨none, (some 6), .mv 6 (.k (Value.string ⟨#[]⟩)), false⟩]))
  (.seq (.seq (.seq (.keep [0, 4, 5, 6]) (.ops [⟨none, (some 17), .mv 17 (.s 0), false⟩,
    ⟨none, (some 18), .ixs 18 (.s 17) (.k (Value.int .i64 0)), false⟩,
    ⟨none, (some 19), .bin 19 .eql (.s 18) (.k (Value.int .u8 34)), false⟩]))
  (.cond (.s 19) (.seq (.seq (.keep [0, 4]) (.ops [⟨none, (some 21), .mv 21 (.s 0), false⟩,
    ⟨none, (some 22), .call (some 22) 40 false [(.s 21)], false⟩,
    ⟨none, (some 20), .mv 20 (.s 22), false⟩,
    ⟨none, (some 23), .ex 23 (.s 20) 0, false⟩,
    ⟨none, (some 24), .ex 24 (.s 20) 1, false⟩,
    ⟨none, (some 25), .ex 25 (.s 20) 2, false⟩,
    ⟨none, (some 7), .mv 7 (.s 23), false⟩,
    ⟨none, (some 8), .mv 8 (.s 24), false⟩,
    ⟨none, (some 9), .mv 9 (.s 25), false⟩]))
  (.seq (.seq (.seq (.keep [4, 7, 8, 9]) (.ops [⟨none, (some 26), .mv 26 (.s 9), false⟩,
    ⟨none, (some 27), .bin 27 .neq (.s 26) (.k (Value.int .i64 0)), false⟩,
    ⟨none, (some 28), .mv 28 (.s 27), false⟩,
    ⟨(some (28, false)), (some 29), .mv 29 (.s 8), false⟩,
    ⟨(some (28, false)), (some 30), .call (some 30) 51 true [(.s 29)], false⟩,
    ⟨(some (28, false)), (some 31), .not 31 (.s 30), false⟩,
    ⟨none, (some 32), .pk 32 (.s 28) (.k (Value.bool true)) (.s 31), false⟩]))
  (.cond (.s 32) (.seq (.ops [⟨none, (some 2), .mv 2 (.k (Value.slice none 0 0)), false⟩,
    ⟨none, (some 3), .mv 3 (.k (Value.int .i64 3)), false⟩])
  .ret) .skip))
  (.seq (.keep [4, 7, 8]) (.ops [⟨none, (some 33), .mv 33 (.s 7), false⟩,
    ⟨none, (some 34), .mv 34 (.s 8), false⟩,
    ⟨none, (some 5), .mv 5 (.s 33), false⟩,
    ⟨none, (some 6), .mv 6 (.s 34), false⟩])))) (.seq (.seq (.keep [0, 4, 5, 6]) (.ops [⟨none, (some 35), .mv 35 (.s 0), false⟩,
    ⟨none, (some 36), .call (some 36) 52 false [(.s 35), (.k (Value.string ⟨#[32, 9]⟩))], false⟩,
    ⟨none, (some 10), .mv 10 (.s 36), false⟩]))
  (.seq (.ops [⟨none, (some 37), .mv 37 (.s 10), false⟩,
    ⟨none, (some 38), .bin 38 .geq (.s 37) (.k (Value.int .i64 0)), false⟩])
  (.cond (.s 38) (.seq (.keep [0, 4, 10]) (.dr [] [(0, true, ⟨none, (some 39), .mv 39 (.s 0), false⟩),
    (1, true, ⟨none, (some 40), .mv 40 (.s 10), false⟩),
    (2, true, ⟨none, (some 41), .sls 41 (.s 39) none (some (.s 40)), false⟩),
    (3, true, ⟨none, (some 42), .mv 42 (.s 0), false⟩),
    (4, true, ⟨none, (some 43), .mv 43 (.s 10), false⟩),
    (5, true, ⟨none, (some 44), .sls 44 (.s 42) (some (.s 43)) none, false⟩),
    (6, true, ⟨none, (some 5), .mv 5 (.s 41), false⟩),
    (7, true, ⟨none, (some 6), .mv 6 (.s 44), false⟩)])) .skip)))))
  (.seq (.seq (.seq (.keep [4, 5, 6]) (.ops [⟨none, (some 45), .mv 45 (.s 4), false⟩,
    ⟨none, (some 46), .len 46 (.s 45), false⟩,
    ⟨none, (some 47), .bin 47 .eql (.s 46) (.k (Value.int .i64 32)), false⟩]))
  (.cond (.s 47) (.seq (.ops [⟨none, (some 2), .mv 2 (.k (Value.slice none 0 0)), false⟩,
    ⟨none, (some 3), .mv 3 (.k (Value.int .i64 9)), false⟩])
  .ret) .skip))
  (.seq (.seq (.keep [4, 5, 6]) (.ops [⟨none, (some 48), .mv 48 (.s 4), false⟩,
    ⟨none, (some 49), .mv 49 (.s 5), false⟩,
    ⟨none, (some 50), .bs 50 9 1 [(.s 49)], false⟩,
    ⟨none, (some 51), .ap 51 9 1 16 (.s 48) (.s 50), false⟩,
    ⟨none, (some 4), .mv 4 (.s 51), false⟩]))
  (.ops [⟨none, (some 52), .mv 52 (.s 6), false⟩,
    ⟨none, (some 0), .mv 0 (.s 52), false⟩]))))))))))))
theorem cc18 : (Tryd.f18.body).bind (cc Tryd.prog Tryd.f18.ntmps A18) = some S18 := by kernel_rfl
def R18 : List RR := [.sl 2, .sl 3]
theorem cr18 : Tryd.f18.results.toList.map (crr Tryd.prog) = R18.map some := by kernel_rfl
theorem nm18 : (Tryd.f18.name == "runtime.NumGoroutine") = false := by kernel_rfl
theorem fn18 : Tryd.prog.funcs[18]? = some Tryd.f18 := by kernel_rfl
theorem bd18 : ∃ b, Tryd.f18.body = some b ∧ cc Tryd.prog Tryd.f18.ntmps A18 b = some S18 := Option.bind_eq_some_iff.1 cc18
theorem sd18 {G : World → Prop} {T : FuncId → Contract} {C : Contract} (hT : ∀ f, Sound G Tryd.prog f (T f)) (hl : C.lawful) (hC : ∀ args st K, C.wp args st K → args.length ≤ 53 ∧ ∃ os op, xv T st.n S18 (st0 args st) (retK R18 st.n os K) (panK st.n op K)) : Sound G Tryd.prog 18 C := by
  obtain ⟨b, hb, hc⟩ := bd18
  rw [xv_eq] at hC
  exact sound_of_ev mo fn18 hb nm18 hc cr18 hT hl hC

/-! 19: redline/redlineref01.Words -/
def A19 : Ann := ⟨fun r i => if r = 1 ∧ i = 0 then 11 else if r = 10 ∧ i = 4 then 1 else if r = 10 ∧ i = 9 then 1 else if r = 17 ∧ i = 8 then 1 else 0, fun _ => none, fun r => if r = 2 then some (false, [0, 4]) else if r = 3 then some (false, [0, 4]) else if r = 4 then some (false, [0, 4]) else if r = 5 then some (false, [0, 4]) else if r = 8 then some (false, [0, 4]) else if r = 9 then some (false, [0, 4]) else if r = 10 then some (false, [4, 6, 7, 8]) else if r = 12 then some (false, [4, 6, 7]) else if r = 17 then some (false, [0, 4, 9]) else if r = 18 then some (false, [0, 4, 9]) else if r = 19 then some (false, [0, 4, 9]) else if r = 20 then some (false, [0, 4, 5, 9]) else if r = 21 then some (false, [0, 4, 5]) else if r = 22 then some (false, [4]) else none, fun r => if r = 2 then [0, 4] else if r = 17 then [0, 4, 9] else []⟩
def S19 : SCode :=
  (.seq (.ops [⟨none, (some 2), .mv 2 (.k (Value.slice none 0 0)), false⟩,
    ⟨none, (some 3), .mv 3 (.k (Value.int .i64 0)), false⟩])
  (.seq (.ops [⟨none, (some 4), .nr 4 9 1, false⟩])
  (.seq (.block 0 (.loop [0, 4] (.seq (.seq (.seq (.keep [0, 4]) (.ops [⟨none, (some 10), .mv 10 (.s 0), false⟩,
    ⟨none, (some 11), .lens 11 (.s 10), false⟩,
    ⟨none, (some 12), .bin 12 .gtr (.s 11) (.k (Value.int .i64 0)), false⟩]))
  (.cond (.s 12) .skip (.exit 0)))
  (.block 1 (.seq (.seq (.seq (.keep [0, 4]) (.ops [⟨none, (some 13), .mv 13 (.s 0), false⟩,
    ⟨none, (some 14), .ixs 14 (.s 13) (.k (Value.int .i64 0)), false⟩,
    ⟨none, (some 15), .call (some 15) 53 false [(.s 14)], false⟩]))
  (.cond (.s 15) (.seq (.seq (.keep [0, 4]) (.ops [⟨none, (some 16), .mv 16 (.s 0), false⟩,
    ⟨none, (some 17), .sls 17 (.s 16) (some (.k (Value.int .i64 1))) none, false⟩,
    ⟨none, (some 0), .mv 0 (.s 17), false⟩]))
  (.exit 1)) .skip))
  (.seq (.seq (.seq (.keep [0, 4]) (.ops [⟨none, (some 18), .mv 18 (.s 4), false⟩,
    ⟨none, (some 19), .len 19 (.s 18), false⟩,
    ⟨none, (some 20), .bin 20 .geq (.s 19) (.k (Value.int .i64 32)), false⟩,
    ⟨none, (some 21), .mv 21 (.s 20), false⟩,
    ⟨(some (21, true)), (some 22), .mv 22 (.s 0), false⟩,
    ⟨(some (21, true)), (some 23), .ixs 23 (.s 22) (.k (Value.int .i64 0)), false⟩,
    ⟨(some (21, true)), (some 24), .bin 24 .neq (.s 23) (.k (Value.int .u8 34)), false⟩,
    ⟨none, (some 25), .pk 25 (.s 21) (.s 24) (.k (Value.bool false)), false⟩]))
  (.cond (.s 25) (.seq (.ops [⟨none, (some 2), .mv 2 (.k (Value.slice none 0 0)), false⟩,
    ⟨none, (some 3), .mv 3 (.k (Value.int .i64 9)), false⟩])
  .ret) .skip))
  (.seq (.ops [⟨none, (some 5), .mv 5 (.k (Value.string ⟨#[]⟩)), false⟩])
  (.seq (.seq (.seq (.keep [0, 4]) (.ops [⟨none, (some 26), .mv 26 (.s 0), false⟩,
    ⟨none, (some 27), .ixs 27 (.s 26) (.k (Value.int .i64 0)), false⟩,
    ⟨none, (some 28), .bin 28 .eql (.s 27) (.k (Value.int .u8 34)), false⟩]))
  (.cond (.s 28) (.seq (.seq (.keep [0, 4]) (.ops [⟨none, (some 30), .mv 30 (.s 0), false⟩,
    ⟨none, (some 31), .call (some 31) 54 false [(.s 30)], false⟩,
    ⟨none, (some 29), .mv 29 (.s 31), false⟩,
    ⟨none, (some 32), .ex 32 (.s 29) 0, false⟩,
    ⟨none, (some 33), .ex 33 (.s 29) 1, false⟩,
    ⟨none, (some 34), .ex 34 (.s 29) 2, false⟩,
    ⟨none, (some 6), .mv 6 (.s 32), false⟩,
    ⟨none, (some 7), .mv 7 (.s 33), false⟩,
    ⟨none, (some 8), .mv 8 (.s 34), false⟩]))
  (.seq (.seq (.seq (.keep [4, 6, 7, 8]) (.ops [⟨none, (some 35), .mv 35 (.s 8), false⟩,
    ⟨none, (some 36), .bin 36 .neq (.s 35) (.k (Value.int .i64 0)), false⟩,
    ⟨none, (some 37), .mv 37 (.s 36), false⟩,
    ⟨(some (37, false)), (some 38), .mv 38 (.s 7), false⟩,
    ⟨(some (37, false)), (some 39), .lens 39 (.s 38), false⟩,
    ⟨(some (37, false)), (some 40), .bin 40 .gtr (.s 39) (.k (Value.int .i64 0)), false⟩,
    ⟨(some (37, false)), (some 41), .mv 41 (.s 40), false⟩,
    ⟨(some (41, true)), (some 42), .mv 42 (.s 7), false⟩,
    ⟨(some (41, true)), (some 43), .ixs 43 (.s 42) (.k (Value.int .i64 0)), false⟩,
    ⟨(some (41, true)), (some 44), .call (some 44) 53 true [(.s 43)], true⟩,
    ⟨(some (41, true)), (some 45), .not 45 (.s 44), false⟩,
    ⟨(some (37, false)), (some 46), .pk 46 (.s 41) (.s 45) (.k (Value.bool false)), false⟩,
    ⟨none, (some 47), .pk 47 (.s 37) (.k (Value.bool true)) (.s 46), false⟩]))
  (.cond (.s 47) (.seq (.ops [⟨none, (some 2), .mv 2 (.k (Value.slice none 0 0)), false⟩,
    ⟨none, (some 3), .mv 3 (.k (Value.int .i64 3)), false⟩])
  .ret) .skip))
  (.seq (.seq (.seq (.keep [4, 6, 7]) (.ops [⟨none, (some 48), .mv 48 (.s 4), false⟩,
    ⟨none, (some 49), .len 49 (.s 48), false⟩,
    ⟨none, (some 50), .bin 50 .geq (.s 49) (.k (Value.int .i64 32)), false⟩]))
  (.cond (.s 50) (.seq (.ops [⟨none, (some 2), .mv 2 (.k (Value.slice none 0 0)), false⟩,
    ⟨none, (some 3), .mv 3 (.k (Value.int .i64 9)), false⟩])
  .ret) .skip))
  (.seq (.ops [⟨none, (some 51), .mv 51 (.s 6), false⟩,
    ⟨none, (some 5), .mv 5 (.s 51), false⟩])
  (.ops [⟨none, (some 52), .mv 52 (.s 7), false⟩,
    ⟨none, (some 0), .mv 0 (.s 52), false⟩]))))) (.seq (.ops [⟨none, (some 9), .mv 9 (.k (Value.int .i64 0)), false⟩])
  (.seq (.block 2 (.loop [0, 4, 9] (.seq (.seq (.seq (.keep [0, 4, 9]) (.ops [⟨none, (some 53), .mv 53 (.s 9), false⟩,
    ⟨none, (some 54), .mv 54 (.s 0), false⟩,
    ⟨none, (some 55), .lens 55 (.s 54), false⟩,
    ⟨none, (some 56), .bin 56 .lss (.s 53) (.s 55), false⟩,
    ⟨none, (some 57), .mv 57 (.s 56), false⟩,
    ⟨(some (57, true)), (some 58), .mv 58 (.s 0), false⟩,
    ⟨(some (57, true)), (some 59), .mv 59 (.s 9), false⟩,
    ⟨(some (57, true)), (some 60), .ixs 60 (.s 58) (.s 59), false⟩,
    ⟨(some (57, true)), (some 61), .call (some 61) 53 true [(.s 60)], false⟩,
    ⟨(some (57, true)), (some 62), .not 62 (.s 61), true⟩,
    ⟨none, (some 63), .pk 63 (.s 57) (.s 62) (.k (Value.bool false)), false⟩]))
  (.cond (.s 63) .skip (.exit 2)))
  (.block 3 (.seq (.keep [0, 4, 9]) (.ops [⟨none, (some 64), .mv 64 (.s 9), false⟩,
    ⟨none, (some 65), .binc 65 .add (.s 64) (.k (Value.int .i64 1)), false⟩,
    ⟨none, (some 9), .mv 9 (.s 65), false⟩]))))))
  (.seq (.seq (.keep [0, 4, 9]) (.ops [⟨none, (some 66), .mv 66 (.s 0), false⟩,
    ⟨none, (some 67), .mv 67 (.s 9), false⟩,
    ⟨none, (some 68), .sls 68 (.s 66) none (some (.s 67)), false⟩,
    ⟨none, (some 5), .mv 5 (.s 68), false⟩]))
  (.seq (.keep [0, 4, 5, 9]) (.ops [⟨none, (some 69), .mv 69 (.s 0), false⟩,
    ⟨none, (some 70), .mv 70 (.s 9), false⟩,
    ⟨none, (some 71), .sls 71 (.s 69) (some (.s 70)) none, false⟩,
    ⟨none, (some 0), .mv 0 (.s 71), false⟩])))))))
  (.seq (.keep [0, 4, 5]) (.ops [⟨none, (some 72), .mv 72 (.s 4), false⟩,
    ⟨none, (some 73), .mv 73 (.s 5), false⟩,
    ⟨none, (some 74), .bs 74 9 1 [(.s 73)], false⟩,
    ⟨none, (some 75), .ap 75 9 1 16 (.s 72) (.s 74), false⟩,
    ⟨none, (some 4), .mv 4 (.s 75), false⟩]))))))))))
  (.seq (.seq (.keep [4]) (.ops [⟨none, (some 76), .mv 76 (.s 4), false⟩,
    ⟨none, (some 2), .mv 2 (.s 76), false⟩,
    ⟨none, (some 3), .mv 3 (.k (Value.int .i64 0)), false⟩]))
  .ret))))
theorem cc19 : (Tryd.f19.body).bind (cc Tryd.prog Tryd.f19.ntmps A19) = some S19 := by kernel_rfl
def R19 : List RR := [.sl 2, .sl 3]
theorem cr19 : Tryd.f19.results.toList.map (crr Tryd.prog) = R19.map some := by kernel_rfl
theorem nm19 : (Tryd.f19.name == "runtime.NumGoroutine") = false := by kernel_rfl
theorem fn19 : Tryd.prog.funcs[19]? = some Tryd.f19 := by kernel_rfl
theorem bd19 : ∃ b, Tryd.f19.body = some b ∧ cc Tryd.prog Tryd.f19.ntmps A19 b = some S19 := Option.bind_eq_some_iff.1 cc19
theorem sd19 {G : World → Prop} {T : FuncId → Contract} {C : Contract} (hT : ∀ f, Sound G Tryd.prog f (T f)) (hl : C.lawful) (hC : ∀ args st K, C.wp args st K → args.length ≤ 77 ∧ ∃ os op, xv T st.n S19 (st0 args st) (retK R19 st.n os K) (panK st.n op K)) : Sound G Tryd.prog 19 C := by
  obtain ⟨b, hb, hc⟩ := bd19
  rw [xv_eq] at hC
  exact sound_of_ev mo fn19 hb nm19 hc cr19 hT hl hC

/-! 51: redline/num.blank -/
def A51 : Ann := ⟨fun _ _ => 0, fun _ => none, fun r => if r = 1 then some (false, [0]) else none, fun _ => []⟩
def S51 : SCode :=
  (.seq (.ops [⟨none, (some 2), .mv 2 (.k (Value.bool false)), false⟩])
  (.seq (.seq (.keep [0]) (.ops [⟨none, (some 3), .mv 3 (.s 0), false⟩,
    ⟨none, (some 4), .bin 4 .eql (.s 3) (.k (Value.string ⟨#[]⟩)), false⟩,
    ⟨none, (some 5), .mv 5 (.s 4), false⟩,
    ⟨(some (5, false)), (some 6), .mv 6 (.s 0), false⟩,
    ⟨(some (5, false)), (some 7), .ixs 7 (.s 6) (.k (Value.int .i64 0)), false⟩,
    ⟨(some (5, false)), (some 8), .bin 8 .eql (.s 7) (.k (Value.int .u8 32)), false⟩,
    ⟨none, (some 9), .pk 9 (.s 5) (.k (Value.bool true)) (.s 8), false⟩,
    ⟨none, (some 10), .mv 10 (.s 9), false⟩,
    ⟨(some (10, false)), (some 11), .mv 11 (.s 0), false⟩,
    ⟨(some (10, false)), (some 12), .ixs 12 (.s 11) (.k (Value.int .i64 0)), true⟩,
    ⟨(some (10, false)), (some 13), .bin 13 .eql (.s 12) (.k (Value.int .u8 9)), false⟩,
    ⟨none, (some 14), .pk 14 (.s 10) (.k (Value.bool true)) (.s 13), false⟩,
    ⟨none, (some 2), .mv 2 (.s 14), false⟩]))
  .ret))
theorem cc51 : (Tryd.f51.body).bind (cc Tryd.prog Tryd.f51.ntmps A51) = some S51 := by kernel_rfl
def R51 : List RR := [.sl 2]
theorem cr51 : Tryd.f51.results.toList.map (crr Tryd.prog) = R51.map some := by kernel_rfl
theorem nm51 : (Tryd.f51.name == "runtime.NumGoroutine") = false := by kernel_rfl
theorem fn51 : Tryd.prog.funcs[51]? = some Tryd.f51 := by kernel_rfl
theorem bd51 : ∃ b, Tryd.f51.body = some b ∧ cc Tryd.prog Tryd.f51.ntmps A51 b = some S51 := Option.bind_eq_some_iff.1 cc51
theorem sd51 {G : World → Prop} {T : FuncId → Contract} {C : Contract} (hT : ∀ f, Sound G Tryd.prog f (T f)) (hl : C.lawful) (hC : ∀ args st K, C.wp args st K → args.length ≤ 15 ∧ ∃ os op, xv T st.n S51 (st0 args st) (retK R51 st.n os K) (panK st.n op K)) : Sound G Tryd.prog 51 C := by
  obtain ⟨b, hb, hc⟩ := bd51
  rw [xv_eq] at hC
  exact sound_of_ev mo fn51 hb nm51 hc cr51 hT hl hC

/-! 53: redline/redlineref01.blank -/
def A53 : Ann := ⟨fun _ _ => 0, fun _ => none, fun r => if r = 1 then some (false, [0]) else none, fun _ => []⟩
def S53 : SCode :=
  (.seq (.ops [⟨none, (some 2), .mv 2 (.k (Value.bool false)), false⟩])
  (.seq (.seq (.keep [0]) (.ops [⟨none, (some 3), .mv 3 (.s 0), false⟩,
    ⟨none, (some 4), .bin 4 .eql (.s 3) (.k (Value.int .u8 32)), false⟩,
    ⟨none, (some 5), .mv 5 (.s 4), false⟩,
    ⟨(some (5, false)), (some 6), .mv 6 (.s 0), false⟩,
    ⟨(some (5, false)), (some 7), .bin 7 .eql (.s 6) (.k (Value.int .u8 9)), false⟩,
    ⟨none, (some 8), .pk 8 (.s 5) (.k (Value.bool true)) (.s 7), false⟩,
    ⟨none, (some 2), .mv 2 (.s 8), false⟩]))
  .ret))
theorem cc53 : (Tryd.f53.body).bind (cc Tryd.prog Tryd.f53.ntmps A53) = some S53 := by kernel_rfl
def R53 : List RR := [.sl 2]
theorem cr53 : Tryd.f53.results.toList.map (crr Tryd.prog) = R53.map some := by kernel_rfl
theorem nm53 : (Tryd.f53.name == "runtime.NumGoroutine") = false := by kernel_rfl
theorem fn53 : Tryd.prog.funcs[53]? = some Tryd.f53 := by kernel_rfl
theorem bd53 : ∃ b, Tryd.f53.body = some b ∧ cc Tryd.prog Tryd.f53.ntmps A53 b = some S53 := Option.bind_eq_some_iff.1 cc53
theorem sd53 {G : World → Prop} {T : FuncId → Contract} {C : Contract} (hT : ∀ f, Sound G Tryd.prog f (T f)) (hl : C.lawful) (hC : ∀ args st K, C.wp args st K → args.length ≤ 9 ∧ ∃ os op, xv T st.n S53 (st0 args st) (retK R53 st.n os K) (panK st.n op K)) : Sound G Tryd.prog 53 C := by
  obtain ⟨b, hb, hc⟩ := bd53
  rw [xv_eq] at hC
  exact sound_of_ev mo fn53 hb nm53 hc cr53 hT hl hC

/-! 50: strings.TrimLeft -/
def A50 : Ann := ⟨fun _ _ => 0, fun _ => none, fun r => if r = 1 then some (false, [0, 1]) else if r = 3 then some (false, [0, 1]) else if r = 4 then some (false, [0, 1]) else if r = 5 then some (false, [0, 1]) else if r = 7 then some (false, [0, 5]) else if r = 8 then some (false, [0, 1]) else none, fun _ => []⟩
def S50 : SCode :=
  (.seq (.ops [⟨none, (some 4), .mv 4 (.k (Value.string ⟨#[]⟩)), false⟩])
  (.seq (.seq (.seq (.keep [0, 1]) (.ops [⟨none, (some 7), .mv 7 (.s 0), false⟩,
    ⟨none, (some 8), .bin 8 .eql (.s 7) (.k (Value.string ⟨#[]⟩)), false⟩,
    ⟨none, (some 9), .mv 9 (.s 8), false⟩,
    ⟨(some (9, false)), (some 10), .mv 10 (.s 1), false⟩,
    ⟨(some (9, false)), (some 11), .bin 11 .eql (.s 10) (.k (Value.string ⟨#[]⟩)), false⟩,
    ⟨none, (some 12), .pk 12 (.s 9) (.k (Value.bool true)) (.s 11), false⟩]))
  (.cond (.s 12) (.seq (.ops [⟨none, (some 13), .mv 13 (.s 0), false⟩,
    ⟨none, (some 4), .mv 4 (.s 13), false⟩])
  .ret) .skip))
  (.seq (.seq (.seq (.keep [0, 1]) (.ops [⟨none, (some 14), .mv 14 (.s 1), false⟩,
    ⟨none, (some 15), .lens 15 (.s 14), false⟩,
    ⟨none, (some 16), .bin 16 .eql (.s 15) (.k (Value.int .i64 1)), false⟩,
    ⟨none, (some 17), .mv 17 (.s 16), false⟩,
    ⟨(some (17, true)), (some 18), .mv 18 (.s 1), false⟩,
    ⟨(some (17, true)), (some 19), .ixs 19 (.s 18) (.k (Value.int .i64 0)), false⟩,
    ⟨(some (17, true)), (some 20), .bin 20 .lss (.s 19) (.k (Value.int .u8 128)), false⟩,
    ⟨none, (some 21), .pk 21 (.s 17) (.s 20) (.k (Value.bool false)), false⟩]))
  (.cond (.s 21) (.seq (.seq (.keep [0, 1]) (.ops [⟨none, (some 22), .mv 22 (.s 0), false⟩,
    ⟨none, (some 23), .mv 23 (.s 1), false⟩,
    ⟨none, (some 24), .ixs 24 (.s 23) (.k (Value.int .i64 0)), false⟩,
    ⟨none, (some 25), .call (some 25) 97 false [(.s 22), (.s 24)], false⟩,
    ⟨none, (some 4), .mv 4 (.s 25), false⟩]))
  .ret) .skip))
  (.seq (.seq (.seq (.keep [0, 1]) (.ops [⟨none, (some 27), .mv 27 (.s 1), false⟩,
    ⟨none, (some 28), .call (some 28) 98 false [(.s 27)], false⟩,
    ⟨none, (some 26), .mv 26 (.s 28), false⟩,
    ⟨none, (some 29), .ex 29 (.s 26) 0, false⟩,
    ⟨none, (some 30), .ex 30 (.s 26) 1, false⟩,
    ⟨none, (some 5), .al 5 124 (List.replicate 256 (Value.bool false)), false⟩,
    ⟨none, none, .st true 256 (.s 5) (.s 29), false⟩,
    ⟨none, (some 6), .mv 6 (.s 30), false⟩]))
  (.seq (.ops [⟨none, (some 31), .mv 31 (.s 6), false⟩])
  (.cond (.s 31) (.seq (.seq (.keep [0, 5]) (.ops [⟨none, (some 32), .mv 32 (.s 0), false⟩,
    ⟨none, (some 33), .call (some 33) 99 false [(.s 32), (.s 5)], false⟩,
    ⟨none, (some 4), .mv 4 (.s 33), false⟩]))
  .ret) .skip)))
  (.seq (.seq (.keep [0, 1]) (.ops [⟨none, (some 34), .mv 34 (.s 0), false⟩,
    ⟨none, (some 35), .mv 35 (.s 1), false⟩,
    ⟨none, (some 36), .call (some 36) 100 false [(.s 34), (.s 35)], false⟩,
    ⟨none, (some 4), .mv 4 (.s 36), false⟩]))
  .ret)))))
theorem cc50 : (Tryd.f50.body).bind (cc Tryd.prog Tryd.f50.ntmps A50) = some S50 := by kernel_rfl
def R50 : List RR := [.sl 4]
theorem cr50 : Tryd.f50.results.toList.map (crr Tryd.prog) = R50.map some := by kernel_rfl
theorem nm50 : (Tryd.f50.name == "runtime.NumGoroutine") = false := by kernel_rfl
theorem fn50 : Tryd.prog.funcs[50]? = some Tryd.f50 := by kernel_rfl
theorem bd50 : ∃ b, Tryd.f50.body = some b ∧ cc Tryd.prog Tryd.f50.ntmps A50 b = some S50 := Option.bind_eq_some_iff.1 cc50
theorem sd50 {G : World → Prop} {T : FuncId → Contract} {C : Contract} (hT : ∀ f, Sound G Tryd.prog f (T f)) (hl : C.lawful) (hC : ∀ args st K, C.wp args st K → args.length ≤ 37 ∧ ∃ os op, xv T st.n S50 (st0 args st) (retK R50 st.n os K) (panK st.n op K)) : Sound G Tryd.prog 50 C := by
  obtain ⟨b, hb, hc⟩ := bd50
  rw [xv_eq] at hC
  exact sound_of_ev mo fn50 hb nm50 hc cr50 hT hl hC

/-! 99: strings.trimLeftASCII -/
def A99 : Ann := ⟨fun _ _ => 0, fun _ => none, fun r => if r = 1 then some (false, [0, 1]) else if r = 2 then some (false, [0, 1]) else if r = 3 then some (false, [0, 1]) else none, fun r => if r = 1 then [0, 1] else []⟩
def S99 : SCode :=
  (.seq (.ops [⟨none, (some 4), .mv 4 (.k (Value.string ⟨#[]⟩)), false⟩])
  (.seq (.block 0 (.loop [0, 1] (.seq (.seq (.seq (.keep [0, 1]) (.ops [⟨none, (some 5), .mv 5 (.s 0), false⟩,
    ⟨none, (some 6), .lens 6 (.s 5), false⟩,
    ⟨none, (some 7), .bin 7 .gtr (.s 6) (.k (Value.int .i64 0)), false⟩]))
  (.cond (.s 7) .skip (.exit 0)))
  (.block 1 (.seq (.seq (.seq (.keep [0, 1]) (.ops [⟨none, (some 8), .mv 8 (.s 1), false⟩,
    ⟨none, (some 9), .mv 9 (.s 0), false⟩,
    ⟨none, (some 10), .ixs 10 (.s 9) (.k (Value.int .i64 0)), false⟩,
    ⟨none, (some 11), .call (some 11) 103 false [(.s 8), (.s 10)], false⟩,
    ⟨none, (some 12), .not 12 (.s 11), false⟩]))
  (.cond (.s 12) (.exit 0) .skip))
  (.seq (.keep [0, 1]) (.ops [⟨none, (some 13), .mv 13 (.s 0), false⟩,
    ⟨none, (some 14), .sls 14 (.s 13) (some (.k (Value.int .i64 1))) none, false⟩,
    ⟨none, (some 0), .mv 0 (.s 14), false⟩])))))))
  (.seq (.ops [⟨none, (some 15), .mv 15 (.s 0), false⟩,
    ⟨none, (some 4), .mv 4 (.s 15), false⟩])
  .ret)))
theorem cc99 : (Tryd.f99.body).bind (cc Tryd.prog Tryd.f99.ntmps A99) = some S99 := by kernel_rfl
def R99 : List RR := [.sl 4]
theorem cr99 : Tryd.f99.results.toList.map (crr Tryd.prog) = R99.map some := by kernel_rfl
theorem nm99 : (Tryd.f99.name == "runtime.NumGoroutine") = false := by kernel_rfl
theorem fn99 : Tryd.prog.funcs[99]? = some Tryd.f99 := by kernel_rfl
theorem bd99 : ∃ b, Tryd.f99.body = some b ∧ cc Tryd.prog Tryd.f99.ntmps A99 b = some S99 := Option.bind_eq_some_iff.1 cc99
theorem sd99 {G : World → Prop} {T : FuncId → Contract} {C : Contract} (hT : ∀ f, Sound G Tryd.prog f (T f)) (hl : C.lawful) (hC : ∀ args st K, C.wp args st K → args.length ≤ 16 ∧ ∃ os op, xv T st.n S99 (st0 args st) (retK R99 st.n os K) (panK st.n op K)) : Sound G Tryd.prog 99 C := by
  obtain ⟨b, hb, hc⟩ := bd99
  rw [xv_eq] at hC
  exact sound_of_ev mo fn99 hb nm99 hc cr99 hT hl hC

/-! 52: strings.IndexAny -/
def A52 : Ann := ⟨fun _ _ => 0, fun _ => none, fun r => if r = 3 then some (false, [0, 1]) else if r = 4 then some (false, [0, 1]) else if r = 7 then some (false, [0, 5]) else if r = 8 then some (false, [0, 1]) else if r = 9 then some (false, [0, 1]) else if r = 12 then some (false, [0, 6, 8]) else if r = 13 then some (false, [0, 6, 8]) else if r = 14 then some (false, [0, 6, 8]) else if r = 19 then some (false, [1, 45, 46]) else if r = 20 then some (false, [1, 9, 10, 45]) else none, fun r => if r = 12 then [0, 6, 8] else if r = 18 then [1, 45] else []⟩
def S52 : SCode :=
  (.seq (.ops [⟨none, (some 4), .mv 4 (.k (Value.int .i64 0)), false⟩])
  (.seq (.seq (.ops [⟨none, (some 11), .mv 11 (.s 1), false⟩,
    ⟨none, (some 12), .bin 12 .eql (.s 11) (.k (Value.string ⟨#[]⟩)), false⟩])
  (.cond (.s 12) (.seq (.ops [⟨none, (some 4), .mv 4 (.k (Value.int .i64 (-1))), false⟩])
  .ret) .skip))
  (.seq (.seq (.seq (.keep [0, 1]) (.ops [⟨none, (some 13), .mv 13 (.s 1), false⟩,
    ⟨none, (some 14), .lens 14 (.s 13), false⟩,
    ⟨none, (some 15), .bin 15 .eql (.s 14) (.k (Value.int .i64 1)), false⟩]))
  (.cond (.s 15) (.seq (.seq (.keep [0, 1]) (.ops [⟨none, (some 16), .mv 16 (.s 1), false⟩,
    ⟨none, (some 17), .ixs 17 (.s 16) (.k (Value.int .i64 0)), false⟩,
    ⟨none, (some 18), .cvi 18 .i32 (.s 17), false⟩,
    ⟨none, (some 5), .mv 5 (.s 18), false⟩]))
  (.seq (.seq (.ops [⟨none, (some 19), .mv 19 (.s 5), false⟩,
    ⟨none, (some 20), .bin 20 .geq (.s 19) (.k (Value.int .i32 128)), false⟩])
  (.cond (.s 20) (.ops [⟨none, (some 5), .mv 5 (.k (Value.int .i32 65533)), false⟩]) .skip))
  (.seq (.seq (.keep [0, 5]) (.ops [⟨none, (some 21), .mv 21 (.s 0), false⟩,
    ⟨none, (some 22), .mv 22 (.s 5), false⟩,
    ⟨none, (some 23), .call (some 23) 101 false [(.s 21), (.s 22)], false⟩,
    ⟨none, (some 4), .mv 4 (.s 23), false⟩]))
  .ret))) .skip))
  (.seq (.seq (.seq (.keep [0, 1]) (.ops [⟨none, (some 24), .mv 24 (.s 0), false⟩,
    ⟨none, (some 25), .lens 25 (.s 24), false⟩,
    ⟨none, (some 26), .call (some 26) 102 false [(.s 25)], false⟩]))
  (.cond (.s 26) (.seq (.seq (.keep [0, 1]) (.ops [⟨none, (some 28), .mv 28 (.s 1), false⟩,
    ⟨none, (some 29), .call (some 29) 98 false [(.s 28)], false⟩,
    ⟨none, (some 27), .mv 27 (.s 29), false⟩,
    ⟨none, (some 30), .ex 30 (.s 27) 0, false⟩,
    ⟨none, (some 31), .ex 31 (.s 27) 1, false⟩,
    ⟨none, (some 6), .al 6 124 (List.replicate 256 (Value.bool false)), false⟩,
    ⟨none, none, .st true 256 (.s 6) (.s 30), false⟩,
    ⟨none, (some 7), .mv 7 (.s 31), false⟩]))
  (.seq (.ops [⟨none, (some 32), .mv 32 (.s 7), false⟩])
  (.cond (.s 32) (.seq (.seq (.ops [⟨none, (some 8), .mv 8 (.k (Value.int .i64 0)), false⟩])
  (.block 0 (.loop [0, 6, 8] (.seq (.seq (.seq (.keep [0, 6, 8]) (.ops [⟨none, (some 33), .mv 33 (.s 8), false⟩,
    ⟨none, (some 34), .mv 34 (.s 0), false⟩,
    ⟨none, (some 35), .lens 35 (.s 34), false⟩,
    ⟨none, (some 36), .bin 36 .lss (.s 33) (.s 35), false⟩]))
  (.cond (.s 36) .skip (.exit 0)))
  (.seq (.block 1 (.seq (.seq (.keep [0, 6, 8]) (.ops [⟨none, (some 39), .mv 39 (.s 0), false⟩,
    ⟨none, (some 40), .mv 40 (.s 8), false⟩,
    ⟨none, (some 41), .ixs 41 (.s 39) (.s 40), false⟩,
    ⟨none, (some 42), .call (some 42) 103 false [(.s 6), (.s 41)], false⟩]))
  (.cond (.s 42) (.seq (.ops [⟨none, (some 43), .mv 43 (.s 8), false⟩,
    ⟨none, (some 4), .mv 4 (.s 43), false⟩])
  .ret) .skip)))
  (.seq (.keep [0, 6, 8]) (.ops [⟨none, (some 37), .mv 37 (.s 8), false⟩,
    ⟨none, (some 38), .binc 38 .add (.s 37) (.k (Value.int .i64 1)), false⟩,
    ⟨none, (some 8), .mv 8 (.s 38), false⟩])))))))
  (.seq (.ops [⟨none, (some 4), .mv 4 (.k (Value.int .i64 (-1))), false⟩])
  .ret)) .skip))) .skip))
  (.seq (.seq (.ops [⟨none, (some 44), .mv 44 (.s 0), false⟩,
    ⟨none, (some 45), .rg 45 (.s 44), false⟩])
  (.block 2 (.loop [1, 45] (.seq (.ops [⟨none, (some 46), .nx 46 (.s 45), false⟩,
    ⟨none, (some 47), .ex 47 (.s 46) 0, false⟩])
  (.seq (.cond (.s 47) .skip (.exit 2))
  (.block 3 (.seq (.seq (.keep [1, 45, 46]) (.ops [⟨none, (some 48), .ex 48 (.s 46) 1, false⟩,
    ⟨none, (some 49), .ex 49 (.s 46) 2, false⟩,
    ⟨none, (some 9), .mv 9 (.s 48), false⟩,
    ⟨none, (some 10), .mv 10 (.s 49), false⟩]))
  (.seq (.seq (.keep [1, 9, 10, 45]) (.ops [⟨none, (some 50), .mv 50 (.s 1), false⟩,
    ⟨none, (some 51), .mv 51 (.s 10), false⟩,
    ⟨none, (some 52), .call (some 52) 101 false [(.s 50), (.s 51)], false⟩,
    ⟨none, (some 53), .bin 53 .geq (.s 52) (.k (Value.int .i64 0)), false⟩]))
  (.cond (.s 53) (.seq (.ops [⟨none, (some 54), .mv 54 (.s 9), false⟩,
    ⟨none, (some 4), .mv 4 (.s 54), false⟩])
  .ret) .skip)))))))))
  (.seq (.ops [⟨none, (some 4), .mv 4 (.k (Value.int .i64 (-1))), false⟩])
  .ret))))))
theorem cc52 : (Tryd.f52.body).bind (cc Tryd.prog Tryd.f52.ntmps A52) = some S52 := by kernel_rfl
def R52 : List RR := [.sl 4]
theorem cr52 : Tryd.f52.results.toList.map (crr Tryd.prog) = R52.map some := by kernel_rfl
theorem nm52 : (Tryd.f52.name == "runtime.NumGoroutine") = false := by kernel_rfl
theorem fn52 : Tryd.prog.funcs[52]? = some Tryd.f52 := by kernel_rfl
theorem bd52 : ∃ b, Tryd.f52.body = some b ∧ cc Tryd.prog Tryd.f52.ntmps A52 b = some S52 := Option.bind_eq_some_iff.1 cc52
theorem sd52 {G : World → Prop} {T : FuncId → Contract} {C : Contract} (hT : ∀ f, Sound G Tryd.prog f (T f)) (hl : C.lawful) (hC : ∀ args st K, C.wp args st K → args.length ≤ 55 ∧ ∃ os op, xv T st.n S52 (st0 args st) (retK R52 st.n os K) (panK st.n op K)) : Sound G Tryd.prog 52 C := by
  obtain ⟨b, hb, hc⟩ := bd52
  rw [xv_eq] at hC
  exact sound_of_ev mo fn52 hb nm52 hc cr52 hT hl hC

/-! 101: strings.IndexRune -/
def A101 : Ann := ⟨fun r i => if r = 18 ∧ i = 3 then 1 else if r = 18 ∧ i = 9 then 1 else if r = 18 ∧ i = 23 then 1 else 0, fun r => if r = 31 then some ([], [(0, true), (1, true), (2, true), (3, true), (4, true), (5, true), (6, true), (7, true), (8, true), (9, true), (10, true)]) else if r = 14 then some ([], [(0, true), (1, true), (2, true), (3, true), (4, true), (5, true), (6, true), (7, true), (8, true), (9, true), (10, true)]) else if r = 7 then some ([0, 1, 2, 3, 4, 5, 6, 7, 8, 9, 10, 11, 12, 13, 14, 15], [(0, true), (1, true), (2, true), (3, true), (4, true), (5, true), (6, true), (7, false), (8, true)]) else if r = 6 then some ([], [(0, true), (1, true), (2, true), (3, true), (4, true), (5, true), (6, true)]) else none, fun r => if r = 1 then some (false, [0, 1]) else if r = 2 then some (false, [0, 7]) else if r = 5 then some (false, [0, 7, 8, 9]) else if r = 6 then some (false, [0, 7, 8, 9]) else if r = 7 then some (false, [0, 7, 8, 9]) else if r = 10 then some (false, [0, 7, 8, 9, 11]) else if r = 12 then some (false, [0, 7, 8, 9, 12]) else if r = 13 then some (false, [0, 7, 8, 9, 12]) else if r = 14 then some (false, [0, 7, 8, 9, 12]) else if r = 15 then some (false, [8, 9]) else if r = 16 then some (false, [0, 7, 8, 9, 10]) else if r = 17 then some (false, [0, 7, 8, 9, 10]) else if r = 18 then some (false, [0, 7, 8, 9, 10]) else if r = 20 then some (false, [0, 1, 8, 9]) else if r = 22 then some (false, [8, 9, 13]) else if r = 23 then some (false, [0, 7, 8, 9]) else if r = 24 then some (false, [0, 7, 8, 9, 14]) else if r = 25 then some (false, [0, 7, 8, 9, 14, 15]) else if r = 26 then some (false, [0, 7, 8, 9, 14, 15]) else if r = 27 then some (false, [0, 7, 8, 9, 14, 15]) else if r = 29 then some (false, [0, 7, 8, 9, 14, 15, 16]) else if r = 30 then some (false, [0, 7, 8, 9, 14, 15, 16]) else if r = 31 then some (false, [0, 7, 8, 9, 14, 15, 16]) else if r = 32 then some (false, [8, 9]) else if r = 34 then some (false, [0, 1]) else if r = 35 then some (false, [0, 1]) else if r = 36 then some (false, [0, 1]) else if r = 39 then some (false, [175, 176]) else if r = 43 then some (false, [0, 1]) else none, fun r => if r = 5 then [0, 7, 8, 9] else if r = 12 then [0, 7, 8, 9, 12] else if r = 25 then [0, 7, 8, 9, 14, 15] else if r = 29 then [0, 7, 8, 9, 14, 15, 16] else if r = 38 then [175] else []⟩
def S101 : SCode :=
  (.seq (.ops [⟨none, (some 4), .mv 4 (.k (Value.int .i64 0)), false⟩])
  (.block 0 (.seq (.seq (.keep [0, 1]) (.ops [⟨none, (some 161), .mv 161 (.s 1), false⟩,
    ⟨none, (some 162), .bin 162 .leq (.k (Value.int .i32 0)) (.s 161), false⟩,
    ⟨none, (some 163), .mv 163 (.s 162), false⟩,
    ⟨(some (163, true)), (some 164), .mv 164 (.s 1), false⟩,
    ⟨(some (163, true)), (some 165), .bin 165 .lss (.s 164) (.k (Value.int .i32 128)), false⟩,
    ⟨none, (some 166), .pk 166 (.s 163) (.s 165) (.k (Value.bool false)), false⟩,
    ⟨none, (some 160), .mv 160 (.s 166), false⟩]))
  (.cond (.s 160) (.seq (.seq (.keep [0, 1]) (.ops [⟨none, (some 167), .mv 167 (.s 0), false⟩,
    ⟨none, (some 168), .mv 168 (.s 1), false⟩,
    ⟨none, (some 169), .cvi 169 .u8 (.s 168), false⟩,
    ⟨none, (some 170), .call (some 170) 135 false [(.s 167), (.s 169)], false⟩,
    ⟨none, (some 4), .mv 4 (.s 170), false⟩]))
  .ret) (.seq (.seq (.keep [0, 1]) (.ops [⟨none, (some 172), .mv 172 (.s 1), false⟩,
    ⟨none, (some 173), .bin 173 .eql (.s 172) (.k (Value.int .i32 65533)), false⟩,
    ⟨none, (some 171), .mv 171 (.s 173), false⟩]))
  (.cond (.s 171) (.seq (.seq (.ops [⟨none, (some 174), .mv 174 (.s 0), false⟩,
    ⟨none, (some 175), .rg 175 (.s 174), false⟩])
  (.block 9 (.loop [175] (.seq (.ops [⟨none, (some 176), .nx 176 (.s 175), false⟩,
    ⟨none, (some 177), .ex 177 (.s 176) 0, false⟩])
  (.seq (.cond (.s 177) .skip (.exit 9))
  (.block 10 (.seq (.seq (.keep [175, 176]) (.ops [⟨none, (some 178), .ex 178 (.s 176) 1, false⟩,
    ⟨none, (some 179), .ex 179 (.s 176) 2, false⟩,
    ⟨none, (some 5), .mv 5 (.s 178), false⟩,
    ⟨none, (some 6), .mv 6 (.s 179), false⟩]))
  (.seq (.ops [⟨none, (some 180), .mv 180 (.s 6), false⟩,
    ⟨none, (some 181), .bin 181 .eql (.s 180) (.k (Value.int .i32 65533)), false⟩])
  (.cond (.s 181) (.seq (.ops [⟨none, (some 182), .mv 182 (.s 5), false⟩,
    ⟨none, (some 4), .mv 4 (.s 182), false⟩])
  .ret) .skip)))))))))
  (.seq (.ops [⟨none, (some 4), .mv 4 (.k (Value.int .i64 (-1))), false⟩])
  .ret)) (.seq (.seq (.keep [0, 1]) (.ops [⟨none, (some 184), .mv 184 (.s 1), false⟩,
    ⟨none, (some 185), .call (some 185) 140 false [(.s 184)], false⟩,
    ⟨none, (some 186), .not 186 (.s 185), false⟩,
    ⟨none, (some 183), .mv 183 (.s 186), false⟩]))
  (.cond (.s 183) (.seq (.ops [⟨none, (some 4), .mv 4 (.k (Value.int .i64 (-1))), false⟩])
  .ret) (.seq (.seq (.keep [0, 1]) (.ops [⟨none, (some 17), .mv 17 (.s 1), false⟩,
    ⟨none, (some 18), .i2s 18 (.s 17), false⟩,
    ⟨none, (some 7), .mv 7 (.s 18), false⟩]))
  (.seq (.seq (.keep [0, 7]) (.ops [⟨none, (some 19), .mv 19 (.s 7), false⟩,
    ⟨none, (some 20), .lens 20 (.s 19), false⟩,
    ⟨none, (some 21), .binc 21 .sub (.s 20) (.k (Value.int .i64 1)), false⟩,
    ⟨none, (some 8), .mv 8 (.s 21), false⟩]))
  (.seq (.ops [⟨none, (some 22), .mv 22 (.s 8), false⟩,
    ⟨none, (some 9), .mv 9 (.s 22), false⟩])
  (.seq (.ops [⟨none, (some 10), .mv 10 (.k (Value.int .i64 0)), false⟩])
  (.seq (.block 1 (.loop [0, 7, 8, 9] (.seq (.seq (.seq (.keep [0, 7, 8, 9]) (.ops [⟨none, (some 23), .mv 23 (.s 9), false⟩,
    ⟨none, (some 24), .mv 24 (.s 0), false⟩,
    ⟨none, (some 25), .lens 25 (.s 24), false⟩,
    ⟨none, (some 26), .bin 26 .lss (.s 23) (.s 25), false⟩]))
  (.cond (.s 26) .skip (.exit 1)))
  (.block 2 (.seq (.seq (.seq (.keep [0, 7, 8, 9]) (.dr [] [(0, true, ⟨none, (some 27), .mv 27 (.s 0), false⟩),
    (1, true, ⟨none, (some 28), .mv 28 (.s 9), false⟩),
    (2, true, ⟨none, (some 29), .ixs 29 (.s 27) (.s 28), false⟩),
    (3, true, ⟨none, (some 30), .mv 30 (.s 7), false⟩),
    (4, true, ⟨none, (some 31), .mv 31 (.s 8), false⟩),
    (5, true, ⟨none, (some 32), .ixs 32 (.s 30) (.s 31), false⟩),
    (6, true, ⟨none, (some 33), .bin 33 .neq (.s 29) (.s 32), false⟩)]))
  (.cond (.s 33) (.seq (.seq (.keep [0, 7, 8, 9]) (.dr [0, 1, 2, 3, 4, 5, 6, 7, 8, 9, 10, 11, 12, 13, 14, 15] [(0, true, ⟨none, (some 34), .mv 34 (.s 0), false⟩),
    (1, true, ⟨none, (some 35), .mv 35 (.s 9), false⟩),
    (2, true, ⟨none, (some 36), .binc 36 .add (.s 35) (.k (Value.int .i64 1)), false⟩),
    (3, true, ⟨none, (some 37), .sls 37 (.s 34) (some (.s 36)) none, false⟩),
    (4, true, ⟨none, (some 38), .mv 38 (.s 7), false⟩),
    (5, true, ⟨none, (some 39), .mv 39 (.s 8), false⟩),
    (6, true, ⟨none, (some 40), .ixs 40 (.s 38) (.s 39), false⟩),
    (7, false, ⟨none, (some 41), .call (some 41) 135 false [(.s 37), (.s 40)], false⟩),
    (8, true, ⟨none, (some 11), .mv 11 (.s 41), false⟩)]))
  (.seq (.seq (.ops [⟨none, (some 42), .mv 42 (.s 11), false⟩,
    ⟨none, (some 43), .bin 43 .lss (.s 42) (.k (Value.int .i64 0)), false⟩])
  (.cond (.s 43) (.seq (.ops [⟨none, (some 4), .mv 4 (.k (Value.int .i64 (-1))), false⟩])
  .ret) .skip))
  (.seq (.keep [0, 7, 8, 9, 11]) (.ops [⟨none, (some 44), .mv 44 (.s 9), false⟩,
    ⟨none, (some 45), .mv 45 (.s 11), false⟩,
    ⟨none, (some 46), .binc 46 .add (.s 45) (.k (Value.int .i64 1)), false⟩,
    ⟨none, (some 47), .binc 47 .add (.s 44) (.s 46), false⟩,
    ⟨none, (some 9), .mv 9 (.s 47), false⟩])))) .skip))
  (.seq (.seq (.ops [⟨none, (some 12), .mv 12 (.k (Value.int .i64 1)), false⟩])
  (.block 3 (.loop [0, 7, 8, 9, 12] (.seq (.seq (.seq (.keep [0, 7, 8, 9, 12]) (.ops [⟨none, (some 48), .mv 48 (.s 12), false⟩,
    ⟨none, (some 49), .mv 49 (.s 7), false⟩,
    ⟨none, (some 50), .lens 50 (.s 49), false⟩,
    ⟨none, (some 51), .bin 51 .lss (.s 48) (.s 50), false⟩]))
  (.cond (.s 51) .skip (.exit 3)))
  (.seq (.block 4 (.seq (.seq (.keep [0, 7, 8, 9, 12]) (.dr [] [(0, true, ⟨none, (some 54), .mv 54 (.s 0), false⟩),
    (1, true, ⟨none, (some 55), .mv 55 (.s 9), false⟩),
    (2, true, ⟨none, (some 56), .mv 56 (.s 12), false⟩),
    (3, true, ⟨none, (some 57), .binc 57 .sub (.s 55) (.s 56), false⟩),
    (4, true, ⟨none, (some 58), .ixs 58 (.s 54) (.s 57), false⟩),
    (5, true, ⟨none, (some 59), .mv 59 (.s 7), false⟩),
    (6, true, ⟨none, (some 60), .mv 60 (.s 8), false⟩),
    (7, true, ⟨none, (some 61), .mv 61 (.s 12), false⟩),
    (8, true, ⟨none, (some 62), .binc 62 .sub (.s 60) (.s 61), false⟩),
    (9, true, ⟨none, (some 63), .ixs 63 (.s 59) (.s 62), true⟩),
    (10, true, ⟨none, (some 64), .bin 64 .neq (.s 58) (.s 63), false⟩)]))
  (.cond (.s 64) .bad .skip)))
  (.seq (.keep [0, 7, 8, 9, 12]) (.ops [⟨none, (some 52), .mv 52 (.s 12), false⟩,
    ⟨none, (some 53), .binc 53 .add (.s 52) (.k (Value.int .i64 1)), false⟩,
    ⟨none, (some 12), .mv 12 (.s 53), false⟩])))))))
  (.seq (.seq (.seq (.keep [8, 9]) (.ops [⟨none, (some 65), .mv 65 (.s 9), false⟩,
    ⟨none, (some 66), .mv 66 (.s 8), false⟩,
    ⟨none, (some 67), .binc 67 .sub (.s 65) (.s 66), false⟩,
    ⟨none, (some 4), .mv 4 (.s 67), false⟩]))
  .ret)
  (.seq .skip
  (.seq (.seq (.keep [0, 7, 8, 9, 10]) (.ops [⟨none, (some 68), .mv 68 (.s 10), false⟩,
    ⟨none, (some 69), .binc 69 .add (.s 68) (.k (Value.int .i64 1)), false⟩,
    ⟨none, (some 10), .mv 10 (.s 69), false⟩]))
  (.seq (.seq (.keep [0, 7, 8, 9, 10]) (.ops [⟨none, (some 70), .mv 70 (.s 9), false⟩,
    ⟨none, (some 71), .binc 71 .add (.s 70) (.k (Value.int .i64 1)), false⟩,
    ⟨none, (some 9), .mv 9 (.s 71), false⟩]))
  (.seq (.seq (.keep [0, 7, 8, 9, 10]) (.ops [⟨none, (some 72), .mv 72 (.k (Value.bool true)), false⟩,
    ⟨(some (72, true)), (some 73), .mv 73 (.s 10), false⟩,
    ⟨(some (72, true)), (some 74), .mv 74 (.s 9), false⟩,
    ⟨(some (72, true)), (some 75), .call (some 75) 141 true [(.s 74)], false⟩,
    ⟨(some (72, true)), (some 76), .bin 76 .gtr (.s 73) (.s 75), false⟩,
    ⟨none, (some 77), .pk 77 (.s 72) (.s 76) (.k (Value.bool false)), false⟩,
    ⟨none, (some 78), .mv 78 (.s 77), false⟩,
    ⟨(some (78, true)), (some 79), .mv 79 (.s 9), false⟩,
    ⟨(some (78, true)), (some 80), .mv 80 (.s 0), false⟩,
    ⟨(some (78, true)), (some 81), .lens 81 (.s 80), true⟩,
    ⟨(some (78, true)), (some 82), .bin 82 .lss (.s 79) (.s 81), false⟩,
    ⟨none, (some 83), .pk 83 (.s 78) (.s 82) (.k (Value.bool false)), false⟩,
    ⟨none, (some 84), .mv 84 (.s 83), false⟩,
    ⟨(some (84, false)), (some 85), .mv 85 (.k (Value.bool false)), false⟩,
    ⟨(some (85, true)), (some 86), .mv 86 (.s 10), false⟩,
    ⟨(some (85, true)), (some 87), .mv 87 (.s 9), false⟩,
    ⟨(some (85, true)), (some 88), .bin 88 .shr (.s 87) (.k (Value.int .u64 4)), false⟩,
    ⟨(some (85, true)), (some 89), .binc 89 .add (.k (Value.int .i64 4)) (.s 88), false⟩,
    ⟨(some (85, true)), (some 90), .bin 90 .geq (.s 86) (.s 89), false⟩,
    ⟨(some (84, false)), (some 91), .pk 91 (.s 85) (.s 90) (.k (Value.bool false)), true⟩,
    ⟨(some (84, false)), (some 92), .mv 92 (.s 91), false⟩,
    ⟨(some (92, true)), (some 93), .mv 93 (.s 9), false⟩,
    ⟨(some (92, true)), (some 94), .mv 94 (.s 0), false⟩,
    ⟨(some (92, true)), (some 95), .lens 95 (.s 94), false⟩,
    ⟨(some (92, true)), (some 96), .bin 96 .lss (.s 93) (.s 95), false⟩,
    ⟨(some (84, false)), (some 97), .pk 97 (.s 92) (.s 96) (.k (Value.bool false)), false⟩,
    ⟨none, (some 98), .pk 98 (.s 84) (.k (Value.bool true)) (.s 97), false⟩]))
  (.cond (.s 98) .bad .skip))))))))))))
  (.seq (.seq (.ops [⟨none, (some 4), .mv 4 (.k (Value.int .i64 (-1))), false⟩])
  .ret)
  (.seq .skip
  (.seq (.cond (.k (Value.bool true)) (.seq (.seq (.keep [0, 1, 8, 9]) (.ops [⟨none, (some 99), .mv 99 (.s 0), false⟩,
    ⟨none, (some 100), .mv 100 (.s 9), false⟩,
    ⟨none, (some 101), .mv 101 (.s 8), false⟩,
    ⟨none, (some 102), .binc 102 .sub (.s 100) (.s 101), false⟩,
    ⟨none, (some 103), .sls 103 (.s 99) (some (.s 102)) none, false⟩,
    ⟨none, (some 104), .mv 104 (.s 1), false⟩,
    ⟨none, (some 105), .i2s 105 (.s 104), false⟩,
    ⟨none, (some 106), .stuck, false⟩,
    ⟨none, (some 13), .mv 13 (.s 106), false⟩]))
  (.seq (.ops [⟨none, (some 107), .mv 107 (.s 13), false⟩,
    ⟨none, (some 108), .bin 108 .geq (.s 107) (.k (Value.int .i64 0)), false⟩])
  (.cond (.s 108) (.seq (.seq (.keep [8, 9, 13]) (.ops [⟨none, (some 109), .mv 109 (.s 9), false⟩,
    ⟨none, (some 110), .mv 110 (.s 13), false⟩,
    ⟨none, (some 111), .binc 111 .add (.s 109) (.s 110), false⟩,
    ⟨none, (some 112), .mv 112 (.s 8), false⟩,
    ⟨none, (some 113), .binc 113 .sub (.s 111) (.s 112), false⟩,
    ⟨none, (some 4), .mv 4 (.s 113), false⟩]))
  .ret) .skip))) (.seq (.seq (.keep [0, 7, 8, 9]) (.ops [⟨none, (some 114), .mv 114 (.s 7), false⟩,
    ⟨none, (some 115), .mv 115 (.s 8), false⟩,
    ⟨none, (some 116), .ixs 116 (.s 114) (.s 115), false⟩,
    ⟨none, (some 14), .mv 14 (.s 116), false⟩]))
  (.seq (.seq (.keep [0, 7, 8, 9, 14]) (.ops [⟨none, (some 117), .mv 117 (.s 7), false⟩,
    ⟨none, (some 118), .mv 118 (.s 8), false⟩,
    ⟨none, (some 119), .binc 119 .sub (.s 118) (.k (Value.int .i64 1)), false⟩,
    ⟨none, (some 120), .ixs 120 (.s 117) (.s 119), false⟩,
    ⟨none, (some 15), .mv 15 (.s 120), false⟩]))
  (.seq .skip
  (.block 5 (.loop [0, 7, 8, 9, 14, 15] (.seq (.seq (.seq (.keep [0, 7, 8, 9, 14, 15]) (.ops [⟨none, (some 121), .mv 121 (.s 9), false⟩,
    ⟨none, (some 122), .mv 122 (.s 0), false⟩,
    ⟨none, (some 123), .lens 123 (.s 122), false⟩,
    ⟨none, (some 124), .bin 124 .lss (.s 121) (.s 123), false⟩]))
  (.cond (.s 124) .skip (.exit 5)))
  (.seq (.block 6 (.seq (.seq (.keep [0, 7, 8, 9, 14, 15]) (.ops [⟨none, (some 127), .mv 127 (.s 0), false⟩,
    ⟨none, (some 128), .mv 128 (.s 9), false⟩,
    ⟨none, (some 129), .ixs 129 (.s 127) (.s 128), false⟩,
    ⟨none, (some 130), .mv 130 (.s 14), false⟩,
    ⟨none, (some 131), .bin 131 .eql (.s 129) (.s 130), false⟩,
    ⟨none, (some 132), .mv 132 (.s 131), false⟩,
    ⟨(some (132, true)), (some 133), .mv 133 (.s 0), false⟩,
    ⟨(some (132, true)), (some 134), .mv 134 (.s 9), false⟩,
    ⟨(some (132, true)), (some 135), .binc 135 .sub (.s 134) (.k (Value.int .i64 1)), false⟩,
    ⟨(some (132, true)), (some 136), .ixs 136 (.s 133) (.s 135), true⟩,
    ⟨(some (132, true)), (some 137), .mv 137 (.s 15), false⟩,
    ⟨(some (132, true)), (some 138), .bin 138 .eql (.s 136) (.s 137), false⟩,
    ⟨none, (some 139), .pk 139 (.s 132) (.s 138) (.k (Value.bool false)), false⟩]))
  (.cond (.s 139) (.seq (.seq (.ops [⟨none, (some 16), .mv 16 (.k (Value.int .i64 2)), false⟩])
  (.block 7 (.loop [0, 7, 8, 9, 14, 15, 16] (.seq (.seq (.seq (.keep [0, 7, 8, 9, 14, 15, 16]) (.ops [⟨none, (some 140), .mv 140 (.s 16), false⟩,
    ⟨none, (some 141), .mv 141 (.s 7), false⟩,
    ⟨none, (some 142), .lens 142 (.s 141), false⟩,
    ⟨none, (some 143), .bin 143 .lss (.s 140) (.s 142), false⟩]))
  (.cond (.s 143) .skip (.exit 7)))
  (.seq (.block 8 (.seq (.seq (.keep [0, 7, 8, 9, 14, 15, 16]) (.dr [] [(0, true, ⟨none, (some 146), .mv 146 (.s 0), false⟩),
    (1, true, ⟨none, (some 147), .mv 147 (.s 9), false⟩),
    (2, true, ⟨none, (some 148), .mv 148 (.s 16), false⟩),
    (3, true, ⟨none, (some 149), .binc 149 .sub (.s 147) (.s 148), false⟩),
    (4, true, ⟨none, (some 150), .ixs 150 (.s 146) (.s 149), false⟩),
    (5, true, ⟨none, (some 151), .mv 151 (.s 7), false⟩),
    (6, true, ⟨none, (some 152), .mv 152 (.s 8), false⟩),
    (7, true, ⟨none, (some 153), .mv 153 (.s 16), false⟩),
    (8, true, ⟨none, (some 154), .binc 154 .sub (.s 152) (.s 153), false⟩),
    (9, true, ⟨none, (some 155), .ixs 155 (.s 151) (.s 154), true⟩),
    (10, true, ⟨none, (some 156), .bin 156 .neq (.s 150) (.s 155), false⟩)]))
  (.cond (.s 156) (.exit 6) .skip)))
  (.seq (.keep [0, 7, 8, 9, 14, 15, 16]) (.ops [⟨none, (some 144), .mv 144 (.s 16), false⟩,
    ⟨none, (some 145), .binc 145 .add (.s 144) (.k (Value.int .i64 1)), false⟩,
    ⟨none, (some 16), .mv 16 (.s 145), false⟩])))))))
  (.seq (.seq (.keep [8, 9]) (.ops [⟨none, (some 157), .mv 157 (.s 9), false⟩,
    ⟨none, (some 158), .mv 158 (.s 8), false⟩,
    ⟨none, (some 159), .binc 159 .sub (.s 157) (.s 158), false⟩,
    ⟨none, (some 4), .mv 4 (.s 159), false⟩]))
  .ret)) .skip)))
  (.seq (.keep [0, 7, 8, 9, 14, 15]) (.ops [⟨none, (some 125), .mv 125 (.s 9), false⟩,
    ⟨none, (some 126), .binc 126 .add (.s 125) (.k (Value.int .i64 1)), false⟩,
    ⟨none, (some 9), .mv 9 (.s 126), false⟩]))))))))))
  (.seq (.ops [⟨none, (some 4), .mv 4 (.k (Value.int .i64 (-1))), false⟩])
  .ret)))))))))))))))))
theorem cc101 : (Tryd.f101.body).bind (cc Tryd.prog Tryd.f101.ntmps A101) = some S101 := by kernel_rfl
def R101 : List RR := [.sl 4]
theorem cr101 : Tryd.f101.results.toList.map (crr Tryd.prog) = R101.map some := by kernel_rfl
theorem nm101 : (Tryd.f101.name == "runtime.NumGoroutine") = false := by kernel_rfl
theorem fn101 : Tryd.prog.funcs[101]? = some Tryd.f101 := by kernel_rfl
theorem bd101 : ∃ b, Tryd.f101.body = some b ∧ cc Tryd.prog Tryd.f101.ntmps A101 b = some S101 := Option.bind_eq_some_iff.1 cc101
theorem sd101 {G : World → Prop} {T : FuncId → Contract} {C : Contract} (hT : ∀ f, Sound G Tryd.prog f (T f)) (hl : C.lawful) (hC : ∀ args st K, C.wp args st K → args.length ≤ 187 ∧ ∃ os op, xv T st.n S101 (st0 args st) (retK R101 st.n os K) (panK st.n op K)) : Sound G Tryd.prog 101 C := by
  obtain ⟨b, hb, hc⟩ := bd101
  rw [xv_eq] at hC
  exact sound_of_ev mo fn101 hb nm101 hc cr101 hT hl hC

/-! 102: strings.shouldUseASCIISet -/
def A102 : Ann := ⟨fun _ _ => 0, fun _ => none, fun r => if r = 1 then some (false, [0]) else none, fun _ => []⟩
def S102 : SCode :=
  (.seq (.ops [⟨none, (some 2), .mv 2 (.k (Value.bool false)), false⟩])
  (.seq (.seq (.keep [0]) (.ops [⟨none, (some 3), .mv 3 (.s 0), false⟩,
    ⟨none, (some 4), .bin 4 .gtr (.s 3) (.k (Value.int .i64 8)), false⟩,
    ⟨none, (some 2), .mv 2 (.s 4), false⟩]))
  .ret))
theorem cc102 : (Tryd.f102.body).bind (cc Tryd.prog Tryd.f102.ntmps A102) = some S102 := by kernel_rfl
def R102 : List RR := [.sl 2]
theorem cr102 : Tryd.f102.results.toList.map (crr Tryd.prog) = R102.map some := by kernel_rfl
theorem nm102 : (Tryd.f102.name == "runtime.NumGoroutine") = false := by kernel_rfl
theorem fn102 : Tryd.prog.funcs[102]? = some Tryd.f102 := by kernel_rfl
theorem bd102 : ∃ b, Tryd.f102.body = some b ∧ cc Tryd.prog Tryd.f102.ntmps A102 b = some S102 := Option.bind_eq_some_iff.1 cc102
theorem sd102 {G : World → Prop} {T : FuncId → Contract} {C : Contract} (hT : ∀ f, Sound G Tryd.prog f (T f)) (hl : C.lawful) (hC : ∀ args st K, C.wp args st K → args.length ≤ 5 ∧ ∃ os op, xv T st.n S102 (st0 args st) (retK R102 st.n os K) (panK st.n op K)) : Sound G Tryd.prog 102 C := by
  obtain ⟨b, hb, hc⟩ := bd102
  rw [xv_eq] at hC
  exact sound_of_ev mo fn102 hb nm102 hc cr102 hT hl hC

end Go.Proofs.YtpbkdcfjlbdgfaaDoor
/-
  DERIVED: THE SHELF's CONTRACTS AT THIS DUMP, IN PLAIN WORDS (tools/lay-plain.mjs out of 'TrydShelfPart.lean', which tools/lay-shelf.mjs wrote): THE SAME DECLARATIONS UNDER THE SAME NAMES: 'import', 'namespace', 'open', 'def', 'theorem' AND NOTHING ELSE: no command of the shelf's: FOR A HAND-IN. Each laying: the table of numbers ('.._ren') and one theorem, a field a fact of the dump's own or the kernel's comparison; each contract: ONE APPLICATION.
-/
namespace Go.Proofs
open Go.Shelf
def Tryd.lays119_ren : Go.Shelf.Ren := ⟨fun | 119 => 140 | n => n, fun | 21 => 21 | 4 => 4 | n => n, fun | n => n⟩
theorem Tryd.lays119 : Go.Proofs.Lays.n119 Tryd.prog Tryd.lays119_ren := {
  mixed := by kernel_rfl
  f119 := Tryd.func140.trans (congrArg some (by kernel_rfl))
  t4 := Tryd.underlying4
  a4 := Tryd.isAgg4
  z4 := Tryd.sizeOf4
  v4 := Tryd.zeroValue4
  t21 := Tryd.underlying21
  a21 := Tryd.isAgg21
  z21 := Tryd.sizeOf21
  v21 := Tryd.zeroValue21 }
/-- utf8.ValidRune: "ValidRune reports whether r can be legally encoded as UTF-8. Code points that are out of range or a surrogate half are illegal.": IT RETURNS 'Lib.validRune r'; the world is as it was. (LAID: no walk: one application.) -/
theorem Tryd.utf8_ValidRune (r : Int) (w : World) :
    Calls Tryd.prog 140 #[.int .i32 r] w fun e w' => e = .returned (.bool (Lib.validRune r)) ∧ w' = w := Any.utf8_ValidRune Tryd.lays119 r w
def Tryd.lays226_ren : Go.Shelf.Ren := ⟨fun | 226 => 102 | n => n, fun | 3 => 3 | 4 => 4 | n => n, fun | n => n⟩
theorem Tryd.lays226 : Go.Proofs.Lays.n226 Tryd.prog Tryd.lays226_ren := {
  mixed := by kernel_rfl
  f226 := Tryd.func102.trans (congrArg some (by kernel_rfl))
  t3 := Tryd.underlying3
  a3 := Tryd.isAgg3
  z3 := Tryd.sizeOf3
  v3 := Tryd.zeroValue3
  t4 := Tryd.underlying4
  a4 := Tryd.isAgg4
  z4 := Tryd.sizeOf4
  v4 := Tryd.zeroValue4 }
open Go.RowKit Go.Lib in
theorem Tryd.strings_shouldUseASCIISet (n : Int) (w : World) :
    Calls Tryd.prog 102 #[.int .i64 n] w fun e w' => e = .returned (.bool (decide (8 < n))) ∧ w' = w := Any.strings_shouldUseASCIISet Tryd.lays226 n w
def Tryd.lays153_ren : Go.Shelf.Ren := ⟨fun | 153 => 52 | 152 => 101 | 226 => 102 | 227 => 98 | 228 => 103 | 137 => 135 | 119 => 140 | 224 => 141 | 225 => 142 | 217 => 168 | 266 => 189 | n => n, fun | 9 => 9 | 3 => 3 | 4 => 4 | 5 => 5 | 21 => 21 | 117 => 125 | 116 => 124 | 0 => 0 | 46 => 114 | 124 => 128 | n => n, fun | n => n⟩
theorem Tryd.lays153 : Go.Proofs.Lays.n153 Tryd.prog Tryd.lays153_ren := {
  mixed := by kernel_rfl
  f119 := Tryd.func140.trans (congrArg some (by kernel_rfl))
  f137 := Tryd.func135.trans (congrArg some (by kernel_rfl))
  f152 := Tryd.func101.trans (congrArg some (by kernel_rfl))
  f153 := Tryd.func52.trans (congrArg some (by kernel_rfl))
  f217 := Tryd.func168.trans (congrArg some (by kernel_rfl))
  f224 := Tryd.func141.trans (congrArg some (by kernel_rfl))
  f225 := Tryd.func142.trans (congrArg some (by kernel_rfl))
  f226 := Tryd.func102.trans (congrArg some (by kernel_rfl))
  f227 := Tryd.func98.trans (congrArg some (by kernel_rfl))
  f228 := Tryd.func103.trans (congrArg some (by kernel_rfl))
  f266 := Tryd.func189.trans (congrArg some (by kernel_rfl))
  t0 := Tryd.underlying0
  a0 := Tryd.isAgg0
  z0 := Tryd.sizeOf0
  v0 := Tryd.zeroValue0
  t3 := Tryd.underlying3
  a3 := Tryd.isAgg3
  z3 := Tryd.sizeOf3
  v3 := Tryd.zeroValue3
  t4 := Tryd.underlying4
  a4 := Tryd.isAgg4
  z4 := Tryd.sizeOf4
  v4 := Tryd.zeroValue4
  t5 := Tryd.underlying5
  a5 := Tryd.isAgg5
  z5 := Tryd.sizeOf5
  v5 := Tryd.zeroValue5
  t9 := Tryd.underlying9
  a9 := Tryd.isAgg9
  z9 := Tryd.sizeOf9
  v9 := Tryd.zeroValue9
  t21 := Tryd.underlying21
  a21 := Tryd.isAgg21
  z21 := Tryd.sizeOf21
  v21 := Tryd.zeroValue21
  t46 := Tryd.underlying114
  a46 := Tryd.isAgg114
  z46 := Tryd.sizeOf114
  v46 := Tryd.zeroValue114
  t116 := Tryd.underlying124
  a116 := Tryd.isAgg124
  z116 := Tryd.sizeOf124
  t117 := Tryd.underlying125
  a117 := Tryd.isAgg125
  z117 := Tryd.sizeOf125
  v117 := Tryd.zeroValue125
  t124 := Tryd.underlying128
  a124 := Tryd.isAgg128
  z124 := Tryd.sizeOf128
  v124 := Tryd.zeroValue128 }
def Tryd.lays227_ren : Go.Shelf.Ren := ⟨fun | 227 => 98 | n => n, fun | 9 => 9 | 116 => 124 | 4 => 4 | 0 => 0 | 3 => 3 | 5 => 5 | n => n, fun | n => n⟩
theorem Tryd.lays227 : Go.Proofs.Lays.n227 Tryd.prog Tryd.lays227_ren := {
  mixed := by kernel_rfl
  f227 := Tryd.func98.trans (congrArg some (by kernel_rfl))
  t0 := Tryd.underlying0
  a0 := Tryd.isAgg0
  z0 := Tryd.sizeOf0
  v0 := Tryd.zeroValue0
  t3 := Tryd.underlying3
  a3 := Tryd.isAgg3
  z3 := Tryd.sizeOf3
  v3 := Tryd.zeroValue3
  t4 := Tryd.underlying4
  a4 := Tryd.isAgg4
  z4 := Tryd.sizeOf4
  v4 := Tryd.zeroValue4
  t5 := Tryd.underlying5
  a5 := Tryd.isAgg5
  z5 := Tryd.sizeOf5
  v5 := Tryd.zeroValue5
  t9 := Tryd.underlying9
  a9 := Tryd.isAgg9
  z9 := Tryd.sizeOf9
  v9 := Tryd.zeroValue9
  t116 := Tryd.underlying124
  a116 := Tryd.isAgg124
  z116 := Tryd.sizeOf124 }
open Go.RowKit Go.Lib in
theorem Tryd.strings_makeASCIISet (hv116 : ∀ w, (zeroValue 124).run Tryd.prog w = .ok (.agg (Array.replicate 256 (.bool false))) w) (chars : ByteArray) (w : World) (hs : chars.size < 4294967281) (hascii : ∀ (j : Nat) b, chars.data.toList[j]? = some b → b.toNat < 128) :
    Calls Tryd.prog 98 #[.string chars] w fun e w' => e = .returned (.tuple #[.agg (Lib.setCells chars.data.toList), .bool true]) ∧ w' = w.alloc (.cells (Lib.setCells chars.data.toList) 124) := Any.strings_makeASCIISet Tryd.lays227 hv116 (by kernel_rfl) chars w hs hascii
def Tryd.lays228_ren : Go.Shelf.Ren := ⟨fun | 228 => 103 | n => n, fun | 124 => 128 | 5 => 5 | 4 => 4 | 0 => 0 | 116 => 124 | n => n, fun | n => n⟩
theorem Tryd.lays228 : Go.Proofs.Lays.n228 Tryd.prog Tryd.lays228_ren := {
  mixed := by kernel_rfl
  f228 := Tryd.func103.trans (congrArg some (by kernel_rfl))
  t0 := Tryd.underlying0
  a0 := Tryd.isAgg0
  z0 := Tryd.sizeOf0
  v0 := Tryd.zeroValue0
  t4 := Tryd.underlying4
  a4 := Tryd.isAgg4
  z4 := Tryd.sizeOf4
  v4 := Tryd.zeroValue4
  t5 := Tryd.underlying5
  a5 := Tryd.isAgg5
  z5 := Tryd.sizeOf5
  v5 := Tryd.zeroValue5
  t116 := Tryd.underlying124
  a116 := Tryd.isAgg124
  z116 := Tryd.sizeOf124
  t124 := Tryd.underlying128
  a124 := Tryd.isAgg128
  z124 := Tryd.sizeOf128
  v124 := Tryd.zeroValue128 }
open Go.RowKit Go.Lib in
/-- '(as *asciiSet) contains(c)': 'as[c]': the set lies at block b, whole. (LAID: no walk: one application.) -/
theorem Tryd.asciiSet_contains (b : Nat) (x : UInt8) (v : Bool) (w : World) (hc : w.cell? ⟨b, x.toNat, none⟩ = some (.bool v)) :
    Calls Tryd.prog 103 #[.pointer (some ⟨b, 0, none⟩), .int .u8 x.toNat] w fun e w' => e = .returned (.bool v) ∧ w' = w := Any.asciiSet_contains Tryd.lays228 b x v w hc
open Go.RowKit Go.Lib in
theorem Tryd.strings_IndexAny_long (hv116 : ∀ w, (zeroValue 124).run Tryd.prog w = .ok (.agg (Array.replicate 256 (.bool false))) w) (s chars : ByteArray) (w : World) (h2 : 2 ≤ chars.size) (h8 : 8 < s.size) (hs : s.size < 4294967281) (hcs : chars.size < 4294967281) (hascii : ∀ (j : Nat) b, chars.data.toList[j]? = some b → b.toNat < 128) :
    Calls Tryd.prog 52 #[.string s, .string chars] w fun e w' => e = .returned (.int .i64 (Lib.indexAny s.data.toList chars.data.toList)) ∧ w' = ((w.alloc (.cells (Lib.setCells chars.data.toList) 124)).alloc (.cells (Lib.setCells chars.data.toList) 124)) := Any.strings_IndexAny_long Tryd.lays153 hv116 (by kernel_rfl) s chars w h2 h8 hs hcs hascii
end Go.Proofs
set_option linter.unusedVariables false
set_option linter.unusedSimpArgs false
namespace Go.Proofs.YtpbkdcfjlbdgfaaDoor
open Go Go.Ev
set_option maxRecDepth 100000
variable {G : World → Prop}
/-- Blanks and tabs. -/
def blk (c : UInt8) : Bool := decide (c = 32) || decide (c = 9)
def blkI (c : Int) : Bool := decide (c = 32) || decide (c = 9)
theorem blk_int (c : UInt8) : blkI (c.toNat : Int) = blk c := by
  unfold blk blkI
  congr 1 <;> (rw [decide_eq_decide]; exact ⟨fun h => UInt8.toNat_inj.1 (by first | (show _ = 32; omega) | (show _ = 9; omega)), fun h => by rw [h]; rfl⟩)
def setL : List SV := (Lib.setCells [32, 9]).toList.map fun v => .d (.v v)
theorem setL_len : setL.length = 256 := by simp [setL, Lib.setCells_size]
theorem setL_get (c : UInt8) : (Lib.setCells [32, 9])[c.toNat]? = some (.bool (blk c)) := by
  rw [Lib.setCells_at]
  congr 2
  simp [blk, List.contains_cons, Bool.beq_eq_decide_eq]
theorem setL_ren (f : Nat → Option Nat) : List.map (fun x => SV.ren f x) setL = setL := by simp [setL, SV.ren]
theorem setL_ids (ob : List (Nat × Ob)) (k : Nat) : List.flatMap (idsC ob k) setL = [] := by
  rw [List.flatMap_eq_nil_iff]
  intro x hx
  simp only [setL, List.mem_map] at hx
  obtain ⟨v, _, rfl⟩ := hx
  cases k <;> rfl
def CMk : Contract := pureC fun args => match args with
  | [.d (.v (.string p))] => some (p.data.toList = [32, 9], .tup [.agg setL, .d (.v (.bool true))])
  | _ => none
theorem sMk : Sound G Tryd.prog 98 CMk := by
  refine sound_lib ⟨Tryd.f98, by kernel_rfl, by kernel_rfl, by kernel_rfl⟩ fun args p x h hp => ?_
  split at h <;> simp only [Option.some.injEq, Prod.mk.injEq, reduceCtorEq] at h
  obtain ⟨rfl, rfl⟩ := h
  rename_i s
  obtain ⟨l, rfl⟩ := ex_str s
  simp only [sem_str] at hp
  subst hp
  refine ⟨.tuple #[.agg (Lib.setCells [32, 9]), .bool true], fun m n c => ?_, fun w hw m c vs hc hv => ?_⟩
  · simp only [Cn, CnL, setL, and_true]
    refine ⟨_, rfl, ⟨_, rfl, CnL_dv _ fun x hx => ?_, fun x hx => ?_⟩, by simp [CnL, Cn, Rd, Value.oneCell']⟩
    · have := Array.all_eq_true_iff_forall_mem.1 (Lib.setCells_one [32, 9]) x (by simpa using hx)
      simpa using this
    · have := Array.all_eq_true_iff_forall_mem.1 (Lib.setCells_one [32, 9]) x (by simpa using hx)
      simpa using this
  · match vs, hv with
    | [v], hv =>
      simp only [CnL, and_true] at hv
      rw [of_v hv]
      refine (Tryd.strings_makeASCIISet (fun w => zero_run (by kernel_rfl) w) ⟨[32, 9].toArray⟩ w (by decide) (fun j b hb => ?_)).mono ?_
      · match j, hb with
        | 0, hb => simp at hb; subst hb; decide
        | 1, hb => simp at hb; subst hb; decide
        | _ + 2, hb => simp at hb
      · rintro e w' ⟨rfl, rfl⟩
        exact ⟨rfl, (RowKit.Below.refl _ _).alloc (Nat.le_refl _) _⟩
    | [], hv => simp [CnL] at hv
    | _ :: _ :: _, hv => simp [CnL] at hv
def CCon : Contract := stC fun args st => match args, st with
  | [.ptr 0 0, .d (.v (.int .u8 c))], ⟨1, [(0, .cells t l)]⟩ => some ((l = setL ∧ 0 ≤ c ∧ c < 256), .d (.v (.bool (blkI c))), ⟨1, [(0, .cells t l)]⟩)
  | _, _ => none
theorem sCon : Sound G Tryd.prog 103 CCon := by
  refine ⟨stC_lawful _, fun H w m B s args vs K hK hO ha => ?_⟩
  unfold CCon at hK
  rw [stC_wp] at hK
  obtain ⟨z, h1, h2, h3⟩ := need_ex hK
  split at h1 <;> simp only [Option.some.injEq, reduceCtorEq] at h1
  subst h1
  rename_i c t l
  simp only at h2 h3
  obtain ⟨rfl, c0, c1⟩ := h2
  refine ⟨⟨Tryd.f103, by kernel_rfl, by kernel_rfl, by kernel_rfl⟩, ?_⟩
  obtain ⟨b, cs, g1, g2, g3, g4, g5⟩ := hO.obs 0 (.cells t setL) rfl
  match vs, ha with
  | [v0, v1], ha =>
    simp only [CnL, and_true] at ha
    obtain ⟨a0, a1⟩ := ha
    simp only [Cn] at a0
    obtain ⟨_, b', e1, rfl⟩ := a0
    rw [g1] at e1
    simp only [Value.pointer.injEq, Option.some.injEq, Addr.mk.injEq, and_true] at e1
    subst e1
    rw [of_v a1]
    have hx : ((UInt8.ofNat c.toNat).toNat : Int) = c := by simp [UInt8.toNat_ofNat']; omega
    have hs : setL[(UInt8.ofNat c.toNat).toNat]? = some (.d (.v (.bool (blk (UInt8.ofNat c.toNat))))) := by
      have := setL_get (UInt8.ofNat c.toNat)
      simp only [setL, List.getElem?_map]
      rw [Array.getElem?_toList, this]; rfl
    obtain ⟨u, k1, k2⟩ := CnL_get g3 hs
    have hcell : w.cell? ⟨b, (UInt8.ofNat c.toNat).toNat, none⟩ = some (.bool (blk (UInt8.ofNat c.toNat))) := by
      rw [← of_v k2]
      simp only [World.cell?, g2]
      simpa using k1
    have hc := Tryd.asciiSet_contains b (UInt8.ofNat c.toNat) _ w hcell
    rw [hx] at hc
    refine hc.mono ?_
    rintro e w' ⟨rfl, rfl⟩
    refine ⟨m, B, _, _, h3, hO, Since.refl _ _ _ _, ?_⟩
    simp only [OutOk]
    rw [← blk_int, hx]
    exact ⟨rfl, rfl⟩
  | [], ha => simp [CnL] at ha
  | [_], ha => simp [CnL] at ha
  | _ :: _ :: _ :: _, ha => simp [CnL] at ha
/-- What is behind the blanks. -/
def trimT (l : List UInt8) : List UInt8 := l.dropWhile blk
def CTla : Contract := stC fun args st => match args, st with
  | [.d (.v (.string s)), .ptr 0 0], ⟨1, [(0, .cells t l)]⟩ => some ((l = setL ∧ s.size ≤ 1099511627776), .d (.v (str (trimT s.data.toList))), ⟨1, [(0, .cells t l)]⟩)
  | _, _ => none
theorem s99 : Sound G Tryd.prog 99 CTla := by
  refine sd99 (T := tabT [(103, CCon)]) (tab_cons sCon tab_nil) (stC_lawful _) (st_hX fun args st p x st' K h hp hk => ?_)
  split at h <;> simp only [Option.some.injEq, Prod.mk.injEq, reduceCtorEq] at h
  obtain ⟨rfl, rfl, rfl⟩ := h
  obtain ⟨rfl, hs⟩ := hp
  refine ⟨Nat.le_of_ble_eq_true rfl, [0], ?_⟩
  rename_i s t
  obtain ⟨s, rfl⟩ := ex_str s
  simp only [sem_str] at hk hs
  simp -dsimp -implicitDefEqProofs only [S99, R99, ↓Ev.xStp_eq, ↓Ev.P, Ev.Q, eq_self, forall_eq_or_imp, implies_true, forall_const, forall_eq, ↓reduceIte, reduceIte, Nat.reduceEqDiff, Nat.reduceAdd, reduceCtorEq, Nat.reduceSub, Int.reduceToNat, Int.reduceLE, Int.reduceLT, Int.reduceNeg, Nat.reduceBEq, Nat.reduceMul, Nat.reduceLeDiff, Nat.reduceMod, UInt8.reduceOfNat, Nat.reduceLT, Int.reduceEq, Int.reduceAdd, Int.reduceSub, Int.reduceMul]
  refine xLoop_intro (fun k st => ∃ r : List UInt8, r.length ≤ s.length ∧ k = r.length ∧ trimT r = trimT s ∧
      st = ⟨[(0, .d (.v (.string ⟨r.toArray⟩))), (1, .ptr 0 0)], 1, [(0, .cells t setL)]⟩) s.length [0] ?_ ?_ ?_
  · simp -dsimp -implicitDefEqProofs only [↓Ev.xStp_eq, ↓Ev.P, Ev.Q, eq_self, forall_eq_or_imp, implies_true, forall_const, forall_eq, ↓reduceIte, reduceIte, Nat.reduceEqDiff, Nat.reduceAdd, reduceCtorEq, Nat.reduceSub, Int.reduceToNat, Int.reduceLE, Int.reduceLT, Int.reduceNeg, Nat.reduceBEq, Nat.reduceMul, Nat.reduceLeDiff, Nat.reduceMod, UInt8.reduceOfNat, Nat.reduceLT, Int.reduceEq, Int.reduceAdd, Int.reduceSub, Int.reduceMul]
  · simp -dsimp -implicitDefEqProofs only [setL_ren, ↓Ev.xStp_eq, ↓Ev.P, Ev.Q, eq_self, forall_eq_or_imp, implies_true, forall_const, forall_eq, ↓reduceIte, reduceIte, Nat.reduceEqDiff, Nat.reduceAdd, reduceCtorEq, Nat.reduceSub, Int.reduceToNat, Int.reduceLE, Int.reduceLT, Int.reduceNeg, Nat.reduceBEq, Nat.reduceMul, Nat.reduceLeDiff, Nat.reduceMod, UInt8.reduceOfNat, Nat.reduceLT, Int.reduceEq, Int.reduceAdd, Int.reduceSub, Int.reduceMul]
    exact ⟨s, by omega, rfl, rfl, rfl⟩
  · rintro k st ⟨r, hr, rfl, ht, rfl⟩
    cases r with
    | nil =>
      simp -dsimp -implicitDefEqProofs only [setL_ren, setL_ids, ↓Ev.xStp_eq, ↓Ev.P, Ev.Q, eq_self, forall_eq_or_imp, implies_true, forall_const, forall_eq, ↓reduceIte, reduceIte, Nat.reduceEqDiff, Nat.reduceAdd, reduceCtorEq, Nat.reduceSub, Int.reduceToNat, Int.reduceLE, Int.reduceLT, Int.reduceNeg, Nat.reduceBEq, Nat.reduceMul, Nat.reduceLeDiff, Nat.reduceMod, UInt8.reduceOfNat, Nat.reduceLT, Int.reduceEq, Int.reduceAdd, Int.reduceSub, Int.reduceMul]
      rw [← ht] at hk
      exact hk
    | cons c r =>
      have h0 : (0 : Int) < ((r.length + 1 : Nat) : Int) := by omega
      have hu : (0 : Int) ≤ (c.toNat : Int) ∧ (c.toNat : Int) < 256 := ⟨by omega, by have := c.toNat_lt; omega⟩
      cases hb : blk c with
      | true =>
        have ht2 : trimT r = trimT s := by rw [← ht, trimT, trimT, List.dropWhile_cons, if_pos hb]
        simp -dsimp -implicitDefEqProofs only [CCon, setL_ren, setL_ids, blk_int, hb, h0, hu, ↓Ev.xStp_eq, ↓Ev.P, Ev.Q, eq_self, forall_eq_or_imp, implies_true, forall_const, forall_eq, ↓reduceIte, reduceIte, Nat.reduceEqDiff, Nat.reduceAdd, reduceCtorEq, Nat.reduceSub, Int.reduceToNat, Int.reduceLE, Int.reduceLT, Int.reduceNeg, Nat.reduceBEq, Nat.reduceMul, Nat.reduceLeDiff, Nat.reduceMod, UInt8.reduceOfNat, Nat.reduceLT, Int.reduceEq, Int.reduceAdd, Int.reduceSub, Int.reduceMul]
        repeat' (first | with_reducible assumption | refine And.intro ?_ ?_ | intro _)
        all_goals try omega
        refine xAgain_intro r.length [0] (by simp) (by simp -dsimp -implicitDefEqProofs only [↓Ev.xStp_eq, ↓Ev.P, Ev.Q, eq_self, forall_eq_or_imp, implies_true, forall_const, forall_eq, ↓reduceIte, reduceIte, Nat.reduceEqDiff, Nat.reduceAdd, reduceCtorEq, Nat.reduceSub, Int.reduceToNat, Int.reduceLE, Int.reduceLT, Int.reduceNeg, Nat.reduceBEq, Nat.reduceMul, Nat.reduceLeDiff, Nat.reduceMod, UInt8.reduceOfNat, Nat.reduceLT, Int.reduceEq, Int.reduceAdd, Int.reduceSub, Int.reduceMul]) ⟨r, by simp at hr; omega, rfl, ht2, ?_⟩
        simp -dsimp -implicitDefEqProofs only [setL_ren, ↓Ev.xStp_eq, ↓Ev.P, Ev.Q, eq_self, forall_eq_or_imp, implies_true, forall_const, forall_eq, ↓reduceIte, reduceIte, Nat.reduceEqDiff, Nat.reduceAdd, reduceCtorEq, Nat.reduceSub, Int.reduceToNat, Int.reduceLE, Int.reduceLT, Int.reduceNeg, Nat.reduceBEq, Nat.reduceMul, Nat.reduceLeDiff, Nat.reduceMod, UInt8.reduceOfNat, Nat.reduceLT, Int.reduceEq, Int.reduceAdd, Int.reduceSub, Int.reduceMul]
      | false =>
        have ht2 : trimT s = c :: r := by rw [← ht, trimT, List.dropWhile_cons, if_neg (by rw [hb]; decide)]
        rw [ht2] at hk
        simp -dsimp -implicitDefEqProofs only [CCon, setL_ren, setL_ids, blk_int, hb, h0, hu, ↓Ev.xStp_eq, ↓Ev.P, Ev.Q, eq_self, forall_eq_or_imp, implies_true, forall_const, forall_eq, ↓reduceIte, reduceIte, Nat.reduceEqDiff, Nat.reduceAdd, reduceCtorEq, Nat.reduceSub, Int.reduceToNat, Int.reduceLE, Int.reduceLT, Int.reduceNeg, Nat.reduceBEq, Nat.reduceMul, Nat.reduceLeDiff, Nat.reduceMod, UInt8.reduceOfNat, Nat.reduceLT, Int.reduceEq, Int.reduceAdd, Int.reduceSub, Int.reduceMul]
        repeat' (first | with_reducible assumption | refine And.intro ?_ ?_ | intro _)
        all_goals first | omega | exact hk | skip
/-- strings.TrimLeft of blanks and tabs. -/
def CTrim : Contract := pureC fun args => match args with
  | [.d (.v (.string s)), .d (.v (.string p))] => some (s.size ≤ 1099511627776 ∧ p.data.toList = [32, 9], .d (.v (str (trimT s.data.toList))))
  | _ => none
theorem empty_iff' (l : List UInt8) : ((⟨l.toArray⟩ : ByteArray) = ⟨#[]⟩) = (l = []) := by simp
theorem s50 : Sound G Tryd.prog 50 CTrim := by
  refine sd50 (T := tabT [(98, CMk), (99, CTla)]) (tab_cons sMk (tab_cons s99 tab_nil)) (pureC_lawful _) (pure_hX fun args p x K h hp hk => ?_)
  split at h <;> simp only [Option.some.injEq, Prod.mk.injEq, reduceCtorEq] at h
  obtain ⟨rfl, rfl⟩ := h
  refine ⟨Nat.le_of_ble_eq_true rfl, ?_⟩
  rename_i s p
  obtain ⟨s, rfl⟩ := ex_str s
  obtain ⟨p, rfl⟩ := ex_str p
  simp only [sem_str] at hk hp
  obtain ⟨h1, rfl⟩ := hp
  have e1 : ((2 : Nat) : Int) = 2 := rfl
  have e2 : ((2 : Int) = 1) = False := by decide
  by_cases hs : s = []
  · subst hs
    simp -dsimp -implicitDefEqProofs only [S50, R50, CMk, CTla, setL_ren, setL_ids, setL_len, empty_iff', ↓Ev.xStp_eq, ↓Ev.P, Ev.Q, eq_self, forall_eq_or_imp, implies_true, forall_const, forall_eq, ↓reduceIte, reduceIte, Nat.reduceEqDiff, Nat.reduceAdd, reduceCtorEq, Nat.reduceSub, Int.reduceToNat, Int.reduceLE, Int.reduceLT, Int.reduceNeg, Nat.reduceBEq, Nat.reduceMul, Nat.reduceLeDiff, Nat.reduceMod, UInt8.reduceOfNat, Nat.reduceLT, Int.reduceEq, Int.reduceAdd, Int.reduceSub, Int.reduceMul]
    exact hk
  · simp -dsimp -implicitDefEqProofs only [S50, R50, CMk, CTla, setL_ren, setL_ids, setL_len, empty_iff', hs, e1, e2, ↓Ev.xStp_eq, ↓Ev.P, Ev.Q, eq_self, forall_eq_or_imp, implies_true, forall_const, forall_eq, ↓reduceIte, reduceIte, Nat.reduceEqDiff, Nat.reduceAdd, reduceCtorEq, Nat.reduceSub, Int.reduceToNat, Int.reduceLE, Int.reduceLT, Int.reduceNeg, Nat.reduceBEq, Nat.reduceMul, Nat.reduceLeDiff, Nat.reduceMod, UInt8.reduceOfNat, Nat.reduceLT, Int.reduceEq, Int.reduceAdd, Int.reduceSub, Int.reduceMul]
    repeat' (first | with_reducible assumption | refine And.intro ?_ ?_ | intro _)
    all_goals first | omega | exact hk | skip
    trace_state
end Go.Proofs.YtpbkdcfjlbdgfaaDoor
set_option linter.unusedVariables false
set_option linter.unusedSimpArgs false
namespace Go.Proofs.YtpbkdcfjlbdgfaaDoor
open Go Go.Ev
set_option maxRecDepth 100000
variable {G : World → Prop}
theorem s135 : Sound G Tryd.prog 135 C168 := by
  refine sd135 (T := tabT [(168, C168)]) (tab_cons s168 tab_nil) (pureC_lawful _) (pure_hX fun args p x K h hp hk => ?_)
  split at h <;> simp only [Option.some.injEq, Prod.mk.injEq, reduceCtorEq] at h
  obtain ⟨rfl, rfl⟩ := h
  refine ⟨Nat.le_of_ble_eq_true rfl, ?_⟩
  simp -dsimp -implicitDefEqProofs only [S135, R135, C168, ↓Ev.xStp_eq, ↓Ev.P, Ev.Q, eq_self, forall_eq_or_imp, implies_true, forall_const, forall_eq, ↓reduceIte, reduceIte, Nat.reduceEqDiff, Nat.reduceAdd, reduceCtorEq, Nat.reduceSub, Int.reduceToNat, Int.reduceLE, Int.reduceLT, Int.reduceNeg, Nat.reduceBEq, Nat.reduceMul, Nat.reduceLeDiff, Nat.reduceMod, UInt8.reduceOfNat, Nat.reduceLT, Int.reduceEq, Int.reduceAdd, Int.reduceSub, Int.reduceMul]
  exact hk
/-- A digit's place, or -1. -/
def hx (c : UInt8) : Int := Lib.indexByte [48, 49, 50, 51, 52, 53, 54, 55, 56, 57, 97, 98, 99, 100, 101, 102] c
def octV (a b : UInt8) : Int := IntKind.u8.wrap (IntKind.i64.wrap ((BitVec.ofInt IntKind.i64.bits (IntKind.i64.wrap (hx a * 2 ^ min 4 IntKind.i64.bits)) ||| BitVec.ofInt IntKind.i64.bits (hx b)).toNat))
def okO (a b : UInt8) : Bool := decide (0 ≤ hx a) && decide (0 ≤ hx b) && !plainB (octV a b)
def oct2 : List UInt8 → Int × Bool
  | a :: b :: _ => (octV a b, okO a b)
  | _ => (0, false)
def C92 : Contract := pureC fun args => match args with
  | [.d (.v (.string s))] => some (True, .tup [.d (.v (.int .u8 (oct2 s.data.toList).1)), .d (.v (.bool (oct2 s.data.toList).2))])
  | _ => none
theorem s92 : Sound G Tryd.prog 92 C92 := by
  refine sd92 (T := tabT [(89, C89), (135, C168)]) (tab_cons s89 (tab_cons s135 tab_nil)) (pureC_lawful _) (pure_hX fun args p x K h hp hk => ?_)
  split at h <;> simp only [Option.some.injEq, Prod.mk.injEq, reduceCtorEq] at h
  obtain ⟨rfl, rfl⟩ := h
  refine ⟨Nat.le_of_ble_eq_true rfl, ?_⟩
  rename_i s
  obtain ⟨l, rfl⟩ := ex_str s
  simp only [sem_str] at hk
  match l, hk with
  | [], hk =>
    simp -dsimp -implicitDefEqProofs only [S92, R92, C168, C89, ↓Ev.xStp_eq, ↓Ev.P, Ev.Q, eq_self, forall_eq_or_imp, implies_true, forall_const, forall_eq, ↓reduceIte, reduceIte, Nat.reduceEqDiff, Nat.reduceAdd, reduceCtorEq, Nat.reduceSub, Int.reduceToNat, Int.reduceLE, Int.reduceLT, Int.reduceNeg, Nat.reduceBEq, Nat.reduceMul, Nat.reduceLeDiff, Nat.reduceMod, UInt8.reduceOfNat, Nat.reduceLT, Int.reduceEq, Int.reduceAdd, Int.reduceSub, Int.reduceMul]
    repeat' (first | refine And.intro ?_ ?_ | intro _)
    all_goals first | omega | exact hk
  | [a], hk =>
    simp -dsimp -implicitDefEqProofs only [S92, R92, C168, C89, ↓Ev.xStp_eq, ↓Ev.P, Ev.Q, eq_self, forall_eq_or_imp, implies_true, forall_const, forall_eq, ↓reduceIte, reduceIte, Nat.reduceEqDiff, Nat.reduceAdd, reduceCtorEq, Nat.reduceSub, Int.reduceToNat, Int.reduceLE, Int.reduceLT, Int.reduceNeg, Nat.reduceBEq, Nat.reduceMul, Nat.reduceLeDiff, Nat.reduceMod, UInt8.reduceOfNat, Nat.reduceLT, Int.reduceEq, Int.reduceAdd, Int.reduceSub, Int.reduceMul]
    repeat' (first | refine And.intro ?_ ?_ | intro _)
    all_goals first | omega | exact hk
  | a :: b :: r, hk =>
    simp -dsimp -implicitDefEqProofs only [S92, R92, C168, C89, ↓Ev.xStp_eq, ↓Ev.P, Ev.Q, eq_self, forall_eq_or_imp, implies_true, forall_const, forall_eq, ↓reduceIte, reduceIte, Nat.reduceEqDiff, Nat.reduceAdd, reduceCtorEq, Nat.reduceSub, Int.reduceToNat, Int.reduceLE, Int.reduceLT, Int.reduceNeg, Nat.reduceBEq, Nat.reduceMul, Nat.reduceLeDiff, Nat.reduceMod, UInt8.reduceOfNat, Nat.reduceLT, Int.reduceEq, Int.reduceAdd, Int.reduceSub, Int.reduceMul]
    repeat' (first | refine And.intro ?_ ?_ | intro _)
    all_goals first | omega | exact hk
/-- The bytes of a quoted text from behind its first mark, and what is behind it. -/
def unq : List UInt8 → List UInt8 → Option (List UInt8 × List UInt8)
  | [], _ => none
  | c :: r, out => if c = 34 then some (out, r) else if plainB c.toNat = true then unq r (out ++ [c]) else
    if c = 92 ∧ (oct2 r).2 = true then unq (r.drop 2) (out ++ [UInt8.ofNat (oct2 r).1.toNat]) else none
  termination_by l => l.length
  decreasing_by all_goals (simp; try omega)
def unqS : Option (List UInt8 × List UInt8) → SV
  | some (o, r) => .tup [.d (.v (str o)), .d (.v (str r)), .d (.v (.int .i64 0))]
  | none => .tup [.d (.v (str [])), .d (.v (str [])), .d (.v (.int .i64 3))]
def unqL : List UInt8 → Option (List UInt8 × List UInt8)
  | 34 :: r => unq r []
  | _ => none
def C40 : Contract := pureC fun args => match args with
  | [.d (.v (.string s))] => some (s.size ≤ 1099511627776, unqS (unqL s.data.toList))
  | _ => none
theorem pre34 (l : List UInt8) : hasPre ⟨l.toArray⟩ ⟨[34].toArray⟩ = (match l with | c :: _ => decide (c = 34) | [] => false) := by
  unfold hasPre
  simp only [sem_str]
  cases l with
  | nil => rfl
  | cons c r => simp; omega
theorem octV_byte (a b : UInt8) : ((UInt8.ofNat (octV a b).toNat).toNat : Int) = octV a b := by
  have : 0 ≤ octV a b ∧ octV a b < 256 := by
    unfold octV
    generalize IntKind.i64.wrap _ = z
    simp only [IntKind.wrap, IntKind.bits, IntKind.signed]
    simp
    omega
  simp
  omega
theorem u8_eq (d : UInt8) (n : Nat) (hn : n < 256) : ((d.toNat : Int) = n) ↔ d = UInt8.ofNat n := by
  constructor
  · intro h
    apply UInt8.toNat_inj.1
    rw [UInt8.toNat_ofNat']
    omega
  · rintro rfl
    rw [UInt8.toNat_ofNat']
    omega
theorem unq_end (m out : List UInt8) : unq (34 :: m) out = some (out, m) := by rw [unq]; simp
theorem unq_plain {d : UInt8} (m out : List UInt8) (h : d ≠ 34) (hp : plainB d.toNat = true) : unq (d :: m) out = unq m (out ++ [d]) := by rw [unq]; simp [h, hp]
theorem unq_oct (m out : List UInt8) (ho : (oct2 m).2 = true) : 2 ≤ m.length ∧ unq (92 :: m) out = unq (m.drop 2) (out ++ [UInt8.ofNat (oct2 m).1.toNat]) ∧ (((UInt8.ofNat (oct2 m).1.toNat).toNat : Int) = (oct2 m).1) := by
  match m, ho with
  | a :: b :: r, ho =>
    refine ⟨by simp, ?_, octV_byte a b⟩
    have hp : plainB (92 : UInt8).toNat = false := by decide
    rw [unq]
    simp only [hp]
    simp [ho]
  | [], ho => cases ho
  | [_], ho => cases ho
theorem unq_bad {d : UInt8} (m out : List UInt8) (h : d ≠ 34) (hp : plainB d.toNat = false) (hb : d = 92 → (oct2 m).2 = false) : unq (d :: m) out = none := by
  rw [unq]
  simp only [h, if_false, hp, Bool.false_eq_true]
  rw [if_neg]
  rintro ⟨h1, h2⟩
  rw [hb h1] at h2; cases h2
end Go.Proofs.YtpbkdcfjlbdgfaaDoor
set_option linter.unusedVariables false
set_option linter.unusedSimpArgs false
namespace Go.Proofs.YtpbkdcfjlbdgfaaDoor
open Go Go.Ev
set_option maxRecDepth 100000
variable {G : World → Prop}
def CVal : Contract := pureC fun args => match args with
  | [.d (.v (.int .i32 r))] => some (True, .d (.v (.bool (Lib.validRune r))))
  | _ => none
theorem sVal : Sound G Tryd.prog 140 CVal := by
  refine sound_calls ⟨Tryd.f140, by kernel_rfl, by kernel_rfl, by kernel_rfl⟩ fun args p x h hp => ?_
  split at h <;> simp only [Option.some.injEq, Prod.mk.injEq, reduceCtorEq] at h
  obtain ⟨rfl, rfl⟩ := h
  refine ⟨_, fun m n c => ⟨rfl, rfl⟩, fun m c vs hv w => ?_⟩
  match vs, hv with
  | [v], hv =>
    simp only [CnL, and_true] at hv
    rw [of_v hv]
    exact Tryd.utf8_ValidRune _ w
  | [], hv => simp [CnL] at hv
  | _ :: _ :: _, hv => simp [CnL] at hv
/-- A rune among a blank and a tab. -/
def idxR (r : Int) : Int := if r = 32 then 0 else if r = 9 then 1 else -1
def CIdxR : Contract := pureC fun args => match args with
  | [.d (.v (.string p)), .d (.v (.int .i32 r))] => some (p.data.toList = [32, 9] ∧ 0 ≤ r ∧ r ≤ 1114111, .d (.v (.int .i64 (idxR r))))
  | _ => none
theorem idxR_low (r : Int) (h : 0 ≤ r ∧ r < 128) : Lib.indexByte [32, 9] (r.toNat.toUInt8) = idxR r := by
  have : ∀ n : Fin 128, Lib.indexByte [32, 9] (n.val.toUInt8) = idxR (n.val : Int) := by decide +kernel
  have h2 := this ⟨r.toNat, by omega⟩
  simpa [Int.toNat_of_nonneg h.1] using h2
theorem wrap8 (r : Int) (h : 0 ≤ r ∧ r < 256) : IntKind.u8.wrap r = r := by
  simp only [IntKind.wrap, IntKind.bits, IntKind.signed]
  simp
  omega
theorem enc_high (r : Int) (h : 128 ≤ r) : ∃ l : List UInt8, Utf8.encode r = ⟨l.toArray⟩ ∧ 2 ≤ l.length ∧ l.length ≤ 4 ∧ 128 ≤ (l.getD (l.length - 1) 0).toNat := by
  have ho : ∀ n : Nat, 128 ≤ (UInt8.ofNat (128 + n % 64)).toNat := fun n => by simp [UInt8.toNat_ofNat']; omega
  have hc : 128 ≤ (if Utf8.valid r then r.toNat else Utf8.runeError) := by
    split
    · omega
    · decide
  unfold Utf8.encode
  generalize (if Utf8.valid r then r.toNat else Utf8.runeError) = c at hc
  simp only
  rw [if_neg (by omega)]
  split
  · exact ⟨[_, _], rfl, by simp, by simp, ho _⟩
  · split
    · exact ⟨[_, _, _], rfl, by simp, by simp, ho _⟩
    · exact ⟨[_, _, _, _], rfl, by simp, by simp, ho _⟩
theorem dec0 : Utf8.decode ⟨#[32, 9]⟩ 0 = (32, 1) := by decide
theorem dec1 : Utf8.decode ⟨#[32, 9]⟩ 1 = (9, 1) := by decide
set_option maxHeartbeats 2000000 in
theorem s101 : Sound G Tryd.prog 101 CIdxR := by
  refine sd101 (T := tabT [(135, C168), (140, CVal)]) (tab_cons s135 (tab_cons sVal tab_nil)) (pureC_lawful _) (pure_hX fun args p x K h hp hk => ?_)
  split at h <;> simp only [Option.some.injEq, Prod.mk.injEq, reduceCtorEq] at h
  obtain ⟨rfl, rfl⟩ := h
  refine ⟨Nat.le_of_ble_eq_true rfl, ?_⟩
  rename_i p r
  obtain ⟨p, rfl⟩ := ex_str p
  simp only [sem_str] at hp
  obtain ⟨rfl, h0, h1⟩ := hp
  have e1 : ((2 : Nat) : Int) = 2 := rfl
  by_cases hl : r < 128
  · have hi := idxR_low r ⟨h0, hl⟩
    have hw := wrap8 r ⟨h0, by omega⟩
    simp -dsimp -implicitDefEqProofs only [S101, R101, C168, CVal, h0, hl, hi, hw, ↓Ev.xStp_eq, ↓Ev.P, Ev.Q, eq_self, forall_eq_or_imp, implies_true, forall_const, forall_eq, ↓reduceIte, reduceIte, Nat.reduceEqDiff, Nat.reduceAdd, reduceCtorEq, Nat.reduceSub, Int.reduceToNat, Int.reduceLE, Int.reduceLT, Int.reduceNeg, Nat.reduceBEq, Nat.reduceMul, Nat.reduceLeDiff, Nat.reduceMod, UInt8.reduceOfNat, Nat.reduceLT, Int.reduceEq, Int.reduceAdd, Int.reduceSub, Int.reduceMul]
    exact hk
  · have hi : idxR r = -1 := by unfold idxR; rw [if_neg (by omega), if_neg (by omega)]
    rw [hi] at hk
    by_cases he : r = 65533
    · subst he
      simp -dsimp -implicitDefEqProofs only [S101, R101, C168, CVal, ↓Ev.xStp_eq, ↓Ev.P, Ev.Q, eq_self, forall_eq_or_imp, implies_true, forall_const, forall_eq, ↓reduceIte, reduceIte, Nat.reduceEqDiff, Nat.reduceAdd, reduceCtorEq, Nat.reduceSub, Int.reduceToNat, Int.reduceLE, Int.reduceLT, Int.reduceNeg, Nat.reduceBEq, Nat.reduceMul, Nat.reduceLeDiff, Nat.reduceMod, UInt8.reduceOfNat, Nat.reduceLT, Int.reduceEq, Int.reduceAdd, Int.reduceSub, Int.reduceMul]
      refine xLoop_intro (fun k st => ∃ i : Nat, i ≤ 2 ∧ k = 2 - i ∧ st = ⟨[(175, .own 0)], 1, [(0, .iter ⟨#[32, 9]⟩ i)]⟩) 2 [0] ?_ ?_ ?_
      · simp -dsimp -implicitDefEqProofs only [↓Ev.xStp_eq, ↓Ev.P, Ev.Q, eq_self, forall_eq_or_imp, implies_true, forall_const, forall_eq, ↓reduceIte, reduceIte, Nat.reduceEqDiff, Nat.reduceAdd, reduceCtorEq, Nat.reduceSub, Int.reduceToNat, Int.reduceLE, Int.reduceLT, Int.reduceNeg, Nat.reduceBEq, Nat.reduceMul, Nat.reduceLeDiff, Nat.reduceMod, UInt8.reduceOfNat, Nat.reduceLT, Int.reduceEq, Int.reduceAdd, Int.reduceSub, Int.reduceMul]
      · simp -dsimp -implicitDefEqProofs only [↓Ev.xStp_eq, ↓Ev.P, Ev.Q, eq_self, forall_eq_or_imp, implies_true, forall_const, forall_eq, ↓reduceIte, reduceIte, Nat.reduceEqDiff, Nat.reduceAdd, reduceCtorEq, Nat.reduceSub, Int.reduceToNat, Int.reduceLE, Int.reduceLT, Int.reduceNeg, Nat.reduceBEq, Nat.reduceMul, Nat.reduceLeDiff, Nat.reduceMod, UInt8.reduceOfNat, Nat.reduceLT, Int.reduceEq, Int.reduceAdd, Int.reduceSub, Int.reduceMul]
        exact ⟨0, by omega, by omega, rfl⟩
      · rintro k st ⟨i, hi, hk2, rfl⟩
        have hc : i = 0 ∨ i = 1 ∨ i = 2 := by omega
        rcases hc with rfl | rfl | rfl
        · simp -dsimp -implicitDefEqProofs only [dec0, ↓Ev.xStp_eq, ↓Ev.P, Ev.Q, eq_self, forall_eq_or_imp, implies_true, forall_const, forall_eq, ↓reduceIte, reduceIte, Nat.reduceEqDiff, Nat.reduceAdd, reduceCtorEq, Nat.reduceSub, Int.reduceToNat, Int.reduceLE, Int.reduceLT, Int.reduceNeg, Nat.reduceBEq, Nat.reduceMul, Nat.reduceLeDiff, Nat.reduceMod, UInt8.reduceOfNat, Nat.reduceLT, Int.reduceEq, Int.reduceAdd, Int.reduceSub, Int.reduceMul]
          refine ⟨fun h => by omega, fun _ => ?_⟩
          refine xAgain_intro 1 [0] (by omega) (by simp -dsimp -implicitDefEqProofs only [↓Ev.xStp_eq, ↓Ev.P, Ev.Q, eq_self, forall_eq_or_imp, implies_true, forall_const, forall_eq, ↓reduceIte, reduceIte, Nat.reduceEqDiff, Nat.reduceAdd, reduceCtorEq, Nat.reduceSub, Int.reduceToNat, Int.reduceLE, Int.reduceLT, Int.reduceNeg, Nat.reduceBEq, Nat.reduceMul, Nat.reduceLeDiff, Nat.reduceMod, UInt8.reduceOfNat, Nat.reduceLT, Int.reduceEq, Int.reduceAdd, Int.reduceSub, Int.reduceMul]) ⟨1, by omega, rfl, ?_⟩
          simp -dsimp -implicitDefEqProofs only [↓Ev.xStp_eq, ↓Ev.P, Ev.Q, eq_self, forall_eq_or_imp, implies_true, forall_const, forall_eq, ↓reduceIte, reduceIte, Nat.reduceEqDiff, Nat.reduceAdd, reduceCtorEq, Nat.reduceSub, Int.reduceToNat, Int.reduceLE, Int.reduceLT, Int.reduceNeg, Nat.reduceBEq, Nat.reduceMul, Nat.reduceLeDiff, Nat.reduceMod, UInt8.reduceOfNat, Nat.reduceLT, Int.reduceEq, Int.reduceAdd, Int.reduceSub, Int.reduceMul]
        · simp -dsimp -implicitDefEqProofs only [dec1, ↓Ev.xStp_eq, ↓Ev.P, Ev.Q, eq_self, forall_eq_or_imp, implies_true, forall_const, forall_eq, ↓reduceIte, reduceIte, Nat.reduceEqDiff, Nat.reduceAdd, reduceCtorEq, Nat.reduceSub, Int.reduceToNat, Int.reduceLE, Int.reduceLT, Int.reduceNeg, Nat.reduceBEq, Nat.reduceMul, Nat.reduceLeDiff, Nat.reduceMod, UInt8.reduceOfNat, Nat.reduceLT, Int.reduceEq, Int.reduceAdd, Int.reduceSub, Int.reduceMul]
          refine ⟨fun h => by omega, fun _ => ?_⟩
          refine xAgain_intro 0 [0] (by omega) (by simp -dsimp -implicitDefEqProofs only [↓Ev.xStp_eq, ↓Ev.P, Ev.Q, eq_self, forall_eq_or_imp, implies_true, forall_const, forall_eq, ↓reduceIte, reduceIte, Nat.reduceEqDiff, Nat.reduceAdd, reduceCtorEq, Nat.reduceSub, Int.reduceToNat, Int.reduceLE, Int.reduceLT, Int.reduceNeg, Nat.reduceBEq, Nat.reduceMul, Nat.reduceLeDiff, Nat.reduceMod, UInt8.reduceOfNat, Nat.reduceLT, Int.reduceEq, Int.reduceAdd, Int.reduceSub, Int.reduceMul]) ⟨2, by omega, rfl, ?_⟩
          simp -dsimp -implicitDefEqProofs only [↓Ev.xStp_eq, ↓Ev.P, Ev.Q, eq_self, forall_eq_or_imp, implies_true, forall_const, forall_eq, ↓reduceIte, reduceIte, Nat.reduceEqDiff, Nat.reduceAdd, reduceCtorEq, Nat.reduceSub, Int.reduceToNat, Int.reduceLE, Int.reduceLT, Int.reduceNeg, Nat.reduceBEq, Nat.reduceMul, Nat.reduceLeDiff, Nat.reduceMod, UInt8.reduceOfNat, Nat.reduceLT, Int.reduceEq, Int.reduceAdd, Int.reduceSub, Int.reduceMul]
        · simp -dsimp -implicitDefEqProofs only [↓Ev.xStp_eq, ↓Ev.P, Ev.Q, eq_self, forall_eq_or_imp, implies_true, forall_const, forall_eq, ↓reduceIte, reduceIte, Nat.reduceEqDiff, Nat.reduceAdd, reduceCtorEq, Nat.reduceSub, Int.reduceToNat, Int.reduceLE, Int.reduceLT, Int.reduceNeg, Nat.reduceBEq, Nat.reduceMul, Nat.reduceLeDiff, Nat.reduceMod, UInt8.reduceOfNat, Nat.reduceLT, Int.reduceEq, Int.reduceAdd, Int.reduceSub, Int.reduceMul]
          exact hk
    · cases hv : Lib.validRune r with
      | false =>
        simp -dsimp -implicitDefEqProofs only [S101, R101, C168, CVal, h0, hl, he, hv, ↓Ev.xStp_eq, ↓Ev.P, Ev.Q, eq_self, forall_eq_or_imp, implies_true, forall_const, forall_eq, ↓reduceIte, reduceIte, Nat.reduceEqDiff, Nat.reduceAdd, reduceCtorEq, Nat.reduceSub, Int.reduceToNat, Int.reduceLE, Int.reduceLT, Int.reduceNeg, Nat.reduceBEq, Nat.reduceMul, Nat.reduceLeDiff, Nat.reduceMod, UInt8.reduceOfNat, Nat.reduceLT, Int.reduceEq, Int.reduceAdd, Int.reduceSub, Int.reduceMul]
        exact hk
      | true =>
        obtain ⟨q, q1, q2, q3, q4⟩ := enc_high r (by omega)
        simp -dsimp -implicitDefEqProofs only [S101, R101, C168, CVal, h0, hl, he, hv, q1, ↓Ev.xStp_eq, ↓Ev.P, Ev.Q, eq_self, forall_eq_or_imp, implies_true, forall_const, forall_eq, ↓reduceIte, reduceIte, Nat.reduceEqDiff, Nat.reduceAdd, reduceCtorEq, Nat.reduceSub, Int.reduceToNat, Int.reduceLE, Int.reduceLT, Int.reduceNeg, Nat.reduceBEq, Nat.reduceMul, Nat.reduceLeDiff, Nat.reduceMod, UInt8.reduceOfNat, Nat.reduceLT, Int.reduceEq, Int.reduceAdd, Int.reduceSub, Int.reduceMul]
        refine ⟨by omega, ?_⟩
        refine xLoop_intro (fun k st => k = 0 ∧ st = ⟨[(0, .d (.v (.string ⟨#[32, 9]⟩))), (7, .d (.v (.string ⟨q.toArray⟩))), (8, .d (.v (.int .i64 ((q.length : Int) - 1)))), (9, .d (.v (.int .i64 ((q.length : Int) - 1))))], 0, []⟩) 0 [] ?_ ?_ ?_
        · simp -dsimp -implicitDefEqProofs only [↓Ev.xStp_eq, ↓Ev.P, Ev.Q, eq_self, forall_eq_or_imp, implies_true, forall_const, forall_eq, ↓reduceIte, reduceIte, Nat.reduceEqDiff, Nat.reduceAdd, reduceCtorEq, Nat.reduceSub, Int.reduceToNat, Int.reduceLE, Int.reduceLT, Int.reduceNeg, Nat.reduceBEq, Nat.reduceMul, Nat.reduceLeDiff, Nat.reduceMod, UInt8.reduceOfNat, Nat.reduceLT, Int.reduceEq, Int.reduceAdd, Int.reduceSub, Int.reduceMul]
        · simp -dsimp -implicitDefEqProofs only [↓Ev.xStp_eq, ↓Ev.P, Ev.Q, eq_self, forall_eq_or_imp, implies_true, forall_const, forall_eq, ↓reduceIte, reduceIte, Nat.reduceEqDiff, Nat.reduceAdd, reduceCtorEq, Nat.reduceSub, Int.reduceToNat, Int.reduceLE, Int.reduceLT, Int.reduceNeg, Nat.reduceBEq, Nat.reduceMul, Nat.reduceLeDiff, Nat.reduceMod, UInt8.reduceOfNat, Nat.reduceLT, Int.reduceEq, Int.reduceAdd, Int.reduceSub, Int.reduceMul]
        · rintro k st ⟨rfl, rfl⟩
          by_cases h2 : q.length = 2
          · have e2 : ((q.length : Int) - 1) = 1 := by omega
            rw [h2] at q4
            have hne : ¬ ((UInt8.toNat 9 : Nat) : Int) = ((q.getD 1 0).toNat : Int) := by
              have : (UInt8.toNat 9) = 9 := rfl
              rw [this]
              simp only [Nat.add_one_sub_one] at q4
              omega
            have ib0 : ∀ c, Lib.indexByte [] c = -1 := fun _ => rfl
            simp -dsimp -implicitDefEqProofs only [e2, e1, hne, ib0, C168, ↓Ev.xStp_eq, ↓Ev.P, Ev.Q, eq_self, forall_eq_or_imp, implies_true, forall_const, forall_eq, ↓reduceIte, reduceIte, Nat.reduceEqDiff, Nat.reduceAdd, reduceCtorEq, Nat.reduceSub, Int.reduceToNat, Int.reduceLE, Int.reduceLT, Int.reduceNeg, Nat.reduceBEq, Nat.reduceMul, Nat.reduceLeDiff, Nat.reduceMod, UInt8.reduceOfNat, Nat.reduceLT, Int.reduceEq, Int.reduceAdd, Int.reduceSub, Int.reduceMul]
            repeat' (first | with_reducible assumption | refine And.intro ?_ ?_ | intro _)
            all_goals first | omega | exact hk | skip
          · have e2 : ¬ ((q.length : Int) - 1) < 2 := by omega
            simp -dsimp -implicitDefEqProofs only [e2, e1, ↓Ev.xStp_eq, ↓Ev.P, Ev.Q, eq_self, forall_eq_or_imp, implies_true, forall_const, forall_eq, ↓reduceIte, reduceIte, Nat.reduceEqDiff, Nat.reduceAdd, reduceCtorEq, Nat.reduceSub, Int.reduceToNat, Int.reduceLE, Int.reduceLT, Int.reduceNeg, Nat.reduceBEq, Nat.reduceMul, Nat.reduceLeDiff, Nat.reduceMod, UInt8.reduceOfNat, Nat.reduceLT, Int.reduceEq, Int.reduceAdd, Int.reduceSub, Int.reduceMul]
            exact hk
end Go.Proofs.YtpbkdcfjlbdgfaaDoor
set_option linter.unusedVariables false
set_option linter.unusedSimpArgs false
namespace Go.Proofs.YtpbkdcfjlbdgfaaDoor
open Go Go.Ev
set_option maxRecDepth 100000
variable {G : World → Prop}
/-- The first blank's place. -/
def idxB (l : List UInt8) : Int := if (l.takeWhile fun c => !blk c).length < l.length then ((l.takeWhile fun c => !blk c).length : Int) else -1
theorem tw_of (l : List UInt8) (i : Nat) (h : i < l.length) (hb : blk (l.getD i 0) = true) (hn : ∀ j, j < i → blk (l.getD j 0) = false) : (l.takeWhile fun c => !blk c).length = i := by
  induction l generalizing i with
  | nil => simp at h
  | cons c r ih =>
    cases i with
    | zero => simp at hb; simp [List.takeWhile_cons, hb]
    | succ i =>
      have h0 := hn 0 (by omega)
      simp only [List.getD_cons_zero] at h0
      simp only [List.takeWhile_cons, h0, Bool.not_false, if_true, List.length_cons]
      rw [ih i (by simpa using h) (by simpa using hb) (fun j hj => by have := hn (j + 1) (by omega); simpa using this)]
theorem tw_none (l : List UInt8) (hn : ∀ j, j < l.length → blk (l.getD j 0) = false) : (l.takeWhile fun c => !blk c).length = l.length := by
  induction l with
  | nil => rfl
  | cons c r ih =>
    have h0 := hn 0 (by simp)
    simp only [List.getD_cons_zero] at h0
    simp only [List.takeWhile_cons, h0, Bool.not_false, if_true, List.length_cons]
    rw [ih fun j hj => by have := hn (j + 1) (by simp; omega); simpa using this]
theorem idxB_at {l : List UInt8} {i : Nat} (h : i < l.length) (hb : blk (l.getD i 0) = true) (hn : ∀ j, j < i → blk (l.getD j 0) = false) : idxB l = i := by
  rw [idxB, tw_of l i h hb hn, if_pos h]
theorem idxB_no {l : List UInt8} (hn : ∀ j, j < l.length → blk (l.getD j 0) = false) : idxB l = -1 := by
  rw [idxB, tw_none l hn, if_neg (Nat.lt_irrefl _)]
theorem blk_high {c : UInt8} (h : 128 ≤ c.toNat) : blk c = false := by
  unfold blk
  rw [decide_eq_false (by rintro rfl; revert h; decide), decide_eq_false (by rintro rfl; revert h; decide)]; rfl
theorem get_bang (l : List UInt8) (k : Nat) : (ByteArray.mk l.toArray).get! k = l.getD k 0 := by
  show (l.toArray)[k]! = _
  rw [List.getElem!_toArray, List.getElem!_eq_getElem?_getD, List.getD_eq_getElem?_getD]; rfl
/-- A rune of several bytes goes over bytes from 128 on. -/
theorem dec_skip (l : List UInt8) (p : Nat) (hp : p < l.length) : 1 ≤ (Utf8.decode ⟨l.toArray⟩ p).2 ∧ p + (Utf8.decode ⟨l.toArray⟩ p).2 ≤ l.length ∧ ∀ j, 1 ≤ j → j < (Utf8.decode ⟨l.toArray⟩ p).2 → 128 ≤ (l.getD (p + j) 0).toNat := by
  have hsz : (ByteArray.mk l.toArray).size = l.length := rfl
  unfold Utf8.decode
  simp only [get_bang, hsz]
  have c1 : ∀ j, j < 1 → 1 ≤ j → 128 ≤ (l.getD (p + j) 0).toNat := fun j h1 h2 => by omega
  split
  · exact ⟨by simp, by simp; omega, fun j a b => c1 j b a⟩
  · split
    · rename_i h
      simp only [Bool.and_eq_true, decide_eq_true_eq, beq_iff_eq] at h
      split
      · refine ⟨by simp, by simp; omega, fun j a b => ?_⟩
        obtain rfl : j = 1 := by simp at b; omega
        omega
      · exact ⟨by simp, by simp; omega, fun j a b => c1 j b a⟩
    · split
      · rename_i h
        simp only [Bool.and_eq_true, decide_eq_true_eq, beq_iff_eq] at h
        split
        · refine ⟨by simp, by simp; omega, fun j a b => ?_⟩
          have hj : j = 1 ∨ j = 2 := by simp at b; omega
          rcases hj with rfl | rfl <;> omega
        · exact ⟨by simp, by simp; omega, fun j a b => c1 j b a⟩
      · split
        · rename_i h
          simp only [Bool.and_eq_true, decide_eq_true_eq, beq_iff_eq] at h
          split
          · refine ⟨by simp, by simp; omega, fun j a b => ?_⟩
            have hj : j = 1 ∨ j = 2 ∨ j = 3 := by simp at b; omega
            rcases hj with rfl | rfl | rfl <;> omega
          · exact ⟨by simp, by simp; omega, fun j a b => c1 j b a⟩
        · exact ⟨by simp, by simp; omega, fun j a b => c1 j b a⟩
theorem dec_max (s : ByteArray) (pos : Nat) : (Utf8.decode s pos).1 ≤ 1114111 := by
  have hb : ∀ k, (s.get! (pos + k)).toNat < 256 := fun k => (s.get! (pos + k)).toNat_lt
  have h0 := hb 0; have h1 := hb 1; have h2 := hb 2; have h3 := hb 3
  simp only [Utf8.decode]
  repeat' split
  all_goals simp_all [Utf8.runeError, Utf8.valid]
  all_goals omega
theorem dec_blk (l : List UInt8) (p : Nat) (hp : p < l.length) : ((Utf8.decode ⟨l.toArray⟩ p).1 : Int) ≤ 1114111 ∧ (blk (l.getD p 0) = true → 0 ≤ idxR (Utf8.decode ⟨l.toArray⟩ p).1) ∧ (blk (l.getD p 0) = false → idxR (Utf8.decode ⟨l.toArray⟩ p).1 = -1) := by
  have hs : p < (⟨l.toArray⟩ : ByteArray).size := hp
  have hg : (⟨l.toArray⟩ : ByteArray)[p]'hs = l.getD p 0 := by
    simp [List.getD_eq_getElem?_getD, List.getElem?_eq_getElem hp]
    rfl
  by_cases ha : ((⟨l.toArray⟩ : ByteArray)[p]'hs).toNat < 128
  · have := decode_ascii _ p hs ha
    rw [hg] at this ha
    rw [this]
    have : ∀ n : Fin 128, (blk (UInt8.ofNat n.val) = true → 0 ≤ idxR ((n.val : Nat) : Int)) ∧ (blk (UInt8.ofNat n.val) = false → idxR ((n.val : Nat) : Int) = -1) := by decide +kernel
    have h2 := this ⟨(l.getD p 0).toNat, ha⟩
    simp only [UInt8.ofNat_toNat] at h2
    exact ⟨by simp only; omega, h2⟩
  · have h2 := (decode_high _ p hs (by omega)).1
    rw [hg] at ha
    have hb := blk_high (c := l.getD p 0) (by omega)
    refine ⟨?_, fun h => ?_, fun _ => ?_⟩
    · exact Int.ofNat_le.2 (dec_max _ p)
    · rw [hb] at h; cases h
    · unfold idxR; rw [if_neg (by omega), if_neg (by omega)]
end Go.Proofs.YtpbkdcfjlbdgfaaDoor
set_option linter.unusedVariables false
set_option linter.unusedSimpArgs false
namespace Go.Proofs.YtpbkdcfjlbdgfaaDoor
open Go Go.Ev
set_option maxRecDepth 100000
variable {G : World → Prop}
def CIdxA : Contract := pureC fun args => match args with
  | [.d (.v (.string s)), .d (.v (.string p))] => some (s.size ≤ 1099511627776 ∧ p.data.toList = [32, 9], .d (.v (.int .i64 (idxB s.data.toList))))
  | _ => none
theorem s102 : Sound G Tryd.prog 102 (pureC fun args => match args with
  | [.d (.v (.int .i64 n))] => some (True, .d (.v (.bool (decide (8 < n)))))
  | _ => none) := by
  refine sd102 (T := tabT []) tab_nil (pureC_lawful _) (pure_hX fun args p x K h hp hk => ?_)
  split at h <;> simp only [Option.some.injEq, Prod.mk.injEq, reduceCtorEq] at h
  obtain ⟨rfl, rfl⟩ := h
  refine ⟨Nat.le_of_ble_eq_true rfl, ?_⟩
  simp -dsimp -implicitDefEqProofs only [S102, R102, ↓Ev.xStp_eq, ↓Ev.P, Ev.Q, eq_self, forall_eq_or_imp, implies_true, forall_const, forall_eq, ↓reduceIte, reduceIte, Nat.reduceEqDiff, Nat.reduceAdd, reduceCtorEq, Nat.reduceSub, Int.reduceToNat, Int.reduceLE, Int.reduceLT, Int.reduceNeg, Nat.reduceBEq, Nat.reduceMul, Nat.reduceLeDiff, Nat.reduceMod, UInt8.reduceOfNat, Nat.reduceLT, Int.reduceEq, Int.reduceAdd, Int.reduceSub, Int.reduceMul]
  exact hk
theorem empty2 : ((⟨#[32, 9]⟩ : ByteArray) = ⟨#[]⟩) = False := by decide
set_option maxHeartbeats 2000000 in
theorem s52 : Sound G Tryd.prog 52 CIdxA := by
  refine sd52 (T := tabT [(98, CMk), (103, CCon), (101, CIdxR), (102, pureC fun args => match args with
  | [.d (.v (.int .i64 n))] => some (True, .d (.v (.bool (decide (8 < n)))))
  | _ => none)]) (tab_cons sMk (tab_cons sCon (tab_cons s101 (tab_cons s102 tab_nil)))) (pureC_lawful _) (pure_hX fun args p x K h hp hk => ?_)
  split at h <;> simp only [Option.some.injEq, Prod.mk.injEq, reduceCtorEq] at h
  obtain ⟨rfl, rfl⟩ := h
  refine ⟨Nat.le_of_ble_eq_true rfl, ?_⟩
  rename_i s p
  obtain ⟨s, rfl⟩ := ex_str s
  obtain ⟨p, rfl⟩ := ex_str p
  simp only [sem_str] at hk hp
  obtain ⟨h1, rfl⟩ := hp
  have e1 : ((2 : Nat) : Int) = 2 := rfl
  have e2 : ((2 : Int) = 1) = False := by decide
  by_cases h8 : (8 : Int) < (s.length : Int)
  · simp -dsimp -implicitDefEqProofs only [S52, R52, CMk, CCon, CIdxR, empty2, e1, e2, h8, setL_ren, setL_ids, setL_len, ↓Ev.xStp_eq, ↓Ev.P, Ev.Q, eq_self, forall_eq_or_imp, implies_true, forall_const, forall_eq, ↓reduceIte, reduceIte, Nat.reduceEqDiff, Nat.reduceAdd, reduceCtorEq, Nat.reduceSub, Int.reduceToNat, Int.reduceLE, Int.reduceLT, Int.reduceNeg, Nat.reduceBEq, Nat.reduceMul, Nat.reduceLeDiff, Nat.reduceMod, UInt8.reduceOfNat, Nat.reduceLT, Int.reduceEq, Int.reduceAdd, Int.reduceSub, Int.reduceMul]
    refine xLoop_intro (fun k st => ∃ i : Nat, i ≤ s.length ∧ k = s.length - i ∧ (∀ j, j < i → blk (s.getD j 0) = false) ∧
      st = ⟨[(0, .d (.v (.string ⟨s.toArray⟩))), (6, .ptr 0 0), (8, .d (.v (.int .i64 i)))], 1, [(0, .cells 124 setL)]⟩) s.length [0] ?_ ?_ ?_
    · simp -dsimp -implicitDefEqProofs only [↓Ev.xStp_eq, ↓Ev.P, Ev.Q, eq_self, forall_eq_or_imp, implies_true, forall_const, forall_eq, ↓reduceIte, reduceIte, Nat.reduceEqDiff, Nat.reduceAdd, reduceCtorEq, Nat.reduceSub, Int.reduceToNat, Int.reduceLE, Int.reduceLT, Int.reduceNeg, Nat.reduceBEq, Nat.reduceMul, Nat.reduceLeDiff, Nat.reduceMod, UInt8.reduceOfNat, Nat.reduceLT, Int.reduceEq, Int.reduceAdd, Int.reduceSub, Int.reduceMul]
    · simp -dsimp -implicitDefEqProofs only [setL_ren, ↓Ev.xStp_eq, ↓Ev.P, Ev.Q, eq_self, forall_eq_or_imp, implies_true, forall_const, forall_eq, ↓reduceIte, reduceIte, Nat.reduceEqDiff, Nat.reduceAdd, reduceCtorEq, Nat.reduceSub, Int.reduceToNat, Int.reduceLE, Int.reduceLT, Int.reduceNeg, Nat.reduceBEq, Nat.reduceMul, Nat.reduceLeDiff, Nat.reduceMod, UInt8.reduceOfNat, Nat.reduceLT, Int.reduceEq, Int.reduceAdd, Int.reduceSub, Int.reduceMul]
      exact ⟨0, by omega, by omega, fun j hj => by omega, rfl⟩
    · rintro k st ⟨i, hi, hk2, hj, rfl⟩
      by_cases hil : i < s.length
      · have hi3 : (i : Int) < s.length := by omega
        have hu : (0 : Int) ≤ ((s.getD i 0).toNat : Int) ∧ ((s.getD i 0).toNat : Int) < 256 := ⟨by omega, by have := (s.getD i 0).toNat_lt; omega⟩
        cases hb : blk (s.getD i 0) with
        | true =>
          rw [idxB_at hil hb hj] at hk
          simp -dsimp -implicitDefEqProofs only [hi3, CCon, setL_ren, setL_ids, blk_int, hb, hu, ↓Ev.xStp_eq, ↓Ev.P, Ev.Q, eq_self, forall_eq_or_imp, implies_true, forall_const, forall_eq, ↓reduceIte, reduceIte, Nat.reduceEqDiff, Nat.reduceAdd, reduceCtorEq, Nat.reduceSub, Int.reduceToNat, Int.reduceLE, Int.reduceLT, Int.reduceNeg, Nat.reduceBEq, Nat.reduceMul, Nat.reduceLeDiff, Nat.reduceMod, UInt8.reduceOfNat, Nat.reduceLT, Int.reduceEq, Int.reduceAdd, Int.reduceSub, Int.reduceMul]
          repeat' (first | with_reducible assumption | refine And.intro ?_ ?_ | intro _)
          all_goals first | omega | exact hk | skip
        | false =>
          simp -dsimp -implicitDefEqProofs only [hi3, CCon, setL_ren, setL_ids, blk_int, hb, hu, ↓Ev.xStp_eq, ↓Ev.P, Ev.Q, eq_self, forall_eq_or_imp, implies_true, forall_const, forall_eq, ↓reduceIte, reduceIte, Nat.reduceEqDiff, Nat.reduceAdd, reduceCtorEq, Nat.reduceSub, Int.reduceToNat, Int.reduceLE, Int.reduceLT, Int.reduceNeg, Nat.reduceBEq, Nat.reduceMul, Nat.reduceLeDiff, Nat.reduceMod, UInt8.reduceOfNat, Nat.reduceLT, Int.reduceEq, Int.reduceAdd, Int.reduceSub, Int.reduceMul]
          repeat' (first | with_reducible assumption | refine And.intro ?_ ?_ | intro _)
          all_goals try omega
          refine xAgain_intro (s.length - (i + 1)) [0] (by omega) (by simp -dsimp -implicitDefEqProofs only [↓Ev.xStp_eq, ↓Ev.P, Ev.Q, eq_self, forall_eq_or_imp, implies_true, forall_const, forall_eq, ↓reduceIte, reduceIte, Nat.reduceEqDiff, Nat.reduceAdd, reduceCtorEq, Nat.reduceSub, Int.reduceToNat, Int.reduceLE, Int.reduceLT, Int.reduceNeg, Nat.reduceBEq, Nat.reduceMul, Nat.reduceLeDiff, Nat.reduceMod, UInt8.reduceOfNat, Nat.reduceLT, Int.reduceEq, Int.reduceAdd, Int.reduceSub, Int.reduceMul]) ⟨i + 1, by omega, rfl, fun j hj2 => ?_, ?_⟩
          · by_cases e : j = i
            · rw [e]; exact hb
            · exact hj j (by omega)
          · simp -dsimp -implicitDefEqProofs only [setL_ren, ↓Ev.xStp_eq, ↓Ev.P, Ev.Q, eq_self, forall_eq_or_imp, implies_true, forall_const, forall_eq, ↓reduceIte, reduceIte, Nat.reduceEqDiff, Nat.reduceAdd, reduceCtorEq, Nat.reduceSub, Int.reduceToNat, Int.reduceLE, Int.reduceLT, Int.reduceNeg, Nat.reduceBEq, Nat.reduceMul, Nat.reduceLeDiff, Nat.reduceMod, UInt8.reduceOfNat, Nat.reduceLT, Int.reduceEq, Int.reduceAdd, Int.reduceSub, Int.reduceMul]
            rfl
      · have hi3 : ¬ (i : Int) < s.length := by omega
        rw [idxB_no fun j hj2 => hj j (by omega)] at hk
        simp -dsimp -implicitDefEqProofs only [hi3, ↓Ev.xStp_eq, ↓Ev.P, Ev.Q, eq_self, forall_eq_or_imp, implies_true, forall_const, forall_eq, ↓reduceIte, reduceIte, Nat.reduceEqDiff, Nat.reduceAdd, reduceCtorEq, Nat.reduceSub, Int.reduceToNat, Int.reduceLE, Int.reduceLT, Int.reduceNeg, Nat.reduceBEq, Nat.reduceMul, Nat.reduceLeDiff, Nat.reduceMod, UInt8.reduceOfNat, Nat.reduceLT, Int.reduceEq, Int.reduceAdd, Int.reduceSub, Int.reduceMul]
        exact hk
  · simp -dsimp -implicitDefEqProofs only [S52, R52, CMk, CCon, CIdxR, empty2, e1, e2, h8, setL_ren, setL_ids, setL_len, ↓Ev.xStp_eq, ↓Ev.P, Ev.Q, eq_self, forall_eq_or_imp, implies_true, forall_const, forall_eq, ↓reduceIte, reduceIte, Nat.reduceEqDiff, Nat.reduceAdd, reduceCtorEq, Nat.reduceSub, Int.reduceToNat, Int.reduceLE, Int.reduceLT, Int.reduceNeg, Nat.reduceBEq, Nat.reduceMul, Nat.reduceLeDiff, Nat.reduceMod, UInt8.reduceOfNat, Nat.reduceLT, Int.reduceEq, Int.reduceAdd, Int.reduceSub, Int.reduceMul]
    refine xLoop_intro (fun k st => ∃ i : Nat, i ≤ s.length ∧ k = s.length - i ∧ (∀ j, j < i → blk (s.getD j 0) = false) ∧
      st = ⟨[(1, .d (.v (.string ⟨#[32, 9]⟩))), (45, .own 0)], 1, [(0, .iter ⟨s.toArray⟩ i)]⟩) s.length [0] ?_ ?_ ?_
    · simp -dsimp -implicitDefEqProofs only [↓Ev.xStp_eq, ↓Ev.P, Ev.Q, eq_self, forall_eq_or_imp, implies_true, forall_const, forall_eq, ↓reduceIte, reduceIte, Nat.reduceEqDiff, Nat.reduceAdd, reduceCtorEq, Nat.reduceSub, Int.reduceToNat, Int.reduceLE, Int.reduceLT, Int.reduceNeg, Nat.reduceBEq, Nat.reduceMul, Nat.reduceLeDiff, Nat.reduceMod, UInt8.reduceOfNat, Nat.reduceLT, Int.reduceEq, Int.reduceAdd, Int.reduceSub, Int.reduceMul]
    · simp -dsimp -implicitDefEqProofs only [↓Ev.xStp_eq, ↓Ev.P, Ev.Q, eq_self, forall_eq_or_imp, implies_true, forall_const, forall_eq, ↓reduceIte, reduceIte, Nat.reduceEqDiff, Nat.reduceAdd, reduceCtorEq, Nat.reduceSub, Int.reduceToNat, Int.reduceLE, Int.reduceLT, Int.reduceNeg, Nat.reduceBEq, Nat.reduceMul, Nat.reduceLeDiff, Nat.reduceMod, UInt8.reduceOfNat, Nat.reduceLT, Int.reduceEq, Int.reduceAdd, Int.reduceSub, Int.reduceMul]
      exact ⟨0, by omega, by omega, fun j hj => by omega, rfl⟩
    · rintro k st ⟨i, hi, hk2, hj, rfl⟩
      by_cases hil : i < s.length
      · obtain ⟨b1, b2, b3⟩ := dec_blk s i hil
        obtain ⟨c1, c2, c3⟩ := dec_skip s i hil
        have b0 : (0 : Int) ≤ ((Utf8.decode ⟨s.toArray⟩ i).1 : Int) := by omega
        cases hb : blk (s.getD i 0) with
        | true =>
          rw [idxB_at hil hb hj] at hk
          have b2 := b2 hb
          simp -dsimp -implicitDefEqProofs only [hil, CIdxR, b0, b1, b2, ↓Ev.xStp_eq, ↓Ev.P, Ev.Q, eq_self, forall_eq_or_imp, implies_true, forall_const, forall_eq, ↓reduceIte, reduceIte, Nat.reduceEqDiff, Nat.reduceAdd, reduceCtorEq, Nat.reduceSub, Int.reduceToNat, Int.reduceLE, Int.reduceLT, Int.reduceNeg, Nat.reduceBEq, Nat.reduceMul, Nat.reduceLeDiff, Nat.reduceMod, UInt8.reduceOfNat, Nat.reduceLT, Int.reduceEq, Int.reduceAdd, Int.reduceSub, Int.reduceMul]
          repeat' (first | with_reducible assumption | refine And.intro ?_ ?_ | intro _)
          all_goals first | omega | exact hk | skip
        | false =>
          have b3 := b3 hb
          simp -dsimp -implicitDefEqProofs only [hil, CIdxR, b0, b1, b3, ↓Ev.xStp_eq, ↓Ev.P, Ev.Q, eq_self, forall_eq_or_imp, implies_true, forall_const, forall_eq, ↓reduceIte, reduceIte, Nat.reduceEqDiff, Nat.reduceAdd, reduceCtorEq, Nat.reduceSub, Int.reduceToNat, Int.reduceLE, Int.reduceLT, Int.reduceNeg, Nat.reduceBEq, Nat.reduceMul, Nat.reduceLeDiff, Nat.reduceMod, UInt8.reduceOfNat, Nat.reduceLT, Int.reduceEq, Int.reduceAdd, Int.reduceSub, Int.reduceMul]
          repeat' (first | with_reducible assumption | refine And.intro ?_ ?_ | intro _)
          all_goals try omega
          refine xAgain_intro (s.length - (i + (Utf8.decode ⟨s.toArray⟩ i).2)) [0] (by omega) (by simp -dsimp -implicitDefEqProofs only [↓Ev.xStp_eq, ↓Ev.P, Ev.Q, eq_self, forall_eq_or_imp, implies_true, forall_const, forall_eq, ↓reduceIte, reduceIte, Nat.reduceEqDiff, Nat.reduceAdd, reduceCtorEq, Nat.reduceSub, Int.reduceToNat, Int.reduceLE, Int.reduceLT, Int.reduceNeg, Nat.reduceBEq, Nat.reduceMul, Nat.reduceLeDiff, Nat.reduceMod, UInt8.reduceOfNat, Nat.reduceLT, Int.reduceEq, Int.reduceAdd, Int.reduceSub, Int.reduceMul]) ⟨i + (Utf8.decode ⟨s.toArray⟩ i).2, by omega, rfl, fun j hj2 => ?_, ?_⟩
          · by_cases e : j < i
            · exact hj j e
            · by_cases e2 : j = i
              · rw [e2]; exact hb
              · have := c3 (j - i) (by omega) (by omega)
                rw [show i + (j - i) = j by omega] at this
                exact blk_high this
          · simp -dsimp -implicitDefEqProofs only [↓Ev.xStp_eq, ↓Ev.P, Ev.Q, eq_self, forall_eq_or_imp, implies_true, forall_const, forall_eq, ↓reduceIte, reduceIte, Nat.reduceEqDiff, Nat.reduceAdd, reduceCtorEq, Nat.reduceSub, Int.reduceToNat, Int.reduceLE, Int.reduceLT, Int.reduceNeg, Nat.reduceBEq, Nat.reduceMul, Nat.reduceLeDiff, Nat.reduceMod, UInt8.reduceOfNat, Nat.reduceLT, Int.reduceEq, Int.reduceAdd, Int.reduceSub, Int.reduceMul]
      · rw [idxB_no fun j hj2 => hj j (by omega)] at hk
        simp -dsimp -implicitDefEqProofs only [hil, ↓Ev.xStp_eq, ↓Ev.P, Ev.Q, eq_self, forall_eq_or_imp, implies_true, forall_const, forall_eq, ↓reduceIte, reduceIte, Nat.reduceEqDiff, Nat.reduceAdd, reduceCtorEq, Nat.reduceSub, Int.reduceToNat, Int.reduceLE, Int.reduceLT, Int.reduceNeg, Nat.reduceBEq, Nat.reduceMul, Nat.reduceLeDiff, Nat.reduceMod, UInt8.reduceOfNat, Nat.reduceLT, Int.reduceEq, Int.reduceAdd, Int.reduceSub, Int.reduceMul]
        exact hk
end Go.Proofs.YtpbkdcfjlbdgfaaDoor
set_option linter.unusedVariables false
set_option linter.unusedSimpArgs false
namespace Go.Proofs.YtpbkdcfjlbdgfaaDoor
open Go Go.Ev
set_option maxRecDepth 100000
variable {G : World → Prop}
theorem s40 : Sound G Tryd.prog 40 C40 := by
  refine sd40 (T := tabT [(91, C134), (89, C89), (92, C92)]) (tab_cons s91 (tab_cons s89 (tab_cons s92 tab_nil))) (pureC_lawful _) (pure_hX fun args p x K h hp hk => ?_)
  split at h <;> simp only [Option.some.injEq, Prod.mk.injEq, reduceCtorEq] at h
  obtain ⟨rfl, rfl⟩ := h
  refine ⟨Nat.le_of_ble_eq_true rfl, ?_⟩
  rename_i s
  obtain ⟨l, rfl⟩ := ex_str s
  simp only [sem_str] at hk hp
  have hpre := pre34 l
  have bad : unqL l = none → K (.ret (.tup [.d (.v (.string ⟨#[]⟩)), .d (.v (.string ⟨#[]⟩)), .d (.v (.int .i64 3))])) ⟨0, []⟩ := fun e => by rw [e] at hk; exact hk
  match l, hpre with
  | [], hpre =>
    simp -dsimp -implicitDefEqProofs only [S40, R40, C134, C89, C92, hpre, ↓Ev.xStp_eq, ↓Ev.P, Ev.Q, eq_self, forall_eq_or_imp, implies_true, forall_const, forall_eq, ↓reduceIte, reduceIte, Nat.reduceEqDiff, Nat.reduceAdd, reduceCtorEq, Nat.reduceSub, Int.reduceToNat, Int.reduceLE, Int.reduceLT, Int.reduceNeg, Nat.reduceBEq, Nat.reduceMul, Nat.reduceLeDiff, Nat.reduceMod, UInt8.reduceOfNat, Nat.reduceLT, Int.reduceEq, Int.reduceAdd, Int.reduceSub, Int.reduceMul]
    exact bad rfl
  | c :: r, hpre =>
    by_cases hc : c = 34
    case neg =>
      have hpre : hasPre ⟨(c :: r).toArray⟩ ⟨[34].toArray⟩ = false := by rw [hpre]; simp [hc]
      simp -dsimp -implicitDefEqProofs only [S40, R40, C134, C89, C92, hpre, ↓Ev.xStp_eq, ↓Ev.P, Ev.Q, eq_self, forall_eq_or_imp, implies_true, forall_const, forall_eq, ↓reduceIte, reduceIte, Nat.reduceEqDiff, Nat.reduceAdd, reduceCtorEq, Nat.reduceSub, Int.reduceToNat, Int.reduceLE, Int.reduceLT, Int.reduceNeg, Nat.reduceBEq, Nat.reduceMul, Nat.reduceLeDiff, Nat.reduceMod, UInt8.reduceOfNat, Nat.reduceLT, Int.reduceEq, Int.reduceAdd, Int.reduceSub, Int.reduceMul]
      refine bad ?_
      unfold unqL
      split
      · simp_all
      · rfl
    subst hc
    have hpre : hasPre ⟨((34 : UInt8) :: r).toArray⟩ ⟨[34].toArray⟩ = true := by rw [hpre]; simp
    simp -dsimp -implicitDefEqProofs only [S40, R40, C134, C89, C92, hpre, ↓Ev.xStp_eq, ↓Ev.P, Ev.Q, eq_self, forall_eq_or_imp, implies_true, forall_const, forall_eq, ↓reduceIte, reduceIte, Nat.reduceEqDiff, Nat.reduceAdd, reduceCtorEq, Nat.reduceSub, Int.reduceToNat, Int.reduceLE, Int.reduceLT, Int.reduceNeg, Nat.reduceBEq, Nat.reduceMul, Nat.reduceLeDiff, Nat.reduceMod, UInt8.reduceOfNat, Nat.reduceLT, Int.reduceEq, Int.reduceAdd, Int.reduceSub, Int.reduceMul]
    have good : ∀ o m, unq r [] = some (o, m) → K (.ret (.tup [.d (.v (.string ⟨o.toArray⟩)), .d (.v (.string ⟨m.toArray⟩)), .d (.v (.int .i64 0))])) ⟨0, []⟩ := fun o m e => by
      rw [unqL, e] at hk; exact hk
    have hr : r.length ≤ 1099511627776 := by simp only [List.length_cons] at hp; omega
    refine xLoop_intro (fun n st => ∃ (l out : List UInt8), n = l.length ∧ l.length + out.length ≤ r.length ∧ unq l out = unq r [] ∧
      st = ⟨[(5, .d (.v (.string ⟨l.toArray⟩))), (7, .own 0)], 1, [(0, .row 5 1 (byteRows out))]⟩) r.length [0] ?_ ?_ ?_
    · simp -dsimp -implicitDefEqProofs only [↓Ev.xStp_eq, ↓Ev.P, Ev.Q, eq_self, forall_eq_or_imp, implies_true, forall_const, forall_eq, ↓reduceIte, reduceIte, Nat.reduceEqDiff, Nat.reduceAdd, reduceCtorEq, Nat.reduceSub, Int.reduceToNat, Int.reduceLE, Int.reduceLT, Int.reduceNeg, Nat.reduceBEq, Nat.reduceMul, Nat.reduceLeDiff, Nat.reduceMod, UInt8.reduceOfNat, Nat.reduceLT, Int.reduceEq, Int.reduceAdd, Int.reduceSub, Int.reduceMul]
    · simp -dsimp -implicitDefEqProofs only [↓Ev.xStp_eq, ↓Ev.P, Ev.Q, eq_self, forall_eq_or_imp, implies_true, forall_const, forall_eq, ↓reduceIte, reduceIte, Nat.reduceEqDiff, Nat.reduceAdd, reduceCtorEq, Nat.reduceSub, Int.reduceToNat, Int.reduceLE, Int.reduceLT, Int.reduceNeg, Nat.reduceBEq, Nat.reduceMul, Nat.reduceLeDiff, Nat.reduceMod, UInt8.reduceOfNat, Nat.reduceLT, Int.reduceEq, Int.reduceAdd, Int.reduceSub, Int.reduceMul]
      exact ⟨r, [], rfl, by simp, rfl, rfl⟩
    · rintro n st ⟨l, out, hn, hlen, hu, rfl⟩
      cases l with
      | nil =>
        have hb := bad (by rw [unqL, ← hu, unq])
        simp -dsimp -implicitDefEqProofs only [↓Ev.xStp_eq, ↓Ev.P, Ev.Q, eq_self, forall_eq_or_imp, implies_true, forall_const, forall_eq, ↓reduceIte, reduceIte, Nat.reduceEqDiff, Nat.reduceAdd, reduceCtorEq, Nat.reduceSub, Int.reduceToNat, Int.reduceLE, Int.reduceLT, Int.reduceNeg, Nat.reduceBEq, Nat.reduceMul, Nat.reduceLeDiff, Nat.reduceMod, UInt8.reduceOfNat, Nat.reduceLT, Int.reduceEq, Int.reduceAdd, Int.reduceSub, Int.reduceMul]
        exact hb
      | cons d m =>
        have h34' : ((d.toNat : Int) = 34) ↔ d = 34 := u8_eq d 34 (by omega)
        have h92' : ((d.toNat : Int) = 92) ↔ d = 92 := u8_eq d 92 (by omega)
        simp only [List.length_cons] at hlen hn
        simp -dsimp -implicitDefEqProofs only [↓Ev.xStp_eq, ↓Ev.P, Ev.Q, eq_self, forall_eq_or_imp, implies_true, forall_const, forall_eq, ↓reduceIte, reduceIte, Nat.reduceEqDiff, Nat.reduceAdd, reduceCtorEq, Nat.reduceSub, Int.reduceToNat, Int.reduceLE, Int.reduceLT, Int.reduceNeg, Nat.reduceBEq, Nat.reduceMul, Nat.reduceLeDiff, Nat.reduceMod, UInt8.reduceOfNat, Nat.reduceLT, Int.reduceEq, Int.reduceAdd, Int.reduceSub, Int.reduceMul]
        repeat' (first | refine And.intro ?_ ?_ | intro _)
        all_goals try omega
        · rename_i h
          exact good _ _ (by rw [← hu, h34'.1 h, unq_end])
        · rename_i h hp
          refine xAgain_intro m.length [2] (by omega) (by simp -dsimp -implicitDefEqProofs only [↓Ev.xStp_eq, ↓Ev.P, Ev.Q, eq_self, forall_eq_or_imp, implies_true, forall_const, forall_eq, ↓reduceIte, reduceIte, Nat.reduceEqDiff, Nat.reduceAdd, reduceCtorEq, Nat.reduceSub, Int.reduceToNat, Int.reduceLE, Int.reduceLT, Int.reduceNeg, Nat.reduceBEq, Nat.reduceMul, Nat.reduceLeDiff, Nat.reduceMod, UInt8.reduceOfNat, Nat.reduceLT, Int.reduceEq, Int.reduceAdd, Int.reduceSub, Int.reduceMul]) ⟨m, out ++ [d], rfl, by simp; omega, by rw [← hu, unq_plain _ _ (fun e => h (h34'.2 e)) hp], ?_⟩
          simp -dsimp -implicitDefEqProofs only [↓Ev.xStp_eq, ↓Ev.P, Ev.Q, eq_self, forall_eq_or_imp, implies_true, forall_const, forall_eq, ↓reduceIte, reduceIte, Nat.reduceEqDiff, Nat.reduceAdd, reduceCtorEq, Nat.reduceSub, Int.reduceToNat, Int.reduceLE, Int.reduceLT, Int.reduceNeg, Nat.reduceBEq, Nat.reduceMul, Nat.reduceLeDiff, Nat.reduceMod, UInt8.reduceOfNat, Nat.reduceLT, Int.reduceEq, Int.reduceAdd, Int.reduceSub, Int.reduceMul]
          simp [byteRows]
        · rename_i h hp hb
          refine bad ?_
          rw [unqL, ← hu]
          refine unq_bad _ _ (fun e => h (h34'.2 e)) hp fun e => ?_
          rcases hb with hb | hb
          · exact absurd (h92'.2 e) hb
          · exact hb
        all_goals
          rename_i h hp hb
          obtain ⟨h1, h2⟩ := hb
          have := h92'.1 h1
          subst this
          obtain ⟨k1, k2, k3⟩ := unq_oct m out h2
        · omega
        · refine xAgain_intro (m.drop 2).length [2] (by simp; omega) (by simp -dsimp -implicitDefEqProofs only [↓Ev.xStp_eq, ↓Ev.P, Ev.Q, eq_self, forall_eq_or_imp, implies_true, forall_const, forall_eq, ↓reduceIte, reduceIte, Nat.reduceEqDiff, Nat.reduceAdd, reduceCtorEq, Nat.reduceSub, Int.reduceToNat, Int.reduceLE, Int.reduceLT, Int.reduceNeg, Nat.reduceBEq, Nat.reduceMul, Nat.reduceLeDiff, Nat.reduceMod, UInt8.reduceOfNat, Nat.reduceLT, Int.reduceEq, Int.reduceAdd, Int.reduceSub, Int.reduceMul]) ⟨m.drop 2, _, rfl, ?_, by rw [← hu, k2], ?_⟩
          · simp; omega
          · simp -dsimp -implicitDefEqProofs only [↓Ev.xStp_eq, ↓Ev.P, Ev.Q, eq_self, forall_eq_or_imp, implies_true, forall_const, forall_eq, ↓reduceIte, reduceIte, Nat.reduceEqDiff, Nat.reduceAdd, reduceCtorEq, Nat.reduceSub, Int.reduceToNat, Int.reduceLE, Int.reduceLT, Int.reduceNeg, Nat.reduceBEq, Nat.reduceMul, Nat.reduceLeDiff, Nat.reduceMod, UInt8.reduceOfNat, Nat.reduceLT, Int.reduceEq, Int.reduceAdd, Int.reduceSub, Int.reduceMul]
            simp only [byteRows, List.map_append, List.map_cons, List.map_nil, k3]
end Go.Proofs.YtpbkdcfjlbdgfaaDoor
set_option linter.unusedVariables false
set_option linter.unusedSimpArgs false
namespace Go.Proofs.YtpbkdcfjlbdgfaaDoor
open Go Go.Ev
set_option maxRecDepth 100000
variable {G : World → Prop}
theorem idx_hit : ∀ (l : List UInt8) (i : Nat) (d : UInt8), i < l.length → (∀ j, j < i → l.getD j 0 ≠ d) → l.getD i 0 = d → Lib.indexByte l d = i
  | [], i, d, h, _, _ => by simp at h
  | b :: l, 0, d, h, h1, h2 => by simp at h2; simp [Lib.indexByte, h2]
  | b :: l, i + 1, d, h, h1, h2 => by
    have h3 := h1 0 (by omega)
    simp only [List.getD_cons_zero] at h3
    have h4 := idx_hit l i d (by simpa using h) (fun j hj => by have := h1 (j + 1) (by omega); simpa using this) (by simpa using h2)
    simp only [Lib.indexByte, h4]
    simp [h3]
theorem idx_miss : ∀ (l : List UInt8) (d : UInt8), (∀ j, j < l.length → l.getD j 0 ≠ d) → Lib.indexByte l d = -1
  | [], d, _ => rfl
  | b :: l, d, h => by
    have h3 := h 0 (by simp)
    simp only [List.getD_cons_zero] at h3
    have h4 := idx_miss l d fun j hj => by have := h (j + 1) (by simp; omega); simpa using this
    simp only [Lib.indexByte, h4]
    simp [h3]
theorem u8_inj (a b : UInt8) : ((a.toNat : Int) = b.toNat) ↔ a = b := by
  constructor
  · intro h; exact UInt8.toNat_inj.1 (by omega)
  · rintro rfl; rfl
abbrev hexs : List UInt8 := [48, 49, 50, 51, 52, 53, 54, 55, 56, 57, 97, 98, 99, 100, 101, 102]
def C105 : Contract := pureC fun args => match args with
  | [.d (.v (.int .u8 c))] => some (∃ d : UInt8, c = d.toNat, .d (.v (.int .i64 (hx c.toNat.toUInt8))))
  | _ => none
theorem s105 : Sound G Tryd.prog 105 C105 := by
  refine sd105 (T := tabT []) tab_nil (pureC_lawful _) (pure_hX fun args p x K h hp hk => ?_)
  split at h <;> simp only [Option.some.injEq, Prod.mk.injEq, reduceCtorEq] at h
  rename_i c
  obtain ⟨rfl, rfl⟩ := h
  obtain ⟨d, rfl⟩ := hp
  simp only [Int.toNat_natCast, u8rt] at hk
  refine ⟨Nat.le_of_ble_eq_true rfl, ?_⟩
  simp -dsimp -implicitDefEqProofs only [S105, R105, ↓Ev.xStp_eq, ↓Ev.P, Ev.Q, eq_self, forall_eq_or_imp, implies_true, forall_const, forall_eq, ↓reduceIte, reduceIte, Nat.reduceEqDiff, Nat.reduceAdd, reduceCtorEq, Nat.reduceSub, Int.reduceToNat, Int.reduceLE, Int.reduceLT, Int.reduceNeg, Nat.reduceBEq, Nat.reduceMul, Nat.reduceLeDiff, Nat.reduceMod, UInt8.reduceOfNat, Nat.reduceLT, Int.reduceEq, Int.reduceAdd, Int.reduceSub, Int.reduceMul]
  refine xLoop_intro (fun n st => ∃ i : Nat, i ≤ 16 ∧ n = 16 - i ∧ st = ⟨[(0, .d (.v (.int .u8 d.toNat))), (3, .d (.v (.int .i64 i)))], 0, []⟩ ∧ ∀ j < i, hexs.getD j 0 ≠ d) 16 [] ?_ ?_ ?_
  · simp -dsimp -implicitDefEqProofs only [↓Ev.xStp_eq, ↓Ev.P, Ev.Q, eq_self, forall_eq_or_imp, implies_true, forall_const, forall_eq, ↓reduceIte, reduceIte, Nat.reduceEqDiff, Nat.reduceAdd, reduceCtorEq, Nat.reduceSub, Int.reduceToNat, Int.reduceLE, Int.reduceLT, Int.reduceNeg, Nat.reduceBEq, Nat.reduceMul, Nat.reduceLeDiff, Nat.reduceMod, UInt8.reduceOfNat, Nat.reduceLT, Int.reduceEq, Int.reduceAdd, Int.reduceSub, Int.reduceMul]
  · simp -dsimp -implicitDefEqProofs only [↓Ev.xStp_eq, ↓Ev.P, Ev.Q, eq_self, forall_eq_or_imp, implies_true, forall_const, forall_eq, ↓reduceIte, reduceIte, Nat.reduceEqDiff, Nat.reduceAdd, reduceCtorEq, Nat.reduceSub, Int.reduceToNat, Int.reduceLE, Int.reduceLT, Int.reduceNeg, Nat.reduceBEq, Nat.reduceMul, Nat.reduceLeDiff, Nat.reduceMod, UInt8.reduceOfNat, Nat.reduceLT, Int.reduceEq, Int.reduceAdd, Int.reduceSub, Int.reduceMul]
    exact ⟨0, by omega, rfl, rfl, fun j h => by omega⟩
  · rintro n st ⟨i, hi, rfl, rfl, hj⟩
    simp -dsimp -implicitDefEqProofs only [↓Ev.xStp_eq, ↓Ev.P, Ev.Q, eq_self, forall_eq_or_imp, implies_true, forall_const, forall_eq, ↓reduceIte, reduceIte, Nat.reduceEqDiff, Nat.reduceAdd, reduceCtorEq, Nat.reduceSub, Int.reduceToNat, Int.reduceLE, Int.reduceLT, Int.reduceNeg, Nat.reduceBEq, Nat.reduceMul, Nat.reduceLeDiff, Nat.reduceMod, UInt8.reduceOfNat, Nat.reduceLT, Int.reduceEq, Int.reduceAdd, Int.reduceSub, Int.reduceMul]
    repeat' (first | refine And.intro ?_ ?_ | intro _)
    all_goals try omega
    · rename_i h1 h2
      have := idx_hit hexs i d (by simp; omega) hj ((u8_inj _ _).1 h2)
      rw [show hx d = i from this] at hk
      exact hk
    · rename_i h1 h2
      refine xAgain_intro (16 - (i + 1)) [] (by omega) (by simp -dsimp -implicitDefEqProofs only [↓Ev.xStp_eq, ↓Ev.P, Ev.Q, eq_self, forall_eq_or_imp, implies_true, forall_const, forall_eq, ↓reduceIte, reduceIte, Nat.reduceEqDiff, Nat.reduceAdd, reduceCtorEq, Nat.reduceSub, Int.reduceToNat, Int.reduceLE, Int.reduceLT, Int.reduceNeg, Nat.reduceBEq, Nat.reduceMul, Nat.reduceLeDiff, Nat.reduceMod, UInt8.reduceOfNat, Nat.reduceLT, Int.reduceEq, Int.reduceAdd, Int.reduceSub, Int.reduceMul]) ⟨i + 1, by omega, rfl, ?_, ?_⟩
      · simp -dsimp -implicitDefEqProofs only [↓Ev.xStp_eq, ↓Ev.P, Ev.Q, eq_self, forall_eq_or_imp, implies_true, forall_const, forall_eq, ↓reduceIte, reduceIte, Nat.reduceEqDiff, Nat.reduceAdd, reduceCtorEq, Nat.reduceSub, Int.reduceToNat, Int.reduceLE, Int.reduceLT, Int.reduceNeg, Nat.reduceBEq, Nat.reduceMul, Nat.reduceLeDiff, Nat.reduceMod, UInt8.reduceOfNat, Nat.reduceLT, Int.reduceEq, Int.reduceAdd, Int.reduceSub, Int.reduceMul]
        rfl
      · intro j hj2
        by_cases e : j = i
        · subst e; exact fun e => h2 ((u8_inj _ _).2 e)
        · exact hj j (by omega)
    · rename_i h1
      have := idx_miss hexs d fun j hj2 => hj j (by simp at hj2; omega)
      rw [show hx d = -1 from this] at hk
      exact hk
end Go.Proofs.YtpbkdcfjlbdgfaaDoor
set_option linter.unusedVariables false
set_option linter.unusedSimpArgs false
namespace Go.Proofs.YtpbkdcfjlbdgfaaDoor
open Go Go.Ev
set_option maxRecDepth 100000
variable {G : World → Prop}
theorem hx_b (c : UInt8) : -1 ≤ hx c ∧ hx c < 16 := by
  refine ⟨Lib.indexByte_ge _ _, ?_⟩
  unfold hx
  have : ∀ l : List UInt8, Lib.indexByte l c < l.length := by
    intro l
    induction l with
    | nil => simp [Lib.indexByte]
    | cons b l ih =>
      simp only [Lib.indexByte, List.length_cons]
      have := Lib.indexByte_ge l c
      split
      · omega
      · split <;> omega
  exact this _
theorem oct_tab : ∀ a b : Fin 16, IntKind.u8.wrap (IntKind.i64.wrap ((BitVec.ofInt IntKind.i64.bits (IntKind.i64.wrap ((a.val : Int) * 2 ^ min 4 IntKind.i64.bits)) ||| BitVec.ofInt IntKind.i64.bits (b.val : Int)).toNat)) = IntKind.u8.wrap (16 * (a.val : Int) + (b.val : Int)) := by decide +kernel
theorem octV_eq (a b : UInt8) (ha : 0 ≤ hx a) (hb : 0 ≤ hx b) : octV a b = IntKind.u8.wrap (16 * hx a + hx b) := by
  have h1 := hx_b a
  have h2 := hx_b b
  have := oct_tab ⟨(hx a).toNat, by omega⟩ ⟨(hx b).toNat, by omega⟩
  have e1 : (((hx a).toNat : Nat) : Int) = hx a := by omega
  have e2 : (((hx b).toNat : Nat) : Int) = hx b := by omega
  simp only [e1, e2] at this
  exact this
theorem drop_cons (q : List UInt8) (i : Nat) (h : i < q.length) : q.drop i = q.getD i 0 :: q.drop (i + 1) := by
  rw [List.drop_eq_getElem_cons h]
  simp [List.getD_eq_getElem?_getD, List.getElem?_eq_getElem h]
/-- The value of two digits, as the reference reckons it. -/
def octR (a b : UInt8) : Int := IntKind.u8.wrap (16 * hx a + hx b)
theorem octR_eq (a b : UInt8) (ha : 0 ≤ hx a) (hb : 0 ≤ hx b) : octR a b = octV a b := (octV_eq a b ha hb).symm
def okR (q : List UInt8) (i : Nat) : Prop := ((((((q.getD i 0).toNat : Nat) : Int) = 92 ∧ (i : Int) + 2 < (q.length : Int)) ∧ 0 ≤ hx (q.getD (i + 1) 0)) ∧ 0 ≤ hx (q.getD (i + 2) 0)) ∧ plainB (octR (q.getD (i + 1) 0) (q.getD (i + 2) 0)) = false
section
variable {q out : List UInt8} {i : Nat} (hi : (i : Int) < (q.length : Int))
include hi
theorem at_end (hu : unq (q.drop i) out = unqL q) (h : ((q.getD i 0).toNat : Int) = 34) : unqL q = some (out, q.drop (i + 1)) := by
  rw [← hu, drop_cons q i (by omega), (u8_eq _ 34 (by omega)).1 h]
  exact unq_end _ _
theorem at_plain (hu : unq (q.drop i) out = unqL q) (h : ¬ ((q.getD i 0).toNat : Int) = 34) (hp : plainB (q.getD i 0).toNat = true) : unq (q.drop (i + 1)) (out ++ [q.getD i 0]) = unqL q := by
  rw [← hu, drop_cons q i (by omega), unq_plain _ _ (fun e => h ((u8_eq _ 34 (by omega)).2 e)) hp]
theorem oct2_at : oct2 (q.drop (i + 1)) = if (i : Int) + 2 < (q.length : Int) then (octV (q.getD (i + 1) 0) (q.getD (i + 2) 0), okO (q.getD (i + 1) 0) (q.getD (i + 2) 0)) else (0, false) := by
  by_cases h : (i : Int) + 2 < (q.length : Int)
  · rw [if_pos h, drop_cons q (i + 1) (by omega), drop_cons q (i + 1 + 1) (by omega)]
    rfl
  · rw [if_neg h]
    have : (q.drop (i + 1)).length ≤ 1 := by simp; omega
    match q.drop (i + 1), this with
    | [], _ => rfl
    | [_], _ => rfl
    | _ :: _ :: _, h => simp at h
theorem at_oct (hu : unq (q.drop i) out = unqL q) (h : ¬ ((q.getD i 0).toNat : Int) = 34) (hp : plainB (q.getD i 0).toNat = false) (hk : okR q i) :
    unq (q.drop (i + 3)) (out ++ [UInt8.ofNat (octR (q.getD (i + 1) 0) (q.getD (i + 2) 0)).toNat]) = unqL q ∧ ((UInt8.ofNat (octR (q.getD (i + 1) 0) (q.getD (i + 2) 0)).toNat).toNat : Int) = octR (q.getD (i + 1) 0) (q.getD (i + 2) 0) := by
  obtain ⟨⟨⟨⟨h1, h2⟩, h3⟩, h4⟩, h5⟩ := hk
  have ho := oct2_at hi
  rw [if_pos h2] at ho
  have he := octR_eq _ _ h3 h4
  have hok : (oct2 (q.drop (i + 1))).2 = true := by
    rw [ho]
    simp only [okO, Bool.and_eq_true, decide_eq_true_eq, Bool.not_eq_true']
    exact ⟨⟨h3, h4⟩, by rw [← he]; exact h5⟩
  obtain ⟨k1, k2, k3⟩ := unq_oct (q.drop (i + 1)) out hok
  rw [ho, List.drop_drop] at k2
  rw [ho] at k3
  rw [he]
  refine ⟨?_, k3⟩
  rw [← hu, drop_cons q i (by omega), (u8_eq _ 92 (by omega)).1 h1]
  exact k2.symm
theorem at_bad (hu : unq (q.drop i) out = unqL q) (h : ¬ ((q.getD i 0).toNat : Int) = 34) (hp : plainB (q.getD i 0).toNat = false) (hk : ¬ okR q i) : unqL q = none := by
  rw [← hu, drop_cons q i (by omega)]
  refine unq_bad _ _ (fun e => h ((u8_eq _ 34 (by omega)).2 e)) hp fun e => ?_
  rw [oct2_at hi]
  split
  · rename_i h2
    cases hc : okO (q.getD (i + 1) 0) (q.getD (i + 2) 0) with
    | false => rfl
    | true =>
      exfalso
      refine hk ?_
      simp only [okO, Bool.and_eq_true, decide_eq_true_eq, Bool.not_eq_true'] at hc
      exact ⟨⟨⟨⟨(u8_eq _ 92 (by omega)).2 e, h2⟩, hc.1.1⟩, hc.1.2⟩, by rw [octR_eq _ _ hc.1.1 hc.1.2]; exact hc.2⟩
  · rfl
end
end Go.Proofs.YtpbkdcfjlbdgfaaDoor
set_option linter.unusedVariables false
set_option linter.unusedSimpArgs false
namespace Go.Proofs.YtpbkdcfjlbdgfaaDoor
open Go Go.Ev
set_option maxRecDepth 100000
variable {G : World → Prop}
set_option maxHeartbeats 2000000 in
theorem s54 : Sound G Tryd.prog 54 C40 := by
  refine sd54 (T := tabT [(104, C89), (105, C105)]) (tab_cons s104 (tab_cons s105 tab_nil)) (pureC_lawful _) (pure_hX fun args p x K h hp hk => ?_)
  split at h <;> simp only [Option.some.injEq, Prod.mk.injEq, reduceCtorEq] at h
  obtain ⟨rfl, rfl⟩ := h
  refine ⟨Nat.le_of_ble_eq_true rfl, ?_⟩
  rename_i s
  obtain ⟨q, rfl⟩ := ex_str s
  simp only [sem_str] at hk hp
  have bad : unqL q = none → K (.ret (.tup [.d (.v (.string ⟨#[]⟩)), .d (.v (.string ⟨#[]⟩)), .d (.v (.int .i64 3))])) ⟨0, []⟩ := fun e => by rw [e] at hk; exact hk
  have good : ∀ o m, unqL q = some (o, m) → K (.ret (.tup [.d (.v (.string ⟨o.toArray⟩)), .d (.v (.string ⟨m.toArray⟩)), .d (.v (.int .i64 0))])) ⟨0, []⟩ := fun o m e => by
    rw [e] at hk; exact hk
  have hq : q.length ≤ 1099511627776 := hp
  simp -dsimp -implicitDefEqProofs only [S54, R54, C89, C105, ↓Ev.xStp_eq, ↓Ev.P, Ev.Q, eq_self, forall_eq_or_imp, implies_true, forall_const, forall_eq, ↓reduceIte, reduceIte, Nat.reduceEqDiff, Nat.reduceAdd, reduceCtorEq, Nat.reduceSub, Int.reduceToNat, Int.reduceLE, Int.reduceLT, Int.reduceNeg, Nat.reduceBEq, Nat.reduceMul, Nat.reduceLeDiff, Nat.reduceMod, UInt8.reduceOfNat, Nat.reduceLT, Int.reduceEq, Int.reduceAdd, Int.reduceSub, Int.reduceMul]
  have q34 : ∀ (i : Nat), ((((q.getD i 0).toNat : Nat) : Int) = 34) ↔ q.getD i 0 = 34 := fun i => u8_eq _ 34 (by omega)
  repeat' (first | refine And.intro ?_ ?_ | intro _)
  all_goals try omega
  · rename_i h
    refine bad ?_
    cases q with
    | nil => rfl
    | cons c r =>
      have : c ≠ 34 := fun e => by
        rcases h with h | h
        · simp only [List.length_cons] at h; omega
        · exact h ((q34 0).2 e)
      unfold unqL; split <;> simp_all
  rename_i h
  have h0 : unqL q = unq (q.drop 1) [] := by
    cases q with
    | nil => exact absurd rfl h.1
    | cons c r =>
      have : c = 34 := by have := (q34 0).1 (by simpa using h.2); simpa using this
      subst this; rfl
  have h1 : 1 ≤ q.length := by omega
  refine xLoop_intro (fun n st => ∃ (i : Nat) (out : List UInt8), n = q.length - i ∧ 1 ≤ i ∧ i ≤ q.length ∧ out.length ≤ i ∧ unq (q.drop i) out = unqL q ∧
      st = ⟨[(0, .d (.v (.string ⟨q.toArray⟩))), (5, .own 0), (6, .d (.v (.int .i64 i)))], 1, [(0, .row 5 1 (byteRows out))]⟩) (q.length - 1) [0] ?_ ?_ ?_
  · simp -dsimp -implicitDefEqProofs only [↓Ev.xStp_eq, ↓Ev.P, Ev.Q, eq_self, forall_eq_or_imp, implies_true, forall_const, forall_eq, ↓reduceIte, reduceIte, Nat.reduceEqDiff, Nat.reduceAdd, reduceCtorEq, Nat.reduceSub, Int.reduceToNat, Int.reduceLE, Int.reduceLT, Int.reduceNeg, Nat.reduceBEq, Nat.reduceMul, Nat.reduceLeDiff, Nat.reduceMod, UInt8.reduceOfNat, Nat.reduceLT, Int.reduceEq, Int.reduceAdd, Int.reduceSub, Int.reduceMul]
  · simp -dsimp -implicitDefEqProofs only [↓Ev.xStp_eq, ↓Ev.P, Ev.Q, eq_self, forall_eq_or_imp, implies_true, forall_const, forall_eq, ↓reduceIte, reduceIte, Nat.reduceEqDiff, Nat.reduceAdd, reduceCtorEq, Nat.reduceSub, Int.reduceToNat, Int.reduceLE, Int.reduceLT, Int.reduceNeg, Nat.reduceBEq, Nat.reduceMul, Nat.reduceLeDiff, Nat.reduceMod, UInt8.reduceOfNat, Nat.reduceLT, Int.reduceEq, Int.reduceAdd, Int.reduceSub, Int.reduceMul]
    exact ⟨1, [], rfl, by omega, h1, by simp, h0.symm, rfl⟩
  · rintro n st ⟨i, out, hn, hi1, hi2, ho, hu, rfl⟩
    have nb : ∀ x : UInt8, ∃ d : UInt8, (x.toNat : Int) = d.toNat := fun x => ⟨x, rfl⟩
    simp -dsimp -implicitDefEqProofs only [↓Ev.P, Ev.Q, eq_self, forall_eq_or_imp, implies_true, forall_const, forall_eq, ↓reduceIte, reduceIte, Nat.reduceEqDiff, Nat.reduceAdd, reduceCtorEq, Nat.reduceSub, Int.reduceToNat, Int.reduceLE, Int.reduceLT, Int.reduceNeg, Nat.reduceBEq, Nat.reduceMul, Nat.reduceLeDiff, Nat.reduceMod, UInt8.reduceOfNat, Nat.reduceLT, Int.reduceEq, Int.reduceAdd, Int.reduceSub, Int.reduceMul]
    have b1 := hx_b (q.getD (i + 1) 0)
    have b2 := hx_b (q.getD (i + 2) 0)
    repeat' (first | exact nb _ | refine And.intro ?_ ?_ | intro _ | (rw [Ev.xStp_eq]; simp -dsimp -implicitDefEqProofs only [↓Ev.P, Ev.Q, eq_self, forall_eq_or_imp, implies_true, forall_const, forall_eq, ↓reduceIte, reduceIte, Nat.reduceEqDiff, Nat.reduceAdd, reduceCtorEq, Nat.reduceSub, Int.reduceToNat, Int.reduceLE, Int.reduceLT, Int.reduceNeg, Nat.reduceBEq, Nat.reduceMul, Nat.reduceLeDiff, Nat.reduceMod, UInt8.reduceOfNat, Nat.reduceLT, Int.reduceEq, Int.reduceAdd, Int.reduceSub, Int.reduceMul]))
    all_goals try omega
    · rename_i hl h
      exact good _ _ (at_end hl hu h)
    · rename_i hl h hp
      refine xAgain_intro (q.length - (i + 1)) [2] (by omega) (by simp -dsimp -implicitDefEqProofs only [↓Ev.xStp_eq, ↓Ev.P, Ev.Q, eq_self, forall_eq_or_imp, implies_true, forall_const, forall_eq, ↓reduceIte, reduceIte, Nat.reduceEqDiff, Nat.reduceAdd, reduceCtorEq, Nat.reduceSub, Int.reduceToNat, Int.reduceLE, Int.reduceLT, Int.reduceNeg, Nat.reduceBEq, Nat.reduceMul, Nat.reduceLeDiff, Nat.reduceMod, UInt8.reduceOfNat, Nat.reduceLT, Int.reduceEq, Int.reduceAdd, Int.reduceSub, Int.reduceMul]) ⟨i + 1, out ++ [q.getD i 0], rfl, by omega, by omega, by simp; omega, at_plain hl hu h hp, ?_⟩
      simp -dsimp -implicitDefEqProofs only [↓Ev.xStp_eq, ↓Ev.P, Ev.Q, eq_self, forall_eq_or_imp, implies_true, forall_const, forall_eq, ↓reduceIte, reduceIte, Nat.reduceEqDiff, Nat.reduceAdd, reduceCtorEq, Nat.reduceSub, Int.reduceToNat, Int.reduceLE, Int.reduceLT, Int.reduceNeg, Nat.reduceBEq, Nat.reduceMul, Nat.reduceLeDiff, Nat.reduceMod, UInt8.reduceOfNat, Nat.reduceLT, Int.reduceEq, Int.reduceAdd, Int.reduceSub, Int.reduceMul]
      simp [byteRows]
    · rename_i hl h hp hk
      obtain ⟨k1, k2⟩ := at_oct hl hu h hp hk
      obtain ⟨⟨⟨⟨_, h2⟩, _⟩, _⟩, _⟩ := hk
      refine xAgain_intro (q.length - (i + 3)) [2] (by omega) (by simp -dsimp -implicitDefEqProofs only [↓Ev.xStp_eq, ↓Ev.P, Ev.Q, eq_self, forall_eq_or_imp, implies_true, forall_const, forall_eq, ↓reduceIte, reduceIte, Nat.reduceEqDiff, Nat.reduceAdd, reduceCtorEq, Nat.reduceSub, Int.reduceToNat, Int.reduceLE, Int.reduceLT, Int.reduceNeg, Nat.reduceBEq, Nat.reduceMul, Nat.reduceLeDiff, Nat.reduceMod, UInt8.reduceOfNat, Nat.reduceLT, Int.reduceEq, Int.reduceAdd, Int.reduceSub, Int.reduceMul]) ⟨i + 3, _, rfl, by omega, by omega, ?_, k1, ?_⟩
      · simp; omega
      · simp -dsimp -implicitDefEqProofs only [↓Ev.xStp_eq, ↓Ev.P, Ev.Q, eq_self, forall_eq_or_imp, implies_true, forall_const, forall_eq, ↓reduceIte, reduceIte, Nat.reduceEqDiff, Nat.reduceAdd, reduceCtorEq, Nat.reduceSub, Int.reduceToNat, Int.reduceLE, Int.reduceLT, Int.reduceNeg, Nat.reduceBEq, Nat.reduceMul, Nat.reduceLeDiff, Nat.reduceMod, UInt8.reduceOfNat, Nat.reduceLT, Int.reduceEq, Int.reduceAdd, Int.reduceSub, Int.reduceMul]
        simp only [byteRows, List.map_append, List.map_cons, List.map_nil, k2]
        simp only [octR]
        rfl
    · rename_i hl h hp hk
      refine bad (at_bad hl hu h hp fun h => ?_)
      obtain ⟨⟨⟨⟨h1, h2⟩, h3⟩, h4⟩, h5⟩ := h
      rcases hk with (((hk | hk) | hk) | hk) | hk
      · exact hk h1
      · exact hk h2
      · exact hk h3
      · exact hk h4
      · rw [octR] at h5; rw [h5] at hk; cases hk
    · refine bad ?_
      rw [← hu, List.drop_of_length_le (by omega), unq]
end Go.Proofs.YtpbkdcfjlbdgfaaDoor
/- The compiled code of functions, by program (gen.py): each theorem says that the loaded program compiles to it. -/
set_option linter.unusedVariables false
namespace Go.Proofs.YtpbkdcfjlbdgfaaDoor
open Go Go.Ev
set_option maxRecDepth 100000

/-! 3: redline/redlinelaw12.NormalPrints -/
def A3 : Ann := ⟨fun r i => if r = 4 ∧ i = 11 then 1 else if r = 4 ∧ i = 16 then 1 else 0, fun _ => none, fun r => if r = 1 then some (false, [0, 1, 2]) else if r = 2 then some (false, [0, 1, 2, 7, 8]) else if r = 3 then some (false, [0, 1, 2, 7, 8, 9, 10]) else if r = 4 then some (false, [1, 2, 7, 8, 9, 10, 11, 12]) else none, fun _ => []⟩
def S3 : SCode :=
  (.seq (.ops [⟨none, (some 6), .mv 6 (.k (Value.bool false)), false⟩])
  (.seq (.seq (.keep [0, 1, 2]) (.ops [⟨none, (some 13), .bs 13 9 1 [], false⟩,
    ⟨none, (some 14), .mv 14 (.s 1), false⟩,
    ⟨none, (some 15), .ap 15 9 1 16 (.s 13) (.s 14), false⟩,
    ⟨none, (some 16), .bs 16 9 1 [], false⟩,
    ⟨none, (some 17), .mv 17 (.s 2), false⟩,
    ⟨none, (some 18), .ap 18 9 1 16 (.s 16) (.s 17), false⟩,
    ⟨none, (some 7), .mv 7 (.s 15), false⟩,
    ⟨none, (some 8), .mv 8 (.s 18), false⟩]))
  (.seq (.seq (.keep [0, 1, 2, 7, 8]) (.ops [⟨none, (some 20), .bs 20 74 4 [], false⟩,
    ⟨none, (some 21), .mv 21 (.s 0), false⟩,
    ⟨none, (some 22), .ap 22 74 4 32 (.s 20) (.s 21), false⟩,
    ⟨none, (some 23), .mv 23 (.s 7), false⟩,
    ⟨none, (some 24), .mv 24 (.s 8), false⟩,
    ⟨none, (some 25), .call (some 25) 13 false [(.s 22), (.s 23), (.s 24)], false⟩,
    ⟨none, (some 19), .mv 19 (.s 25), false⟩,
    ⟨none, (some 26), .ex 26 (.s 19) 0, false⟩,
    ⟨none, (some 27), .ex 27 (.s 19) 1, false⟩,
    ⟨none, (some 9), .mv 9 (.s 26), true⟩,
    ⟨none, (some 10), .mv 10 (.s 27), false⟩]))
  (.seq (.seq (.keep [0, 1, 2, 7, 8, 9, 10]) (.ops [⟨none, (some 29), .mv 29 (.s 0), false⟩,
    ⟨none, (some 30), .mv 30 (.s 1), false⟩,
    ⟨none, (some 31), .mv 31 (.s 2), false⟩,
    ⟨none, (some 32), .call (some 32) 14 false [(.s 29), (.s 30), (.s 31)], false⟩,
    ⟨none, (some 28), .mv 28 (.s 32), false⟩,
    ⟨none, (some 33), .ex 33 (.s 28) 0, false⟩,
    ⟨none, (some 34), .ex 34 (.s 28) 1, false⟩,
    ⟨none, (some 11), .mv 11 (.s 33), false⟩,
    ⟨none, (some 12), .mv 12 (.s 34), false⟩]))
  (.seq (.seq (.keep [1, 2, 7, 8, 9, 10, 11, 12]) (.ops [⟨none, (some 35), .mv 35 (.s 9), false⟩,
    ⟨none, (some 36), .mv 36 (.s 11), false⟩,
    ⟨none, (some 37), .bin 37 .eql (.s 35) (.s 36), false⟩,
    ⟨none, (some 38), .mv 38 (.s 37), false⟩,
    ⟨(some (38, true)), (some 39), .mv 39 (.s 10), false⟩,
    ⟨(some (38, true)), (some 40), .mv 40 (.s 12), false⟩,
    ⟨(some (38, true)), (some 41), .bin 41 .eql (.s 39) (.s 40), false⟩,
    ⟨none, (some 42), .pk 42 (.s 38) (.s 41) (.k (Value.bool false)), false⟩,
    ⟨none, (some 43), .mv 43 (.s 42), false⟩,
    ⟨(some (43, true)), (some 44), .mv 44 (.s 1), true⟩,
    ⟨(some (43, true)), (some 45), .mv 45 (.s 7), false⟩,
    ⟨(some (43, true)), (some 46), .call (some 46) 15 true [(.s 44), (.s 45)], false⟩,
    ⟨none, (some 47), .pk 47 (.s 43) (.s 46) (.k (Value.bool false)), false⟩,
    ⟨none, (some 48), .mv 48 (.s 47), false⟩,
    ⟨(some (48, true)), (some 49), .mv 49 (.s 2), false⟩,
    ⟨(some (48, true)), (some 50), .mv 50 (.s 8), false⟩,
    ⟨(some (48, true)), (some 51), .call (some 51) 15 true [(.s 49), (.s 50)], false⟩,
    ⟨none, (some 52), .pk 52 (.s 48) (.s 51) (.k (Value.bool false)), false⟩,
    ⟨none, (some 6), .mv 6 (.s 52), false⟩]))
  .ret)))))
theorem cc3 : (Tryd.f3.body).bind (cc Tryd.prog Tryd.f3.ntmps A3) = some S3 := by kernel_rfl
def R3 : List RR := [.sl 6]
theorem cr3 : Tryd.f3.results.toList.map (crr Tryd.prog) = R3.map some := by kernel_rfl
theorem nm3 : (Tryd.f3.name == "runtime.NumGoroutine") = false := by kernel_rfl
theorem fn3 : Tryd.prog.funcs[3]? = some Tryd.f3 := by kernel_rfl
theorem bd3 : ∃ b, Tryd.f3.body = some b ∧ cc Tryd.prog Tryd.f3.ntmps A3 b = some S3 := Option.bind_eq_some_iff.1 cc3
theorem sd3 {G : World → Prop} {T : FuncId → Contract} {C : Contract} (hT : ∀ f, Sound G Tryd.prog f (T f)) (hl : C.lawful) (hC : ∀ args st K, C.wp args st K → args.length ≤ 53 ∧ ∃ os op, xv T st.n S3 (st0 args st) (retK R3 st.n os K) (panK st.n op K)) : Sound G Tryd.prog 3 C := by
  obtain ⟨b, hb, hc⟩ := bd3
  rw [xv_eq] at hC
  exact sound_of_ev mo fn3 hb nm3 hc cr3 hT hl hC

/-! 13: redline/normal.Print -/
def A13 : Ann := ⟨fun r i => if r = 4 ∧ i = 0 then 7 else 0, fun r => if r = 8 then some ([], [(0, true), (2, true), (5, true), (7, true), (1, true), (3, true), (6, true), (8, true), (4, false), (9, false), (10, true), (11, true), (12, true)]) else none, fun r => if r = 1 then some (false, [0, 1, 2]) else if r = 3 then some (false, [8]) else if r = 5 then some (false, [0, 1, 2, 9]) else if r = 7 then some (false, [1, 2, 9, 24, 25, 26]) else if r = 8 then some (false, [1, 2, 9, 11, 24, 25, 26]) else if r = 9 then some (false, [1, 2, 9, 11, 12, 13, 14, 24, 25, 26]) else if r = 10 then some (false, [1, 2, 9, 11, 13, 24, 25, 26]) else if r = 11 then some (false, [1, 2, 9, 11, 12, 13, 14, 24, 25, 26]) else if r = 12 then some (false, [1, 2, 9, 11, 12, 24, 25, 26]) else if r = 13 then some (false, [1, 2, 9, 11, 12, 13, 14, 24, 25, 26]) else if r = 14 then some (false, [1, 2, 9, 11, 14, 24, 25, 26]) else if r = 17 then some (false, [1, 2, 9, 11, 24, 25, 26]) else if r = 19 then some (false, [9]) else none, fun r => if r = 6 then [1, 2, 9, 24, 25, 26] else []⟩
def S13_0 : SCode :=
  (.ops [⟨none, (some 6), .mv 6 (.k (Value.string ⟨#[]⟩)), false⟩,
    ⟨none, (some 7), .mv 7 (.k (Value.int .i64 0)), false⟩])
def S13_1 : SCode :=
  (.seq (.seq (.keep [0, 1, 2]) (.ops [⟨none, (some 15), .mv 15 (.s 0), false⟩,
    ⟨none, (some 16), .mv 16 (.s 1), false⟩,
    ⟨none, (some 17), .len 17 (.s 16), false⟩,
    ⟨none, (some 18), .mv 18 (.s 2), false⟩,
    ⟨none, (some 19), .len 19 (.s 18), false⟩,
    ⟨none, (some 20), .call (some 20) 41 false [(.s 15), (.s 17), (.s 19)], false⟩,
    ⟨none, (some 8), .mv 8 (.s 20), false⟩]))
  (.seq (.ops [⟨none, (some 21), .mv 21 (.s 8), false⟩,
    ⟨none, (some 22), .bin 22 .neq (.s 21) (.k (Value.int .i64 0)), false⟩])
  (.cond (.s 22) (.seq (.seq (.keep [8]) (.ops [⟨none, (some 23), .mv 23 (.s 8), false⟩,
    ⟨none, (some 6), .mv 6 (.k (Value.string ⟨#[]⟩)), false⟩,
    ⟨none, (some 7), .mv 7 (.s 23), false⟩]))
  .ret) .skip)))
def S13_2 : SCode :=
  (.ops [⟨none, (some 9), .alb 9 72 5, false⟩])
def S13_3 : SCode :=
  (.seq (.seq (.keep [0, 1, 2, 9]) (.ops [⟨none, (some 24), .mv 24 (.s 0), false⟩,
    ⟨none, (some 25), .len 25 (.s 24), false⟩,
    ⟨none, (some 26), .mv 26 (.k (Value.int .i64 0)), false⟩]))
  (.block 0 (.loop [1, 2, 9, 24, 25, 26] (.seq (.ops [⟨none, (some 27), .bin 27 .lss (.s 26) (.s 25), false⟩])
  (.seq (.cond (.s 27) .skip (.exit 0))
  (.seq (.block 1 (.seq (.seq (.keep [1, 2, 9, 24, 25, 26]) (.ops [⟨none, (some 28), .ia 28 4 (.s 24) (.s 26), false⟩,
    ⟨none, (some 29), .ld 29 true 4 (.s 28), false⟩,
    ⟨none, (some 11), .al 11 74 [(Value.int .i64 0), (Value.int .i64 0), (Value.int .i64 0), (Value.int .i64 0)], false⟩,
    ⟨none, none, .st true 4 (.s 11) (.s 29), false⟩]))
  (.seq (.seq (.keep [1, 2, 9, 11, 24, 25, 26]) (.dr [] [(0, true, ⟨none, (some 30), .fa 30 0 (.s 11), false⟩),
    (2, true, ⟨none, (some 32), .fa 32 1 (.s 11), false⟩),
    (5, true, ⟨none, (some 35), .fa 35 2 (.s 11), false⟩),
    (7, true, ⟨none, (some 37), .fa 37 3 (.s 11), false⟩),
    (1, true, ⟨none, (some 31), .ld 31 false 1 (.s 30), false⟩),
    (3, true, ⟨none, (some 33), .ld 33 false 1 (.s 32), false⟩),
    (6, true, ⟨none, (some 36), .ld 36 false 1 (.s 35), false⟩),
    (8, true, ⟨none, (some 38), .ld 38 false 1 (.s 37), false⟩),
    (4, false, ⟨none, (some 34), .call (some 34) 42 false [(.s 31), (.s 33)], false⟩),
    (9, false, ⟨none, (some 39), .call (some 39) 42 false [(.s 36), (.s 38)], true⟩),
    (10, true, ⟨none, (some 12), .mv 12 (.s 34), false⟩),
    (11, true, ⟨none, (some 13), .mv 13 (.s 39), false⟩),
    (12, true, ⟨none, (some 14), .mv 14 (.k (Value.string ⟨#[99]⟩)), false⟩)]))
  (.seq (.seq (.seq (.keep [1, 2, 9, 11, 12, 13, 14, 24, 25, 26]) (.ops [⟨none, (some 40), .fa 40 1 (.s 11), false⟩,
    ⟨none, (some 41), .ld 41 false 1 (.s 40), false⟩,
    ⟨none, (some 42), .bin 42 .eql (.s 41) (.k (Value.int .i64 0)), false⟩]))
  (.cond (.s 42) (.seq (.keep [1, 2, 9, 11, 13, 24, 25, 26]) (.ops [⟨none, (some 43), .fa 43 0 (.s 11), false⟩,
    ⟨none, (some 44), .ld 44 false 1 (.s 43), false⟩,
    ⟨none, (some 45), .call (some 45) 32 false [(.s 44)], false⟩,
    ⟨none, (some 12), .mv 12 (.s 45), false⟩,
    ⟨none, (some 14), .mv 14 (.k (Value.string ⟨#[97]⟩)), false⟩])) .skip))
  (.seq (.seq (.seq (.keep [1, 2, 9, 11, 12, 13, 14, 24, 25, 26]) (.ops [⟨none, (some 46), .fa 46 3 (.s 11), false⟩,
    ⟨none, (some 47), .ld 47 false 1 (.s 46), false⟩,
    ⟨none, (some 48), .bin 48 .eql (.s 47) (.k (Value.int .i64 0)), false⟩]))
  (.cond (.s 48) (.seq (.keep [1, 2, 9, 11, 12, 24, 25, 26]) (.ops [⟨none, (some 49), .fa 49 2 (.s 11), false⟩,
    ⟨none, (some 50), .ld 50 false 1 (.s 49), false⟩,
    ⟨none, (some 51), .call (some 51) 32 false [(.s 50)], false⟩,
    ⟨none, (some 13), .mv 13 (.s 51), false⟩,
    ⟨none, (some 14), .mv 14 (.k (Value.string ⟨#[100]⟩)), false⟩])) .skip))
  (.seq (.seq (.keep [1, 2, 9, 11, 12, 13, 14, 24, 25, 26]) (.ops [⟨none, (some 52), .fa 52 0 (.s 9), false⟩,
    ⟨none, (some 53), .mv 53 (.s 12), false⟩,
    ⟨none, (some 54), .mv 54 (.s 14), false⟩,
    ⟨none, (some 55), .bin 55 .add (.s 53) (.s 54), false⟩,
    ⟨none, (some 56), .mv 56 (.s 13), false⟩,
    ⟨none, (some 57), .bin 57 .add (.s 55) (.s 56), false⟩,
    ⟨none, (some 58), .bin 58 .add (.s 57) (.k (Value.string ⟨#[10]⟩)), false⟩,
    ⟨none, (some 59), .call (some 59) 43 false [(.s 52), (.s 58)], false⟩]))
  (.seq (.seq (.keep [1, 2, 9, 11, 14, 24, 25, 26]) (.ops [⟨none, (some 60), .mv 60 (.s 1), false⟩,
    ⟨none, (some 61), .fa 61 0 (.s 11), false⟩,
    ⟨none, (some 62), .ld 62 false 1 (.s 61), false⟩,
    ⟨none, (some 63), .fa 63 0 (.s 11), false⟩,
    ⟨none, (some 64), .ld 64 false 1 (.s 63), false⟩,
    ⟨none, (some 65), .fa 65 1 (.s 11), false⟩,
    ⟨none, (some 66), .ld 66 false 1 (.s 65), false⟩,
    ⟨none, (some 67), .binc 67 .add (.s 64) (.s 66), false⟩,
    ⟨none, (some 68), .slr 68 1 (.s 60) (some (.s 62)) (some (.s 67)), false⟩,
    ⟨none, (some 69), .call (some 69) 44 false [(.s 9), (.k (Value.string ⟨#[60, 32]⟩)), (.s 68)], true⟩]))
  (.seq (.seq (.ops [⟨none, (some 70), .mv 70 (.s 14), false⟩,
    ⟨none, (some 71), .bin 71 .eql (.s 70) (.k (Value.string ⟨#[99]⟩)), false⟩])
  (.cond (.s 71) (.ops [⟨none, (some 72), .fa 72 0 (.s 9), false⟩,
    ⟨none, (some 73), .call (some 73) 43 false [(.s 72), (.k (Value.string ⟨#[45, 45, 45, 10]⟩))], false⟩]) .skip))
  (.seq (.keep [1, 2, 9, 11, 24, 25, 26]) (.ops [⟨none, (some 74), .mv 74 (.s 2), false⟩,
    ⟨none, (some 75), .fa 75 2 (.s 11), false⟩,
    ⟨none, (some 76), .ld 76 false 1 (.s 75), false⟩,
    ⟨none, (some 77), .fa 77 2 (.s 11), false⟩,
    ⟨none, (some 78), .ld 78 false 1 (.s 77), false⟩,
    ⟨none, (some 79), .fa 79 3 (.s 11), false⟩,
    ⟨none, (some 80), .ld 80 false 1 (.s 79), false⟩,
    ⟨none, (some 81), .binc 81 .add (.s 78) (.s 80), false⟩,
    ⟨none, (some 82), .slr 82 1 (.s 74) (some (.s 76)) (some (.s 81)), false⟩,
    ⟨none, (some 83), .call (some 83) 44 false [(.s 9), (.k (Value.string ⟨#[62, 32]⟩)), (.s 82)], true⟩]))))))))))
  (.ops [⟨none, (some 84), .binc 84 .add (.s 26) (.k (Value.int .i64 1)), false⟩,
    ⟨none, (some 26), .mv 26 (.s 84), false⟩])))))))
def S13_4 : SCode :=
  (.seq (.keep [9]) (.ops [⟨none, (some 85), .fa 85 0 (.s 9), false⟩,
    ⟨none, (some 86), .call (some 86) 45 false [(.s 85)], false⟩,
    ⟨none, (some 6), .mv 6 (.s 86), false⟩,
    ⟨none, (some 7), .mv 7 (.k (Value.int .i64 0)), false⟩]))
def S13r5 : SCode := .ret
def S13r4 : SCode := .seq S13_4 S13r5
def S13r3 : SCode := .seq S13_3 S13r4
def S13r2 : SCode := .seq S13_2 S13r3
def S13r1 : SCode := .seq S13_1 S13r2
def S13 : SCode := .seq S13_0 S13r1
theorem cc13 : (Tryd.f13.body).bind (cc Tryd.prog Tryd.f13.ntmps A13) = some S13 := by kernel_rfl
def R13 : List RR := [.sl 6, .sl 7]
theorem cr13 : Tryd.f13.results.toList.map (crr Tryd.prog) = R13.map some := by kernel_rfl
theorem nm13 : (Tryd.f13.name == "runtime.NumGoroutine") = false := by kernel_rfl
theorem fn13 : Tryd.prog.funcs[13]? = some Tryd.f13 := by kernel_rfl
theorem bd13 : ∃ b, Tryd.f13.body = some b ∧ cc Tryd.prog Tryd.f13.ntmps A13 b = some S13 := Option.bind_eq_some_iff.1 cc13
theorem sd13 {G : World → Prop} {T : FuncId → Contract} {C : Contract} (hT : ∀ f, Sound G Tryd.prog f (T f)) (hl : C.lawful) (hC : ∀ args st K, C.wp args st K → args.length ≤ 87 ∧ ∃ os op, xv T st.n S13 (st0 args st) (retK R13 st.n os K) (panK st.n op K)) : Sound G Tryd.prog 13 C := by
  obtain ⟨b, hb, hc⟩ := bd13
  rw [xv_eq] at hC
  exact sound_of_ev mo fn13 hb nm13 hc cr13 hT hl hC

/-! 14: redline/redlineref12.Print -/
def A14 : Ann := ⟨fun _ _ => 0, fun _ => none, fun r => if r = 1 then some (false, [0, 1, 2]) else if r = 3 then some (false, [8]) else if r = 6 then some (false, [0, 1, 2, 9, 10]) else if r = 7 then some (false, [0, 1, 2, 9, 10]) else if r = 8 then some (false, [0, 1, 2, 9, 10]) else if r = 9 then some (false, [9]) else none, fun r => if r = 6 then [0, 1, 2, 9, 10] else []⟩
def S14 : SCode :=
  (.seq (.ops [⟨none, (some 6), .mv 6 (.k (Value.string ⟨#[]⟩)), false⟩,
    ⟨none, (some 7), .mv 7 (.k (Value.int .i64 0)), false⟩])
  (.seq (.seq (.keep [0, 1, 2]) (.ops [⟨none, (some 11), .mv 11 (.s 0), false⟩,
    ⟨none, (some 12), .mv 12 (.s 1), false⟩,
    ⟨none, (some 13), .len 13 (.s 12), false⟩,
    ⟨none, (some 14), .mv 14 (.s 2), false⟩,
    ⟨none, (some 15), .len 15 (.s 14), false⟩,
    ⟨none, (some 16), .call (some 16) 46 false [(.s 11), (.s 13), (.s 15)], false⟩,
    ⟨none, (some 8), .mv 8 (.s 16), false⟩]))
  (.seq (.seq (.ops [⟨none, (some 17), .mv 17 (.s 8), false⟩,
    ⟨none, (some 18), .bin 18 .neq (.s 17) (.k (Value.int .i64 0)), false⟩])
  (.cond (.s 18) (.seq (.seq (.keep [8]) (.ops [⟨none, (some 19), .mv 19 (.s 8), false⟩,
    ⟨none, (some 6), .mv 6 (.k (Value.string ⟨#[]⟩)), false⟩,
    ⟨none, (some 7), .mv 7 (.s 19), false⟩]))
  .ret) .skip))
  (.seq (.ops [⟨none, (some 9), .mv 9 (.k (Value.string ⟨#[]⟩)), false⟩])
  (.seq (.seq (.ops [⟨none, (some 10), .mv 10 (.k (Value.int .i64 0)), false⟩])
  (.block 0 (.loop [0, 1, 2, 9, 10] (.seq (.seq (.seq (.keep [0, 1, 2, 9, 10]) (.ops [⟨none, (some 20), .mv 20 (.s 10), false⟩,
    ⟨none, (some 21), .mv 21 (.s 0), false⟩,
    ⟨none, (some 22), .len 22 (.s 21), false⟩,
    ⟨none, (some 23), .bin 23 .lss (.s 20) (.s 22), false⟩]))
  (.cond (.s 23) .skip (.exit 0)))
  (.seq (.block 1 (.seq (.keep [0, 1, 2, 9, 10]) (.ops [⟨none, (some 26), .mv 26 (.s 9), false⟩,
    ⟨none, (some 27), .mv 27 (.s 0), false⟩,
    ⟨none, (some 28), .mv 28 (.s 10), false⟩,
    ⟨none, (some 29), .ia 29 4 (.s 27) (.s 28), false⟩,
    ⟨none, (some 30), .ld 30 true 4 (.s 29), false⟩,
    ⟨none, (some 31), .mv 31 (.s 1), false⟩,
    ⟨none, (some 32), .mv 32 (.s 2), false⟩,
    ⟨none, (some 33), .call (some 33) 47 false [(.s 30), (.s 31), (.s 32)], false⟩,
    ⟨none, (some 34), .bin 34 .add (.s 26) (.s 33), false⟩,
    ⟨none, (some 9), .mv 9 (.s 34), true⟩])))
  (.seq (.keep [0, 1, 2, 9, 10]) (.ops [⟨none, (some 24), .mv 24 (.s 10), false⟩,
    ⟨none, (some 25), .binc 25 .add (.s 24) (.k (Value.int .i64 1)), false⟩,
    ⟨none, (some 10), .mv 10 (.s 25), false⟩])))))))
  (.seq (.seq (.keep [9]) (.ops [⟨none, (some 35), .mv 35 (.s 9), false⟩,
    ⟨none, (some 6), .mv 6 (.s 35), false⟩,
    ⟨none, (some 7), .mv 7 (.k (Value.int .i64 0)), false⟩]))
  .ret))))))
theorem cc14 : (Tryd.f14.body).bind (cc Tryd.prog Tryd.f14.ntmps A14) = some S14 := by kernel_rfl
def R14 : List RR := [.sl 6, .sl 7]
theorem cr14 : Tryd.f14.results.toList.map (crr Tryd.prog) = R14.map some := by kernel_rfl
theorem nm14 : (Tryd.f14.name == "runtime.NumGoroutine") = false := by kernel_rfl
theorem fn14 : Tryd.prog.funcs[14]? = some Tryd.f14 := by kernel_rfl
theorem bd14 : ∃ b, Tryd.f14.body = some b ∧ cc Tryd.prog Tryd.f14.ntmps A14 b = some S14 := Option.bind_eq_some_iff.1 cc14
theorem sd14 {G : World → Prop} {T : FuncId → Contract} {C : Contract} (hT : ∀ f, Sound G Tryd.prog f (T f)) (hl : C.lawful) (hC : ∀ args st K, C.wp args st K → args.length ≤ 36 ∧ ∃ os op, xv T st.n S14 (st0 args st) (retK R14 st.n os K) (panK st.n op K)) : Sound G Tryd.prog 14 C := by
  obtain ⟨b, hb, hc⟩ := bd14
  rw [xv_eq] at hC
  exact sound_of_ev mo fn14 hb nm14 hc cr14 hT hl hC

/-! 15: redline/redlineref01.SameStrings -/
def A15 : Ann := ⟨fun _ _ => 0, fun r => if r = 6 then some ([], [(0, true), (1, true), (2, true), (4, true), (5, true), (6, true), (3, true), (7, true), (8, true)]) else none, fun r => if r = 1 then some (false, [0, 1]) else if r = 4 then some (false, [0, 1, 5]) else if r = 5 then some (false, [0, 1, 5]) else if r = 6 then some (false, [0, 1, 5]) else none, fun r => if r = 4 then [0, 1, 5] else []⟩
def S15 : SCode :=
  (.seq (.ops [⟨none, (some 4), .mv 4 (.k (Value.bool false)), false⟩])
  (.seq (.seq (.seq (.keep [0, 1]) (.ops [⟨none, (some 6), .mv 6 (.s 0), false⟩,
    ⟨none, (some 7), .len 7 (.s 6), false⟩,
    ⟨none, (some 8), .mv 8 (.s 1), false⟩,
    ⟨none, (some 9), .len 9 (.s 8), false⟩,
    ⟨none, (some 10), .bin 10 .neq (.s 7) (.s 9), false⟩]))
  (.cond (.s 10) (.seq (.ops [⟨none, (some 4), .mv 4 (.k (Value.bool false)), false⟩])
  .ret) .skip))
  (.seq (.seq (.ops [⟨none, (some 5), .mv 5 (.k (Value.int .i64 0)), false⟩])
  (.block 0 (.loop [0, 1, 5] (.seq (.seq (.seq (.keep [0, 1, 5]) (.ops [⟨none, (some 11), .mv 11 (.s 5), false⟩,
    ⟨none, (some 12), .mv 12 (.s 0), false⟩,
    ⟨none, (some 13), .len 13 (.s 12), false⟩,
    ⟨none, (some 14), .bin 14 .lss (.s 11) (.s 13), false⟩]))
  (.cond (.s 14) .skip (.exit 0)))
  (.seq (.block 1 (.seq (.seq (.keep [0, 1, 5]) (.dr [] [(0, true, ⟨none, (some 17), .mv 17 (.s 0), false⟩),
    (1, true, ⟨none, (some 18), .mv 18 (.s 5), false⟩),
    (2, true, ⟨none, (some 19), .ia 19 1 (.s 17) (.s 18), false⟩),
    (4, true, ⟨none, (some 21), .mv 21 (.s 1), false⟩),
    (5, true, ⟨none, (some 22), .mv 22 (.s 5), false⟩),
    (6, true, ⟨none, (some 23), .ia 23 1 (.s 21) (.s 22), false⟩),
    (3, true, ⟨none, (some 20), .ld 20 false 1 (.s 19), false⟩),
    (7, true, ⟨none, (some 24), .ld 24 false 1 (.s 23), false⟩),
    (8, true, ⟨none, (some 25), .bin 25 .neq (.s 20) (.s 24), false⟩)]))
  (.cond (.s 25) (.seq (.ops [⟨none, (some 4), .mv 4 (.k (Value.bool false)), false⟩])
  .ret) .skip)))
  (.seq (.keep [0, 1, 5]) (.ops [⟨none, (some 15), .mv 15 (.s 5), false⟩,
    ⟨none, (some 16), .binc 16 .add (.s 15) (.k (Value.int .i64 1)), false⟩,
    ⟨none, (some 5), .mv 5 (.s 16), false⟩])))))))
  (.seq (.ops [⟨none, (some 4), .mv 4 (.k (Value.bool true)), false⟩])
  .ret))))
theorem cc15 : (Tryd.f15.body).bind (cc Tryd.prog Tryd.f15.ntmps A15) = some S15 := by kernel_rfl
def R15 : List RR := [.sl 4]
theorem cr15 : Tryd.f15.results.toList.map (crr Tryd.prog) = R15.map some := by kernel_rfl
theorem nm15 : (Tryd.f15.name == "runtime.NumGoroutine") = false := by kernel_rfl
theorem fn15 : Tryd.prog.funcs[15]? = some Tryd.f15 := by kernel_rfl
theorem bd15 : ∃ b, Tryd.f15.body = some b ∧ cc Tryd.prog Tryd.f15.ntmps A15 b = some S15 := Option.bind_eq_some_iff.1 cc15
theorem sd15 {G : World → Prop} {T : FuncId → Contract} {C : Contract} (hT : ∀ f, Sound G Tryd.prog f (T f)) (hl : C.lawful) (hC : ∀ args st K, C.wp args st K → args.length ≤ 26 ∧ ∃ os op, xv T st.n S15 (st0 args st) (retK R15 st.n os K) (panK st.n op K)) : Sound G Tryd.prog 15 C := by
  obtain ⟨b, hb, hc⟩ := bd15
  rw [xv_eq] at hC
  exact sound_of_ev mo fn15 hb nm15 hc cr15 hT hl hC

/-! 32: redline/num.Text -/
def A32 : Ann := ⟨fun _ _ => 0, fun _ => none, fun r => if r = 1 then some (false, [0]) else none, fun _ => []⟩
def S32 : SCode :=
  (.seq (.ops [⟨none, (some 2), .mv 2 (.k (Value.string ⟨#[]⟩)), false⟩])
  (.seq (.seq (.keep [0]) (.ops [⟨none, (some 3), .mv 3 (.s 0), false⟩,
    ⟨none, (some 4), .call (some 4) 79 false [(.s 3)], false⟩,
    ⟨none, (some 2), .mv 2 (.s 4), false⟩]))
  .ret))
theorem cc32 : (Tryd.f32.body).bind (cc Tryd.prog Tryd.f32.ntmps A32) = some S32 := by kernel_rfl
def R32 : List RR := [.sl 2]
theorem cr32 : Tryd.f32.results.toList.map (crr Tryd.prog) = R32.map some := by kernel_rfl
theorem nm32 : (Tryd.f32.name == "runtime.NumGoroutine") = false := by kernel_rfl
theorem fn32 : Tryd.prog.funcs[32]? = some Tryd.f32 := by kernel_rfl
theorem bd32 : ∃ b, Tryd.f32.body = some b ∧ cc Tryd.prog Tryd.f32.ntmps A32 b = some S32 := Option.bind_eq_some_iff.1 cc32
theorem sd32 {G : World → Prop} {T : FuncId → Contract} {C : Contract} (hT : ∀ f, Sound G Tryd.prog f (T f)) (hl : C.lawful) (hC : ∀ args st K, C.wp args st K → args.length ≤ 5 ∧ ∃ os op, xv T st.n S32 (st0 args st) (retK R32 st.n os K) (panK st.n op K)) : Sound G Tryd.prog 32 C := by
  obtain ⟨b, hb, hc⟩ := bd32
  rw [xv_eq] at hC
  exact sound_of_ev mo fn32 hb nm32 hc cr32 hT hl hC

/-! 33: redline/redlineref01.Text -/
def A33 : Ann := ⟨fun _ _ => 0, fun _ => none, fun r => if r = 2 then some (false, [0]) else if r = 3 then some (false, [0]) else none, fun _ => []⟩
def S33 : SCode :=
  (.seq (.ops [⟨none, (some 2), .mv 2 (.k (Value.string ⟨#[]⟩)), false⟩])
  (.seq (.seq (.ops [⟨none, (some 3), .mv 3 (.s 0), false⟩,
    ⟨none, (some 4), .bin 4 .lss (.s 3) (.k (Value.int .i64 0)), false⟩])
  (.cond (.s 4) (.seq (.seq (.keep [0]) (.ops [⟨none, (some 5), .mv 5 (.s 0), false⟩,
    ⟨none, (some 6), .cvi 6 .u64 (.s 5), false⟩,
    ⟨none, (some 7), .neg 7 (.s 6), false⟩,
    ⟨none, (some 8), .call (some 8) 80 false [(.s 7)], false⟩,
    ⟨none, (some 9), .bin 9 .add (.k (Value.string ⟨#[45]⟩)) (.s 8), false⟩,
    ⟨none, (some 2), .mv 2 (.s 9), false⟩]))
  .ret) .skip))
  (.seq (.seq (.keep [0]) (.ops [⟨none, (some 10), .mv 10 (.s 0), false⟩,
    ⟨none, (some 11), .cvi 11 .u64 (.s 10), false⟩,
    ⟨none, (some 12), .call (some 12) 80 false [(.s 11)], false⟩,
    ⟨none, (some 2), .mv 2 (.s 12), false⟩]))
  .ret)))
theorem cc33 : (Tryd.f33.body).bind (cc Tryd.prog Tryd.f33.ntmps A33) = some S33 := by kernel_rfl
def R33 : List RR := [.sl 2]
theorem cr33 : Tryd.f33.results.toList.map (crr Tryd.prog) = R33.map some := by kernel_rfl
theorem nm33 : (Tryd.f33.name == "runtime.NumGoroutine") = false := by kernel_rfl
theorem fn33 : Tryd.prog.funcs[33]? = some Tryd.f33 := by kernel_rfl
theorem bd33 : ∃ b, Tryd.f33.body = some b ∧ cc Tryd.prog Tryd.f33.ntmps A33 b = some S33 := Option.bind_eq_some_iff.1 cc33
theorem sd33 {G : World → Prop} {T : FuncId → Contract} {C : Contract} (hT : ∀ f, Sound G Tryd.prog f (T f)) (hl : C.lawful) (hC : ∀ args st K, C.wp args st K → args.length ≤ 13 ∧ ∃ os op, xv T st.n S33 (st0 args st) (retK R33 st.n os K) (panK st.n op K)) : Sound G Tryd.prog 33 C := by
  obtain ⟨b, hb, hc⟩ := bd33
  rw [xv_eq] at hC
  exact sound_of_ev mo fn33 hb nm33 hc cr33 hT hl hC

/-! 80: redline/redlineref01.digits -/
def A80 : Ann := ⟨fun _ _ => 0, fun _ => none, fun r => if r = 1 then some (false, [0]) else if r = 2 then some (false, [0, 3]) else if r = 4 then some (false, [0, 3]) else if r = 5 then some (false, [0, 3]) else none, fun r => if r = 3 then [0, 3] else []⟩
def S80 : SCode :=
  (.seq (.ops [⟨none, (some 2), .mv 2 (.k (Value.string ⟨#[]⟩)), false⟩])
  (.seq (.seq (.keep [0]) (.ops [⟨none, (some 4), .mv 4 (.s 0), false⟩,
    ⟨none, (some 5), .bin 5 .rem (.s 4) (.k (Value.int .u64 10)), false⟩,
    ⟨none, (some 6), .bin 6 .add (.k (Value.int .u64 48)) (.s 5), false⟩,
    ⟨none, (some 7), .cvi 7 .u8 (.s 6), false⟩,
    ⟨none, (some 8), .bs 8 5 1 [(.s 7)], false⟩,
    ⟨none, (some 9), .b2s 9 (.s 8), false⟩,
    ⟨none, (some 3), .mv 3 (.s 9), false⟩]))
  (.seq (.seq (.seq (.keep [0, 3]) (.ops [⟨none, (some 10), .mv 10 (.s 0), false⟩,
    ⟨none, (some 11), .bin 11 .quo (.s 10) (.k (Value.int .u64 10)), false⟩,
    ⟨none, (some 0), .mv 0 (.s 11), false⟩]))
  (.block 0 (.loop [0, 3] (.seq (.seq (.ops [⟨none, (some 12), .mv 12 (.s 0), false⟩,
    ⟨none, (some 13), .bin 13 .gtr (.s 12) (.k (Value.int .u64 0)), false⟩])
  (.cond (.s 13) .skip (.exit 0)))
  (.seq (.block 1 (.seq (.keep [0, 3]) (.ops [⟨none, (some 16), .mv 16 (.s 0), false⟩,
    ⟨none, (some 17), .bin 17 .rem (.s 16) (.k (Value.int .u64 10)), false⟩,
    ⟨none, (some 18), .bin 18 .add (.k (Value.int .u64 48)) (.s 17), false⟩,
    ⟨none, (some 19), .cvi 19 .u8 (.s 18), false⟩,
    ⟨none, (some 20), .bs 20 5 1 [(.s 19)], false⟩,
    ⟨none, (some 21), .b2s 21 (.s 20), false⟩,
    ⟨none, (some 22), .mv 22 (.s 3), false⟩,
    ⟨none, (some 23), .bin 23 .add (.s 21) (.s 22), false⟩,
    ⟨none, (some 3), .mv 3 (.s 23), false⟩])))
  (.seq (.keep [0, 3]) (.ops [⟨none, (some 14), .mv 14 (.s 0), false⟩,
    ⟨none, (some 15), .bin 15 .quo (.s 14) (.k (Value.int .u64 10)), false⟩,
    ⟨none, (some 0), .mv 0 (.s 15), false⟩])))))))
  (.seq (.ops [⟨none, (some 24), .mv 24 (.s 3), false⟩,
    ⟨none, (some 2), .mv 2 (.s 24), false⟩])
  .ret))))
theorem cc80 : (Tryd.f80.body).bind (cc Tryd.prog Tryd.f80.ntmps A80) = some S80 := by kernel_rfl
def R80 : List RR := [.sl 2]
theorem cr80 : Tryd.f80.results.toList.map (crr Tryd.prog) = R80.map some := by kernel_rfl
theorem nm80 : (Tryd.f80.name == "runtime.NumGoroutine") = false := by kernel_rfl
theorem fn80 : Tryd.prog.funcs[80]? = some Tryd.f80 := by kernel_rfl
theorem bd80 : ∃ b, Tryd.f80.body = some b ∧ cc Tryd.prog Tryd.f80.ntmps A80 b = some S80 := Option.bind_eq_some_iff.1 cc80
theorem sd80 {G : World → Prop} {T : FuncId → Contract} {C : Contract} (hT : ∀ f, Sound G Tryd.prog f (T f)) (hl : C.lawful) (hC : ∀ args st K, C.wp args st K → args.length ≤ 25 ∧ ∃ os op, xv T st.n S80 (st0 args st) (retK R80 st.n os K) (panK st.n op K)) : Sound G Tryd.prog 80 C := by
  obtain ⟨b, hb, hc⟩ := bd80
  rw [xv_eq] at hC
  exact sound_of_ev mo fn80 hb nm80 hc cr80 hT hl hC

/-! 41: redline/edits.Check -/
def A41 : Ann := ⟨fun r i => if r = 5 ∧ i = 7 then 1 else if r = 5 ∧ i = 13 then 1 else if r = 5 ∧ i = 19 then 1 else 0, fun r => if r = 10 then some ([], [(0, true), (2, true), (5, true), (7, true), (1, true), (3, true), (4, true), (10, true), (6, true), (8, true), (9, true), (11, true)]) else none, fun r => if r = 2 then some (false, [0, 1, 2, 7, 8]) else if r = 4 then some (false, [1, 2, 7, 8, 12, 13, 14]) else if r = 5 then some (false, [1, 2, 7, 8, 9, 10, 12, 13, 14]) else if r = 7 then some (false, [1, 2, 7, 8, 9, 10, 12, 13, 14]) else if r = 8 then some (false, [1, 2, 8, 9, 10, 11, 12, 13, 14]) else if r = 10 then some (false, [1, 2, 10, 12, 13, 14]) else if r = 12 then some (false, [1, 2, 7, 8]) else none, fun r => if r = 3 then [1, 2, 7, 8, 12, 13, 14] else []⟩
def S41 : SCode :=
  (.seq (.ops [⟨none, (some 6), .mv 6 (.k (Value.int .i64 0)), false⟩])
  (.seq (.ops [⟨none, (some 7), .mv 7 (.k (Value.int .i64 0)), false⟩,
    ⟨none, (some 8), .mv 8 (.k (Value.int .i64 0)), false⟩])
  (.seq (.seq (.seq (.keep [0, 1, 2, 7, 8]) (.ops [⟨none, (some 12), .mv 12 (.s 0), false⟩,
    ⟨none, (some 13), .len 13 (.s 12), false⟩,
    ⟨none, (some 14), .mv 14 (.k (Value.int .i64 0)), false⟩]))
  (.block 0 (.loop [1, 2, 7, 8, 12, 13, 14] (.seq (.ops [⟨none, (some 15), .bin 15 .lss (.s 14) (.s 13), false⟩])
  (.seq (.cond (.s 15) .skip (.exit 0))
  (.seq (.block 1 (.seq (.seq (.keep [1, 2, 7, 8, 12, 13, 14]) (.ops [⟨none, (some 16), .mv 16 (.s 14), false⟩,
    ⟨none, (some 17), .ia 17 4 (.s 12) (.s 14), false⟩,
    ⟨none, (some 18), .ld 18 true 4 (.s 17), false⟩,
    ⟨none, (some 10), .al 10 74 [(Value.int .i64 0), (Value.int .i64 0), (Value.int .i64 0), (Value.int .i64 0)], false⟩,
    ⟨none, (some 9), .mv 9 (.s 16), false⟩,
    ⟨none, none, .st true 4 (.s 10) (.s 18), false⟩]))
  (.seq (.seq (.seq (.keep [1, 2, 7, 8, 9, 10, 12, 13, 14]) (.ops [⟨none, (some 19), .fa 19 0 (.s 10), false⟩,
    ⟨none, (some 20), .ld 20 false 1 (.s 19), false⟩,
    ⟨none, (some 21), .call (some 21) 93 false [(.s 20)], false⟩,
    ⟨none, (some 22), .not 22 (.s 21), false⟩,
    ⟨none, (some 23), .mv 23 (.s 22), false⟩,
    ⟨(some (23, false)), (some 24), .fa 24 1 (.s 10), false⟩,
    ⟨(some (23, false)), (some 25), .ld 25 false 1 (.s 24), false⟩,
    ⟨(some (23, false)), (some 26), .call (some 26) 93 true [(.s 25)], false⟩,
    ⟨(some (23, false)), (some 27), .not 27 (.s 26), false⟩,
    ⟨none, (some 28), .pk 28 (.s 23) (.k (Value.bool true)) (.s 27), true⟩,
    ⟨none, (some 29), .mv 29 (.s 28), false⟩,
    ⟨(some (29, false)), (some 30), .fa 30 2 (.s 10), false⟩,
    ⟨(some (29, false)), (some 31), .ld 31 false 1 (.s 30), false⟩,
    ⟨(some (29, false)), (some 32), .call (some 32) 93 true [(.s 31)], false⟩,
    ⟨(some (29, false)), (some 33), .not 33 (.s 32), false⟩,
    ⟨none, (some 34), .pk 34 (.s 29) (.k (Value.bool true)) (.s 33), false⟩,
    ⟨none, (some 35), .mv 35 (.s 34), false⟩,
    ⟨(some (35, false)), (some 36), .fa 36 3 (.s 10), false⟩,
    ⟨(some (35, false)), (some 37), .ld 37 false 1 (.s 36), false⟩,
    ⟨(some (35, false)), (some 38), .call (some 38) 93 true [(.s 37)], true⟩,
    ⟨(some (35, false)), (some 39), .not 39 (.s 38), false⟩,
    ⟨none, (some 40), .pk 40 (.s 35) (.k (Value.bool true)) (.s 39), false⟩,
    ⟨none, (some 41), .mv 41 (.s 40), false⟩,
    ⟨(some (41, false)), (some 42), .fa 42 1 (.s 10), false⟩,
    ⟨(some (41, false)), (some 43), .ld 43 false 1 (.s 42), false⟩,
    ⟨(some (41, false)), (some 44), .bin 44 .eql (.s 43) (.k (Value.int .i64 0)), false⟩,
    ⟨(some (41, false)), (some 45), .mv 45 (.s 44), false⟩,
    ⟨(some (45, true)), (some 46), .fa 46 3 (.s 10), false⟩,
    ⟨(some (45, true)), (some 47), .ld 47 false 1 (.s 46), false⟩,
    ⟨(some (45, true)), (some 48), .bin 48 .eql (.s 47) (.k (Value.int .i64 0)), true⟩,
    ⟨(some (41, false)), (some 49), .pk 49 (.s 45) (.s 48) (.k (Value.bool false)), false⟩,
    ⟨none, (some 50), .pk 50 (.s 41) (.k (Value.bool true)) (.s 49), false⟩]))
  (.cond (.s 50) (.seq (.ops [⟨none, (some 6), .mv 6 (.k (Value.int .i64 50)), false⟩])
  .ret) .skip))
  (.seq (.seq (.keep [1, 2, 7, 8, 9, 10, 12, 13, 14]) (.ops [⟨none, (some 51), .fa 51 0 (.s 10), false⟩,
    ⟨none, (some 52), .ld 52 false 1 (.s 51), false⟩,
    ⟨none, (some 53), .mv 53 (.s 7), false⟩,
    ⟨none, (some 54), .binc 54 .sub (.s 52) (.s 53), false⟩,
    ⟨none, (some 11), .mv 11 (.s 54), false⟩]))
  (.seq (.seq (.seq (.keep [1, 2, 8, 9, 10, 11, 12, 13, 14]) (.ops [⟨none, (some 55), .mv 55 (.s 11), false⟩,
    ⟨none, (some 56), .bin 56 .lss (.s 55) (.k (Value.int .i64 0)), false⟩,
    ⟨none, (some 57), .mv 57 (.s 56), false⟩,
    ⟨(some (57, false)), (some 58), .mv 58 (.s 9), false⟩,
    ⟨(some (57, false)), (some 59), .bin 59 .gtr (.s 58) (.k (Value.int .i64 0)), false⟩,
    ⟨(some (57, false)), (some 60), .mv 60 (.s 59), false⟩,
    ⟨(some (60, true)), (some 61), .mv 61 (.s 11), false⟩,
    ⟨(some (60, true)), (some 62), .bin 62 .eql (.s 61) (.k (Value.int .i64 0)), false⟩,
    ⟨(some (57, false)), (some 63), .pk 63 (.s 60) (.s 62) (.k (Value.bool false)), false⟩,
    ⟨none, (some 64), .pk 64 (.s 57) (.k (Value.bool true)) (.s 63), true⟩,
    ⟨none, (some 65), .mv 65 (.s 64), false⟩,
    ⟨(some (65, false)), (some 66), .mv 66 (.s 11), false⟩,
    ⟨(some (65, false)), (some 67), .fa 67 2 (.s 10), false⟩,
    ⟨(some (65, false)), (some 68), .ld 68 false 1 (.s 67), false⟩,
    ⟨(some (65, false)), (some 69), .mv 69 (.s 8), false⟩,
    ⟨(some (65, false)), (some 70), .binc 70 .sub (.s 68) (.s 69), false⟩,
    ⟨(some (65, false)), (some 71), .bin 71 .neq (.s 66) (.s 70), false⟩,
    ⟨none, (some 72), .pk 72 (.s 65) (.k (Value.bool true)) (.s 71), false⟩]))
  (.cond (.s 72) (.seq (.ops [⟨none, (some 6), .mv 6 (.k (Value.int .i64 50)), false⟩])
  .ret) .skip))
  (.seq (.keep [1, 2, 10, 12, 13, 14]) (.dr [] [(0, true, ⟨none, (some 73), .fa 73 0 (.s 10), false⟩),
    (2, true, ⟨none, (some 75), .fa 75 1 (.s 10), false⟩),
    (5, true, ⟨none, (some 78), .fa 78 2 (.s 10), false⟩),
    (7, true, ⟨none, (some 80), .fa 80 3 (.s 10), false⟩),
    (1, true, ⟨none, (some 74), .ld 74 false 1 (.s 73), false⟩),
    (3, true, ⟨none, (some 76), .ld 76 false 1 (.s 75), false⟩),
    (4, true, ⟨none, (some 77), .binc 77 .add (.s 74) (.s 76), false⟩),
    (10, true, ⟨none, (some 7), .mv 7 (.s 77), false⟩),
    (6, true, ⟨none, (some 79), .ld 79 false 1 (.s 78), false⟩),
    (8, true, ⟨none, (some 81), .ld 81 false 1 (.s 80), false⟩),
    (9, true, ⟨none, (some 82), .binc 82 .add (.s 79) (.s 81), true⟩),
    (11, true, ⟨none, (some 8), .mv 8 (.s 82), false⟩)])))))))
  (.ops [⟨none, (some 83), .binc 83 .add (.s 14) (.k (Value.int .i64 1)), false⟩,
    ⟨none, (some 14), .mv 14 (.s 83), false⟩])))))))
  (.seq (.seq (.seq (.keep [1, 2, 7, 8]) (.ops [⟨none, (some 84), .mv 84 (.s 7), false⟩,
    ⟨none, (some 85), .mv 85 (.s 1), false⟩,
    ⟨none, (some 86), .bin 86 .gtr (.s 84) (.s 85), false⟩,
    ⟨none, (some 87), .mv 87 (.s 86), false⟩,
    ⟨(some (87, false)), (some 88), .mv 88 (.s 8), false⟩,
    ⟨(some (87, false)), (some 89), .mv 89 (.s 2), false⟩,
    ⟨(some (87, false)), (some 90), .bin 90 .gtr (.s 88) (.s 89), false⟩,
    ⟨none, (some 91), .pk 91 (.s 87) (.k (Value.bool true)) (.s 90), false⟩,
    ⟨none, (some 92), .mv 92 (.s 91), false⟩,
    ⟨(some (92, false)), (some 93), .mv 93 (.s 1), true⟩,
    ⟨(some (92, false)), (some 94), .mv 94 (.s 7), false⟩,
    ⟨(some (92, false)), (some 95), .binc 95 .sub (.s 93) (.s 94), false⟩,
    ⟨(some (92, false)), (some 96), .mv 96 (.s 2), false⟩,
    ⟨(some (92, false)), (some 97), .mv 97 (.s 8), false⟩,
    ⟨(some (92, false)), (some 98), .binc 98 .sub (.s 96) (.s 97), false⟩,
    ⟨(some (92, false)), (some 99), .bin 99 .neq (.s 95) (.s 98), false⟩,
    ⟨none, (some 100), .pk 100 (.s 92) (.k (Value.bool true)) (.s 99), false⟩]))
  (.cond (.s 100) (.seq (.ops [⟨none, (some 6), .mv 6 (.k (Value.int .i64 50)), false⟩])
  .ret) .skip))
  (.seq (.ops [⟨none, (some 6), .mv 6 (.k (Value.int .i64 0)), false⟩])
  .ret)))))
theorem cc41 : (Tryd.f41.body).bind (cc Tryd.prog Tryd.f41.ntmps A41) = some S41 := by kernel_rfl
def R41 : List RR := [.sl 6]
theorem cr41 : Tryd.f41.results.toList.map (crr Tryd.prog) = R41.map some := by kernel_rfl
theorem nm41 : (Tryd.f41.name == "runtime.NumGoroutine") = false := by kernel_rfl
theorem fn41 : Tryd.prog.funcs[41]? = some Tryd.f41 := by kernel_rfl
theorem bd41 : ∃ b, Tryd.f41.body = some b ∧ cc Tryd.prog Tryd.f41.ntmps A41 b = some S41 := Option.bind_eq_some_iff.1 cc41
theorem sd41 {G : World → Prop} {T : FuncId → Contract} {C : Contract} (hT : ∀ f, Sound G Tryd.prog f (T f)) (hl : C.lawful) (hC : ∀ args st K, C.wp args st K → args.length ≤ 101 ∧ ∃ os op, xv T st.n S41 (st0 args st) (retK R41 st.n os K) (panK st.n op K)) : Sound G Tryd.prog 41 C := by
  obtain ⟨b, hb, hc⟩ := bd41
  rw [xv_eq] at hC
  exact sound_of_ev mo fn41 hb nm41 hc cr41 hT hl hC

/-! 93: redline/edits.count -/
def A93 : Ann := ⟨fun _ _ => 0, fun _ => none, fun r => if r = 1 then some (false, [0]) else none, fun _ => []⟩
def S93 : SCode :=
  (.seq (.ops [⟨none, (some 2), .mv 2 (.k (Value.bool false)), false⟩])
  (.seq (.seq (.keep [0]) (.ops [⟨none, (some 3), .mv 3 (.s 0), false⟩,
    ⟨none, (some 4), .bin 4 .geq (.s 3) (.k (Value.int .i64 0)), false⟩,
    ⟨none, (some 5), .mv 5 (.s 4), false⟩,
    ⟨(some (5, true)), (some 6), .mv 6 (.s 0), false⟩,
    ⟨(some (5, true)), (some 7), .bin 7 .leq (.s 6) (.k (Value.int .i64 2147483647)), false⟩,
    ⟨none, (some 8), .pk 8 (.s 5) (.s 7) (.k (Value.bool false)), false⟩,
    ⟨none, (some 2), .mv 2 (.s 8), false⟩]))
  .ret))
theorem cc93 : (Tryd.f93.body).bind (cc Tryd.prog Tryd.f93.ntmps A93) = some S93 := by kernel_rfl
def R93 : List RR := [.sl 2]
theorem cr93 : Tryd.f93.results.toList.map (crr Tryd.prog) = R93.map some := by kernel_rfl
theorem nm93 : (Tryd.f93.name == "runtime.NumGoroutine") = false := by kernel_rfl
theorem fn93 : Tryd.prog.funcs[93]? = some Tryd.f93 := by kernel_rfl
theorem bd93 : ∃ b, Tryd.f93.body = some b ∧ cc Tryd.prog Tryd.f93.ntmps A93 b = some S93 := Option.bind_eq_some_iff.1 cc93
theorem sd93 {G : World → Prop} {T : FuncId → Contract} {C : Contract} (hT : ∀ f, Sound G Tryd.prog f (T f)) (hl : C.lawful) (hC : ∀ args st K, C.wp args st K → args.length ≤ 9 ∧ ∃ os op, xv T st.n S93 (st0 args st) (retK R93 st.n os K) (panK st.n op K)) : Sound G Tryd.prog 93 C := by
  obtain ⟨b, hb, hc⟩ := bd93
  rw [xv_eq] at hC
  exact sound_of_ev mo fn93 hb nm93 hc cr93 hT hl hC

/-! 46: redline/redlineref05.Check -/
def A46 : Ann := ⟨fun r i => if r = 8 ∧ i = 7 then 1 else if r = 8 ∧ i = 13 then 1 else if r = 8 ∧ i = 19 then 1 else 0, fun _ => none, fun r => if r = 1 then some (false, [0, 1, 2]) else if r = 5 then some (false, [0, 1, 2, 7, 8, 9]) else if r = 6 then some (false, [0, 1, 2, 7, 8, 9]) else if r = 7 then some (false, [0, 1, 2, 7, 8, 9]) else if r = 8 then some (false, [0, 1, 2, 7, 8, 9, 10]) else if r = 10 then some (false, [0, 1, 2, 7, 8, 9, 10]) else if r = 12 then some (false, [0, 1, 2, 9, 10]) else if r = 13 then some (false, [0, 1, 2, 7, 9, 10]) else if r = 14 then some (false, [1, 2, 7, 8]) else none, fun r => if r = 5 then [0, 1, 2, 7, 8, 9] else []⟩
def S46 : SCode :=
  (.seq (.ops [⟨none, (some 6), .mv 6 (.k (Value.int .i64 0)), false⟩])
  (.seq (.seq (.seq (.keep [0, 1, 2]) (.ops [⟨none, (some 11), .mv 11 (.s 1), false⟩,
    ⟨none, (some 12), .bin 12 .lss (.s 11) (.k (Value.int .i64 0)), false⟩,
    ⟨none, (some 13), .mv 13 (.s 12), false⟩,
    ⟨(some (13, false)), (some 14), .mv 14 (.s 2), false⟩,
    ⟨(some (13, false)), (some 15), .bin 15 .lss (.s 14) (.k (Value.int .i64 0)), false⟩,
    ⟨none, (some 16), .pk 16 (.s 13) (.k (Value.bool true)) (.s 15), false⟩]))
  (.cond (.s 16) (.seq (.ops [⟨none, (some 6), .mv 6 (.k (Value.int .i64 50)), false⟩])
  .ret) .skip))
  (.seq (.ops [⟨none, (some 7), .mv 7 (.k (Value.int .i64 0)), false⟩,
    ⟨none, (some 8), .mv 8 (.k (Value.int .i64 0)), false⟩])
  (.seq (.seq (.ops [⟨none, (some 9), .mv 9 (.k (Value.int .i64 0)), false⟩])
  (.block 0 (.loop [0, 1, 2, 7, 8, 9] (.seq (.seq (.seq (.keep [0, 1, 2, 7, 8, 9]) (.ops [⟨none, (some 17), .mv 17 (.s 9), false⟩,
    ⟨none, (some 18), .mv 18 (.s 0), false⟩,
    ⟨none, (some 19), .len 19 (.s 18), false⟩,
    ⟨none, (some 20), .bin 20 .lss (.s 17) (.s 19), false⟩]))
  (.cond (.s 20) .skip (.exit 0)))
  (.seq (.block 1 (.seq (.seq (.keep [0, 1, 2, 7, 8, 9]) (.ops [⟨none, (some 23), .mv 23 (.s 0), false⟩,
    ⟨none, (some 24), .mv 24 (.s 9), false⟩,
    ⟨none, (some 25), .ia 25 4 (.s 23) (.s 24), false⟩,
    ⟨none, (some 26), .ld 26 true 4 (.s 25), false⟩,
    ⟨none, (some 10), .al 10 74 [(Value.int .i64 0), (Value.int .i64 0), (Value.int .i64 0), (Value.int .i64 0)], false⟩,
    ⟨none, none, .st true 4 (.s 10) (.s 26), false⟩]))
  (.seq (.seq (.seq (.keep [0, 1, 2, 7, 8, 9, 10]) (.ops [⟨none, (some 27), .fa 27 0 (.s 10), false⟩,
    ⟨none, (some 28), .ld 28 false 1 (.s 27), false⟩,
    ⟨none, (some 29), .call (some 29) 95 false [(.s 28)], false⟩,
    ⟨none, (some 30), .not 30 (.s 29), false⟩,
    ⟨none, (some 31), .mv 31 (.s 30), false⟩,
    ⟨(some (31, false)), (some 32), .fa 32 1 (.s 10), false⟩,
    ⟨(some (31, false)), (some 33), .ld 33 false 1 (.s 32), false⟩,
    ⟨(some (31, false)), (some 34), .call (some 34) 95 true [(.s 33)], false⟩,
    ⟨(some (31, false)), (some 35), .not 35 (.s 34), false⟩,
    ⟨none, (some 36), .pk 36 (.s 31) (.k (Value.bool true)) (.s 35), true⟩,
    ⟨none, (some 37), .mv 37 (.s 36), false⟩,
    ⟨(some (37, false)), (some 38), .fa 38 2 (.s 10), false⟩,
    ⟨(some (37, false)), (some 39), .ld 39 false 1 (.s 38), false⟩,
    ⟨(some (37, false)), (some 40), .call (some 40) 95 true [(.s 39)], false⟩,
    ⟨(some (37, false)), (some 41), .not 41 (.s 40), false⟩,
    ⟨none, (some 42), .pk 42 (.s 37) (.k (Value.bool true)) (.s 41), false⟩,
    ⟨none, (some 43), .mv 43 (.s 42), false⟩,
    ⟨(some (43, false)), (some 44), .fa 44 3 (.s 10), false⟩,
    ⟨(some (43, false)), (some 45), .ld 45 false 1 (.s 44), false⟩,
    ⟨(some (43, false)), (some 46), .call (some 46) 95 true [(.s 45)], true⟩,
    ⟨(some (43, false)), (some 47), .not 47 (.s 46), false⟩,
    ⟨none, (some 48), .pk 48 (.s 43) (.k (Value.bool true)) (.s 47), false⟩,
    ⟨none, (some 49), .mv 49 (.s 48), false⟩,
    ⟨(some (49, false)), (some 50), .fa 50 1 (.s 10), false⟩,
    ⟨(some (49, false)), (some 51), .ld 51 false 1 (.s 50), false⟩,
    ⟨(some (49, false)), (some 52), .fa 52 3 (.s 10), false⟩,
    ⟨(some (49, false)), (some 53), .ld 53 false 1 (.s 52), false⟩,
    ⟨(some (49, false)), (some 54), .binc 54 .add (.s 51) (.s 53), false⟩,
    ⟨(some (49, false)), (some 55), .bin 55 .eql (.s 54) (.k (Value.int .i64 0)), false⟩,
    ⟨none, (some 56), .pk 56 (.s 49) (.k (Value.bool true)) (.s 55), true⟩]))
  (.cond (.s 56) (.seq (.ops [⟨none, (some 6), .mv 6 (.k (Value.int .i64 50)), false⟩])
  .ret) .skip))
  (.seq (.seq (.seq (.keep [0, 1, 2, 7, 8, 9, 10]) (.ops [⟨none, (some 57), .fa 57 0 (.s 10), false⟩,
    ⟨none, (some 58), .ld 58 false 1 (.s 57), false⟩,
    ⟨none, (some 59), .mv 59 (.s 7), false⟩,
    ⟨none, (some 60), .binc 60 .sub (.s 58) (.s 59), false⟩,
    ⟨none, (some 61), .fa 61 2 (.s 10), false⟩,
    ⟨none, (some 62), .ld 62 false 1 (.s 61), false⟩,
    ⟨none, (some 63), .mv 63 (.s 8), false⟩,
    ⟨none, (some 64), .binc 64 .sub (.s 62) (.s 63), false⟩,
    ⟨none, (some 65), .bin 65 .neq (.s 60) (.s 64), false⟩,
    ⟨none, (some 66), .mv 66 (.s 65), true⟩,
    ⟨(some (66, false)), (some 67), .fa 67 0 (.s 10), false⟩,
    ⟨(some (66, false)), (some 68), .ld 68 false 1 (.s 67), false⟩,
    ⟨(some (66, false)), (some 69), .mv 69 (.s 7), false⟩,
    ⟨(some (66, false)), (some 70), .bin 70 .lss (.s 68) (.s 69), false⟩,
    ⟨none, (some 71), .pk 71 (.s 66) (.k (Value.bool true)) (.s 70), false⟩,
    ⟨none, (some 72), .mv 72 (.s 71), false⟩,
    ⟨(some (72, false)), (some 73), .mv 73 (.s 9), false⟩,
    ⟨(some (72, false)), (some 74), .bin 74 .gtr (.s 73) (.k (Value.int .i64 0)), false⟩,
    ⟨(some (72, false)), (some 75), .mv 75 (.s 74), false⟩,
    ⟨(some (75, true)), (some 76), .fa 76 0 (.s 10), true⟩,
    ⟨(some (75, true)), (some 77), .ld 77 false 1 (.s 76), false⟩,
    ⟨(some (75, true)), (some 78), .mv 78 (.s 7), false⟩,
    ⟨(some (75, true)), (some 79), .bin 79 .eql (.s 77) (.s 78), false⟩,
    ⟨(some (72, false)), (some 80), .pk 80 (.s 75) (.s 79) (.k (Value.bool false)), false⟩,
    ⟨none, (some 81), .pk 81 (.s 72) (.k (Value.bool true)) (.s 80), false⟩]))
  (.cond (.s 81) (.seq (.ops [⟨none, (some 6), .mv 6 (.k (Value.int .i64 50)), false⟩])
  .ret) .skip))
  (.seq (.seq (.keep [0, 1, 2, 9, 10]) (.ops [⟨none, (some 82), .fa 82 0 (.s 10), false⟩,
    ⟨none, (some 83), .ld 83 false 1 (.s 82), false⟩,
    ⟨none, (some 84), .fa 84 1 (.s 10), false⟩,
    ⟨none, (some 85), .ld 85 false 1 (.s 84), false⟩,
    ⟨none, (some 86), .binc 86 .add (.s 83) (.s 85), false⟩,
    ⟨none, (some 7), .mv 7 (.s 86), false⟩]))
  (.seq (.keep [0, 1, 2, 7, 9, 10]) (.ops [⟨none, (some 87), .fa 87 2 (.s 10), false⟩,
    ⟨none, (some 88), .ld 88 false 1 (.s 87), false⟩,
    ⟨none, (some 89), .fa 89 3 (.s 10), false⟩,
    ⟨none, (some 90), .ld 90 false 1 (.s 89), false⟩,
    ⟨none, (some 91), .binc 91 .add (.s 88) (.s 90), false⟩,
    ⟨none, (some 8), .mv 8 (.s 91), false⟩])))))))
  (.seq (.keep [0, 1, 2, 7, 8, 9]) (.ops [⟨none, (some 21), .mv 21 (.s 9), false⟩,
    ⟨none, (some 22), .binc 22 .add (.s 21) (.k (Value.int .i64 1)), false⟩,
    ⟨none, (some 9), .mv 9 (.s 22), false⟩])))))))
  (.seq (.seq (.seq (.keep [1, 2, 7, 8]) (.ops [⟨none, (some 92), .mv 92 (.s 7), false⟩,
    ⟨none, (some 93), .mv 93 (.s 1), false⟩,
    ⟨none, (some 94), .bin 94 .gtr (.s 92) (.s 93), false⟩,
    ⟨none, (some 95), .mv 95 (.s 94), false⟩,
    ⟨(some (95, false)), (some 96), .mv 96 (.s 8), false⟩,
    ⟨(some (95, false)), (some 97), .mv 97 (.s 2), false⟩,
    ⟨(some (95, false)), (some 98), .bin 98 .gtr (.s 96) (.s 97), false⟩,
    ⟨none, (some 99), .pk 99 (.s 95) (.k (Value.bool true)) (.s 98), false⟩,
    ⟨none, (some 100), .mv 100 (.s 99), false⟩,
    ⟨(some (100, false)), (some 101), .mv 101 (.s 1), true⟩,
    ⟨(some (100, false)), (some 102), .mv 102 (.s 7), false⟩,
    ⟨(some (100, false)), (some 103), .binc 103 .sub (.s 101) (.s 102), false⟩,
    ⟨(some (100, false)), (some 104), .mv 104 (.s 2), false⟩,
    ⟨(some (100, false)), (some 105), .mv 105 (.s 8), false⟩,
    ⟨(some (100, false)), (some 106), .binc 106 .sub (.s 104) (.s 105), false⟩,
    ⟨(some (100, false)), (some 107), .bin 107 .neq (.s 103) (.s 106), false⟩,
    ⟨none, (some 108), .pk 108 (.s 100) (.k (Value.bool true)) (.s 107), false⟩]))
  (.cond (.s 108) (.seq (.ops [⟨none, (some 6), .mv 6 (.k (Value.int .i64 50)), false⟩])
  .ret) .skip))
  (.seq (.ops [⟨none, (some 6), .mv 6 (.k (Value.int .i64 0)), false⟩])
  .ret))))))
theorem cc46 : (Tryd.f46.body).bind (cc Tryd.prog Tryd.f46.ntmps A46) = some S46 := by kernel_rfl
def R46 : List RR := [.sl 6]
theorem cr46 : Tryd.f46.results.toList.map (crr Tryd.prog) = R46.map some := by kernel_rfl
theorem nm46 : (Tryd.f46.name == "runtime.NumGoroutine") = false := by kernel_rfl
theorem fn46 : Tryd.prog.funcs[46]? = some Tryd.f46 := by kernel_rfl
theorem bd46 : ∃ b, Tryd.f46.body = some b ∧ cc Tryd.prog Tryd.f46.ntmps A46 b = some S46 := Option.bind_eq_some_iff.1 cc46
theorem sd46 {G : World → Prop} {T : FuncId → Contract} {C : Contract} (hT : ∀ f, Sound G Tryd.prog f (T f)) (hl : C.lawful) (hC : ∀ args st K, C.wp args st K → args.length ≤ 109 ∧ ∃ os op, xv T st.n S46 (st0 args st) (retK R46 st.n os K) (panK st.n op K)) : Sound G Tryd.prog 46 C := by
  obtain ⟨b, hb, hc⟩ := bd46
  rw [xv_eq] at hC
  exact sound_of_ev mo fn46 hb nm46 hc cr46 hT hl hC

/-! 95: redline/redlineref05.count -/
def A95 : Ann := ⟨fun _ _ => 0, fun _ => none, fun r => if r = 1 then some (false, [0]) else none, fun _ => []⟩
def S95 : SCode :=
  (.seq (.ops [⟨none, (some 2), .mv 2 (.k (Value.bool false)), false⟩])
  (.seq (.seq (.keep [0]) (.ops [⟨none, (some 3), .mv 3 (.s 0), false⟩,
    ⟨none, (some 4), .bin 4 .geq (.s 3) (.k (Value.int .i64 0)), false⟩,
    ⟨none, (some 5), .mv 5 (.s 4), false⟩,
    ⟨(some (5, true)), (some 6), .mv 6 (.s 0), false⟩,
    ⟨(some (5, true)), (some 7), .bin 7 .leq (.s 6) (.k (Value.int .i64 2147483647)), false⟩,
    ⟨none, (some 8), .pk 8 (.s 5) (.s 7) (.k (Value.bool false)), false⟩,
    ⟨none, (some 2), .mv 2 (.s 8), false⟩]))
  .ret))
theorem cc95 : (Tryd.f95.body).bind (cc Tryd.prog Tryd.f95.ntmps A95) = some S95 := by kernel_rfl
def R95 : List RR := [.sl 2]
theorem cr95 : Tryd.f95.results.toList.map (crr Tryd.prog) = R95.map some := by kernel_rfl
theorem nm95 : (Tryd.f95.name == "runtime.NumGoroutine") = false := by kernel_rfl
theorem fn95 : Tryd.prog.funcs[95]? = some Tryd.f95 := by kernel_rfl
theorem bd95 : ∃ b, Tryd.f95.body = some b ∧ cc Tryd.prog Tryd.f95.ntmps A95 b = some S95 := Option.bind_eq_some_iff.1 cc95
theorem sd95 {G : World → Prop} {T : FuncId → Contract} {C : Contract} (hT : ∀ f, Sound G Tryd.prog f (T f)) (hl : C.lawful) (hC : ∀ args st K, C.wp args st K → args.length ≤ 9 ∧ ∃ os op, xv T st.n S95 (st0 args st) (retK R95 st.n os K) (panK st.n op K)) : Sound G Tryd.prog 95 C := by
  obtain ⟨b, hb, hc⟩ := bd95
  rw [xv_eq] at hC
  exact sound_of_ev mo fn95 hb nm95 hc cr95 hT hl hC

/-! 42: redline/normal.span -/
def A42 : Ann := ⟨fun _ _ => 0, fun _ => none, fun r => if r = 2 then some (false, [0]) else if r = 3 then some (false, [0, 1]) else none, fun _ => []⟩
def S42 : SCode :=
  (.seq (.ops [⟨none, (some 4), .mv 4 (.k (Value.string ⟨#[]⟩)), false⟩])
  (.seq (.seq (.ops [⟨none, (some 5), .mv 5 (.s 1), false⟩,
    ⟨none, (some 6), .bin 6 .eql (.s 5) (.k (Value.int .i64 1)), false⟩])
  (.cond (.s 6) (.seq (.seq (.keep [0]) (.ops [⟨none, (some 7), .mv 7 (.s 0), false⟩,
    ⟨none, (some 8), .binc 8 .add (.s 7) (.k (Value.int .i64 1)), false⟩,
    ⟨none, (some 9), .call (some 9) 32 false [(.s 8)], false⟩,
    ⟨none, (some 4), .mv 4 (.s 9), false⟩]))
  .ret) .skip))
  (.seq (.seq (.keep [0, 1]) (.ops [⟨none, (some 10), .mv 10 (.s 0), false⟩,
    ⟨none, (some 11), .binc 11 .add (.s 10) (.k (Value.int .i64 1)), false⟩,
    ⟨none, (some 12), .call (some 12) 32 false [(.s 11)], false⟩,
    ⟨none, (some 13), .bin 13 .add (.s 12) (.k (Value.string ⟨#[44]⟩)), false⟩,
    ⟨none, (some 14), .mv 14 (.s 0), false⟩,
    ⟨none, (some 15), .mv 15 (.s 1), false⟩,
    ⟨none, (some 16), .binc 16 .add (.s 14) (.s 15), false⟩,
    ⟨none, (some 17), .call (some 17) 32 false [(.s 16)], false⟩,
    ⟨none, (some 18), .bin 18 .add (.s 13) (.s 17), false⟩,
    ⟨none, (some 4), .mv 4 (.s 18), true⟩]))
  .ret)))
theorem cc42 : (Tryd.f42.body).bind (cc Tryd.prog Tryd.f42.ntmps A42) = some S42 := by kernel_rfl
def R42 : List RR := [.sl 4]
theorem cr42 : Tryd.f42.results.toList.map (crr Tryd.prog) = R42.map some := by kernel_rfl
theorem nm42 : (Tryd.f42.name == "runtime.NumGoroutine") = false := by kernel_rfl
theorem fn42 : Tryd.prog.funcs[42]? = some Tryd.f42 := by kernel_rfl
theorem bd42 : ∃ b, Tryd.f42.body = some b ∧ cc Tryd.prog Tryd.f42.ntmps A42 b = some S42 := Option.bind_eq_some_iff.1 cc42
theorem sd42 {G : World → Prop} {T : FuncId → Contract} {C : Contract} (hT : ∀ f, Sound G Tryd.prog f (T f)) (hl : C.lawful) (hC : ∀ args st K, C.wp args st K → args.length ≤ 19 ∧ ∃ os op, xv T st.n S42 (st0 args st) (retK R42 st.n os K) (panK st.n op K)) : Sound G Tryd.prog 42 C := by
  obtain ⟨b, hb, hc⟩ := bd42
  rw [xv_eq] at hC
  exact sound_of_ev mo fn42 hb nm42 hc cr42 hT hl hC

/-! 44: (*redline/normal.printer).all -/
def A44 : Ann := ⟨fun _ _ => 0, fun _ => none, fun r => if r = 2 then some (false, [0, 1, 10, 11, 12]) else if r = 3 then some (false, [0, 1, 7, 10, 11, 12]) else if r = 4 then some (false, [0, 1, 8, 9, 10, 11, 12]) else if r = 6 then some (false, [0, 1, 10, 11, 12]) else none, fun r => if r = 1 then [0, 1, 10, 11, 12] else []⟩
def S44 : SCode :=
  (.seq (.ops [⟨none, (some 10), .mv 10 (.s 2), false⟩,
    ⟨none, (some 11), .len 11 (.s 10), false⟩,
    ⟨none, (some 12), .mv 12 (.k (Value.int .i64 0)), false⟩])
  (.block 0 (.loop [0, 1, 10, 11, 12] (.seq (.ops [⟨none, (some 13), .bin 13 .lss (.s 12) (.s 11), false⟩])
  (.seq (.cond (.s 13) .skip (.exit 0))
  (.seq (.block 1 (.seq (.seq (.keep [0, 1, 10, 11, 12]) (.ops [⟨none, (some 14), .ia 14 1 (.s 10) (.s 12), false⟩,
    ⟨none, (some 15), .ld 15 false 1 (.s 14), false⟩,
    ⟨none, (some 7), .mv 7 (.s 15), false⟩]))
  (.seq (.seq (.keep [0, 1, 7, 10, 11, 12]) (.ops [⟨none, (some 17), .mv 17 (.s 7), false⟩,
    ⟨none, (some 18), .call (some 18) 58 false [(.s 17)], false⟩,
    ⟨none, (some 16), .mv 16 (.s 18), false⟩,
    ⟨none, (some 19), .ex 19 (.s 16) 0, false⟩,
    ⟨none, (some 20), .ex 20 (.s 16) 1, false⟩,
    ⟨none, (some 8), .mv 8 (.s 19), false⟩,
    ⟨none, (some 9), .mv 9 (.s 20), false⟩]))
  (.seq (.seq (.keep [0, 1, 8, 9, 10, 11, 12]) (.ops [⟨none, (some 21), .mv 21 (.s 0), false⟩,
    ⟨none, (some 22), .nc 22 (.s 21), false⟩,
    ⟨none, (some 23), .fa 23 0 (.s 22), false⟩,
    ⟨none, (some 24), .mv 24 (.s 1), false⟩,
    ⟨none, (some 25), .mv 25 (.s 8), false⟩,
    ⟨none, (some 26), .bin 26 .add (.s 24) (.s 25), false⟩,
    ⟨none, (some 27), .bin 27 .add (.s 26) (.k (Value.string ⟨#[10]⟩)), false⟩,
    ⟨none, (some 28), .call (some 28) 43 false [(.s 23), (.s 27)], false⟩]))
  (.seq (.ops [⟨none, (some 29), .mv 29 (.s 9), false⟩,
    ⟨none, (some 30), .not 30 (.s 29), false⟩])
  (.cond (.s 30) (.seq (.keep [0, 1, 10, 11, 12]) (.ops [⟨none, (some 31), .mv 31 (.s 0), false⟩,
    ⟨none, (some 32), .nc 32 (.s 31), false⟩,
    ⟨none, (some 33), .fa 33 0 (.s 32), false⟩,
    ⟨none, (some 34), .call (some 34) 43 false [(.s 33), (.k (Value.string ⟨#[92, 32, 78, 111, 32, 110, 101, 119, 108, 105, 110, 101, 32, 97, 116, 32, 101, 110, 100, 32, 111, 102, 32, 102, 105, 108, 101, 10]⟩))], false⟩])) .skip))))))
  (.ops [⟨none, (some 35), .binc 35 .add (.s 12) (.k (Value.int .i64 1)), false⟩,
    ⟨none, (some 12), .mv 12 (.s 35), false⟩])))))))
theorem cc44 : (Tryd.f44.body).bind (cc Tryd.prog Tryd.f44.ntmps A44) = some S44 := by kernel_rfl
def R44 : List RR := []
theorem cr44 : Tryd.f44.results.toList.map (crr Tryd.prog) = R44.map some := by kernel_rfl
theorem nm44 : (Tryd.f44.name == "runtime.NumGoroutine") = false := by kernel_rfl
theorem fn44 : Tryd.prog.funcs[44]? = some Tryd.f44 := by kernel_rfl
theorem bd44 : ∃ b, Tryd.f44.body = some b ∧ cc Tryd.prog Tryd.f44.ntmps A44 b = some S44 := Option.bind_eq_some_iff.1 cc44
theorem sd44 {G : World → Prop} {T : FuncId → Contract} {C : Contract} (hT : ∀ f, Sound G Tryd.prog f (T f)) (hl : C.lawful) (hC : ∀ args st K, C.wp args st K → args.length ≤ 36 ∧ ∃ os op, xv T st.n S44 (st0 args st) (retK R44 st.n os K) (panK st.n op K)) : Sound G Tryd.prog 44 C := by
  obtain ⟨b, hb, hc⟩ := bd44
  rw [xv_eq] at hC
  exact sound_of_ev mo fn44 hb nm44 hc cr44 hT hl hC

/-! 47: redline/redlineref12.change -/
def A47 : Ann := ⟨fun _ _ => 0, fun r => if r = 4 then some ([], [(0, true), (4, true), (6, true), (1, true), (5, true), (7, true), (2, false), (3, true), (8, false), (9, true), (10, true)]) else if r = 6 then some ([], [(0, true), (2, true), (6, true), (1, true), (3, true), (7, true), (4, false), (5, true), (8, false), (9, true), (10, true)]) else if r = 2 then some ([], [(0, true), (2, true), (6, true), (8, true), (1, true), (3, true), (7, true), (9, true), (4, false), (5, true), (10, false), (11, true), (12, true)]) else none, fun r => if r = 2 then some (false, [1, 2, 3]) else if r = 3 then some (false, [1, 2, 3]) else if r = 4 then some (false, [1, 2, 3]) else if r = 5 then some (false, [1, 2, 3]) else if r = 6 then some (false, [1, 2, 3]) else if r = 7 then some (false, [1, 2, 3, 7]) else if r = 8 then some (false, [1, 2, 3, 7]) else if r = 9 then some (false, [1, 2, 3, 7, 8]) else if r = 10 then some (false, [1, 2, 3, 7, 8]) else if r = 11 then some (false, [1, 2, 3, 7, 8]) else if r = 12 then some (false, [2, 3, 7]) else if r = 13 then some (false, [2, 3, 7]) else if r = 14 then some (false, [2, 3, 7]) else if r = 15 then some (false, [2, 3, 7, 9]) else if r = 16 then some (false, [2, 3, 7, 9]) else if r = 17 then some (false, [2, 3, 7, 9]) else none, fun r => if r = 9 then [1, 2, 3, 7, 8] else if r = 15 then [2, 3, 7, 9] else []⟩
def S47_0 : SCode :=
  (.ops [⟨none, (some 3), .bx 3 74 4 (.s 0), false⟩,
    ⟨none, (some 6), .mv 6 (.k (Value.string ⟨#[]⟩)), false⟩])
def S47_1 : SCode :=
  (.ops [⟨none, (some 7), .mv 7 (.k (Value.string ⟨#[]⟩)), false⟩])
def S47_2 : SCode :=
  (.block 0 (.seq (.seq (.keep [1, 2, 3]) (.ops [⟨none, (some 23), .fa 23 1 (.s 3), false⟩,
    ⟨none, (some 24), .ld 24 false 1 (.s 23), false⟩,
    ⟨none, (some 25), .bin 25 .eql (.s 24) (.k (Value.int .i64 0)), false⟩,
    ⟨none, (some 22), .mv 22 (.s 25), false⟩]))
  (.cond (.s 22) (.seq (.keep [1, 2, 3]) (.dr [] [(0, true, ⟨none, (some 26), .fa 26 0 (.s 3), false⟩),
    (4, true, ⟨none, (some 30), .fa 30 2 (.s 3), false⟩),
    (6, true, ⟨none, (some 32), .fa 32 3 (.s 3), false⟩),
    (1, true, ⟨none, (some 27), .ld 27 false 1 (.s 26), false⟩),
    (5, true, ⟨none, (some 31), .ld 31 false 1 (.s 30), false⟩),
    (7, true, ⟨none, (some 33), .ld 33 false 1 (.s 32), false⟩),
    (2, false, ⟨none, (some 28), .call (some 28) 33 false [(.s 27)], false⟩),
    (3, true, ⟨none, (some 29), .bin 29 .add (.s 28) (.k (Value.string ⟨#[97]⟩)), false⟩),
    (8, false, ⟨none, (some 34), .call (some 34) 60 false [(.s 31), (.s 33)], false⟩),
    (9, true, ⟨none, (some 35), .bin 35 .add (.s 29) (.s 34), true⟩),
    (10, true, ⟨none, (some 7), .mv 7 (.s 35), false⟩)])) (.seq (.seq (.keep [1, 2, 3]) (.ops [⟨none, (some 37), .fa 37 3 (.s 3), false⟩,
    ⟨none, (some 38), .ld 38 false 1 (.s 37), false⟩,
    ⟨none, (some 39), .bin 39 .eql (.s 38) (.k (Value.int .i64 0)), false⟩,
    ⟨none, (some 36), .mv 36 (.s 39), false⟩]))
  (.cond (.s 36) (.seq (.keep [1, 2, 3]) (.dr [] [(0, true, ⟨none, (some 40), .fa 40 0 (.s 3), false⟩),
    (2, true, ⟨none, (some 42), .fa 42 1 (.s 3), false⟩),
    (6, true, ⟨none, (some 46), .fa 46 2 (.s 3), false⟩),
    (1, true, ⟨none, (some 41), .ld 41 false 1 (.s 40), false⟩),
    (3, true, ⟨none, (some 43), .ld 43 false 1 (.s 42), false⟩),
    (7, true, ⟨none, (some 47), .ld 47 false 1 (.s 46), false⟩),
    (4, false, ⟨none, (some 44), .call (some 44) 60 false [(.s 41), (.s 43)], false⟩),
    (5, true, ⟨none, (some 45), .bin 45 .add (.s 44) (.k (Value.string ⟨#[100]⟩)), false⟩),
    (8, false, ⟨none, (some 48), .call (some 48) 33 false [(.s 47)], false⟩),
    (9, true, ⟨none, (some 49), .bin 49 .add (.s 45) (.s 48), true⟩),
    (10, true, ⟨none, (some 7), .mv 7 (.s 49), false⟩)])) (.seq (.keep [1, 2, 3]) (.dr [] [(0, true, ⟨none, (some 10), .fa 10 0 (.s 3), false⟩),
    (2, true, ⟨none, (some 12), .fa 12 1 (.s 3), false⟩),
    (6, true, ⟨none, (some 16), .fa 16 2 (.s 3), false⟩),
    (8, true, ⟨none, (some 18), .fa 18 3 (.s 3), false⟩),
    (1, true, ⟨none, (some 11), .ld 11 false 1 (.s 10), false⟩),
    (3, true, ⟨none, (some 13), .ld 13 false 1 (.s 12), false⟩),
    (7, true, ⟨none, (some 17), .ld 17 false 1 (.s 16), false⟩),
    (9, true, ⟨none, (some 19), .ld 19 false 1 (.s 18), true⟩),
    (4, false, ⟨none, (some 14), .call (some 14) 60 false [(.s 11), (.s 13)], false⟩),
    (5, true, ⟨none, (some 15), .bin 15 .add (.s 14) (.k (Value.string ⟨#[99]⟩)), false⟩),
    (10, false, ⟨none, (some 20), .call (some 20) 60 false [(.s 17), (.s 19)], false⟩),
    (11, true, ⟨none, (some 21), .bin 21 .add (.s 15) (.s 20), false⟩),
    (12, true, ⟨none, (some 7), .mv 7 (.s 21), false⟩)])))))))
def S47_3 : SCode :=
  (.seq (.keep [1, 2, 3, 7]) (.ops [⟨none, (some 50), .mv 50 (.s 7), false⟩,
    ⟨none, (some 51), .bin 51 .add (.s 50) (.k (Value.string ⟨#[10]⟩)), false⟩,
    ⟨none, (some 7), .mv 7 (.s 51), false⟩]))
def S47_4 : SCode :=
  (.seq (.seq (.keep [1, 2, 3, 7]) (.ops [⟨none, (some 52), .fa 52 0 (.s 3), false⟩,
    ⟨none, (some 53), .ld 53 false 1 (.s 52), false⟩,
    ⟨none, (some 8), .mv 8 (.s 53), false⟩]))
  (.block 1 (.loop [1, 2, 3, 7, 8] (.seq (.seq (.seq (.keep [1, 2, 3, 7, 8]) (.ops [⟨none, (some 54), .mv 54 (.s 8), false⟩,
    ⟨none, (some 55), .fa 55 0 (.s 3), false⟩,
    ⟨none, (some 56), .ld 56 false 1 (.s 55), false⟩,
    ⟨none, (some 57), .fa 57 1 (.s 3), false⟩,
    ⟨none, (some 58), .ld 58 false 1 (.s 57), false⟩,
    ⟨none, (some 59), .binc 59 .add (.s 56) (.s 58), false⟩,
    ⟨none, (some 60), .bin 60 .lss (.s 54) (.s 59), false⟩]))
  (.cond (.s 60) .skip (.exit 1)))
  (.seq (.block 2 (.seq (.keep [1, 2, 3, 7, 8]) (.ops [⟨none, (some 63), .mv 63 (.s 7), false⟩,
    ⟨none, (some 64), .mv 64 (.s 1), false⟩,
    ⟨none, (some 65), .mv 65 (.s 8), false⟩,
    ⟨none, (some 66), .ia 66 1 (.s 64) (.s 65), false⟩,
    ⟨none, (some 67), .ld 67 false 1 (.s 66), false⟩,
    ⟨none, (some 68), .call (some 68) 68 false [(.k (Value.string ⟨#[60, 32]⟩)), (.s 67)], false⟩,
    ⟨none, (some 69), .bin 69 .add (.s 63) (.s 68), false⟩,
    ⟨none, (some 7), .mv 7 (.s 69), false⟩])))
  (.seq (.keep [1, 2, 3, 7, 8]) (.ops [⟨none, (some 61), .mv 61 (.s 8), false⟩,
    ⟨none, (some 62), .binc 62 .add (.s 61) (.k (Value.int .i64 1)), false⟩,
    ⟨none, (some 8), .mv 8 (.s 62), false⟩])))))))
def S47_5 : SCode :=
  (.seq (.seq (.keep [2, 3, 7]) (.ops [⟨none, (some 70), .fa 70 1 (.s 3), false⟩,
    ⟨none, (some 71), .ld 71 false 1 (.s 70), false⟩,
    ⟨none, (some 72), .bin 72 .gtr (.s 71) (.k (Value.int .i64 0)), false⟩,
    ⟨none, (some 73), .mv 73 (.s 72), false⟩,
    ⟨(some (73, true)), (some 74), .fa 74 3 (.s 3), false⟩,
    ⟨(some (73, true)), (some 75), .ld 75 false 1 (.s 74), false⟩,
    ⟨(some (73, true)), (some 76), .bin 76 .gtr (.s 75) (.k (Value.int .i64 0)), false⟩,
    ⟨none, (some 77), .pk 77 (.s 73) (.s 76) (.k (Value.bool false)), false⟩]))
  (.cond (.s 77) (.seq (.keep [2, 3, 7]) (.ops [⟨none, (some 78), .mv 78 (.s 7), false⟩,
    ⟨none, (some 79), .bin 79 .add (.s 78) (.k (Value.string ⟨#[45, 45, 45, 10]⟩)), false⟩,
    ⟨none, (some 7), .mv 7 (.s 79), false⟩])) .skip))
def S47_6 : SCode :=
  (.seq (.seq (.keep [2, 3, 7]) (.ops [⟨none, (some 80), .fa 80 2 (.s 3), false⟩,
    ⟨none, (some 81), .ld 81 false 1 (.s 80), false⟩,
    ⟨none, (some 9), .mv 9 (.s 81), false⟩]))
  (.block 3 (.loop [2, 3, 7, 9] (.seq (.seq (.seq (.keep [2, 3, 7, 9]) (.ops [⟨none, (some 82), .mv 82 (.s 9), false⟩,
    ⟨none, (some 83), .fa 83 2 (.s 3), false⟩,
    ⟨none, (some 84), .ld 84 false 1 (.s 83), false⟩,
    ⟨none, (some 85), .fa 85 3 (.s 3), false⟩,
    ⟨none, (some 86), .ld 86 false 1 (.s 85), false⟩,
    ⟨none, (some 87), .binc 87 .add (.s 84) (.s 86), false⟩,
    ⟨none, (some 88), .bin 88 .lss (.s 82) (.s 87), false⟩]))
  (.cond (.s 88) .skip (.exit 3)))
  (.seq (.block 4 (.seq (.keep [2, 3, 7, 9]) (.ops [⟨none, (some 91), .mv 91 (.s 7), false⟩,
    ⟨none, (some 92), .mv 92 (.s 2), false⟩,
    ⟨none, (some 93), .mv 93 (.s 9), false⟩,
    ⟨none, (some 94), .ia 94 1 (.s 92) (.s 93), false⟩,
    ⟨none, (some 95), .ld 95 false 1 (.s 94), false⟩,
    ⟨none, (some 96), .call (some 96) 68 false [(.k (Value.string ⟨#[62, 32]⟩)), (.s 95)], false⟩,
    ⟨none, (some 97), .bin 97 .add (.s 91) (.s 96), false⟩,
    ⟨none, (some 7), .mv 7 (.s 97), false⟩])))
  (.seq (.keep [2, 3, 7, 9]) (.ops [⟨none, (some 89), .mv 89 (.s 9), false⟩,
    ⟨none, (some 90), .binc 90 .add (.s 89) (.k (Value.int .i64 1)), false⟩,
    ⟨none, (some 9), .mv 9 (.s 90), false⟩])))))))
def S47_7 : SCode :=
  (.ops [⟨none, (some 98), .mv 98 (.s 7), false⟩,
    ⟨none, (some 6), .mv 6 (.s 98), false⟩])
def S47r8 : SCode := .ret
def S47r7 : SCode := .seq S47_7 S47r8
def S47r6 : SCode := .seq S47_6 S47r7
def S47r5 : SCode := .seq S47_5 S47r6
def S47r4 : SCode := .seq S47_4 S47r5
def S47r3 : SCode := .seq S47_3 S47r4
def S47r2 : SCode := .seq S47_2 S47r3
def S47r1 : SCode := .seq S47_1 S47r2
def S47 : SCode := .seq S47_0 S47r1
theorem cc47 : (Tryd.f47.body).bind (cc Tryd.prog Tryd.f47.ntmps A47) = some S47 := by kernel_rfl
def R47 : List RR := [.sl 6]
theorem cr47 : Tryd.f47.results.toList.map (crr Tryd.prog) = R47.map some := by kernel_rfl
theorem nm47 : (Tryd.f47.name == "runtime.NumGoroutine") = false := by kernel_rfl
theorem fn47 : Tryd.prog.funcs[47]? = some Tryd.f47 := by kernel_rfl
theorem bd47 : ∃ b, Tryd.f47.body = some b ∧ cc Tryd.prog Tryd.f47.ntmps A47 b = some S47 := Option.bind_eq_some_iff.1 cc47
theorem sd47 {G : World → Prop} {T : FuncId → Contract} {C : Contract} (hT : ∀ f, Sound G Tryd.prog f (T f)) (hl : C.lawful) (hC : ∀ args st K, C.wp args st K → args.length ≤ 99 ∧ ∃ os op, xv T st.n S47 (st0 args st) (retK R47 st.n os K) (panK st.n op K)) : Sound G Tryd.prog 47 C := by
  obtain ⟨b, hb, hc⟩ := bd47
  rw [xv_eq] at hC
  exact sound_of_ev mo fn47 hb nm47 hc cr47 hT hl hC

/-! 60: redline/redlineref12.Range -/
def A60 : Ann := ⟨fun _ _ => 0, fun _ => none, fun r => if r = 2 then some (false, [0]) else if r = 3 then some (false, [0, 1]) else none, fun _ => []⟩
def S60 : SCode :=
  (.seq (.ops [⟨none, (some 4), .mv 4 (.k (Value.string ⟨#[]⟩)), false⟩])
  (.seq (.seq (.ops [⟨none, (some 5), .mv 5 (.s 1), false⟩,
    ⟨none, (some 6), .bin 6 .eql (.s 5) (.k (Value.int .i64 1)), false⟩])
  (.cond (.s 6) (.seq (.seq (.keep [0]) (.ops [⟨none, (some 7), .mv 7 (.s 0), false⟩,
    ⟨none, (some 8), .binc 8 .add (.s 7) (.k (Value.int .i64 1)), false⟩,
    ⟨none, (some 9), .call (some 9) 33 false [(.s 8)], false⟩,
    ⟨none, (some 4), .mv 4 (.s 9), false⟩]))
  .ret) .skip))
  (.seq (.seq (.keep [0, 1]) (.ops [⟨none, (some 10), .mv 10 (.s 0), false⟩,
    ⟨none, (some 11), .binc 11 .add (.s 10) (.k (Value.int .i64 1)), false⟩,
    ⟨none, (some 12), .call (some 12) 33 false [(.s 11)], false⟩,
    ⟨none, (some 13), .bin 13 .add (.s 12) (.k (Value.string ⟨#[44]⟩)), false⟩,
    ⟨none, (some 14), .mv 14 (.s 0), false⟩,
    ⟨none, (some 15), .mv 15 (.s 1), false⟩,
    ⟨none, (some 16), .binc 16 .add (.s 14) (.s 15), false⟩,
    ⟨none, (some 17), .call (some 17) 33 false [(.s 16)], false⟩,
    ⟨none, (some 18), .bin 18 .add (.s 13) (.s 17), false⟩,
    ⟨none, (some 4), .mv 4 (.s 18), true⟩]))
  .ret)))
theorem cc60 : (Tryd.f60.body).bind (cc Tryd.prog Tryd.f60.ntmps A60) = some S60 := by kernel_rfl
def R60 : List RR := [.sl 4]
theorem cr60 : Tryd.f60.results.toList.map (crr Tryd.prog) = R60.map some := by kernel_rfl
theorem nm60 : (Tryd.f60.name == "runtime.NumGoroutine") = false := by kernel_rfl
theorem fn60 : Tryd.prog.funcs[60]? = some Tryd.f60 := by kernel_rfl
theorem bd60 : ∃ b, Tryd.f60.body = some b ∧ cc Tryd.prog Tryd.f60.ntmps A60 b = some S60 := Option.bind_eq_some_iff.1 cc60
theorem sd60 {G : World → Prop} {T : FuncId → Contract} {C : Contract} (hT : ∀ f, Sound G Tryd.prog f (T f)) (hl : C.lawful) (hC : ∀ args st K, C.wp args st K → args.length ≤ 19 ∧ ∃ os op, xv T st.n S60 (st0 args st) (retK R60 st.n os K) (panK st.n op K)) : Sound G Tryd.prog 60 C := by
  obtain ⟨b, hb, hc⟩ := bd60
  rw [xv_eq] at hC
  exact sound_of_ev mo fn60 hb nm60 hc cr60 hT hl hC

/-! 68: redline/redlineref12.Line -/
def A68 : Ann := ⟨fun _ _ => 0, fun _ => none, fun r => if r = 1 then some (false, [0, 1]) else if r = 3 then some (false, [0, 1]) else if r = 4 then some (false, [0, 1]) else none, fun _ => []⟩
def S68 : SCode :=
  (.seq (.ops [⟨none, (some 4), .mv 4 (.k (Value.string ⟨#[]⟩)), false⟩])
  (.seq (.seq (.keep [0, 1]) (.ops [⟨none, (some 8), .mv 8 (.s 1), false⟩,
    ⟨none, (some 9), .call (some 9) 61 false [(.s 8)], false⟩,
    ⟨none, (some 7), .mv 7 (.s 9), false⟩,
    ⟨none, (some 10), .ex 10 (.s 7) 0, false⟩,
    ⟨none, (some 11), .ex 11 (.s 7) 1, false⟩,
    ⟨none, (some 5), .mv 5 (.s 10), false⟩,
    ⟨none, (some 6), .mv 6 (.s 11), false⟩]))
  (.seq (.seq (.ops [⟨none, (some 12), .mv 12 (.s 6), false⟩])
  (.cond (.s 12) (.seq (.seq (.keep [0, 1]) (.ops [⟨none, (some 13), .mv 13 (.s 0), false⟩,
    ⟨none, (some 14), .mv 14 (.s 1), false⟩,
    ⟨none, (some 15), .bin 15 .add (.s 13) (.s 14), false⟩,
    ⟨none, (some 4), .mv 4 (.s 15), false⟩]))
  .ret) .skip))
  (.seq (.seq (.keep [0, 1]) (.ops [⟨none, (some 16), .mv 16 (.s 0), false⟩,
    ⟨none, (some 17), .mv 17 (.s 1), false⟩,
    ⟨none, (some 18), .bin 18 .add (.s 16) (.s 17), false⟩,
    ⟨none, (some 19), .bin 19 .add (.s 18) (.k (Value.string ⟨#[10]⟩)), false⟩,
    ⟨none, (some 20), .bin 20 .add (.s 19) (.k (Value.string ⟨#[92, 32, 78, 111, 32, 110, 101, 119, 108, 105, 110, 101, 32, 97, 116, 32, 101, 110, 100, 32, 111, 102, 32, 102, 105, 108, 101, 10]⟩)), false⟩,
    ⟨none, (some 4), .mv 4 (.s 20), false⟩]))
  .ret))))
theorem cc68 : (Tryd.f68.body).bind (cc Tryd.prog Tryd.f68.ntmps A68) = some S68 := by kernel_rfl
def R68 : List RR := [.sl 4]
theorem cr68 : Tryd.f68.results.toList.map (crr Tryd.prog) = R68.map some := by kernel_rfl
theorem nm68 : (Tryd.f68.name == "runtime.NumGoroutine") = false := by kernel_rfl
theorem fn68 : Tryd.prog.funcs[68]? = some Tryd.f68 := by kernel_rfl
theorem bd68 : ∃ b, Tryd.f68.body = some b ∧ cc Tryd.prog Tryd.f68.ntmps A68 b = some S68 := Option.bind_eq_some_iff.1 cc68
theorem sd68 {G : World → Prop} {T : FuncId → Contract} {C : Contract} (hT : ∀ f, Sound G Tryd.prog f (T f)) (hl : C.lawful) (hC : ∀ args st K, C.wp args st K → args.length ≤ 21 ∧ ∃ os op, xv T st.n S68 (st0 args st) (retK R68 st.n os K) (panK st.n op K)) : Sound G Tryd.prog 68 C := by
  obtain ⟨b, hb, hc⟩ := bd68
  rw [xv_eq] at hC
  exact sound_of_ev mo fn68 hb nm68 hc cr68 hT hl hC

/-! 58: redline/lines.Bare -/
def A58 : Ann := ⟨fun _ _ => 0, fun _ => none, fun r => if r = 1 then some (false, [0]) else none, fun _ => []⟩
def S58 : SCode :=
  (.seq (.ops [⟨none, (some 2), .mv 2 (.k (Value.string ⟨#[]⟩)), false⟩,
    ⟨none, (some 3), .mv 3 (.k (Value.bool false)), false⟩])
  (.seq (.seq (.keep [0]) (.ops [⟨none, (some 4), .mv 4 (.s 0), false⟩,
    ⟨none, (some 5), .call (some 5) 107 false [(.s 4), (.k (Value.string ⟨#[10]⟩))], false⟩,
    ⟨none, (some 6), .ex 6 (.s 5) 0, false⟩,
    ⟨none, (some 7), .ex 7 (.s 5) 1, false⟩,
    ⟨none, (some 2), .mv 2 (.s 6), false⟩,
    ⟨none, (some 3), .mv 3 (.s 7), false⟩]))
  .ret))
theorem cc58 : (Tryd.f58.body).bind (cc Tryd.prog Tryd.f58.ntmps A58) = some S58 := by kernel_rfl
def R58 : List RR := [.sl 2, .sl 3]
theorem cr58 : Tryd.f58.results.toList.map (crr Tryd.prog) = R58.map some := by kernel_rfl
theorem nm58 : (Tryd.f58.name == "runtime.NumGoroutine") = false := by kernel_rfl
theorem fn58 : Tryd.prog.funcs[58]? = some Tryd.f58 := by kernel_rfl
theorem bd58 : ∃ b, Tryd.f58.body = some b ∧ cc Tryd.prog Tryd.f58.ntmps A58 b = some S58 := Option.bind_eq_some_iff.1 cc58
theorem sd58 {G : World → Prop} {T : FuncId → Contract} {C : Contract} (hT : ∀ f, Sound G Tryd.prog f (T f)) (hl : C.lawful) (hC : ∀ args st K, C.wp args st K → args.length ≤ 8 ∧ ∃ os op, xv T st.n S58 (st0 args st) (retK R58 st.n os K) (panK st.n op K)) : Sound G Tryd.prog 58 C := by
  obtain ⟨b, hb, hc⟩ := bd58
  rw [xv_eq] at hC
  exact sound_of_ev mo fn58 hb nm58 hc cr58 hT hl hC

/-! 61: redline/redlineref02.Bare -/
def A61 : Ann := ⟨fun r i => if r = 1 ∧ i = 6 then 1 else 0, fun _ => none, fun r => if r = 1 then some (false, [0]) else if r = 2 then some (false, [0]) else if r = 3 then some (false, [0]) else none, fun _ => []⟩
def S61 : SCode :=
  (.seq (.ops [⟨none, (some 2), .mv 2 (.k (Value.string ⟨#[]⟩)), false⟩,
    ⟨none, (some 3), .mv 3 (.k (Value.bool false)), false⟩])
  (.seq (.seq (.seq (.keep [0]) (.ops [⟨none, (some 4), .mv 4 (.s 0), false⟩,
    ⟨none, (some 5), .lens 5 (.s 4), false⟩,
    ⟨none, (some 6), .bin 6 .eql (.s 5) (.k (Value.int .i64 0)), false⟩,
    ⟨none, (some 7), .mv 7 (.s 6), false⟩,
    ⟨(some (7, false)), (some 8), .mv 8 (.s 0), false⟩,
    ⟨(some (7, false)), (some 9), .mv 9 (.s 0), false⟩,
    ⟨(some (7, false)), (some 10), .lens 10 (.s 9), false⟩,
    ⟨(some (7, false)), (some 11), .binc 11 .sub (.s 10) (.k (Value.int .i64 1)), false⟩,
    ⟨(some (7, false)), (some 12), .ixs 12 (.s 8) (.s 11), false⟩,
    ⟨(some (7, false)), (some 13), .bin 13 .neq (.s 12) (.k (Value.int .u8 10)), true⟩,
    ⟨none, (some 14), .pk 14 (.s 7) (.k (Value.bool true)) (.s 13), false⟩]))
  (.cond (.s 14) (.seq (.seq (.keep [0]) (.ops [⟨none, (some 15), .mv 15 (.s 0), false⟩,
    ⟨none, (some 2), .mv 2 (.s 15), false⟩,
    ⟨none, (some 3), .mv 3 (.k (Value.bool false)), false⟩]))
  .ret) .skip))
  (.seq (.seq (.keep [0]) (.ops [⟨none, (some 16), .mv 16 (.s 0), false⟩,
    ⟨none, (some 17), .mv 17 (.s 0), false⟩,
    ⟨none, (some 18), .lens 18 (.s 17), false⟩,
    ⟨none, (some 19), .binc 19 .sub (.s 18) (.k (Value.int .i64 1)), false⟩,
    ⟨none, (some 20), .sls 20 (.s 16) none (some (.s 19)), false⟩,
    ⟨none, (some 2), .mv 2 (.s 20), false⟩,
    ⟨none, (some 3), .mv 3 (.k (Value.bool true)), false⟩]))
  .ret)))
theorem cc61 : (Tryd.f61.body).bind (cc Tryd.prog Tryd.f61.ntmps A61) = some S61 := by kernel_rfl
def R61 : List RR := [.sl 2, .sl 3]
theorem cr61 : Tryd.f61.results.toList.map (crr Tryd.prog) = R61.map some := by kernel_rfl
theorem nm61 : (Tryd.f61.name == "runtime.NumGoroutine") = false := by kernel_rfl
theorem fn61 : Tryd.prog.funcs[61]? = some Tryd.f61 := by kernel_rfl
theorem bd61 : ∃ b, Tryd.f61.body = some b ∧ cc Tryd.prog Tryd.f61.ntmps A61 b = some S61 := Option.bind_eq_some_iff.1 cc61
theorem sd61 {G : World → Prop} {T : FuncId → Contract} {C : Contract} (hT : ∀ f, Sound G Tryd.prog f (T f)) (hl : C.lawful) (hC : ∀ args st K, C.wp args st K → args.length ≤ 21 ∧ ∃ os op, xv T st.n S61 (st0 args st) (retK R61 st.n os K) (panK st.n op K)) : Sound G Tryd.prog 61 C := by
  obtain ⟨b, hb, hc⟩ := bd61
  rw [xv_eq] at hC
  exact sound_of_ev mo fn61 hb nm61 hc cr61 hT hl hC

/-! 107: strings.CutSuffix -/
def A107 : Ann := ⟨fun _ _ => 0, fun _ => none, fun r => if r = 1 then some (false, [0, 1]) else none, fun _ => []⟩
def S107 : SCode :=
  (.seq (.ops [⟨none, (some 4), .mv 4 (.k (Value.string ⟨#[]⟩)), false⟩,
    ⟨none, (some 5), .mv 5 (.k (Value.bool false)), false⟩])
  (.seq (.seq (.keep [0, 1]) (.ops [⟨none, (some 6), .mv 6 (.s 0), false⟩,
    ⟨none, (some 7), .mv 7 (.s 1), false⟩,
    ⟨none, (some 8), .call (some 8) 143 false [(.s 6), (.s 7)], false⟩,
    ⟨none, (some 9), .ex 9 (.s 8) 0, false⟩,
    ⟨none, (some 10), .ex 10 (.s 8) 1, false⟩,
    ⟨none, (some 4), .mv 4 (.s 9), false⟩,
    ⟨none, (some 5), .mv 5 (.s 10), false⟩]))
  .ret))
theorem cc107 : (Tryd.f107.body).bind (cc Tryd.prog Tryd.f107.ntmps A107) = some S107 := by kernel_rfl
def R107 : List RR := [.sl 4, .sl 5]
theorem cr107 : Tryd.f107.results.toList.map (crr Tryd.prog) = R107.map some := by kernel_rfl
theorem nm107 : (Tryd.f107.name == "runtime.NumGoroutine") = false := by kernel_rfl
theorem fn107 : Tryd.prog.funcs[107]? = some Tryd.f107 := by kernel_rfl
theorem bd107 : ∃ b, Tryd.f107.body = some b ∧ cc Tryd.prog Tryd.f107.ntmps A107 b = some S107 := Option.bind_eq_some_iff.1 cc107
theorem sd107 {G : World → Prop} {T : FuncId → Contract} {C : Contract} (hT : ∀ f, Sound G Tryd.prog f (T f)) (hl : C.lawful) (hC : ∀ args st K, C.wp args st K → args.length ≤ 11 ∧ ∃ os op, xv T st.n S107 (st0 args st) (retK R107 st.n os K) (panK st.n op K)) : Sound G Tryd.prog 107 C := by
  obtain ⟨b, hb, hc⟩ := bd107
  rw [xv_eq] at hC
  exact sound_of_ev mo fn107 hb nm107 hc cr107 hT hl hC

/-! 143: internal/stringslite.CutSuffix -/
def A143 : Ann := ⟨fun _ _ => 0, fun _ => none, fun r => if r = 1 then some (false, [0, 1]) else if r = 2 then some (false, [0]) else if r = 3 then some (false, [0, 1]) else none, fun _ => []⟩
def S143 : SCode :=
  (.seq (.ops [⟨none, (some 4), .mv 4 (.k (Value.string ⟨#[]⟩)), false⟩,
    ⟨none, (some 5), .mv 5 (.k (Value.bool false)), false⟩])
  (.seq (.seq (.seq (.keep [0, 1]) (.ops [⟨none, (some 6), .mv 6 (.s 0), false⟩,
    ⟨none, (some 7), .mv 7 (.s 1), false⟩,
    ⟨none, (some 8), .call (some 8) 171 false [(.s 6), (.s 7)], false⟩,
    ⟨none, (some 9), .not 9 (.s 8), false⟩]))
  (.cond (.s 9) (.seq (.seq (.keep [0]) (.ops [⟨none, (some 10), .mv 10 (.s 0), false⟩,
    ⟨none, (some 4), .mv 4 (.s 10), false⟩,
    ⟨none, (some 5), .mv 5 (.k (Value.bool false)), false⟩]))
  .ret) .skip))
  (.seq (.seq (.keep [0, 1]) (.ops [⟨none, (some 11), .mv 11 (.s 0), false⟩,
    ⟨none, (some 12), .mv 12 (.s 0), false⟩,
    ⟨none, (some 13), .lens 13 (.s 12), false⟩,
    ⟨none, (some 14), .mv 14 (.s 1), false⟩,
    ⟨none, (some 15), .lens 15 (.s 14), false⟩,
    ⟨none, (some 16), .binc 16 .sub (.s 13) (.s 15), false⟩,
    ⟨none, (some 17), .sls 17 (.s 11) none (some (.s 16)), false⟩,
    ⟨none, (some 4), .mv 4 (.s 17), false⟩,
    ⟨none, (some 5), .mv 5 (.k (Value.bool true)), false⟩]))
  .ret)))
theorem cc143 : (Tryd.f143.body).bind (cc Tryd.prog Tryd.f143.ntmps A143) = some S143 := by kernel_rfl
def R143 : List RR := [.sl 4, .sl 5]
theorem cr143 : Tryd.f143.results.toList.map (crr Tryd.prog) = R143.map some := by kernel_rfl
theorem nm143 : (Tryd.f143.name == "runtime.NumGoroutine") = false := by kernel_rfl
theorem fn143 : Tryd.prog.funcs[143]? = some Tryd.f143 := by kernel_rfl
theorem bd143 : ∃ b, Tryd.f143.body = some b ∧ cc Tryd.prog Tryd.f143.ntmps A143 b = some S143 := Option.bind_eq_some_iff.1 cc143
theorem sd143 {G : World → Prop} {T : FuncId → Contract} {C : Contract} (hT : ∀ f, Sound G Tryd.prog f (T f)) (hl : C.lawful) (hC : ∀ args st K, C.wp args st K → args.length ≤ 18 ∧ ∃ os op, xv T st.n S143 (st0 args st) (retK R143 st.n os K) (panK st.n op K)) : Sound G Tryd.prog 143 C := by
  obtain ⟨b, hb, hc⟩ := bd143
  rw [xv_eq] at hC
  exact sound_of_ev mo fn143 hb nm143 hc cr143 hT hl hC

/-! 171: internal/stringslite.HasSuffix -/
def A171 : Ann := ⟨fun r i => if r = 1 ∧ i = 8 then 1 else if r = 1 ∧ i = 10 then 1 else 0, fun _ => none, fun r => if r = 1 then some (false, [0, 1]) else none, fun _ => []⟩
def S171 : SCode :=
  (.seq (.ops [⟨none, (some 4), .mv 4 (.k (Value.bool false)), false⟩])
  (.seq (.seq (.keep [0, 1]) (.ops [⟨none, (some 5), .mv 5 (.s 0), false⟩,
    ⟨none, (some 6), .lens 6 (.s 5), false⟩,
    ⟨none, (some 7), .mv 7 (.s 1), false⟩,
    ⟨none, (some 8), .lens 8 (.s 7), false⟩,
    ⟨none, (some 9), .bin 9 .geq (.s 6) (.s 8), false⟩,
    ⟨none, (some 10), .mv 10 (.s 9), false⟩,
    ⟨(some (10, true)), (some 11), .mv 11 (.s 0), false⟩,
    ⟨(some (10, true)), (some 12), .mv 12 (.s 0), false⟩,
    ⟨(some (10, true)), (some 13), .lens 13 (.s 12), false⟩,
    ⟨(some (10, true)), (some 14), .mv 14 (.s 1), true⟩,
    ⟨(some (10, true)), (some 15), .lens 15 (.s 14), false⟩,
    ⟨(some (10, true)), (some 16), .binc 16 .sub (.s 13) (.s 15), false⟩,
    ⟨(some (10, true)), (some 17), .sls 17 (.s 11) (some (.s 16)) none, false⟩,
    ⟨(some (10, true)), (some 18), .mv 18 (.s 1), false⟩,
    ⟨(some (10, true)), (some 19), .bin 19 .eql (.s 17) (.s 18), false⟩,
    ⟨none, (some 20), .pk 20 (.s 10) (.s 19) (.k (Value.bool false)), false⟩,
    ⟨none, (some 4), .mv 4 (.s 20), false⟩]))
  .ret))
theorem cc171 : (Tryd.f171.body).bind (cc Tryd.prog Tryd.f171.ntmps A171) = some S171 := by kernel_rfl
def R171 : List RR := [.sl 4]
theorem cr171 : Tryd.f171.results.toList.map (crr Tryd.prog) = R171.map some := by kernel_rfl
theorem nm171 : (Tryd.f171.name == "runtime.NumGoroutine") = false := by kernel_rfl
theorem fn171 : Tryd.prog.funcs[171]? = some Tryd.f171 := by kernel_rfl
theorem bd171 : ∃ b, Tryd.f171.body = some b ∧ cc Tryd.prog Tryd.f171.ntmps A171 b = some S171 := Option.bind_eq_some_iff.1 cc171
theorem sd171 {G : World → Prop} {T : FuncId → Contract} {C : Contract} (hT : ∀ f, Sound G Tryd.prog f (T f)) (hl : C.lawful) (hC : ∀ args st K, C.wp args st K → args.length ≤ 21 ∧ ∃ os op, xv T st.n S171 (st0 args st) (retK R171 st.n os K) (panK st.n op K)) : Sound G Tryd.prog 171 C := by
  obtain ⟨b, hb, hc⟩ := bd171
  rw [xv_eq] at hC
  exact sound_of_ev mo fn171 hb nm171 hc cr171 hT hl hC

end Go.Proofs.YtpbkdcfjlbdgfaaDoor
/-
  DERIVED: THE SHELF's CONTRACTS AT THIS DUMP, IN PLAIN WORDS (tools/lay-plain.mjs out of 'TrydShelfPart.lean', which tools/lay-shelf.mjs wrote): THE SAME DECLARATIONS UNDER THE SAME NAMES: 'import', 'namespace', 'open', 'def', 'theorem' AND NOTHING ELSE: no command of the shelf's: FOR A HAND-IN. Each laying: the table of numbers ('.._ren') and one theorem, a field a fact of the dump's own or the kernel's comparison; each contract: ONE APPLICATION.
-/
namespace Go.Proofs
open Go.Shelf
def Tryd.laysM171_ren : Go.Shelf.Ren := ⟨fun | 171 => 79 | 243 => 126 | 246 => 158 | 283 => 180 | 284 => 181 | 285 => 182 | 286 => 183 | 129 => 194 | 317 => 193 | 318 => 195 | 319 => 196 | 320 => 197 | 337 => 201 | 338 => 202 | n => n, fun | 3 => 3 | 9 => 9 | 2 => 2 | 4 => 4 | 171 => 209 | 0 => 0 | 53 => 64 | 37 => 68 | 5 => 5 | 173 => 212 | 212 => 230 | 51 => 215 | 20 => 20 | 213 => 231 | 46 => 114 | 232 => 236 | 233 => 237 | n => n, fun | 17 => 6 | 18 => 7 | 19 => 8 | n => n⟩
theorem Tryd.laysM171 : Go.Proofs.LaysM.n171 Tryd.prog Tryd.laysM171_ren := {
  mixed := by kernel_rfl
  f129 := Tryd.func194.trans (congrArg some (by kernel_rfl))
  f171 := Tryd.func79.trans (congrArg some (by kernel_rfl))
  f243 := Tryd.func126.trans (congrArg some (by kernel_rfl))
  f246 := Tryd.func158.trans (congrArg some (by kernel_rfl))
  f283 := Tryd.func180.trans (congrArg some (by kernel_rfl))
  f284 := Tryd.func181.trans (congrArg some (by kernel_rfl))
  f285 := Tryd.func182.trans (congrArg some (by kernel_rfl))
  f286 := Tryd.func183.trans (congrArg some (by kernel_rfl))
  f317 := Tryd.func193.trans (congrArg some (by kernel_rfl))
  f318 := Tryd.func195.trans (congrArg some (by kernel_rfl))
  f319 := Tryd.func196.trans (congrArg some (by kernel_rfl))
  f320 := Tryd.func197.trans (congrArg some (by kernel_rfl))
  f337 := Tryd.func201.trans (congrArg some (by kernel_rfl))
  f338 := Tryd.func202.trans (congrArg some (by kernel_rfl))
  t0 := Tryd.underlying0
  a0 := Tryd.isAgg0
  z0 := Tryd.sizeOf0
  v0 := Tryd.zeroValue0
  t2 := Tryd.underlying2
  a2 := Tryd.isAgg2
  z2 := Tryd.sizeOf2
  v2 := Tryd.zeroValue2
  t3 := Tryd.underlying3
  a3 := Tryd.isAgg3
  z3 := Tryd.sizeOf3
  v3 := Tryd.zeroValue3
  t4 := Tryd.underlying4
  a4 := Tryd.isAgg4
  z4 := Tryd.sizeOf4
  v4 := Tryd.zeroValue4
  t5 := Tryd.underlying5
  a5 := Tryd.isAgg5
  z5 := Tryd.sizeOf5
  v5 := Tryd.zeroValue5
  t9 := Tryd.underlying9
  a9 := Tryd.isAgg9
  z9 := Tryd.sizeOf9
  v9 := Tryd.zeroValue9
  t20 := Tryd.underlying20
  a20 := Tryd.isAgg20
  z20 := Tryd.sizeOf20
  v20 := Tryd.zeroValue20
  t37 := Tryd.underlying68
  a37 := Tryd.isAgg68
  z37 := Tryd.sizeOf68
  v37 := Tryd.zeroValue68
  t46 := Tryd.underlying114
  a46 := Tryd.isAgg114
  z46 := Tryd.sizeOf114
  v46 := Tryd.zeroValue114
  t51 := Tryd.underlying215
  a51 := Tryd.isAgg215
  z51 := Tryd.sizeOf215
  v51 := Tryd.zeroValue215
  t53 := Tryd.underlying64
  a53 := Tryd.isAgg64
  z53 := Tryd.sizeOf64
  v53 := Tryd.zeroValue64
  t171 := Tryd.underlying209
  a171 := Tryd.isAgg209
  z171 := Tryd.sizeOf209
  v171 := Tryd.zeroValue209
  t173 := Tryd.underlying212
  a173 := Tryd.isAgg212
  z173 := Tryd.sizeOf212
  v173 := Tryd.zeroValue212
  t212 := Tryd.underlying230
  a212 := Tryd.isAgg230
  z212 := Tryd.sizeOf230
  v212 := Tryd.zeroValue230
  t213 := Tryd.underlying231
  a213 := Tryd.isAgg231
  z213 := Tryd.sizeOf231
  t232 := Tryd.underlying236
  a232 := Tryd.isAgg236
  z232 := Tryd.sizeOf236
  v232 := Tryd.zeroValue236
  t233 := Tryd.underlying237
  a233 := Tryd.isAgg237
  z233 := Tryd.sizeOf237
  v233 := Tryd.zeroValue237
  g17 := by kernel_rfl
  g18 := by kernel_rfl
  g19 := by kernel_rfl
  i0 := by kernel_rfl
  i2 := by kernel_rfl
  i3 := by kernel_rfl
  i4 := by kernel_rfl
  i5 := by kernel_rfl
  i9 := by kernel_rfl
  i20 := by kernel_rfl
  i37 := by kernel_rfl
  i46 := by kernel_rfl
  i51 := by kernel_rfl
  i53 := by kernel_rfl
  i171 := by kernel_rfl
  i173 := by kernel_rfl
  i212 := by kernel_rfl
  i232 := by kernel_rfl
  i233 := by kernel_rfl
  m17 := by kernel_rfl
  m18 := by kernel_rfl
  m19 := by kernel_rfl }
open Go.RowKit Go.Sort Go.Lib in
/-- strconv.Itoa: "Itoa is equivalent to FormatInt(int64(i), 10).": i's DECIMAL NUMERAL ('Lib.itoa': a '-' where i is negative, then the digits), FOR EVERY int. The world behind the call: the world before it, new blocks behind the heap (the library's 'var a [24]byte'), draws. (LAID: no walk: one application.) -/
theorem Tryd.strconv_Itoa (n : Int) (h0 : -9223372036854775808 ≤ n) (h1 : n ≤ 9223372036854775807) (w : World) (htab : Lib.TabIs Tryd.prog w "internal/strconv.uint64pow10" .u64 Lib.pow10Tab) :
    Calls Tryd.prog 79 #[.int .i64 n] w fun e w' => e = .returned (.string ⟨(Lib.itoa n).toArray⟩) ∧ ∃ k os, w' = grow (w.drewN k) os := Any.strconv_Itoa Tryd.laysM171 n h0 h1 w htab
end Go.Proofs
set_option linter.unusedVariables false
set_option linter.unusedSimpArgs false
namespace Go.Proofs.YtpbkdcfjlbdgfaaDoor
open Go Go.Ev
set_option maxRecDepth 100000
variable {G : World → Prop}
/-- The variables that strconv.Itoa reads. -/
def Pow10 (w : World) : Prop := Lib.TabIs Tryd.prog w "internal/strconv.uint64pow10" .u64 Lib.pow10Tab
def CItoa : Contract := pureC fun args => match args with
  | [.d (.v (.int .i64 n))] => some (-9223372036854775808 ≤ n ∧ n ≤ 9223372036854775807, .d (.v (str (Lib.itoa n))))
  | _ => none
theorem sItoa (hG : ∀ w, G w → Pow10 w) : Sound G Tryd.prog 79 CItoa := by
  refine sound_lib ⟨Tryd.f79, by kernel_rfl, by kernel_rfl, by kernel_rfl⟩ fun args p x h hp => ?_
  split at h <;> simp only [Option.some.injEq, Prod.mk.injEq, reduceCtorEq] at h
  obtain ⟨rfl, rfl⟩ := h
  refine ⟨_, fun m n c => ⟨rfl, rfl⟩, fun w hw m c vs hc hv => ?_⟩
  match vs, hv with
  | [a], hv =>
    simp only [CnL, and_true] at hv
    rw [of_v hv]
    refine (Tryd.strconv_Itoa _ hp.1 hp.2 w (hG w hw)).mono ?_
    rintro e w' ⟨rfl, k, os, rfl⟩
    refine ⟨rfl, ⟨rfl, rfl, rfl, ?_, fun b hb => ?_⟩⟩
    · simp [«Sort».grow, World.drewN]
    · simp [«Sort».grow, World.drewN, Array.getElem?_append_left hb]
  | [], hv => simp [CnL] at hv
  | _ :: _ :: _, hv => simp [CnL] at hv
theorem itoa_len {n : Int} (h : -9223372036854775808 ≤ n ∧ n ≤ 9223372036854775807) : (Lib.itoa n).length ≤ 21 := Lib.itoa_length_le n h.1 h.2
theorem s32 (hG : ∀ w, G w → Pow10 w) : Sound G Tryd.prog 32 CItoa := by
  refine sd32 (T := tabT [(79, CItoa)]) (tab_cons (sItoa hG) tab_nil) (pureC_lawful _) (pure_hX fun args p x K h hp hk => ?_)
  split at h <;> simp only [Option.some.injEq, Prod.mk.injEq, reduceCtorEq] at h
  obtain ⟨rfl, rfl⟩ := h
  refine ⟨Nat.le_of_ble_eq_true rfl, ?_⟩
  simp -dsimp -implicitDefEqProofs only [S32, R32, CItoa, ↓Ev.xStp_eq, ↓Ev.P, Ev.Q, eq_self, forall_eq_or_imp, implies_true, forall_const, forall_eq, ↓reduceIte, reduceIte, Nat.reduceEqDiff, Nat.reduceAdd, reduceCtorEq, Nat.reduceSub, Int.reduceToNat, Int.reduceLE, Int.reduceLT, Int.reduceNeg, Nat.reduceBEq, Nat.reduceMul, Nat.reduceLeDiff, Nat.reduceMod, UInt8.reduceOfNat, Nat.reduceLT, Int.reduceEq, Int.reduceAdd, Int.reduceSub, Int.reduceMul]
  exact ⟨hp, hk⟩
def C80 : Contract := pureC fun args => match args with
  | [.d (.v (.int .u64 u))] => some (0 ≤ u ∧ u < 18446744073709551616, .d (.v (str (Lib.decDigits u.toNat))))
  | _ => none
theorem dig1 (u : Nat) : IntKind.u8.wrap (IntKind.u64.wrap (48 + ((u : Int)).tmod 10)) = ((48 + u % 10 : Nat) : Int) := by
  have : ((u : Int)).tmod 10 = ((u % 10 : Nat) : Int) := by rw [Int.tmod_eq_emod_of_nonneg (by omega)]; omega
  rw [this]
  simp only [IntKind.wrap, IntKind.bits, IntKind.signed]
  simp
  omega
theorem dig2 (u : Nat) (h : u < 18446744073709551616) : IntKind.u64.wrap (((u : Int)).tdiv 10) = ((u / 10 : Nat) : Int) := by
  have : ((u : Int)).tdiv 10 = ((u / 10 : Nat) : Int) := by rw [Int.tdiv_eq_ediv_of_nonneg (by omega)]; omega
  rw [this]
  simp only [IntKind.wrap, IntKind.bits, IntKind.signed]
  simp
  omega
theorem dec_big {u : Nat} (h : ¬ u < 10) : Lib.decDigits u = Lib.decDigits (u / 10) ++ [UInt8.ofNat (48 + u % 10)] := by rw [Lib.decDigits, dif_neg h]
theorem dec_small {u : Nat} (h : u < 10) : Lib.decDigits u = [UInt8.ofNat (48 + u % 10)] := by rw [Lib.decDigits, dif_pos h, Nat.mod_eq_of_lt h]
theorem s80 : Sound G Tryd.prog 80 C80 := by
  refine sd80 (T := tabT []) tab_nil (pureC_lawful _) (pure_hX fun args p x K h hp hk => ?_)
  split at h <;> simp only [Option.some.injEq, Prod.mk.injEq, reduceCtorEq] at h
  obtain ⟨rfl, rfl⟩ := h
  refine ⟨Nat.le_of_ble_eq_true rfl, ?_⟩
  rename_i u
  obtain ⟨u, rfl⟩ := Int.eq_ofNat_of_zero_le hp.1
  have hu : u < 18446744073709551616 := by omega
  simp only [Int.toNat_natCast] at hk
  simp -dsimp -implicitDefEqProofs only [S80, R80, dig1, dig2 u hu, ↓Ev.xStp_eq, ↓Ev.P, Ev.Q, eq_self, forall_eq_or_imp, implies_true, forall_const, forall_eq, ↓reduceIte, reduceIte, Nat.reduceEqDiff, Nat.reduceAdd, reduceCtorEq, Nat.reduceSub, Int.reduceToNat, Int.reduceLE, Int.reduceLT, Int.reduceNeg, Nat.reduceBEq, Nat.reduceMul, Nat.reduceLeDiff, Nat.reduceMod, UInt8.reduceOfNat, Nat.reduceLT, Int.reduceEq, Int.reduceAdd, Int.reduceSub, Int.reduceMul]
  have hlen : ∀ u : Nat, u < 18446744073709551616 → (Lib.decDigits u).length ≤ 21 := fun u h => by
    rw [Lib.decDigits_length]; have := Lib.nDigits_le20 u h; omega
  refine xLoop_intro (fun n st => ∃ (k : Nat) (s : List UInt8), n = k ∧ k < 18446744073709551616 ∧ (Lib.decDigits u = if k = 0 then s else Lib.decDigits k ++ s) ∧
      st = ⟨[(0, .d (.v (.int .u64 k))), (3, .d (.v (.string ⟨s.toArray⟩)))], 0, []⟩) (u / 10) [] ?_ ?_ ?_
  · simp -dsimp -implicitDefEqProofs only [↓Ev.xStp_eq, ↓Ev.P, Ev.Q, eq_self, forall_eq_or_imp, implies_true, forall_const, forall_eq, ↓reduceIte, reduceIte, Nat.reduceEqDiff, Nat.reduceAdd, reduceCtorEq, Nat.reduceSub, Int.reduceToNat, Int.reduceLE, Int.reduceLT, Int.reduceNeg, Nat.reduceBEq, Nat.reduceMul, Nat.reduceLeDiff, Nat.reduceMod, UInt8.reduceOfNat, Nat.reduceLT, Int.reduceEq, Int.reduceAdd, Int.reduceSub, Int.reduceMul]
  · simp -dsimp -implicitDefEqProofs only [↓Ev.xStp_eq, ↓Ev.P, Ev.Q, eq_self, forall_eq_or_imp, implies_true, forall_const, forall_eq, ↓reduceIte, reduceIte, Nat.reduceEqDiff, Nat.reduceAdd, reduceCtorEq, Nat.reduceSub, Int.reduceToNat, Int.reduceLE, Int.reduceLT, Int.reduceNeg, Nat.reduceBEq, Nat.reduceMul, Nat.reduceLeDiff, Nat.reduceMod, UInt8.reduceOfNat, Nat.reduceLT, Int.reduceEq, Int.reduceAdd, Int.reduceSub, Int.reduceMul]
    refine ⟨u / 10, _, rfl, by omega, ?_, rfl⟩
    by_cases h : u < 10
    · rw [if_pos (by omega), dec_small h]
    · rw [if_neg (by omega), dec_big h]
  · rintro n st ⟨k, s, hn, hk2, hd, rfl⟩
    simp -dsimp -implicitDefEqProofs only [dig1, dig2 k hk2, ↓Ev.xStp_eq, ↓Ev.P, Ev.Q, eq_self, forall_eq_or_imp, implies_true, forall_const, forall_eq, ↓reduceIte, reduceIte, Nat.reduceEqDiff, Nat.reduceAdd, reduceCtorEq, Nat.reduceSub, Int.reduceToNat, Int.reduceLE, Int.reduceLT, Int.reduceNeg, Nat.reduceBEq, Nat.reduceMul, Nat.reduceLeDiff, Nat.reduceMod, UInt8.reduceOfNat, Nat.reduceLT, Int.reduceEq, Int.reduceAdd, Int.reduceSub, Int.reduceMul]
    repeat' (first | with_reducible assumption | refine And.intro ?_ ?_ | intro _)
    · rename_i h
      have hl := congrArg List.length hd
      rw [if_neg (by omega), List.length_append] at hl
      have := hlen u hu
      omega
    · rename_i h
      refine xAgain_intro (k / 10) [] (by omega) (by simp -dsimp -implicitDefEqProofs only [↓Ev.xStp_eq, ↓Ev.P, Ev.Q, eq_self, forall_eq_or_imp, implies_true, forall_const, forall_eq, ↓reduceIte, reduceIte, Nat.reduceEqDiff, Nat.reduceAdd, reduceCtorEq, Nat.reduceSub, Int.reduceToNat, Int.reduceLE, Int.reduceLT, Int.reduceNeg, Nat.reduceBEq, Nat.reduceMul, Nat.reduceLeDiff, Nat.reduceMod, UInt8.reduceOfNat, Nat.reduceLT, Int.reduceEq, Int.reduceAdd, Int.reduceSub, Int.reduceMul]) ⟨k / 10, UInt8.ofNat (48 + k % 10) :: s, rfl, by omega, ?_, ?_⟩
      rotate_left
      · simp -dsimp -implicitDefEqProofs only [↓Ev.xStp_eq, ↓Ev.P, Ev.Q, eq_self, forall_eq_or_imp, implies_true, forall_const, forall_eq, ↓reduceIte, reduceIte, Nat.reduceEqDiff, Nat.reduceAdd, reduceCtorEq, Nat.reduceSub, Int.reduceToNat, Int.reduceLE, Int.reduceLT, Int.reduceNeg, Nat.reduceBEq, Nat.reduceMul, Nat.reduceLeDiff, Nat.reduceMod, UInt8.reduceOfNat, Nat.reduceLT, Int.reduceEq, Int.reduceAdd, Int.reduceSub, Int.reduceMul]
      rw [hd, if_neg (by omega)]
      by_cases h : k < 10
      · rw [if_pos (by omega), dec_small h]; rfl
      · rw [if_neg (by omega), dec_big h]; simp
    · rename_i h
      rw [if_pos (by omega)] at hd
      rw [hd] at hk; exact hk
theorem s33 : Sound G Tryd.prog 33 CItoa := by
  refine sd33 (T := tabT [(80, C80)]) (tab_cons s80 tab_nil) (pureC_lawful _) (pure_hX fun args p x K h hp hk => ?_)
  split at h <;> simp only [Option.some.injEq, Prod.mk.injEq, reduceCtorEq] at h
  obtain ⟨rfl, rfl⟩ := h
  refine ⟨Nat.le_of_ble_eq_true rfl, ?_⟩
  rename_i n
  have hlen : ∀ u : Nat, u < 18446744073709551616 → (Lib.decDigits u).length ≤ 21 := fun u h => by
    rw [Lib.decDigits_length]; have := Lib.nDigits_le20 u h; omega
  by_cases h0 : n < 0
  · have e1 : IntKind.u64.wrap (0 - IntKind.u64.wrap n) = ((n.natAbs : Nat) : Int) := by
      simp only [IntKind.wrap, IntKind.bits, IntKind.signed]
      simp
      omega
    rw [show Lib.itoa n = 45 :: Lib.decDigits n.natAbs by rw [Lib.itoa, if_pos h0]] at hk
    have := hlen n.natAbs (by omega)
    simp -dsimp -implicitDefEqProofs only [S33, R33, C80, e1, h0, ↓Ev.xStp_eq, ↓Ev.P, Ev.Q, eq_self, forall_eq_or_imp, implies_true, forall_const, forall_eq, ↓reduceIte, reduceIte, Nat.reduceEqDiff, Nat.reduceAdd, reduceCtorEq, Nat.reduceSub, Int.reduceToNat, Int.reduceLE, Int.reduceLT, Int.reduceNeg, Nat.reduceBEq, Nat.reduceMul, Nat.reduceLeDiff, Nat.reduceMod, UInt8.reduceOfNat, Nat.reduceLT, Int.reduceEq, Int.reduceAdd, Int.reduceSub, Int.reduceMul]
    repeat' (first | with_reducible assumption | refine And.intro ?_ ?_ | intro _)
    all_goals first | omega | exact hk
  · have e1 : IntKind.u64.wrap n = ((n.toNat : Nat) : Int) := by
      simp only [IntKind.wrap, IntKind.bits, IntKind.signed]
      simp
      omega
    rw [show Lib.itoa n = Lib.decDigits n.toNat by rw [Lib.itoa, if_neg h0]] at hk
    simp -dsimp -implicitDefEqProofs only [S33, R33, C80, e1, h0, ↓Ev.xStp_eq, ↓Ev.P, Ev.Q, eq_self, forall_eq_or_imp, implies_true, forall_const, forall_eq, ↓reduceIte, reduceIte, Nat.reduceEqDiff, Nat.reduceAdd, reduceCtorEq, Nat.reduceSub, Int.reduceToNat, Int.reduceLE, Int.reduceLT, Int.reduceNeg, Nat.reduceBEq, Nat.reduceMul, Nat.reduceLeDiff, Nat.reduceMod, UInt8.reduceOfNat, Nat.reduceLT, Int.reduceEq, Int.reduceAdd, Int.reduceSub, Int.reduceMul]
    repeat' (first | with_reducible assumption | refine And.intro ?_ ?_ | intro _)
    all_goals first | omega | exact hk
end Go.Proofs.YtpbkdcfjlbdgfaaDoor
set_option linter.unusedVariables false
set_option linter.unusedSimpArgs false
namespace Go.Ev
open Go
/-! Rows of texts. -/
def strRows (l : List (List UInt8)) : List (List D) := l.map fun s => [.v (.string ⟨s.toArray⟩)]
theorem strRows_len (l : List (List UInt8)) : (strRows l).length = l.length := by simp [strRows]
theorem strRows_get {l : List (List UInt8)} {i : Nat} (h : i < l.length) : (strRows l)[i]? = some [.v (.string ⟨(l.getD i []).toArray⟩)] := by
  simp [strRows, List.getD_eq_getElem?_getD, List.getElem?_eq_getElem h]
theorem strRows_all (l : List (List UInt8)) : (∀ r ∈ strRows l, r.length = 1) = True := by
  simp only [strRows, List.mem_map, eq_iff_iff, iff_true]
  rintro r ⟨s, _, rfl⟩; rfl
theorem strRows_sub (l : List (List UInt8)) (a b : Nat) : ((strRows l).take a).drop b = strRows ((l.take a).drop b) := by simp [strRows, List.map_take, List.map_drop]
def unStr : List (List D) → Option (List (List UInt8))
  | [] => some []
  | [.v (.string s)] :: r => (unStr r).map (s.data.toList :: ·)
  | _ :: _ => none
theorem unStr_rows : ∀ l : List (List UInt8), unStr (strRows l) = some l
  | [] => rfl
  | s :: l => by
    have h := unStr_rows l
    unfold strRows at h
    simp [strRows, unStr, h]
theorem unStr_eq : ∀ {rows : List (List D)} {l : List (List UInt8)}, unStr rows = some l → rows = strRows l
  | [], l, h => by simp only [unStr, Option.some.injEq] at h; subst h; rfl
  | r :: rs, l, h => by
    unfold unStr at h
    split at h
    · rename_i e; cases e
    · rename_i s r' e
      simp only [List.cons.injEq] at e
      obtain ⟨rfl, rfl⟩ := e
      obtain ⟨m, h1, rfl⟩ := Option.map_eq_some_iff.1 h
      rw [unStr_eq h1]
      simp [strRows]
    · cases h
/-! Rows of four ints. -/
def q4Row (c : Int × Int × Int × Int) : List D := [.v (.int .i64 c.1), .v (.int .i64 c.2.1), .v (.int .i64 c.2.2.1), .v (.int .i64 c.2.2.2)]
def q4Rows (l : List (Int × Int × Int × Int)) : List (List D) := l.map q4Row
theorem q4Rows_len (l : List (Int × Int × Int × Int)) : (q4Rows l).length = l.length := by simp [q4Rows]
theorem q4Rows_get {l : List (Int × Int × Int × Int)} {i : Nat} (h : i < l.length) : (q4Rows l)[i]? = some (q4Row (l.getD i (0, 0, 0, 0))) := by
  simp [q4Rows, List.getD_eq_getElem?_getD, List.getElem?_eq_getElem h]
theorem q4Rows_all (l : List (Int × Int × Int × Int)) : (∀ r ∈ q4Rows l, r.length = 4) = True := by
  simp only [q4Rows, List.mem_map, eq_iff_iff, iff_true]
  rintro r ⟨s, _, rfl⟩; rfl
def unQ4 : List (List D) → Option (List (Int × Int × Int × Int))
  | [] => some []
  | [.v (.int .i64 a), .v (.int .i64 b), .v (.int .i64 c), .v (.int .i64 d)] :: r => (unQ4 r).map ((a, b, c, d) :: ·)
  | _ :: _ => none
theorem unQ4_rows : ∀ l : List (Int × Int × Int × Int), unQ4 (q4Rows l) = some l
  | [] => rfl
  | (a, b, c, d) :: l => by
    have h := unQ4_rows l
    unfold q4Rows at h
    simp [q4Rows, q4Row, unQ4, h]
theorem unQ4_eq : ∀ {rows : List (List D)} {l : List (Int × Int × Int × Int)}, unQ4 rows = some l → rows = q4Rows l
  | [], l, h => by simp only [unQ4, Option.some.injEq] at h; subst h; rfl
  | r :: rs, l, h => by
    unfold unQ4 at h
    split at h
    · rename_i e; cases e
    · rename_i a b c d r' e
      simp only [List.cons.injEq] at e
      obtain ⟨rfl, rfl⟩ := e
      obtain ⟨m, h1, rfl⟩ := Option.map_eq_some_iff.1 h
      rw [unQ4_eq h1]
      simp [q4Rows, q4Row]
    · cases h
end Go.Ev
namespace Go.Proofs.YtpbkdcfjlbdgfaaDoor
open Go Go.Ev
set_option maxRecDepth 100000
variable {G : World → Prop}
/-- A line without its line feed. -/
def bareS (s : List UInt8) : List UInt8 × Bool := if s.getLast? = some 10 then (s.dropLast, true) else (s, false)
def CBare : Contract := pureC fun args => match args with
  | [.d (.v (.string s))] => some (s.size ≤ 1099511627776, .tup [.d (.v (str (bareS s.data.toList).1)), .d (.v (.bool (bareS s.data.toList).2))])
  | _ => none
def hasSuf (s p : List UInt8) : Bool := decide ((p.length : Int) ≤ (s.length : Int)) && decide (s.drop (s.length - p.length) = p)
def CSuf : Contract := pureC fun args => match args with
  | [.d (.v (.string s)), .d (.v (.string p))] => some (s.size ≤ 1099511627776 ∧ p.size ≤ 1099511627776, .d (.v (.bool (hasSuf s.data.toList p.data.toList))))
  | _ => none
theorem s171 : Sound G Tryd.prog 171 CSuf := by
  refine sd171 (T := tabT []) tab_nil (pureC_lawful _) (pure_hX fun args p x K h hp hk => ?_)
  split at h <;> simp only [Option.some.injEq, Prod.mk.injEq, reduceCtorEq] at h
  obtain ⟨rfl, rfl⟩ := h
  refine ⟨Nat.le_of_ble_eq_true rfl, ?_⟩
  rename_i s p
  obtain ⟨s, rfl⟩ := ex_str s
  obtain ⟨p, rfl⟩ := ex_str p
  simp only [sem_str] at hk hp
  simp -dsimp -implicitDefEqProofs only [S171, R171, ↓Ev.xStp_eq, ↓Ev.P, Ev.Q, eq_self, forall_eq_or_imp, implies_true, forall_const, forall_eq, ↓reduceIte, reduceIte, Nat.reduceEqDiff, Nat.reduceAdd, reduceCtorEq, Nat.reduceSub, Int.reduceToNat, Int.reduceLE, Int.reduceLT, Int.reduceNeg, Nat.reduceBEq, Nat.reduceMul, Nat.reduceLeDiff, Nat.reduceMod, UInt8.reduceOfNat, Nat.reduceLT, Int.reduceEq, Int.reduceAdd, Int.reduceSub, Int.reduceMul]
  repeat' (first | with_reducible assumption | refine And.intro ?_ ?_ | intro _)
  all_goals first | omega | exact hk
def CCutS : Contract := pureC fun args => match args with
  | [.d (.v (.string s)), .d (.v (.string p))] => some (s.size ≤ 1099511627776 ∧ p.size ≤ 1099511627776, .tup [.d (.v (str (if hasSuf s.data.toList p.data.toList then s.data.toList.take (s.data.toList.length - p.data.toList.length) else s.data.toList))), .d (.v (.bool (hasSuf s.data.toList p.data.toList)))])
  | _ => none
theorem s143 : Sound G Tryd.prog 143 CCutS := by
  refine sd143 (T := tabT [(171, CSuf)]) (tab_cons s171 tab_nil) (pureC_lawful _) (pure_hX fun args p x K h hp hk => ?_)
  split at h <;> simp only [Option.some.injEq, Prod.mk.injEq, reduceCtorEq] at h
  obtain ⟨rfl, rfl⟩ := h
  refine ⟨Nat.le_of_ble_eq_true rfl, ?_⟩
  rename_i s p
  obtain ⟨s, rfl⟩ := ex_str s
  obtain ⟨p, rfl⟩ := ex_str p
  simp only [sem_str] at hk hp
  simp -dsimp -implicitDefEqProofs only [S143, R143, CSuf, ↓Ev.xStp_eq, ↓Ev.P, Ev.Q, eq_self, forall_eq_or_imp, implies_true, forall_const, forall_eq, ↓reduceIte, reduceIte, Nat.reduceEqDiff, Nat.reduceAdd, reduceCtorEq, Nat.reduceSub, Int.reduceToNat, Int.reduceLE, Int.reduceLT, Int.reduceNeg, Nat.reduceBEq, Nat.reduceMul, Nat.reduceLeDiff, Nat.reduceMod, UInt8.reduceOfNat, Nat.reduceLT, Int.reduceEq, Int.reduceAdd, Int.reduceSub, Int.reduceMul]
  refine ⟨hp, fun h => ?_, fun h => ?_⟩
  · rw [h] at hk; exact hk
  · have : p.length ≤ s.length := by simp only [hasSuf, Bool.and_eq_true, decide_eq_true_eq] at h; omega
    rw [h] at hk
    repeat' (first | with_reducible assumption | refine And.intro ?_ ?_ | intro _)
    all_goals first | omega | exact hk
theorem s107 : Sound G Tryd.prog 107 CCutS := by
  refine sd107 (T := tabT [(143, CCutS)]) (tab_cons s143 tab_nil) (pureC_lawful _) (pure_hX fun args p x K h hp hk => ?_)
  split at h <;> simp only [Option.some.injEq, Prod.mk.injEq, reduceCtorEq] at h
  obtain ⟨rfl, rfl⟩ := h
  refine ⟨Nat.le_of_ble_eq_true rfl, ?_⟩
  simp -dsimp -implicitDefEqProofs only [S107, R107, CCutS, ↓Ev.xStp_eq, ↓Ev.P, Ev.Q, eq_self, forall_eq_or_imp, implies_true, forall_const, forall_eq, ↓reduceIte, reduceIte, Nat.reduceEqDiff, Nat.reduceAdd, reduceCtorEq, Nat.reduceSub, Int.reduceToNat, Int.reduceLE, Int.reduceLT, Int.reduceNeg, Nat.reduceBEq, Nat.reduceMul, Nat.reduceLeDiff, Nat.reduceMod, UInt8.reduceOfNat, Nat.reduceLT, Int.reduceEq, Int.reduceAdd, Int.reduceSub, Int.reduceMul]
  exact ⟨hp, hk⟩
theorem suf10 (s : List UInt8) : hasSuf s [10] = (bareS s).2 ∧ (if hasSuf s [10] then s.take (s.length - 1) else s) = (bareS s).1 := by
  rcases List.eq_nil_or_concat s with rfl | ⟨m, c, rfl⟩
  · exact ⟨rfl, rfl⟩
  · rw [List.concat_eq_append]
    have e : hasSuf (m ++ [c]) [10] = decide (c = 10) := by
      unfold hasSuf
      have h1 : decide ((([10] : List UInt8).length : Int) ≤ ((m ++ [c]).length : Int)) = true := by simp; omega
      have h2 : (m ++ [c]).drop ((m ++ [c]).length - ([10] : List UInt8).length) = [c] := by simp
      rw [h1, h2]; simp
    rw [e]
    unfold bareS
    by_cases h : c = 10
    · subst h; simp
    · simp [h]
theorem s58 : Sound G Tryd.prog 58 CBare := by
  refine sd58 (T := tabT [(107, CCutS)]) (tab_cons s107 tab_nil) (pureC_lawful _) (pure_hX fun args p x K h hp hk => ?_)
  split at h <;> simp only [Option.some.injEq, Prod.mk.injEq, reduceCtorEq] at h
  obtain ⟨rfl, rfl⟩ := h
  refine ⟨Nat.le_of_ble_eq_true rfl, ?_⟩
  rename_i s
  obtain ⟨s, rfl⟩ := ex_str s
  simp only [sem_str] at hk hp
  obtain ⟨h1, h2⟩ := suf10 s
  rw [← h1, ← h2] at hk
  simp -dsimp -implicitDefEqProofs only [S58, R58, CCutS, ↓Ev.xStp_eq, ↓Ev.P, Ev.Q, eq_self, forall_eq_or_imp, implies_true, forall_const, forall_eq, ↓reduceIte, reduceIte, Nat.reduceEqDiff, Nat.reduceAdd, reduceCtorEq, Nat.reduceSub, Int.reduceToNat, Int.reduceLE, Int.reduceLT, Int.reduceNeg, Nat.reduceBEq, Nat.reduceMul, Nat.reduceLeDiff, Nat.reduceMod, UInt8.reduceOfNat, Nat.reduceLT, Int.reduceEq, Int.reduceAdd, Int.reduceSub, Int.reduceMul]
  exact ⟨hp, hk⟩
theorem bare_get (s : List UInt8) : (bareS s).2 = (decide (0 < s.length) && decide ((s.getD (s.length - 1) 0) = 10)) ∧ (bareS s).1 = if (bareS s).2 then s.take (s.length - 1) else s := by
  rcases List.eq_nil_or_concat s with rfl | ⟨m, c, rfl⟩
  · exact ⟨rfl, rfl⟩
  · rw [List.concat_eq_append]
    unfold bareS
    by_cases h : c = 10
    · subst h; simp
    · simp [h]
theorem s61 : Sound G Tryd.prog 61 CBare := by
  refine sd61 (T := tabT []) tab_nil (pureC_lawful _) (pure_hX fun args p x K h hp hk => ?_)
  split at h <;> simp only [Option.some.injEq, Prod.mk.injEq, reduceCtorEq] at h
  obtain ⟨rfl, rfl⟩ := h
  refine ⟨Nat.le_of_ble_eq_true rfl, ?_⟩
  rename_i s
  obtain ⟨s, rfl⟩ := ex_str s
  simp only [sem_str] at hk hp
  obtain ⟨h1, h2⟩ := bare_get s
  simp -dsimp -implicitDefEqProofs only [S61, R61, ↓Ev.xStp_eq, ↓Ev.P, Ev.Q, eq_self, forall_eq_or_imp, implies_true, forall_const, forall_eq, ↓reduceIte, reduceIte, Nat.reduceEqDiff, Nat.reduceAdd, reduceCtorEq, Nat.reduceSub, Int.reduceToNat, Int.reduceLE, Int.reduceLT, Int.reduceNeg, Nat.reduceBEq, Nat.reduceMul, Nat.reduceLeDiff, Nat.reduceMod, UInt8.reduceOfNat, Nat.reduceLT, Int.reduceEq, Int.reduceAdd, Int.reduceSub, Int.reduceMul]
  repeat' (first | with_reducible assumption | refine And.intro ?_ ?_ | intro _)
  all_goals try omega
  · rename_i h
    have : (bareS s).2 = false := by
      rw [h1, Bool.and_eq_false_iff]
      rcases h with h | h
      · left; rw [decide_eq_false_iff_not]; omega
      · right; rw [decide_eq_false_iff_not]; exact fun e => h (by rw [e]; rfl)
    rw [this, if_neg (by decide)] at h2
    rw [h2, this] at hk; exact hk
  · rename_i h
    have : (bareS s).2 = true := by
      rw [h1, Bool.and_eq_true]
      exact ⟨by rw [decide_eq_true_eq]; omega, by rw [decide_eq_true_eq]; exact UInt8.toNat_inj.1 (by have := h.2; show _ = 10; omega)⟩
    rw [this, if_pos rfl] at h2
    rw [h2, this] at hk; exact hk
end Go.Proofs.YtpbkdcfjlbdgfaaDoor
set_option linter.unusedVariables false
set_option linter.unusedSimpArgs false
namespace Go.Proofs.YtpbkdcfjlbdgfaaDoor
open Go Go.Ev
set_option maxRecDepth 100000
variable {G : World → Prop}
/-- Is there a blank in front, or nothing? -/
def blkS (l : List UInt8) : Bool := match l with | [] => true | c :: _ => blk c
def wlen (l : List UInt8) : Nat := (l.takeWhile fun c => !blk c).length
/-- The words of a line. -/
def wordsF : Nat → List (List UInt8) → List UInt8 → List (List UInt8) × Int
  | 0, acc, _ => (acc, 0)
  | n + 1, acc, s => match trimT s with
    | [] => (acc, 0)
    | c :: t => if c = 34 then match unqL (c :: t) with
        | none => ([], 3)
        | some (w, r) => if blkS r = false then ([], 3) else if acc.length = 32 then ([], 9) else wordsF n (acc ++ [w]) r
      else if acc.length = 32 then ([], 9) else wordsF n (acc ++ [(c :: t).take (wlen (c :: t))]) ((c :: t).drop (wlen (c :: t)))
def wordsS (s : List UInt8) : List (List UInt8) × Int := wordsF s.length [] s
theorem unq_lt : ∀ (n : Nat) (l out o r : List UInt8), l.length ≤ n → unq l out = some (o, r) → r.length < l.length
  | n, [], out, o, r, _, h => by simp [unq] at h
  | 0, c :: l, out, o, r, hn, h => by simp at hn
  | n + 1, c :: l, out, o, r, hn, h => by
    rw [unq] at h
    simp only [List.length_cons] at hn ⊢
    split at h
    · simp only [Option.some.injEq, Prod.mk.injEq] at h; rw [← h.2]; omega
    · split at h
      · have := unq_lt n l _ o r (by omega) h; omega
      · split at h
        · have := unq_lt n (l.drop 2) _ o r (by simp; omega) h
          simp at this; omega
        · cases h
theorem unqL_lt {l o r : List UInt8} (h : unqL l = some (o, r)) : r.length < l.length := by
  unfold unqL at h
  split at h
  · have := unq_lt _ _ _ _ _ (Nat.le_refl _) h; simp; omega
  · cases h
theorem trim_le (s : List UInt8) : (trimT s).length ≤ s.length := (List.dropWhile_sublist _).length_le
theorem trim_head {s t : List UInt8} {c : UInt8} (h : trimT s = c :: t) : blk c = false := by
  have hne : s.dropWhile blk ≠ [] := by rw [show s.dropWhile blk = trimT s from rfl, h]; simp
  have h2 := List.head_dropWhile_not blk hne
  have h3 : (s.dropWhile blk).head hne = c := by
    have e : s.dropWhile blk = c :: t := h
    simp [e]
  rw [h3] at h2; exact h2
theorem wlen_pos {c : UInt8} {t : List UInt8} (h : blk c = false) : 1 ≤ wlen (c :: t) := by unfold wlen; simp [List.takeWhile_cons, h]
theorem wlen_le (l : List UInt8) : wlen l ≤ l.length := (List.takeWhile_sublist _).length_le
theorem trim_nil : trimT [] = [] := rfl
theorem words_fuel : ∀ (n m : Nat) (acc : List (List UInt8)) (s : List UInt8), s.length ≤ n → s.length ≤ m → wordsF n acc s = wordsF m acc s
  | 0, 0, acc, s, _, _ => rfl
  | 0, m + 1, acc, s, h, _ => by
    have : s = [] := List.eq_nil_of_length_eq_zero (by omega)
    subst this; rfl
  | n + 1, 0, acc, s, _, h => by
    have : s = [] := List.eq_nil_of_length_eq_zero (by omega)
    subst this; rfl
  | n + 1, m + 1, acc, s, hn, hm => by
    have hl := trim_le s
    simp only [wordsF]
    cases ht : trimT s with
    | nil => rfl
    | cons c t =>
      rw [ht] at hl
      simp only
      split
      · cases hu : unqL (c :: t) with
        | none => rfl
        | some p =>
          obtain ⟨w, r⟩ := p
          have := unqL_lt hu
          simp only
          split
          · rfl
          · split
            · rfl
            · exact words_fuel n m _ _ (by omega) (by omega)
      · have h1 := wlen_pos (t := t) (trim_head ht)
        split
        · rfl
        · refine words_fuel n m _ _ ?_ ?_ <;> (simp only [List.length_drop]; omega)
def wordsB (acc : List (List UInt8)) (t : List UInt8) : List (List UInt8) × Int := match t with
  | [] => (acc, 0)
  | c :: t => if c = 34 then match unqL (c :: t) with
      | none => ([], 3)
      | some (w, r) => if blkS r = false then ([], 3) else if acc.length = 32 then ([], 9) else wordsF r.length (acc ++ [w]) r
    else if acc.length = 32 then ([], 9) else wordsF ((c :: t).drop (wlen (c :: t))).length (acc ++ [(c :: t).take (wlen (c :: t))]) ((c :: t).drop (wlen (c :: t)))
theorem words_eq (acc : List (List UInt8)) (s : List UInt8) : wordsF s.length acc s = wordsB acc (trimT s) := by
  have hl := trim_le s
  cases hs : s.length with
  | zero =>
    have : s = [] := List.eq_nil_of_length_eq_zero hs
    subst this; rfl
  | succ n =>
    simp only [wordsF, wordsB]
    cases ht : trimT s with
    | nil => rfl
    | cons c t =>
      rw [ht] at hl
      simp only
      split
      · cases hu : unqL (c :: t) with
        | none => rfl
        | some p =>
          obtain ⟨w, r⟩ := p
          have := unqL_lt hu
          simp only
          rw [words_fuel n r.length _ _ (by omega) (Nat.le_refl _)]
      · have h1 := wlen_pos (t := t) (trim_head ht)
        rw [words_fuel n _ _ _ (by simp only [List.length_drop]; omega) (Nat.le_refl _)]
theorem words_blk (acc : List (List UInt8)) {c : UInt8} {r : List UInt8} (h : blk c = true) : wordsF (c :: r).length acc (c :: r) = wordsF r.length acc r := by
  rw [words_eq, words_eq, trimT, List.dropWhile_cons, if_pos h]; rfl
/-- Lists of words, and what is wrong. -/
def wordsR (W : List (List UInt8) × Int) : SV × Store := if W.2 = 0 then (.tup [.own 0, .d (.v (.int .i64 0))], ⟨1, [(0, .row 9 1 (strRows W.1))]⟩) else (.tup [.d (.sl []), .d (.v (.int .i64 W.2))], ⟨0, []⟩)
def CWords : Contract := stC fun args st => match args, st with
  | [.d (.v (.string s))], ⟨0, []⟩ => some (s.size ≤ 1099511627776, (wordsR (wordsS s.data.toList)).1, (wordsR (wordsS s.data.toList)).2)
  | _, _ => none
def CBlkS : Contract := pureC fun args => match args with
  | [.d (.v (.string s))] => some (s.size ≤ 1099511627776, .d (.v (.bool (blkS s.data.toList))))
  | _ => none
theorem s51 : Sound G Tryd.prog 51 CBlkS := by
  refine sd51 (T := tabT []) tab_nil (pureC_lawful _) (pure_hX fun args p x K h hp hk => ?_)
  split at h <;> simp only [Option.some.injEq, Prod.mk.injEq, reduceCtorEq] at h
  obtain ⟨rfl, rfl⟩ := h
  refine ⟨Nat.le_of_ble_eq_true rfl, ?_⟩
  rename_i s
  obtain ⟨s, rfl⟩ := ex_str s
  simp only [sem_str] at hk hp
  cases s with
  | nil =>
    simp -dsimp -implicitDefEqProofs only [S51, R51, empty_iff', ↓Ev.xStp_eq, ↓Ev.P, Ev.Q, eq_self, forall_eq_or_imp, implies_true, forall_const, forall_eq, ↓reduceIte, reduceIte, Nat.reduceEqDiff, Nat.reduceAdd, reduceCtorEq, Nat.reduceSub, Int.reduceToNat, Int.reduceLE, Int.reduceLT, Int.reduceNeg, Nat.reduceBEq, Nat.reduceMul, Nat.reduceLeDiff, Nat.reduceMod, UInt8.reduceOfNat, Nat.reduceLT, Int.reduceEq, Int.reduceAdd, Int.reduceSub, Int.reduceMul]
    exact hk
  | cons c r =>
    simp -dsimp -implicitDefEqProofs only [S51, R51, empty_iff', ↓Ev.xStp_eq, ↓Ev.P, Ev.Q, eq_self, forall_eq_or_imp, implies_true, forall_const, forall_eq, ↓reduceIte, reduceIte, Nat.reduceEqDiff, Nat.reduceAdd, reduceCtorEq, Nat.reduceSub, Int.reduceToNat, Int.reduceLE, Int.reduceLT, Int.reduceNeg, Nat.reduceBEq, Nat.reduceMul, Nat.reduceLeDiff, Nat.reduceMod, UInt8.reduceOfNat, Nat.reduceLT, Int.reduceEq, Int.reduceAdd, Int.reduceSub, Int.reduceMul]
    have hb := blk_int c
    unfold blkI at hb
    repeat' (first | with_reducible assumption | refine And.intro ?_ ?_ | intro _)
    all_goals first | omega | skip
    rw [hb]; exact hk
def CBlk : Contract := pureC fun args => match args with
  | [.d (.v (.int .u8 c))] => some (True, .d (.v (.bool (blkI c))))
  | _ => none
theorem s53 : Sound G Tryd.prog 53 CBlk := by
  refine sd53 (T := tabT []) tab_nil (pureC_lawful _) (pure_hX fun args p x K h hp hk => ?_)
  split at h <;> simp only [Option.some.injEq, Prod.mk.injEq, reduceCtorEq] at h
  obtain ⟨rfl, rfl⟩ := h
  refine ⟨Nat.le_of_ble_eq_true rfl, ?_⟩
  simp -dsimp -implicitDefEqProofs only [S53, R53, ↓Ev.xStp_eq, ↓Ev.P, Ev.Q, eq_self, forall_eq_or_imp, implies_true, forall_const, forall_eq, ↓reduceIte, reduceIte, Nat.reduceEqDiff, Nat.reduceAdd, reduceCtorEq, Nat.reduceSub, Int.reduceToNat, Int.reduceLE, Int.reduceLT, Int.reduceNeg, Nat.reduceBEq, Nat.reduceMul, Nat.reduceLeDiff, Nat.reduceMod, UInt8.reduceOfNat, Nat.reduceLT, Int.reduceEq, Int.reduceAdd, Int.reduceSub, Int.reduceMul]
  exact hk
end Go.Proofs.YtpbkdcfjlbdgfaaDoor
