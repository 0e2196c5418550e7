/- What settles conflicts in a merged text is what the reference does: for every text, whatever names, within the bulk that the row allows. Part 3 of 5. -/
import Derived.Test.YtpbkdcfjlbdgfaaDoorProg
import Derived.Shelf.Strings.Builder1
import Derived.Shelf.Strings.Builder2
import Derived.Shelf.Strings.OnBuilder
import Derived.Shelf.Strings.Trim
import Derived.Shelf.Small.Utf8
import Derived.Shelf.Small.Strs
import Derived.Shelf.Strconv.Atoi
import Derived.Shelf.Strconv.Itoa0
import Derived.Shelf.Strconv.Itoa1
import Derived.Shelf.LaysM
import Derived.Shelf.Strconv.Itoa2
import Derived.Shelf.Strconv.Itoa3
import Derived.Shelf.Strconv.AtoiErrFast
import Derived.Shelf.Strconv.ParseIntEmpty
import Derived.Shelf.Strconv.AtoiFail
import Derived.Shelf.Strconv.Clone
import Derived.Shelf.Strconv.SyntaxError
import Derived.Shelf.LaysC
import Derived.Shelf.Strconv.ToError
import Derived.Shelf.Strconv.Lower
import Derived.Shelf.Strconv.ParseUint10
import Derived.Shelf.Strconv.ParseUint10Empty
import Derived.Shelf.Strconv.ParseUint10Any
import Derived.Shelf.Strconv.ParseInt10
import Derived.Shelf.Strconv.AtoiLong
import Derived.Shelf.Strconv.AtoiInnerAll
import Derived.Shelf.Strconv.RangeError
import Derived.Shelf.Strconv.ToErrorRange
import Derived.Shelf.Strconv.AtoiAll
import Derived.Shelf.Strconv.ErrVarAll
import Derived.Shelf.Strings.Search1
import Derived.Shelf.Strings.Search2
import Derived.Shelf.Strings.Search3
import Derived.Shelf.Strings.Count
import Derived.Shelf.Strings.Shaped
import Derived.Shelf.Strings.Runes
import Derived.Shelf.Strings.IndexAny
import Derived.Shelf.Strings.AsciiSet
import Derived.Shelf.Strings.IndexAnyAll
import Derived.Shelf.Bits.Mul64
import Derived.Shelf.Unicode.DecodeSlow
import Derived.Lib.ItoaLen
import Derived.Lib.Strings
import Derived.Lib.Slices
import Derived.Lib.Walk
import Derived.Lib.Builder
import Derived.Lib.UnsafeStr
import Derived.WalkKit
import Derived.Laws.Externs
import Derived.SliceStrings
import Derived.Lib.LaidTab
import Derived.Below
import Derived.ChangeSame
import Derived.ProofKit
import Derived.OpenShut
import Derived.Test.YtpbkdcfjlbdgfaaDoorRows
import Derived.Deep.Slices
import Derived.Deep.Fields
import Derived.Test.YtpbkdcfjlbdgfaaDoorMp1
import Derived.Test.YtpbkdcfjlbdgfaaDoorMp2
/- The compiled code of functions, by program (gen.py): each theorem says that the loaded program compiles to it. -/
set_option linter.unusedVariables false
namespace Go.Proofs.YtpbkdcfjlbdgfaaDoor
open Go Go.Ev
set_option maxRecDepth 100000
theorem mo : Tryd.prog.follows .mixedOrders = true := by kernel_rfl

/-! 3: redline/redlinelaw12.NormalPrints -/
def A3 : Ann := ⟨fun r i => if r = 4 ∧ i = 11 then 1 else if r = 4 ∧ i = 16 then 1 else 0, fun _ => none, fun r => if r = 1 then some (false, [0, 1, 2]) else if r = 2 then some (false, [0, 1, 2, 7, 8]) else if r = 3 then some (false, [0, 1, 2, 7, 8, 9, 10]) else if r = 4 then some (false, [1, 2, 7, 8, 9, 10, 11, 12]) else none, fun _ => []⟩
def S3 : SCode :=
  (.seq (.ops [⟨none, (some 6), .mv 6 (.k (Value.bool false)), false⟩])
  (.seq (.seq (.keep [0, 1, 2]) (.ops [⟨none, (some 13), .bs 13 9 1 [], false⟩,
    ⟨none, (some 14), .mv 14 (.s 1), false⟩,
    ⟨none, (some 15), .ap 15 9 1 16 (.s 13) (.s 14), false⟩,
    ⟨none, (some 16), .bs 16 9 1 [], false⟩,
    ⟨none, (some 17), .mv 17 (.s 2), false⟩,
    ⟨none, (some 18), .ap 18 9 1 16 (.s 16) (.s 17), false⟩,
    ⟨none, (some 7), .mv 7 (.s 15), false⟩,
    ⟨none, (some 8), .mv 8 (.s 18), false⟩]))
  (.seq (.seq (.keep [0, 1, 2, 7, 8]) (.ops [⟨none, (some 20), .bs 20 74 4 [], false⟩,
    ⟨none, (some 21), .mv 21 (.s 0), false⟩,
    ⟨none, (some 22), .ap 22 74 4 32 (.s 20) (.s 21), false⟩,
    ⟨none, (some 23), .mv 23 (.s 7), false⟩,
    ⟨none, (some 24), .mv 24 (.s 8), false⟩,
    ⟨none, (some 25), .call (some 25) 13 false [(.s 22), (.s 23), (.s 24)], false⟩,
    ⟨none, (some 19), .mv 19 (.s 25), false⟩,
    ⟨none, (some 26), .ex 26 (.s 19) 0, false⟩,
    ⟨none, (some 27), .ex 27 (.s 19) 1, false⟩,
    ⟨none, (some 9), .mv 9 (.s 26), true⟩,
    ⟨none, (some 10), .mv 10 (.s 27), false⟩]))
  (.seq (.seq (.keep [0, 1, 2, 7, 8, 9, 10]) (.ops [⟨none, (some 29), .mv 29 (.s 0), false⟩,
    ⟨none, (some 30), .mv 30 (.s 1), false⟩,
    ⟨none, (some 31), .mv 31 (.s 2), false⟩,
    ⟨none, (some 32), .call (some 32) 14 false [(.s 29), (.s 30), (.s 31)], false⟩,
    ⟨none, (some 28), .mv 28 (.s 32), false⟩,
    ⟨none, (some 33), .ex 33 (.s 28) 0, false⟩,
    ⟨none, (some 34), .ex 34 (.s 28) 1, false⟩,
    ⟨none, (some 11), .mv 11 (.s 33), false⟩,
    ⟨none, (some 12), .mv 12 (.s 34), false⟩]))
  (.seq (.seq (.keep [1, 2, 7, 8, 9, 10, 11, 12]) (.ops [⟨none, (some 35), .mv 35 (.s 9), false⟩,
    ⟨none, (some 36), .mv 36 (.s 11), false⟩,
    ⟨none, (some 37), .bin 37 .eql (.s 35) (.s 36), false⟩,
    ⟨none, (some 38), .mv 38 (.s 37), false⟩,
    ⟨(some (38, true)), (some 39), .mv 39 (.s 10), false⟩,
    ⟨(some (38, true)), (some 40), .mv 40 (.s 12), false⟩,
    ⟨(some (38, true)), (some 41), .bin 41 .eql (.s 39) (.s 40), false⟩,
    ⟨none, (some 42), .pk 42 (.s 38) (.s 41) (.k (Value.bool false)), false⟩,
    ⟨none, (some 43), .mv 43 (.s 42), false⟩,
    ⟨(some (43, true)), (some 44), .mv 44 (.s 1), true⟩,
    ⟨(some (43, true)), (some 45), .mv 45 (.s 7), false⟩,
    ⟨(some (43, true)), (some 46), .call (some 46) 15 true [(.s 44), (.s 45)], false⟩,
    ⟨none, (some 47), .pk 47 (.s 43) (.s 46) (.k (Value.bool false)), false⟩,
    ⟨none, (some 48), .mv 48 (.s 47), false⟩,
    ⟨(some (48, true)), (some 49), .mv 49 (.s 2), false⟩,
    ⟨(some (48, true)), (some 50), .mv 50 (.s 8), false⟩,
    ⟨(some (48, true)), (some 51), .call (some 51) 15 true [(.s 49), (.s 50)], false⟩,
    ⟨none, (some 52), .pk 52 (.s 48) (.s 51) (.k (Value.bool false)), false⟩,
    ⟨none, (some 6), .mv 6 (.s 52), false⟩]))
  .ret)))))
theorem cc3 : (Tryd.f3.body).bind (cc Tryd.prog Tryd.f3.ntmps A3) = some S3 := by kernel_rfl
def R3 : List RR := [.sl 6]
theorem cr3 : Tryd.f3.results.toList.map (crr Tryd.prog) = R3.map some := by kernel_rfl
theorem nm3 : (Tryd.f3.name == "runtime.NumGoroutine") = false := by kernel_rfl
theorem fn3 : Tryd.prog.funcs[3]? = some Tryd.f3 := by kernel_rfl
theorem bd3 : ∃ b, Tryd.f3.body = some b ∧ cc Tryd.prog Tryd.f3.ntmps A3 b = some S3 := Option.bind_eq_some_iff.1 cc3
theorem sd3 {G : World → Prop} {T : FuncId → Contract} {C : Contract} (hT : ∀ f, Sound G Tryd.prog f (T f)) (hl : C.lawful) (hC : ∀ args st K, C.wp args st K → args.length ≤ 53 ∧ ∃ os op, xv T st.n S3 (st0 args st) (retK R3 st.n os K) (panK st.n op K)) (hit : SoundIt G Tryd.prog 3 C.it := by exact SoundIt.none) : Sound G Tryd.prog 3 C := by
  obtain ⟨b, hb, hc⟩ := bd3
  rw [xv_eq] at hC
  exact sound_of_ev mo fn3 hb nm3 hc cr3 hT hl hit hC

/-! 13: redline/normal.Print -/
def A13 : Ann := ⟨fun r i => if r = 4 ∧ i = 0 then 7 else 0, fun r => if r = 8 then some ([], [(0, true), (2, true), (5, true), (7, true), (1, true), (3, true), (6, true), (8, true), (4, false), (9, false), (10, true), (11, true), (12, true)]) else none, fun r => if r = 1 then some (false, [0, 1, 2]) else if r = 3 then some (false, [8]) else if r = 5 then some (false, [0, 1, 2, 9]) else if r = 7 then some (false, [1, 2, 9, 24, 25, 26]) else if r = 8 then some (false, [1, 2, 9, 11, 24, 25, 26]) else if r = 9 then some (false, [1, 2, 9, 11, 12, 13, 14, 24, 25, 26]) else if r = 10 then some (false, [1, 2, 9, 11, 13, 24, 25, 26]) else if r = 11 then some (false, [1, 2, 9, 11, 12, 13, 14, 24, 25, 26]) else if r = 12 then some (false, [1, 2, 9, 11, 12, 24, 25, 26]) else if r = 13 then some (false, [1, 2, 9, 11, 12, 13, 14, 24, 25, 26]) else if r = 14 then some (false, [1, 2, 9, 11, 14, 24, 25, 26]) else if r = 17 then some (false, [1, 2, 9, 11, 24, 25, 26]) else if r = 19 then some (false, [9]) else none, fun r => if r = 6 then [1, 2, 9, 24, 25, 26] else []⟩
def S13_0 : SCode :=
  (.ops [⟨none, (some 6), .mv 6 (.k (Value.string ⟨#[]⟩)), false⟩,
    ⟨none, (some 7), .mv 7 (.k (Value.int .i64 0)), false⟩])
def S13_1 : SCode :=
  (.seq (.seq (.keep [0, 1, 2]) (.ops [⟨none, (some 15), .mv 15 (.s 0), false⟩,
    ⟨none, (some 16), .mv 16 (.s 1), false⟩,
    ⟨none, (some 17), .len 17 (.s 16), false⟩,
    ⟨none, (some 18), .mv 18 (.s 2), false⟩,
    ⟨none, (some 19), .len 19 (.s 18), false⟩,
    ⟨none, (some 20), .call (some 20) 41 false [(.s 15), (.s 17), (.s 19)], false⟩,
    ⟨none, (some 8), .mv 8 (.s 20), false⟩]))
  (.seq (.ops [⟨none, (some 21), .mv 21 (.s 8), false⟩,
    ⟨none, (some 22), .bin 22 .neq (.s 21) (.k (Value.int .i64 0)), false⟩])
  (.cond (.s 22) (.seq (.seq (.keep [8]) (.ops [⟨none, (some 23), .mv 23 (.s 8), false⟩,
    ⟨none, (some 6), .mv 6 (.k (Value.string ⟨#[]⟩)), false⟩,
    ⟨none, (some 7), .mv 7 (.s 23), false⟩]))
  .ret) .skip)))
def S13_2 : SCode :=
  (.ops [⟨none, (some 9), .alb 9 72 5, false⟩])
def S13_3 : SCode :=
  (.seq (.seq (.keep [0, 1, 2, 9]) (.ops [⟨none, (some 24), .mv 24 (.s 0), false⟩,
    ⟨none, (some 25), .len 25 (.s 24), false⟩,
    ⟨none, (some 26), .mv 26 (.k (Value.int .i64 0)), false⟩]))
  (.block 0 (.loop [1, 2, 9, 24, 25, 26] (.seq (.ops [⟨none, (some 27), .bin 27 .lss (.s 26) (.s 25), false⟩])
  (.seq (.cond (.s 27) .skip (.exit 0))
  (.seq (.block 1 (.seq (.seq (.keep [1, 2, 9, 24, 25, 26]) (.ops [⟨none, (some 28), .ia 28 4 (.s 24) (.s 26), false⟩,
    ⟨none, (some 29), .ld 29 true 4 (.s 28), false⟩,
    ⟨none, (some 11), .al 11 74 [(Value.int .i64 0), (Value.int .i64 0), (Value.int .i64 0), (Value.int .i64 0)], false⟩,
    ⟨none, none, .st true 4 (.s 11) (.s 29), false⟩]))
  (.seq (.seq (.keep [1, 2, 9, 11, 24, 25, 26]) (.dr [] [(0, true, ⟨none, (some 30), .fa 30 0 (.s 11), false⟩),
    (2, true, ⟨none, (some 32), .fa 32 1 (.s 11), false⟩),
    (5, true, ⟨none, (some 35), .fa 35 2 (.s 11), false⟩),
    (7, true, ⟨none, (some 37), .fa 37 3 (.s 11), false⟩),
    (1, true, ⟨none, (some 31), .ld 31 false 1 (.s 30), false⟩),
    (3, true, ⟨none, (some 33), .ld 33 false 1 (.s 32), false⟩),
    (6, true, ⟨none, (some 36), .ld 36 false 1 (.s 35), false⟩),
    (8, true, ⟨none, (some 38), .ld 38 false 1 (.s 37), false⟩),
    (4, false, ⟨none, (some 34), .call (some 34) 42 false [(.s 31), (.s 33)], false⟩),
    (9, false, ⟨none, (some 39), .call (some 39) 42 false [(.s 36), (.s 38)], true⟩),
    (10, true, ⟨none, (some 12), .mv 12 (.s 34), false⟩),
    (11, true, ⟨none, (some 13), .mv 13 (.s 39), false⟩),
    (12, true, ⟨none, (some 14), .mv 14 (.k (Value.string ⟨#[99]⟩)), false⟩)]))
  (.seq (.seq (.seq (.keep [1, 2, 9, 11, 12, 13, 14, 24, 25, 26]) (.ops [⟨none, (some 40), .fa 40 1 (.s 11), false⟩,
    ⟨none, (some 41), .ld 41 false 1 (.s 40), false⟩,
    ⟨none, (some 42), .bin 42 .eql (.s 41) (.k (Value.int .i64 0)), false⟩]))
  (.cond (.s 42) (.seq (.keep [1, 2, 9, 11, 13, 24, 25, 26]) (.ops [⟨none, (some 43), .fa 43 0 (.s 11), false⟩,
    ⟨none, (some 44), .ld 44 false 1 (.s 43), false⟩,
    ⟨none, (some 45), .call (some 45) 32 false [(.s 44)], false⟩,
    ⟨none, (some 12), .mv 12 (.s 45), false⟩,
    ⟨none, (some 14), .mv 14 (.k (Value.string ⟨#[97]⟩)), false⟩])) .skip))
  (.seq (.seq (.seq (.keep [1, 2, 9, 11, 12, 13, 14, 24, 25, 26]) (.ops [⟨none, (some 46), .fa 46 3 (.s 11), false⟩,
    ⟨none, (some 47), .ld 47 false 1 (.s 46), false⟩,
    ⟨none, (some 48), .bin 48 .eql (.s 47) (.k (Value.int .i64 0)), false⟩]))
  (.cond (.s 48) (.seq (.keep [1, 2, 9, 11, 12, 24, 25, 26]) (.ops [⟨none, (some 49), .fa 49 2 (.s 11), false⟩,
    ⟨none, (some 50), .ld 50 false 1 (.s 49), false⟩,
    ⟨none, (some 51), .call (some 51) 32 false [(.s 50)], false⟩,
    ⟨none, (some 13), .mv 13 (.s 51), false⟩,
    ⟨none, (some 14), .mv 14 (.k (Value.string ⟨#[100]⟩)), false⟩])) .skip))
  (.seq (.seq (.keep [1, 2, 9, 11, 12, 13, 14, 24, 25, 26]) (.ops [⟨none, (some 52), .fa 52 0 (.s 9), false⟩,
    ⟨none, (some 53), .mv 53 (.s 12), false⟩,
    ⟨none, (some 54), .mv 54 (.s 14), false⟩,
    ⟨none, (some 55), .bin 55 .add (.s 53) (.s 54), false⟩,
    ⟨none, (some 56), .mv 56 (.s 13), false⟩,
    ⟨none, (some 57), .bin 57 .add (.s 55) (.s 56), false⟩,
    ⟨none, (some 58), .bin 58 .add (.s 57) (.k (Value.string ⟨#[10]⟩)), false⟩,
    ⟨none, (some 59), .call (some 59) 43 false [(.s 52), (.s 58)], false⟩]))
  (.seq (.seq (.keep [1, 2, 9, 11, 14, 24, 25, 26]) (.ops [⟨none, (some 60), .mv 60 (.s 1), false⟩,
    ⟨none, (some 61), .fa 61 0 (.s 11), false⟩,
    ⟨none, (some 62), .ld 62 false 1 (.s 61), false⟩,
    ⟨none, (some 63), .fa 63 0 (.s 11), false⟩,
    ⟨none, (some 64), .ld 64 false 1 (.s 63), false⟩,
    ⟨none, (some 65), .fa 65 1 (.s 11), false⟩,
    ⟨none, (some 66), .ld 66 false 1 (.s 65), false⟩,
    ⟨none, (some 67), .binc 67 .add (.s 64) (.s 66), false⟩,
    ⟨none, (some 68), .slr 68 1 (.s 60) (some (.s 62)) (some (.s 67)), false⟩,
    ⟨none, (some 69), .call (some 69) 44 false [(.s 9), (.k (Value.string ⟨#[60, 32]⟩)), (.s 68)], true⟩]))
  (.seq (.seq (.ops [⟨none, (some 70), .mv 70 (.s 14), false⟩,
    ⟨none, (some 71), .bin 71 .eql (.s 70) (.k (Value.string ⟨#[99]⟩)), false⟩])
  (.cond (.s 71) (.ops [⟨none, (some 72), .fa 72 0 (.s 9), false⟩,
    ⟨none, (some 73), .call (some 73) 43 false [(.s 72), (.k (Value.string ⟨#[45, 45, 45, 10]⟩))], false⟩]) .skip))
  (.seq (.keep [1, 2, 9, 11, 24, 25, 26]) (.ops [⟨none, (some 74), .mv 74 (.s 2), false⟩,
    ⟨none, (some 75), .fa 75 2 (.s 11), false⟩,
    ⟨none, (some 76), .ld 76 false 1 (.s 75), false⟩,
    ⟨none, (some 77), .fa 77 2 (.s 11), false⟩,
    ⟨none, (some 78), .ld 78 false 1 (.s 77), false⟩,
    ⟨none, (some 79), .fa 79 3 (.s 11), false⟩,
    ⟨none, (some 80), .ld 80 false 1 (.s 79), false⟩,
    ⟨none, (some 81), .binc 81 .add (.s 78) (.s 80), false⟩,
    ⟨none, (some 82), .slr 82 1 (.s 74) (some (.s 76)) (some (.s 81)), false⟩,
    ⟨none, (some 83), .call (some 83) 44 false [(.s 9), (.k (Value.string ⟨#[62, 32]⟩)), (.s 82)], true⟩]))))))))))
  (.ops [⟨none, (some 84), .binc 84 .add (.s 26) (.k (Value.int .i64 1)), false⟩,
    ⟨none, (some 26), .mv 26 (.s 84), false⟩])))))))
def S13_4 : SCode :=
  (.seq (.keep [9]) (.ops [⟨none, (some 85), .fa 85 0 (.s 9), false⟩,
    ⟨none, (some 86), .call (some 86) 45 false [(.s 85)], false⟩,
    ⟨none, (some 6), .mv 6 (.s 86), false⟩,
    ⟨none, (some 7), .mv 7 (.k (Value.int .i64 0)), false⟩]))
def S13r5 : SCode := .ret
def S13r4 : SCode := .seq S13_4 S13r5
def S13r3 : SCode := .seq S13_3 S13r4
def S13r2 : SCode := .seq S13_2 S13r3
def S13r1 : SCode := .seq S13_1 S13r2
def S13 : SCode := .seq S13_0 S13r1
theorem cc13 : (Tryd.f13.body).bind (cc Tryd.prog Tryd.f13.ntmps A13) = some S13 := by kernel_rfl
def R13 : List RR := [.sl 6, .sl 7]
theorem cr13 : Tryd.f13.results.toList.map (crr Tryd.prog) = R13.map some := by kernel_rfl
theorem nm13 : (Tryd.f13.name == "runtime.NumGoroutine") = false := by kernel_rfl
theorem fn13 : Tryd.prog.funcs[13]? = some Tryd.f13 := by kernel_rfl
theorem bd13 : ∃ b, Tryd.f13.body = some b ∧ cc Tryd.prog Tryd.f13.ntmps A13 b = some S13 := Option.bind_eq_some_iff.1 cc13
theorem sd13 {G : World → Prop} {T : FuncId → Contract} {C : Contract} (hT : ∀ f, Sound G Tryd.prog f (T f)) (hl : C.lawful) (hC : ∀ args st K, C.wp args st K → args.length ≤ 87 ∧ ∃ os op, xv T st.n S13 (st0 args st) (retK R13 st.n os K) (panK st.n op K)) (hit : SoundIt G Tryd.prog 13 C.it := by exact SoundIt.none) : Sound G Tryd.prog 13 C := by
  obtain ⟨b, hb, hc⟩ := bd13
  rw [xv_eq] at hC
  exact sound_of_ev mo fn13 hb nm13 hc cr13 hT hl hit hC

/-! 14: redline/redlineref12.Print -/
def A14 : Ann := ⟨fun _ _ => 0, fun _ => none, fun r => if r = 1 then some (false, [0, 1, 2]) else if r = 3 then some (false, [8]) else if r = 6 then some (false, [0, 1, 2, 9, 10]) else if r = 7 then some (false, [0, 1, 2, 9, 10]) else if r = 8 then some (false, [0, 1, 2, 9, 10]) else if r = 9 then some (false, [9]) else none, fun r => if r = 6 then [0, 1, 2, 9, 10] else []⟩
def S14 : SCode :=
  (.seq (.ops [⟨none, (some 6), .mv 6 (.k (Value.string ⟨#[]⟩)), false⟩,
    ⟨none, (some 7), .mv 7 (.k (Value.int .i64 0)), false⟩])
  (.seq (.seq (.keep [0, 1, 2]) (.ops [⟨none, (some 11), .mv 11 (.s 0), false⟩,
    ⟨none, (some 12), .mv 12 (.s 1), false⟩,
    ⟨none, (some 13), .len 13 (.s 12), false⟩,
    ⟨none, (some 14), .mv 14 (.s 2), false⟩,
    ⟨none, (some 15), .len 15 (.s 14), false⟩,
    ⟨none, (some 16), .call (some 16) 46 false [(.s 11), (.s 13), (.s 15)], false⟩,
    ⟨none, (some 8), .mv 8 (.s 16), false⟩]))
  (.seq (.seq (.ops [⟨none, (some 17), .mv 17 (.s 8), false⟩,
    ⟨none, (some 18), .bin 18 .neq (.s 17) (.k (Value.int .i64 0)), false⟩])
  (.cond (.s 18) (.seq (.seq (.keep [8]) (.ops [⟨none, (some 19), .mv 19 (.s 8), false⟩,
    ⟨none, (some 6), .mv 6 (.k (Value.string ⟨#[]⟩)), false⟩,
    ⟨none, (some 7), .mv 7 (.s 19), false⟩]))
  .ret) .skip))
  (.seq (.ops [⟨none, (some 9), .mv 9 (.k (Value.string ⟨#[]⟩)), false⟩])
  (.seq (.seq (.ops [⟨none, (some 10), .mv 10 (.k (Value.int .i64 0)), false⟩])
  (.block 0 (.loop [0, 1, 2, 9, 10] (.seq (.seq (.seq (.keep [0, 1, 2, 9, 10]) (.ops [⟨none, (some 20), .mv 20 (.s 10), false⟩,
    ⟨none, (some 21), .mv 21 (.s 0), false⟩,
    ⟨none, (some 22), .len 22 (.s 21), false⟩,
    ⟨none, (some 23), .bin 23 .lss (.s 20) (.s 22), false⟩]))
  (.cond (.s 23) .skip (.exit 0)))
  (.seq (.block 1 (.seq (.keep [0, 1, 2, 9, 10]) (.ops [⟨none, (some 26), .mv 26 (.s 9), false⟩,
    ⟨none, (some 27), .mv 27 (.s 0), false⟩,
    ⟨none, (some 28), .mv 28 (.s 10), false⟩,
    ⟨none, (some 29), .ia 29 4 (.s 27) (.s 28), false⟩,
    ⟨none, (some 30), .ld 30 true 4 (.s 29), false⟩,
    ⟨none, (some 31), .mv 31 (.s 1), false⟩,
    ⟨none, (some 32), .mv 32 (.s 2), false⟩,
    ⟨none, (some 33), .call (some 33) 47 false [(.s 30), (.s 31), (.s 32)], false⟩,
    ⟨none, (some 34), .bin 34 .add (.s 26) (.s 33), false⟩,
    ⟨none, (some 9), .mv 9 (.s 34), true⟩])))
  (.seq (.keep [0, 1, 2, 9, 10]) (.ops [⟨none, (some 24), .mv 24 (.s 10), false⟩,
    ⟨none, (some 25), .binc 25 .add (.s 24) (.k (Value.int .i64 1)), false⟩,
    ⟨none, (some 10), .mv 10 (.s 25), false⟩])))))))
  (.seq (.seq (.keep [9]) (.ops [⟨none, (some 35), .mv 35 (.s 9), false⟩,
    ⟨none, (some 6), .mv 6 (.s 35), false⟩,
    ⟨none, (some 7), .mv 7 (.k (Value.int .i64 0)), false⟩]))
  .ret))))))
theorem cc14 : (Tryd.f14.body).bind (cc Tryd.prog Tryd.f14.ntmps A14) = some S14 := by kernel_rfl
def R14 : List RR := [.sl 6, .sl 7]
theorem cr14 : Tryd.f14.results.toList.map (crr Tryd.prog) = R14.map some := by kernel_rfl
theorem nm14 : (Tryd.f14.name == "runtime.NumGoroutine") = false := by kernel_rfl
theorem fn14 : Tryd.prog.funcs[14]? = some Tryd.f14 := by kernel_rfl
theorem bd14 : ∃ b, Tryd.f14.body = some b ∧ cc Tryd.prog Tryd.f14.ntmps A14 b = some S14 := Option.bind_eq_some_iff.1 cc14
theorem sd14 {G : World → Prop} {T : FuncId → Contract} {C : Contract} (hT : ∀ f, Sound G Tryd.prog f (T f)) (hl : C.lawful) (hC : ∀ args st K, C.wp args st K → args.length ≤ 36 ∧ ∃ os op, xv T st.n S14 (st0 args st) (retK R14 st.n os K) (panK st.n op K)) (hit : SoundIt G Tryd.prog 14 C.it := by exact SoundIt.none) : Sound G Tryd.prog 14 C := by
  obtain ⟨b, hb, hc⟩ := bd14
  rw [xv_eq] at hC
  exact sound_of_ev mo fn14 hb nm14 hc cr14 hT hl hit hC

/-! 15: redline/redlineref01.SameStrings -/
def A15 : Ann := ⟨fun _ _ => 0, fun r => if r = 6 then some ([], [(0, true), (1, true), (2, true), (4, true), (5, true), (6, true), (3, true), (7, true), (8, true)]) else none, fun r => if r = 1 then some (false, [0, 1]) else if r = 4 then some (false, [0, 1, 5]) else if r = 5 then some (false, [0, 1, 5]) else if r = 6 then some (false, [0, 1, 5]) else none, fun r => if r = 4 then [0, 1, 5] else []⟩
def S15 : SCode :=
  (.seq (.ops [⟨none, (some 4), .mv 4 (.k (Value.bool false)), false⟩])
  (.seq (.seq (.seq (.keep [0, 1]) (.ops [⟨none, (some 6), .mv 6 (.s 0), false⟩,
    ⟨none, (some 7), .len 7 (.s 6), false⟩,
    ⟨none, (some 8), .mv 8 (.s 1), false⟩,
    ⟨none, (some 9), .len 9 (.s 8), false⟩,
    ⟨none, (some 10), .bin 10 .neq (.s 7) (.s 9), false⟩]))
  (.cond (.s 10) (.seq (.ops [⟨none, (some 4), .mv 4 (.k (Value.bool false)), false⟩])
  .ret) .skip))
  (.seq (.seq (.ops [⟨none, (some 5), .mv 5 (.k (Value.int .i64 0)), false⟩])
  (.block 0 (.loop [0, 1, 5] (.seq (.seq (.seq (.keep [0, 1, 5]) (.ops [⟨none, (some 11), .mv 11 (.s 5), false⟩,
    ⟨none, (some 12), .mv 12 (.s 0), false⟩,
    ⟨none, (some 13), .len 13 (.s 12), false⟩,
    ⟨none, (some 14), .bin 14 .lss (.s 11) (.s 13), false⟩]))
  (.cond (.s 14) .skip (.exit 0)))
  (.seq (.block 1 (.seq (.seq (.keep [0, 1, 5]) (.dr [] [(0, true, ⟨none, (some 17), .mv 17 (.s 0), false⟩),
    (1, true, ⟨none, (some 18), .mv 18 (.s 5), false⟩),
    (2, true, ⟨none, (some 19), .ia 19 1 (.s 17) (.s 18), false⟩),
    (4, true, ⟨none, (some 21), .mv 21 (.s 1), false⟩),
    (5, true, ⟨none, (some 22), .mv 22 (.s 5), false⟩),
    (6, true, ⟨none, (some 23), .ia 23 1 (.s 21) (.s 22), false⟩),
    (3, true, ⟨none, (some 20), .ld 20 false 1 (.s 19), false⟩),
    (7, true, ⟨none, (some 24), .ld 24 false 1 (.s 23), false⟩),
    (8, true, ⟨none, (some 25), .bin 25 .neq (.s 20) (.s 24), false⟩)]))
  (.cond (.s 25) (.seq (.ops [⟨none, (some 4), .mv 4 (.k (Value.bool false)), false⟩])
  .ret) .skip)))
  (.seq (.keep [0, 1, 5]) (.ops [⟨none, (some 15), .mv 15 (.s 5), false⟩,
    ⟨none, (some 16), .binc 16 .add (.s 15) (.k (Value.int .i64 1)), false⟩,
    ⟨none, (some 5), .mv 5 (.s 16), false⟩])))))))
  (.seq (.ops [⟨none, (some 4), .mv 4 (.k (Value.bool true)), false⟩])
  .ret))))
theorem cc15 : (Tryd.f15.body).bind (cc Tryd.prog Tryd.f15.ntmps A15) = some S15 := by kernel_rfl
def R15 : List RR := [.sl 4]
theorem cr15 : Tryd.f15.results.toList.map (crr Tryd.prog) = R15.map some := by kernel_rfl
theorem nm15 : (Tryd.f15.name == "runtime.NumGoroutine") = false := by kernel_rfl
theorem fn15 : Tryd.prog.funcs[15]? = some Tryd.f15 := by kernel_rfl
theorem bd15 : ∃ b, Tryd.f15.body = some b ∧ cc Tryd.prog Tryd.f15.ntmps A15 b = some S15 := Option.bind_eq_some_iff.1 cc15
theorem sd15 {G : World → Prop} {T : FuncId → Contract} {C : Contract} (hT : ∀ f, Sound G Tryd.prog f (T f)) (hl : C.lawful) (hC : ∀ args st K, C.wp args st K → args.length ≤ 26 ∧ ∃ os op, xv T st.n S15 (st0 args st) (retK R15 st.n os K) (panK st.n op K)) (hit : SoundIt G Tryd.prog 15 C.it := by exact SoundIt.none) : Sound G Tryd.prog 15 C := by
  obtain ⟨b, hb, hc⟩ := bd15
  rw [xv_eq] at hC
  exact sound_of_ev mo fn15 hb nm15 hc cr15 hT hl hit hC

/-! 32: redline/num.Text -/
def A32 : Ann := ⟨fun _ _ => 0, fun _ => none, fun r => if r = 1 then some (false, [0]) else none, fun _ => []⟩
def S32 : SCode :=
  (.seq (.ops [⟨none, (some 2), .mv 2 (.k (Value.string ⟨#[]⟩)), false⟩])
  (.seq (.seq (.keep [0]) (.ops [⟨none, (some 3), .mv 3 (.s 0), false⟩,
    ⟨none, (some 4), .call (some 4) 79 false [(.s 3)], false⟩,
    ⟨none, (some 2), .mv 2 (.s 4), false⟩]))
  .ret))
theorem cc32 : (Tryd.f32.body).bind (cc Tryd.prog Tryd.f32.ntmps A32) = some S32 := by kernel_rfl
def R32 : List RR := [.sl 2]
theorem cr32 : Tryd.f32.results.toList.map (crr Tryd.prog) = R32.map some := by kernel_rfl
theorem nm32 : (Tryd.f32.name == "runtime.NumGoroutine") = false := by kernel_rfl
theorem fn32 : Tryd.prog.funcs[32]? = some Tryd.f32 := by kernel_rfl
theorem bd32 : ∃ b, Tryd.f32.body = some b ∧ cc Tryd.prog Tryd.f32.ntmps A32 b = some S32 := Option.bind_eq_some_iff.1 cc32
theorem sd32 {G : World → Prop} {T : FuncId → Contract} {C : Contract} (hT : ∀ f, Sound G Tryd.prog f (T f)) (hl : C.lawful) (hC : ∀ args st K, C.wp args st K → args.length ≤ 5 ∧ ∃ os op, xv T st.n S32 (st0 args st) (retK R32 st.n os K) (panK st.n op K)) (hit : SoundIt G Tryd.prog 32 C.it := by exact SoundIt.none) : Sound G Tryd.prog 32 C := by
  obtain ⟨b, hb, hc⟩ := bd32
  rw [xv_eq] at hC
  exact sound_of_ev mo fn32 hb nm32 hc cr32 hT hl hit hC

/-! 33: redline/redlineref01.Text -/
def A33 : Ann := ⟨fun _ _ => 0, fun _ => none, fun r => if r = 2 then some (false, [0]) else if r = 3 then some (false, [0]) else none, fun _ => []⟩
def S33 : SCode :=
  (.seq (.ops [⟨none, (some 2), .mv 2 (.k (Value.string ⟨#[]⟩)), false⟩])
  (.seq (.seq (.ops [⟨none, (some 3), .mv 3 (.s 0), false⟩,
    ⟨none, (some 4), .bin 4 .lss (.s 3) (.k (Value.int .i64 0)), false⟩])
  (.cond (.s 4) (.seq (.seq (.keep [0]) (.ops [⟨none, (some 5), .mv 5 (.s 0), false⟩,
    ⟨none, (some 6), .cvi 6 .u64 (.s 5), false⟩,
    ⟨none, (some 7), .neg 7 (.s 6), false⟩,
    ⟨none, (some 8), .call (some 8) 80 false [(.s 7)], false⟩,
    ⟨none, (some 9), .bin 9 .add (.k (Value.string ⟨#[45]⟩)) (.s 8), false⟩,
    ⟨none, (some 2), .mv 2 (.s 9), false⟩]))
  .ret) .skip))
  (.seq (.seq (.keep [0]) (.ops [⟨none, (some 10), .mv 10 (.s 0), false⟩,
    ⟨none, (some 11), .cvi 11 .u64 (.s 10), false⟩,
    ⟨none, (some 12), .call (some 12) 80 false [(.s 11)], false⟩,
    ⟨none, (some 2), .mv 2 (.s 12), false⟩]))
  .ret)))
theorem cc33 : (Tryd.f33.body).bind (cc Tryd.prog Tryd.f33.ntmps A33) = some S33 := by kernel_rfl
def R33 : List RR := [.sl 2]
theorem cr33 : Tryd.f33.results.toList.map (crr Tryd.prog) = R33.map some := by kernel_rfl
theorem nm33 : (Tryd.f33.name == "runtime.NumGoroutine") = false := by kernel_rfl
theorem fn33 : Tryd.prog.funcs[33]? = some Tryd.f33 := by kernel_rfl
theorem bd33 : ∃ b, Tryd.f33.body = some b ∧ cc Tryd.prog Tryd.f33.ntmps A33 b = some S33 := Option.bind_eq_some_iff.1 cc33
theorem sd33 {G : World → Prop} {T : FuncId → Contract} {C : Contract} (hT : ∀ f, Sound G Tryd.prog f (T f)) (hl : C.lawful) (hC : ∀ args st K, C.wp args st K → args.length ≤ 13 ∧ ∃ os op, xv T st.n S33 (st0 args st) (retK R33 st.n os K) (panK st.n op K)) (hit : SoundIt G Tryd.prog 33 C.it := by exact SoundIt.none) : Sound G Tryd.prog 33 C := by
  obtain ⟨b, hb, hc⟩ := bd33
  rw [xv_eq] at hC
  exact sound_of_ev mo fn33 hb nm33 hc cr33 hT hl hit hC

/-! 80: redline/redlineref01.digits -/
def A80 : Ann := ⟨fun _ _ => 0, fun _ => none, fun r => if r = 1 then some (false, [0]) else if r = 2 then some (false, [0, 3]) else if r = 4 then some (false, [0, 3]) else if r = 5 then some (false, [0, 3]) else none, fun r => if r = 3 then [0, 3] else []⟩
def S80 : SCode :=
  (.seq (.ops [⟨none, (some 2), .mv 2 (.k (Value.string ⟨#[]⟩)), false⟩])
  (.seq (.seq (.keep [0]) (.ops [⟨none, (some 4), .mv 4 (.s 0), false⟩,
    ⟨none, (some 5), .bin 5 .rem (.s 4) (.k (Value.int .u64 10)), false⟩,
    ⟨none, (some 6), .bin 6 .add (.k (Value.int .u64 48)) (.s 5), false⟩,
    ⟨none, (some 7), .cvi 7 .u8 (.s 6), false⟩,
    ⟨none, (some 8), .bs 8 5 1 [(.s 7)], false⟩,
    ⟨none, (some 9), .b2s 9 (.s 8), false⟩,
    ⟨none, (some 3), .mv 3 (.s 9), false⟩]))
  (.seq (.seq (.seq (.keep [0, 3]) (.ops [⟨none, (some 10), .mv 10 (.s 0), false⟩,
    ⟨none, (some 11), .bin 11 .quo (.s 10) (.k (Value.int .u64 10)), false⟩,
    ⟨none, (some 0), .mv 0 (.s 11), false⟩]))
  (.block 0 (.loop [0, 3] (.seq (.seq (.ops [⟨none, (some 12), .mv 12 (.s 0), false⟩,
    ⟨none, (some 13), .bin 13 .gtr (.s 12) (.k (Value.int .u64 0)), false⟩])
  (.cond (.s 13) .skip (.exit 0)))
  (.seq (.block 1 (.seq (.keep [0, 3]) (.ops [⟨none, (some 16), .mv 16 (.s 0), false⟩,
    ⟨none, (some 17), .bin 17 .rem (.s 16) (.k (Value.int .u64 10)), false⟩,
    ⟨none, (some 18), .bin 18 .add (.k (Value.int .u64 48)) (.s 17), false⟩,
    ⟨none, (some 19), .cvi 19 .u8 (.s 18), false⟩,
    ⟨none, (some 20), .bs 20 5 1 [(.s 19)], false⟩,
    ⟨none, (some 21), .b2s 21 (.s 20), false⟩,
    ⟨none, (some 22), .mv 22 (.s 3), false⟩,
    ⟨none, (some 23), .bin 23 .add (.s 21) (.s 22), false⟩,
    ⟨none, (some 3), .mv 3 (.s 23), false⟩])))
  (.seq (.keep [0, 3]) (.ops [⟨none, (some 14), .mv 14 (.s 0), false⟩,
    ⟨none, (some 15), .bin 15 .quo (.s 14) (.k (Value.int .u64 10)), false⟩,
    ⟨none, (some 0), .mv 0 (.s 15), false⟩])))))))
  (.seq (.ops [⟨none, (some 24), .mv 24 (.s 3), false⟩,
    ⟨none, (some 2), .mv 2 (.s 24), false⟩])
  .ret))))
theorem cc80 : (Tryd.f80.body).bind (cc Tryd.prog Tryd.f80.ntmps A80) = some S80 := by kernel_rfl
def R80 : List RR := [.sl 2]
theorem cr80 : Tryd.f80.results.toList.map (crr Tryd.prog) = R80.map some := by kernel_rfl
theorem nm80 : (Tryd.f80.name == "runtime.NumGoroutine") = false := by kernel_rfl
theorem fn80 : Tryd.prog.funcs[80]? = some Tryd.f80 := by kernel_rfl
theorem bd80 : ∃ b, Tryd.f80.body = some b ∧ cc Tryd.prog Tryd.f80.ntmps A80 b = some S80 := Option.bind_eq_some_iff.1 cc80
theorem sd80 {G : World → Prop} {T : FuncId → Contract} {C : Contract} (hT : ∀ f, Sound G Tryd.prog f (T f)) (hl : C.lawful) (hC : ∀ args st K, C.wp args st K → args.length ≤ 25 ∧ ∃ os op, xv T st.n S80 (st0 args st) (retK R80 st.n os K) (panK st.n op K)) (hit : SoundIt G Tryd.prog 80 C.it := by exact SoundIt.none) : Sound G Tryd.prog 80 C := by
  obtain ⟨b, hb, hc⟩ := bd80
  rw [xv_eq] at hC
  exact sound_of_ev mo fn80 hb nm80 hc cr80 hT hl hit hC

/-! 41: redline/edits.Check -/
def A41 : Ann := ⟨fun r i => if r = 5 ∧ i = 7 then 1 else if r = 5 ∧ i = 13 then 1 else if r = 5 ∧ i = 19 then 1 else 0, fun r => if r = 10 then some ([], [(0, true), (2, true), (5, true), (7, true), (1, true), (3, true), (4, true), (10, true), (6, true), (8, true), (9, true), (11, true)]) else none, fun r => if r = 2 then some (false, [0, 1, 2, 7, 8]) else if r = 4 then some (false, [1, 2, 7, 8, 12, 13, 14]) else if r = 5 then some (false, [1, 2, 7, 8, 9, 10, 12, 13, 14]) else if r = 7 then some (false, [1, 2, 7, 8, 9, 10, 12, 13, 14]) else if r = 8 then some (false, [1, 2, 8, 9, 10, 11, 12, 13, 14]) else if r = 10 then some (false, [1, 2, 10, 12, 13, 14]) else if r = 12 then some (false, [1, 2, 7, 8]) else none, fun r => if r = 3 then [1, 2, 7, 8, 12, 13, 14] else []⟩
def S41 : SCode :=
  (.seq (.ops [⟨none, (some 6), .mv 6 (.k (Value.int .i64 0)), false⟩])
  (.seq (.ops [⟨none, (some 7), .mv 7 (.k (Value.int .i64 0)), false⟩,
    ⟨none, (some 8), .mv 8 (.k (Value.int .i64 0)), false⟩])
  (.seq (.seq (.seq (.keep [0, 1, 2, 7, 8]) (.ops [⟨none, (some 12), .mv 12 (.s 0), false⟩,
    ⟨none, (some 13), .len 13 (.s 12), false⟩,
    ⟨none, (some 14), .mv 14 (.k (Value.int .i64 0)), false⟩]))
  (.block 0 (.loop [1, 2, 7, 8, 12, 13, 14] (.seq (.ops [⟨none, (some 15), .bin 15 .lss (.s 14) (.s 13), false⟩])
  (.seq (.cond (.s 15) .skip (.exit 0))
  (.seq (.block 1 (.seq (.seq (.keep [1, 2, 7, 8, 12, 13, 14]) (.ops [⟨none, (some 16), .mv 16 (.s 14), false⟩,
    ⟨none, (some 17), .ia 17 4 (.s 12) (.s 14), false⟩,
    ⟨none, (some 18), .ld 18 true 4 (.s 17), false⟩,
    ⟨none, (some 10), .al 10 74 [(Value.int .i64 0), (Value.int .i64 0), (Value.int .i64 0), (Value.int .i64 0)], false⟩,
    ⟨none, (some 9), .mv 9 (.s 16), false⟩,
    ⟨none, none, .st true 4 (.s 10) (.s 18), false⟩]))
  (.seq (.seq (.seq (.keep [1, 2, 7, 8, 9, 10, 12, 13, 14]) (.ops [⟨none, (some 19), .fa 19 0 (.s 10), false⟩,
    ⟨none, (some 20), .ld 20 false 1 (.s 19), false⟩,
    ⟨none, (some 21), .call (some 21) 93 false [(.s 20)], false⟩,
    ⟨none, (some 22), .not 22 (.s 21), false⟩,
    ⟨none, (some 23), .mv 23 (.s 22), false⟩,
    ⟨(some (23, false)), (some 24), .fa 24 1 (.s 10), false⟩,
    ⟨(some (23, false)), (some 25), .ld 25 false 1 (.s 24), false⟩,
    ⟨(some (23, false)), (some 26), .call (some 26) 93 true [(.s 25)], false⟩,
    ⟨(some (23, false)), (some 27), .not 27 (.s 26), false⟩,
    ⟨none, (some 28), .pk 28 (.s 23) (.k (Value.bool true)) (.s 27), true⟩,
    ⟨none, (some 29), .mv 29 (.s 28), false⟩,
    ⟨(some (29, false)), (some 30), .fa 30 2 (.s 10), false⟩,
    ⟨(some (29, false)), (some 31), .ld 31 false 1 (.s 30), false⟩,
    ⟨(some (29, false)), (some 32), .call (some 32) 93 true [(.s 31)], false⟩,
    ⟨(some (29, false)), (some 33), .not 33 (.s 32), false⟩,
    ⟨none, (some 34), .pk 34 (.s 29) (.k (Value.bool true)) (.s 33), false⟩,
    ⟨none, (some 35), .mv 35 (.s 34), false⟩,
    ⟨(some (35, false)), (some 36), .fa 36 3 (.s 10), false⟩,
    ⟨(some (35, false)), (some 37), .ld 37 false 1 (.s 36), false⟩,
    ⟨(some (35, false)), (some 38), .call (some 38) 93 true [(.s 37)], true⟩,
    ⟨(some (35, false)), (some 39), .not 39 (.s 38), false⟩,
    ⟨none, (some 40), .pk 40 (.s 35) (.k (Value.bool true)) (.s 39), false⟩,
    ⟨none, (some 41), .mv 41 (.s 40), false⟩,
    ⟨(some (41, false)), (some 42), .fa 42 1 (.s 10), false⟩,
    ⟨(some (41, false)), (some 43), .ld 43 false 1 (.s 42), false⟩,
    ⟨(some (41, false)), (some 44), .bin 44 .eql (.s 43) (.k (Value.int .i64 0)), false⟩,
    ⟨(some (41, false)), (some 45), .mv 45 (.s 44), false⟩,
    ⟨(some (45, true)), (some 46), .fa 46 3 (.s 10), false⟩,
    ⟨(some (45, true)), (some 47), .ld 47 false 1 (.s 46), false⟩,
    ⟨(some (45, true)), (some 48), .bin 48 .eql (.s 47) (.k (Value.int .i64 0)), true⟩,
    ⟨(some (41, false)), (some 49), .pk 49 (.s 45) (.s 48) (.k (Value.bool false)), false⟩,
    ⟨none, (some 50), .pk 50 (.s 41) (.k (Value.bool true)) (.s 49), false⟩]))
  (.cond (.s 50) (.seq (.ops [⟨none, (some 6), .mv 6 (.k (Value.int .i64 50)), false⟩])
  .ret) .skip))
  (.seq (.seq (.keep [1, 2, 7, 8, 9, 10, 12, 13, 14]) (.ops [⟨none, (some 51), .fa 51 0 (.s 10), false⟩,
    ⟨none, (some 52), .ld 52 false 1 (.s 51), false⟩,
    ⟨none, (some 53), .mv 53 (.s 7), false⟩,
    ⟨none, (some 54), .binc 54 .sub (.s 52) (.s 53), false⟩,
    ⟨none, (some 11), .mv 11 (.s 54), false⟩]))
  (.seq (.seq (.seq (.keep [1, 2, 8, 9, 10, 11, 12, 13, 14]) (.ops [⟨none, (some 55), .mv 55 (.s 11), false⟩,
    ⟨none, (some 56), .bin 56 .lss (.s 55) (.k (Value.int .i64 0)), false⟩,
    ⟨none, (some 57), .mv 57 (.s 56), false⟩,
    ⟨(some (57, false)), (some 58), .mv 58 (.s 9), false⟩,
    ⟨(some (57, false)), (some 59), .bin 59 .gtr (.s 58) (.k (Value.int .i64 0)), false⟩,
    ⟨(some (57, false)), (some 60), .mv 60 (.s 59), false⟩,
    ⟨(some (60, true)), (some 61), .mv 61 (.s 11), false⟩,
    ⟨(some (60, true)), (some 62), .bin 62 .eql (.s 61) (.k (Value.int .i64 0)), false⟩,
    ⟨(some (57, false)), (some 63), .pk 63 (.s 60) (.s 62) (.k (Value.bool false)), false⟩,
    ⟨none, (some 64), .pk 64 (.s 57) (.k (Value.bool true)) (.s 63), true⟩,
    ⟨none, (some 65), .mv 65 (.s 64), false⟩,
    ⟨(some (65, false)), (some 66), .mv 66 (.s 11), false⟩,
    ⟨(some (65, false)), (some 67), .fa 67 2 (.s 10), false⟩,
    ⟨(some (65, false)), (some 68), .ld 68 false 1 (.s 67), false⟩,
    ⟨(some (65, false)), (some 69), .mv 69 (.s 8), false⟩,
    ⟨(some (65, false)), (some 70), .binc 70 .sub (.s 68) (.s 69), false⟩,
    ⟨(some (65, false)), (some 71), .bin 71 .neq (.s 66) (.s 70), false⟩,
    ⟨none, (some 72), .pk 72 (.s 65) (.k (Value.bool true)) (.s 71), false⟩]))
  (.cond (.s 72) (.seq (.ops [⟨none, (some 6), .mv 6 (.k (Value.int .i64 50)), false⟩])
  .ret) .skip))
  (.seq (.keep [1, 2, 10, 12, 13, 14]) (.dr [] [(0, true, ⟨none, (some 73), .fa 73 0 (.s 10), false⟩),
    (2, true, ⟨none, (some 75), .fa 75 1 (.s 10), false⟩),
    (5, true, ⟨none, (some 78), .fa 78 2 (.s 10), false⟩),
    (7, true, ⟨none, (some 80), .fa 80 3 (.s 10), false⟩),
    (1, true, ⟨none, (some 74), .ld 74 false 1 (.s 73), false⟩),
    (3, true, ⟨none, (some 76), .ld 76 false 1 (.s 75), false⟩),
    (4, true, ⟨none, (some 77), .binc 77 .add (.s 74) (.s 76), false⟩),
    (10, true, ⟨none, (some 7), .mv 7 (.s 77), false⟩),
    (6, true, ⟨none, (some 79), .ld 79 false 1 (.s 78), false⟩),
    (8, true, ⟨none, (some 81), .ld 81 false 1 (.s 80), false⟩),
    (9, true, ⟨none, (some 82), .binc 82 .add (.s 79) (.s 81), true⟩),
    (11, true, ⟨none, (some 8), .mv 8 (.s 82), false⟩)])))))))
  (.ops [⟨none, (some 83), .binc 83 .add (.s 14) (.k (Value.int .i64 1)), false⟩,
    ⟨none, (some 14), .mv 14 (.s 83), false⟩])))))))
  (.seq (.seq (.seq (.keep [1, 2, 7, 8]) (.ops [⟨none, (some 84), .mv 84 (.s 7), false⟩,
    ⟨none, (some 85), .mv 85 (.s 1), false⟩,
    ⟨none, (some 86), .bin 86 .gtr (.s 84) (.s 85), false⟩,
    ⟨none, (some 87), .mv 87 (.s 86), false⟩,
    ⟨(some (87, false)), (some 88), .mv 88 (.s 8), false⟩,
    ⟨(some (87, false)), (some 89), .mv 89 (.s 2), false⟩,
    ⟨(some (87, false)), (some 90), .bin 90 .gtr (.s 88) (.s 89), false⟩,
    ⟨none, (some 91), .pk 91 (.s 87) (.k (Value.bool true)) (.s 90), false⟩,
    ⟨none, (some 92), .mv 92 (.s 91), false⟩,
    ⟨(some (92, false)), (some 93), .mv 93 (.s 1), true⟩,
    ⟨(some (92, false)), (some 94), .mv 94 (.s 7), false⟩,
    ⟨(some (92, false)), (some 95), .binc 95 .sub (.s 93) (.s 94), false⟩,
    ⟨(some (92, false)), (some 96), .mv 96 (.s 2), false⟩,
    ⟨(some (92, false)), (some 97), .mv 97 (.s 8), false⟩,
    ⟨(some (92, false)), (some 98), .binc 98 .sub (.s 96) (.s 97), false⟩,
    ⟨(some (92, false)), (some 99), .bin 99 .neq (.s 95) (.s 98), false⟩,
    ⟨none, (some 100), .pk 100 (.s 92) (.k (Value.bool true)) (.s 99), false⟩]))
  (.cond (.s 100) (.seq (.ops [⟨none, (some 6), .mv 6 (.k (Value.int .i64 50)), false⟩])
  .ret) .skip))
  (.seq (.ops [⟨none, (some 6), .mv 6 (.k (Value.int .i64 0)), false⟩])
  .ret)))))
theorem cc41 : (Tryd.f41.body).bind (cc Tryd.prog Tryd.f41.ntmps A41) = some S41 := by kernel_rfl
def R41 : List RR := [.sl 6]
theorem cr41 : Tryd.f41.results.toList.map (crr Tryd.prog) = R41.map some := by kernel_rfl
theorem nm41 : (Tryd.f41.name == "runtime.NumGoroutine") = false := by kernel_rfl
theorem fn41 : Tryd.prog.funcs[41]? = some Tryd.f41 := by kernel_rfl
theorem bd41 : ∃ b, Tryd.f41.body = some b ∧ cc Tryd.prog Tryd.f41.ntmps A41 b = some S41 := Option.bind_eq_some_iff.1 cc41
theorem sd41 {G : World → Prop} {T : FuncId → Contract} {C : Contract} (hT : ∀ f, Sound G Tryd.prog f (T f)) (hl : C.lawful) (hC : ∀ args st K, C.wp args st K → args.length ≤ 101 ∧ ∃ os op, xv T st.n S41 (st0 args st) (retK R41 st.n os K) (panK st.n op K)) (hit : SoundIt G Tryd.prog 41 C.it := by exact SoundIt.none) : Sound G Tryd.prog 41 C := by
  obtain ⟨b, hb, hc⟩ := bd41
  rw [xv_eq] at hC
  exact sound_of_ev mo fn41 hb nm41 hc cr41 hT hl hit hC

/-! 93: redline/edits.count -/
def A93 : Ann := ⟨fun _ _ => 0, fun _ => none, fun r => if r = 1 then some (false, [0]) else none, fun _ => []⟩
def S93 : SCode :=
  (.seq (.ops [⟨none, (some 2), .mv 2 (.k (Value.bool false)), false⟩])
  (.seq (.seq (.keep [0]) (.ops [⟨none, (some 3), .mv 3 (.s 0), false⟩,
    ⟨none, (some 4), .bin 4 .geq (.s 3) (.k (Value.int .i64 0)), false⟩,
    ⟨none, (some 5), .mv 5 (.s 4), false⟩,
    ⟨(some (5, true)), (some 6), .mv 6 (.s 0), false⟩,
    ⟨(some (5, true)), (some 7), .bin 7 .leq (.s 6) (.k (Value.int .i64 2147483647)), false⟩,
    ⟨none, (some 8), .pk 8 (.s 5) (.s 7) (.k (Value.bool false)), false⟩,
    ⟨none, (some 2), .mv 2 (.s 8), false⟩]))
  .ret))
theorem cc93 : (Tryd.f93.body).bind (cc Tryd.prog Tryd.f93.ntmps A93) = some S93 := by kernel_rfl
def R93 : List RR := [.sl 2]
theorem cr93 : Tryd.f93.results.toList.map (crr Tryd.prog) = R93.map some := by kernel_rfl
theorem nm93 : (Tryd.f93.name == "runtime.NumGoroutine") = false := by kernel_rfl
theorem fn93 : Tryd.prog.funcs[93]? = some Tryd.f93 := by kernel_rfl
theorem bd93 : ∃ b, Tryd.f93.body = some b ∧ cc Tryd.prog Tryd.f93.ntmps A93 b = some S93 := Option.bind_eq_some_iff.1 cc93
theorem sd93 {G : World → Prop} {T : FuncId → Contract} {C : Contract} (hT : ∀ f, Sound G Tryd.prog f (T f)) (hl : C.lawful) (hC : ∀ args st K, C.wp args st K → args.length ≤ 9 ∧ ∃ os op, xv T st.n S93 (st0 args st) (retK R93 st.n os K) (panK st.n op K)) (hit : SoundIt G Tryd.prog 93 C.it := by exact SoundIt.none) : Sound G Tryd.prog 93 C := by
  obtain ⟨b, hb, hc⟩ := bd93
  rw [xv_eq] at hC
  exact sound_of_ev mo fn93 hb nm93 hc cr93 hT hl hit hC

/-! 46: redline/redlineref05.Check -/
def A46 : Ann := ⟨fun r i => if r = 8 ∧ i = 7 then 1 else if r = 8 ∧ i = 13 then 1 else if r = 8 ∧ i = 19 then 1 else 0, fun _ => none, fun r => if r = 1 then some (false, [0, 1, 2]) else if r = 5 then some (false, [0, 1, 2, 7, 8, 9]) else if r = 6 then some (false, [0, 1, 2, 7, 8, 9]) else if r = 7 then some (false, [0, 1, 2, 7, 8, 9]) else if r = 8 then some (false, [0, 1, 2, 7, 8, 9, 10]) else if r = 10 then some (false, [0, 1, 2, 7, 8, 9, 10]) else if r = 12 then some (false, [0, 1, 2, 9, 10]) else if r = 13 then some (false, [0, 1, 2, 7, 9, 10]) else if r = 14 then some (false, [1, 2, 7, 8]) else none, fun r => if r = 5 then [0, 1, 2, 7, 8, 9] else []⟩
def S46 : SCode :=
  (.seq (.ops [⟨none, (some 6), .mv 6 (.k (Value.int .i64 0)), false⟩])
  (.seq (.seq (.seq (.keep [0, 1, 2]) (.ops [⟨none, (some 11), .mv 11 (.s 1), false⟩,
    ⟨none, (some 12), .bin 12 .lss (.s 11) (.k (Value.int .i64 0)), false⟩,
    ⟨none, (some 13), .mv 13 (.s 12), false⟩,
    ⟨(some (13, false)), (some 14), .mv 14 (.s 2), false⟩,
    ⟨(some (13, false)), (some 15), .bin 15 .lss (.s 14) (.k (Value.int .i64 0)), false⟩,
    ⟨none, (some 16), .pk 16 (.s 13) (.k (Value.bool true)) (.s 15), false⟩]))
  (.cond (.s 16) (.seq (.ops [⟨none, (some 6), .mv 6 (.k (Value.int .i64 50)), false⟩])
  .ret) .skip))
  (.seq (.ops [⟨none, (some 7), .mv 7 (.k (Value.int .i64 0)), false⟩,
    ⟨none, (some 8), .mv 8 (.k (Value.int .i64 0)), false⟩])
  (.seq (.seq (.ops [⟨none, (some 9), .mv 9 (.k (Value.int .i64 0)), false⟩])
  (.block 0 (.loop [0, 1, 2, 7, 8, 9] (.seq (.seq (.seq (.keep [0, 1, 2, 7, 8, 9]) (.ops [⟨none, (some 17), .mv 17 (.s 9), false⟩,
    ⟨none, (some 18), .mv 18 (.s 0), false⟩,
    ⟨none, (some 19), .len 19 (.s 18), false⟩,
    ⟨none, (some 20), .bin 20 .lss (.s 17) (.s 19), false⟩]))
  (.cond (.s 20) .skip (.exit 0)))
  (.seq (.block 1 (.seq (.seq (.keep [0, 1, 2, 7, 8, 9]) (.ops [⟨none, (some 23), .mv 23 (.s 0), false⟩,
    ⟨none, (some 24), .mv 24 (.s 9), false⟩,
    ⟨none, (some 25), .ia 25 4 (.s 23) (.s 24), false⟩,
    ⟨none, (some 26), .ld 26 true 4 (.s 25), false⟩,
    ⟨none, (some 10), .al 10 74 [(Value.int .i64 0), (Value.int .i64 0), (Value.int .i64 0), (Value.int .i64 0)], false⟩,
    ⟨none, none, .st true 4 (.s 10) (.s 26), false⟩]))
  (.seq (.seq (.seq (.keep [0, 1, 2, 7, 8, 9, 10]) (.ops [⟨none, (some 27), .fa 27 0 (.s 10), false⟩,
    ⟨none, (some 28), .ld 28 false 1 (.s 27), false⟩,
    ⟨none, (some 29), .call (some 29) 95 false [(.s 28)], false⟩,
    ⟨none, (some 30), .not 30 (.s 29), false⟩,
    ⟨none, (some 31), .mv 31 (.s 30), false⟩,
    ⟨(some (31, false)), (some 32), .fa 32 1 (.s 10), false⟩,
    ⟨(some (31, false)), (some 33), .ld 33 false 1 (.s 32), false⟩,
    ⟨(some (31, false)), (some 34), .call (some 34) 95 true [(.s 33)], false⟩,
    ⟨(some (31, false)), (some 35), .not 35 (.s 34), false⟩,
    ⟨none, (some 36), .pk 36 (.s 31) (.k (Value.bool true)) (.s 35), true⟩,
    ⟨none, (some 37), .mv 37 (.s 36), false⟩,
    ⟨(some (37, false)), (some 38), .fa 38 2 (.s 10), false⟩,
    ⟨(some (37, false)), (some 39), .ld 39 false 1 (.s 38), false⟩,
    ⟨(some (37, false)), (some 40), .call (some 40) 95 true [(.s 39)], false⟩,
    ⟨(some (37, false)), (some 41), .not 41 (.s 40), false⟩,
    ⟨none, (some 42), .pk 42 (.s 37) (.k (Value.bool true)) (.s 41), false⟩,
    ⟨none, (some 43), .mv 43 (.s 42), false⟩,
    ⟨(some (43, false)), (some 44), .fa 44 3 (.s 10), false⟩,
    ⟨(some (43, false)), (some 45), .ld 45 false 1 (.s 44), false⟩,
    ⟨(some (43, false)), (some 46), .call (some 46) 95 true [(.s 45)], true⟩,
    ⟨(some (43, false)), (some 47), .not 47 (.s 46), false⟩,
    ⟨none, (some 48), .pk 48 (.s 43) (.k (Value.bool true)) (.s 47), false⟩,
    ⟨none, (some 49), .mv 49 (.s 48), false⟩,
    ⟨(some (49, false)), (some 50), .fa 50 1 (.s 10), false⟩,
    ⟨(some (49, false)), (some 51), .ld 51 false 1 (.s 50), false⟩,
    ⟨(some (49, false)), (some 52), .fa 52 3 (.s 10), false⟩,
    ⟨(some (49, false)), (some 53), .ld 53 false 1 (.s 52), false⟩,
    ⟨(some (49, false)), (some 54), .binc 54 .add (.s 51) (.s 53), false⟩,
    ⟨(some (49, false)), (some 55), .bin 55 .eql (.s 54) (.k (Value.int .i64 0)), false⟩,
    ⟨none, (some 56), .pk 56 (.s 49) (.k (Value.bool true)) (.s 55), true⟩]))
  (.cond (.s 56) (.seq (.ops [⟨none, (some 6), .mv 6 (.k (Value.int .i64 50)), false⟩])
  .ret) .skip))
  (.seq (.seq (.seq (.keep [0, 1, 2, 7, 8, 9, 10]) (.ops [⟨none, (some 57), .fa 57 0 (.s 10), false⟩,
    ⟨none, (some 58), .ld 58 false 1 (.s 57), false⟩,
    ⟨none, (some 59), .mv 59 (.s 7), false⟩,
    ⟨none, (some 60), .binc 60 .sub (.s 58) (.s 59), false⟩,
    ⟨none, (some 61), .fa 61 2 (.s 10), false⟩,
    ⟨none, (some 62), .ld 62 false 1 (.s 61), false⟩,
    ⟨none, (some 63), .mv 63 (.s 8), false⟩,
    ⟨none, (some 64), .binc 64 .sub (.s 62) (.s 63), false⟩,
    ⟨none, (some 65), .bin 65 .neq (.s 60) (.s 64), false⟩,
    ⟨none, (some 66), .mv 66 (.s 65), true⟩,
    ⟨(some (66, false)), (some 67), .fa 67 0 (.s 10), false⟩,
    ⟨(some (66, false)), (some 68), .ld 68 false 1 (.s 67), false⟩,
    ⟨(some (66, false)), (some 69), .mv 69 (.s 7), false⟩,
    ⟨(some (66, false)), (some 70), .bin 70 .lss (.s 68) (.s 69), false⟩,
    ⟨none, (some 71), .pk 71 (.s 66) (.k (Value.bool true)) (.s 70), false⟩,
    ⟨none, (some 72), .mv 72 (.s 71), false⟩,
    ⟨(some (72, false)), (some 73), .mv 73 (.s 9), false⟩,
    ⟨(some (72, false)), (some 74), .bin 74 .gtr (.s 73) (.k (Value.int .i64 0)), false⟩,
    ⟨(some (72, false)), (some 75), .mv 75 (.s 74), false⟩,
    ⟨(some (75, true)), (some 76), .fa 76 0 (.s 10), true⟩,
    ⟨(some (75, true)), (some 77), .ld 77 false 1 (.s 76), false⟩,
    ⟨(some (75, true)), (some 78), .mv 78 (.s 7), false⟩,
    ⟨(some (75, true)), (some 79), .bin 79 .eql (.s 77) (.s 78), false⟩,
    ⟨(some (72, false)), (some 80), .pk 80 (.s 75) (.s 79) (.k (Value.bool false)), false⟩,
    ⟨none, (some 81), .pk 81 (.s 72) (.k (Value.bool true)) (.s 80), false⟩]))
  (.cond (.s 81) (.seq (.ops [⟨none, (some 6), .mv 6 (.k (Value.int .i64 50)), false⟩])
  .ret) .skip))
  (.seq (.seq (.keep [0, 1, 2, 9, 10]) (.ops [⟨none, (some 82), .fa 82 0 (.s 10), false⟩,
    ⟨none, (some 83), .ld 83 false 1 (.s 82), false⟩,
    ⟨none, (some 84), .fa 84 1 (.s 10), false⟩,
    ⟨none, (some 85), .ld 85 false 1 (.s 84), false⟩,
    ⟨none, (some 86), .binc 86 .add (.s 83) (.s 85), false⟩,
    ⟨none, (some 7), .mv 7 (.s 86), false⟩]))
  (.seq (.keep [0, 1, 2, 7, 9, 10]) (.ops [⟨none, (some 87), .fa 87 2 (.s 10), false⟩,
    ⟨none, (some 88), .ld 88 false 1 (.s 87), false⟩,
    ⟨none, (some 89), .fa 89 3 (.s 10), false⟩,
    ⟨none, (some 90), .ld 90 false 1 (.s 89), false⟩,
    ⟨none, (some 91), .binc 91 .add (.s 88) (.s 90), false⟩,
    ⟨none, (some 8), .mv 8 (.s 91), false⟩])))))))
  (.seq (.keep [0, 1, 2, 7, 8, 9]) (.ops [⟨none, (some 21), .mv 21 (.s 9), false⟩,
    ⟨none, (some 22), .binc 22 .add (.s 21) (.k (Value.int .i64 1)), false⟩,
    ⟨none, (some 9), .mv 9 (.s 22), false⟩])))))))
  (.seq (.seq (.seq (.keep [1, 2, 7, 8]) (.ops [⟨none, (some 92), .mv 92 (.s 7), false⟩,
    ⟨none, (some 93), .mv 93 (.s 1), false⟩,
    ⟨none, (some 94), .bin 94 .gtr (.s 92) (.s 93), false⟩,
    ⟨none, (some 95), .mv 95 (.s 94), false⟩,
    ⟨(some (95, false)), (some 96), .mv 96 (.s 8), false⟩,
    ⟨(some (95, false)), (some 97), .mv 97 (.s 2), false⟩,
    ⟨(some (95, false)), (some 98), .bin 98 .gtr (.s 96) (.s 97), false⟩,
    ⟨none, (some 99), .pk 99 (.s 95) (.k (Value.bool true)) (.s 98), false⟩,
    ⟨none, (some 100), .mv 100 (.s 99), false⟩,
    ⟨(some (100, false)), (some 101), .mv 101 (.s 1), true⟩,
    ⟨(some (100, false)), (some 102), .mv 102 (.s 7), false⟩,
    ⟨(some (100, false)), (some 103), .binc 103 .sub (.s 101) (.s 102), false⟩,
    ⟨(some (100, false)), (some 104), .mv 104 (.s 2), false⟩,
    ⟨(some (100, false)), (some 105), .mv 105 (.s 8), false⟩,
    ⟨(some (100, false)), (some 106), .binc 106 .sub (.s 104) (.s 105), false⟩,
    ⟨(some (100, false)), (some 107), .bin 107 .neq (.s 103) (.s 106), false⟩,
    ⟨none, (some 108), .pk 108 (.s 100) (.k (Value.bool true)) (.s 107), false⟩]))
  (.cond (.s 108) (.seq (.ops [⟨none, (some 6), .mv 6 (.k (Value.int .i64 50)), false⟩])
  .ret) .skip))
  (.seq (.ops [⟨none, (some 6), .mv 6 (.k (Value.int .i64 0)), false⟩])
  .ret))))))
theorem cc46 : (Tryd.f46.body).bind (cc Tryd.prog Tryd.f46.ntmps A46) = some S46 := by kernel_rfl
def R46 : List RR := [.sl 6]
theorem cr46 : Tryd.f46.results.toList.map (crr Tryd.prog) = R46.map some := by kernel_rfl
theorem nm46 : (Tryd.f46.name == "runtime.NumGoroutine") = false := by kernel_rfl
theorem fn46 : Tryd.prog.funcs[46]? = some Tryd.f46 := by kernel_rfl
theorem bd46 : ∃ b, Tryd.f46.body = some b ∧ cc Tryd.prog Tryd.f46.ntmps A46 b = some S46 := Option.bind_eq_some_iff.1 cc46
theorem sd46 {G : World → Prop} {T : FuncId → Contract} {C : Contract} (hT : ∀ f, Sound G Tryd.prog f (T f)) (hl : C.lawful) (hC : ∀ args st K, C.wp args st K → args.length ≤ 109 ∧ ∃ os op, xv T st.n S46 (st0 args st) (retK R46 st.n os K) (panK st.n op K)) (hit : SoundIt G Tryd.prog 46 C.it := by exact SoundIt.none) : Sound G Tryd.prog 46 C := by
  obtain ⟨b, hb, hc⟩ := bd46
  rw [xv_eq] at hC
  exact sound_of_ev mo fn46 hb nm46 hc cr46 hT hl hit hC

/-! 95: redline/redlineref05.count -/
def A95 : Ann := ⟨fun _ _ => 0, fun _ => none, fun r => if r = 1 then some (false, [0]) else none, fun _ => []⟩
def S95 : SCode :=
  (.seq (.ops [⟨none, (some 2), .mv 2 (.k (Value.bool false)), false⟩])
  (.seq (.seq (.keep [0]) (.ops [⟨none, (some 3), .mv 3 (.s 0), false⟩,
    ⟨none, (some 4), .bin 4 .geq (.s 3) (.k (Value.int .i64 0)), false⟩,
    ⟨none, (some 5), .mv 5 (.s 4), false⟩,
    ⟨(some (5, true)), (some 6), .mv 6 (.s 0), false⟩,
    ⟨(some (5, true)), (some 7), .bin 7 .leq (.s 6) (.k (Value.int .i64 2147483647)), false⟩,
    ⟨none, (some 8), .pk 8 (.s 5) (.s 7) (.k (Value.bool false)), false⟩,
    ⟨none, (some 2), .mv 2 (.s 8), false⟩]))
  .ret))
theorem cc95 : (Tryd.f95.body).bind (cc Tryd.prog Tryd.f95.ntmps A95) = some S95 := by kernel_rfl
def R95 : List RR := [.sl 2]
theorem cr95 : Tryd.f95.results.toList.map (crr Tryd.prog) = R95.map some := by kernel_rfl
theorem nm95 : (Tryd.f95.name == "runtime.NumGoroutine") = false := by kernel_rfl
theorem fn95 : Tryd.prog.funcs[95]? = some Tryd.f95 := by kernel_rfl
theorem bd95 : ∃ b, Tryd.f95.body = some b ∧ cc Tryd.prog Tryd.f95.ntmps A95 b = some S95 := Option.bind_eq_some_iff.1 cc95
theorem sd95 {G : World → Prop} {T : FuncId → Contract} {C : Contract} (hT : ∀ f, Sound G Tryd.prog f (T f)) (hl : C.lawful) (hC : ∀ args st K, C.wp args st K → args.length ≤ 9 ∧ ∃ os op, xv T st.n S95 (st0 args st) (retK R95 st.n os K) (panK st.n op K)) (hit : SoundIt G Tryd.prog 95 C.it := by exact SoundIt.none) : Sound G Tryd.prog 95 C := by
  obtain ⟨b, hb, hc⟩ := bd95
  rw [xv_eq] at hC
  exact sound_of_ev mo fn95 hb nm95 hc cr95 hT hl hit hC

/-! 42: redline/normal.span -/
def A42 : Ann := ⟨fun _ _ => 0, fun _ => none, fun r => if r = 2 then some (false, [0]) else if r = 3 then some (false, [0, 1]) else none, fun _ => []⟩
def S42 : SCode :=
  (.seq (.ops [⟨none, (some 4), .mv 4 (.k (Value.string ⟨#[]⟩)), false⟩])
  (.seq (.seq (.ops [⟨none, (some 5), .mv 5 (.s 1), false⟩,
    ⟨none, (some 6), .bin 6 .eql (.s 5) (.k (Value.int .i64 1)), false⟩])
  (.cond (.s 6) (.seq (.seq (.keep [0]) (.ops [⟨none, (some 7), .mv 7 (.s 0), false⟩,
    ⟨none, (some 8), .binc 8 .add (.s 7) (.k (Value.int .i64 1)), false⟩,
    ⟨none, (some 9), .call (some 9) 32 false [(.s 8)], false⟩,
    ⟨none, (some 4), .mv 4 (.s 9), false⟩]))
  .ret) .skip))
  (.seq (.seq (.keep [0, 1]) (.ops [⟨none, (some 10), .mv 10 (.s 0), false⟩,
    ⟨none, (some 11), .binc 11 .add (.s 10) (.k (Value.int .i64 1)), false⟩,
    ⟨none, (some 12), .call (some 12) 32 false [(.s 11)], false⟩,
    ⟨none, (some 13), .bin 13 .add (.s 12) (.k (Value.string ⟨#[44]⟩)), false⟩,
    ⟨none, (some 14), .mv 14 (.s 0), false⟩,
    ⟨none, (some 15), .mv 15 (.s 1), false⟩,
    ⟨none, (some 16), .binc 16 .add (.s 14) (.s 15), false⟩,
    ⟨none, (some 17), .call (some 17) 32 false [(.s 16)], false⟩,
    ⟨none, (some 18), .bin 18 .add (.s 13) (.s 17), false⟩,
    ⟨none, (some 4), .mv 4 (.s 18), true⟩]))
  .ret)))
theorem cc42 : (Tryd.f42.body).bind (cc Tryd.prog Tryd.f42.ntmps A42) = some S42 := by kernel_rfl
def R42 : List RR := [.sl 4]
theorem cr42 : Tryd.f42.results.toList.map (crr Tryd.prog) = R42.map some := by kernel_rfl
theorem nm42 : (Tryd.f42.name == "runtime.NumGoroutine") = false := by kernel_rfl
theorem fn42 : Tryd.prog.funcs[42]? = some Tryd.f42 := by kernel_rfl
theorem bd42 : ∃ b, Tryd.f42.body = some b ∧ cc Tryd.prog Tryd.f42.ntmps A42 b = some S42 := Option.bind_eq_some_iff.1 cc42
theorem sd42 {G : World → Prop} {T : FuncId → Contract} {C : Contract} (hT : ∀ f, Sound G Tryd.prog f (T f)) (hl : C.lawful) (hC : ∀ args st K, C.wp args st K → args.length ≤ 19 ∧ ∃ os op, xv T st.n S42 (st0 args st) (retK R42 st.n os K) (panK st.n op K)) (hit : SoundIt G Tryd.prog 42 C.it := by exact SoundIt.none) : Sound G Tryd.prog 42 C := by
  obtain ⟨b, hb, hc⟩ := bd42
  rw [xv_eq] at hC
  exact sound_of_ev mo fn42 hb nm42 hc cr42 hT hl hit hC

/-! 44: (*redline/normal.printer).all -/
def A44 : Ann := ⟨fun _ _ => 0, fun _ => none, fun r => if r = 2 then some (false, [0, 1, 10, 11, 12]) else if r = 3 then some (false, [0, 1, 7, 10, 11, 12]) else if r = 4 then some (false, [0, 1, 8, 9, 10, 11, 12]) else if r = 6 then some (false, [0, 1, 10, 11, 12]) else none, fun r => if r = 1 then [0, 1, 10, 11, 12] else []⟩
def S44 : SCode :=
  (.seq (.ops [⟨none, (some 10), .mv 10 (.s 2), false⟩,
    ⟨none, (some 11), .len 11 (.s 10), false⟩,
    ⟨none, (some 12), .mv 12 (.k (Value.int .i64 0)), false⟩])
  (.block 0 (.loop [0, 1, 10, 11, 12] (.seq (.ops [⟨none, (some 13), .bin 13 .lss (.s 12) (.s 11), false⟩])
  (.seq (.cond (.s 13) .skip (.exit 0))
  (.seq (.block 1 (.seq (.seq (.keep [0, 1, 10, 11, 12]) (.ops [⟨none, (some 14), .ia 14 1 (.s 10) (.s 12), false⟩,
    ⟨none, (some 15), .ld 15 false 1 (.s 14), false⟩,
    ⟨none, (some 7), .mv 7 (.s 15), false⟩]))
  (.seq (.seq (.keep [0, 1, 7, 10, 11, 12]) (.ops [⟨none, (some 17), .mv 17 (.s 7), false⟩,
    ⟨none, (some 18), .call (some 18) 58 false [(.s 17)], false⟩,
    ⟨none, (some 16), .mv 16 (.s 18), false⟩,
    ⟨none, (some 19), .ex 19 (.s 16) 0, false⟩,
    ⟨none, (some 20), .ex 20 (.s 16) 1, false⟩,
    ⟨none, (some 8), .mv 8 (.s 19), false⟩,
    ⟨none, (some 9), .mv 9 (.s 20), false⟩]))
  (.seq (.seq (.keep [0, 1, 8, 9, 10, 11, 12]) (.ops [⟨none, (some 21), .mv 21 (.s 0), false⟩,
    ⟨none, (some 22), .nc 22 (.s 21), false⟩,
    ⟨none, (some 23), .fa 23 0 (.s 22), false⟩,
    ⟨none, (some 24), .mv 24 (.s 1), false⟩,
    ⟨none, (some 25), .mv 25 (.s 8), false⟩,
    ⟨none, (some 26), .bin 26 .add (.s 24) (.s 25), false⟩,
    ⟨none, (some 27), .bin 27 .add (.s 26) (.k (Value.string ⟨#[10]⟩)), false⟩,
    ⟨none, (some 28), .call (some 28) 43 false [(.s 23), (.s 27)], false⟩]))
  (.seq (.ops [⟨none, (some 29), .mv 29 (.s 9), false⟩,
    ⟨none, (some 30), .not 30 (.s 29), false⟩])
  (.cond (.s 30) (.seq (.keep [0, 1, 10, 11, 12]) (.ops [⟨none, (some 31), .mv 31 (.s 0), false⟩,
    ⟨none, (some 32), .nc 32 (.s 31), false⟩,
    ⟨none, (some 33), .fa 33 0 (.s 32), false⟩,
    ⟨none, (some 34), .call (some 34) 43 false [(.s 33), (.k (Value.string ⟨#[92, 32, 78, 111, 32, 110, 101, 119, 108, 105, 110, 101, 32, 97, 116, 32, 101, 110, 100, 32, 111, 102, 32, 102, 105, 108, 101, 10]⟩))], false⟩])) .skip))))))
  (.ops [⟨none, (some 35), .binc 35 .add (.s 12) (.k (Value.int .i64 1)), false⟩,
    ⟨none, (some 12), .mv 12 (.s 35), false⟩])))))))
theorem cc44 : (Tryd.f44.body).bind (cc Tryd.prog Tryd.f44.ntmps A44) = some S44 := by kernel_rfl
def R44 : List RR := []
theorem cr44 : Tryd.f44.results.toList.map (crr Tryd.prog) = R44.map some := by kernel_rfl
theorem nm44 : (Tryd.f44.name == "runtime.NumGoroutine") = false := by kernel_rfl
theorem fn44 : Tryd.prog.funcs[44]? = some Tryd.f44 := by kernel_rfl
theorem bd44 : ∃ b, Tryd.f44.body = some b ∧ cc Tryd.prog Tryd.f44.ntmps A44 b = some S44 := Option.bind_eq_some_iff.1 cc44
theorem sd44 {G : World → Prop} {T : FuncId → Contract} {C : Contract} (hT : ∀ f, Sound G Tryd.prog f (T f)) (hl : C.lawful) (hC : ∀ args st K, C.wp args st K → args.length ≤ 36 ∧ ∃ os op, xv T st.n S44 (st0 args st) (retK R44 st.n os K) (panK st.n op K)) (hit : SoundIt G Tryd.prog 44 C.it := by exact SoundIt.none) : Sound G Tryd.prog 44 C := by
  obtain ⟨b, hb, hc⟩ := bd44
  rw [xv_eq] at hC
  exact sound_of_ev mo fn44 hb nm44 hc cr44 hT hl hit hC

/-! 47: redline/redlineref12.change -/
def A47 : Ann := ⟨fun _ _ => 0, fun r => if r = 4 then some ([], [(0, true), (4, true), (6, true), (1, true), (5, true), (7, true), (2, false), (3, true), (8, false), (9, true), (10, true)]) else if r = 6 then some ([], [(0, true), (2, true), (6, true), (1, true), (3, true), (7, true), (4, false), (5, true), (8, false), (9, true), (10, true)]) else if r = 2 then some ([], [(0, true), (2, true), (6, true), (8, true), (1, true), (3, true), (7, true), (9, true), (4, false), (5, true), (10, false), (11, true), (12, true)]) else none, fun r => if r = 2 then some (false, [1, 2, 3]) else if r = 3 then some (false, [1, 2, 3]) else if r = 4 then some (false, [1, 2, 3]) else if r = 5 then some (false, [1, 2, 3]) else if r = 6 then some (false, [1, 2, 3]) else if r = 7 then some (false, [1, 2, 3, 7]) else if r = 8 then some (false, [1, 2, 3, 7]) else if r = 9 then some (false, [1, 2, 3, 7, 8]) else if r = 10 then some (false, [1, 2, 3, 7, 8]) else if r = 11 then some (false, [1, 2, 3, 7, 8]) else if r = 12 then some (false, [2, 3, 7]) else if r = 13 then some (false, [2, 3, 7]) else if r = 14 then some (false, [2, 3, 7]) else if r = 15 then some (false, [2, 3, 7, 9]) else if r = 16 then some (false, [2, 3, 7, 9]) else if r = 17 then some (false, [2, 3, 7, 9]) else none, fun r => if r = 9 then [1, 2, 3, 7, 8] else if r = 15 then [2, 3, 7, 9] else []⟩
def S47_0 : SCode :=
  (.ops [⟨none, (some 3), .bx 3 74 4 (.s 0), false⟩,
    ⟨none, (some 6), .mv 6 (.k (Value.string ⟨#[]⟩)), false⟩])
def S47_1 : SCode :=
  (.ops [⟨none, (some 7), .mv 7 (.k (Value.string ⟨#[]⟩)), false⟩])
def S47_2 : SCode :=
  (.block 0 (.seq (.seq (.keep [1, 2, 3]) (.ops [⟨none, (some 23), .fa 23 1 (.s 3), false⟩,
    ⟨none, (some 24), .ld 24 false 1 (.s 23), false⟩,
    ⟨none, (some 25), .bin 25 .eql (.s 24) (.k (Value.int .i64 0)), false⟩,
    ⟨none, (some 22), .mv 22 (.s 25), false⟩]))
  (.cond (.s 22) (.seq (.keep [1, 2, 3]) (.dr [] [(0, true, ⟨none, (some 26), .fa 26 0 (.s 3), false⟩),
    (4, true, ⟨none, (some 30), .fa 30 2 (.s 3), false⟩),
    (6, true, ⟨none, (some 32), .fa 32 3 (.s 3), false⟩),
    (1, true, ⟨none, (some 27), .ld 27 false 1 (.s 26), false⟩),
    (5, true, ⟨none, (some 31), .ld 31 false 1 (.s 30), false⟩),
    (7, true, ⟨none, (some 33), .ld 33 false 1 (.s 32), false⟩),
    (2, false, ⟨none, (some 28), .call (some 28) 33 false [(.s 27)], false⟩),
    (3, true, ⟨none, (some 29), .bin 29 .add (.s 28) (.k (Value.string ⟨#[97]⟩)), false⟩),
    (8, false, ⟨none, (some 34), .call (some 34) 60 false [(.s 31), (.s 33)], false⟩),
    (9, true, ⟨none, (some 35), .bin 35 .add (.s 29) (.s 34), true⟩),
    (10, true, ⟨none, (some 7), .mv 7 (.s 35), false⟩)])) (.seq (.seq (.keep [1, 2, 3]) (.ops [⟨none, (some 37), .fa 37 3 (.s 3), false⟩,
    ⟨none, (some 38), .ld 38 false 1 (.s 37), false⟩,
    ⟨none, (some 39), .bin 39 .eql (.s 38) (.k (Value.int .i64 0)), false⟩,
    ⟨none, (some 36), .mv 36 (.s 39), false⟩]))
  (.cond (.s 36) (.seq (.keep [1, 2, 3]) (.dr [] [(0, true, ⟨none, (some 40), .fa 40 0 (.s 3), false⟩),
    (2, true, ⟨none, (some 42), .fa 42 1 (.s 3), false⟩),
    (6, true, ⟨none, (some 46), .fa 46 2 (.s 3), false⟩),
    (1, true, ⟨none, (some 41), .ld 41 false 1 (.s 40), false⟩),
    (3, true, ⟨none, (some 43), .ld 43 false 1 (.s 42), false⟩),
    (7, true, ⟨none, (some 47), .ld 47 false 1 (.s 46), false⟩),
    (4, false, ⟨none, (some 44), .call (some 44) 60 false [(.s 41), (.s 43)], false⟩),
    (5, true, ⟨none, (some 45), .bin 45 .add (.s 44) (.k (Value.string ⟨#[100]⟩)), false⟩),
    (8, false, ⟨none, (some 48), .call (some 48) 33 false [(.s 47)], false⟩),
    (9, true, ⟨none, (some 49), .bin 49 .add (.s 45) (.s 48), true⟩),
    (10, true, ⟨none, (some 7), .mv 7 (.s 49), false⟩)])) (.seq (.keep [1, 2, 3]) (.dr [] [(0, true, ⟨none, (some 10), .fa 10 0 (.s 3), false⟩),
    (2, true, ⟨none, (some 12), .fa 12 1 (.s 3), false⟩),
    (6, true, ⟨none, (some 16), .fa 16 2 (.s 3), false⟩),
    (8, true, ⟨none, (some 18), .fa 18 3 (.s 3), false⟩),
    (1, true, ⟨none, (some 11), .ld 11 false 1 (.s 10), false⟩),
    (3, true, ⟨none, (some 13), .ld 13 false 1 (.s 12), false⟩),
    (7, true, ⟨none, (some 17), .ld 17 false 1 (.s 16), false⟩),
    (9, true, ⟨none, (some 19), .ld 19 false 1 (.s 18), true⟩),
    (4, false, ⟨none, (some 14), .call (some 14) 60 false [(.s 11), (.s 13)], false⟩),
    (5, true, ⟨none, (some 15), .bin 15 .add (.s 14) (.k (Value.string ⟨#[99]⟩)), false⟩),
    (10, false, ⟨none, (some 20), .call (some 20) 60 false [(.s 17), (.s 19)], false⟩),
    (11, true, ⟨none, (some 21), .bin 21 .add (.s 15) (.s 20), false⟩),
    (12, true, ⟨none, (some 7), .mv 7 (.s 21), false⟩)])))))))
def S47_3 : SCode :=
  (.seq (.keep [1, 2, 3, 7]) (.ops [⟨none, (some 50), .mv 50 (.s 7), false⟩,
    ⟨none, (some 51), .bin 51 .add (.s 50) (.k (Value.string ⟨#[10]⟩)), false⟩,
    ⟨none, (some 7), .mv 7 (.s 51), false⟩]))
def S47_4 : SCode :=
  (.seq (.seq (.keep [1, 2, 3, 7]) (.ops [⟨none, (some 52), .fa 52 0 (.s 3), false⟩,
    ⟨none, (some 53), .ld 53 false 1 (.s 52), false⟩,
    ⟨none, (some 8), .mv 8 (.s 53), false⟩]))
  (.block 1 (.loop [1, 2, 3, 7, 8] (.seq (.seq (.seq (.keep [1, 2, 3, 7, 8]) (.ops [⟨none, (some 54), .mv 54 (.s 8), false⟩,
    ⟨none, (some 55), .fa 55 0 (.s 3), false⟩,
    ⟨none, (some 56), .ld 56 false 1 (.s 55), false⟩,
    ⟨none, (some 57), .fa 57 1 (.s 3), false⟩,
    ⟨none, (some 58), .ld 58 false 1 (.s 57), false⟩,
    ⟨none, (some 59), .binc 59 .add (.s 56) (.s 58), false⟩,
    ⟨none, (some 60), .bin 60 .lss (.s 54) (.s 59), false⟩]))
  (.cond (.s 60) .skip (.exit 1)))
  (.seq (.block 2 (.seq (.keep [1, 2, 3, 7, 8]) (.ops [⟨none, (some 63), .mv 63 (.s 7), false⟩,
    ⟨none, (some 64), .mv 64 (.s 1), false⟩,
    ⟨none, (some 65), .mv 65 (.s 8), false⟩,
    ⟨none, (some 66), .ia 66 1 (.s 64) (.s 65), false⟩,
    ⟨none, (some 67), .ld 67 false 1 (.s 66), false⟩,
    ⟨none, (some 68), .call (some 68) 68 false [(.k (Value.string ⟨#[60, 32]⟩)), (.s 67)], false⟩,
    ⟨none, (some 69), .bin 69 .add (.s 63) (.s 68), false⟩,
    ⟨none, (some 7), .mv 7 (.s 69), false⟩])))
  (.seq (.keep [1, 2, 3, 7, 8]) (.ops [⟨none, (some 61), .mv 61 (.s 8), false⟩,
    ⟨none, (some 62), .binc 62 .add (.s 61) (.k (Value.int .i64 1)), false⟩,
    ⟨none, (some 8), .mv 8 (.s 62), false⟩])))))))
def S47_5 : SCode :=
  (.seq (.seq (.keep [2, 3, 7]) (.ops [⟨none, (some 70), .fa 70 1 (.s 3), false⟩,
    ⟨none, (some 71), .ld 71 false 1 (.s 70), false⟩,
    ⟨none, (some 72), .bin 72 .gtr (.s 71) (.k (Value.int .i64 0)), false⟩,
    ⟨none, (some 73), .mv 73 (.s 72), false⟩,
    ⟨(some (73, true)), (some 74), .fa 74 3 (.s 3), false⟩,
    ⟨(some (73, true)), (some 75), .ld 75 false 1 (.s 74), false⟩,
    ⟨(some (73, true)), (some 76), .bin 76 .gtr (.s 75) (.k (Value.int .i64 0)), false⟩,
    ⟨none, (some 77), .pk 77 (.s 73) (.s 76) (.k (Value.bool false)), false⟩]))
  (.cond (.s 77) (.seq (.keep [2, 3, 7]) (.ops [⟨none, (some 78), .mv 78 (.s 7), false⟩,
    ⟨none, (some 79), .bin 79 .add (.s 78) (.k (Value.string ⟨#[45, 45, 45, 10]⟩)), false⟩,
    ⟨none, (some 7), .mv 7 (.s 79), false⟩])) .skip))
def S47_6 : SCode :=
  (.seq (.seq (.keep [2, 3, 7]) (.ops [⟨none, (some 80), .fa 80 2 (.s 3), false⟩,
    ⟨none, (some 81), .ld 81 false 1 (.s 80), false⟩,
    ⟨none, (some 9), .mv 9 (.s 81), false⟩]))
  (.block 3 (.loop [2, 3, 7, 9] (.seq (.seq (.seq (.keep [2, 3, 7, 9]) (.ops [⟨none, (some 82), .mv 82 (.s 9), false⟩,
    ⟨none, (some 83), .fa 83 2 (.s 3), false⟩,
    ⟨none, (some 84), .ld 84 false 1 (.s 83), false⟩,
    ⟨none, (some 85), .fa 85 3 (.s 3), false⟩,
    ⟨none, (some 86), .ld 86 false 1 (.s 85), false⟩,
    ⟨none, (some 87), .binc 87 .add (.s 84) (.s 86), false⟩,
    ⟨none, (some 88), .bin 88 .lss (.s 82) (.s 87), false⟩]))
  (.cond (.s 88) .skip (.exit 3)))
  (.seq (.block 4 (.seq (.keep [2, 3, 7, 9]) (.ops [⟨none, (some 91), .mv 91 (.s 7), false⟩,
    ⟨none, (some 92), .mv 92 (.s 2), false⟩,
    ⟨none, (some 93), .mv 93 (.s 9), false⟩,
    ⟨none, (some 94), .ia 94 1 (.s 92) (.s 93), false⟩,
    ⟨none, (some 95), .ld 95 false 1 (.s 94), false⟩,
    ⟨none, (some 96), .call (some 96) 68 false [(.k (Value.string ⟨#[62, 32]⟩)), (.s 95)], false⟩,
    ⟨none, (some 97), .bin 97 .add (.s 91) (.s 96), false⟩,
    ⟨none, (some 7), .mv 7 (.s 97), false⟩])))
  (.seq (.keep [2, 3, 7, 9]) (.ops [⟨none, (some 89), .mv 89 (.s 9), false⟩,
    ⟨none, (some 90), .binc 90 .add (.s 89) (.k (Value.int .i64 1)), false⟩,
    ⟨none, (some 9), .mv 9 (.s 90), false⟩])))))))
def S47_7 : SCode :=
  (.ops [⟨none, (some 98), .mv 98 (.s 7), false⟩,
    ⟨none, (some 6), .mv 6 (.s 98), false⟩])
def S47r8 : SCode := .ret
def S47r7 : SCode := .seq S47_7 S47r8
def S47r6 : SCode := .seq S47_6 S47r7
def S47r5 : SCode := .seq S47_5 S47r6
def S47r4 : SCode := .seq S47_4 S47r5
def S47r3 : SCode := .seq S47_3 S47r4
def S47r2 : SCode := .seq S47_2 S47r3
def S47r1 : SCode := .seq S47_1 S47r2
def S47 : SCode := .seq S47_0 S47r1
theorem cc47 : (Tryd.f47.body).bind (cc Tryd.prog Tryd.f47.ntmps A47) = some S47 := by kernel_rfl
def R47 : List RR := [.sl 6]
theorem cr47 : Tryd.f47.results.toList.map (crr Tryd.prog) = R47.map some := by kernel_rfl
theorem nm47 : (Tryd.f47.name == "runtime.NumGoroutine") = false := by kernel_rfl
theorem fn47 : Tryd.prog.funcs[47]? = some Tryd.f47 := by kernel_rfl
theorem bd47 : ∃ b, Tryd.f47.body = some b ∧ cc Tryd.prog Tryd.f47.ntmps A47 b = some S47 := Option.bind_eq_some_iff.1 cc47
theorem sd47 {G : World → Prop} {T : FuncId → Contract} {C : Contract} (hT : ∀ f, Sound G Tryd.prog f (T f)) (hl : C.lawful) (hC : ∀ args st K, C.wp args st K → args.length ≤ 99 ∧ ∃ os op, xv T st.n S47 (st0 args st) (retK R47 st.n os K) (panK st.n op K)) (hit : SoundIt G Tryd.prog 47 C.it := by exact SoundIt.none) : Sound G Tryd.prog 47 C := by
  obtain ⟨b, hb, hc⟩ := bd47
  rw [xv_eq] at hC
  exact sound_of_ev mo fn47 hb nm47 hc cr47 hT hl hit hC

/-! 60: redline/redlineref12.Range -/
def A60 : Ann := ⟨fun _ _ => 0, fun _ => none, fun r => if r = 2 then some (false, [0]) else if r = 3 then some (false, [0, 1]) else none, fun _ => []⟩
def S60 : SCode :=
  (.seq (.ops [⟨none, (some 4), .mv 4 (.k (Value.string ⟨#[]⟩)), false⟩])
  (.seq (.seq (.ops [⟨none, (some 5), .mv 5 (.s 1), false⟩,
    ⟨none, (some 6), .bin 6 .eql (.s 5) (.k (Value.int .i64 1)), false⟩])
  (.cond (.s 6) (.seq (.seq (.keep [0]) (.ops [⟨none, (some 7), .mv 7 (.s 0), false⟩,
    ⟨none, (some 8), .binc 8 .add (.s 7) (.k (Value.int .i64 1)), false⟩,
    ⟨none, (some 9), .call (some 9) 33 false [(.s 8)], false⟩,
    ⟨none, (some 4), .mv 4 (.s 9), false⟩]))
  .ret) .skip))
  (.seq (.seq (.keep [0, 1]) (.ops [⟨none, (some 10), .mv 10 (.s 0), false⟩,
    ⟨none, (some 11), .binc 11 .add (.s 10) (.k (Value.int .i64 1)), false⟩,
    ⟨none, (some 12), .call (some 12) 33 false [(.s 11)], false⟩,
    ⟨none, (some 13), .bin 13 .add (.s 12) (.k (Value.string ⟨#[44]⟩)), false⟩,
    ⟨none, (some 14), .mv 14 (.s 0), false⟩,
    ⟨none, (some 15), .mv 15 (.s 1), false⟩,
    ⟨none, (some 16), .binc 16 .add (.s 14) (.s 15), false⟩,
    ⟨none, (some 17), .call (some 17) 33 false [(.s 16)], false⟩,
    ⟨none, (some 18), .bin 18 .add (.s 13) (.s 17), false⟩,
    ⟨none, (some 4), .mv 4 (.s 18), true⟩]))
  .ret)))
theorem cc60 : (Tryd.f60.body).bind (cc Tryd.prog Tryd.f60.ntmps A60) = some S60 := by kernel_rfl
def R60 : List RR := [.sl 4]
theorem cr60 : Tryd.f60.results.toList.map (crr Tryd.prog) = R60.map some := by kernel_rfl
theorem nm60 : (Tryd.f60.name == "runtime.NumGoroutine") = false := by kernel_rfl
theorem fn60 : Tryd.prog.funcs[60]? = some Tryd.f60 := by kernel_rfl
theorem bd60 : ∃ b, Tryd.f60.body = some b ∧ cc Tryd.prog Tryd.f60.ntmps A60 b = some S60 := Option.bind_eq_some_iff.1 cc60
theorem sd60 {G : World → Prop} {T : FuncId → Contract} {C : Contract} (hT : ∀ f, Sound G Tryd.prog f (T f)) (hl : C.lawful) (hC : ∀ args st K, C.wp args st K → args.length ≤ 19 ∧ ∃ os op, xv T st.n S60 (st0 args st) (retK R60 st.n os K) (panK st.n op K)) (hit : SoundIt G Tryd.prog 60 C.it := by exact SoundIt.none) : Sound G Tryd.prog 60 C := by
  obtain ⟨b, hb, hc⟩ := bd60
  rw [xv_eq] at hC
  exact sound_of_ev mo fn60 hb nm60 hc cr60 hT hl hit hC

/-! 68: redline/redlineref12.Line -/
def A68 : Ann := ⟨fun _ _ => 0, fun _ => none, fun r => if r = 1 then some (false, [0, 1]) else if r = 3 then some (false, [0, 1]) else if r = 4 then some (false, [0, 1]) else none, fun _ => []⟩
def S68 : SCode :=
  (.seq (.ops [⟨none, (some 4), .mv 4 (.k (Value.string ⟨#[]⟩)), false⟩])
  (.seq (.seq (.keep [0, 1]) (.ops [⟨none, (some 8), .mv 8 (.s 1), false⟩,
    ⟨none, (some 9), .call (some 9) 61 false [(.s 8)], false⟩,
    ⟨none, (some 7), .mv 7 (.s 9), false⟩,
    ⟨none, (some 10), .ex 10 (.s 7) 0, false⟩,
    ⟨none, (some 11), .ex 11 (.s 7) 1, false⟩,
    ⟨none, (some 5), .mv 5 (.s 10), false⟩,
    ⟨none, (some 6), .mv 6 (.s 11), false⟩]))
  (.seq (.seq (.ops [⟨none, (some 12), .mv 12 (.s 6), false⟩])
  (.cond (.s 12) (.seq (.seq (.keep [0, 1]) (.ops [⟨none, (some 13), .mv 13 (.s 0), false⟩,
    ⟨none, (some 14), .mv 14 (.s 1), false⟩,
    ⟨none, (some 15), .bin 15 .add (.s 13) (.s 14), false⟩,
    ⟨none, (some 4), .mv 4 (.s 15), false⟩]))
  .ret) .skip))
  (.seq (.seq (.keep [0, 1]) (.ops [⟨none, (some 16), .mv 16 (.s 0), false⟩,
    ⟨none, (some 17), .mv 17 (.s 1), false⟩,
    ⟨none, (some 18), .bin 18 .add (.s 16) (.s 17), false⟩,
    ⟨none, (some 19), .bin 19 .add (.s 18) (.k (Value.string ⟨#[10]⟩)), false⟩,
    ⟨none, (some 20), .bin 20 .add (.s 19) (.k (Value.string ⟨#[92, 32, 78, 111, 32, 110, 101, 119, 108, 105, 110, 101, 32, 97, 116, 32, 101, 110, 100, 32, 111, 102, 32, 102, 105, 108, 101, 10]⟩)), false⟩,
    ⟨none, (some 4), .mv 4 (.s 20), false⟩]))
  .ret))))
theorem cc68 : (Tryd.f68.body).bind (cc Tryd.prog Tryd.f68.ntmps A68) = some S68 := by kernel_rfl
def R68 : List RR := [.sl 4]
theorem cr68 : Tryd.f68.results.toList.map (crr Tryd.prog) = R68.map some := by kernel_rfl
theorem nm68 : (Tryd.f68.name == "runtime.NumGoroutine") = false := by kernel_rfl
theorem fn68 : Tryd.prog.funcs[68]? = some Tryd.f68 := by kernel_rfl
theorem bd68 : ∃ b, Tryd.f68.body = some b ∧ cc Tryd.prog Tryd.f68.ntmps A68 b = some S68 := Option.bind_eq_some_iff.1 cc68
theorem sd68 {G : World → Prop} {T : FuncId → Contract} {C : Contract} (hT : ∀ f, Sound G Tryd.prog f (T f)) (hl : C.lawful) (hC : ∀ args st K, C.wp args st K → args.length ≤ 21 ∧ ∃ os op, xv T st.n S68 (st0 args st) (retK R68 st.n os K) (panK st.n op K)) (hit : SoundIt G Tryd.prog 68 C.it := by exact SoundIt.none) : Sound G Tryd.prog 68 C := by
  obtain ⟨b, hb, hc⟩ := bd68
  rw [xv_eq] at hC
  exact sound_of_ev mo fn68 hb nm68 hc cr68 hT hl hit hC

/-! 58: redline/lines.Bare -/
def A58 : Ann := ⟨fun _ _ => 0, fun _ => none, fun r => if r = 1 then some (false, [0]) else none, fun _ => []⟩
def S58 : SCode :=
  (.seq (.ops [⟨none, (some 2), .mv 2 (.k (Value.string ⟨#[]⟩)), false⟩,
    ⟨none, (some 3), .mv 3 (.k (Value.bool false)), false⟩])
  (.seq (.seq (.keep [0]) (.ops [⟨none, (some 4), .mv 4 (.s 0), false⟩,
    ⟨none, (some 5), .call (some 5) 107 false [(.s 4), (.k (Value.string ⟨#[10]⟩))], false⟩,
    ⟨none, (some 6), .ex 6 (.s 5) 0, false⟩,
    ⟨none, (some 7), .ex 7 (.s 5) 1, false⟩,
    ⟨none, (some 2), .mv 2 (.s 6), false⟩,
    ⟨none, (some 3), .mv 3 (.s 7), false⟩]))
  .ret))
theorem cc58 : (Tryd.f58.body).bind (cc Tryd.prog Tryd.f58.ntmps A58) = some S58 := by kernel_rfl
def R58 : List RR := [.sl 2, .sl 3]
theorem cr58 : Tryd.f58.results.toList.map (crr Tryd.prog) = R58.map some := by kernel_rfl
theorem nm58 : (Tryd.f58.name == "runtime.NumGoroutine") = false := by kernel_rfl
theorem fn58 : Tryd.prog.funcs[58]? = some Tryd.f58 := by kernel_rfl
theorem bd58 : ∃ b, Tryd.f58.body = some b ∧ cc Tryd.prog Tryd.f58.ntmps A58 b = some S58 := Option.bind_eq_some_iff.1 cc58
theorem sd58 {G : World → Prop} {T : FuncId → Contract} {C : Contract} (hT : ∀ f, Sound G Tryd.prog f (T f)) (hl : C.lawful) (hC : ∀ args st K, C.wp args st K → args.length ≤ 8 ∧ ∃ os op, xv T st.n S58 (st0 args st) (retK R58 st.n os K) (panK st.n op K)) (hit : SoundIt G Tryd.prog 58 C.it := by exact SoundIt.none) : Sound G Tryd.prog 58 C := by
  obtain ⟨b, hb, hc⟩ := bd58
  rw [xv_eq] at hC
  exact sound_of_ev mo fn58 hb nm58 hc cr58 hT hl hit hC

/-! 61: redline/redlineref02.Bare -/
def A61 : Ann := ⟨fun r i => if r = 1 ∧ i = 6 then 1 else 0, fun _ => none, fun r => if r = 1 then some (false, [0]) else if r = 2 then some (false, [0]) else if r = 3 then some (false, [0]) else none, fun _ => []⟩
def S61 : SCode :=
  (.seq (.ops [⟨none, (some 2), .mv 2 (.k (Value.string ⟨#[]⟩)), false⟩,
    ⟨none, (some 3), .mv 3 (.k (Value.bool false)), false⟩])
  (.seq (.seq (.seq (.keep [0]) (.ops [⟨none, (some 4), .mv 4 (.s 0), false⟩,
    ⟨none, (some 5), .lens 5 (.s 4), false⟩,
    ⟨none, (some 6), .bin 6 .eql (.s 5) (.k (Value.int .i64 0)), false⟩,
    ⟨none, (some 7), .mv 7 (.s 6), false⟩,
    ⟨(some (7, false)), (some 8), .mv 8 (.s 0), false⟩,
    ⟨(some (7, false)), (some 9), .mv 9 (.s 0), false⟩,
    ⟨(some (7, false)), (some 10), .lens 10 (.s 9), false⟩,
    ⟨(some (7, false)), (some 11), .binc 11 .sub (.s 10) (.k (Value.int .i64 1)), false⟩,
    ⟨(some (7, false)), (some 12), .ixs 12 (.s 8) (.s 11), false⟩,
    ⟨(some (7, false)), (some 13), .bin 13 .neq (.s 12) (.k (Value.int .u8 10)), true⟩,
    ⟨none, (some 14), .pk 14 (.s 7) (.k (Value.bool true)) (.s 13), false⟩]))
  (.cond (.s 14) (.seq (.seq (.keep [0]) (.ops [⟨none, (some 15), .mv 15 (.s 0), false⟩,
    ⟨none, (some 2), .mv 2 (.s 15), false⟩,
    ⟨none, (some 3), .mv 3 (.k (Value.bool false)), false⟩]))
  .ret) .skip))
  (.seq (.seq (.keep [0]) (.ops [⟨none, (some 16), .mv 16 (.s 0), false⟩,
    ⟨none, (some 17), .mv 17 (.s 0), false⟩,
    ⟨none, (some 18), .lens 18 (.s 17), false⟩,
    ⟨none, (some 19), .binc 19 .sub (.s 18) (.k (Value.int .i64 1)), false⟩,
    ⟨none, (some 20), .sls 20 (.s 16) none (some (.s 19)), false⟩,
    ⟨none, (some 2), .mv 2 (.s 20), false⟩,
    ⟨none, (some 3), .mv 3 (.k (Value.bool true)), false⟩]))
  .ret)))
theorem cc61 : (Tryd.f61.body).bind (cc Tryd.prog Tryd.f61.ntmps A61) = some S61 := by kernel_rfl
def R61 : List RR := [.sl 2, .sl 3]
theorem cr61 : Tryd.f61.results.toList.map (crr Tryd.prog) = R61.map some := by kernel_rfl
theorem nm61 : (Tryd.f61.name == "runtime.NumGoroutine") = false := by kernel_rfl
theorem fn61 : Tryd.prog.funcs[61]? = some Tryd.f61 := by kernel_rfl
theorem bd61 : ∃ b, Tryd.f61.body = some b ∧ cc Tryd.prog Tryd.f61.ntmps A61 b = some S61 := Option.bind_eq_some_iff.1 cc61
theorem sd61 {G : World → Prop} {T : FuncId → Contract} {C : Contract} (hT : ∀ f, Sound G Tryd.prog f (T f)) (hl : C.lawful) (hC : ∀ args st K, C.wp args st K → args.length ≤ 21 ∧ ∃ os op, xv T st.n S61 (st0 args st) (retK R61 st.n os K) (panK st.n op K)) (hit : SoundIt G Tryd.prog 61 C.it := by exact SoundIt.none) : Sound G Tryd.prog 61 C := by
  obtain ⟨b, hb, hc⟩ := bd61
  rw [xv_eq] at hC
  exact sound_of_ev mo fn61 hb nm61 hc cr61 hT hl hit hC

/-! 107: strings.CutSuffix -/
def A107 : Ann := ⟨fun _ _ => 0, fun _ => none, fun r => if r = 1 then some (false, [0, 1]) else none, fun _ => []⟩
def S107 : SCode :=
  (.seq (.ops [⟨none, (some 4), .mv 4 (.k (Value.string ⟨#[]⟩)), false⟩,
    ⟨none, (some 5), .mv 5 (.k (Value.bool false)), false⟩])
  (.seq (.seq (.keep [0, 1]) (.ops [⟨none, (some 6), .mv 6 (.s 0), false⟩,
    ⟨none, (some 7), .mv 7 (.s 1), false⟩,
    ⟨none, (some 8), .call (some 8) 143 false [(.s 6), (.s 7)], false⟩,
    ⟨none, (some 9), .ex 9 (.s 8) 0, false⟩,
    ⟨none, (some 10), .ex 10 (.s 8) 1, false⟩,
    ⟨none, (some 4), .mv 4 (.s 9), false⟩,
    ⟨none, (some 5), .mv 5 (.s 10), false⟩]))
  .ret))
theorem cc107 : (Tryd.f107.body).bind (cc Tryd.prog Tryd.f107.ntmps A107) = some S107 := by kernel_rfl
def R107 : List RR := [.sl 4, .sl 5]
theorem cr107 : Tryd.f107.results.toList.map (crr Tryd.prog) = R107.map some := by kernel_rfl
theorem nm107 : (Tryd.f107.name == "runtime.NumGoroutine") = false := by kernel_rfl
theorem fn107 : Tryd.prog.funcs[107]? = some Tryd.f107 := by kernel_rfl
theorem bd107 : ∃ b, Tryd.f107.body = some b ∧ cc Tryd.prog Tryd.f107.ntmps A107 b = some S107 := Option.bind_eq_some_iff.1 cc107
theorem sd107 {G : World → Prop} {T : FuncId → Contract} {C : Contract} (hT : ∀ f, Sound G Tryd.prog f (T f)) (hl : C.lawful) (hC : ∀ args st K, C.wp args st K → args.length ≤ 11 ∧ ∃ os op, xv T st.n S107 (st0 args st) (retK R107 st.n os K) (panK st.n op K)) (hit : SoundIt G Tryd.prog 107 C.it := by exact SoundIt.none) : Sound G Tryd.prog 107 C := by
  obtain ⟨b, hb, hc⟩ := bd107
  rw [xv_eq] at hC
  exact sound_of_ev mo fn107 hb nm107 hc cr107 hT hl hit hC

/-! 143: internal/stringslite.CutSuffix -/
def A143 : Ann := ⟨fun _ _ => 0, fun _ => none, fun r => if r = 1 then some (false, [0, 1]) else if r = 2 then some (false, [0]) else if r = 3 then some (false, [0, 1]) else none, fun _ => []⟩
def S143 : SCode :=
  (.seq (.ops [⟨none, (some 4), .mv 4 (.k (Value.string ⟨#[]⟩)), false⟩,
    ⟨none, (some 5), .mv 5 (.k (Value.bool false)), false⟩])
  (.seq (.seq (.seq (.keep [0, 1]) (.ops [⟨none, (some 6), .mv 6 (.s 0), false⟩,
    ⟨none, (some 7), .mv 7 (.s 1), false⟩,
    ⟨none, (some 8), .call (some 8) 171 false [(.s 6), (.s 7)], false⟩,
    ⟨none, (some 9), .not 9 (.s 8), false⟩]))
  (.cond (.s 9) (.seq (.seq (.keep [0]) (.ops [⟨none, (some 10), .mv 10 (.s 0), false⟩,
    ⟨none, (some 4), .mv 4 (.s 10), false⟩,
    ⟨none, (some 5), .mv 5 (.k (Value.bool false)), false⟩]))
  .ret) .skip))
  (.seq (.seq (.keep [0, 1]) (.ops [⟨none, (some 11), .mv 11 (.s 0), false⟩,
    ⟨none, (some 12), .mv 12 (.s 0), false⟩,
    ⟨none, (some 13), .lens 13 (.s 12), false⟩,
    ⟨none, (some 14), .mv 14 (.s 1), false⟩,
    ⟨none, (some 15), .lens 15 (.s 14), false⟩,
    ⟨none, (some 16), .binc 16 .sub (.s 13) (.s 15), false⟩,
    ⟨none, (some 17), .sls 17 (.s 11) none (some (.s 16)), false⟩,
    ⟨none, (some 4), .mv 4 (.s 17), false⟩,
    ⟨none, (some 5), .mv 5 (.k (Value.bool true)), false⟩]))
  .ret)))
theorem cc143 : (Tryd.f143.body).bind (cc Tryd.prog Tryd.f143.ntmps A143) = some S143 := by kernel_rfl
def R143 : List RR := [.sl 4, .sl 5]
theorem cr143 : Tryd.f143.results.toList.map (crr Tryd.prog) = R143.map some := by kernel_rfl
theorem nm143 : (Tryd.f143.name == "runtime.NumGoroutine") = false := by kernel_rfl
theorem fn143 : Tryd.prog.funcs[143]? = some Tryd.f143 := by kernel_rfl
theorem bd143 : ∃ b, Tryd.f143.body = some b ∧ cc Tryd.prog Tryd.f143.ntmps A143 b = some S143 := Option.bind_eq_some_iff.1 cc143
theorem sd143 {G : World → Prop} {T : FuncId → Contract} {C : Contract} (hT : ∀ f, Sound G Tryd.prog f (T f)) (hl : C.lawful) (hC : ∀ args st K, C.wp args st K → args.length ≤ 18 ∧ ∃ os op, xv T st.n S143 (st0 args st) (retK R143 st.n os K) (panK st.n op K)) (hit : SoundIt G Tryd.prog 143 C.it := by exact SoundIt.none) : Sound G Tryd.prog 143 C := by
  obtain ⟨b, hb, hc⟩ := bd143
  rw [xv_eq] at hC
  exact sound_of_ev mo fn143 hb nm143 hc cr143 hT hl hit hC

/-! 171: internal/stringslite.HasSuffix -/
def A171 : Ann := ⟨fun r i => if r = 1 ∧ i = 8 then 1 else if r = 1 ∧ i = 10 then 1 else 0, fun _ => none, fun r => if r = 1 then some (false, [0, 1]) else none, fun _ => []⟩
def S171 : SCode :=
  (.seq (.ops [⟨none, (some 4), .mv 4 (.k (Value.bool false)), false⟩])
  (.seq (.seq (.keep [0, 1]) (.ops [⟨none, (some 5), .mv 5 (.s 0), false⟩,
    ⟨none, (some 6), .lens 6 (.s 5), false⟩,
    ⟨none, (some 7), .mv 7 (.s 1), false⟩,
    ⟨none, (some 8), .lens 8 (.s 7), false⟩,
    ⟨none, (some 9), .bin 9 .geq (.s 6) (.s 8), false⟩,
    ⟨none, (some 10), .mv 10 (.s 9), false⟩,
    ⟨(some (10, true)), (some 11), .mv 11 (.s 0), false⟩,
    ⟨(some (10, true)), (some 12), .mv 12 (.s 0), false⟩,
    ⟨(some (10, true)), (some 13), .lens 13 (.s 12), false⟩,
    ⟨(some (10, true)), (some 14), .mv 14 (.s 1), true⟩,
    ⟨(some (10, true)), (some 15), .lens 15 (.s 14), false⟩,
    ⟨(some (10, true)), (some 16), .binc 16 .sub (.s 13) (.s 15), false⟩,
    ⟨(some (10, true)), (some 17), .sls 17 (.s 11) (some (.s 16)) none, false⟩,
    ⟨(some (10, true)), (some 18), .mv 18 (.s 1), false⟩,
    ⟨(some (10, true)), (some 19), .bin 19 .eql (.s 17) (.s 18), false⟩,
    ⟨none, (some 20), .pk 20 (.s 10) (.s 19) (.k (Value.bool false)), false⟩,
    ⟨none, (some 4), .mv 4 (.s 20), false⟩]))
  .ret))
theorem cc171 : (Tryd.f171.body).bind (cc Tryd.prog Tryd.f171.ntmps A171) = some S171 := by kernel_rfl
def R171 : List RR := [.sl 4]
theorem cr171 : Tryd.f171.results.toList.map (crr Tryd.prog) = R171.map some := by kernel_rfl
theorem nm171 : (Tryd.f171.name == "runtime.NumGoroutine") = false := by kernel_rfl
theorem fn171 : Tryd.prog.funcs[171]? = some Tryd.f171 := by kernel_rfl
theorem bd171 : ∃ b, Tryd.f171.body = some b ∧ cc Tryd.prog Tryd.f171.ntmps A171 b = some S171 := Option.bind_eq_some_iff.1 cc171
theorem sd171 {G : World → Prop} {T : FuncId → Contract} {C : Contract} (hT : ∀ f, Sound G Tryd.prog f (T f)) (hl : C.lawful) (hC : ∀ args st K, C.wp args st K → args.length ≤ 21 ∧ ∃ os op, xv T st.n S171 (st0 args st) (retK R171 st.n os K) (panK st.n op K)) (hit : SoundIt G Tryd.prog 171 C.it := by exact SoundIt.none) : Sound G Tryd.prog 171 C := by
  obtain ⟨b, hb, hc⟩ := bd171
  rw [xv_eq] at hC
  exact sound_of_ev mo fn171 hb nm171 hc cr171 hT hl hit hC

end Go.Proofs.YtpbkdcfjlbdgfaaDoor
/-
  DERIVED: THE SHELF's CONTRACTS AT THIS DUMP, IN PLAIN WORDS (tools/lay-plain.mjs out of 'TrydShelfPart.lean', which tools/lay-shelf.mjs wrote): THE SAME DECLARATIONS UNDER THE SAME NAMES: 'import', 'namespace', 'open', 'def', 'theorem' AND NOTHING ELSE: no command of the shelf's: FOR A HAND-IN. Each laying: the table of numbers ('.._ren') and one theorem, a field a fact of the dump's own or the kernel's comparison; each contract: ONE APPLICATION.
-/
namespace Go.Proofs
open Go.Shelf
def Tryd.laysM171_ren : Go.Shelf.Ren := ⟨fun | 171 => 79 | 243 => 126 | 246 => 158 | 283 => 180 | 284 => 181 | 285 => 182 | 286 => 183 | 129 => 194 | 317 => 193 | 318 => 195 | 319 => 196 | 320 => 197 | 337 => 201 | 338 => 202 | n => n, fun | 3 => 3 | 9 => 9 | 2 => 2 | 4 => 4 | 171 => 209 | 0 => 0 | 53 => 64 | 37 => 68 | 5 => 5 | 173 => 212 | 212 => 230 | 51 => 215 | 20 => 20 | 213 => 231 | 46 => 114 | 232 => 236 | 233 => 237 | n => n, fun | 17 => 6 | 18 => 7 | 19 => 8 | n => n⟩
theorem Tryd.laysM171 : Go.Proofs.LaysM.n171 Tryd.prog Tryd.laysM171_ren := {
  mixed := by kernel_rfl
  f129 := Tryd.func194.trans (congrArg some (by kernel_rfl))
  f171 := Tryd.func79.trans (congrArg some (by kernel_rfl))
  f243 := Tryd.func126.trans (congrArg some (by kernel_rfl))
  f246 := Tryd.func158.trans (congrArg some (by kernel_rfl))
  f283 := Tryd.func180.trans (congrArg some (by kernel_rfl))
  f284 := Tryd.func181.trans (congrArg some (by kernel_rfl))
  f285 := Tryd.func182.trans (congrArg some (by kernel_rfl))
  f286 := Tryd.func183.trans (congrArg some (by kernel_rfl))
  f317 := Tryd.func193.trans (congrArg some (by kernel_rfl))
  f318 := Tryd.func195.trans (congrArg some (by kernel_rfl))
  f319 := Tryd.func196.trans (congrArg some (by kernel_rfl))
  f320 := Tryd.func197.trans (congrArg some (by kernel_rfl))
  f337 := Tryd.func201.trans (congrArg some (by kernel_rfl))
  f338 := Tryd.func202.trans (congrArg some (by kernel_rfl))
  t0 := Tryd.underlying0
  a0 := Tryd.isAgg0
  z0 := Tryd.sizeOf0
  v0 := Tryd.zeroValue0
  t2 := Tryd.underlying2
  a2 := Tryd.isAgg2
  z2 := Tryd.sizeOf2
  v2 := Tryd.zeroValue2
  t3 := Tryd.underlying3
  a3 := Tryd.isAgg3
  z3 := Tryd.sizeOf3
  v3 := Tryd.zeroValue3
  t4 := Tryd.underlying4
  a4 := Tryd.isAgg4
  z4 := Tryd.sizeOf4
  v4 := Tryd.zeroValue4
  t5 := Tryd.underlying5
  a5 := Tryd.isAgg5
  z5 := Tryd.sizeOf5
  v5 := Tryd.zeroValue5
  t9 := Tryd.underlying9
  a9 := Tryd.isAgg9
  z9 := Tryd.sizeOf9
  v9 := Tryd.zeroValue9
  t20 := Tryd.underlying20
  a20 := Tryd.isAgg20
  z20 := Tryd.sizeOf20
  v20 := Tryd.zeroValue20
  t37 := Tryd.underlying68
  a37 := Tryd.isAgg68
  z37 := Tryd.sizeOf68
  v37 := Tryd.zeroValue68
  t46 := Tryd.underlying114
  a46 := Tryd.isAgg114
  z46 := Tryd.sizeOf114
  v46 := Tryd.zeroValue114
  t51 := Tryd.underlying215
  a51 := Tryd.isAgg215
  z51 := Tryd.sizeOf215
  v51 := Tryd.zeroValue215
  t53 := Tryd.underlying64
  a53 := Tryd.isAgg64
  z53 := Tryd.sizeOf64
  v53 := Tryd.zeroValue64
  t171 := Tryd.underlying209
  a171 := Tryd.isAgg209
  z171 := Tryd.sizeOf209
  v171 := Tryd.zeroValue209
  t173 := Tryd.underlying212
  a173 := Tryd.isAgg212
  z173 := Tryd.sizeOf212
  v173 := Tryd.zeroValue212
  t212 := Tryd.underlying230
  a212 := Tryd.isAgg230
  z212 := Tryd.sizeOf230
  v212 := Tryd.zeroValue230
  t213 := Tryd.underlying231
  a213 := Tryd.isAgg231
  z213 := Tryd.sizeOf231
  t232 := Tryd.underlying236
  a232 := Tryd.isAgg236
  z232 := Tryd.sizeOf236
  v232 := Tryd.zeroValue236
  t233 := Tryd.underlying237
  a233 := Tryd.isAgg237
  z233 := Tryd.sizeOf237
  v233 := Tryd.zeroValue237
  g17 := by kernel_rfl
  g18 := by kernel_rfl
  g19 := by kernel_rfl
  i0 := by kernel_rfl
  i2 := by kernel_rfl
  i3 := by kernel_rfl
  i4 := by kernel_rfl
  i5 := by kernel_rfl
  i9 := by kernel_rfl
  i20 := by kernel_rfl
  i37 := by kernel_rfl
  i46 := by kernel_rfl
  i51 := by kernel_rfl
  i53 := by kernel_rfl
  i171 := by kernel_rfl
  i173 := by kernel_rfl
  i212 := by kernel_rfl
  i232 := by kernel_rfl
  i233 := by kernel_rfl
  m17 := by kernel_rfl
  m18 := by kernel_rfl
  m19 := by kernel_rfl }
open Go.RowKit Go.Sort Go.Lib in
/-- strconv.Itoa: "Itoa is equivalent to FormatInt(int64(i), 10).": i's DECIMAL NUMERAL ('Lib.itoa': a '-' where i is negative, then the digits), FOR EVERY int. The world behind the call: the world before it, new blocks behind the heap (the library's 'var a [24]byte'), draws. (LAID: no walk: one application.) -/
theorem Tryd.strconv_Itoa (n : Int) (h0 : -9223372036854775808 ≤ n) (h1 : n ≤ 9223372036854775807) (w : World) (htab : Lib.TabIs Tryd.prog w "internal/strconv.uint64pow10" .u64 Lib.pow10Tab) :
    Calls Tryd.prog 79 #[.int .i64 n] w fun e w' => e = .returned (.string ⟨(Lib.itoa n).toArray⟩) ∧ ∃ k os, w' = grow (w.drewN k) os := Any.strconv_Itoa Tryd.laysM171 n h0 h1 w htab
end Go.Proofs
set_option linter.unusedVariables false
set_option linter.unusedSimpArgs false
namespace Go.Proofs.YtpbkdcfjlbdgfaaDoor
open Go Go.Ev
set_option maxRecDepth 100000
variable {G : World → Prop}
/-- The variables that strconv.Itoa reads. -/
def Pow10 (w : World) : Prop := Lib.TabIs Tryd.prog w "internal/strconv.uint64pow10" .u64 Lib.pow10Tab
def CItoa : Contract := pureC fun args => match args with
  | [.d (.v (.int .i64 n))] => some (-9223372036854775808 ≤ n ∧ n ≤ 9223372036854775807, .d (.v (str (Lib.itoa n))))
  | _ => none
theorem sItoa (hG : ∀ w, G w → Pow10 w) : Sound G Tryd.prog 79 CItoa := by
  refine sound_lib ⟨Tryd.f79, by kernel_rfl, by kernel_rfl, by kernel_rfl⟩ fun args p x h hp => ?_
  split at h <;> simp only [Option.some.injEq, Prod.mk.injEq, reduceCtorEq] at h
  obtain ⟨rfl, rfl⟩ := h
  refine ⟨_, fun m n c => ⟨rfl, rfl⟩, fun w hw m c vs hc hv => ?_⟩
  match vs, hv with
  | [a], hv =>
    simp only [CnL, and_true] at hv
    rw [of_v hv]
    refine (Tryd.strconv_Itoa _ hp.1 hp.2 w (hG w hw)).mono ?_
    rintro e w' ⟨rfl, k, os, rfl⟩
    refine ⟨rfl, ⟨rfl, rfl, rfl, ?_, fun b hb => ?_⟩⟩
    · simp [«Sort».grow, World.drewN]
    · simp [«Sort».grow, World.drewN, Array.getElem?_append_left hb]
  | [], hv => simp [CnL] at hv
  | _ :: _ :: _, hv => simp [CnL] at hv
theorem itoa_len {n : Int} (h : -9223372036854775808 ≤ n ∧ n ≤ 9223372036854775807) : (Lib.itoa n).length ≤ 21 := Lib.itoa_length_le n h.1 h.2
theorem s32 (hG : ∀ w, G w → Pow10 w) : Sound G Tryd.prog 32 CItoa := by
  refine sd32 (T := tabT [(79, CItoa)]) (tab_cons (sItoa hG) tab_nil) (pureC_lawful _) (pure_hX fun args p x K h hp hk => ?_)
  split at h <;> simp only [Option.some.injEq, Prod.mk.injEq, reduceCtorEq] at h
  obtain ⟨rfl, rfl⟩ := h
  refine ⟨Nat.le_of_ble_eq_true rfl, ?_⟩
  simp -dsimp -implicitDefEqProofs only [S32, R32, CItoa, ↓Ev.xStp_eq, ↓Ev.P, Ev.Q, eq_self, forall_eq_or_imp, implies_true, forall_const, forall_eq, ↓reduceIte, reduceIte, Nat.reduceEqDiff, Nat.reduceAdd, reduceCtorEq, Nat.reduceSub, Int.reduceToNat, Int.reduceLE, Int.reduceLT, Int.reduceNeg, Nat.reduceBEq, Nat.reduceMul, Nat.reduceLeDiff, Nat.reduceMod, UInt8.reduceOfNat, Nat.reduceLT, Int.reduceEq, Int.reduceAdd, Int.reduceSub, Int.reduceMul]
  exact ⟨hp, hk⟩
def C80 : Contract := pureC fun args => match args with
  | [.d (.v (.int .u64 u))] => some (0 ≤ u ∧ u < 18446744073709551616, .d (.v (str (Lib.decDigits u.toNat))))
  | _ => none
theorem dig1 (u : Nat) : IntKind.u8.wrap (IntKind.u64.wrap (48 + ((u : Int)).tmod 10)) = ((48 + u % 10 : Nat) : Int) := by
  have : ((u : Int)).tmod 10 = ((u % 10 : Nat) : Int) := by rw [Int.tmod_eq_emod_of_nonneg (by omega)]; omega
  rw [this]
  simp only [IntKind.wrap, IntKind.bits, IntKind.signed]
  simp
  omega
theorem dig2 (u : Nat) (h : u < 18446744073709551616) : IntKind.u64.wrap (((u : Int)).tdiv 10) = ((u / 10 : Nat) : Int) := by
  have : ((u : Int)).tdiv 10 = ((u / 10 : Nat) : Int) := by rw [Int.tdiv_eq_ediv_of_nonneg (by omega)]; omega
  rw [this]
  simp only [IntKind.wrap, IntKind.bits, IntKind.signed]
  simp
  omega
theorem dec_big {u : Nat} (h : ¬ u < 10) : Lib.decDigits u = Lib.decDigits (u / 10) ++ [UInt8.ofNat (48 + u % 10)] := by rw [Lib.decDigits, dif_neg h]
theorem dec_small {u : Nat} (h : u < 10) : Lib.decDigits u = [UInt8.ofNat (48 + u % 10)] := by rw [Lib.decDigits, dif_pos h, Nat.mod_eq_of_lt h]
theorem s80 : Sound G Tryd.prog 80 C80 := by
  refine sd80 (T := tabT []) tab_nil (pureC_lawful _) (pure_hX fun args p x K h hp hk => ?_)
  split at h <;> simp only [Option.some.injEq, Prod.mk.injEq, reduceCtorEq] at h
  obtain ⟨rfl, rfl⟩ := h
  refine ⟨Nat.le_of_ble_eq_true rfl, ?_⟩
  rename_i u
  obtain ⟨u, rfl⟩ := Int.eq_ofNat_of_zero_le hp.1
  have hu : u < 18446744073709551616 := by omega
  simp only [Int.toNat_natCast] at hk
  simp -dsimp -implicitDefEqProofs only [S80, R80, dig1, dig2 u hu, ↓Ev.xStp_eq, ↓Ev.P, Ev.Q, eq_self, forall_eq_or_imp, implies_true, forall_const, forall_eq, ↓reduceIte, reduceIte, Nat.reduceEqDiff, Nat.reduceAdd, reduceCtorEq, Nat.reduceSub, Int.reduceToNat, Int.reduceLE, Int.reduceLT, Int.reduceNeg, Nat.reduceBEq, Nat.reduceMul, Nat.reduceLeDiff, Nat.reduceMod, UInt8.reduceOfNat, Nat.reduceLT, Int.reduceEq, Int.reduceAdd, Int.reduceSub, Int.reduceMul]
  have hlen : ∀ u : Nat, u < 18446744073709551616 → (Lib.decDigits u).length ≤ 21 := fun u h => by
    rw [Lib.decDigits_length]; have := Lib.nDigits_le20 u h; omega
  refine xLoop_intro (fun n st => ∃ (k : Nat) (s : List UInt8), n = k ∧ k < 18446744073709551616 ∧ (Lib.decDigits u = if k = 0 then s else Lib.decDigits k ++ s) ∧
      st = ⟨[(0, .d (.v (.int .u64 k))), (3, .d (.v (.string ⟨s.toArray⟩)))], 0, []⟩) (u / 10) [] ?_ ?_ ?_
  · simp -dsimp -implicitDefEqProofs only [↓Ev.xStp_eq, ↓Ev.P, Ev.Q, eq_self, forall_eq_or_imp, implies_true, forall_const, forall_eq, ↓reduceIte, reduceIte, Nat.reduceEqDiff, Nat.reduceAdd, reduceCtorEq, Nat.reduceSub, Int.reduceToNat, Int.reduceLE, Int.reduceLT, Int.reduceNeg, Nat.reduceBEq, Nat.reduceMul, Nat.reduceLeDiff, Nat.reduceMod, UInt8.reduceOfNat, Nat.reduceLT, Int.reduceEq, Int.reduceAdd, Int.reduceSub, Int.reduceMul]
  · simp -dsimp -implicitDefEqProofs only [↓Ev.xStp_eq, ↓Ev.P, Ev.Q, eq_self, forall_eq_or_imp, implies_true, forall_const, forall_eq, ↓reduceIte, reduceIte, Nat.reduceEqDiff, Nat.reduceAdd, reduceCtorEq, Nat.reduceSub, Int.reduceToNat, Int.reduceLE, Int.reduceLT, Int.reduceNeg, Nat.reduceBEq, Nat.reduceMul, Nat.reduceLeDiff, Nat.reduceMod, UInt8.reduceOfNat, Nat.reduceLT, Int.reduceEq, Int.reduceAdd, Int.reduceSub, Int.reduceMul]
    refine ⟨u / 10, _, rfl, by omega, ?_, rfl⟩
    by_cases h : u < 10
    · rw [if_pos (by omega), dec_small h]
    · rw [if_neg (by omega), dec_big h]
  · rintro n st ⟨k, s, hn, hk2, hd, rfl⟩
    simp -dsimp -implicitDefEqProofs only [dig1, dig2 k hk2, ↓Ev.xStp_eq, ↓Ev.P, Ev.Q, eq_self, forall_eq_or_imp, implies_true, forall_const, forall_eq, ↓reduceIte, reduceIte, Nat.reduceEqDiff, Nat.reduceAdd, reduceCtorEq, Nat.reduceSub, Int.reduceToNat, Int.reduceLE, Int.reduceLT, Int.reduceNeg, Nat.reduceBEq, Nat.reduceMul, Nat.reduceLeDiff, Nat.reduceMod, UInt8.reduceOfNat, Nat.reduceLT, Int.reduceEq, Int.reduceAdd, Int.reduceSub, Int.reduceMul]
    repeat' (first | with_reducible assumption | refine And.intro ?_ ?_ | intro _)
    · rename_i h
      have hl := congrArg List.length hd
      rw [if_neg (by omega), List.length_append] at hl
      have := hlen u hu
      omega
    · rename_i h
      refine xAgain_intro (k / 10) [] (by omega) (by simp -dsimp -implicitDefEqProofs only [↓Ev.xStp_eq, ↓Ev.P, Ev.Q, eq_self, forall_eq_or_imp, implies_true, forall_const, forall_eq, ↓reduceIte, reduceIte, Nat.reduceEqDiff, Nat.reduceAdd, reduceCtorEq, Nat.reduceSub, Int.reduceToNat, Int.reduceLE, Int.reduceLT, Int.reduceNeg, Nat.reduceBEq, Nat.reduceMul, Nat.reduceLeDiff, Nat.reduceMod, UInt8.reduceOfNat, Nat.reduceLT, Int.reduceEq, Int.reduceAdd, Int.reduceSub, Int.reduceMul]) ⟨k / 10, UInt8.ofNat (48 + k % 10) :: s, rfl, by omega, ?_, ?_⟩
      rotate_left
      · simp -dsimp -implicitDefEqProofs only [↓Ev.xStp_eq, ↓Ev.P, Ev.Q, eq_self, forall_eq_or_imp, implies_true, forall_const, forall_eq, ↓reduceIte, reduceIte, Nat.reduceEqDiff, Nat.reduceAdd, reduceCtorEq, Nat.reduceSub, Int.reduceToNat, Int.reduceLE, Int.reduceLT, Int.reduceNeg, Nat.reduceBEq, Nat.reduceMul, Nat.reduceLeDiff, Nat.reduceMod, UInt8.reduceOfNat, Nat.reduceLT, Int.reduceEq, Int.reduceAdd, Int.reduceSub, Int.reduceMul]
      rw [hd, if_neg (by omega)]
      by_cases h : k < 10
      · rw [if_pos (by omega), dec_small h]; rfl
      · rw [if_neg (by omega), dec_big h]; simp
    · rename_i h
      rw [if_pos (by omega)] at hd
      rw [hd] at hk; exact hk
theorem s33 : Sound G Tryd.prog 33 CItoa := by
  refine sd33 (T := tabT [(80, C80)]) (tab_cons s80 tab_nil) (pureC_lawful _) (pure_hX fun args p x K h hp hk => ?_)
  split at h <;> simp only [Option.some.injEq, Prod.mk.injEq, reduceCtorEq] at h
  obtain ⟨rfl, rfl⟩ := h
  refine ⟨Nat.le_of_ble_eq_true rfl, ?_⟩
  rename_i n
  have hlen : ∀ u : Nat, u < 18446744073709551616 → (Lib.decDigits u).length ≤ 21 := fun u h => by
    rw [Lib.decDigits_length]; have := Lib.nDigits_le20 u h; omega
  by_cases h0 : n < 0
  · have e1 : IntKind.u64.wrap (0 - IntKind.u64.wrap n) = ((n.natAbs : Nat) : Int) := by
      simp only [IntKind.wrap, IntKind.bits, IntKind.signed]
      simp
      omega
    rw [show Lib.itoa n = 45 :: Lib.decDigits n.natAbs by rw [Lib.itoa, if_pos h0]] at hk
    have := hlen n.natAbs (by omega)
    simp -dsimp -implicitDefEqProofs only [S33, R33, C80, e1, h0, ↓Ev.xStp_eq, ↓Ev.P, Ev.Q, eq_self, forall_eq_or_imp, implies_true, forall_const, forall_eq, ↓reduceIte, reduceIte, Nat.reduceEqDiff, Nat.reduceAdd, reduceCtorEq, Nat.reduceSub, Int.reduceToNat, Int.reduceLE, Int.reduceLT, Int.reduceNeg, Nat.reduceBEq, Nat.reduceMul, Nat.reduceLeDiff, Nat.reduceMod, UInt8.reduceOfNat, Nat.reduceLT, Int.reduceEq, Int.reduceAdd, Int.reduceSub, Int.reduceMul]
    repeat' (first | with_reducible assumption | refine And.intro ?_ ?_ | intro _)
    all_goals first | omega | exact hk
  · have e1 : IntKind.u64.wrap n = ((n.toNat : Nat) : Int) := by
      simp only [IntKind.wrap, IntKind.bits, IntKind.signed]
      simp
      omega
    rw [show Lib.itoa n = Lib.decDigits n.toNat by rw [Lib.itoa, if_neg h0]] at hk
    simp -dsimp -implicitDefEqProofs only [S33, R33, C80, e1, h0, ↓Ev.xStp_eq, ↓Ev.P, Ev.Q, eq_self, forall_eq_or_imp, implies_true, forall_const, forall_eq, ↓reduceIte, reduceIte, Nat.reduceEqDiff, Nat.reduceAdd, reduceCtorEq, Nat.reduceSub, Int.reduceToNat, Int.reduceLE, Int.reduceLT, Int.reduceNeg, Nat.reduceBEq, Nat.reduceMul, Nat.reduceLeDiff, Nat.reduceMod, UInt8.reduceOfNat, Nat.reduceLT, Int.reduceEq, Int.reduceAdd, Int.reduceSub, Int.reduceMul]
    repeat' (first | with_reducible assumption | refine And.intro ?_ ?_ | intro _)
    all_goals first | omega | exact hk
end Go.Proofs.YtpbkdcfjlbdgfaaDoor
set_option linter.unusedVariables false
set_option linter.unusedSimpArgs false
namespace Go.Ev
open Go
/-! Rows of texts. -/
def strRows (l : List (List UInt8)) : List (List D) := l.map fun s => [.v (.string ⟨s.toArray⟩)]
theorem strRows_len (l : List (List UInt8)) : (strRows l).length = l.length := by simp [strRows]
theorem strRows_get {l : List (List UInt8)} {i : Nat} (h : i < l.length) : (strRows l)[i]? = some [.v (.string ⟨(l.getD i []).toArray⟩)] := by
  simp [strRows, List.getD_eq_getElem?_getD, List.getElem?_eq_getElem h]
theorem strRows_all (l : List (List UInt8)) : (∀ r ∈ strRows l, r.length = 1) = True := by
  simp only [strRows, List.mem_map, eq_iff_iff, iff_true]
  rintro r ⟨s, _, rfl⟩; rfl
theorem strRows_sub (l : List (List UInt8)) (a b : Nat) : ((strRows l).take a).drop b = strRows ((l.take a).drop b) := by simp [strRows, List.map_take, List.map_drop]
def unStr : List (List D) → Option (List (List UInt8))
  | [] => some []
  | [.v (.string s)] :: r => (unStr r).map (s.data.toList :: ·)
  | _ :: _ => none
theorem unStr_rows : ∀ l : List (List UInt8), unStr (strRows l) = some l
  | [] => rfl
  | s :: l => by
    have h := unStr_rows l
    unfold strRows at h
    simp [strRows, unStr, h]
theorem unStr_eq : ∀ {rows : List (List D)} {l : List (List UInt8)}, unStr rows = some l → rows = strRows l
  | [], l, h => by simp only [unStr, Option.some.injEq] at h; subst h; rfl
  | r :: rs, l, h => by
    unfold unStr at h
    split at h
    · rename_i e; cases e
    · rename_i s r' e
      simp only [List.cons.injEq] at e
      obtain ⟨rfl, rfl⟩ := e
      obtain ⟨m, h1, rfl⟩ := Option.map_eq_some_iff.1 h
      rw [unStr_eq h1]
      simp [strRows]
    · cases h
/-! Rows of four ints. -/
def q4Row (c : Int × Int × Int × Int) : List D := [.v (.int .i64 c.1), .v (.int .i64 c.2.1), .v (.int .i64 c.2.2.1), .v (.int .i64 c.2.2.2)]
def q4Rows (l : List (Int × Int × Int × Int)) : List (List D) := l.map q4Row
theorem q4Rows_len (l : List (Int × Int × Int × Int)) : (q4Rows l).length = l.length := by simp [q4Rows]
theorem q4Rows_get {l : List (Int × Int × Int × Int)} {i : Nat} (h : i < l.length) : (q4Rows l)[i]? = some (q4Row (l.getD i (0, 0, 0, 0))) := by
  simp [q4Rows, List.getD_eq_getElem?_getD, List.getElem?_eq_getElem h]
theorem q4Rows_all (l : List (Int × Int × Int × Int)) : (∀ r ∈ q4Rows l, r.length = 4) = True := by
  simp only [q4Rows, List.mem_map, eq_iff_iff, iff_true]
  rintro r ⟨s, _, rfl⟩; rfl
def unQ4 : List (List D) → Option (List (Int × Int × Int × Int))
  | [] => some []
  | [.v (.int .i64 a), .v (.int .i64 b), .v (.int .i64 c), .v (.int .i64 d)] :: r => (unQ4 r).map ((a, b, c, d) :: ·)
  | _ :: _ => none
theorem unQ4_rows : ∀ l : List (Int × Int × Int × Int), unQ4 (q4Rows l) = some l
  | [] => rfl
  | (a, b, c, d) :: l => by
    have h := unQ4_rows l
    unfold q4Rows at h
    simp [q4Rows, q4Row, unQ4, h]
theorem unQ4_eq : ∀ {rows : List (List D)} {l : List (Int × Int × Int × Int)}, unQ4 rows = some l → rows = q4Rows l
  | [], l, h => by simp only [unQ4, Option.some.injEq] at h; subst h; rfl
  | r :: rs, l, h => by
    unfold unQ4 at h
    split at h
    · rename_i e; cases e
    · rename_i a b c d r' e
      simp only [List.cons.injEq] at e
      obtain ⟨rfl, rfl⟩ := e
      obtain ⟨m, h1, rfl⟩ := Option.map_eq_some_iff.1 h
      rw [unQ4_eq h1]
      simp [q4Rows, q4Row]
    · cases h
end Go.Ev
namespace Go.Proofs.YtpbkdcfjlbdgfaaDoor
open Go Go.Ev
set_option maxRecDepth 100000
variable {G : World → Prop}
/-- A line without its line feed. -/
def bareS (s : List UInt8) : List UInt8 × Bool := if s.getLast? = some 10 then (s.dropLast, true) else (s, false)
def CBare : Contract := pureC fun args => match args with
  | [.d (.v (.string s))] => some (s.size ≤ 1099511627776, .tup [.d (.v (str (bareS s.data.toList).1)), .d (.v (.bool (bareS s.data.toList).2))])
  | _ => none
def hasSuf (s p : List UInt8) : Bool := decide ((p.length : Int) ≤ (s.length : Int)) && decide (s.drop (s.length - p.length) = p)
def CSuf : Contract := pureC fun args => match args with
  | [.d (.v (.string s)), .d (.v (.string p))] => some (s.size ≤ 1099511627776 ∧ p.size ≤ 1099511627776, .d (.v (.bool (hasSuf s.data.toList p.data.toList))))
  | _ => none
theorem s171 : Sound G Tryd.prog 171 CSuf := by
  refine sd171 (T := tabT []) tab_nil (pureC_lawful _) (pure_hX fun args p x K h hp hk => ?_)
  split at h <;> simp only [Option.some.injEq, Prod.mk.injEq, reduceCtorEq] at h
  obtain ⟨rfl, rfl⟩ := h
  refine ⟨Nat.le_of_ble_eq_true rfl, ?_⟩
  rename_i s p
  obtain ⟨s, rfl⟩ := ex_str s
  obtain ⟨p, rfl⟩ := ex_str p
  simp only [sem_str] at hk hp
  simp -dsimp -implicitDefEqProofs only [S171, R171, ↓Ev.xStp_eq, ↓Ev.P, Ev.Q, eq_self, forall_eq_or_imp, implies_true, forall_const, forall_eq, ↓reduceIte, reduceIte, Nat.reduceEqDiff, Nat.reduceAdd, reduceCtorEq, Nat.reduceSub, Int.reduceToNat, Int.reduceLE, Int.reduceLT, Int.reduceNeg, Nat.reduceBEq, Nat.reduceMul, Nat.reduceLeDiff, Nat.reduceMod, UInt8.reduceOfNat, Nat.reduceLT, Int.reduceEq, Int.reduceAdd, Int.reduceSub, Int.reduceMul]
  repeat' (first | with_reducible assumption | refine And.intro ?_ ?_ | intro _)
  all_goals first | omega | exact hk
def CCutS : Contract := pureC fun args => match args with
  | [.d (.v (.string s)), .d (.v (.string p))] => some (s.size ≤ 1099511627776 ∧ p.size ≤ 1099511627776, .tup [.d (.v (str (if hasSuf s.data.toList p.data.toList then s.data.toList.take (s.data.toList.length - p.data.toList.length) else s.data.toList))), .d (.v (.bool (hasSuf s.data.toList p.data.toList)))])
  | _ => none
theorem s143 : Sound G Tryd.prog 143 CCutS := by
  refine sd143 (T := tabT [(171, CSuf)]) (tab_cons s171 tab_nil) (pureC_lawful _) (pure_hX fun args p x K h hp hk => ?_)
  split at h <;> simp only [Option.some.injEq, Prod.mk.injEq, reduceCtorEq] at h
  obtain ⟨rfl, rfl⟩ := h
  refine ⟨Nat.le_of_ble_eq_true rfl, ?_⟩
  rename_i s p
  obtain ⟨s, rfl⟩ := ex_str s
  obtain ⟨p, rfl⟩ := ex_str p
  simp only [sem_str] at hk hp
  simp -dsimp -implicitDefEqProofs only [S143, R143, CSuf, ↓Ev.xStp_eq, ↓Ev.P, Ev.Q, eq_self, forall_eq_or_imp, implies_true, forall_const, forall_eq, ↓reduceIte, reduceIte, Nat.reduceEqDiff, Nat.reduceAdd, reduceCtorEq, Nat.reduceSub, Int.reduceToNat, Int.reduceLE, Int.reduceLT, Int.reduceNeg, Nat.reduceBEq, Nat.reduceMul, Nat.reduceLeDiff, Nat.reduceMod, UInt8.reduceOfNat, Nat.reduceLT, Int.reduceEq, Int.reduceAdd, Int.reduceSub, Int.reduceMul]
  refine ⟨hp, fun h => ?_, fun h => ?_⟩
  · rw [h] at hk; exact hk
  · have : p.length ≤ s.length := by simp only [hasSuf, Bool.and_eq_true, decide_eq_true_eq] at h; omega
    rw [h] at hk
    repeat' (first | with_reducible assumption | refine And.intro ?_ ?_ | intro _)
    all_goals first | omega | exact hk
theorem s107 : Sound G Tryd.prog 107 CCutS := by
  refine sd107 (T := tabT [(143, CCutS)]) (tab_cons s143 tab_nil) (pureC_lawful _) (pure_hX fun args p x K h hp hk => ?_)
  split at h <;> simp only [Option.some.injEq, Prod.mk.injEq, reduceCtorEq] at h
  obtain ⟨rfl, rfl⟩ := h
  refine ⟨Nat.le_of_ble_eq_true rfl, ?_⟩
  simp -dsimp -implicitDefEqProofs only [S107, R107, CCutS, ↓Ev.xStp_eq, ↓Ev.P, Ev.Q, eq_self, forall_eq_or_imp, implies_true, forall_const, forall_eq, ↓reduceIte, reduceIte, Nat.reduceEqDiff, Nat.reduceAdd, reduceCtorEq, Nat.reduceSub, Int.reduceToNat, Int.reduceLE, Int.reduceLT, Int.reduceNeg, Nat.reduceBEq, Nat.reduceMul, Nat.reduceLeDiff, Nat.reduceMod, UInt8.reduceOfNat, Nat.reduceLT, Int.reduceEq, Int.reduceAdd, Int.reduceSub, Int.reduceMul]
  exact ⟨hp, hk⟩
theorem suf10 (s : List UInt8) : hasSuf s [10] = (bareS s).2 ∧ (if hasSuf s [10] then s.take (s.length - 1) else s) = (bareS s).1 := by
  rcases List.eq_nil_or_concat s with rfl | ⟨m, c, rfl⟩
  · exact ⟨rfl, rfl⟩
  · rw [List.concat_eq_append]
    have e : hasSuf (m ++ [c]) [10] = decide (c = 10) := by
      unfold hasSuf
      have h1 : decide ((([10] : List UInt8).length : Int) ≤ ((m ++ [c]).length : Int)) = true := by simp; omega
      have h2 : (m ++ [c]).drop ((m ++ [c]).length - ([10] : List UInt8).length) = [c] := by simp
      rw [h1, h2]; simp
    rw [e]
    unfold bareS
    by_cases h : c = 10
    · subst h; simp
    · simp [h]
theorem s58 : Sound G Tryd.prog 58 CBare := by
  refine sd58 (T := tabT [(107, CCutS)]) (tab_cons s107 tab_nil) (pureC_lawful _) (pure_hX fun args p x K h hp hk => ?_)
  split at h <;> simp only [Option.some.injEq, Prod.mk.injEq, reduceCtorEq] at h
  obtain ⟨rfl, rfl⟩ := h
  refine ⟨Nat.le_of_ble_eq_true rfl, ?_⟩
  rename_i s
  obtain ⟨s, rfl⟩ := ex_str s
  simp only [sem_str] at hk hp
  obtain ⟨h1, h2⟩ := suf10 s
  rw [← h1, ← h2] at hk
  simp -dsimp -implicitDefEqProofs only [S58, R58, CCutS, ↓Ev.xStp_eq, ↓Ev.P, Ev.Q, eq_self, forall_eq_or_imp, implies_true, forall_const, forall_eq, ↓reduceIte, reduceIte, Nat.reduceEqDiff, Nat.reduceAdd, reduceCtorEq, Nat.reduceSub, Int.reduceToNat, Int.reduceLE, Int.reduceLT, Int.reduceNeg, Nat.reduceBEq, Nat.reduceMul, Nat.reduceLeDiff, Nat.reduceMod, UInt8.reduceOfNat, Nat.reduceLT, Int.reduceEq, Int.reduceAdd, Int.reduceSub, Int.reduceMul]
  exact ⟨hp, hk⟩
theorem bare_get (s : List UInt8) : (bareS s).2 = (decide (0 < s.length) && decide ((s.getD (s.length - 1) 0) = 10)) ∧ (bareS s).1 = if (bareS s).2 then s.take (s.length - 1) else s := by
  rcases List.eq_nil_or_concat s with rfl | ⟨m, c, rfl⟩
  · exact ⟨rfl, rfl⟩
  · rw [List.concat_eq_append]
    unfold bareS
    by_cases h : c = 10
    · subst h; simp
    · simp [h]
theorem s61 : Sound G Tryd.prog 61 CBare := by
  refine sd61 (T := tabT []) tab_nil (pureC_lawful _) (pure_hX fun args p x K h hp hk => ?_)
  split at h <;> simp only [Option.some.injEq, Prod.mk.injEq, reduceCtorEq] at h
  obtain ⟨rfl, rfl⟩ := h
  refine ⟨Nat.le_of_ble_eq_true rfl, ?_⟩
  rename_i s
  obtain ⟨s, rfl⟩ := ex_str s
  simp only [sem_str] at hk hp
  obtain ⟨h1, h2⟩ := bare_get s
  simp -dsimp -implicitDefEqProofs only [S61, R61, ↓Ev.xStp_eq, ↓Ev.P, Ev.Q, eq_self, forall_eq_or_imp, implies_true, forall_const, forall_eq, ↓reduceIte, reduceIte, Nat.reduceEqDiff, Nat.reduceAdd, reduceCtorEq, Nat.reduceSub, Int.reduceToNat, Int.reduceLE, Int.reduceLT, Int.reduceNeg, Nat.reduceBEq, Nat.reduceMul, Nat.reduceLeDiff, Nat.reduceMod, UInt8.reduceOfNat, Nat.reduceLT, Int.reduceEq, Int.reduceAdd, Int.reduceSub, Int.reduceMul]
  repeat' (first | with_reducible assumption | refine And.intro ?_ ?_ | intro _)
  all_goals try omega
  · rename_i h
    have : (bareS s).2 = false := by
      rw [h1, Bool.and_eq_false_iff]
      rcases h with h | h
      · left; rw [decide_eq_false_iff_not]; omega
      · right; rw [decide_eq_false_iff_not]; exact fun e => h (by rw [e]; rfl)
    rw [this, if_neg (by decide)] at h2
    rw [h2, this] at hk; exact hk
  · rename_i h
    have : (bareS s).2 = true := by
      rw [h1, Bool.and_eq_true]
      exact ⟨by rw [decide_eq_true_eq]; omega, by rw [decide_eq_true_eq]; exact UInt8.toNat_inj.1 (by have := h.2; show _ = 10; omega)⟩
    rw [this, if_pos rfl] at h2
    rw [h2, this] at hk; exact hk
end Go.Proofs.YtpbkdcfjlbdgfaaDoor
/- (*strings.Builder).copyCheck: its first cell holds its own address. -/
set_option linter.unusedVariables false
set_option linter.unusedSimpArgs false
namespace Go.Proofs.YtpbkdcfjlbdgfaaDoor
open Go Go.Ev Go.RowKit
/-- The types that are Builders: the library's, and structs that are one. -/
def bldT (t : Nat) : Bool := t == 70
  || t == 72
  || t == 99
theorem szB : (Tryd.prog.info? 70).map (·.size) = some 2 := by kernel_rfl
theorem ubB : Tryd.prog.underlying 67 = some (.pointer 70) := by kernel_rfl
theorem ubU : Tryd.prog.underlying 149 = some .unsafePointer := by kernel_rfl
theorem lies0 : liesAt Tryd.prog Tryd.prog.depth 70 (2 / Tryd.prog.cellsOf 70) 0 70 1 = true := by kernel_rfl
theorem lies1 : liesAt Tryd.prog Tryd.prog.depth 72 (2 / Tryd.prog.cellsOf 72) 0 70 1 = true := by kernel_rfl
theorem lies3 : liesAt Tryd.prog Tryd.prog.depth 99 (2 / Tryd.prog.cellsOf 99) 0 70 1 = true := by kernel_rfl
set_option maxRecDepth 100000 in
theorem lies (t : Nat) (h : bldT t = true) : liesAt Tryd.prog Tryd.prog.depth t (2 / Tryd.prog.cellsOf t) 0 70 1 = true := by
  by_cases e0 : t = 70
  · subst e0; exact lies0
  by_cases e1 : t = 72
  · subst e1; exact lies1
  by_cases e3 : t = 99
  · subst e3; exact lies3
  exfalso; simp only [bldT, Bool.or_eq_true, beq_iff_eq] at h; omega
set_option maxHeartbeats 1000000 in
set_option maxRecDepth 100000 in
theorem cc_used (b : Nat) (w : World) (h0 : w.cell? ⟨b, 0, none⟩ = some (.pointer (some ⟨b, 0, none⟩))) :
    Calls Tryd.prog 94 #[.pointer (some ⟨b, 0, none⟩)] w fun e w' => e = .returned (.tuple #[]) ∧ w' = w := by
  obtain ⟨j, hj, _⟩ := Option.map_eq_some_iff.1 szB
  go_enter Tryd.func94, Tryd.ntmps94
  go_wp2
  rw [Lib.run_neq_ptr_same w _ ubB hj]
  go_wp2
  go_end0
  exact ⟨rfl, rfl⟩
set_option maxHeartbeats 1000000 in
set_option maxRecDepth 100000 in
theorem cc_fresh (t b : Nat) (ht : bldT t = true) (w : World) (h0 : w.cell? ⟨b, 0, none⟩ = some (.pointer none)) (hsh : w.shape? b = some (t, 2)) (hfz : w.frozen? ⟨b, 0, none⟩ = false) :
    Calls Tryd.prog 94 #[.pointer (some ⟨b, 0, none⟩)] w fun e w' => e = .returned (.tuple #[]) ∧ w' = w.setCell ⟨b, 0, none⟩ (.pointer (some ⟨b, 0, none⟩)) := by
  obtain ⟨j, hj, hjs⟩ := Option.map_eq_some_iff.1 szB
  go_enter Tryd.func94, Tryd.ntmps94
  go_wp2
  rw [Lib.run_to_unsafe w ⟨b, 0, none⟩ ubB ubU hj (by rw [hjs]; decide) hsh (Nat.zero_lt_succ 1)]
  simp only [Result.andThen]
  rw [Oper.upon_value]
  go_wp2
  rw [run_callFunc_extern Tryd.func136 (by kernel_rfl) (by kernel_rfl) (by kernel_rfl) (e := Extern.AbiNoEscape.same) (by kernel_rfl)]
  rw [Lib.run_noEscape]
  simp only [Result.andThen]
  rw [Oper.upon_value]
  go_wp2
  rw [Lib.run_from_unsafe w ⟨b, 0, none⟩ ubU ubB hj hsh (lies t ht)]
  simp only [Result.andThen]
  rw [Oper.upon_value]
  go_wp2
  go_end0
  exact ⟨rfl, rfl⟩
theorem cc_at {t u b : Nat} {p v : Value} {bs : List UInt8} (ht : bldT t = true) {w : World} (h : BldAt w t u b p v bs) :
    Calls Tryd.prog 94 #[.pointer (some ⟨b, 0, none⟩)] w fun e w' => e = .returned (.tuple #[]) ∧ BldTo w w' t u b v bs ∧ BldAt w' t u b (.pointer (some ⟨b, 0, none⟩)) v bs := by
  have hc : w.cell? ⟨b, 0, none⟩ = some p := by rw [Lib.cell_of_heap h.blk]; rfl
  rcases h.ptr with rfl | rfl
  · have hu := h.used rfl
    refine (cc_fresh t b ht w hc (by simp [World.shape?, h.blk]) (Lib.frozen_of_heap h.blk 0)).mono ?_
    rintro e w' ⟨rfl, rfl⟩
    refine ⟨rfl, hu, ?_⟩
    have hlt : b < w.heap.size := (Array.getElem?_eq_some_iff.1 h.blk).1
    obtain ⟨p', v', k, _⟩ := hu.is
    have hb : (w.setCell ⟨b, 0, none⟩ (.pointer (some ⟨b, 0, none⟩))).heap[b]? = some (.cells #[.pointer (some ⟨b, 0, none⟩), v] t (0, 0)) := by
      simp [World.setCell, Array.getElem?_modify, h.blk]
    have := k.blk
    rw [hb] at this
    simp only [Option.some.injEq, Obj.cells.injEq] at this
    obtain ⟨h1, _⟩ := this
    have h2 : v' = v := by simpa using (congrArg (fun a : Array Value => a.getD 1 undef) h1).symm
    subst h2
    exact ⟨hb, .inr rfl, k.own, k.ne⟩
  · refine (cc_used b w hc).mono ?_
    rintro e w' ⟨rfl, rfl⟩
    exact ⟨rfl, ⟨rfl, rfl, rfl, Nat.le_refl _, fun _ _ _ _ => rfl, ⟨_, v, h, .inl rfl⟩⟩, h⟩
end Go.Proofs.YtpbkdcfjlbdgfaaDoor
/- (*strings.Builder).WriteString. -/
set_option linter.unusedVariables false
set_option linter.unusedSimpArgs false
namespace Go.Proofs.YtpbkdcfjlbdgfaaDoor
open Go Go.Ev Go.RowKit
theorem ubyte2 : Tryd.prog.underlying 68 = some (.slice 5) := by kernel_rfl
theorem ustr2 : Tryd.prog.underlying 9 = some .string := by kernel_rfl
theorem infB2 : (Tryd.prog.info? 5).map (fun i => (i.zero, i.size, i.bytes)) = some (some (.int .u8 0), 1, 1) := by kernel_rfl
set_option maxHeartbeats 2000000 in
set_option maxRecDepth 100000 in
theorem ws_at {t b : Nat} {p v : Value} {bs : List UInt8} (ht : bldT t = true) {w : World} (h : BldAt w t 5 b p v bs) (s : ByteArray) (hlen : bs.length + s.size ≤ 140737488355328) :
    Calls Tryd.prog 43 #[.pointer (some ⟨b, 0, none⟩), .string s] w fun e w' => e = .returned (.tuple #[.int .i64 s.size, .nilIface]) ∧ BldTo w w' t 5 b v (bs ++ s.data.toList) := by
  obtain ⟨i0, hi, hz0, hz1, hz2⟩ := info_parts infB2
  go_enter Tryd.func43, Tryd.ntmps43
  go_wp2_with (go_at_call 94; refine (cc_at ht h).mono ?_)
  rintro e w1 ⟨rfl, hb1, h1⟩
  have c0 : w1.cell? ⟨b, 0, none⟩ = some (.pointer (some ⟨b, 0, none⟩)) := by rw [Lib.cell_of_heap h1.blk]; rfl
  have c1 : w1.cell? ⟨b, 1, none⟩ = some v := by rw [Lib.cell_of_heap h1.blk]; rfl
  go_wp2_with (at_builtin; refine wpList_app_str (t := 68) (u := 9) rfl rfl ubyte2 ustr2 hi hz0 hz1 hz2 rfl h1.own (s := s) rfl hlen ?_)
  intro v' w2 hown' hgrow hv
  have hlt : b < w1.heap.size := (Array.getElem?_eq_some_iff.1 h1.blk).1
  have hb2 : w2.heap[b]? = some (.cells #[.pointer (some ⟨b, 0, none⟩), v] t (0, 0)) := by
    rw [hgrow.block b hlt (fun e => h1.ne e.symm)]
    exact h1.blk
  have d0 : w2.cell? ⟨b, 0, none⟩ = some (.pointer (some ⟨b, 0, none⟩)) := by rw [Lib.cell_of_heap hb2]; rfl
  have d1 : w2.cell? ⟨b, 1, none⟩ = some v := by rw [Lib.cell_of_heap hb2]; rfl
  have f1 : w2.frozen? ⟨b, 1, none⟩ = false := Lib.frozen_of_heap hb2 1
  have hfin := BldAt.wrote hb1 h1 (bs' := bs ++ s.data.toList) (by rw [byteVals_str]; simpa using hown') hgrow hv
  obtain ⟨ao, n', cap, rfl⟩ : ∃ ao n' cap, v' = .slice ao n' cap := by
    rcases hown'.2 with ⟨hv, _⟩ | ⟨g, cap, cur, hv, _⟩
    · exact ⟨_, _, _, hv⟩
    · exact ⟨_, _, _, hv⟩
  go_wp2
  go_ret2
  exact ⟨rfl, hfin⟩
/-- A text is written. -/
def gWS : List SV → Nat → Nat → List UInt8 → Option (Prop × SV × List UInt8)
  | [.d (.v (.string s))], t, u, bs => if bldT t = true ∧ u = 5 then some (bs.length + s.size ≤ 140737488355328, .tup [.d (.v (.int .i64 s.size)), .d (.v .nilIface)], bs ++ s.data.toList) else none
  | _, _, _, _ => none
theorem sWS {G : World → Prop} : Sound G Tryd.prog 43 (bldC gWS) := by
  refine bld_sound ⟨Tryd.f43, by kernel_rfl, by kernel_rfl, by kernel_rfl⟩ ?_
  intro args t u bs p x bs' hg hp w b q v hb c m vs hc ha
  unfold gWS at hg
  split at hg
  · obtain ⟨⟨h1, rfl⟩, hg2⟩ := Option.ite_none_right_eq_some.1 hg
    simp only [Option.some.injEq, Prod.mk.injEq] at hg2
    obtain ⟨rfl, rfl, rfl⟩ := hg2
    match vs, ha with
    | [y], ha =>
      simp only [CnL, and_true] at ha
      rw [of_v ha]
      exact ⟨_, fun m n c => by simp only [Cn]; exact ⟨_, rfl, by simp only [CnL, Cn, and_true]; exact ⟨⟨rfl, rfl⟩, ⟨rfl, rfl⟩⟩⟩, ws_at h1 hb _ hp⟩
    | [], ha => simp [CnL] at ha
    | _ :: _ :: _, ha => simp [CnL] at ha
  · simp only [reduceCtorEq] at hg
end Go.Proofs.YtpbkdcfjlbdgfaaDoor
set_option linter.unusedVariables false
set_option linter.unusedSimpArgs false
namespace Go.Proofs.YtpbkdcfjlbdgfaaDoor
open Go Go.Ev
set_option maxRecDepth 100000
variable {G : World → Prop}
def cntB (n : Int) : Bool := decide (0 ≤ n) && decide (n ≤ 2147483647)
def CCount : Contract := pureC fun args => match args with
  | [.d (.v (.int .i64 n))] => some (True, .d (.v (.bool (cntB n))))
  | _ => none
theorem s93 : Sound G Tryd.prog 93 CCount := by
  refine sd93 (T := tabT []) tab_nil (pureC_lawful _) (pure_hX fun args p x K h hp hk => ?_)
  split at h <;> simp only [Option.some.injEq, Prod.mk.injEq, reduceCtorEq] at h
  obtain ⟨rfl, rfl⟩ := h
  refine ⟨Nat.le_of_ble_eq_true rfl, ?_⟩
  simp -dsimp -implicitDefEqProofs only [S93, R93, ↓Ev.xStp_eq, ↓Ev.P, Ev.Q, eq_self, forall_eq_or_imp, implies_true, forall_const, forall_eq, ↓reduceIte, reduceIte, Nat.reduceEqDiff, Nat.reduceAdd, reduceCtorEq, Nat.reduceSub, Int.reduceToNat, Int.reduceLE, Int.reduceLT, Int.reduceNeg, Nat.reduceBEq, Nat.reduceMul, Nat.reduceLeDiff, Nat.reduceMod, UInt8.reduceOfNat, Nat.reduceLT, Int.reduceEq, Int.reduceAdd, Int.reduceSub, Int.reduceMul]
  exact hk
theorem s95 : Sound G Tryd.prog 95 CCount := by
  refine sd95 (T := tabT []) tab_nil (pureC_lawful _) (pure_hX fun args p x K h hp hk => ?_)
  split at h <;> simp only [Option.some.injEq, Prod.mk.injEq, reduceCtorEq] at h
  obtain ⟨rfl, rfl⟩ := h
  refine ⟨Nat.le_of_ble_eq_true rfl, ?_⟩
  simp -dsimp -implicitDefEqProofs only [S95, R95, ↓Ev.xStp_eq, ↓Ev.P, Ev.Q, eq_self, forall_eq_or_imp, implies_true, forall_const, forall_eq, ↓reduceIte, reduceIte, Nat.reduceEqDiff, Nat.reduceAdd, reduceCtorEq, Nat.reduceSub, Int.reduceToNat, Int.reduceLE, Int.reduceLT, Int.reduceNeg, Nat.reduceBEq, Nat.reduceMul, Nat.reduceLeDiff, Nat.reduceMod, UInt8.reduceOfNat, Nat.reduceLT, Int.reduceEq, Int.reduceAdd, Int.reduceSub, Int.reduceMul]
  exact hk
/-- A range. -/
def spanT (at_ n : Int) : List UInt8 := if n = 1 then Lib.itoa (at_ + 1) else Lib.itoa (at_ + 1) ++ [44] ++ Lib.itoa (at_ + n)
def CSpan : Contract := pureC fun args => match args with
  | [.d (.v (.int .i64 a)), .d (.v (.int .i64 n))] => some ((0 ≤ a ∧ a ≤ 4294967296) ∧ (0 ≤ n ∧ n ≤ 4294967296), .d (.v (str (spanT a n))))
  | _ => none
theorem span_len {a n : Int} (h : (0 ≤ a ∧ a ≤ 4294967296) ∧ (0 ≤ n ∧ n ≤ 4294967296)) : (spanT a n).length ≤ 43 := by
  have h1 := itoa_len (n := a + 1) (by omega)
  have h2 := itoa_len (n := a + n) (by omega)
  unfold spanT
  split
  · omega
  · simp only [List.length_append, List.length_cons, List.length_nil]; omega
theorem s42 (hG : ∀ w, G w → Pow10 w) : Sound G Tryd.prog 42 CSpan := by
  refine sd42 (T := tabT [(32, CItoa)]) (tab_cons (s32 hG) tab_nil) (pureC_lawful _) (pure_hX fun args p x K h hp hk => ?_)
  split at h <;> simp only [Option.some.injEq, Prod.mk.injEq, reduceCtorEq] at h
  obtain ⟨rfl, rfl⟩ := h
  refine ⟨Nat.le_of_ble_eq_true rfl, ?_⟩
  rename_i a n
  have h1 := itoa_len (n := a + 1) (by omega)
  have h2 := itoa_len (n := a + n) (by omega)
  simp -dsimp -implicitDefEqProofs only [S42, R42, CItoa, List.length_append, ↓Ev.xStp_eq, ↓Ev.P, Ev.Q, eq_self, forall_eq_or_imp, implies_true, forall_const, forall_eq, ↓reduceIte, reduceIte, Nat.reduceEqDiff, Nat.reduceAdd, reduceCtorEq, Nat.reduceSub, Int.reduceToNat, Int.reduceLE, Int.reduceLT, Int.reduceNeg, Nat.reduceBEq, Nat.reduceMul, Nat.reduceLeDiff, Nat.reduceMod, UInt8.reduceOfNat, Nat.reduceLT, Int.reduceEq, Int.reduceAdd, Int.reduceSub, Int.reduceMul]
  by_cases hn : n = 1
  · rw [spanT, if_pos hn] at hk
    repeat' (first | with_reducible assumption | refine And.intro ?_ ?_ | intro _)
    all_goals first | omega | exact hk
  · rw [spanT, if_neg hn] at hk
    repeat' (first | with_reducible assumption | refine And.intro ?_ ?_ | intro _)
    all_goals first | omega | exact hk
theorem s60 : Sound G Tryd.prog 60 CSpan := by
  refine sd60 (T := tabT [(33, CItoa)]) (tab_cons s33 tab_nil) (pureC_lawful _) (pure_hX fun args p x K h hp hk => ?_)
  split at h <;> simp only [Option.some.injEq, Prod.mk.injEq, reduceCtorEq] at h
  obtain ⟨rfl, rfl⟩ := h
  refine ⟨Nat.le_of_ble_eq_true rfl, ?_⟩
  rename_i a n
  have h1 := itoa_len (n := a + 1) (by omega)
  have h2 := itoa_len (n := a + n) (by omega)
  simp -dsimp -implicitDefEqProofs only [S60, R60, CItoa, List.length_append, ↓Ev.xStp_eq, ↓Ev.P, Ev.Q, eq_self, forall_eq_or_imp, implies_true, forall_const, forall_eq, ↓reduceIte, reduceIte, Nat.reduceEqDiff, Nat.reduceAdd, reduceCtorEq, Nat.reduceSub, Int.reduceToNat, Int.reduceLE, Int.reduceLT, Int.reduceNeg, Nat.reduceBEq, Nat.reduceMul, Nat.reduceLeDiff, Nat.reduceMod, UInt8.reduceOfNat, Nat.reduceLT, Int.reduceEq, Int.reduceAdd, Int.reduceSub, Int.reduceMul]
  by_cases hn : n = 1
  · rw [spanT, if_pos hn] at hk
    repeat' (first | with_reducible assumption | refine And.intro ?_ ?_ | intro _)
    all_goals first | omega | exact hk
  · rw [spanT, if_neg hn] at hk
    repeat' (first | with_reducible assumption | refine And.intro ?_ ?_ | intro _)
    all_goals first | omega | exact hk
/-- The line that says that a line feed is missing. -/
abbrev markT : List UInt8 := [92, 32, 78, 111, 32, 110, 101, 119, 108, 105, 110, 101, 32, 97, 116, 32, 101, 110, 100, 32, 111, 102, 32, 102, 105, 108, 101, 10]
def lineT (ahead s : List UInt8) : List UInt8 := if (bareS s).2 then ahead ++ s else ahead ++ s ++ [10] ++ markT
def CLine : Contract := pureC fun args => match args with
  | [.d (.v (.string a)), .d (.v (.string s))] => some (a.size ≤ 1099511627776 ∧ s.size ≤ 1099511627776, .d (.v (str (lineT a.data.toList s.data.toList))))
  | _ => none
theorem s68 : Sound G Tryd.prog 68 CLine := by
  refine sd68 (T := tabT [(61, CBare)]) (tab_cons s61 tab_nil) (pureC_lawful _) (pure_hX fun args p x K h hp hk => ?_)
  split at h <;> simp only [Option.some.injEq, Prod.mk.injEq, reduceCtorEq] at h
  obtain ⟨rfl, rfl⟩ := h
  refine ⟨Nat.le_of_ble_eq_true rfl, ?_⟩
  rename_i a s
  obtain ⟨a, rfl⟩ := ex_str a
  obtain ⟨s, rfl⟩ := ex_str s
  simp only [sem_str] at hk hp
  simp -dsimp -implicitDefEqProofs only [S68, R68, CBare, List.length_append, ↓Ev.xStp_eq, ↓Ev.P, Ev.Q, eq_self, forall_eq_or_imp, implies_true, forall_const, forall_eq, ↓reduceIte, reduceIte, Nat.reduceEqDiff, Nat.reduceAdd, reduceCtorEq, Nat.reduceSub, Int.reduceToNat, Int.reduceLE, Int.reduceLT, Int.reduceNeg, Nat.reduceBEq, Nat.reduceMul, Nat.reduceLeDiff, Nat.reduceMod, UInt8.reduceOfNat, Nat.reduceLT, Int.reduceEq, Int.reduceAdd, Int.reduceSub, Int.reduceMul]
  cases hb : (bareS s).2
  · rw [lineT, hb, if_neg (by decide)] at hk
    repeat' (first | with_reducible assumption | refine And.intro ?_ ?_ | intro _)
    all_goals first | omega | exact hk | contradiction
  · rw [lineT, hb, if_pos rfl] at hk
    repeat' (first | with_reducible assumption | refine And.intro ?_ ?_ | intro _)
    all_goals first | omega | exact hk | contradiction
end Go.Proofs.YtpbkdcfjlbdgfaaDoor
set_option linter.unusedVariables false
set_option linter.unusedSimpArgs false
namespace Go.Proofs.YtpbkdcfjlbdgfaaDoor
open Go Go.Ev
set_option maxRecDepth 100000
variable {G : World → Prop}
abbrev Q4 := Int × Int × Int × Int
/-- What is wrong with one change by itself. -/
def badC (c : Q4) : Prop := ((((cntB c.1 = false ∨ cntB c.2.1 = false) ∨ cntB c.2.2.1 = false) ∨ cntB c.2.2.2 = false) ∨ (c.2.1 = 0 ∧ c.2.2.2 = 0))
def outC (f : Bool) (a b : Int) (c : Q4) : Prop := (c.1 - a < 0 ∨ (f = false ∧ c.1 - a = 0)) ∨ ¬ c.1 - a = c.2.2.1 - b
instance (c : Q4) : Decidable (badC c) := by unfold badC; infer_instance
instance (f : Bool) (a b : Int) (c : Q4) : Decidable (outC f a b c) := by unfold outC; infer_instance
def chkL : Bool → Int → Int → List Q4 → Option (Int × Int)
  | _, a, b, [] => some (a, b)
  | f, a, b, c :: r => if badC c then none else if outC f a b c then none else chkL false (c.1 + c.2.1) (c.2.2.1 + c.2.2.2) r
def chk (l : List Q4) (n m : Int) : Int := match chkL true 0 0 l with
  | none => 50
  | some (a, b) => if (n < a ∨ m < b) ∨ ¬ n - a = m - b then 50 else 0
theorem chk_none {l : List Q4} {n m : Int} (h : chkL true 0 0 l = none) : chk l n m = 50 := by rw [chk, h]
theorem chk_some {l : List Q4} {n m a b : Int} (h : chkL true 0 0 l = some (a, b)) : chk l n m = if (n < a ∨ m < b) ∨ ¬ n - a = m - b then 50 else 0 := by rw [chk, h]
theorem q4_drop {l : List Q4} {i : Nat} (h : i < l.length) : l.drop i = l.getD i (0, 0, 0, 0) :: l.drop (i + 1) := by
  rw [List.drop_eq_getElem_cons h]; simp [List.getD_eq_getElem?_getD, List.getElem?_eq_getElem h]
theorem cnt_in {n : Int} (h : ¬ cntB n = false) : 0 ≤ n ∧ n ≤ 2147483647 := by simpa [cntB] using h
theorem okC {c : Q4} (h : ¬ badC c) : (0 ≤ c.1 ∧ c.1 ≤ 2147483647) ∧ (0 ≤ c.2.1 ∧ c.2.1 ≤ 2147483647) ∧ (0 ≤ c.2.2.1 ∧ c.2.2.1 ≤ 2147483647) ∧ (0 ≤ c.2.2.2 ∧ c.2.2.2 ≤ 2147483647) ∧ ¬ (c.2.1 = 0 ∧ c.2.2.2 = 0) :=
  ⟨cnt_in fun e => h (.inl (.inl (.inl (.inl e)))), cnt_in fun e => h (.inl (.inl (.inl (.inr e)))), cnt_in fun e => h (.inl (.inl (.inr e))), cnt_in fun e => h (.inl (.inr e)), fun e => h (.inr e)⟩
theorem cnt4 {A AN B BN : Int} {Z : Prop} (h : (((cntB A = true ∧ cntB AN = true) ∧ cntB B = true) ∧ cntB BN = true) ∧ Z) : (0 ≤ A ∧ A ≤ 2147483647) ∧ (0 ≤ AN ∧ AN ≤ 2147483647) ∧ (0 ≤ B ∧ B ≤ 2147483647) ∧ (0 ≤ BN ∧ BN ≤ 2147483647) := by
  have k : ∀ n, cntB n = true → 0 ≤ n ∧ n ≤ 2147483647 := fun n h => by simpa [cntB] using h
  exact ⟨k _ h.1.1.1.1, k _ h.1.1.1.2, k _ h.1.1.2, k _ h.1.2⟩
theorem good4 {A AN B BN : Int} (h : (((cntB A = true ∧ cntB AN = true) ∧ cntB B = true) ∧ cntB BN = true) ∧ (¬ AN = 0 ∨ ¬ BN = 0)) : ¬ badC (A, AN, B, BN) := by
  rintro ((((e | e) | e) | e) | e)
  · rw [h.1.1.1.1] at e; cases e
  · rw [h.1.1.1.2] at e; cases e
  · rw [h.1.1.2] at e; cases e
  · rw [h.1.2] at e; cases e
  · exact h.2.elim (fun k => k e.1) fun k => k e.2
theorem chkL_bad {f : Bool} {a b : Int} {c : Q4} {r : List Q4} (h : badC c) : chkL f a b (c :: r) = none := by rw [chkL, if_pos h]
theorem chkL_out {f : Bool} {a b : Int} {c : Q4} {r : List Q4} (h : ¬ badC c) (h2 : outC f a b c) : chkL f a b (c :: r) = none := by rw [chkL, if_neg h, if_pos h2]
theorem chkL_in {f : Bool} {a b : Int} {c : Q4} {r : List Q4} (h : ¬ badC c) (h2 : ¬ outC f a b c) : chkL f a b (c :: r) = chkL false (c.1 + c.2.1) (c.2.2.1 + c.2.2.2) r := by rw [chkL, if_neg h, if_neg h2]
def CCheck : Contract := pureC fun args => match args with
  | [.d (.sl rows), .d (.v (.int .i64 n)), .d (.v (.int .i64 m))] => (unQ4 rows).map fun l => (l.length ≤ 1099511627776 ∧ (0 ≤ n ∧ n ≤ 1099511627776) ∧ (0 ≤ m ∧ m ≤ 1099511627776), .d (.v (.int .i64 (chk l n m))))
  | _ => none
theorem s41 : Sound G Tryd.prog 41 CCheck := by
  refine sd41 (T := tabT [(93, CCount)]) (tab_cons s93 tab_nil) (pureC_lawful _) (pure_hX fun args p x K h hp hk => ?_)
  split at h <;> simp only [Option.map_eq_some_iff, Prod.mk.injEq, reduceCtorEq] at h
  obtain ⟨l, hl, rfl, rfl⟩ := h
  rw [unQ4_eq hl] at *
  refine ⟨Nat.le_of_ble_eq_true rfl, ?_⟩
  rename_i n m
  obtain ⟨hl1, hn, hm⟩ := hp
  simp -dsimp -implicitDefEqProofs only [S41, R41, q4Rows_len, ↓Ev.xStp_eq, ↓Ev.P, Ev.Q, eq_self, forall_eq_or_imp, implies_true, forall_const, forall_eq, ↓reduceIte, reduceIte, Nat.reduceEqDiff, Nat.reduceAdd, reduceCtorEq, Nat.reduceSub, Int.reduceToNat, Int.reduceLE, Int.reduceLT, Int.reduceNeg, Nat.reduceBEq, Nat.reduceMul, Nat.reduceLeDiff, Nat.reduceMod, UInt8.reduceOfNat, Nat.reduceLT, Int.reduceEq, Int.reduceAdd, Int.reduceSub, Int.reduceMul]
  refine xLoop_intro (fun k st => ∃ (i : Nat) (a b : Int), i ≤ l.length ∧ k = l.length - i ∧ chkL (decide (i = 0)) a b (l.drop i) = chkL true 0 0 l ∧ (0 ≤ a ∧ a ≤ 4294967294) ∧ (0 ≤ b ∧ b ≤ 4294967294) ∧
      st = ⟨[(1, .d (.v (.int .i64 n))), (2, .d (.v (.int .i64 m))), (7, .d (.v (.int .i64 a))), (8, .d (.v (.int .i64 b))), (12, .d (.sl (q4Rows l))), (13, .d (.v (.int .i64 l.length))), (14, .d (.v (.int .i64 i)))], 0, []⟩) l.length [] ?_ ?_ ?_
  · simp -dsimp -implicitDefEqProofs only [↓Ev.xStp_eq, ↓Ev.P, Ev.Q, eq_self, forall_eq_or_imp, implies_true, forall_const, forall_eq, ↓reduceIte, reduceIte, Nat.reduceEqDiff, Nat.reduceAdd, reduceCtorEq, Nat.reduceSub, Int.reduceToNat, Int.reduceLE, Int.reduceLT, Int.reduceNeg, Nat.reduceBEq, Nat.reduceMul, Nat.reduceLeDiff, Nat.reduceMod, UInt8.reduceOfNat, Nat.reduceLT, Int.reduceEq, Int.reduceAdd, Int.reduceSub, Int.reduceMul]
  · simp -dsimp -implicitDefEqProofs only [↓Ev.xStp_eq, ↓Ev.P, Ev.Q, eq_self, forall_eq_or_imp, implies_true, forall_const, forall_eq, ↓reduceIte, reduceIte, Nat.reduceEqDiff, Nat.reduceAdd, reduceCtorEq, Nat.reduceSub, Int.reduceToNat, Int.reduceLE, Int.reduceLT, Int.reduceNeg, Nat.reduceBEq, Nat.reduceMul, Nat.reduceLeDiff, Nat.reduceMod, UInt8.reduceOfNat, Nat.reduceLT, Int.reduceEq, Int.reduceAdd, Int.reduceSub, Int.reduceMul]
    exact ⟨0, 0, 0, by omega, by omega, rfl, by omega, by omega, rfl⟩
  · rintro k st ⟨i, a, b, hi, hk2, hc, ha, hb, rfl⟩
    by_cases hil : i < l.length
    · have hg := q4Rows_get hil
      have hd := q4_drop hil
      generalize l.getD i (0, 0, 0, 0) = c at hg hd
      obtain ⟨A, AN, B, BN⟩ := c
      have hi3 : (i : Int) < l.length := by omega
      simp -dsimp -implicitDefEqProofs only [hi3, ↓Ev.P, Ev.Q, eq_self, forall_eq_or_imp, implies_true, forall_const, forall_eq, ↓reduceIte, reduceIte, Nat.reduceEqDiff, Nat.reduceAdd, reduceCtorEq, Nat.reduceSub, Int.reduceToNat, Int.reduceLE, Int.reduceLT, Int.reduceNeg, Nat.reduceBEq, Nat.reduceMul, Nat.reduceLeDiff, Nat.reduceMod, UInt8.reduceOfNat, Nat.reduceLT, Int.reduceEq, Int.reduceAdd, Int.reduceSub, Int.reduceMul]
      repeat' (first | with_reducible assumption | refine And.intro ?_ ?_ | intro _ | (rw [Ev.xStp_eq]; simp -dsimp -implicitDefEqProofs only [hg, q4Row, CCount, ↓Ev.P, Ev.Q, eq_self, forall_eq_or_imp, implies_true, forall_const, forall_eq, ↓reduceIte, reduceIte, Nat.reduceEqDiff, Nat.reduceAdd, reduceCtorEq, Nat.reduceSub, Int.reduceToNat, Int.reduceLE, Int.reduceLT, Int.reduceNeg, Nat.reduceBEq, Nat.reduceMul, Nat.reduceLeDiff, Nat.reduceMod, UInt8.reduceOfNat, Nat.reduceLT, Int.reduceEq, Int.reduceAdd, Int.reduceSub, Int.reduceMul]))
      all_goals try omega
      all_goals try (have hq := cnt4 (by assumption); omega)
      · rename_i h
        rw [hd, chkL_bad (show badC (A, AN, B, BN) from h)] at hc
        rw [chk_none hc.symm] at hk; exact hk
      · rename_i h h2
        rw [hd, chkL_out (good4 h) ?_] at hc
        · rw [chk_none hc.symm] at hk; exact hk
        · rcases h2 with (h2 | h2) | h2
          · exact .inl (.inl h2)
          · exact .inl (.inr ⟨by simp; omega, h2.2⟩)
          · exact .inr h2
      · rename_i h h2
        have hq := cnt4 h
        refine xAgain_intro (l.length - (i + 1)) [] (by omega) (by simp -dsimp -implicitDefEqProofs only [↓Ev.xStp_eq, ↓Ev.P, Ev.Q, eq_self, forall_eq_or_imp, implies_true, forall_const, forall_eq, ↓reduceIte, reduceIte, Nat.reduceEqDiff, Nat.reduceAdd, reduceCtorEq, Nat.reduceSub, Int.reduceToNat, Int.reduceLE, Int.reduceLT, Int.reduceNeg, Nat.reduceBEq, Nat.reduceMul, Nat.reduceLeDiff, Nat.reduceMod, UInt8.reduceOfNat, Nat.reduceLT, Int.reduceEq, Int.reduceAdd, Int.reduceSub, Int.reduceMul]) ⟨i + 1, A + AN, B + BN, by omega, rfl, ?_, by omega, by omega, ?_⟩
        · rw [← hc, hd, chkL_in (good4 h) ?_]
          · simp
          · rintro ((k | k) | k)
            · exact h2.1.1 k
            · obtain ⟨k1, k2⟩ := k
              simp only [decide_eq_false_iff_not] at k1
              exact h2.1.2.elim (fun e => e (by omega)) fun e => e k2
            · exact k h2.2
        · simp -dsimp -implicitDefEqProofs only [↓Ev.xStp_eq, ↓Ev.P, Ev.Q, eq_self, forall_eq_or_imp, implies_true, forall_const, forall_eq, ↓reduceIte, reduceIte, Nat.reduceEqDiff, Nat.reduceAdd, reduceCtorEq, Nat.reduceSub, Int.reduceToNat, Int.reduceLE, Int.reduceLT, Int.reduceNeg, Nat.reduceBEq, Nat.reduceMul, Nat.reduceLeDiff, Nat.reduceMod, UInt8.reduceOfNat, Nat.reduceLT, Int.reduceEq, Int.reduceAdd, Int.reduceSub, Int.reduceMul]
          rfl
    · have hi3 : ¬ (i : Int) < l.length := by omega
      simp -dsimp -implicitDefEqProofs only [hi3, ↓Ev.P, Ev.Q, eq_self, forall_eq_or_imp, implies_true, forall_const, forall_eq, ↓reduceIte, reduceIte, Nat.reduceEqDiff, Nat.reduceAdd, reduceCtorEq, Nat.reduceSub, Int.reduceToNat, Int.reduceLE, Int.reduceLT, Int.reduceNeg, Nat.reduceBEq, Nat.reduceMul, Nat.reduceLeDiff, Nat.reduceMod, UInt8.reduceOfNat, Nat.reduceLT, Int.reduceEq, Int.reduceAdd, Int.reduceSub, Int.reduceMul]
      repeat' (first | with_reducible assumption | refine And.intro ?_ ?_ | intro _ | (rw [Ev.xStp_eq]; simp -dsimp -implicitDefEqProofs only [↓Ev.P, Ev.Q, eq_self, forall_eq_or_imp, implies_true, forall_const, forall_eq, ↓reduceIte, reduceIte, Nat.reduceEqDiff, Nat.reduceAdd, reduceCtorEq, Nat.reduceSub, Int.reduceToNat, Int.reduceLE, Int.reduceLT, Int.reduceNeg, Nat.reduceBEq, Nat.reduceMul, Nat.reduceLeDiff, Nat.reduceMod, UInt8.reduceOfNat, Nat.reduceLT, Int.reduceEq, Int.reduceAdd, Int.reduceSub, Int.reduceMul]))
      all_goals try omega
      all_goals
        rename_i h
        rw [List.drop_of_length_le (by omega), chkL] at hc
        rw [chk_some hc.symm] at hk
      · rw [if_pos h] at hk; exact hk
      · rw [if_neg (by rintro ((k | k) | k); exact h.1.1 k; exact h.1.2 k; exact k h.2)] at hk; exact hk
end Go.Proofs.YtpbkdcfjlbdgfaaDoor
set_option linter.unusedVariables false
set_option linter.unusedSimpArgs false
namespace Go.Proofs.YtpbkdcfjlbdgfaaDoor
open Go Go.Ev
set_option maxRecDepth 100000
variable {G : World → Prop}
theorem bad_sum {A AN B BN : Int} (h : (((cntB A = false ∨ cntB AN = false) ∨ cntB B = false) ∨ cntB BN = false) ∨ AN + BN = 0) : badC (A, AN, B, BN) := by
  by_cases k : (((cntB A = false ∨ cntB AN = false) ∨ cntB B = false) ∨ cntB BN = false)
  · rcases k with ((k | k) | k) | k
    · exact .inl (.inl (.inl (.inl k)))
    · exact .inl (.inl (.inl (.inr k)))
    · exact .inl (.inl (.inr k))
    · exact .inl (.inr k)
  · have h2 : AN + BN = 0 := h.elim (fun e => absurd e k) id
    have h3 := cnt_in (n := AN) fun e => k (.inl (.inl (.inr e)))
    have h4 := cnt_in (n := BN) fun e => k (.inr e)
    exact .inr ⟨by simp only; omega, by simp only; omega⟩
theorem s46 : Sound G Tryd.prog 46 CCheck := by
  refine sd46 (T := tabT [(95, CCount)]) (tab_cons s95 tab_nil) (pureC_lawful _) (pure_hX fun args p x K h hp hk => ?_)
  split at h <;> simp only [Option.map_eq_some_iff, Prod.mk.injEq, reduceCtorEq] at h
  obtain ⟨l, hl, rfl, rfl⟩ := h
  rw [unQ4_eq hl] at *
  refine ⟨Nat.le_of_ble_eq_true rfl, ?_⟩
  rename_i n m
  obtain ⟨hl1, hn, hm⟩ := hp
  have hn0 : ¬ n < 0 := by omega
  have hm0 : ¬ m < 0 := by omega
  simp -dsimp -implicitDefEqProofs only [S46, R46, q4Rows_len, hn0, hm0, ↓Ev.xStp_eq, ↓Ev.P, Ev.Q, eq_self, forall_eq_or_imp, implies_true, forall_const, forall_eq, ↓reduceIte, reduceIte, Nat.reduceEqDiff, Nat.reduceAdd, reduceCtorEq, Nat.reduceSub, Int.reduceToNat, Int.reduceLE, Int.reduceLT, Int.reduceNeg, Nat.reduceBEq, Nat.reduceMul, Nat.reduceLeDiff, Nat.reduceMod, UInt8.reduceOfNat, Nat.reduceLT, Int.reduceEq, Int.reduceAdd, Int.reduceSub, Int.reduceMul]
  refine xLoop_intro (fun k st => ∃ (i : Nat) (a b : Int), i ≤ l.length ∧ k = l.length - i ∧ chkL (decide (i = 0)) a b (l.drop i) = chkL true 0 0 l ∧ (0 ≤ a ∧ a ≤ 4294967294) ∧ (0 ≤ b ∧ b ≤ 4294967294) ∧
      st = ⟨[(0, .d (.sl (q4Rows l))), (1, .d (.v (.int .i64 n))), (2, .d (.v (.int .i64 m))), (7, .d (.v (.int .i64 a))), (8, .d (.v (.int .i64 b))), (9, .d (.v (.int .i64 i)))], 0, []⟩) l.length [] ?_ ?_ ?_
  · simp -dsimp -implicitDefEqProofs only [↓Ev.xStp_eq, ↓Ev.P, Ev.Q, eq_self, forall_eq_or_imp, implies_true, forall_const, forall_eq, ↓reduceIte, reduceIte, Nat.reduceEqDiff, Nat.reduceAdd, reduceCtorEq, Nat.reduceSub, Int.reduceToNat, Int.reduceLE, Int.reduceLT, Int.reduceNeg, Nat.reduceBEq, Nat.reduceMul, Nat.reduceLeDiff, Nat.reduceMod, UInt8.reduceOfNat, Nat.reduceLT, Int.reduceEq, Int.reduceAdd, Int.reduceSub, Int.reduceMul]
  · simp -dsimp -implicitDefEqProofs only [↓Ev.xStp_eq, ↓Ev.P, Ev.Q, eq_self, forall_eq_or_imp, implies_true, forall_const, forall_eq, ↓reduceIte, reduceIte, Nat.reduceEqDiff, Nat.reduceAdd, reduceCtorEq, Nat.reduceSub, Int.reduceToNat, Int.reduceLE, Int.reduceLT, Int.reduceNeg, Nat.reduceBEq, Nat.reduceMul, Nat.reduceLeDiff, Nat.reduceMod, UInt8.reduceOfNat, Nat.reduceLT, Int.reduceEq, Int.reduceAdd, Int.reduceSub, Int.reduceMul]
    exact ⟨0, 0, 0, by omega, by omega, rfl, by omega, by omega, rfl⟩
  · rintro k st ⟨i, a, b, hi, hk2, hc, ha, hb, rfl⟩
    by_cases hil : i < l.length
    · have hg := q4Rows_get hil
      have hd := q4_drop hil
      generalize l.getD i (0, 0, 0, 0) = c at hg hd
      obtain ⟨A, AN, B, BN⟩ := c
      have hi3 : (i : Int) < l.length := by omega
      simp -dsimp -implicitDefEqProofs only [hi3, q4Rows_len, ↓Ev.P, Ev.Q, eq_self, forall_eq_or_imp, implies_true, forall_const, forall_eq, ↓reduceIte, reduceIte, Nat.reduceEqDiff, Nat.reduceAdd, reduceCtorEq, Nat.reduceSub, Int.reduceToNat, Int.reduceLE, Int.reduceLT, Int.reduceNeg, Nat.reduceBEq, Nat.reduceMul, Nat.reduceLeDiff, Nat.reduceMod, UInt8.reduceOfNat, Nat.reduceLT, Int.reduceEq, Int.reduceAdd, Int.reduceSub, Int.reduceMul]
      repeat' (first | with_reducible assumption | refine And.intro ?_ ?_ | intro _ | (rw [Ev.xStp_eq]; simp -dsimp -implicitDefEqProofs only [hg, hi3, q4Rows_len, q4Row, CCount, ↓Ev.P, Ev.Q, eq_self, forall_eq_or_imp, implies_true, forall_const, forall_eq, ↓reduceIte, reduceIte, Nat.reduceEqDiff, Nat.reduceAdd, reduceCtorEq, Nat.reduceSub, Int.reduceToNat, Int.reduceLE, Int.reduceLT, Int.reduceNeg, Nat.reduceBEq, Nat.reduceMul, Nat.reduceLeDiff, Nat.reduceMod, UInt8.reduceOfNat, Nat.reduceLT, Int.reduceEq, Int.reduceAdd, Int.reduceSub, Int.reduceMul]))
      all_goals try omega
      all_goals try (have hq := cnt4 (by assumption); omega)
      all_goals try (have hq := cnt4 ⟨by assumption, trivial⟩; omega)
      · rename_i h
        rw [hd, chkL_bad (bad_sum h)] at hc
        rw [chk_none hc.symm] at hk; exact hk
      · rename_i h h2
        have hq := cnt4 h
        have hg4 := good4 (AN := AN) (BN := BN) ⟨h.1, by have := h.2; omega⟩
        rw [hd, chkL_out hg4 ?_] at hc
        · rw [chk_none hc.symm] at hk; exact hk
        · rcases h2 with (h2 | h2) | h2
          · exact .inr h2
          · exact .inl (.inl (by simp only; omega))
          · exact .inl (.inr ⟨by simp; omega, by simp only; omega⟩)
      · rename_i h h2
        have hq := cnt4 h
        have hg4 := good4 (AN := AN) (BN := BN) ⟨h.1, by have := h.2; omega⟩
        refine xAgain_intro (l.length - (i + 1)) [] (by omega) (by simp -dsimp -implicitDefEqProofs only [↓Ev.xStp_eq, ↓Ev.P, Ev.Q, eq_self, forall_eq_or_imp, implies_true, forall_const, forall_eq, ↓reduceIte, reduceIte, Nat.reduceEqDiff, Nat.reduceAdd, reduceCtorEq, Nat.reduceSub, Int.reduceToNat, Int.reduceLE, Int.reduceLT, Int.reduceNeg, Nat.reduceBEq, Nat.reduceMul, Nat.reduceLeDiff, Nat.reduceMod, UInt8.reduceOfNat, Nat.reduceLT, Int.reduceEq, Int.reduceAdd, Int.reduceSub, Int.reduceMul]) ⟨i + 1, A + AN, B + BN, by omega, rfl, ?_, by omega, by omega, ?_⟩
        · rw [← hc, hd, chkL_in hg4 ?_]
          · simp
          · rintro ((k | k) | k)
            · simp only at k; omega
            · obtain ⟨k1, k2⟩ := k
              simp only [decide_eq_false_iff_not] at k1 k2
              exact h2.2.elim (fun e => e (by omega)) fun e => e (by omega)
            · exact k h2.1.1
        · simp -dsimp -implicitDefEqProofs only [↓Ev.xStp_eq, ↓Ev.P, Ev.Q, eq_self, forall_eq_or_imp, implies_true, forall_const, forall_eq, ↓reduceIte, reduceIte, Nat.reduceEqDiff, Nat.reduceAdd, reduceCtorEq, Nat.reduceSub, Int.reduceToNat, Int.reduceLE, Int.reduceLT, Int.reduceNeg, Nat.reduceBEq, Nat.reduceMul, Nat.reduceLeDiff, Nat.reduceMod, UInt8.reduceOfNat, Nat.reduceLT, Int.reduceEq, Int.reduceAdd, Int.reduceSub, Int.reduceMul]
          rfl
    · have hi3 : ¬ (i : Int) < l.length := by omega
      simp -dsimp -implicitDefEqProofs only [hi3, q4Rows_len, ↓Ev.P, Ev.Q, eq_self, forall_eq_or_imp, implies_true, forall_const, forall_eq, ↓reduceIte, reduceIte, Nat.reduceEqDiff, Nat.reduceAdd, reduceCtorEq, Nat.reduceSub, Int.reduceToNat, Int.reduceLE, Int.reduceLT, Int.reduceNeg, Nat.reduceBEq, Nat.reduceMul, Nat.reduceLeDiff, Nat.reduceMod, UInt8.reduceOfNat, Nat.reduceLT, Int.reduceEq, Int.reduceAdd, Int.reduceSub, Int.reduceMul]
      repeat' (first | with_reducible assumption | refine And.intro ?_ ?_ | intro _ | (rw [Ev.xStp_eq]; simp -dsimp -implicitDefEqProofs only [hi3, q4Rows_len, ↓Ev.P, Ev.Q, eq_self, forall_eq_or_imp, implies_true, forall_const, forall_eq, ↓reduceIte, reduceIte, Nat.reduceEqDiff, Nat.reduceAdd, reduceCtorEq, Nat.reduceSub, Int.reduceToNat, Int.reduceLE, Int.reduceLT, Int.reduceNeg, Nat.reduceBEq, Nat.reduceMul, Nat.reduceLeDiff, Nat.reduceMod, UInt8.reduceOfNat, Nat.reduceLT, Int.reduceEq, Int.reduceAdd, Int.reduceSub, Int.reduceMul]))
      all_goals try omega
      all_goals
        rename_i h
        rw [List.drop_of_length_le (by omega), chkL] at hc
        rw [chk_some hc.symm] at hk
      · rw [if_pos h] at hk; exact hk
      · rw [if_neg (by rintro ((k | k) | k); exact h.1.1 k; exact h.1.2 k; exact k h.2)] at hk; exact hk
end Go.Proofs.YtpbkdcfjlbdgfaaDoor
set_option linter.unusedVariables false
set_option linter.unusedSimpArgs false
namespace Go.Proofs.YtpbkdcfjlbdgfaaDoor
open Go Go.Ev
set_option maxRecDepth 100000
variable {G : World → Prop}
def CSame : Contract := pureC fun args => match args with
  | [.d (.sl a), .d (.sl b)] => (unStr a).bind fun x => (unStr b).map fun y => (x.length ≤ 1099511627776 ∧ y.length ≤ 1099511627776, .d (.v (.bool (decide (x = y)))))
  | _ => none
theorem getD_ext {l m : List (List UInt8)} (h : l.length = m.length) (h2 : ∀ i, i < l.length → l.getD i [] = m.getD i []) : l = m := by
  refine List.ext_getElem h fun i h3 h4 => ?_
  have := h2 i h3
  simpa [List.getD_eq_getElem?_getD, List.getElem?_eq_getElem h3, List.getElem?_eq_getElem h4] using this
theorem s15 : Sound G Tryd.prog 15 CSame := by
  refine sd15 (T := tabT []) tab_nil (pureC_lawful _) (pure_hX fun args p x K h hp hk => ?_)
  split at h <;> simp only [Option.bind_eq_some_iff, Option.map_eq_some_iff, Prod.mk.injEq, reduceCtorEq] at h
  obtain ⟨l, hl, m, hm, rfl, rfl⟩ := h
  rw [unStr_eq hl, unStr_eq hm] at *
  refine ⟨Nat.le_of_ble_eq_true rfl, ?_⟩
  obtain ⟨h1, h2⟩ := hp
  simp -dsimp -implicitDefEqProofs only [S15, R15, strRows_len, ↓Ev.xStp_eq, ↓Ev.P, Ev.Q, eq_self, forall_eq_or_imp, implies_true, forall_const, forall_eq, ↓reduceIte, reduceIte, Nat.reduceEqDiff, Nat.reduceAdd, reduceCtorEq, Nat.reduceSub, Int.reduceToNat, Int.reduceLE, Int.reduceLT, Int.reduceNeg, Nat.reduceBEq, Nat.reduceMul, Nat.reduceLeDiff, Nat.reduceMod, UInt8.reduceOfNat, Nat.reduceLT, Int.reduceEq, Int.reduceAdd, Int.reduceSub, Int.reduceMul]
  refine ⟨fun h => ?_, fun h => ?_⟩
  · rw [decide_eq_false (fun e => h (by rw [e]))] at hk; exact hk
  have hlm : l.length = m.length := by omega
  refine xLoop_intro (fun k st => ∃ (i : Nat), i ≤ l.length ∧ k = l.length - i ∧ (∀ j, j < i → l.getD j [] = m.getD j []) ∧
      st = ⟨[(0, .d (.sl (strRows l))), (1, .d (.sl (strRows m))), (5, .d (.v (.int .i64 i)))], 0, []⟩) l.length [] ?_ ?_ ?_
  · simp -dsimp -implicitDefEqProofs only [↓Ev.xStp_eq, ↓Ev.P, Ev.Q, eq_self, forall_eq_or_imp, implies_true, forall_const, forall_eq, ↓reduceIte, reduceIte, Nat.reduceEqDiff, Nat.reduceAdd, reduceCtorEq, Nat.reduceSub, Int.reduceToNat, Int.reduceLE, Int.reduceLT, Int.reduceNeg, Nat.reduceBEq, Nat.reduceMul, Nat.reduceLeDiff, Nat.reduceMod, UInt8.reduceOfNat, Nat.reduceLT, Int.reduceEq, Int.reduceAdd, Int.reduceSub, Int.reduceMul]
  · simp -dsimp -implicitDefEqProofs only [↓Ev.xStp_eq, ↓Ev.P, Ev.Q, eq_self, forall_eq_or_imp, implies_true, forall_const, forall_eq, ↓reduceIte, reduceIte, Nat.reduceEqDiff, Nat.reduceAdd, reduceCtorEq, Nat.reduceSub, Int.reduceToNat, Int.reduceLE, Int.reduceLT, Int.reduceNeg, Nat.reduceBEq, Nat.reduceMul, Nat.reduceLeDiff, Nat.reduceMod, UInt8.reduceOfNat, Nat.reduceLT, Int.reduceEq, Int.reduceAdd, Int.reduceSub, Int.reduceMul]
    exact ⟨0, by omega, by omega, fun j hj => by omega, rfl⟩
  · rintro k st ⟨i, hi, hk2, hj, rfl⟩
    by_cases hil : i < l.length
    · have hi3 : (i : Int) < l.length := by omega
      simp -dsimp -implicitDefEqProofs only [strRows_get hil, strRows_get (show i < m.length by omega), hi3, strRows_len, ↓Ev.xStp_eq, ↓Ev.P, Ev.Q, eq_self, forall_eq_or_imp, implies_true, forall_const, forall_eq, ↓reduceIte, reduceIte, Nat.reduceEqDiff, Nat.reduceAdd, reduceCtorEq, Nat.reduceSub, Int.reduceToNat, Int.reduceLE, Int.reduceLT, Int.reduceNeg, Nat.reduceBEq, Nat.reduceMul, Nat.reduceLeDiff, Nat.reduceMod, UInt8.reduceOfNat, Nat.reduceLT, Int.reduceEq, Int.reduceAdd, Int.reduceSub, Int.reduceMul]
      repeat' (first | with_reducible assumption | refine And.intro ?_ ?_ | intro _)
      all_goals try omega
      · rename_i h
        rw [decide_eq_false (fun e => h (by rw [e]))] at hk; exact hk
      · rename_i h
        refine xAgain_intro (l.length - (i + 1)) [] (by omega) (by simp -dsimp -implicitDefEqProofs only [↓Ev.xStp_eq, ↓Ev.P, Ev.Q, eq_self, forall_eq_or_imp, implies_true, forall_const, forall_eq, ↓reduceIte, reduceIte, Nat.reduceEqDiff, Nat.reduceAdd, reduceCtorEq, Nat.reduceSub, Int.reduceToNat, Int.reduceLE, Int.reduceLT, Int.reduceNeg, Nat.reduceBEq, Nat.reduceMul, Nat.reduceLeDiff, Nat.reduceMod, UInt8.reduceOfNat, Nat.reduceLT, Int.reduceEq, Int.reduceAdd, Int.reduceSub, Int.reduceMul]) ⟨i + 1, by omega, rfl, fun j hj2 => ?_, ?_⟩
        · by_cases e : j = i
          · rw [e]; exact h
          · exact hj j (by omega)
        · simp -dsimp -implicitDefEqProofs only [↓Ev.xStp_eq, ↓Ev.P, Ev.Q, eq_self, forall_eq_or_imp, implies_true, forall_const, forall_eq, ↓reduceIte, reduceIte, Nat.reduceEqDiff, Nat.reduceAdd, reduceCtorEq, Nat.reduceSub, Int.reduceToNat, Int.reduceLE, Int.reduceLT, Int.reduceNeg, Nat.reduceBEq, Nat.reduceMul, Nat.reduceLeDiff, Nat.reduceMod, UInt8.reduceOfNat, Nat.reduceLT, Int.reduceEq, Int.reduceAdd, Int.reduceSub, Int.reduceMul]
          rfl
    · have hi3 : ¬ (i : Int) < l.length := by omega
      simp -dsimp -implicitDefEqProofs only [hi3, strRows_len, ↓Ev.xStp_eq, ↓Ev.P, Ev.Q, eq_self, forall_eq_or_imp, implies_true, forall_const, forall_eq, ↓reduceIte, reduceIte, Nat.reduceEqDiff, Nat.reduceAdd, reduceCtorEq, Nat.reduceSub, Int.reduceToNat, Int.reduceLE, Int.reduceLT, Int.reduceNeg, Nat.reduceBEq, Nat.reduceMul, Nat.reduceLeDiff, Nat.reduceMod, UInt8.reduceOfNat, Nat.reduceLT, Int.reduceEq, Int.reduceAdd, Int.reduceSub, Int.reduceMul]
      rw [decide_eq_true (getD_ext hlm fun j hj2 => hj j (by omega))] at hk; exact hk
/-- Lines behind a sign. -/
def allT (s : List UInt8) (l : List (List UInt8)) : List UInt8 := l.flatMap (lineT s)
theorem all_snoc (s : List UInt8) (l : List (List UInt8)) (i : Nat) (h : i < l.length) : allT s (l.take (i + 1)) = allT s (l.take i) ++ lineT s (l.getD i []) := by
  rw [allT, List.take_succ_eq_append_getElem h, List.flatMap_append]
  simp [allT, List.getD_eq_getElem?_getD, List.getElem?_eq_getElem h]
theorem all_le (s : List UInt8) (l : List (List UInt8)) (i : Nat) : (allT s (l.take i)).length ≤ (allT s l).length := by
  conv => rhs; rw [← List.take_append_drop i l, allT, List.flatMap_append, List.length_append]
  exact Nat.le_add_right _ _
theorem bare_split (x : List UInt8) : ((bareS x).2 = true → x = (bareS x).1 ++ [10]) ∧ ((bareS x).2 = false → (bareS x).1 = x) := by
  unfold bareS
  split
  · rename_i h
    refine ⟨fun _ => ?_, fun h => by cases h⟩
    rcases List.eq_nil_or_concat x with rfl | ⟨m, c, rfl⟩
    · cases h
    · rw [List.concat_eq_append] at h ⊢
      have : c = 10 := by simpa using h
      subst this; simp
  · exact ⟨fun h => by simp at h, fun _ => rfl⟩
def gAll : List SV → Nat → Nat → List UInt8 → Option (Prop × SV × List UInt8)
  | [.d (.v (.string s)), .d (.sl rows)], t, u, bs => (unStr rows).bind fun l => if t = 72 ∧ u = 5 then
      some ((bs.length + (allT s.data.toList l).length ≤ 140737488355328 ∧ s.size ≤ 1000) ∧ l.length ≤ 1099511627776 ∧ ∀ x ∈ l, x.length ≤ 1099511627776, .tup [], bs ++ allT s.data.toList l) else none
  | _, _, _, _ => none
theorem s44 : Sound G Tryd.prog 44 (bldC gAll) := by
  refine sd44 (T := tabT [(58, CBare), (43, bldC gWS)]) (tab_cons s58 (tab_cons sWS tab_nil)) (bldC_lawful _) (bld_hX fun zs t u bs p x bs' K hg hp hk => ?_)
  unfold gAll at hg
  split at hg
  · obtain ⟨l, hl, hg2⟩ := Option.bind_eq_some_iff.1 hg
    obtain ⟨⟨rfl, rfl⟩, hg3⟩ := Option.ite_none_right_eq_some.1 hg2
    simp only [Option.some.injEq, Prod.mk.injEq] at hg3
    obtain ⟨rfl, rfl, rfl⟩ := hg3
    rw [unStr_eq hl] at *
    rename_i s _
    obtain ⟨s, rfl⟩ := ex_str s
    simp only [sem_str] at hk hp
    refine ⟨Nat.le_of_ble_eq_true rfl, ?_⟩
    obtain ⟨⟨hp1, hs⟩, hl1, hlx⟩ := hp
    simp -dsimp -implicitDefEqProofs only [S44, R44, strRows_len, ↓Ev.xStp_eq, ↓Ev.P, Ev.Q, eq_self, forall_eq_or_imp, implies_true, forall_const, forall_eq, ↓reduceIte, reduceIte, Nat.reduceEqDiff, Nat.reduceAdd, reduceCtorEq, Nat.reduceSub, Int.reduceToNat, Int.reduceLE, Int.reduceLT, Int.reduceNeg, Nat.reduceBEq, Nat.reduceMul, Nat.reduceLeDiff, Nat.reduceMod, UInt8.reduceOfNat, Nat.reduceLT, Int.reduceEq, Int.reduceAdd, Int.reduceSub, Int.reduceMul]
    refine xLoop_intro (fun k st => ∃ (i : Nat), i ≤ l.length ∧ k = l.length - i ∧
      st = ⟨[(0, .ptr 0 0), (1, .d (.v (.string ⟨s.toArray⟩))), (10, .d (.sl (strRows l))), (11, .d (.v (.int .i64 l.length))), (12, .d (.v (.int .i64 i)))], 1, [(0, .bld 72 5 (bs ++ allT s (l.take i)))]⟩) l.length [0] ?_ ?_ ?_
    · simp -dsimp -implicitDefEqProofs only [↓Ev.xStp_eq, ↓Ev.P, Ev.Q, eq_self, forall_eq_or_imp, implies_true, forall_const, forall_eq, ↓reduceIte, reduceIte, Nat.reduceEqDiff, Nat.reduceAdd, reduceCtorEq, Nat.reduceSub, Int.reduceToNat, Int.reduceLE, Int.reduceLT, Int.reduceNeg, Nat.reduceBEq, Nat.reduceMul, Nat.reduceLeDiff, Nat.reduceMod, UInt8.reduceOfNat, Nat.reduceLT, Int.reduceEq, Int.reduceAdd, Int.reduceSub, Int.reduceMul]
    · simp -dsimp -implicitDefEqProofs only [↓Ev.xStp_eq, ↓Ev.P, Ev.Q, eq_self, forall_eq_or_imp, implies_true, forall_const, forall_eq, ↓reduceIte, reduceIte, Nat.reduceEqDiff, Nat.reduceAdd, reduceCtorEq, Nat.reduceSub, Int.reduceToNat, Int.reduceLE, Int.reduceLT, Int.reduceNeg, Nat.reduceBEq, Nat.reduceMul, Nat.reduceLeDiff, Nat.reduceMod, UInt8.reduceOfNat, Nat.reduceLT, Int.reduceEq, Int.reduceAdd, Int.reduceSub, Int.reduceMul]
      exact ⟨0, by omega, by omega, by simp [allT]⟩
    · rintro k st ⟨i, hi, hk2, rfl⟩
      by_cases hil : i < l.length
      · have hi3 : (i : Int) < l.length := by omega
        have hx := hlx (l.getD i []) (by simp [List.getD_eq_getElem?_getD, List.getElem?_eq_getElem hil])
        have hle := all_le s l (i + 1)
        have hsn := all_snoc s l i hil
        have hb := bare_split (l.getD i [])
        have hgx := strRows_get hil
        generalize l.getD i [] = x at hx hsn hb hgx
        rcases hbx : bareS x with ⟨t, f⟩
        rw [hbx] at hb
        cases f with
        | false =>
          have hxt : t = x := hb.2 rfl
          subst hxt
          have hlt : lineT s t = s ++ t ++ [10] ++ markT := by rw [lineT, hbx, if_neg (fun h => by cases h)]
          rw [hlt] at hsn
          rw [hsn] at hle
          simp only [List.length_append, List.length_cons, List.length_nil] at hle
          simp -dsimp -implicitDefEqProofs only [hgx, hbx, hi3, CBare, gWS, bldT, List.length_append, ↓Ev.xStp_eq, ↓Ev.P, Ev.Q, eq_self, forall_eq_or_imp, implies_true, forall_const, forall_eq, ↓reduceIte, reduceIte, Nat.reduceEqDiff, Nat.reduceAdd, reduceCtorEq, Nat.reduceSub, Int.reduceToNat, Int.reduceLE, Int.reduceLT, Int.reduceNeg, Nat.reduceBEq, Nat.reduceMul, Nat.reduceLeDiff, Nat.reduceMod, UInt8.reduceOfNat, Nat.reduceLT, Int.reduceEq, Int.reduceAdd, Int.reduceSub, Int.reduceMul]
          repeat' (first | with_reducible assumption | refine And.intro ?_ ?_ | intro _)
          all_goals try omega
          refine xAgain_intro (l.length - (i + 1)) [0] (by omega) (by simp -dsimp -implicitDefEqProofs only [↓Ev.xStp_eq, ↓Ev.P, Ev.Q, eq_self, forall_eq_or_imp, implies_true, forall_const, forall_eq, ↓reduceIte, reduceIte, Nat.reduceEqDiff, Nat.reduceAdd, reduceCtorEq, Nat.reduceSub, Int.reduceToNat, Int.reduceLE, Int.reduceLT, Int.reduceNeg, Nat.reduceBEq, Nat.reduceMul, Nat.reduceLeDiff, Nat.reduceMod, UInt8.reduceOfNat, Nat.reduceLT, Int.reduceEq, Int.reduceAdd, Int.reduceSub, Int.reduceMul]) ⟨i + 1, by omega, rfl, ?_⟩
          rw [hsn]
          simp -dsimp -implicitDefEqProofs only [↓Ev.xStp_eq, ↓Ev.P, Ev.Q, eq_self, forall_eq_or_imp, implies_true, forall_const, forall_eq, ↓reduceIte, reduceIte, Nat.reduceEqDiff, Nat.reduceAdd, reduceCtorEq, Nat.reduceSub, Int.reduceToNat, Int.reduceLE, Int.reduceLT, Int.reduceNeg, Nat.reduceBEq, Nat.reduceMul, Nat.reduceLeDiff, Nat.reduceMod, UInt8.reduceOfNat, Nat.reduceLT, Int.reduceEq, Int.reduceAdd, Int.reduceSub, Int.reduceMul]
          simp
        | true =>
          have hxt : x = t ++ [10] := hb.1 rfl
          have hlt : lineT s x = s ++ x := by rw [lineT, hbx, if_pos rfl]
          rw [hlt] at hsn
          rw [hsn, hxt] at hle
          rw [hxt] at hx
          simp only [List.length_append, List.length_cons, List.length_nil] at hle hx
          simp -dsimp -implicitDefEqProofs only [hgx, hbx, hi3, CBare, gWS, bldT, List.length_append, ↓Ev.xStp_eq, ↓Ev.P, Ev.Q, eq_self, forall_eq_or_imp, implies_true, forall_const, forall_eq, ↓reduceIte, reduceIte, Nat.reduceEqDiff, Nat.reduceAdd, reduceCtorEq, Nat.reduceSub, Int.reduceToNat, Int.reduceLE, Int.reduceLT, Int.reduceNeg, Nat.reduceBEq, Nat.reduceMul, Nat.reduceLeDiff, Nat.reduceMod, UInt8.reduceOfNat, Nat.reduceLT, Int.reduceEq, Int.reduceAdd, Int.reduceSub, Int.reduceMul]
          repeat' (first | with_reducible assumption | refine And.intro ?_ ?_ | intro _)
          all_goals try (rw [hxt]; simp only [List.length_append, List.length_cons, List.length_nil])
          all_goals try omega
          refine xAgain_intro (l.length - (i + 1)) [0] (by omega) (by simp -dsimp -implicitDefEqProofs only [↓Ev.xStp_eq, ↓Ev.P, Ev.Q, eq_self, forall_eq_or_imp, implies_true, forall_const, forall_eq, ↓reduceIte, reduceIte, Nat.reduceEqDiff, Nat.reduceAdd, reduceCtorEq, Nat.reduceSub, Int.reduceToNat, Int.reduceLE, Int.reduceLT, Int.reduceNeg, Nat.reduceBEq, Nat.reduceMul, Nat.reduceLeDiff, Nat.reduceMod, UInt8.reduceOfNat, Nat.reduceLT, Int.reduceEq, Int.reduceAdd, Int.reduceSub, Int.reduceMul]) ⟨i + 1, by omega, rfl, ?_⟩
          rw [hsn, hxt]
          simp -dsimp -implicitDefEqProofs only [↓Ev.xStp_eq, ↓Ev.P, Ev.Q, eq_self, forall_eq_or_imp, implies_true, forall_const, forall_eq, ↓reduceIte, reduceIte, Nat.reduceEqDiff, Nat.reduceAdd, reduceCtorEq, Nat.reduceSub, Int.reduceToNat, Int.reduceLE, Int.reduceLT, Int.reduceNeg, Nat.reduceBEq, Nat.reduceMul, Nat.reduceLeDiff, Nat.reduceMod, UInt8.reduceOfNat, Nat.reduceLT, Int.reduceEq, Int.reduceAdd, Int.reduceSub, Int.reduceMul]
          simp
      · have hi3 : ¬ (i : Int) < l.length := by omega
        simp -dsimp -implicitDefEqProofs only [hi3, ↓Ev.xStp_eq, ↓Ev.P, Ev.Q, eq_self, forall_eq_or_imp, implies_true, forall_const, forall_eq, ↓reduceIte, reduceIte, Nat.reduceEqDiff, Nat.reduceAdd, reduceCtorEq, Nat.reduceSub, Int.reduceToNat, Int.reduceLE, Int.reduceLT, Int.reduceNeg, Nat.reduceBEq, Nat.reduceMul, Nat.reduceLeDiff, Nat.reduceMod, UInt8.reduceOfNat, Nat.reduceLT, Int.reduceEq, Int.reduceAdd, Int.reduceSub, Int.reduceMul]
        rw [List.take_of_length_le (by omega)]
        exact hk
  · cases hg
end Go.Proofs.YtpbkdcfjlbdgfaaDoor
set_option linter.unusedVariables false
set_option linter.unusedSimpArgs false
namespace Go.Proofs.YtpbkdcfjlbdgfaaDoor
open Go Go.Ev
set_option maxRecDepth 100000
variable {G : World → Prop}
/-- Some lines from a place on. -/
def part (l : List (List UInt8)) (x n : Nat) : List (List UInt8) := (l.drop x).take n
def headT (A AN B BN : Nat) : List UInt8 := if AN = 0 then Lib.itoa A ++ [97] ++ spanT B BN else if BN = 0 then spanT A AN ++ [100] ++ Lib.itoa B else spanT A AN ++ [99] ++ spanT B BN
def restT (A AN B BN : Nat) (a b : List (List UInt8)) : List UInt8 := [10] ++ allT [60, 32] (part a A AN) ++ (if 0 < AN ∧ 0 < BN then [45, 45, 45, 10] else []) ++ allT [62, 32] (part b B BN)
def changeT (A AN B BN : Nat) (a b : List (List UInt8)) : List UInt8 := headT A AN B BN ++ restT A AN B BN a b
theorem part_snoc (s : List UInt8) (l : List (List UInt8)) (x j : Nat) (h : x + j < l.length) : allT s (part l x (j + 1)) = allT s (part l x j) ++ lineT s (l.getD (x + j) []) := by
  have := all_snoc s (l.drop x) j (by simp; omega)
  rw [part, this, part]
  congr 2
  simp [List.getD_eq_getElem?_getD]
theorem part_le (s : List UInt8) (l : List (List UInt8)) (x j n : Nat) (h : j ≤ n) : (allT s (part l x j)).length ≤ (allT s (part l x n)).length := by
  have := all_le s (part l x n) j
  rwa [part, List.take_take, Nat.min_eq_left h] at this
def C47 : Contract := pureC fun args => match args with
  | [.agg [.d (.v (.int .i64 A)), .d (.v (.int .i64 AN)), .d (.v (.int .i64 B)), .d (.v (.int .i64 BN))], .d (.sl a), .d (.sl b)] => (unStr a).bind fun x => (unStr b).map fun y =>
      (((0 ≤ A ∧ A ≤ 2147483647) ∧ (0 ≤ AN ∧ AN ≤ 2147483647) ∧ (0 ≤ B ∧ B ≤ 2147483647) ∧ (0 ≤ BN ∧ BN ≤ 2147483647)) ∧ (A + AN ≤ x.length ∧ B + BN ≤ y.length) ∧ ((∀ s ∈ x, s.length ≤ 1099511627776) ∧ (∀ s ∈ y, s.length ≤ 1099511627776)) ∧ (restT A.toNat AN.toNat B.toNat BN.toNat x y).length ≤ 1125899906842624,
        .d (.v (str (changeT A.toNat AN.toNat B.toNat BN.toNat x y))))
  | _ => none
theorem mem_get {l : List (List UInt8)} {i : Nat} (h : i < l.length) : l.getD i [] ∈ l := by simp [List.getD_eq_getElem?_getD, List.getElem?_eq_getElem h]
set_option maxHeartbeats 1000000 in
theorem chg_rest {T : FuncId → Contract} (hT : T 68 = CLine) (A AN B BN : Nat) (hA : A ≤ 2147483647) (hAN : AN ≤ 2147483647) (hB : B ≤ 2147483647) (hBN : BN ≤ 2147483647) (a b : List (List UInt8)) (ha : A + AN ≤ a.length) (hb : B + BN ≤ b.length) (hla : ∀ s ∈ a, s.length ≤ 1099511627776) (hlb : ∀ s ∈ b, s.length ≤ 1099511627776)
    (hd : List UInt8) (hhd : hd.length ≤ 1000) (hlen : (restT A AN B BN a b).length ≤ 1125899906842624) (K : Out → Store → Prop) (hk : K (.ret (.d (.v (str (hd ++ restT A AN B BN a b))))) ⟨0, []⟩) :
    ∀ sl : List (Nat × SV), lk sl 1 = some (.d (.sl (strRows a))) → lk sl 2 = some (.d (.sl (strRows b))) → lk sl 3 = some (.ptr 0 0) → lk sl 7 = some (.d (.v (.string ⟨hd.toArray⟩))) →
    xv T 0 S47r3 ⟨sl, 1, [(0, .cells 74 [.d (.v (.int .i64 A)), .d (.v (.int .i64 AN)), .d (.v (.int .i64 B)), .d (.v (.int .i64 BN))])]⟩ (retK R47 0 [] K) (panK 0 [] K) := by
  intro sl q1 q2 q3 q7
  unfold restT at hlen
  simp only [List.length_append, List.length_cons, List.length_nil] at hlen
  simp -dsimp -implicitDefEqProofs only [S47r3, S47_3, S47r4, S47_4, S47r5, S47_5, S47r6, S47_6, S47r7, S47_7, S47r8, q1, q2, q3, q7, List.length_append, ↓Ev.xStp_eq, ↓Ev.P, Ev.Q, eq_self, forall_eq_or_imp, implies_true, forall_const, forall_eq, ↓reduceIte, reduceIte, Nat.reduceEqDiff, Nat.reduceAdd, reduceCtorEq, Nat.reduceSub, Int.reduceToNat, Int.reduceLE, Int.reduceLT, Int.reduceNeg, Nat.reduceBEq, Nat.reduceMul, Nat.reduceLeDiff, Nat.reduceMod, UInt8.reduceOfNat, Nat.reduceLT, Int.reduceEq, Int.reduceAdd, Int.reduceSub, Int.reduceMul]
  refine ⟨by omega, ?_⟩
  refine xLoop_intro (fun k st => ∃ j : Nat, j ≤ AN ∧ k = AN - j ∧
      st = ⟨[(1, .d (.sl (strRows a))), (2, .d (.sl (strRows b))), (3, .ptr 0 0), (7, .d (.v (.string ⟨(hd ++ [10] ++ allT [60, 32] (part a A j)).toArray⟩))), (8, .d (.v (.int .i64 (A + j : Nat))))], 1, [(0, .cells 74 [.d (.v (.int .i64 A)), .d (.v (.int .i64 AN)), .d (.v (.int .i64 B)), .d (.v (.int .i64 BN))])]⟩) AN [0] ?_ ?_ ?_
  · simp -dsimp -implicitDefEqProofs only [↓Ev.xStp_eq, ↓Ev.P, Ev.Q, eq_self, forall_eq_or_imp, implies_true, forall_const, forall_eq, ↓reduceIte, reduceIte, Nat.reduceEqDiff, Nat.reduceAdd, reduceCtorEq, Nat.reduceSub, Int.reduceToNat, Int.reduceLE, Int.reduceLT, Int.reduceNeg, Nat.reduceBEq, Nat.reduceMul, Nat.reduceLeDiff, Nat.reduceMod, UInt8.reduceOfNat, Nat.reduceLT, Int.reduceEq, Int.reduceAdd, Int.reduceSub, Int.reduceMul]
  · simp -dsimp -implicitDefEqProofs only [↓Ev.xStp_eq, ↓Ev.P, Ev.Q, eq_self, forall_eq_or_imp, implies_true, forall_const, forall_eq, ↓reduceIte, reduceIte, Nat.reduceEqDiff, Nat.reduceAdd, reduceCtorEq, Nat.reduceSub, Int.reduceToNat, Int.reduceLE, Int.reduceLT, Int.reduceNeg, Nat.reduceBEq, Nat.reduceMul, Nat.reduceLeDiff, Nat.reduceMod, UInt8.reduceOfNat, Nat.reduceLT, Int.reduceEq, Int.reduceAdd, Int.reduceSub, Int.reduceMul]
    exact ⟨0, by omega, by omega, by simp [part, allT]⟩
  · rintro k st ⟨j, hj, hk2, rfl⟩
    by_cases hjl : j < AN
    · have hi3 : ((A + j : Nat) : Int) < (A : Int) + (AN : Int) := by omega
      have hin : A + j < a.length := by omega
      have hx := hla _ (mem_get hin)
      have hg := strRows_get hin
      have hsn := part_snoc [60, 32] a A j hin
      have hle := part_le [60, 32] a A (j + 1) AN (by omega)
      rw [hsn, List.length_append] at hle
      simp -dsimp -implicitDefEqProofs only [hT, hg, hi3, CLine, List.length_append, ↓Ev.xStp_eq, ↓Ev.P, Ev.Q, eq_self, forall_eq_or_imp, implies_true, forall_const, forall_eq, ↓reduceIte, reduceIte, Nat.reduceEqDiff, Nat.reduceAdd, reduceCtorEq, Nat.reduceSub, Int.reduceToNat, Int.reduceLE, Int.reduceLT, Int.reduceNeg, Nat.reduceBEq, Nat.reduceMul, Nat.reduceLeDiff, Nat.reduceMod, UInt8.reduceOfNat, Nat.reduceLT, Int.reduceEq, Int.reduceAdd, Int.reduceSub, Int.reduceMul]
      repeat' (first | with_reducible assumption | refine And.intro ?_ ?_ | intro _)
      all_goals try omega
      refine xAgain_intro (AN - (j + 1)) [0] (by omega) (by simp -dsimp -implicitDefEqProofs only [↓Ev.xStp_eq, ↓Ev.P, Ev.Q, eq_self, forall_eq_or_imp, implies_true, forall_const, forall_eq, ↓reduceIte, reduceIte, Nat.reduceEqDiff, Nat.reduceAdd, reduceCtorEq, Nat.reduceSub, Int.reduceToNat, Int.reduceLE, Int.reduceLT, Int.reduceNeg, Nat.reduceBEq, Nat.reduceMul, Nat.reduceLeDiff, Nat.reduceMod, UInt8.reduceOfNat, Nat.reduceLT, Int.reduceEq, Int.reduceAdd, Int.reduceSub, Int.reduceMul]) ⟨j + 1, by omega, rfl, ?_⟩
      rw [hsn]
      simp -dsimp -implicitDefEqProofs only [↓Ev.xStp_eq, ↓Ev.P, Ev.Q, eq_self, forall_eq_or_imp, implies_true, forall_const, forall_eq, ↓reduceIte, reduceIte, Nat.reduceEqDiff, Nat.reduceAdd, reduceCtorEq, Nat.reduceSub, Int.reduceToNat, Int.reduceLE, Int.reduceLT, Int.reduceNeg, Nat.reduceBEq, Nat.reduceMul, Nat.reduceLeDiff, Nat.reduceMod, UInt8.reduceOfNat, Nat.reduceLT, Int.reduceEq, Int.reduceAdd, Int.reduceSub, Int.reduceMul]
      simp [Nat.add_assoc]
      omega
    · have hi3 : ¬ ((A + j : Nat) : Int) < (A : Int) + (AN : Int) := by omega
      obtain rfl : j = AN := by omega
      simp -dsimp -implicitDefEqProofs only [hi3, List.length_append, ↓Ev.xStp_eq, ↓Ev.P, Ev.Q, eq_self, forall_eq_or_imp, implies_true, forall_const, forall_eq, ↓reduceIte, reduceIte, Nat.reduceEqDiff, Nat.reduceAdd, reduceCtorEq, Nat.reduceSub, Int.reduceToNat, Int.reduceLE, Int.reduceLT, Int.reduceNeg, Nat.reduceBEq, Nat.reduceMul, Nat.reduceLeDiff, Nat.reduceMod, UInt8.reduceOfNat, Nat.reduceLT, Int.reduceEq, Int.reduceAdd, Int.reduceSub, Int.reduceMul]
      repeat' (first | with_reducible assumption | refine And.intro ?_ ?_ | intro _)
      all_goals try omega
      all_goals
        rename_i hc
        refine xLoop_intro (fun k st => ∃ i : Nat, i ≤ BN ∧ k = BN - i ∧
          st = ⟨[(2, .d (.sl (strRows b))), (3, .ptr 0 0), (7, .d (.v (.string ⟨(hd ++ [10] ++ allT [60, 32] (part a A j) ++ (if 0 < j ∧ 0 < BN then [45, 45, 45, 10] else []) ++ allT [62, 32] (part b B i)).toArray⟩))), (9, .d (.v (.int .i64 (B + i : Nat))))], 1, [(0, .cells 74 [.d (.v (.int .i64 A)), .d (.v (.int .i64 j)), .d (.v (.int .i64 B)), .d (.v (.int .i64 BN))])]⟩) BN [0] ?_ ?_ ?_
        · simp -dsimp -implicitDefEqProofs only [↓Ev.xStp_eq, ↓Ev.P, Ev.Q, eq_self, forall_eq_or_imp, implies_true, forall_const, forall_eq, ↓reduceIte, reduceIte, Nat.reduceEqDiff, Nat.reduceAdd, reduceCtorEq, Nat.reduceSub, Int.reduceToNat, Int.reduceLE, Int.reduceLT, Int.reduceNeg, Nat.reduceBEq, Nat.reduceMul, Nat.reduceLeDiff, Nat.reduceMod, UInt8.reduceOfNat, Nat.reduceLT, Int.reduceEq, Int.reduceAdd, Int.reduceSub, Int.reduceMul]
        · simp -dsimp -implicitDefEqProofs only [↓Ev.xStp_eq, ↓Ev.P, Ev.Q, eq_self, forall_eq_or_imp, implies_true, forall_const, forall_eq, ↓reduceIte, reduceIte, Nat.reduceEqDiff, Nat.reduceAdd, reduceCtorEq, Nat.reduceSub, Int.reduceToNat, Int.reduceLE, Int.reduceLT, Int.reduceNeg, Nat.reduceBEq, Nat.reduceMul, Nat.reduceLeDiff, Nat.reduceMod, UInt8.reduceOfNat, Nat.reduceLT, Int.reduceEq, Int.reduceAdd, Int.reduceSub, Int.reduceMul]
          refine ⟨0, by omega, by omega, ?_⟩
          first | rw [if_pos (by omega)] | rw [if_neg (by omega)]
          simp [part, allT]
        · rintro k st ⟨i, hi, hk3, rfl⟩
          clear hi3
          by_cases hil : i < BN
          · have hi3 : ((B + i : Nat) : Int) < (B : Int) + (BN : Int) := by omega
            have hin : B + i < b.length := by omega
            have hx := hlb _ (mem_get hin)
            have hg := strRows_get hin
            have hsn := part_snoc [62, 32] b B i hin
            have hle := part_le [62, 32] b B (i + 1) BN (by omega)
            rw [hsn, List.length_append] at hle
            simp -dsimp -implicitDefEqProofs only [hT, hg, hi3, CLine, List.length_append, ↓Ev.xStp_eq, ↓Ev.P, Ev.Q, eq_self, forall_eq_or_imp, implies_true, forall_const, forall_eq, ↓reduceIte, reduceIte, Nat.reduceEqDiff, Nat.reduceAdd, reduceCtorEq, Nat.reduceSub, Int.reduceToNat, Int.reduceLE, Int.reduceLT, Int.reduceNeg, Nat.reduceBEq, Nat.reduceMul, Nat.reduceLeDiff, Nat.reduceMod, UInt8.reduceOfNat, Nat.reduceLT, Int.reduceEq, Int.reduceAdd, Int.reduceSub, Int.reduceMul]
            repeat' (first | with_reducible assumption | refine And.intro ?_ ?_ | intro _)
            all_goals try omega
            refine xAgain_intro (BN - (i + 1)) [0] (by omega) (by simp -dsimp -implicitDefEqProofs only [↓Ev.xStp_eq, ↓Ev.P, Ev.Q, eq_self, forall_eq_or_imp, implies_true, forall_const, forall_eq, ↓reduceIte, reduceIte, Nat.reduceEqDiff, Nat.reduceAdd, reduceCtorEq, Nat.reduceSub, Int.reduceToNat, Int.reduceLE, Int.reduceLT, Int.reduceNeg, Nat.reduceBEq, Nat.reduceMul, Nat.reduceLeDiff, Nat.reduceMod, UInt8.reduceOfNat, Nat.reduceLT, Int.reduceEq, Int.reduceAdd, Int.reduceSub, Int.reduceMul]) ⟨i + 1, by omega, rfl, ?_⟩
            rw [hsn]
            simp -dsimp -implicitDefEqProofs only [↓Ev.xStp_eq, ↓Ev.P, Ev.Q, eq_self, forall_eq_or_imp, implies_true, forall_const, forall_eq, ↓reduceIte, reduceIte, Nat.reduceEqDiff, Nat.reduceAdd, reduceCtorEq, Nat.reduceSub, Int.reduceToNat, Int.reduceLE, Int.reduceLT, Int.reduceNeg, Nat.reduceBEq, Nat.reduceMul, Nat.reduceLeDiff, Nat.reduceMod, UInt8.reduceOfNat, Nat.reduceLT, Int.reduceEq, Int.reduceAdd, Int.reduceSub, Int.reduceMul]
            simp [Nat.add_assoc]
            omega
          · have hi3 : ¬ ((B + i : Nat) : Int) < (B : Int) + (BN : Int) := by omega
            obtain rfl : i = BN := by omega
            simp -dsimp -implicitDefEqProofs only [hi3, R47, ↓Ev.xStp_eq, ↓Ev.P, Ev.Q, eq_self, forall_eq_or_imp, implies_true, forall_const, forall_eq, ↓reduceIte, reduceIte, Nat.reduceEqDiff, Nat.reduceAdd, reduceCtorEq, Nat.reduceSub, Int.reduceToNat, Int.reduceLE, Int.reduceLT, Int.reduceNeg, Nat.reduceBEq, Nat.reduceMul, Nat.reduceLeDiff, Nat.reduceMod, UInt8.reduceOfNat, Nat.reduceLT, Int.reduceEq, Int.reduceAdd, Int.reduceSub, Int.reduceMul]
            unfold restT at hk
            simp only [sem_str] at hk
            rw [show hd ++ ([10] ++ allT [60, 32] (part a A j) ++ (if 0 < j ∧ 0 < i then [45, 45, 45, 10] else []) ++ allT [62, 32] (part b B i)) = hd ++ [10] ++ allT [60, 32] (part a A j) ++ (if 0 < j ∧ 0 < i then [45, 45, 45, 10] else []) ++ allT [62, 32] (part b B i) by simp] at hk
            exact ⟨by omega, hk⟩
theorem head_len {A AN B BN : Nat} (hA : A ≤ 2147483647) (hAN : AN ≤ 2147483647) (hB : B ≤ 2147483647) (hBN : BN ≤ 2147483647) : (headT A AN B BN).length ≤ 90 := by
  have h1 := span_len (a := A) (n := AN) (by omega)
  have h2 := span_len (a := B) (n := BN) (by omega)
  have h3 := itoa_len (n := A) (by omega)
  have h4 := itoa_len (n := B) (by omega)
  unfold headT
  split
  · simp only [List.length_append, List.length_cons, List.length_nil]; omega
  · split <;> simp only [List.length_append, List.length_cons, List.length_nil] <;> omega
set_option maxHeartbeats 1000000 in
theorem s47 : Sound G Tryd.prog 47 C47 := by
  refine sd47 (T := tabT [(33, CItoa), (60, CSpan), (68, CLine)]) (tab_cons s33 (tab_cons s60 (tab_cons s68 tab_nil))) (pureC_lawful _) (pure_hX fun args p x K h hp hk => ?_)
  split at h <;> simp only [Option.bind_eq_some_iff, Option.map_eq_some_iff, Prod.mk.injEq, reduceCtorEq] at h
  obtain ⟨a, ha, b, hb, rfl, rfl⟩ := h
  rename_i A AN B BN _ _
  rw [unStr_eq ha, unStr_eq hb] at *
  obtain ⟨⟨hA, hAN, hB, hBN⟩, ⟨h1, h2⟩, ⟨h3, h4⟩, h5⟩ := hp
  obtain ⟨A, rfl⟩ := Int.eq_ofNat_of_zero_le hA.1
  obtain ⟨AN, rfl⟩ := Int.eq_ofNat_of_zero_le hAN.1
  obtain ⟨B, rfl⟩ := Int.eq_ofNat_of_zero_le hB.1
  obtain ⟨BN, rfl⟩ := Int.eq_ofNat_of_zero_le hBN.1
  simp only [Int.toNat_natCast] at h5 hk
  refine ⟨Nat.le_of_ble_eq_true rfl, ?_⟩
  have hhl := head_len (A := A) (AN := AN) (B := B) (BN := BN) (by omega) (by omega) (by omega) (by omega)
  have rest := chg_rest (T := tabT [(33, CItoa), (60, CSpan), (68, CLine)]) rfl A AN B BN (by omega) (by omega) (by omega) (by omega) a b (by omega) (by omega) h3 h4 (headT A AN B BN) (by omega) h5 K hk
  have g1 := span_len (a := A) (n := AN) (by omega)
  have g2 := span_len (a := B) (n := BN) (by omega)
  have g3 := itoa_len (n := A) (by omega)
  have g4 := itoa_len (n := B) (by omega)
  by_cases hz : AN = 0
  · rw [show headT A AN B BN = Lib.itoa A ++ [97] ++ spanT B BN by rw [headT, if_pos hz]] at rest
    subst hz
    simp -dsimp -implicitDefEqProofs only [S47, S47_0, S47r1, S47_1, S47r2, S47_2, CItoa, CSpan, List.length_append, ↓Ev.xStp_eq, ↓Ev.P, Ev.Q, eq_self, forall_eq_or_imp, implies_true, forall_const, forall_eq, ↓reduceIte, reduceIte, Nat.reduceEqDiff, Nat.reduceAdd, reduceCtorEq, Nat.reduceSub, Int.reduceToNat, Int.reduceLE, Int.reduceLT, Int.reduceNeg, Nat.reduceBEq, Nat.reduceMul, Nat.reduceLeDiff, Nat.reduceMod, UInt8.reduceOfNat, Nat.reduceLT, Int.reduceEq, Int.reduceAdd, Int.reduceSub, Int.reduceMul]
    repeat' (first | with_reducible assumption | refine And.intro ?_ ?_ | intro _)
    all_goals first | omega | skip
    exact rest _ rfl rfl rfl rfl
  · by_cases hz2 : BN = 0
    · rw [show headT A AN B BN = spanT A AN ++ [100] ++ Lib.itoa B by rw [headT, if_neg hz, if_pos hz2]] at rest
      subst hz2
      have hz' : ¬ (AN : Int) = 0 := by omega
      simp -dsimp -implicitDefEqProofs only [S47, S47_0, S47r1, S47_1, S47r2, S47_2, CItoa, CSpan, hz', List.length_append, ↓Ev.xStp_eq, ↓Ev.P, Ev.Q, eq_self, forall_eq_or_imp, implies_true, forall_const, forall_eq, ↓reduceIte, reduceIte, Nat.reduceEqDiff, Nat.reduceAdd, reduceCtorEq, Nat.reduceSub, Int.reduceToNat, Int.reduceLE, Int.reduceLT, Int.reduceNeg, Nat.reduceBEq, Nat.reduceMul, Nat.reduceLeDiff, Nat.reduceMod, UInt8.reduceOfNat, Nat.reduceLT, Int.reduceEq, Int.reduceAdd, Int.reduceSub, Int.reduceMul]
      repeat' (first | with_reducible assumption | refine And.intro ?_ ?_ | intro _)
      all_goals first | omega | skip
      skip
      exact rest _ rfl rfl rfl rfl
    · rw [show headT A AN B BN = spanT A AN ++ [99] ++ spanT B BN by rw [headT, if_neg hz, if_neg hz2]] at rest
      have hz' : ¬ (AN : Int) = 0 := by omega
      have hz2' : ¬ (BN : Int) = 0 := by omega
      simp -dsimp -implicitDefEqProofs only [S47, S47_0, S47r1, S47_1, S47r2, S47_2, CItoa, CSpan, hz', hz2', List.length_append, ↓Ev.xStp_eq, ↓Ev.P, Ev.Q, eq_self, forall_eq_or_imp, implies_true, forall_const, forall_eq, ↓reduceIte, reduceIte, Nat.reduceEqDiff, Nat.reduceAdd, reduceCtorEq, Nat.reduceSub, Int.reduceToNat, Int.reduceLE, Int.reduceLT, Int.reduceNeg, Nat.reduceBEq, Nat.reduceMul, Nat.reduceLeDiff, Nat.reduceMod, UInt8.reduceOfNat, Nat.reduceLT, Int.reduceEq, Int.reduceAdd, Int.reduceSub, Int.reduceMul]
      repeat' (first | with_reducible assumption | refine And.intro ?_ ?_ | intro _)
      all_goals first | omega | skip
      skip
      exact rest _ rfl rfl rfl rfl
end Go.Proofs.YtpbkdcfjlbdgfaaDoor
set_option linter.unusedVariables false
set_option linter.unusedSimpArgs false
namespace Go.Proofs.YtpbkdcfjlbdgfaaDoor
open Go Go.Ev
set_option maxRecDepth 100000
variable {G : World → Prop}
def chT (a b : List (List UInt8)) (c : Q4) : List UInt8 := changeT c.1.toNat c.2.1.toNat c.2.2.1.toNat c.2.2.2.toNat a b
def prntT (l : List Q4) (a b : List (List UInt8)) : List UInt8 := l.flatMap (chT a b)
theorem prnt_snoc {l : List Q4} {i : Nat} (a b : List (List UInt8)) (h : i < l.length) : prntT (l.take (i + 1)) a b = prntT (l.take i) a b ++ chT a b (l.getD i (0, 0, 0, 0)) := by
  rw [prntT, List.take_succ_eq_append_getElem h, List.flatMap_append]
  simp [prntT, List.getD_eq_getElem?_getD, List.getElem?_eq_getElem h]
theorem prnt_le (l : List Q4) (a b : List (List UInt8)) (i : Nat) : (prntT (l.take i) a b).length ≤ (prntT l a b).length := by
  conv => rhs; rw [← List.take_append_drop i l, prntT, List.flatMap_append, List.length_append]
  exact Nat.le_add_right _ _
/-- What holds of a change of a right script. -/
def okQ (x y : Int) (c : Q4) : Prop := ((0 ≤ c.1 ∧ c.1 ≤ 2147483647) ∧ (0 ≤ c.2.1 ∧ c.2.1 ≤ 2147483647) ∧ (0 ≤ c.2.2.1 ∧ c.2.2.1 ≤ 2147483647) ∧ (0 ≤ c.2.2.2 ∧ c.2.2.2 ≤ 2147483647) ∧ ¬ (c.2.1 = 0 ∧ c.2.2.2 = 0)) ∧ c.1 + c.2.1 ≤ x ∧ c.2.2.1 + c.2.2.2 ≤ y
theorem chkL_all : ∀ {l : List Q4} {f : Bool} {a b x y : Int}, chkL f a b l = some (x, y) → (∀ c ∈ l, okQ x y c) ∧ a ≤ x ∧ b ≤ y
  | [], f, a, b, x, y, h => by
    rw [chkL] at h
    cases h
    exact ⟨(fun c hc => by cases hc), Int.le_refl _, Int.le_refl _⟩
  | c :: r, f, a, b, x, y, h => by
    rw [chkL] at h
    split at h
    · cases h
    · rename_i h1
      split at h
      · cases h
      · rename_i h2
        obtain ⟨k1, k2, k3⟩ := chkL_all h
        have ho := okC h1
        have h3 : ¬ c.1 - a < 0 := fun e => h2 (.inl (.inl e))
        have h4 : c.1 - a = c.2.2.1 - b := Decidable.not_not.1 fun e => h2 (.inr e)
        refine ⟨fun z hz => ?_, by omega, by omega⟩
        rcases List.mem_cons.1 hz with rfl | hz
        · exact ⟨ho, k2, k3⟩
        · exact k1 z hz
theorem chk_all {l : List Q4} {n m : Int} (h : chk l n m = 0) : ∀ c ∈ l, okQ n m c := by
  unfold chk at h
  split at h
  · cases h
  · rename_i a b e
    split at h
    · cases h
    · rename_i k
      obtain ⟨k1, _, _⟩ := chkL_all e
      intro c hc
      obtain ⟨q1, q2, q3⟩ := k1 c hc
      have r1 : ¬ n < a := fun e => k (.inl (.inl e))
      have r2 : ¬ m < b := fun e => k (.inl (.inr e))
      exact ⟨q1, by omega, by omega⟩
theorem chk_zero (l : List Q4) (n m : Int) : chk l n m = 0 ∨ chk l n m = 50 := by
  unfold chk
  split
  · exact .inr rfl
  · split
    · exact .inr rfl
    · exact .inl rfl
theorem q4_mem {l : List Q4} {i : Nat} (h : i < l.length) : l.getD i (0, 0, 0, 0) ∈ l := by simp [List.getD_eq_getElem?_getD, List.getElem?_eq_getElem h]
def CPrint : Contract := pureC fun args => match args with
  | [.d (.sl rows), .d (.sl a), .d (.sl b)] => (unQ4 rows).bind fun l => (unStr a).bind fun x => (unStr b).map fun y =>
      ((l.length ≤ 1099511627776 ∧ x.length ≤ 1099511627776 ∧ y.length ≤ 1099511627776) ∧ ((∀ s ∈ x, s.length ≤ 1099511627776) ∧ (∀ s ∈ y, s.length ≤ 1099511627776)) ∧ (chk l x.length y.length = 0 → (prntT l x y).length ≤ 70368744177664),
        .tup [.d (.v (str (if chk l x.length y.length = 0 then prntT l x y else []))), .d (.v (.int .i64 (chk l x.length y.length)))])
  | _ => none
set_option maxHeartbeats 1000000 in
theorem s14 : Sound G Tryd.prog 14 CPrint := by
  refine sd14 (T := tabT [(46, CCheck), (47, C47)]) (tab_cons s46 (tab_cons s47 tab_nil)) (pureC_lawful _) (pure_hX fun args p x K h hp hk => ?_)
  split at h <;> simp only [Option.bind_eq_some_iff, Option.map_eq_some_iff, Prod.mk.injEq, reduceCtorEq] at h
  obtain ⟨l, hl, a, ha, b, hb, rfl, rfl⟩ := h
  rw [unQ4_eq hl, unStr_eq ha, unStr_eq hb] at *
  obtain ⟨⟨h1, h2, h3⟩, ⟨h4, h5⟩, h6⟩ := hp
  refine ⟨Nat.le_of_ble_eq_true rfl, ?_⟩
  rcases chk_zero l a.length b.length with hz | hz
  · have hall := chk_all hz
    have hlen := h6 hz
    rw [if_pos hz, hz] at hk
    simp -dsimp -implicitDefEqProofs only [S14, R14, CCheck, unQ4_rows, strRows_len, hz, ↓Ev.xStp_eq, ↓Ev.P, Ev.Q, eq_self, forall_eq_or_imp, implies_true, forall_const, forall_eq, ↓reduceIte, reduceIte, Nat.reduceEqDiff, Nat.reduceAdd, reduceCtorEq, Nat.reduceSub, Int.reduceToNat, Int.reduceLE, Int.reduceLT, Int.reduceNeg, Nat.reduceBEq, Nat.reduceMul, Nat.reduceLeDiff, Nat.reduceMod, UInt8.reduceOfNat, Nat.reduceLT, Int.reduceEq, Int.reduceAdd, Int.reduceSub, Int.reduceMul]
    refine ⟨by omega, ?_⟩
    refine xLoop_intro (fun k st => ∃ i : Nat, i ≤ l.length ∧ k = l.length - i ∧
      st = ⟨[(0, .d (.sl (q4Rows l))), (1, .d (.sl (strRows a))), (2, .d (.sl (strRows b))), (9, .d (.v (.string ⟨(prntT (l.take i) a b).toArray⟩))), (10, .d (.v (.int .i64 i)))], 0, []⟩) l.length [] ?_ ?_ ?_
    · simp -dsimp -implicitDefEqProofs only [↓Ev.xStp_eq, ↓Ev.P, Ev.Q, eq_self, forall_eq_or_imp, implies_true, forall_const, forall_eq, ↓reduceIte, reduceIte, Nat.reduceEqDiff, Nat.reduceAdd, reduceCtorEq, Nat.reduceSub, Int.reduceToNat, Int.reduceLE, Int.reduceLT, Int.reduceNeg, Nat.reduceBEq, Nat.reduceMul, Nat.reduceLeDiff, Nat.reduceMod, UInt8.reduceOfNat, Nat.reduceLT, Int.reduceEq, Int.reduceAdd, Int.reduceSub, Int.reduceMul]
    · simp -dsimp -implicitDefEqProofs only [↓Ev.xStp_eq, ↓Ev.P, Ev.Q, eq_self, forall_eq_or_imp, implies_true, forall_const, forall_eq, ↓reduceIte, reduceIte, Nat.reduceEqDiff, Nat.reduceAdd, reduceCtorEq, Nat.reduceSub, Int.reduceToNat, Int.reduceLE, Int.reduceLT, Int.reduceNeg, Nat.reduceBEq, Nat.reduceMul, Nat.reduceLeDiff, Nat.reduceMod, UInt8.reduceOfNat, Nat.reduceLT, Int.reduceEq, Int.reduceAdd, Int.reduceSub, Int.reduceMul]
      exact ⟨0, by omega, by omega, by simp [prntT]⟩
    · rintro k st ⟨i, hi, hk2, rfl⟩
      by_cases hil : i < l.length
      · have hi3 : (i : Int) < l.length := by omega
        have hg := q4Rows_get hil
        have hsn := prnt_snoc a b hil
        have hle := prnt_le l a b (i + 1)
        obtain ⟨⟨b1, b2, b3, b4, b5⟩, b6, b7⟩ := hall _ (q4_mem hil)
        rw [hsn, List.length_append] at hle
        generalize l.getD i (0, 0, 0, 0) = c at hg hsn hle b1 b2 b3 b4 b5 b6 b7
        obtain ⟨A, AN, B, BN⟩ := c
        have hrl : (restT A.toNat AN.toNat B.toNat BN.toNat a b).length ≤ (chT a b (A, AN, B, BN)).length := by
          unfold chT changeT
          simp only [List.length_append]; omega
        simp only at b1 b2 b3 b4 b5 b6 b7
        rw [show chT a b (A, AN, B, BN) = changeT A.toNat AN.toNat B.toNat BN.toNat a b from rfl] at hle hsn hrl
        simp -dsimp -implicitDefEqProofs only [hg, hi3, q4Rows_len, q4Row, C47, unStr_rows, List.length_append, Ev.St.giveC, ↓Ev.xStp_eq, ↓Ev.P, Ev.Q, eq_self, forall_eq_or_imp, implies_true, forall_const, forall_eq, ↓reduceIte, reduceIte, Nat.reduceEqDiff, Nat.reduceAdd, reduceCtorEq, Nat.reduceSub, Int.reduceToNat, Int.reduceLE, Int.reduceLT, Int.reduceNeg, Nat.reduceBEq, Nat.reduceMul, Nat.reduceLeDiff, Nat.reduceMod, UInt8.reduceOfNat, Nat.reduceLT, Int.reduceEq, Int.reduceAdd, Int.reduceSub, Int.reduceMul]
        repeat' (first | with_reducible assumption | refine And.intro ?_ ?_ | intro _)
        all_goals try omega
        refine xAgain_intro (l.length - (i + 1)) [] (by omega) (by simp -dsimp -implicitDefEqProofs only [↓Ev.xStp_eq, ↓Ev.P, Ev.Q, eq_self, forall_eq_or_imp, implies_true, forall_const, forall_eq, ↓reduceIte, reduceIte, Nat.reduceEqDiff, Nat.reduceAdd, reduceCtorEq, Nat.reduceSub, Int.reduceToNat, Int.reduceLE, Int.reduceLT, Int.reduceNeg, Nat.reduceBEq, Nat.reduceMul, Nat.reduceLeDiff, Nat.reduceMod, UInt8.reduceOfNat, Nat.reduceLT, Int.reduceEq, Int.reduceAdd, Int.reduceSub, Int.reduceMul]) ⟨i + 1, by omega, rfl, ?_⟩
        rw [hsn]
        simp -dsimp -implicitDefEqProofs only [↓Ev.xStp_eq, ↓Ev.P, Ev.Q, eq_self, forall_eq_or_imp, implies_true, forall_const, forall_eq, ↓reduceIte, reduceIte, Nat.reduceEqDiff, Nat.reduceAdd, reduceCtorEq, Nat.reduceSub, Int.reduceToNat, Int.reduceLE, Int.reduceLT, Int.reduceNeg, Nat.reduceBEq, Nat.reduceMul, Nat.reduceLeDiff, Nat.reduceMod, UInt8.reduceOfNat, Nat.reduceLT, Int.reduceEq, Int.reduceAdd, Int.reduceSub, Int.reduceMul]
        rfl
      · have hi3 : ¬ (i : Int) < l.length := by omega
        simp -dsimp -implicitDefEqProofs only [hi3, q4Rows_len, ↓Ev.xStp_eq, ↓Ev.P, Ev.Q, eq_self, forall_eq_or_imp, implies_true, forall_const, forall_eq, ↓reduceIte, reduceIte, Nat.reduceEqDiff, Nat.reduceAdd, reduceCtorEq, Nat.reduceSub, Int.reduceToNat, Int.reduceLE, Int.reduceLT, Int.reduceNeg, Nat.reduceBEq, Nat.reduceMul, Nat.reduceLeDiff, Nat.reduceMod, UInt8.reduceOfNat, Nat.reduceLT, Int.reduceEq, Int.reduceAdd, Int.reduceSub, Int.reduceMul]
        rw [List.take_of_length_le (by omega)]
        exact hk
  · have hz' : ¬ (50 : Int) = 0 := by omega
    rw [if_neg (by rw [hz]; exact hz'), hz] at hk
    simp -dsimp -implicitDefEqProofs only [S14, R14, CCheck, unQ4_rows, strRows_len, hz, hz', ↓Ev.xStp_eq, ↓Ev.P, Ev.Q, eq_self, forall_eq_or_imp, implies_true, forall_const, forall_eq, ↓reduceIte, reduceIte, Nat.reduceEqDiff, Nat.reduceAdd, reduceCtorEq, Nat.reduceSub, Int.reduceToNat, Int.reduceLE, Int.reduceLT, Int.reduceNeg, Nat.reduceBEq, Nat.reduceMul, Nat.reduceLeDiff, Nat.reduceMod, UInt8.reduceOfNat, Nat.reduceLT, Int.reduceEq, Int.reduceAdd, Int.reduceSub, Int.reduceMul]
    exact ⟨by omega, hk⟩
end Go.Proofs.YtpbkdcfjlbdgfaaDoor
/- (*strings.Builder).String. -/
set_option linter.unusedVariables false
set_option linter.unusedSimpArgs false
namespace Go.Proofs.YtpbkdcfjlbdgfaaDoor
open Go Go.Ev Go.RowKit
theorem infB4 : (Tryd.prog.info? 5).map (·.size) = some 1 := by kernel_rfl
theorem uptr4 : Tryd.prog.underlying 120 = some (.pointer 5) := by kernel_rfl
theorem cellsB4 : Tryd.prog.cellsOf 5 = 1 := by kernel_rfl
set_option maxHeartbeats 2000000 in
set_option maxRecDepth 100000 in
theorem st_some {t b g cap : Nat} {p : Value} {l : List UInt8} {cur : Array Value} {w : World} (hbk : w.heap[b]? = some (.cells #[p, .slice (some ⟨g, 0, none⟩) l.length cap] t (0, 0))) (hg : w.heap[g]? = some (.cells cur 5 (0, 0))) (h0 : l ≠ []) (hown : w.ownsRow 0 5 1 (.slice (some ⟨g, 0, none⟩) l.length cap) l.length (byteVals l)) (hnc : l.length ≤ cap) (hcm : cap ≤ maxLen) (hcs : cur.size = cap * 1) :
    Calls Tryd.prog 45 #[.pointer (some ⟨b, 0, none⟩)] w fun e w' => e = .returned (.string ⟨l.toArray⟩) ∧ BldEnd w w' b (.slice (some ⟨g, 0, none⟩) l.length cap) := by
  have hl0 : l.length ≠ 0 := by simpa using h0
  have c1 : w.drew.cell? ⟨b, 1, none⟩ = some (.slice (some ⟨g, 0, none⟩) l.length cap) := by
    have : w.drew.heap[b]? = some (.cells #[p, .slice (some ⟨g, 0, none⟩) l.length cap] t (0, 0)) := hbk
    rw [Lib.cell_of_heap this]; rfl
  have hSD : (Builtin.unsafeSliceData_ #[68] 120 #[.slice (some ⟨g, 0, none⟩) l.length cap]).run Tryd.prog w.drew = .ok (.pointer (some ⟨g, 0, none⟩)) w.drew :=
    Lib.run_unsafeSliceData_row _ _ _ _ _ _ (by omega)
  have hUS : (Builtin.unsafeString_ #[120, 3] 9 #[.pointer (some ⟨g, 0, none⟩), .int .i64 l.length]).run Tryd.prog w.drew = .ok (.string ⟨l.toArray⟩) (w.drew.freeze ⟨g, 0, none⟩ l.length) := by
    refine Lib.run_unsafeString_row w.drew 120 3 9 5 uptr4 cellsB4 g cur.size (by have hg' : w.drew.heap[g]? = some (.cells cur 5 (0, 0)) := hg; simp [World.shape?, hg']) l h0 (by omega) (by unfold maxLen at hcm; omega) ?_
    intro j x hx
    have := hown.cells (g := g) rfl j (.int .u8 x.toNat) (by simp [byteVals, hx])
    exact this
  clear hown hnc hcm hcs
  go_enter Tryd.func45, Tryd.ntmps45
  go_wp2
  go_region
  all_goals (go_wp2; go_ret; exact ⟨rfl, BldEnd.freeze (BldEnd.drew (BldEnd.refl w b _)) rfl _⟩)
theorem us_none (W : World) (q : Option Addr) : (Builtin.unsafeString_ #[120, 3] 9 #[.pointer q, .int .i64 0]).run Tryd.prog W = .ok (.string .empty) W :=
  Lib.run_unsafeString_none W _ _ _ q
set_option maxHeartbeats 2000000 in
set_option maxRecDepth 100000 in
theorem st_nil {t b : Nat} {p : Value} {w : World} (hbk : w.heap[b]? = some (.cells #[p, .slice none 0 0] t (0, 0))) :
    Calls Tryd.prog 45 #[.pointer (some ⟨b, 0, none⟩)] w fun e w' => e = .returned (.string ⟨#[]⟩) ∧ BldEnd w w' b (.slice none 0 0) := by
  have hUS := us_none
  have c1 : w.drew.cell? ⟨b, 1, none⟩ = some (.slice none 0 0) := by
    have : w.drew.heap[b]? = some (.cells #[p, .slice none 0 0] t (0, 0)) := hbk
    rw [Lib.cell_of_heap this]; rfl
  have hSD : (Builtin.unsafeSliceData_ #[68] 120 #[.slice none 0 0]).run Tryd.prog w.drew = .ok (.pointer none) w.drew := rfl
  go_enter Tryd.func45, Tryd.ntmps45
  go_wp2
  go_region
  all_goals (go_wp2; go_ret; exact ⟨rfl, BldEnd.drew (BldEnd.refl w b _)⟩)
set_option maxHeartbeats 2000000 in
set_option maxRecDepth 100000 in
theorem st_noroom {t b g : Nat} {p : Value} {cur : Array Value} {w : World} (hbk : w.heap[b]? = some (.cells #[p, .slice (some ⟨g, 0, none⟩) 0 0] t (0, 0))) (hg : w.heap[g]? = some (.cells cur 5 (0, 0))) :
    Calls Tryd.prog 45 #[.pointer (some ⟨b, 0, none⟩)] w fun e w' => e = .returned (.string ⟨#[]⟩) ∧ BldEnd w w' b (.slice (some ⟨g, 0, none⟩) 0 0) := by
  have hUS := us_none
  have hlt : b < w.heap.size := (Array.getElem?_eq_some_iff.1 hbk).1
  have c1 : w.drew.cell? ⟨b, 1, none⟩ = some (.slice (some ⟨g, 0, none⟩) 0 0) := by
    have : w.drew.heap[b]? = some (.cells #[p, .slice (some ⟨g, 0, none⟩) 0 0] t (0, 0)) := hbk
    rw [Lib.cell_of_heap this]; rfl
  have hSD : (Builtin.unsafeSliceData_ #[68] 120 #[.slice (some ⟨g, 0, none⟩) 0 0]).run Tryd.prog w.drew = .ok (.pointer (some ⟨w.drew.heap.size, 0, none⟩)) (w.drew.alloc (.view ⟨g, 0, none⟩ 5)) :=
    Lib.run_unsafeSliceData_zero w.drew _ _ 5 uptr4 ⟨g, 0, none⟩ 0 (5, cur.size) (by have hg' : w.drew.heap[g]? = some (.cells cur 5 (0, 0)) := hg; simp [World.shape?, hg'])
  have c2 : (w.drew.alloc (.view ⟨g, 0, none⟩ 5)).cell? ⟨b, 1, none⟩ = some (.slice (some ⟨g, 0, none⟩) 0 0) := by
    have : (w.drew.alloc (.view ⟨g, 0, none⟩ 5)).heap[b]? = _ := (Lib.alloc_old w.drew _ b hlt).trans hbk
    rw [Lib.cell_of_heap this]; rfl
  have c3 : (w.alloc (.view ⟨g, 0, none⟩ 5)).drew.cell? ⟨b, 1, none⟩ = some (.slice (some ⟨g, 0, none⟩) 0 0) := c2
  have c0 : w.cell? ⟨b, 1, none⟩ = some (.slice (some ⟨g, 0, none⟩) 0 0) := c1
  go_enter Tryd.func45, Tryd.ntmps45
  go_wp2
  go_region
  all_goals (go_wp2; go_ret; exact ⟨rfl, BldEnd.alloc (BldEnd.drew (BldEnd.refl w b _)) _⟩)
set_option maxHeartbeats 2000000 in
set_option maxRecDepth 100000 in
theorem st_room {t b g cap : Nat} {p : Value} {w : World} (hc0 : cap ≠ 0) (hbk : w.heap[b]? = some (.cells #[p, .slice (some ⟨g, 0, none⟩) 0 cap] t (0, 0))) :
    Calls Tryd.prog 45 #[.pointer (some ⟨b, 0, none⟩)] w fun e w' => e = .returned (.string ⟨#[]⟩) ∧ BldEnd w w' b (.slice (some ⟨g, 0, none⟩) 0 cap) := by
  have hUS := us_none
  have c1 : w.drew.cell? ⟨b, 1, none⟩ = some (.slice (some ⟨g, 0, none⟩) 0 cap) := by
    have : w.drew.heap[b]? = some (.cells #[p, .slice (some ⟨g, 0, none⟩) 0 cap] t (0, 0)) := hbk
    rw [Lib.cell_of_heap this]; rfl
  have hSD : (Builtin.unsafeSliceData_ #[68] 120 #[.slice (some ⟨g, 0, none⟩) 0 cap]).run Tryd.prog w.drew = .ok (.pointer (some ⟨g, 0, none⟩)) w.drew :=
    Lib.run_unsafeSliceData_row _ _ _ _ _ _ hc0
  clear hc0
  go_enter Tryd.func45, Tryd.ntmps45
  go_wp2
  go_region
  all_goals (go_wp2; go_ret; exact ⟨rfl, BldEnd.drew (BldEnd.refl w b _)⟩)
theorem sST {G : World → Prop} : Sound G Tryd.prog 45 (strC 5) := by
  refine str_sound ⟨Tryd.f45, by kernel_rfl, by kernel_rfl, by kernel_rfl⟩ ?_
  rintro w t b p v bs h
  obtain ⟨h1, _, hown, h4⟩ := h
  have hown' := hown
  obtain ⟨g1, g2⟩ := hown
  rcases g2 with ⟨rfl, h0⟩ | ⟨g, cap, cur, rfl, e2, e3, e4, e5, e6, e7⟩
  · have : bs = [] := List.eq_nil_of_length_eq_zero h0
    subst this
    exact st_nil h1
  · cases bs with
    | nil =>
      by_cases hc0 : cap = 0
      · subst hc0; exact st_noroom h1 e3
      · exact st_room hc0 h1
    | cons x r => exact st_some h1 e3 (by simp) hown' e4 e5 e6
end Go.Proofs.YtpbkdcfjlbdgfaaDoor
set_option linter.unusedVariables false
set_option linter.unusedSimpArgs false
namespace Go.Proofs.YtpbkdcfjlbdgfaaDoor
open Go Go.Ev
set_option maxRecDepth 100000
variable {G : World → Prop}
theorem part_rows (a : List (List UInt8)) (A AN : Nat) : ((strRows a).take (A + AN)).drop A = strRows (part a A AN) := by
  rw [strRows_sub, List.drop_take, Nat.add_sub_cancel_left, part]
theorem allT_nil (s : List UInt8) : allT s [] = [] := rfl
theorem part_zero (a : List (List UInt8)) (A : Nat) : part a A 0 = [] := by simp [part]
theorem mem_part {a : List (List UInt8)} {A AN : Nat} {x : List UInt8} (h : x ∈ part a A AN) : x ∈ a := List.mem_of_mem_drop (List.mem_of_mem_take h)
theorem part_len (a : List (List UInt8)) (A AN : Nat) : (part a A AN).length ≤ AN := by unfold part; simp; omega
theorem cons_ne (a b : UInt8) (h : a ≠ b) : ([a] = [b]) = False := by simp [h]
set_option maxHeartbeats 4000000 in
theorem s13 (hG : ∀ w, G w → Pow10 w) : Sound G Tryd.prog 13 CPrint := by
  refine sd13 (T := tabT [(41, CCheck), (42, CSpan), (32, CItoa), (43, bldC gWS), (44, bldC gAll), (45, strC 5)]) (tab_cons s41 (tab_cons (s42 hG) (tab_cons (s32 hG) (tab_cons sWS (tab_cons s44 (tab_cons sST tab_nil)))))) (pureC_lawful _) (pure_hX fun args p x K h hp hk => ?_)
  split at h <;> simp only [Option.bind_eq_some_iff, Option.map_eq_some_iff, Prod.mk.injEq, reduceCtorEq] at h
  obtain ⟨l, hl, a, ha, b, hb, rfl, rfl⟩ := h
  rw [unQ4_eq hl, unStr_eq ha, unStr_eq hb] at *
  obtain ⟨⟨h1, h2, h3⟩, ⟨h4, h5⟩, h6⟩ := hp
  refine ⟨Nat.le_of_ble_eq_true rfl, ?_⟩
  rcases chk_zero l a.length b.length with hz | hz
  · have hall := chk_all hz
    have hlen := h6 hz
    rw [if_pos hz, hz] at hk
    simp -dsimp (maxSteps := 2000000) only [S13, S13_0, S13r1, S13_1, S13r2, S13_2, S13r3, S13_3, S13r4, S13_4, S13r5, R13, CCheck, unQ4_rows, strRows_len, q4Rows_len, hz, ↓Ev.ffI, ↓Ev.ttI, ↓Ev.tfI, ↓Ev.ftI, ↓Ev.xStp_eq, ↓Ev.P, Ev.Q, eq_self, forall_eq_or_imp, implies_true, forall_const, forall_eq, ↓reduceIte, reduceIte, Nat.reduceEqDiff, Nat.reduceAdd, reduceCtorEq, Nat.reduceSub, Int.reduceToNat, Int.reduceLE, Int.reduceLT, Int.reduceNeg, Nat.reduceBEq, Nat.reduceMul, Nat.reduceLeDiff, Nat.reduceMod, UInt8.reduceOfNat, Nat.reduceLT, Int.reduceEq, Int.reduceAdd, Int.reduceSub, Int.reduceMul]
    refine ⟨by omega, ?_⟩
    refine xLoop_intro (fun k st => ∃ i : Nat, i ≤ l.length ∧ k = l.length - i ∧
      st = ⟨[(1, .d (.sl (strRows a))), (2, .d (.sl (strRows b))), (9, .ptr 0 0), (24, .d (.sl (q4Rows l))), (25, .d (.v (.int .i64 l.length))), (26, .d (.v (.int .i64 i)))], 1, [(0, .bld 72 5 (prntT (l.take i) a b))]⟩) l.length [0] ?_ ?_ ?_
    · simp -dsimp (maxSteps := 2000000) only [↓Ev.ffI, ↓Ev.ttI, ↓Ev.tfI, ↓Ev.ftI, ↓Ev.xStp_eq, ↓Ev.P, Ev.Q, eq_self, forall_eq_or_imp, implies_true, forall_const, forall_eq, ↓reduceIte, reduceIte, Nat.reduceEqDiff, Nat.reduceAdd, reduceCtorEq, Nat.reduceSub, Int.reduceToNat, Int.reduceLE, Int.reduceLT, Int.reduceNeg, Nat.reduceBEq, Nat.reduceMul, Nat.reduceLeDiff, Nat.reduceMod, UInt8.reduceOfNat, Nat.reduceLT, Int.reduceEq, Int.reduceAdd, Int.reduceSub, Int.reduceMul]
    · simp -dsimp (maxSteps := 2000000) only [↓Ev.ffI, ↓Ev.ttI, ↓Ev.tfI, ↓Ev.ftI, ↓Ev.xStp_eq, ↓Ev.P, Ev.Q, eq_self, forall_eq_or_imp, implies_true, forall_const, forall_eq, ↓reduceIte, reduceIte, Nat.reduceEqDiff, Nat.reduceAdd, reduceCtorEq, Nat.reduceSub, Int.reduceToNat, Int.reduceLE, Int.reduceLT, Int.reduceNeg, Nat.reduceBEq, Nat.reduceMul, Nat.reduceLeDiff, Nat.reduceMod, UInt8.reduceOfNat, Nat.reduceLT, Int.reduceEq, Int.reduceAdd, Int.reduceSub, Int.reduceMul]
      exact ⟨0, by omega, by omega, by simp [prntT]⟩
    · rintro k st ⟨i, hi, hk2, rfl⟩
      by_cases hil : i < l.length
      · have hi3 : (i : Int) < l.length := by omega
        have hg := q4Rows_get hil
        have hsn := prnt_snoc a b hil
        have hle := prnt_le l a b (i + 1)
        obtain ⟨⟨b1, b2, b3, b4, b5⟩, b6, b7⟩ := hall _ (q4_mem hil)
        rw [hsn, List.length_append] at hle
        generalize l.getD i (0, 0, 0, 0) = c at hg hsn hle b1 b2 b3 b4 b5 b6 b7
        obtain ⟨A, AN, B, BN⟩ := c
        simp only at b1 b2 b3 b4 b5 b6 b7
        rw [show chT a b (A, AN, B, BN) = changeT A.toNat AN.toNat B.toNat BN.toNat a b from rfl] at hle hsn
        obtain ⟨A, rfl⟩ := Int.eq_ofNat_of_zero_le b1.1
        obtain ⟨AN, rfl⟩ := Int.eq_ofNat_of_zero_le b2.1
        obtain ⟨B, rfl⟩ := Int.eq_ofNat_of_zero_le b3.1
        obtain ⟨BN, rfl⟩ := Int.eq_ofNat_of_zero_le b4.1
        simp only [Int.toNat_natCast] at hle hsn
        have rA : List.drop A (List.take ((A : Int) + (AN : Int)).toNat (strRows a)) = strRows (part a A AN) := by
          rw [show ((A : Int) + (AN : Int)).toNat = A + AN by omega, part_rows]
        have rB : List.drop B (List.take ((B : Int) + (BN : Int)).toNat (strRows b)) = strRows (part b B BN) := by
          rw [show ((B : Int) + (BN : Int)).toNat = B + BN by omega, part_rows]
        have pA := part_len a A AN
        have pB := part_len b B BN
        have mA : ∀ x ∈ part a A AN, x.length ≤ 1099511627776 := fun x hx => h4 x (mem_part hx)
        have mB : ∀ x ∈ part b B BN, x.length ≤ 1099511627776 := fun x hx => h5 x (mem_part hx)
        unfold changeT headT restT at hle hsn
        by_cases hzA : AN = 0
        · subst hzA
          have hzB : ¬ BN = 0 := by omega
          have hzB' : ¬ (BN : Int) = 0 := by omega
          have v1 : (([97] : List UInt8) = [99]) = False := by decide
          rw [if_pos rfl, if_neg (by omega : ¬ (0 < 0 ∧ 0 < BN))] at hle hsn
          simp only [List.length_append, List.length_cons, List.length_nil, List.append_nil] at hle
          simp only [Int.natCast_zero, part_zero] at rA
          simp -dsimp -implicitDefEqProofs only [hg, hi3, q4Row, CItoa, CSpan, gWS, gAll, bldT, unStr_rows, strRows_len, strRows_all, rA, rB, part_rows, allT_nil, hzB', v1, part_zero, List.length_append, Ev.St.giveC, ↓Ev.ffI, ↓Ev.ttI, ↓Ev.tfI, ↓Ev.ftI, ↓Ev.P, Ev.Q, eq_self, forall_eq_or_imp, implies_true, forall_const, forall_eq, ↓reduceIte, reduceIte, Nat.reduceEqDiff, Nat.reduceAdd, reduceCtorEq, Nat.reduceSub, Int.reduceToNat, Int.reduceLE, Int.reduceLT, Int.reduceNeg, Nat.reduceBEq, Nat.reduceMul, Nat.reduceLeDiff, Nat.reduceMod, UInt8.reduceOfNat, Nat.reduceLT, Int.reduceEq, Int.reduceAdd, Int.reduceSub, Int.reduceMul]
          repeat' (first | with_reducible assumption | refine And.intro ?_ ?_ | intro _ | (rw [Ev.xStp_eq]; simp -dsimp -implicitDefEqProofs only [hg, hi3, q4Row, CItoa, CSpan, gWS, gAll, bldT, unStr_rows, strRows_len, strRows_all, rA, rB, part_rows, allT_nil, hzB', v1, part_zero, List.length_append, Ev.St.giveC, ↓Ev.ffI, ↓Ev.ttI, ↓Ev.tfI, ↓Ev.ftI, ↓Ev.P, Ev.Q, eq_self, forall_eq_or_imp, implies_true, forall_const, forall_eq, ↓reduceIte, reduceIte, Nat.reduceEqDiff, Nat.reduceAdd, reduceCtorEq, Nat.reduceSub, Int.reduceToNat, Int.reduceLE, Int.reduceLT, Int.reduceNeg, Nat.reduceBEq, Nat.reduceMul, Nat.reduceLeDiff, Nat.reduceMod, UInt8.reduceOfNat, Nat.reduceLT, Int.reduceEq, Int.reduceAdd, Int.reduceSub, Int.reduceMul]))
          all_goals try omega
          refine xAgain_intro (l.length - (i + 1)) [0] (by omega) (by simp -dsimp -implicitDefEqProofs only [↓Ev.xStp_eq, ↓Ev.P, Ev.Q, eq_self, forall_eq_or_imp, implies_true, forall_const, forall_eq, ↓reduceIte, reduceIte, Nat.reduceEqDiff, Nat.reduceAdd, reduceCtorEq, Nat.reduceSub, Int.reduceToNat, Int.reduceLE, Int.reduceLT, Int.reduceNeg, Nat.reduceBEq, Nat.reduceMul, Nat.reduceLeDiff, Nat.reduceMod, UInt8.reduceOfNat, Nat.reduceLT, Int.reduceEq, Int.reduceAdd, Int.reduceSub, Int.reduceMul]) ⟨i + 1, by omega, rfl, ?_⟩
          rw [hsn]
          simp -dsimp -implicitDefEqProofs only [↓Ev.xStp_eq, ↓Ev.P, Ev.Q, eq_self, forall_eq_or_imp, implies_true, forall_const, forall_eq, ↓reduceIte, reduceIte, Nat.reduceEqDiff, Nat.reduceAdd, reduceCtorEq, Nat.reduceSub, Int.reduceToNat, Int.reduceLE, Int.reduceLT, Int.reduceNeg, Nat.reduceBEq, Nat.reduceMul, Nat.reduceLeDiff, Nat.reduceMod, UInt8.reduceOfNat, Nat.reduceLT, Int.reduceEq, Int.reduceAdd, Int.reduceSub, Int.reduceMul]
          simp [Nat.add_assoc, allT, part_zero]
        · by_cases hzB : BN = 0
          · subst hzB
            have hzA' : ¬ (AN : Int) = 0 := by omega
            have v1 : (([100] : List UInt8) = [99]) = False := by decide
            rw [if_neg hzA, if_pos rfl, if_neg (by omega : ¬ (0 < AN ∧ 0 < 0))] at hle hsn
            simp only [List.length_append, List.length_cons, List.length_nil, List.append_nil] at hle
            simp only [Int.natCast_zero, part_zero] at rB
            simp -dsimp -implicitDefEqProofs only [hg, hi3, q4Row, CItoa, CSpan, gWS, gAll, bldT, unStr_rows, strRows_len, strRows_all, rA, rB, part_rows, allT_nil, hzA', v1, part_zero, List.length_append, Ev.St.giveC, ↓Ev.ffI, ↓Ev.ttI, ↓Ev.tfI, ↓Ev.ftI, ↓Ev.P, Ev.Q, eq_self, forall_eq_or_imp, implies_true, forall_const, forall_eq, ↓reduceIte, reduceIte, Nat.reduceEqDiff, Nat.reduceAdd, reduceCtorEq, Nat.reduceSub, Int.reduceToNat, Int.reduceLE, Int.reduceLT, Int.reduceNeg, Nat.reduceBEq, Nat.reduceMul, Nat.reduceLeDiff, Nat.reduceMod, UInt8.reduceOfNat, Nat.reduceLT, Int.reduceEq, Int.reduceAdd, Int.reduceSub, Int.reduceMul]
            repeat' (first | with_reducible assumption | refine And.intro ?_ ?_ | intro _ | (rw [Ev.xStp_eq]; simp -dsimp -implicitDefEqProofs only [hg, hi3, q4Row, CItoa, CSpan, gWS, gAll, bldT, unStr_rows, strRows_len, strRows_all, rA, rB, part_rows, allT_nil, hzA', v1, part_zero, List.length_append, Ev.St.giveC, ↓Ev.ffI, ↓Ev.ttI, ↓Ev.tfI, ↓Ev.ftI, ↓Ev.P, Ev.Q, eq_self, forall_eq_or_imp, implies_true, forall_const, forall_eq, ↓reduceIte, reduceIte, Nat.reduceEqDiff, Nat.reduceAdd, reduceCtorEq, Nat.reduceSub, Int.reduceToNat, Int.reduceLE, Int.reduceLT, Int.reduceNeg, Nat.reduceBEq, Nat.reduceMul, Nat.reduceLeDiff, Nat.reduceMod, UInt8.reduceOfNat, Nat.reduceLT, Int.reduceEq, Int.reduceAdd, Int.reduceSub, Int.reduceMul]))
            all_goals try omega
            refine xAgain_intro (l.length - (i + 1)) [0] (by omega) (by simp -dsimp -implicitDefEqProofs only [↓Ev.xStp_eq, ↓Ev.P, Ev.Q, eq_self, forall_eq_or_imp, implies_true, forall_const, forall_eq, ↓reduceIte, reduceIte, Nat.reduceEqDiff, Nat.reduceAdd, reduceCtorEq, Nat.reduceSub, Int.reduceToNat, Int.reduceLE, Int.reduceLT, Int.reduceNeg, Nat.reduceBEq, Nat.reduceMul, Nat.reduceLeDiff, Nat.reduceMod, UInt8.reduceOfNat, Nat.reduceLT, Int.reduceEq, Int.reduceAdd, Int.reduceSub, Int.reduceMul]) ⟨i + 1, by omega, rfl, ?_⟩
            rw [hsn]
            simp -dsimp -implicitDefEqProofs only [↓Ev.xStp_eq, ↓Ev.P, Ev.Q, eq_self, forall_eq_or_imp, implies_true, forall_const, forall_eq, ↓reduceIte, reduceIte, Nat.reduceEqDiff, Nat.reduceAdd, reduceCtorEq, Nat.reduceSub, Int.reduceToNat, Int.reduceLE, Int.reduceLT, Int.reduceNeg, Nat.reduceBEq, Nat.reduceMul, Nat.reduceLeDiff, Nat.reduceMod, UInt8.reduceOfNat, Nat.reduceLT, Int.reduceEq, Int.reduceAdd, Int.reduceSub, Int.reduceMul]
            simp [Nat.add_assoc, allT, part_zero]
          · have hzA' : ¬ (AN : Int) = 0 := by omega
            have hzB' : ¬ (BN : Int) = 0 := by omega
            have v1 : (([99] : List UInt8) = [99]) = True := by decide
            rw [if_neg hzA, if_neg hzB, if_pos (by omega : (0 < AN ∧ 0 < BN))] at hle hsn
            simp only [List.length_append, List.length_cons, List.length_nil, List.append_nil] at hle
            simp -dsimp -implicitDefEqProofs only [hg, hi3, q4Row, CItoa, CSpan, gWS, gAll, bldT, unStr_rows, strRows_len, strRows_all, rA, rB, part_rows, allT_nil, hzA', hzB', v1, List.length_append, Ev.St.giveC, ↓Ev.ffI, ↓Ev.ttI, ↓Ev.tfI, ↓Ev.ftI, ↓Ev.P, Ev.Q, eq_self, forall_eq_or_imp, implies_true, forall_const, forall_eq, ↓reduceIte, reduceIte, Nat.reduceEqDiff, Nat.reduceAdd, reduceCtorEq, Nat.reduceSub, Int.reduceToNat, Int.reduceLE, Int.reduceLT, Int.reduceNeg, Nat.reduceBEq, Nat.reduceMul, Nat.reduceLeDiff, Nat.reduceMod, UInt8.reduceOfNat, Nat.reduceLT, Int.reduceEq, Int.reduceAdd, Int.reduceSub, Int.reduceMul]
            repeat' (first | with_reducible assumption | refine And.intro ?_ ?_ | intro _ | (rw [Ev.xStp_eq]; simp -dsimp -implicitDefEqProofs only [hg, hi3, q4Row, CItoa, CSpan, gWS, gAll, bldT, unStr_rows, strRows_len, strRows_all, rA, rB, part_rows, allT_nil, hzA', hzB', v1, List.length_append, Ev.St.giveC, ↓Ev.ffI, ↓Ev.ttI, ↓Ev.tfI, ↓Ev.ftI, ↓Ev.P, Ev.Q, eq_self, forall_eq_or_imp, implies_true, forall_const, forall_eq, ↓reduceIte, reduceIte, Nat.reduceEqDiff, Nat.reduceAdd, reduceCtorEq, Nat.reduceSub, Int.reduceToNat, Int.reduceLE, Int.reduceLT, Int.reduceNeg, Nat.reduceBEq, Nat.reduceMul, Nat.reduceLeDiff, Nat.reduceMod, UInt8.reduceOfNat, Nat.reduceLT, Int.reduceEq, Int.reduceAdd, Int.reduceSub, Int.reduceMul]))
            all_goals try omega
            refine xAgain_intro (l.length - (i + 1)) [0] (by omega) (by simp -dsimp -implicitDefEqProofs only [↓Ev.xStp_eq, ↓Ev.P, Ev.Q, eq_self, forall_eq_or_imp, implies_true, forall_const, forall_eq, ↓reduceIte, reduceIte, Nat.reduceEqDiff, Nat.reduceAdd, reduceCtorEq, Nat.reduceSub, Int.reduceToNat, Int.reduceLE, Int.reduceLT, Int.reduceNeg, Nat.reduceBEq, Nat.reduceMul, Nat.reduceLeDiff, Nat.reduceMod, UInt8.reduceOfNat, Nat.reduceLT, Int.reduceEq, Int.reduceAdd, Int.reduceSub, Int.reduceMul]) ⟨i + 1, by omega, rfl, ?_⟩
            rw [hsn]
            simp -dsimp -implicitDefEqProofs only [↓Ev.xStp_eq, ↓Ev.P, Ev.Q, eq_self, forall_eq_or_imp, implies_true, forall_const, forall_eq, ↓reduceIte, reduceIte, Nat.reduceEqDiff, Nat.reduceAdd, reduceCtorEq, Nat.reduceSub, Int.reduceToNat, Int.reduceLE, Int.reduceLT, Int.reduceNeg, Nat.reduceBEq, Nat.reduceMul, Nat.reduceLeDiff, Nat.reduceMod, UInt8.reduceOfNat, Nat.reduceLT, Int.reduceEq, Int.reduceAdd, Int.reduceSub, Int.reduceMul]
            simp [Nat.add_assoc, allT, part_zero]
      · have hi3 : ¬ (i : Int) < l.length := by omega
        simp -dsimp (maxSteps := 2000000) only [hi3, ↓Ev.ffI, ↓Ev.ttI, ↓Ev.tfI, ↓Ev.ftI, ↓Ev.xStp_eq, ↓Ev.P, Ev.Q, eq_self, forall_eq_or_imp, implies_true, forall_const, forall_eq, ↓reduceIte, reduceIte, Nat.reduceEqDiff, Nat.reduceAdd, reduceCtorEq, Nat.reduceSub, Int.reduceToNat, Int.reduceLE, Int.reduceLT, Int.reduceNeg, Nat.reduceBEq, Nat.reduceMul, Nat.reduceLeDiff, Nat.reduceMod, UInt8.reduceOfNat, Nat.reduceLT, Int.reduceEq, Int.reduceAdd, Int.reduceSub, Int.reduceMul]
        rw [List.take_of_length_le (by omega)]
        exact hk
  · have hz' : ¬ (50 : Int) = 0 := by omega
    rw [if_neg (by rw [hz]; exact hz'), hz] at hk
    simp -dsimp (maxSteps := 2000000) only [S13, S13_0, S13r1, S13_1, S13r2, S13_2, S13r3, S13_3, S13r4, S13_4, S13r5, R13, CCheck, unQ4_rows, strRows_len, hz, hz', ↓Ev.ffI, ↓Ev.ttI, ↓Ev.tfI, ↓Ev.ftI, ↓Ev.xStp_eq, ↓Ev.P, Ev.Q, eq_self, forall_eq_or_imp, implies_true, forall_const, forall_eq, ↓reduceIte, reduceIte, Nat.reduceEqDiff, Nat.reduceAdd, reduceCtorEq, Nat.reduceSub, Int.reduceToNat, Int.reduceLE, Int.reduceLT, Int.reduceNeg, Nat.reduceBEq, Nat.reduceMul, Nat.reduceLeDiff, Nat.reduceMod, UInt8.reduceOfNat, Nat.reduceLT, Int.reduceEq, Int.reduceAdd, Int.reduceSub, Int.reduceMul]
    exact ⟨by omega, hk⟩
end Go.Proofs.YtpbkdcfjlbdgfaaDoor
set_option linter.unusedVariables false
set_option linter.unusedSimpArgs false
namespace Go.Proofs.YtpbkdcfjlbdgfaaDoor
open Go Go.Ev
set_option maxRecDepth 100000
theorem rdStr {c : Rdr} {a : Addr} : ∀ {l : List (List UInt8)} {k : Nat}, (∀ i, i < l.length → c (a.add (k + i)) (.string ⟨(l.getD i []).toArray⟩)) → RdRows c a 1 k (strRows l)
  | [], k, h => by simp [strRows, RdRows]
  | s :: l, k, h => by
    have h0 := h 0 (by simp)
    have hr : RdRows c a 1 (k + 1) (strRows l) := rdStr fun i hi => by
      have := h (i + 1) (by simp; omega)
      rw [show k + 1 + i = k + (i + 1) by omega]
      simpa using this
    have e : strRows (s :: l) = [.v (.string ⟨s.toArray⟩)] :: strRows l := rfl
    rw [e]
    simp only [RdRows, RdCells, Rd]
    exact ⟨rfl, ⟨⟨_, by simpa using h0, rfl, rfl⟩, trivial⟩, hr⟩
theorem rdQ4 {c : Rdr} {a : Addr} : ∀ {l : List Q4} {k : Nat}, (∀ i, i < l.length → RdCells c a (k + i * 4) (q4Row (l.getD i (0, 0, 0, 0)))) → RdRows c a 4 k (q4Rows l)
  | [], k, h => by simp [q4Rows, RdRows]
  | s :: l, k, h => by
    have h0 := h 0 (by simp)
    have hr : RdRows c a 4 (k + 4) (q4Rows l) := rdQ4 fun i hi => by
      have := h (i + 1) (by simp; omega)
      rw [show k + 4 + i * 4 = k + (i + 1) * 4 by omega]
      simpa using this
    have e : q4Rows (s :: l) = q4Row s :: q4Rows l := rfl
    rw [e]
    simp only [RdRows]
    exact ⟨rfl, by simpa using h0, hr⟩
/-- A laid table's block holds its integers and nothing else. -/
theorem tab_only {P : Program} {W : World} {name : String} {k : IntKind} {zs : List Int} {g : Nat} (h : Lib.TabIs P W name k zs) (hg : P.globalNamed name = some g) {a : Addr} {u : Value} (ha : W.cell? a = some u) (hb : a.block = g) : ∃ z, u = .int k z := by
  unfold Lib.TabIs World.var? at h
  rw [hg] at h
  simp only [Option.bind_some] at h
  unfold World.cell? at ha
  rw [hb] at ha
  split at h
  · rename_i cs t f e
    rw [e] at ha
    simp only [Option.some.injEq] at h
    subst h
    simp only at ha
    split at ha
    · cases ha
    · have hm := Array.mem_of_getElem? ha
      simp only [List.mem_toArray, List.mem_map] at hm
      obtain ⟨z, _, rfl⟩ := hm
      exact ⟨z, rfl⟩
  · cases h
theorem gP10 : Tryd.prog.globalNamed "internal/strconv.uint64pow10" = some (Tryd.prog.globalNamed "internal/strconv.uint64pow10").get! := by kernel_rfl
/-- The table is hidden. -/
noncomputable def HP : Hd Pow10 := ⟨fun b => some b = Tryd.prog.globalNamed "internal/strconv.uint64pow10", fun b => some b = Tryd.prog.globalNamed "internal/strconv.uint64pow10", fun _ h => h, fun w w' h hb => by
  unfold Pow10 Lib.TabIs World.var? at h ⊢
  cases e : Tryd.prog.globalNamed "internal/strconv.uint64pow10" with
  | none => rw [e] at h; cases h
  | some g => rw [e] at h; simp only [Option.bind_some] at h ⊢; rw [hb g (by rw [e])]; exact h, 0⟩
theorem HP_no {W : World} (h : Pow10 W) {a : Addr} {u : Value} (ha : W.cell? a = some u) (hu : ∀ z, u ≠ .int .u64 z) : ¬ HP a.block := fun hb => by
  obtain ⟨z, e⟩ := tab_only h hb.symm ha rfl
  exact hu z e
theorem HP_lt {W : World} (h : Pow10 W) {b : Nat} (hb : HP b) : b < W.heap.size := by
  have hb' : some b = Tryd.prog.globalNamed "internal/strconv.uint64pow10" := hb
  unfold Pow10 Lib.TabIs World.var? at h
  rw [← hb'] at h
  simp only [Option.bind_some] at h
  split at h
  · rename_i e
    exact (Array.getElem?_eq_some_iff.1 e).1
  · cases h
end Go.Proofs.YtpbkdcfjlbdgfaaDoor
/- From a law's contract to its row: what a call leaves lies below the heap's end as it lay. -/
set_option linter.unusedVariables false
set_option linter.unusedSimpArgs false
namespace Go.Ev
open Go Go.RowKit Go.WideShapes Go.ChangeShapes

theorem law_calls {G : World → Prop} (H : Hd G) {P : Program} {f : FuncId} {C : Contract} (h : Sound G P f C) {args : List SV} {vs : List Value} {W : World} (hg : G W) (hh : ∀ b, H b → b < W.heap.size) (hw : C.wp args ⟨0, []⟩ fun out s => out = .ret (.d (.v (.bool true))))
    (hvs : CnL (fun _ => undef) 0 (fun a u => W.cell? a = some u ∧ ¬ H a.block) args vs) : Calls P f vs.toArray W fun e W' => e = .returned (.bool true) ∧ Below W.heap.size W W' := by
  obtain ⟨_, hc⟩ := h.2.1 H W (fun _ => undef) (fun _ _ => False) ⟨0, []⟩ args vs _ hw (SOk.empty hh hg _ _)
    (CnL_mono (Nat.le_refl _) (fun _ _ => rfl) (fun a u hau => ⟨hau.1, fun ⟨_, _, h1, _⟩ => by simp [lk] at h1, hau.2⟩) _ _ hvs)
  refine hc.mono ?_
  rintro e W' ⟨m', B', s', out, rfl, hO, hS, hout⟩
  cases e with
  | returned v =>
    simp only [OutOk, Cn, Rd] at hout
    refine ⟨by rw [hout.1], ⟨hS.os, hS.tape, hS.output, hS.size, fun k hk => hS.block k hk fun ⟨_, _, h1, _⟩ => by simp [lk] at h1⟩⟩
  | _ => exact hout.elim

/-- Nothing is hidden, nothing is laid. -/
def noH : Hd (fun _ => True) := ⟨fun _ => False, fun _ => False, fun _ h => h, fun _ _ _ _ => trivial, 0⟩
section
variable {H : Type} {enc : TypeId × Value → H} {P : Program}
theorem post_of_below {f : Func} {s : ChangeSpec} {apart fresh handsOn again : Bool} {W W' : World} {args : Array Value} {v : Value} {ds gs : List (DataW H)} {before pa pv : List MemPlace}
    (hW : DataW.Whole enc P f.params.toList s.vars apart W args.toList ds gs before)
    (hres : ∀ (b : Nat) (sp : Nat → Bool) (hd : Bool), DataW.TrodAll enc P W' b sp hd f.resultTypes.toList (v.resultList f.resultTypes.size) (s.fn H (ds ++ gs)).results [])
    (hargs : ∀ sp : Nat → Bool, (∀ p ∈ before, sp p.block = true) → DataW.TrodAll enc P W' 0 sp true f.params.toList args.toList (s.fn H (ds ++ gs)).args pa)
    (hvars : ∀ sp : Nat → Bool, (∀ p ∈ before, sp p.block = true) → DataW.TrodVars enc P W' sp s.vars (s.fn H (ds ++ gs)).vars pv)
    (hps : before = pa ++ pv) (hb : Below W.heap.size W W')
    (hok : ∀ (j : Nat) (t : TypeId) (r : Value), f.resultTypes[j]? = some t → (v.resultList f.resultTypes.size)[j]? = some r → Value.okWide P W' .any 0 t r) :
    s.post enc P f apart fresh handsOn again W args v W' := by
  have hlt : ∀ p ∈ before, p.block < W.heap.size := fun p hp => hW.lt p hp
  have hold : ∀ p ∈ before, (fun b => decide (b < W.heap.size)) p.block = true := fun p hp => by simpa using hlt p hp
  refine ⟨ds, gs, before, [], pa, pv, hW, hres _ _ _, hargs _ hold, hvars _ hold, World.keptBut_mono (fun p hp => ⟨hp, ?_⟩) (hb.frame (· ∈ before)), fun _ => ?_⟩
  · rw [hps, List.mem_append] at hp
    exact Or.inr hp
  · obtain ⟨_, _, _, _, _, hz, hn⟩ := hW
    refine ⟨hok, _, _, ([] ++ pa) ++ pv, ⟨[] ++ pa, pv, trodAll_append (hargs _ (fun _ _ => rfl)) (hres _ _ _), hvars _ (fun _ _ => rfl), rfl, ?_, ?_⟩, ?_⟩
    · intro b off hp
      have hin : MemPlace.cell b off ∈ before := by rw [hps]; simpa using hp
      rw [hb.frozen (hlt _ hin)]
      exact hz b off hin
    · intro ha
      have := hn ha
      rw [hps] at this
      simpa using this
    · intro p hp _
      rw [hps]
      simpa using hp
end
end Go.Ev
set_option linter.unusedVariables false
set_option linter.unusedSimpArgs false
namespace Go.Proofs.YtpbkdcfjlbdgfaaDoor
open Go Go.Ev
open Go.ChangeShapes Go.WideShapes Go.ChangeAt Go.RowKit
set_option maxRecDepth 100000
/-- Shapes of data: what stands in a cell. -/
inductive Sh where
  | int (k : IntKind)
  | str
  | bool
  | sl (fs : List Sh)
mutual
def HasD : D → Sh → Prop
  | .v x, s => match x, s with
    | .int k' z, .int k => k' = k ∧ k ≠ .u64 ∧ (Lit.int k z).wf = true
    | .string _, .str => True
    | .bool _, .bool => True
    | _, _ => False
  | .sl rows, s => match s with
    | .sl fs => HasR rows fs
    | _ => False
  | .pt _, _ => False
  | .ifc _ _, _ => False
def HasL : List D → List Sh → Prop
  | [], fs => fs = []
  | d :: ds, fs => match fs with
    | s :: ss => HasD d s ∧ HasL ds ss
    | [] => False
def HasR : List (List D) → List Sh → Prop
  | [], _ => True
  | r :: rs, fs => HasL r fs ∧ HasR rs fs
end
mutual
def dsz : D → Nat
  | .v x => match x with
    | .string s => s.size + 1
    | _ => 1
  | .sl rows => dszR rows + 1
  | .pt _ => 0
  | .ifc _ _ => 0
def dszL : List D → Nat
  | [] => 0
  | d :: ds => dsz d + dszL ds
def dszR : List (List D) → Nat
  | [] => 0
  | r :: rs => dszL r + dszR rs
end
/-- The shapes of a type's cells. -/
def shF (P : Program) : Nat → TypeId → Option (List Sh)
  | 0, _ => none
  | n + 1, t => match P.underlying t with
    | some (.int k) => if k = .u64 then none else some [.int k]
    | some .string => some [.str]
    | some .bool => some [.bool]
    | some (.slice e) => (shF P n e).bind fun fs => if fs.isEmpty then none else some [.sl fs]
    | some (.struct fs) => if Go.Deep.oneCellFields P fs && P.cellsOf t == fs.size then fs.toList.mapM fun f => (shF P n f.type).bind fun l => match l with
        | [s] => some s
        | _ => none
      else none
    | _ => none

section
variable {H : Type} {enc : TypeId × Value → H} {P : Program} {W : World} {c : Rdr}
theorem has_no64 : ∀ {d : D} {s : Sh} {u : Value}, HasD d s → Rd c d u → ∀ z, u ≠ .int .u64 z
  | .v x, s, u, h, hr, z => by
    simp only [Rd] at hr
    rintro rfl
    rw [← hr.1] at h
    simp only [HasD] at h
    split at h
    · rename_i k' n k e1
      simp only [Value.int.injEq] at e1
      obtain ⟨e1, _⟩ := e1
      exact h.2.1 (h.1.symm.trans e1.symm)
    · rename_i e; cases e
    · rename_i e; cases e
    · exact h
  | .sl rows, s, u, h, hr, z => by
    simp only [Rd] at hr
    obtain ⟨A, cap, e, _⟩ := hr
    rw [e]; intro e2; cases e2
theorem HasL_len : ∀ {ds : List D} {fs : List Sh}, HasL ds fs → ds.length = fs.length
  | [], fs, h => by simp only [HasL] at h; subst h; rfl
  | d :: ds, [], h => by simp [HasL] at h
  | d :: ds, s :: ss, h => by simp only [HasL] at h; simp [HasL_len h.2]
theorem rdCells_of (hc : ∀ a u, W.cell? a = some u → (∀ z, u ≠ .int .u64 z) → c a u) {a : Addr} : ∀ {ds : List D} {fs : List Sh} {cs : List Value} {k : Nat}, RdL c ds cs → HasL ds fs → (∀ j, j < cs.length → W.cell? (a.add (k + j)) = cs[j]?) → RdCells c a k ds
  | [], _, _, _, _, _, _ => by simp [RdCells]
  | d :: ds, [], cs, k, h, hl, hw => by simp [HasL] at hl
  | d :: ds, s :: ss, [], k, h, hl, hw => by simp [RdL] at h
  | d :: ds, s :: ss, u :: cs, k, h, hl, hw => by
    simp only [RdL] at h
    simp only [HasL] at hl
    simp only [RdCells]
    have h0 := hw 0 (by simp)
    simp only [Nat.add_zero, List.getElem?_cons_zero] at h0
    refine ⟨⟨u, hc _ _ h0 (has_no64 hl.1 h.1), h.1⟩, rdCells_of hc (k := k + 1) h.2 hl.2 fun j hj => ?_⟩
    have := hw (j + 1) (by simp; omega)
    rw [show k + 1 + j = k + (j + 1) by omega]
    simpa using this
theorem rdRows_of {a : Addr} {sz : Nat} : ∀ {l : List (List D)} {k : Nat}, (∀ i r, l[i]? = some r → r.length = sz ∧ RdCells c a (k + i * sz) r) → RdRows c a sz k l
  | [], k, h => by simp [RdRows]
  | r :: l, k, h => by
    have h0 := h 0 r rfl
    simp only [RdRows]
    refine ⟨h0.1, by simpa using h0.2, rdRows_of fun i x hx => ?_⟩
    have := h (i + 1) x (by simpa using hx)
    rw [show k + sz + i * sz = k + (i + 1) * sz by rw [Nat.add_mul]; omega]
    exact this
theorem HasR_of : ∀ {l : List (List D)} {fs : List Sh}, (∀ r ∈ l, HasL r fs) → HasR l fs
  | [], _, _ => by simp [HasR]
  | r :: l, fs, h => by simp only [HasR]; exact ⟨h r (by simp), HasR_of fun x hx => h x (by simp [hx])⟩
theorem dszR_le {F : Nat → List D} {X : Nat → DataW H} : ∀ {l : List Nat}, (∀ i ∈ l, dszL (F i) ≤ Rows.uptoBulk (X i)) → dszR (l.map F) ≤ Rows.uptoBulkAll (l.map X)
  | [], _ => by simp [dszR, Rows.uptoBulkAll]
  | i :: l, h => by
    simp only [List.map_cons, dszR, Rows.uptoBulkAll]
    have h0 := h i (by simp)
    have := dszR_le (l := l) fun j hj => h j (by simp [hj])
    omega

open Go.Deep in
theorem openF (hc : ∀ a u, W.cell? a = some u → (∀ z, u ≠ .int .u64 z) → c a u) : ∀ (n : Nat) (t : TypeId) (fs : List Sh), shF P n t = some fs → ∀ (fuel : Nat) (cs : List Value) (x : DataW H × List MemPlace), DataW.trod enc P W 0 (fun _ => true) true fuel t cs = some x →
    ∃ ds, RdL c ds cs ∧ HasL ds fs ∧ dszL ds ≤ Rows.uptoBulk x.1
  | 0, t, fs, h, _, _, _, _ => by simp [shF] at h
  | n + 1, t, fs, h, fuel, cs, x, hx => by
    unfold shF at h
    split at h
    · rename_i k hu
      split at h
      · cases h
      · rename_i hk
        simp only [Option.some.injEq] at h; subst h
        obtain ⟨z, rfl, rfl, hw⟩ := DataW.trod_int hu hx
        exact ⟨[.v (.int k z)], ⟨⟨rfl, rfl⟩, trivial⟩, by simp [HasL, HasD, hk, hw], by simp [dszL, dsz, Rows.uptoBulk]⟩
    · rename_i hu
      simp only [Option.some.injEq] at h; subst h
      obtain ⟨s, rfl, rfl, _⟩ := DataW.trod_string hu hx
      refine ⟨[.v (.string s)], ⟨⟨rfl, rfl⟩, trivial⟩, by simp [HasL, HasD], ?_⟩
      simp [dszL, dsz, Rows.uptoBulk]
    · rename_i hu
      simp only [Option.some.injEq] at h; subst h
      obtain ⟨s, rfl, rfl⟩ := DataW.trod_bool hu hx
      exact ⟨[.v (.bool s)], ⟨⟨rfl, rfl⟩, trivial⟩, by simp [HasL, HasD], by simp [dszL, dsz, Rows.uptoBulk]⟩
    · rename_i e hu
      obtain ⟨gs, hg, h⟩ := Option.bind_eq_some_iff.1 h
      split at h
      · cases h
      · rename_i hne
        simp only [Option.some.injEq] at h; subst h
        rcases open_slice hu hx with ⟨rfl, rfl⟩ | ⟨a, len, cap, mm, n', X, Pl, rfl, _, hl, hm, hz, rfl, hi⟩
        · refine ⟨[.sl []], ⟨?_, trivial⟩, by simp [HasL, HasD, HasR], by simp [dszL, dsz, dszR, Rows.uptoBulk]⟩
          simp only [Rd]
          exact ⟨none, 0, rfl, by simp, by simp, .inl trivial⟩
        · simp only [if_true] at hz
          subst hz
          have hM : maxLen = 9223372036854775807 := by decide
          have each : ∀ i, ∃ ds, i < len → (∃ cs', W.cells? 0 (a.add (i * P.cellsOf e)) (P.cellsOf e) = some cs' ∧ RdL c ds cs') ∧ HasL ds gs ∧ dszL ds ≤ Rows.uptoBulk (X i) := fun i => by
            by_cases hil : i < len
            · obtain ⟨cs', h1, h2⟩ := hi i (by omega)
              obtain ⟨ds, k1, k2, k3⟩ := openF hc n e gs hg n' cs' _ h2
              exact ⟨ds, fun _ => ⟨⟨cs', h1, k1⟩, k2, k3⟩⟩
            · exact ⟨[], fun h => absurd h hil⟩
          let F : Nat → List D := fun i => Classical.choose (each i)
          have hF : ∀ i, i < len → (∃ cs', W.cells? 0 (a.add (i * P.cellsOf e)) (P.cellsOf e) = some cs' ∧ RdL c (F i) cs') ∧ HasL (F i) gs ∧ dszL (F i) ≤ Rows.uptoBulk (X i) := fun i hil => Classical.choose_spec (each i) hil
          refine ⟨[.sl ((List.range len).map F)], ⟨?_, trivial⟩, ?_, ?_⟩
          · simp only [Rd]
            refine ⟨some a, mm, by simp, by simp; omega, by simp; omega, ?_⟩
            by_cases h0 : len = 0
            · left; subst h0; rfl
            · right
              refine ⟨a, P.cellsOf e, rfl, ?_, rdRows_of fun i r hr => ?_⟩
              · obtain ⟨⟨cs', h1, h2⟩, h3, _⟩ := hF 0 (by omega)
                obtain ⟨_, h4, h5⟩ := World.cells?_some h1
                have h6 := RdL_length h2
                have h7 := HasL_len h3
                have h8 : 0 < P.cellsOf e := by
                  rw [← h4, h6, h7]
                  cases gs with
                  | nil => simp at hne
                  | cons _ _ => simp
                have h9 := h5 0 h8
                rw [Nat.zero_mul, List.getElem?_eq_getElem (by omega)] at h9
                have := World.cell?_spot h9
                simpa [Addr.add] using this
              · rw [List.getElem?_map] at hr
                obtain ⟨j, hj, rfl⟩ := Option.map_eq_some_iff.1 hr
                obtain ⟨hil, rfl⟩ := List.getElem?_eq_some_iff.1 hj
                simp only [List.getElem_range] at *
                simp only [List.length_range] at hil
                obtain ⟨⟨cs', h1, h2⟩, h3, _⟩ := hF i hil
                obtain ⟨_, h4, h5⟩ := World.cells?_some h1
                refine ⟨by rw [← RdL_length h2, h4], ?_⟩
                refine rdCells_of hc h2 h3 fun j hj => ?_
                have := h5 j (by omega)
                rw [← this, Nat.zero_add, Go.Deep.add_add]
          · simp only [HasL, HasD, and_true]
            refine HasR_of fun r hr => ?_
            obtain ⟨i, hi', rfl⟩ := List.mem_map.1 hr
            exact (hF i (List.mem_range.1 hi')).2.1
          · have := dszR_le (F := F) (X := X) (l := List.range len) fun i hi' => (hF i (List.mem_range.1 hi')).2.2
            simp only [dszL, dsz, Rows.uptoBulk]
            omega
    · rename_i fl hu
      split at h
      · rename_i hone'
        simp only [Bool.and_eq_true, beq_iff_eq] at hone'
        obtain ⟨hone, hct⟩ := hone'
        obtain ⟨ys, n', hn', rfl, hlen, hyl, hff⟩ := DataW.trod_struct hu hx
        have h0 := h
        clear h
        have key : ∀ (i : Nat) (r : List Field) (ss : List Sh), (∀ j f, r[j]? = some f → fl[i + j]? = some f) → i + r.length = fl.size → (r.mapM fun f => (shF P n f.type).bind fun l => match l with
              | [s] => some s
              | _ => none) = some ss → cs.length = fl.size → ∃ ds, RdL c ds (cs.drop i) ∧ HasL ds ss ∧ dszL ds ≤ Rows.uptoBulkAll ((ys.drop i).map (·.1)) := by
          intro i r
          induction r generalizing i with
          | nil =>
            intro ss hr hl hs hcs
            simp only [List.mapM_nil, Option.pure_def, Option.some.injEq] at hs; subst hs
            simp only [List.length_nil, Nat.add_zero] at hl
            rw [List.drop_of_length_le (by omega)]
            exact ⟨[], trivial, by simp [HasL], by simp [dszL]⟩
          | cons f r ih =>
            intro ss hr hl hs hcs
            simp only [List.mapM_cons, Option.bind_eq_bind, Option.bind_eq_some_iff, Option.pure_def, Option.some.injEq] at hs
            obtain ⟨s, ⟨l1, hl1, hl2⟩, ss', hs', rfl⟩ := hs
            have hl3 : l1 = [s] := by
              split at hl2
              · simp only [Option.some.injEq] at hl2; subst hl2; rfl
              · cases hl2
            subst hl3
            have hfi : fl[i]? = some f := hr 0 f rfl
            obtain ⟨ho, hk⟩ := hone_of hone i f hfi
            have h2 := hff i f hfi
            simp only [List.length_cons] at hl
            have hic : i < cs.length := by omega
            have hiy : i < ys.length := by omega
            rw [ho, hk, List.drop_eq_getElem_cons hic, List.take_succ_cons, List.take_zero, List.getElem?_eq_getElem hiy] at h2
            obtain ⟨ds1, k1, k2, k3⟩ := openF hc n f.type [s] hl1 n' _ _ h2
            obtain ⟨ds2, q1, q2, q3⟩ := ih (i + 1) ss' (fun j g hj => by
              have := hr (j + 1) g (by simpa using hj)
              rwa [show i + (j + 1) = i + 1 + j by omega] at this) (by omega) hs' hcs
            rw [List.drop_eq_getElem_cons hic, List.drop_eq_getElem_cons hiy]
            match ds1, k1, k2 with
            | [d], k1, k2 =>
              refine ⟨d :: ds2, ⟨k1.1, q1⟩, ?_, ?_⟩
              · simp only [HasL, and_true] at k2 ⊢; exact ⟨k2, q2⟩
              · simp only [dszL, List.map_cons, Rows.uptoBulkAll] at k3 ⊢; omega
            | [], k1, k2 => simp [HasL] at k2
            | _ :: _ :: _, k1, k2 => simp [HasL] at k2
        have hcl : cs.length = fl.size := hlen.trans hct
        obtain ⟨ds, k1, k2, k3⟩ := key 0 fl.toList fs (fun j f hj => by simpa using hj) (by simp) h0 hcl
        refine ⟨ds, by simpa using k1, k2, ?_⟩
        simp only [List.drop_zero] at k3
        simp only [Rows.uptoBulk]
        omega
      · cases h
    · cases h
end
end Go.Proofs.YtpbkdcfjlbdgfaaDoor
