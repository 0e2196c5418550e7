/- What settles conflicts in a merged text is what the reference does: for every text, whatever names, within the bulk that the row allows. Part 4 of 5. -/
import Derived.Test.YtpbkdcfjlbdgfaaDoorProg
import Derived.Shelf.Strings.Builder1
import Derived.Shelf.Strings.Builder2
import Derived.Shelf.Strings.OnBuilder
import Derived.Shelf.Strings.Trim
import Derived.Shelf.Small.Utf8
import Derived.Shelf.Small.Strs
import Derived.Shelf.Small.Wraps
import Derived.Shelf.Strings.BuilderF
import Derived.Shelf.Utf8.RuneCount
import Derived.Shelf.Strconv.Atoi
import Derived.Shelf.Strconv.Itoa0
import Derived.Shelf.Strconv.Itoa1
import Derived.Shelf.LaysM
import Derived.Shelf.Strconv.Itoa2
import Derived.Shelf.Strconv.Itoa3
import Derived.Shelf.Strconv.AtoiErrFast
import Derived.Shelf.Strconv.ParseIntEmpty
import Derived.Shelf.Strconv.AtoiFail
import Derived.Shelf.Strconv.Clone
import Derived.Shelf.Strconv.SyntaxError
import Derived.Shelf.LaysC
import Derived.Shelf.Strconv.ToError
import Derived.Shelf.Strconv.Lower
import Derived.Shelf.Strconv.ParseUint10
import Derived.Shelf.Strconv.ParseUint10Empty
import Derived.Shelf.Strconv.ParseUint10Any
import Derived.Shelf.Strconv.ParseInt10
import Derived.Shelf.Strconv.AtoiLong
import Derived.Shelf.Strconv.AtoiInnerAll
import Derived.Shelf.Strconv.RangeError
import Derived.Shelf.Strconv.ToErrorRange
import Derived.Shelf.Strconv.AtoiAll
import Derived.Shelf.Strconv.ErrVarAll
import Derived.Shelf.Strings.Search1
import Derived.Shelf.Strings.Search2
import Derived.Shelf.Strings.Search3
import Derived.Shelf.Strings.Count
import Derived.Shelf.Strings.Shaped
import Derived.Shelf.Strings.Prefix
import Derived.Shelf.Strings.Split
import Derived.Shelf.Unicode.Decode
import Derived.Shelf.Strings.Runes
import Derived.Shelf.Strings.RuneCount
import Derived.Shelf.Strings.IndexAny
import Derived.Shelf.Strings.AsciiSet
import Derived.Shelf.Strings.IndexAnyAll
import Derived.Shelf.Strings.Explode
import Derived.Shelf.Bits.Mul64
import Derived.Shelf.Strings.Repeat
import Derived.Shelf.Unicode.DecodeSlow
import Derived.Shelf.Unicode.DecodeAny
import Derived.Lib.IndexBytes
import Derived.Lib.Strings
import Derived.Lib.Slices
import Derived.Lib.Walk
import Derived.Lib.Bytealg
import Derived.Test.YtpbkdcfjlbdgfaaDoorMp1
import Derived.Test.YtpbkdcfjlbdgfaaDoorMp2
import Derived.Test.YtpbkdcfjlbdgfaaDoorMp3
/- The compiled code of functions, by program (gen.py): each theorem says that the loaded program compiles to it. -/
set_option linter.unusedVariables false
namespace Go.Proofs.YtpbkdcfjlbdgfaaDoor
open Go Go.Ev
set_option maxRecDepth 100000

/-! 10: redline/redlinelaw20.MergePicks -/
def A10 : Ann := ⟨fun _ _ => 0, fun r => if r = 3 then some ([], [(0, true), (1, true), (2, true), (3, true), (4, true), (6, true), (5, false), (7, true), (8, true), (9, true)]) else none, fun r => if r = 1 then some (false, [0, 2, 4]) else if r = 2 then some (false, [0, 2, 4, 7, 8]) else if r = 3 then some (false, [7, 8, 9, 10]) else none, fun _ => []⟩
def S10 : SCode :=
  (.seq (.ops [⟨none, (some 4), .bx 4 45 3 (.s 1), false⟩,
    ⟨none, (some 6), .mv 6 (.k (Value.bool false)), false⟩])
  (.seq (.seq (.keep [0, 2, 4]) (.ops [⟨none, (some 12), .mv 12 (.s 0), false⟩,
    ⟨none, (some 13), .ld 13 true 3 (.s 4), false⟩,
    ⟨none, (some 14), .call (some 14) 35 false [(.s 13)], false⟩,
    ⟨none, (some 15), .mv 15 (.s 2), false⟩,
    ⟨none, (some 16), .call (some 16) 34 false [(.s 12), (.s 14), (.s 15)], false⟩,
    ⟨none, (some 11), .mv 11 (.s 16), false⟩,
    ⟨none, (some 17), .ex 17 (.s 11) 0, false⟩,
    ⟨none, (some 18), .ex 18 (.s 11) 1, false⟩,
    ⟨none, (some 7), .mv 7 (.s 17), false⟩,
    ⟨none, (some 8), .mv 8 (.s 18), true⟩]))
  (.seq (.seq (.keep [0, 2, 4, 7, 8]) (.ops [⟨none, (some 20), .mv 20 (.s 0), false⟩,
    ⟨none, (some 21), .ld 21 true 3 (.s 4), false⟩,
    ⟨none, (some 22), .mv 22 (.s 2), false⟩,
    ⟨none, (some 23), .call (some 23) 36 false [(.s 20), (.s 21), (.s 22)], false⟩,
    ⟨none, (some 19), .mv 19 (.s 23), false⟩,
    ⟨none, (some 24), .ex 24 (.s 19) 0, false⟩,
    ⟨none, (some 25), .ex 25 (.s 19) 1, false⟩,
    ⟨none, (some 10), .al 10 53 [(Value.int .i64 0), (Value.int .i64 0)], false⟩,
    ⟨none, (some 9), .mv 9 (.s 24), false⟩,
    ⟨none, none, .st true 2 (.s 10) (.s 25), true⟩]))
  (.seq (.seq (.keep [7, 8, 9, 10]) (.dr [] [(0, true, ⟨none, (some 26), .mv 26 (.s 7), false⟩),
    (1, true, ⟨none, (some 27), .mv 27 (.s 9), false⟩),
    (2, true, ⟨none, (some 28), .bin 28 .eql (.s 26) (.s 27), false⟩),
    (3, true, ⟨none, (some 29), .mv 29 (.s 28), false⟩),
    (4, true, ⟨(some (29, true)), (some 30), .mv 30 (.s 8), false⟩),
    (6, true, ⟨(some (29, true)), (some 32), .ld 32 true 2 (.s 10), false⟩),
    (5, false, ⟨(some (29, true)), (some 31), .call (some 31) 37 false [(.s 30)], false⟩),
    (7, true, ⟨(some (29, true)), (some 33), .eqa 33 false [0, 0] (.s 31) (.s 32), false⟩),
    (8, true, ⟨none, (some 34), .pk 34 (.s 29) (.s 33) (.k (Value.bool false)), false⟩),
    (9, true, ⟨none, (some 6), .mv 6 (.s 34), true⟩)]))
  .ret))))
theorem cc10 : (Tryd.f10.body).bind (cc Tryd.prog Tryd.f10.ntmps A10) = some S10 := by kernel_rfl
def R10 : List RR := [.sl 6]
theorem cr10 : Tryd.f10.results.toList.map (crr Tryd.prog) = R10.map some := by kernel_rfl
theorem nm10 : (Tryd.f10.name == "runtime.NumGoroutine") = false := by kernel_rfl
theorem fn10 : Tryd.prog.funcs[10]? = some Tryd.f10 := by kernel_rfl
theorem bd10 : ∃ b, Tryd.f10.body = some b ∧ cc Tryd.prog Tryd.f10.ntmps A10 b = some S10 := Option.bind_eq_some_iff.1 cc10
theorem sd10 {G : World → Prop} {T : FuncId → Contract} {C : Contract} (hT : ∀ f, Sound G Tryd.prog f (T f)) (hl : C.lawful) (hC : ∀ args st K, C.wp args st K → args.length ≤ 35 ∧ ∃ os op, xv T st.n S10 (st0 args st) (retK R10 st.n os K) (panK st.n op K)) (hit : SoundIt G Tryd.prog 10 C.it := by exact SoundIt.none) : Sound G Tryd.prog 10 C := by
  obtain ⟨b, hb, hc⟩ := bd10
  rw [xv_eq] at hC
  exact sound_of_ev mo fn10 hb nm10 hc cr10 hT hl hit hC

/-! 34: redline/merge.Pick -/
def A34 : Ann := ⟨fun r i => if r = 3 ∧ i = 0 then 7 else if r = 9 ∧ i = 6 then 1 else if r = 11 ∧ i = 6 then 1 else if r = 15 ∧ i = 6 then 1 else 0, fun _ => none, fun r => if r = 1 then some (false, [0, 2, 4]) else if r = 2 then some (false, []) else if r = 5 then some (false, [0, 2, 4, 8, 9]) else if r = 6 then some (false, [2, 4, 8, 9, 10]) else if r = 8 then some (false, [2, 4, 8, 9, 10, 22, 23, 24]) else if r = 9 then some (false, [2, 4, 8, 9, 10, 12, 22, 23, 24]) else if r = 11 then some (false, [2, 4, 8, 9, 10, 12, 22, 23, 24]) else if r = 13 then some (false, [2, 4, 8, 9, 10, 12, 22, 23, 24]) else if r = 15 then some (false, [2, 4, 8, 9, 10, 12, 22, 23, 24]) else if r = 17 then some (false, [2, 4, 8, 9, 10, 12, 22, 23, 24]) else if r = 21 then some (false, [10]) else if r = 22 then some (false, [8]) else none, fun r => if r = 7 then [2, 4, 8, 9, 10, 22, 23, 24] else []⟩
def S34 : SCode :=
  (.seq (.ops [⟨none, (some 4), .bx 4 50 3 (.s 1), false⟩,
    ⟨none, (some 6), .mv 6 (.k (Value.string ⟨#[]⟩)), false⟩,
    ⟨none, (some 7), .mv 7 (.k Value.nilIface), false⟩])
  (.seq (.seq (.seq (.keep [0, 2, 4]) (.ops [⟨none, (some 13), .ld 13 true 3 (.s 4), false⟩,
    ⟨none, (some 14), .call (some 14) 81 false [(.s 13)], false⟩,
    ⟨none, (some 15), .not 15 (.s 14), false⟩]))
  (.cond (.s 15) (.seq (.seq (.keep []) (.ops [⟨none, (some 16), .mi 16 24 (.k (Value.int .i64 253)), false⟩,
    ⟨none, (some 17), .bd 17 [(Value.int .i64 0), Value.nilIface] [(1, 1, (.s 16))], false⟩,
    ⟨none, (some 18), .bx 18 106 2 (.s 17), false⟩,
    ⟨none, (some 19), .mi 19 104 (.s 18), false⟩,
    ⟨none, (some 6), .mv 6 (.k (Value.string ⟨#[]⟩)), false⟩,
    ⟨none, (some 7), .mv 7 (.s 19), false⟩]))
  .ret) .skip))
  (.seq (.ops [⟨none, (some 8), .alb 8 70 5, false⟩])
  (.seq (.ops [⟨none, (some 9), .mv 9 (.k (Value.int .i64 0)), false⟩])
  (.seq (.seq (.keep [0, 2, 4, 8, 9]) (.ops [⟨none, (some 20), .mv 20 (.s 0), false⟩,
    ⟨none, (some 21), .call (some 21) 82 false [(.s 20)], false⟩,
    ⟨none, (some 10), .mv 10 (.s 21), false⟩]))
  (.seq (.seq (.seq (.keep [2, 4, 8, 9, 10]) (.ops [⟨none, (some 22), .mv 22 (.s 10), false⟩,
    ⟨none, (some 23), .len 23 (.s 22), false⟩,
    ⟨none, (some 24), .mv 24 (.k (Value.int .i64 0)), false⟩]))
  (.block 0 (.loop [2, 4, 8, 9, 10, 22, 23, 24] (.seq (.ops [⟨none, (some 25), .bin 25 .lss (.s 24) (.s 23), false⟩])
  (.seq (.cond (.s 25) .skip (.exit 0))
  (.seq (.block 1 (.seq (.seq (.keep [2, 4, 8, 9, 10, 22, 23, 24]) (.ops [⟨none, (some 26), .ia 26 1 (.s 22) (.s 24), false⟩,
    ⟨none, (some 27), .ld 27 false 1 (.s 26), false⟩,
    ⟨none, (some 12), .mv 12 (.s 27), false⟩]))
  (.block 2 (.seq (.seq (.keep [2, 4, 8, 9, 10, 12, 22, 23, 24]) (.ops [⟨none, (some 29), .mv 29 (.s 9), false⟩,
    ⟨none, (some 30), .bin 30 .eql (.s 29) (.k (Value.int .i64 0)), false⟩,
    ⟨none, (some 31), .mv 31 (.s 30), false⟩,
    ⟨(some (31, true)), (some 32), .mv 32 (.s 12), false⟩,
    ⟨(some (31, true)), (some 33), .fa 33 0 (.s 4), false⟩,
    ⟨(some (31, true)), (some 34), .ld 34 false 1 (.s 33), false⟩,
    ⟨(some (31, true)), (some 35), .call (some 35) 83 true [(.k (Value.string ⟨#[60]⟩)), (.s 34)], false⟩,
    ⟨(some (31, true)), (some 36), .bin 36 .eql (.s 32) (.s 35), false⟩,
    ⟨none, (some 37), .pk 37 (.s 31) (.s 36) (.k (Value.bool false)), false⟩,
    ⟨none, (some 28), .mv 28 (.s 37), true⟩]))
  (.cond (.s 28) (.ops [⟨none, (some 9), .mv 9 (.k (Value.int .i64 1)), false⟩]) (.seq (.seq (.keep [2, 4, 8, 9, 10, 12, 22, 23, 24]) (.ops [⟨none, (some 39), .mv 39 (.s 9), false⟩,
    ⟨none, (some 40), .bin 40 .eql (.s 39) (.k (Value.int .i64 1)), false⟩,
    ⟨none, (some 41), .mv 41 (.s 40), false⟩,
    ⟨(some (41, true)), (some 42), .mv 42 (.s 12), false⟩,
    ⟨(some (41, true)), (some 43), .fa 43 1 (.s 4), false⟩,
    ⟨(some (41, true)), (some 44), .ld 44 false 1 (.s 43), false⟩,
    ⟨(some (41, true)), (some 45), .call (some 45) 83 true [(.k (Value.string ⟨#[124]⟩)), (.s 44)], false⟩,
    ⟨(some (41, true)), (some 46), .bin 46 .eql (.s 42) (.s 45), false⟩,
    ⟨none, (some 47), .pk 47 (.s 41) (.s 46) (.k (Value.bool false)), false⟩,
    ⟨none, (some 38), .mv 38 (.s 47), true⟩]))
  (.cond (.s 38) (.ops [⟨none, (some 9), .mv 9 (.k (Value.int .i64 2)), false⟩]) (.seq (.seq (.keep [2, 4, 8, 9, 10, 12, 22, 23, 24]) (.ops [⟨none, (some 49), .mv 49 (.s 9), false⟩,
    ⟨none, (some 50), .bin 50 .eql (.s 49) (.k (Value.int .i64 1)), false⟩,
    ⟨none, (some 51), .mv 51 (.s 50), false⟩,
    ⟨(some (51, false)), (some 52), .mv 52 (.s 9), false⟩,
    ⟨(some (51, false)), (some 53), .bin 53 .eql (.s 52) (.k (Value.int .i64 2)), false⟩,
    ⟨none, (some 54), .pk 54 (.s 51) (.k (Value.bool true)) (.s 53), false⟩,
    ⟨none, (some 55), .mv 55 (.s 54), false⟩,
    ⟨(some (55, true)), (some 56), .mv 56 (.s 12), false⟩,
    ⟨(some (55, true)), (some 57), .bin 57 .eql (.s 56) (.k (Value.string ⟨#[61, 61, 61, 61, 61, 61, 61, 10]⟩)), false⟩,
    ⟨none, (some 58), .pk 58 (.s 55) (.s 57) (.k (Value.bool false)), true⟩,
    ⟨none, (some 48), .mv 48 (.s 58), false⟩]))
  (.cond (.s 48) (.ops [⟨none, (some 9), .mv 9 (.k (Value.int .i64 3)), false⟩]) (.seq (.seq (.keep [2, 4, 8, 9, 10, 12, 22, 23, 24]) (.ops [⟨none, (some 60), .mv 60 (.s 9), false⟩,
    ⟨none, (some 61), .bin 61 .eql (.s 60) (.k (Value.int .i64 3)), false⟩,
    ⟨none, (some 62), .mv 62 (.s 61), false⟩,
    ⟨(some (62, true)), (some 63), .mv 63 (.s 12), false⟩,
    ⟨(some (62, true)), (some 64), .fa 64 2 (.s 4), false⟩,
    ⟨(some (62, true)), (some 65), .ld 65 false 1 (.s 64), false⟩,
    ⟨(some (62, true)), (some 66), .call (some 66) 83 true [(.k (Value.string ⟨#[62]⟩)), (.s 65)], false⟩,
    ⟨(some (62, true)), (some 67), .bin 67 .eql (.s 63) (.s 66), false⟩,
    ⟨none, (some 68), .pk 68 (.s 62) (.s 67) (.k (Value.bool false)), false⟩,
    ⟨none, (some 59), .mv 59 (.s 68), true⟩]))
  (.cond (.s 59) (.ops [⟨none, (some 9), .mv 9 (.k (Value.int .i64 0)), false⟩]) (.seq (.seq (.keep [2, 4, 8, 9, 10, 12, 22, 23, 24]) (.ops [⟨none, (some 70), .mv 70 (.s 9), false⟩,
    ⟨none, (some 71), .bin 71 .eql (.s 70) (.k (Value.int .i64 0)), false⟩,
    ⟨none, (some 72), .mv 72 (.s 71), false⟩,
    ⟨(some (72, false)), (some 73), .mv 73 (.s 9), false⟩,
    ⟨(some (72, false)), (some 74), .bin 74 .eql (.s 73) (.k (Value.int .i64 1)), false⟩,
    ⟨(some (72, false)), (some 75), .mv 75 (.s 74), false⟩,
    ⟨(some (75, true)), (some 76), .mv 76 (.s 2), false⟩,
    ⟨(some (75, true)), (some 77), .not 77 (.s 76), false⟩,
    ⟨(some (72, false)), (some 78), .pk 78 (.s 75) (.s 77) (.k (Value.bool false)), false⟩,
    ⟨none, (some 79), .pk 79 (.s 72) (.k (Value.bool true)) (.s 78), true⟩,
    ⟨none, (some 80), .mv 80 (.s 79), false⟩,
    ⟨(some (80, false)), (some 81), .mv 81 (.s 9), false⟩,
    ⟨(some (80, false)), (some 82), .bin 82 .eql (.s 81) (.k (Value.int .i64 3)), false⟩,
    ⟨(some (80, false)), (some 83), .mv 83 (.s 82), false⟩,
    ⟨(some (83, true)), (some 84), .mv 84 (.s 2), false⟩,
    ⟨(some (80, false)), (some 85), .pk 85 (.s 83) (.s 84) (.k (Value.bool false)), false⟩,
    ⟨none, (some 86), .pk 86 (.s 80) (.k (Value.bool true)) (.s 85), false⟩,
    ⟨none, (some 69), .mv 69 (.s 86), false⟩]))
  (.cond (.s 69) (.ops [⟨none, (some 87), .mv 87 (.s 12), false⟩,
    ⟨none, (some 88), .call (some 88) 43 false [(.s 8), (.s 87)], false⟩]) .skip)))))))))))))
  (.ops [⟨none, (some 89), .binc 89 .add (.s 24) (.k (Value.int .i64 1)), false⟩,
    ⟨none, (some 24), .mv 24 (.s 89), false⟩])))))))
  (.seq (.seq (.ops [⟨none, (some 90), .mv 90 (.s 9), false⟩,
    ⟨none, (some 91), .bin 91 .neq (.s 90) (.k (Value.int .i64 0)), false⟩])
  (.cond (.s 91) (.seq (.seq (.keep [10]) (.ops [⟨none, (some 92), .mv 92 (.s 10), false⟩,
    ⟨none, (some 93), .len 93 (.s 92), false⟩,
    ⟨none, (some 94), .binc 94 .add (.s 93) (.k (Value.int .i64 1)), false⟩,
    ⟨none, (some 95), .mi 95 24 (.k (Value.int .i64 1)), false⟩,
    ⟨none, (some 96), .bd 96 [(Value.int .i64 0), Value.nilIface] [(0, 1, (.s 94)), (1, 1, (.s 95))], false⟩,
    ⟨none, (some 97), .bx 97 106 2 (.s 96), false⟩,
    ⟨none, (some 98), .mi 98 104 (.s 97), false⟩,
    ⟨none, (some 6), .mv 6 (.k (Value.string ⟨#[]⟩)), false⟩,
    ⟨none, (some 7), .mv 7 (.s 98), false⟩]))
  .ret) .skip))
  (.seq (.seq (.keep [8]) (.ops [⟨none, (some 99), .call (some 99) 45 false [(.s 8)], false⟩,
    ⟨none, (some 6), .mv 6 (.s 99), false⟩,
    ⟨none, (some 7), .mv 7 (.k Value.nilIface), false⟩]))
  .ret))))))))
theorem cc34 : (Tryd.f34.body).bind (cc Tryd.prog Tryd.f34.ntmps A34) = some S34 := by kernel_rfl
def R34 : List RR := [.sl 6, .sl 7]
theorem cr34 : Tryd.f34.results.toList.map (crr Tryd.prog) = R34.map some := by kernel_rfl
theorem nm34 : (Tryd.f34.name == "runtime.NumGoroutine") = false := by kernel_rfl
theorem fn34 : Tryd.prog.funcs[34]? = some Tryd.f34 := by kernel_rfl
theorem bd34 : ∃ b, Tryd.f34.body = some b ∧ cc Tryd.prog Tryd.f34.ntmps A34 b = some S34 := Option.bind_eq_some_iff.1 cc34
theorem sd34 {G : World → Prop} {T : FuncId → Contract} {C : Contract} (hT : ∀ f, Sound G Tryd.prog f (T f)) (hl : C.lawful) (hC : ∀ args st K, C.wp args st K → args.length ≤ 100 ∧ ∃ os op, xv T st.n S34 (st0 args st) (retK R34 st.n os K) (panK st.n op K)) (hit : SoundIt G Tryd.prog 34 C.it := by exact SoundIt.none) : Sound G Tryd.prog 34 C := by
  obtain ⟨b, hb, hc⟩ := bd34
  rw [xv_eq] at hC
  exact sound_of_ev mo fn34 hb nm34 hc cr34 hT hl hit hC

/-! 83: redline/merge.mark -/
def A83 : Ann := ⟨fun _ _ => 0, fun _ => none, fun r => if r = 1 then some (false, [0, 1]) else none, fun _ => []⟩
def S83 : SCode :=
  (.seq (.ops [⟨none, (some 4), .mv 4 (.k (Value.string ⟨#[]⟩)), false⟩])
  (.seq (.seq (.keep [0, 1]) (.ops [⟨none, (some 5), .mv 5 (.s 0), false⟩,
    ⟨none, (some 6), .call (some 6) 129 false [(.s 5), (.k (Value.int .i64 7))], false⟩,
    ⟨none, (some 7), .bin 7 .add (.s 6) (.k (Value.string ⟨#[32]⟩)), false⟩,
    ⟨none, (some 8), .mv 8 (.s 1), false⟩,
    ⟨none, (some 9), .bin 9 .add (.s 7) (.s 8), false⟩,
    ⟨none, (some 10), .bin 10 .add (.s 9) (.k (Value.string ⟨#[10]⟩)), false⟩,
    ⟨none, (some 4), .mv 4 (.s 10), false⟩]))
  .ret))
theorem cc83 : (Tryd.f83.body).bind (cc Tryd.prog Tryd.f83.ntmps A83) = some S83 := by kernel_rfl
def R83 : List RR := [.sl 4]
theorem cr83 : Tryd.f83.results.toList.map (crr Tryd.prog) = R83.map some := by kernel_rfl
theorem nm83 : (Tryd.f83.name == "runtime.NumGoroutine") = false := by kernel_rfl
theorem fn83 : Tryd.prog.funcs[83]? = some Tryd.f83 := by kernel_rfl
theorem bd83 : ∃ b, Tryd.f83.body = some b ∧ cc Tryd.prog Tryd.f83.ntmps A83 b = some S83 := Option.bind_eq_some_iff.1 cc83
theorem sd83 {G : World → Prop} {T : FuncId → Contract} {C : Contract} (hT : ∀ f, Sound G Tryd.prog f (T f)) (hl : C.lawful) (hC : ∀ args st K, C.wp args st K → args.length ≤ 11 ∧ ∃ os op, xv T st.n S83 (st0 args st) (retK R83 st.n os K) (panK st.n op K)) (hit : SoundIt G Tryd.prog 83 C.it := by exact SoundIt.none) : Sound G Tryd.prog 83 C := by
  obtain ⟨b, hb, hc⟩ := bd83
  rw [xv_eq] at hC
  exact sound_of_ev mo fn83 hb nm83 hc cr83 hT hl hit hC

/-! 81: (redline/merge.Names).named -/
def A81 : Ann := ⟨fun _ _ => 0, fun _ => none, fun r => if r = 1 then some (false, [1]) else none, fun _ => []⟩
def S81 : SCode :=
  (.seq (.ops [⟨none, (some 1), .bx 1 50 3 (.s 0), false⟩,
    ⟨none, (some 2), .mv 2 (.k (Value.bool false)), false⟩])
  (.seq (.seq (.keep [1]) (.ops [⟨none, (some 3), .fa 3 0 (.s 1), false⟩,
    ⟨none, (some 4), .ld 4 false 1 (.s 3), false⟩,
    ⟨none, (some 5), .fa 5 1 (.s 1), false⟩,
    ⟨none, (some 6), .ld 6 false 1 (.s 5), false⟩,
    ⟨none, (some 7), .bin 7 .add (.s 4) (.s 6), false⟩,
    ⟨none, (some 8), .fa 8 2 (.s 1), false⟩,
    ⟨none, (some 9), .ld 9 false 1 (.s 8), false⟩,
    ⟨none, (some 10), .bin 10 .add (.s 7) (.s 9), false⟩,
    ⟨none, (some 11), .call (some 11) 127 false [(.s 10), (.k (Value.string ⟨#[10]⟩))], false⟩,
    ⟨none, (some 12), .not 12 (.s 11), true⟩,
    ⟨none, (some 2), .mv 2 (.s 12), false⟩]))
  .ret))
theorem cc81 : (Tryd.f81.body).bind (cc Tryd.prog Tryd.f81.ntmps A81) = some S81 := by kernel_rfl
def R81 : List RR := [.sl 2]
theorem cr81 : Tryd.f81.results.toList.map (crr Tryd.prog) = R81.map some := by kernel_rfl
theorem nm81 : (Tryd.f81.name == "runtime.NumGoroutine") = false := by kernel_rfl
theorem fn81 : Tryd.prog.funcs[81]? = some Tryd.f81 := by kernel_rfl
theorem bd81 : ∃ b, Tryd.f81.body = some b ∧ cc Tryd.prog Tryd.f81.ntmps A81 b = some S81 := Option.bind_eq_some_iff.1 cc81
theorem sd81 {G : World → Prop} {T : FuncId → Contract} {C : Contract} (hT : ∀ f, Sound G Tryd.prog f (T f)) (hl : C.lawful) (hC : ∀ args st K, C.wp args st K → args.length ≤ 13 ∧ ∃ os op, xv T st.n S81 (st0 args st) (retK R81 st.n os K) (panK st.n op K)) (hit : SoundIt G Tryd.prog 81 C.it := by exact SoundIt.none) : Sound G Tryd.prog 81 C := by
  obtain ⟨b, hb, hc⟩ := bd81
  rw [xv_eq] at hC
  exact sound_of_ev mo fn81 hb nm81 hc cr81 hT hl hit hC

/-! 82: redline/lines.Split -/
def A82 : Ann := ⟨fun _ _ => 0, fun _ => none, fun r => if r = 1 then some (false, [0]) else if r = 2 then some (false, [3]) else if r = 3 then some (false, [3]) else none, fun _ => []⟩
def S82 : SCode :=
  (.seq (.ops [⟨none, (some 2), .mv 2 (.k (Value.slice none 0 0)), false⟩])
  (.seq (.seq (.keep [0]) (.ops [⟨none, (some 4), .mv 4 (.s 0), false⟩,
    ⟨none, (some 5), .call (some 5) 128 false [(.s 4), (.k (Value.string ⟨#[10]⟩))], false⟩,
    ⟨none, (some 3), .mv 3 (.s 5), false⟩]))
  (.seq (.seq (.seq (.keep [3]) (.ops [⟨none, (some 6), .mv 6 (.s 3), false⟩,
    ⟨none, (some 7), .mv 7 (.s 3), false⟩,
    ⟨none, (some 8), .len 8 (.s 7), false⟩,
    ⟨none, (some 9), .binc 9 .sub (.s 8) (.k (Value.int .i64 1)), false⟩,
    ⟨none, (some 10), .ia 10 1 (.s 6) (.s 9), false⟩,
    ⟨none, (some 11), .ld 11 false 1 (.s 10), false⟩,
    ⟨none, (some 12), .bin 12 .eql (.s 11) (.k (Value.string ⟨#[]⟩)), false⟩]))
  (.cond (.s 12) (.seq (.keep [3]) (.ops [⟨none, (some 13), .mv 13 (.s 3), false⟩,
    ⟨none, (some 14), .mv 14 (.s 3), false⟩,
    ⟨none, (some 15), .len 15 (.s 14), false⟩,
    ⟨none, (some 16), .binc 16 .sub (.s 15) (.k (Value.int .i64 1)), false⟩,
    ⟨none, (some 17), .slr 17 1 (.s 13) none (some (.s 16)), false⟩,
    ⟨none, (some 3), .mv 3 (.s 17), false⟩])) .skip))
  (.seq (.ops [⟨none, (some 18), .mv 18 (.s 3), false⟩,
    ⟨none, (some 2), .mv 2 (.s 18), false⟩])
  .ret))))
theorem cc82 : (Tryd.f82.body).bind (cc Tryd.prog Tryd.f82.ntmps A82) = some S82 := by kernel_rfl
def R82 : List RR := [.sl 2]
theorem cr82 : Tryd.f82.results.toList.map (crr Tryd.prog) = R82.map some := by kernel_rfl
theorem nm82 : (Tryd.f82.name == "runtime.NumGoroutine") = false := by kernel_rfl
theorem fn82 : Tryd.prog.funcs[82]? = some Tryd.f82 := by kernel_rfl
theorem bd82 : ∃ b, Tryd.f82.body = some b ∧ cc Tryd.prog Tryd.f82.ntmps A82 b = some S82 := Option.bind_eq_some_iff.1 cc82
theorem sd82 {G : World → Prop} {T : FuncId → Contract} {C : Contract} (hT : ∀ f, Sound G Tryd.prog f (T f)) (hl : C.lawful) (hC : ∀ args st K, C.wp args st K → args.length ≤ 19 ∧ ∃ os op, xv T st.n S82 (st0 args st) (retK R82 st.n os K) (panK st.n op K)) (hit : SoundIt G Tryd.prog 82 C.it := by exact SoundIt.none) : Sound G Tryd.prog 82 C := by
  obtain ⟨b, hb, hc⟩ := bd82
  rw [xv_eq] at hC
  exact sound_of_ev mo fn82 hb nm82 hc cr82 hT hl hit hC

/-! 36: redline/redlineref20.Pick -/
def A36 : Ann := ⟨fun r i => if r = 1 ∧ i = 7 then 1 else if r = 1 ∧ i = 13 then 1 else if r = 9 ∧ i = 9 then 1 else if r = 11 ∧ i = 9 then 1 else if r = 15 ∧ i = 9 then 1 else 0, fun r => if r = 15 then some ([], [(0, true), (1, true), (2, true), (3, true), (4, true), (5, true), (7, true), (6, true), (8, true), (9, false), (10, true), (11, true), (12, true)]) else if r = 11 then some ([], [(0, true), (1, true), (2, true), (3, true), (4, true), (5, true), (7, true), (6, true), (8, true), (9, false), (10, true), (11, true), (12, true)]) else if r = 9 then some ([], [(0, true), (1, true), (2, true), (3, true), (4, true), (5, true), (7, true), (6, true), (8, true), (9, false), (10, true), (11, true), (12, true)]) else none, fun r => if r = 1 then some (false, [0, 2, 4, 7]) else if r = 2 then some (false, [7]) else if r = 3 then some (false, [0, 2, 4, 7]) else if r = 7 then some (false, [2, 4, 7, 8, 9, 10, 11]) else if r = 8 then some (false, [2, 4, 7, 8, 9, 10, 11]) else if r = 9 then some (false, [2, 4, 7, 8, 9, 10, 11]) else if r = 11 then some (false, [2, 4, 7, 8, 9, 10, 11]) else if r = 13 then some (false, [2, 4, 7, 8, 9, 10, 11]) else if r = 15 then some (false, [2, 4, 7, 8, 9, 10, 11]) else if r = 17 then some (false, [2, 4, 7, 8, 9, 10, 11]) else if r = 18 then some (false, [2, 4, 7, 8, 9, 10, 11]) else if r = 19 then some (false, [2, 4, 7, 8, 9, 10, 11]) else if r = 20 then some (false, [2, 4, 7, 8, 9, 10, 11]) else if r = 22 then some (false, [7, 8]) else if r = 23 then some (false, [7, 9]) else none, fun r => if r = 7 then [2, 4, 7, 8, 9, 10, 11] else []⟩
def S36 : SCode :=
  (.seq (.ops [⟨none, (some 4), .bx 4 45 3 (.s 1), false⟩,
    ⟨none, (some 6), .mv 6 (.k (Value.string ⟨#[]⟩)), false⟩,
    ⟨none, (some 7), .al 7 53 [(Value.int .i64 0), (Value.int .i64 0)], false⟩])
  (.seq (.seq (.seq (.keep [0, 2, 4, 7]) (.ops [⟨none, (some 12), .fa 12 0 (.s 4), false⟩,
    ⟨none, (some 13), .ld 13 false 1 (.s 12), false⟩,
    ⟨none, (some 14), .call (some 14) 84 false [(.s 13)], false⟩,
    ⟨none, (some 15), .not 15 (.s 14), false⟩,
    ⟨none, (some 16), .mv 16 (.s 15), false⟩,
    ⟨(some (16, false)), (some 17), .fa 17 1 (.s 4), false⟩,
    ⟨(some (16, false)), (some 18), .ld 18 false 1 (.s 17), false⟩,
    ⟨(some (16, false)), (some 19), .call (some 19) 84 true [(.s 18)], false⟩,
    ⟨(some (16, false)), (some 20), .not 20 (.s 19), false⟩,
    ⟨none, (some 21), .pk 21 (.s 16) (.k (Value.bool true)) (.s 20), true⟩,
    ⟨none, (some 22), .mv 22 (.s 21), false⟩,
    ⟨(some (22, false)), (some 23), .fa 23 2 (.s 4), false⟩,
    ⟨(some (22, false)), (some 24), .ld 24 false 1 (.s 23), false⟩,
    ⟨(some (22, false)), (some 25), .call (some 25) 84 true [(.s 24)], false⟩,
    ⟨(some (22, false)), (some 26), .not 26 (.s 25), false⟩,
    ⟨none, (some 27), .pk 27 (.s 22) (.k (Value.bool true)) (.s 26), false⟩]))
  (.cond (.s 27) (.seq (.seq (.keep [7]) (.ops [⟨none, (some 28), .bd 28 [(Value.int .i64 0), (Value.int .i64 0)] [(1, 1, (.k (Value.int .i64 253)))], false⟩,
    ⟨none, (some 6), .mv 6 (.k (Value.string ⟨#[]⟩)), false⟩,
    ⟨none, none, .st true 2 (.s 7) (.s 28), false⟩]))
  .ret) .skip))
  (.seq (.seq (.keep [0, 2, 4, 7]) (.ops [⟨none, (some 29), .mv 29 (.s 0), false⟩,
    ⟨none, (some 30), .call (some 30) 85 false [(.s 29)], false⟩,
    ⟨none, (some 8), .mv 8 (.s 30), false⟩]))
  (.seq (.ops [⟨none, (some 9), .mv 9 (.k (Value.string ⟨#[]⟩)), false⟩])
  (.seq (.ops [⟨none, (some 10), .mv 10 (.k (Value.int .i64 0)), false⟩])
  (.seq (.seq (.ops [⟨none, (some 11), .mv 11 (.k (Value.int .i64 0)), false⟩])
  (.block 0 (.loop [2, 4, 7, 8, 9, 10, 11] (.seq (.seq (.seq (.keep [2, 4, 7, 8, 9, 10, 11]) (.ops [⟨none, (some 31), .mv 31 (.s 11), false⟩,
    ⟨none, (some 32), .mv 32 (.s 8), false⟩,
    ⟨none, (some 33), .len 33 (.s 32), false⟩,
    ⟨none, (some 34), .bin 34 .lss (.s 31) (.s 33), false⟩]))
  (.cond (.s 34) .skip (.exit 0)))
  (.seq (.block 1 (.block 2 (.seq (.seq (.keep [2, 4, 7, 8, 9, 10, 11]) (.dr [] [(0, true, ⟨none, (some 38), .mv 38 (.s 10), false⟩),
    (1, true, ⟨none, (some 39), .bin 39 .eql (.s 38) (.k (Value.int .i64 0)), false⟩),
    (2, true, ⟨none, (some 40), .mv 40 (.s 39), false⟩),
    (3, true, ⟨(some (40, true)), (some 41), .mv 41 (.s 8), false⟩),
    (4, true, ⟨(some (40, true)), (some 42), .mv 42 (.s 11), false⟩),
    (5, true, ⟨(some (40, true)), (some 43), .ia 43 1 (.s 41) (.s 42), false⟩),
    (7, true, ⟨(some (40, true)), (some 45), .fa 45 0 (.s 4), false⟩),
    (6, true, ⟨(some (40, true)), (some 44), .ld 44 false 1 (.s 43), false⟩),
    (8, true, ⟨(some (40, true)), (some 46), .ld 46 false 1 (.s 45), false⟩),
    (9, false, ⟨(some (40, true)), (some 47), .call (some 47) 86 true [(.k (Value.int .u8 60)), (.s 46)], true⟩),
    (10, true, ⟨(some (40, true)), (some 48), .bin 48 .eql (.s 44) (.s 47), false⟩),
    (11, true, ⟨none, (some 49), .pk 49 (.s 40) (.s 48) (.k (Value.bool false)), false⟩),
    (12, true, ⟨none, (some 37), .mv 37 (.s 49), false⟩)]))
  (.cond (.s 37) (.ops [⟨none, (some 10), .mv 10 (.k (Value.int .i64 1)), false⟩]) (.seq (.seq (.keep [2, 4, 7, 8, 9, 10, 11]) (.dr [] [(0, true, ⟨none, (some 51), .mv 51 (.s 10), false⟩),
    (1, true, ⟨none, (some 52), .bin 52 .eql (.s 51) (.k (Value.int .i64 1)), false⟩),
    (2, true, ⟨none, (some 53), .mv 53 (.s 52), false⟩),
    (3, true, ⟨(some (53, true)), (some 54), .mv 54 (.s 8), false⟩),
    (4, true, ⟨(some (53, true)), (some 55), .mv 55 (.s 11), false⟩),
    (5, true, ⟨(some (53, true)), (some 56), .ia 56 1 (.s 54) (.s 55), false⟩),
    (7, true, ⟨(some (53, true)), (some 58), .fa 58 1 (.s 4), false⟩),
    (6, true, ⟨(some (53, true)), (some 57), .ld 57 false 1 (.s 56), false⟩),
    (8, true, ⟨(some (53, true)), (some 59), .ld 59 false 1 (.s 58), false⟩),
    (9, false, ⟨(some (53, true)), (some 60), .call (some 60) 86 true [(.k (Value.int .u8 124)), (.s 59)], true⟩),
    (10, true, ⟨(some (53, true)), (some 61), .bin 61 .eql (.s 57) (.s 60), false⟩),
    (11, true, ⟨none, (some 62), .pk 62 (.s 53) (.s 61) (.k (Value.bool false)), false⟩),
    (12, true, ⟨none, (some 50), .mv 50 (.s 62), false⟩)]))
  (.cond (.s 50) (.ops [⟨none, (some 10), .mv 10 (.k (Value.int .i64 2)), false⟩]) (.seq (.seq (.keep [2, 4, 7, 8, 9, 10, 11]) (.ops [⟨none, (some 64), .mv 64 (.s 10), false⟩,
    ⟨none, (some 65), .bin 65 .eql (.s 64) (.k (Value.int .i64 1)), false⟩,
    ⟨none, (some 66), .mv 66 (.s 65), false⟩,
    ⟨(some (66, false)), (some 67), .mv 67 (.s 10), false⟩,
    ⟨(some (66, false)), (some 68), .bin 68 .eql (.s 67) (.k (Value.int .i64 2)), false⟩,
    ⟨none, (some 69), .pk 69 (.s 66) (.k (Value.bool true)) (.s 68), false⟩,
    ⟨none, (some 70), .mv 70 (.s 69), false⟩,
    ⟨(some (70, true)), (some 71), .mv 71 (.s 8), false⟩,
    ⟨(some (70, true)), (some 72), .mv 72 (.s 11), false⟩,
    ⟨(some (70, true)), (some 73), .ia 73 1 (.s 71) (.s 72), true⟩,
    ⟨(some (70, true)), (some 74), .ld 74 false 1 (.s 73), false⟩,
    ⟨(some (70, true)), (some 75), .bin 75 .eql (.s 74) (.k (Value.string ⟨#[61, 61, 61, 61, 61, 61, 61, 10]⟩)), false⟩,
    ⟨none, (some 76), .pk 76 (.s 70) (.s 75) (.k (Value.bool false)), false⟩,
    ⟨none, (some 63), .mv 63 (.s 76), false⟩]))
  (.cond (.s 63) (.ops [⟨none, (some 10), .mv 10 (.k (Value.int .i64 3)), false⟩]) (.seq (.seq (.keep [2, 4, 7, 8, 9, 10, 11]) (.dr [] [(0, true, ⟨none, (some 78), .mv 78 (.s 10), false⟩),
    (1, true, ⟨none, (some 79), .bin 79 .eql (.s 78) (.k (Value.int .i64 3)), false⟩),
    (2, true, ⟨none, (some 80), .mv 80 (.s 79), false⟩),
    (3, true, ⟨(some (80, true)), (some 81), .mv 81 (.s 8), false⟩),
    (4, true, ⟨(some (80, true)), (some 82), .mv 82 (.s 11), false⟩),
    (5, true, ⟨(some (80, true)), (some 83), .ia 83 1 (.s 81) (.s 82), false⟩),
    (7, true, ⟨(some (80, true)), (some 85), .fa 85 2 (.s 4), false⟩),
    (6, true, ⟨(some (80, true)), (some 84), .ld 84 false 1 (.s 83), false⟩),
    (8, true, ⟨(some (80, true)), (some 86), .ld 86 false 1 (.s 85), false⟩),
    (9, false, ⟨(some (80, true)), (some 87), .call (some 87) 86 true [(.k (Value.int .u8 62)), (.s 86)], true⟩),
    (10, true, ⟨(some (80, true)), (some 88), .bin 88 .eql (.s 84) (.s 87), false⟩),
    (11, true, ⟨none, (some 89), .pk 89 (.s 80) (.s 88) (.k (Value.bool false)), false⟩),
    (12, true, ⟨none, (some 77), .mv 77 (.s 89), false⟩)]))
  (.cond (.s 77) (.ops [⟨none, (some 10), .mv 10 (.k (Value.int .i64 0)), false⟩]) (.seq (.seq (.seq (.keep [2, 4, 7, 8, 9, 10, 11]) (.ops [⟨none, (some 91), .mv 91 (.s 10), false⟩,
    ⟨none, (some 92), .bin 92 .eql (.s 91) (.k (Value.int .i64 0)), false⟩,
    ⟨none, (some 90), .mv 90 (.s 92), false⟩]))
  (.cond (.s 90) .skip (.seq (.seq (.keep [2, 4, 7, 8, 9, 10, 11]) (.ops [⟨none, (some 93), .mv 93 (.s 10), false⟩,
    ⟨none, (some 94), .bin 94 .eql (.s 93) (.k (Value.int .i64 1)), false⟩,
    ⟨none, (some 95), .mv 95 (.s 94), false⟩,
    ⟨(some (95, true)), (some 96), .mv 96 (.s 2), false⟩,
    ⟨(some (95, true)), (some 97), .not 97 (.s 96), false⟩,
    ⟨none, (some 98), .pk 98 (.s 95) (.s 97) (.k (Value.bool false)), false⟩,
    ⟨none, (some 90), .mv 90 (.s 98), false⟩]))
  (.cond (.s 90) .skip (.seq (.keep [2, 4, 7, 8, 9, 10, 11]) (.ops [⟨none, (some 99), .mv 99 (.s 10), false⟩,
    ⟨none, (some 100), .bin 100 .eql (.s 99) (.k (Value.int .i64 3)), false⟩,
    ⟨none, (some 101), .mv 101 (.s 100), false⟩,
    ⟨(some (101, true)), (some 102), .mv 102 (.s 2), false⟩,
    ⟨none, (some 103), .pk 103 (.s 101) (.s 102) (.k (Value.bool false)), false⟩,
    ⟨none, (some 90), .mv 90 (.s 103), false⟩]))))))
  (.cond (.s 90) (.seq (.keep [2, 4, 7, 8, 9, 10, 11]) (.ops [⟨none, (some 104), .mv 104 (.s 9), false⟩,
    ⟨none, (some 105), .mv 105 (.s 8), false⟩,
    ⟨none, (some 106), .mv 106 (.s 11), false⟩,
    ⟨none, (some 107), .ia 107 1 (.s 105) (.s 106), false⟩,
    ⟨none, (some 108), .ld 108 false 1 (.s 107), false⟩,
    ⟨none, (some 109), .bin 109 .add (.s 104) (.s 108), false⟩,
    ⟨none, (some 9), .mv 9 (.s 109), false⟩])) .skip))))))))))))
  (.seq (.keep [2, 4, 7, 8, 9, 10, 11]) (.ops [⟨none, (some 35), .mv 35 (.s 11), false⟩,
    ⟨none, (some 36), .binc 36 .add (.s 35) (.k (Value.int .i64 1)), false⟩,
    ⟨none, (some 11), .mv 11 (.s 36), false⟩])))))))
  (.seq (.seq (.ops [⟨none, (some 110), .mv 110 (.s 10), false⟩,
    ⟨none, (some 111), .bin 111 .neq (.s 110) (.k (Value.int .i64 0)), false⟩])
  (.cond (.s 111) (.seq (.seq (.keep [7, 8]) (.ops [⟨none, (some 112), .mv 112 (.s 8), false⟩,
    ⟨none, (some 113), .len 113 (.s 112), false⟩,
    ⟨none, (some 114), .binc 114 .add (.s 113) (.k (Value.int .i64 1)), false⟩,
    ⟨none, (some 115), .bd 115 [(Value.int .i64 0), (Value.int .i64 0)] [(0, 1, (.s 114)), (1, 1, (.k (Value.int .i64 1)))], false⟩,
    ⟨none, (some 6), .mv 6 (.k (Value.string ⟨#[]⟩)), false⟩,
    ⟨none, none, .st true 2 (.s 7) (.s 115), false⟩]))
  .ret) .skip))
  (.seq (.seq (.keep [7, 9]) (.ops [⟨none, (some 116), .mv 116 (.s 9), false⟩,
    ⟨none, (some 117), .bd 117 [(Value.int .i64 0), (Value.int .i64 0)] [], false⟩,
    ⟨none, (some 6), .mv 6 (.s 116), false⟩,
    ⟨none, none, .st true 2 (.s 7) (.s 117), false⟩]))
  .ret))))))))
theorem cc36 : (Tryd.f36.body).bind (cc Tryd.prog Tryd.f36.ntmps A36) = some S36 := by kernel_rfl
def R36 : List RR := [.sl 6, .ce 7 true 2]
theorem cr36 : Tryd.f36.results.toList.map (crr Tryd.prog) = R36.map some := by kernel_rfl
theorem nm36 : (Tryd.f36.name == "runtime.NumGoroutine") = false := by kernel_rfl
theorem fn36 : Tryd.prog.funcs[36]? = some Tryd.f36 := by kernel_rfl
theorem bd36 : ∃ b, Tryd.f36.body = some b ∧ cc Tryd.prog Tryd.f36.ntmps A36 b = some S36 := Option.bind_eq_some_iff.1 cc36
theorem sd36 {G : World → Prop} {T : FuncId → Contract} {C : Contract} (hT : ∀ f, Sound G Tryd.prog f (T f)) (hl : C.lawful) (hC : ∀ args st K, C.wp args st K → args.length ≤ 118 ∧ ∃ os op, xv T st.n S36 (st0 args st) (retK R36 st.n os K) (panK st.n op K)) (hit : SoundIt G Tryd.prog 36 C.it := by exact SoundIt.none) : Sound G Tryd.prog 36 C := by
  obtain ⟨b, hb, hc⟩ := bd36
  rw [xv_eq] at hC
  exact sound_of_ev mo fn36 hb nm36 hc cr36 hT hl hit hC

/-! 86: redline/redlineref20.Mark -/
def A86 : Ann := ⟨fun _ _ => 0, fun _ => none, fun r => if r = 1 then some (false, [0, 1]) else none, fun _ => []⟩
def S86 : SCode :=
  (.seq (.ops [⟨none, (some 4), .mv 4 (.k (Value.string ⟨#[]⟩)), false⟩])
  (.seq (.seq (.keep [0, 1]) (.ops [⟨none, (some 5), .mv 5 (.s 0), false⟩,
    ⟨none, (some 6), .mv 6 (.s 0), false⟩,
    ⟨none, (some 7), .mv 7 (.s 0), false⟩,
    ⟨none, (some 8), .mv 8 (.s 0), false⟩,
    ⟨none, (some 9), .mv 9 (.s 0), false⟩,
    ⟨none, (some 10), .mv 10 (.s 0), false⟩,
    ⟨none, (some 11), .mv 11 (.s 0), false⟩,
    ⟨none, (some 12), .bs 12 5 1 [(.s 5), (.s 6), (.s 7), (.s 8), (.s 9), (.s 10), (.s 11)], false⟩,
    ⟨none, (some 13), .b2s 13 (.s 12), false⟩,
    ⟨none, (some 14), .bin 14 .add (.s 13) (.k (Value.string ⟨#[32]⟩)), true⟩,
    ⟨none, (some 15), .mv 15 (.s 1), false⟩,
    ⟨none, (some 16), .bin 16 .add (.s 14) (.s 15), false⟩,
    ⟨none, (some 17), .bin 17 .add (.s 16) (.k (Value.string ⟨#[10]⟩)), false⟩,
    ⟨none, (some 4), .mv 4 (.s 17), false⟩]))
  .ret))
theorem cc86 : (Tryd.f86.body).bind (cc Tryd.prog Tryd.f86.ntmps A86) = some S86 := by kernel_rfl
def R86 : List RR := [.sl 4]
theorem cr86 : Tryd.f86.results.toList.map (crr Tryd.prog) = R86.map some := by kernel_rfl
theorem nm86 : (Tryd.f86.name == "runtime.NumGoroutine") = false := by kernel_rfl
theorem fn86 : Tryd.prog.funcs[86]? = some Tryd.f86 := by kernel_rfl
theorem bd86 : ∃ b, Tryd.f86.body = some b ∧ cc Tryd.prog Tryd.f86.ntmps A86 b = some S86 := Option.bind_eq_some_iff.1 cc86
theorem sd86 {G : World → Prop} {T : FuncId → Contract} {C : Contract} (hT : ∀ f, Sound G Tryd.prog f (T f)) (hl : C.lawful) (hC : ∀ args st K, C.wp args st K → args.length ≤ 18 ∧ ∃ os op, xv T st.n S86 (st0 args st) (retK R86 st.n os K) (panK st.n op K)) (hit : SoundIt G Tryd.prog 86 C.it := by exact SoundIt.none) : Sound G Tryd.prog 86 C := by
  obtain ⟨b, hb, hc⟩ := bd86
  rw [xv_eq] at hC
  exact sound_of_ev mo fn86 hb nm86 hc cr86 hT hl hit hC

/-! 84: redline/redlineref20.named -/
def A84 : Ann := ⟨fun _ _ => 0, fun _ => none, fun r => if r = 2 then some (false, [0, 3]) else if r = 3 then some (false, [0, 3]) else if r = 4 then some (false, [0, 3]) else none, fun r => if r = 2 then [0, 3] else []⟩
def S84 : SCode :=
  (.seq (.ops [⟨none, (some 2), .mv 2 (.k (Value.bool false)), false⟩])
  (.seq (.seq (.ops [⟨none, (some 3), .mv 3 (.k (Value.int .i64 0)), false⟩])
  (.block 0 (.loop [0, 3] (.seq (.seq (.seq (.keep [0, 3]) (.ops [⟨none, (some 4), .mv 4 (.s 3), false⟩,
    ⟨none, (some 5), .mv 5 (.s 0), false⟩,
    ⟨none, (some 6), .lens 6 (.s 5), false⟩,
    ⟨none, (some 7), .bin 7 .lss (.s 4) (.s 6), false⟩]))
  (.cond (.s 7) .skip (.exit 0)))
  (.seq (.block 1 (.seq (.seq (.keep [0, 3]) (.ops [⟨none, (some 10), .mv 10 (.s 0), false⟩,
    ⟨none, (some 11), .mv 11 (.s 3), false⟩,
    ⟨none, (some 12), .ixs 12 (.s 10) (.s 11), false⟩,
    ⟨none, (some 13), .bin 13 .eql (.s 12) (.k (Value.int .u8 10)), false⟩]))
  (.cond (.s 13) (.seq (.ops [⟨none, (some 2), .mv 2 (.k (Value.bool false)), false⟩])
  .ret) .skip)))
  (.seq (.keep [0, 3]) (.ops [⟨none, (some 8), .mv 8 (.s 3), false⟩,
    ⟨none, (some 9), .binc 9 .add (.s 8) (.k (Value.int .i64 1)), false⟩,
    ⟨none, (some 3), .mv 3 (.s 9), false⟩])))))))
  (.seq (.ops [⟨none, (some 2), .mv 2 (.k (Value.bool true)), false⟩])
  .ret)))
theorem cc84 : (Tryd.f84.body).bind (cc Tryd.prog Tryd.f84.ntmps A84) = some S84 := by kernel_rfl
def R84 : List RR := [.sl 2]
theorem cr84 : Tryd.f84.results.toList.map (crr Tryd.prog) = R84.map some := by kernel_rfl
theorem nm84 : (Tryd.f84.name == "runtime.NumGoroutine") = false := by kernel_rfl
theorem fn84 : Tryd.prog.funcs[84]? = some Tryd.f84 := by kernel_rfl
theorem bd84 : ∃ b, Tryd.f84.body = some b ∧ cc Tryd.prog Tryd.f84.ntmps A84 b = some S84 := Option.bind_eq_some_iff.1 cc84
theorem sd84 {G : World → Prop} {T : FuncId → Contract} {C : Contract} (hT : ∀ f, Sound G Tryd.prog f (T f)) (hl : C.lawful) (hC : ∀ args st K, C.wp args st K → args.length ≤ 14 ∧ ∃ os op, xv T st.n S84 (st0 args st) (retK R84 st.n os K) (panK st.n op K)) (hit : SoundIt G Tryd.prog 84 C.it := by exact SoundIt.none) : Sound G Tryd.prog 84 C := by
  obtain ⟨b, hb, hc⟩ := bd84
  rw [xv_eq] at hC
  exact sound_of_ev mo fn84 hb nm84 hc cr84 hT hl hit hC

/-! 85: redline/redlineref02.Split -/
def A85 : Ann := ⟨fun r i => if r = 1 ∧ i = 0 then 11 else 0, fun _ => none, fun r => if r = 4 then some (false, [0, 3, 4, 5]) else if r = 5 then some (false, [0, 3, 4, 5]) else if r = 6 then some (false, [0, 3, 4, 5]) else if r = 7 then some (false, [0, 3, 4, 5]) else if r = 8 then some (false, [0, 3, 5]) else if r = 9 then some (false, [0, 3, 4]) else if r = 10 then some (false, [0, 3, 4]) else none, fun r => if r = 4 then [0, 3, 4, 5] else []⟩
def S85 : SCode :=
  (.seq (.ops [⟨none, (some 2), .mv 2 (.k (Value.slice none 0 0)), false⟩])
  (.seq (.ops [⟨none, (some 3), .nr 3 9 1, false⟩])
  (.seq (.ops [⟨none, (some 4), .mv 4 (.k (Value.int .i64 0)), false⟩])
  (.seq (.seq (.ops [⟨none, (some 5), .mv 5 (.k (Value.int .i64 0)), false⟩])
  (.block 0 (.loop [0, 3, 4, 5] (.seq (.seq (.seq (.keep [0, 3, 4, 5]) (.ops [⟨none, (some 6), .mv 6 (.s 5), false⟩,
    ⟨none, (some 7), .mv 7 (.s 0), false⟩,
    ⟨none, (some 8), .lens 8 (.s 7), false⟩,
    ⟨none, (some 9), .bin 9 .lss (.s 6) (.s 8), false⟩]))
  (.cond (.s 9) .skip (.exit 0)))
  (.seq (.block 1 (.seq (.seq (.keep [0, 3, 4, 5]) (.ops [⟨none, (some 12), .mv 12 (.s 0), false⟩,
    ⟨none, (some 13), .mv 13 (.s 5), false⟩,
    ⟨none, (some 14), .ixs 14 (.s 12) (.s 13), false⟩,
    ⟨none, (some 15), .bin 15 .eql (.s 14) (.k (Value.int .u8 10)), false⟩]))
  (.cond (.s 15) (.seq (.seq (.keep [0, 3, 4, 5]) (.ops [⟨none, (some 16), .mv 16 (.s 3), false⟩,
    ⟨none, (some 17), .mv 17 (.s 0), false⟩,
    ⟨none, (some 18), .mv 18 (.s 4), false⟩,
    ⟨none, (some 19), .mv 19 (.s 5), false⟩,
    ⟨none, (some 20), .binc 20 .add (.s 19) (.k (Value.int .i64 1)), false⟩,
    ⟨none, (some 21), .sls 21 (.s 17) (some (.s 18)) (some (.s 20)), false⟩,
    ⟨none, (some 22), .bs 22 9 1 [(.s 21)], false⟩,
    ⟨none, (some 23), .ap 23 9 1 16 (.s 16) (.s 22), false⟩,
    ⟨none, (some 3), .mv 3 (.s 23), false⟩]))
  (.seq (.keep [0, 3, 5]) (.ops [⟨none, (some 24), .mv 24 (.s 5), false⟩,
    ⟨none, (some 25), .binc 25 .add (.s 24) (.k (Value.int .i64 1)), false⟩,
    ⟨none, (some 4), .mv 4 (.s 25), false⟩]))) .skip)))
  (.seq (.keep [0, 3, 4, 5]) (.ops [⟨none, (some 10), .mv 10 (.s 5), false⟩,
    ⟨none, (some 11), .binc 11 .add (.s 10) (.k (Value.int .i64 1)), false⟩,
    ⟨none, (some 5), .mv 5 (.s 11), false⟩])))))))
  (.seq (.seq (.seq (.keep [0, 3, 4]) (.ops [⟨none, (some 26), .mv 26 (.s 4), false⟩,
    ⟨none, (some 27), .mv 27 (.s 0), false⟩,
    ⟨none, (some 28), .lens 28 (.s 27), false⟩,
    ⟨none, (some 29), .bin 29 .lss (.s 26) (.s 28), false⟩]))
  (.cond (.s 29) (.seq (.keep [0, 3, 4]) (.ops [⟨none, (some 30), .mv 30 (.s 3), false⟩,
    ⟨none, (some 31), .mv 31 (.s 0), false⟩,
    ⟨none, (some 32), .mv 32 (.s 4), false⟩,
    ⟨none, (some 33), .sls 33 (.s 31) (some (.s 32)) none, false⟩,
    ⟨none, (some 34), .bs 34 9 1 [(.s 33)], false⟩,
    ⟨none, (some 35), .ap 35 9 1 16 (.s 30) (.s 34), false⟩,
    ⟨none, (some 3), .mv 3 (.s 35), false⟩])) .skip))
  (.seq (.ops [⟨none, (some 36), .mv 36 (.s 3), false⟩,
    ⟨none, (some 2), .mv 2 (.s 36), false⟩])
  .ret))))))
theorem cc85 : (Tryd.f85.body).bind (cc Tryd.prog Tryd.f85.ntmps A85) = some S85 := by kernel_rfl
def R85 : List RR := [.sl 2]
theorem cr85 : Tryd.f85.results.toList.map (crr Tryd.prog) = R85.map some := by kernel_rfl
theorem nm85 : (Tryd.f85.name == "runtime.NumGoroutine") = false := by kernel_rfl
theorem fn85 : Tryd.prog.funcs[85]? = some Tryd.f85 := by kernel_rfl
theorem bd85 : ∃ b, Tryd.f85.body = some b ∧ cc Tryd.prog Tryd.f85.ntmps A85 b = some S85 := Option.bind_eq_some_iff.1 cc85
theorem sd85 {G : World → Prop} {T : FuncId → Contract} {C : Contract} (hT : ∀ f, Sound G Tryd.prog f (T f)) (hl : C.lawful) (hC : ∀ args st K, C.wp args st K → args.length ≤ 37 ∧ ∃ os op, xv T st.n S85 (st0 args st) (retK R85 st.n os K) (panK st.n op K)) (hit : SoundIt G Tryd.prog 85 C.it := by exact SoundIt.none) : Sound G Tryd.prog 85 C := by
  obtain ⟨b, hb, hc⟩ := bd85
  rw [xv_eq] at hC
  exact sound_of_ev mo fn85 hb nm85 hc cr85 hT hl hit hC

/-! 35: redline/redlinelaw20.names -/
def A35 : Ann := ⟨fun _ _ => 0, fun _ => none, fun r => if r = 1 then some (false, [1, 2]) else none, fun _ => []⟩
def S35 : SCode :=
  (.seq (.ops [⟨none, (some 1), .bx 1 45 3 (.s 0), false⟩,
    ⟨none, (some 2), .al 2 50 [(Value.string ⟨#[]⟩), (Value.string ⟨#[]⟩), (Value.string ⟨#[]⟩)], false⟩])
  (.seq (.seq (.keep [1, 2]) (.ops [⟨none, (some 3), .fa 3 0 (.s 1), false⟩,
    ⟨none, (some 4), .ld 4 false 1 (.s 3), false⟩,
    ⟨none, (some 5), .fa 5 1 (.s 1), false⟩,
    ⟨none, (some 6), .ld 6 false 1 (.s 5), false⟩,
    ⟨none, (some 7), .fa 7 2 (.s 1), false⟩,
    ⟨none, (some 8), .ld 8 false 1 (.s 7), false⟩,
    ⟨none, (some 9), .bd 9 [(Value.string ⟨#[]⟩), (Value.string ⟨#[]⟩), (Value.string ⟨#[]⟩)] [(0, 1, (.s 4)), (1, 1, (.s 6)), (2, 1, (.s 8))], false⟩,
    ⟨none, none, .st true 3 (.s 2) (.s 9), false⟩]))
  .ret))
theorem cc35 : (Tryd.f35.body).bind (cc Tryd.prog Tryd.f35.ntmps A35) = some S35 := by kernel_rfl
def R35 : List RR := [.ce 2 true 3]
theorem cr35 : Tryd.f35.results.toList.map (crr Tryd.prog) = R35.map some := by kernel_rfl
theorem nm35 : (Tryd.f35.name == "runtime.NumGoroutine") = false := by kernel_rfl
theorem fn35 : Tryd.prog.funcs[35]? = some Tryd.f35 := by kernel_rfl
theorem bd35 : ∃ b, Tryd.f35.body = some b ∧ cc Tryd.prog Tryd.f35.ntmps A35 b = some S35 := Option.bind_eq_some_iff.1 cc35
theorem sd35 {G : World → Prop} {T : FuncId → Contract} {C : Contract} (hT : ∀ f, Sound G Tryd.prog f (T f)) (hl : C.lawful) (hC : ∀ args st K, C.wp args st K → args.length ≤ 10 ∧ ∃ os op, xv T st.n S35 (st0 args st) (retK R35 st.n os K) (panK st.n op K)) (hit : SoundIt G Tryd.prog 35 C.it := by exact SoundIt.none) : Sound G Tryd.prog 35 C := by
  obtain ⟨b, hb, hc⟩ := bd35
  rw [xv_eq] at hC
  exact sound_of_ev mo fn35 hb nm35 hc cr35 hT hl hit hC

/-! 37: redline/redlinelaw12.Seen -/
def A37 : Ann := ⟨fun r i => if r = 5 ∧ i = 14 then 1 else 0, fun r => if r = 7 then some ([], [(0, true), (1, true), (2, true), (3, true), (4, true), (5, true), (6, false)]) else none, fun r => if r = 5 then some (false, [0, 2, 3, 4]) else if r = 7 then some (false, [2, 3, 4]) else none, fun _ => []⟩
def S37 : SCode :=
  (.seq (.ops [⟨none, (some 2), .al 2 53 [(Value.int .i64 0), (Value.int .i64 0)], false⟩])
  (.seq (.seq (.ops [⟨none, (some 5), .mv 5 (.s 0), false⟩,
    ⟨none, (some 6), .isnil 6 false true (.s 5), false⟩])
  (.cond (.s 6) (.seq (.ops [⟨none, (some 7), .bd 7 [(Value.int .i64 0), (Value.int .i64 0)] [], false⟩,
    ⟨none, none, .st true 2 (.s 2) (.s 7), false⟩])
  .ret) .skip))
  (.seq (.ops [⟨none, (some 3), .al 3 104 [(Value.pointer none)], false⟩])
  (.seq (.ops [⟨none, (some 4), .al 4 24 [(Value.int .i64 0)], false⟩])
  (.seq (.seq (.seq (.keep [0, 2, 3, 4]) (.ops [⟨none, (some 8), .mv 8 (.s 0), false⟩,
    ⟨none, (some 9), .mi 9 110 (.s 3), false⟩,
    ⟨none, (some 10), .call (some 10) 87 false [(.s 8), (.s 9)], false⟩,
    ⟨none, (some 11), .not 11 (.s 10), false⟩,
    ⟨none, (some 12), .mv 12 (.s 11), false⟩,
    ⟨(some (12, false)), (some 13), .ld 13 false 1 (.s 3), false⟩,
    ⟨(some (12, false)), (some 14), .isnil 14 false false (.s 13), false⟩,
    ⟨none, (some 15), .pk 15 (.s 12) (.k (Value.bool true)) (.s 14), false⟩,
    ⟨none, (some 16), .mv 16 (.s 15), false⟩,
    ⟨(some (16, false)), (some 17), .ld 17 false 1 (.s 3), true⟩,
    ⟨(some (16, false)), (some 18), .nc 18 (.s 17), false⟩,
    ⟨(some (16, false)), (some 19), .fa 19 1 (.s 18), false⟩,
    ⟨(some (16, false)), (some 20), .ld 20 false 1 (.s 19), false⟩,
    ⟨(some (16, false)), (some 21), .mi 21 111 (.s 4), false⟩,
    ⟨(some (16, false)), (some 22), .call (some 22) 87 true [(.s 20), (.s 21)], false⟩,
    ⟨(some (16, false)), (some 23), .not 23 (.s 22), false⟩,
    ⟨none, (some 24), .pk 24 (.s 16) (.k (Value.bool true)) (.s 23), false⟩]))
  (.cond (.s 24) (.seq (.ops [⟨none, (some 25), .bd 25 [(Value.int .i64 0), (Value.int .i64 0)] [(0, 1, (.k (Value.int .i64 (-1)))), (1, 1, (.k (Value.int .i64 (-1))))], false⟩,
    ⟨none, none, .st true 2 (.s 2) (.s 25), false⟩])
  .ret) .skip))
  (.seq (.seq (.keep [2, 3, 4]) (.dr [] [(0, true, ⟨none, (some 26), .ld 26 false 1 (.s 3), false⟩),
    (1, true, ⟨none, (some 27), .nc 27 (.s 26), false⟩),
    (2, true, ⟨none, (some 28), .fa 28 0 (.s 27), false⟩),
    (3, true, ⟨none, (some 29), .ld 29 false 1 (.s 28), false⟩),
    (4, true, ⟨none, (some 30), .ld 30 false 1 (.s 4), false⟩),
    (5, true, ⟨none, (some 31), .bd 31 [(Value.int .i64 0), (Value.int .i64 0)] [(0, 1, (.s 29)), (1, 1, (.s 30))], false⟩),
    (6, false, ⟨none, none, .st true 2 (.s 2) (.s 31), false⟩)]))
  .ret))))))
theorem cc37 : (Tryd.f37.body).bind (cc Tryd.prog Tryd.f37.ntmps A37) = some S37 := by kernel_rfl
def R37 : List RR := [.ce 2 true 2]
theorem cr37 : Tryd.f37.results.toList.map (crr Tryd.prog) = R37.map some := by kernel_rfl
theorem nm37 : (Tryd.f37.name == "runtime.NumGoroutine") = false := by kernel_rfl
theorem fn37 : Tryd.prog.funcs[37]? = some Tryd.f37 := by kernel_rfl
theorem bd37 : ∃ b, Tryd.f37.body = some b ∧ cc Tryd.prog Tryd.f37.ntmps A37 b = some S37 := Option.bind_eq_some_iff.1 cc37
theorem sd37 {G : World → Prop} {T : FuncId → Contract} {C : Contract} (hT : ∀ f, Sound G Tryd.prog f (T f)) (hl : C.lawful) (hC : ∀ args st K, C.wp args st K → args.length ≤ 32 ∧ ∃ os op, xv T st.n S37 (st0 args st) (retK R37 st.n os K) (panK st.n op K)) (hit : SoundIt G Tryd.prog 37 C.it := by exact SoundIt.none) : Sound G Tryd.prog 37 C := by
  obtain ⟨b, hb, hc⟩ := bd37
  rw [xv_eq] at hC
  exact sound_of_ev mo fn37 hb nm37 hc cr37 hT hl hit hC

/-! 128: strings.SplitAfter -/
def A128 : Ann := ⟨fun _ _ => 0, fun _ => none, fun r => if r = 1 then some (false, [0, 1]) else none, fun _ => []⟩
def S128 : SCode :=
  (.seq (.ops [⟨none, (some 4), .mv 4 (.k (Value.slice none 0 0)), false⟩])
  (.seq (.seq (.keep [0, 1]) (.ops [⟨none, (some 5), .mv 5 (.s 0), false⟩,
    ⟨none, (some 6), .mv 6 (.s 1), false⟩,
    ⟨none, (some 7), .mv 7 (.s 1), false⟩,
    ⟨none, (some 8), .lens 8 (.s 7), false⟩,
    ⟨none, (some 9), .call (some 9) 160 false [(.s 5), (.s 6), (.s 8), (.k (Value.int .i64 (-1)))], false⟩,
    ⟨none, (some 4), .mv 4 (.s 9), false⟩]))
  .ret))
theorem cc128 : (Tryd.f128.body).bind (cc Tryd.prog Tryd.f128.ntmps A128) = some S128 := by kernel_rfl
def R128 : List RR := [.sl 4]
theorem cr128 : Tryd.f128.results.toList.map (crr Tryd.prog) = R128.map some := by kernel_rfl
theorem nm128 : (Tryd.f128.name == "runtime.NumGoroutine") = false := by kernel_rfl
theorem fn128 : Tryd.prog.funcs[128]? = some Tryd.f128 := by kernel_rfl
theorem bd128 : ∃ b, Tryd.f128.body = some b ∧ cc Tryd.prog Tryd.f128.ntmps A128 b = some S128 := Option.bind_eq_some_iff.1 cc128
theorem sd128 {G : World → Prop} {T : FuncId → Contract} {C : Contract} (hT : ∀ f, Sound G Tryd.prog f (T f)) (hl : C.lawful) (hC : ∀ args st K, C.wp args st K → args.length ≤ 10 ∧ ∃ os op, xv T st.n S128 (st0 args st) (retK R128 st.n os K) (panK st.n op K)) (hit : SoundIt G Tryd.prog 128 C.it := by exact SoundIt.none) : Sound G Tryd.prog 128 C := by
  obtain ⟨b, hb, hc⟩ := bd128
  rw [xv_eq] at hC
  exact sound_of_ev mo fn128 hb nm128 hc cr128 hT hl hit hC

end Go.Proofs.YtpbkdcfjlbdgfaaDoor
/-
  DERIVED: THE SHELF's CONTRACTS AT THIS DUMP, IN PLAIN WORDS (tools/lay-plain.mjs out of 'TrydShelfPart.lean', which tools/lay-shelf.mjs wrote): THE SAME DECLARATIONS UNDER THE SAME NAMES: 'import', 'namespace', 'open', 'def', 'theorem' AND NOTHING ELSE: no command of the shelf's: FOR A HAND-IN. Each laying: the table of numbers ('.._ren') and one theorem, a field a fact of the dump's own or the kernel's comparison; each contract: ONE APPLICATION.
-/
namespace Go.Proofs
open Go.Shelf
def Tryd.lays143_ren : Go.Shelf.Ren := ⟨fun | 143 => 159 | 219 => 184 | 217 => 168 | 225 => 142 | 224 => 141 | 267 => 198 | 266 => 189 | 314 => 203 | n => n, fun | 9 => 9 | 3 => 3 | 4 => 4 | 5 => 5 | 46 => 114 | 146 => 216 | 51 => 215 | n => n, fun | 1 => 1 | n => n⟩
theorem Tryd.lays143 : Go.Proofs.Lays.n143 Tryd.prog Tryd.lays143_ren := {
  mixed := by kernel_rfl
  f143 := Tryd.func159.trans (congrArg some (by kernel_rfl))
  f217 := Tryd.func168.trans (congrArg some (by kernel_rfl))
  f219 := Tryd.func184.trans (congrArg some (by kernel_rfl))
  f224 := Tryd.func141.trans (congrArg some (by kernel_rfl))
  f225 := Tryd.func142.trans (congrArg some (by kernel_rfl))
  f266 := Tryd.func189.trans (congrArg some (by kernel_rfl))
  f267 := Tryd.func198.trans (congrArg some (by kernel_rfl))
  f314 := Tryd.func203.trans (congrArg some (by kernel_rfl))
  t3 := Tryd.underlying3
  a3 := Tryd.isAgg3
  z3 := Tryd.sizeOf3
  v3 := Tryd.zeroValue3
  t4 := Tryd.underlying4
  a4 := Tryd.isAgg4
  z4 := Tryd.sizeOf4
  v4 := Tryd.zeroValue4
  t5 := Tryd.underlying5
  a5 := Tryd.isAgg5
  z5 := Tryd.sizeOf5
  v5 := Tryd.zeroValue5
  t9 := Tryd.underlying9
  a9 := Tryd.isAgg9
  z9 := Tryd.sizeOf9
  v9 := Tryd.zeroValue9
  t46 := Tryd.underlying114
  a46 := Tryd.isAgg114
  z46 := Tryd.sizeOf114
  v46 := Tryd.zeroValue114
  t51 := Tryd.underlying215
  a51 := Tryd.isAgg215
  z51 := Tryd.sizeOf215
  v51 := Tryd.zeroValue215
  t146 := Tryd.underlying216
  a146 := Tryd.isAgg216
  z146 := Tryd.sizeOf216
  v146 := Tryd.zeroValue216
  g1 := by kernel_rfl }
open Go.RowKit Go.Lib in
/-- strings.Index: "Index returns the index of the first instance of substr in s, or -1 if substr is not present in s.": AT A substr OF ONE BYTE c: IT RETURNS 'Lib.indexByte s c'; the world is as it was. (LAID: no walk: one application.) -/
theorem Tryd.strings_Index_one (s : ByteArray) (c : UInt8) (w : World) :
    Calls Tryd.prog 159 #[.string s, .string ⟨#[c]⟩] w fun e w' => e = .returned (.int .i64 (Lib.indexByte s.data.toList c)) ∧ w' = w := Any.strings_Index_one Tryd.lays143 s c w
def Tryd.lays144_ren : Go.Shelf.Ren := ⟨fun | 144 => 127 | 143 => 159 | 219 => 184 | 217 => 168 | 225 => 142 | 224 => 141 | 267 => 198 | 266 => 189 | 314 => 203 | n => n, fun | 9 => 9 | 4 => 4 | 3 => 3 | 5 => 5 | 46 => 114 | 146 => 216 | 51 => 215 | n => n, fun | 1 => 1 | n => n⟩
theorem Tryd.lays144 : Go.Proofs.Lays.n144 Tryd.prog Tryd.lays144_ren := {
  mixed := by kernel_rfl
  f143 := Tryd.func159.trans (congrArg some (by kernel_rfl))
  f144 := Tryd.func127.trans (congrArg some (by kernel_rfl))
  f217 := Tryd.func168.trans (congrArg some (by kernel_rfl))
  f219 := Tryd.func184.trans (congrArg some (by kernel_rfl))
  f224 := Tryd.func141.trans (congrArg some (by kernel_rfl))
  f225 := Tryd.func142.trans (congrArg some (by kernel_rfl))
  f266 := Tryd.func189.trans (congrArg some (by kernel_rfl))
  f267 := Tryd.func198.trans (congrArg some (by kernel_rfl))
  f314 := Tryd.func203.trans (congrArg some (by kernel_rfl))
  t3 := Tryd.underlying3
  a3 := Tryd.isAgg3
  z3 := Tryd.sizeOf3
  v3 := Tryd.zeroValue3
  t4 := Tryd.underlying4
  a4 := Tryd.isAgg4
  z4 := Tryd.sizeOf4
  v4 := Tryd.zeroValue4
  t5 := Tryd.underlying5
  a5 := Tryd.isAgg5
  z5 := Tryd.sizeOf5
  v5 := Tryd.zeroValue5
  t9 := Tryd.underlying9
  a9 := Tryd.isAgg9
  z9 := Tryd.sizeOf9
  v9 := Tryd.zeroValue9
  t46 := Tryd.underlying114
  a46 := Tryd.isAgg114
  z46 := Tryd.sizeOf114
  v46 := Tryd.zeroValue114
  t51 := Tryd.underlying215
  a51 := Tryd.isAgg215
  z51 := Tryd.sizeOf215
  v51 := Tryd.zeroValue215
  t146 := Tryd.underlying216
  a146 := Tryd.isAgg216
  z146 := Tryd.sizeOf216
  v146 := Tryd.zeroValue216
  g1 := by kernel_rfl }
open Go.RowKit Go.Lib in
/-- strings.Contains: "Contains reports whether substr is within s.": AT A substr OF ONE BYTE c: IT RETURNS 'decide (0 ≤ Lib.indexByte s c)'; the world is as it was. (LAID: no walk: one application.) -/
theorem Tryd.strings_Contains_one (s : ByteArray) (c : UInt8) (w : World) :
    Calls Tryd.prog 127 #[.string s, .string ⟨#[c]⟩] w fun e w' => e = .returned (.bool (decide (0 ≤ Lib.indexByte s.data.toList c))) ∧ w' = w := Any.strings_Contains_one Tryd.lays144 s c w
def Tryd.lays138_ren : Go.Shelf.Ren := ⟨fun | 138 => 186 | 195 => 199 | 218 => 200 | 143 => 159 | 219 => 184 | 217 => 168 | 225 => 142 | 224 => 141 | 267 => 198 | 266 => 189 | 314 => 203 | n => n, fun | 9 => 9 | 3 => 3 | 4 => 4 | 5 => 5 | 0 => 0 | 46 => 114 | 146 => 216 | 51 => 215 | n => n, fun | 1 => 1 | n => n⟩
theorem Tryd.lays138 : Go.Proofs.Lays.n138 Tryd.prog Tryd.lays138_ren := {
  mixed := by kernel_rfl
  f138 := Tryd.func186.trans (congrArg some (by kernel_rfl))
  f143 := Tryd.func159.trans (congrArg some (by kernel_rfl))
  f195 := Tryd.func199.trans (congrArg some (by kernel_rfl))
  f217 := Tryd.func168.trans (congrArg some (by kernel_rfl))
  f218 := Tryd.func200.trans (congrArg some (by kernel_rfl))
  f219 := Tryd.func184.trans (congrArg some (by kernel_rfl))
  f224 := Tryd.func141.trans (congrArg some (by kernel_rfl))
  f225 := Tryd.func142.trans (congrArg some (by kernel_rfl))
  f266 := Tryd.func189.trans (congrArg some (by kernel_rfl))
  f267 := Tryd.func198.trans (congrArg some (by kernel_rfl))
  f314 := Tryd.func203.trans (congrArg some (by kernel_rfl))
  t0 := Tryd.underlying0
  a0 := Tryd.isAgg0
  z0 := Tryd.sizeOf0
  v0 := Tryd.zeroValue0
  t3 := Tryd.underlying3
  a3 := Tryd.isAgg3
  z3 := Tryd.sizeOf3
  v3 := Tryd.zeroValue3
  t4 := Tryd.underlying4
  a4 := Tryd.isAgg4
  z4 := Tryd.sizeOf4
  v4 := Tryd.zeroValue4
  t5 := Tryd.underlying5
  a5 := Tryd.isAgg5
  z5 := Tryd.sizeOf5
  v5 := Tryd.zeroValue5
  t9 := Tryd.underlying9
  a9 := Tryd.isAgg9
  z9 := Tryd.sizeOf9
  v9 := Tryd.zeroValue9
  t46 := Tryd.underlying114
  a46 := Tryd.isAgg114
  z46 := Tryd.sizeOf114
  v46 := Tryd.zeroValue114
  t51 := Tryd.underlying215
  a51 := Tryd.isAgg215
  z51 := Tryd.sizeOf215
  v51 := Tryd.zeroValue215
  t146 := Tryd.underlying216
  a146 := Tryd.isAgg216
  z146 := Tryd.sizeOf216
  v146 := Tryd.zeroValue216
  g1 := by kernel_rfl }
open Go.RowKit Go.Lib in
/-- strings.Count AT A substr OF ONE BYTE ('hp'): "Count counts the number of non-overlapping instances of substr in s.": IT RETURNS 'Lib.countByte s (that byte)'; the world is as it was. ✋ NO CONTRACT HERE YET at an empty substr (utf8.RuneCountInString) or at a longer one (a loop over strings.Index). (LAID: no walk: one application.) -/
theorem Tryd.strings_Count_one (s : ByteArray) (c : UInt8) (w : World) :
    Calls Tryd.prog 186 #[.string s, .string ⟨#[c]⟩] w fun e w' => e = .returned (.int .i64 (Lib.countByte s.data.toList c)) ∧ w' = w := Any.strings_Count_one Tryd.lays138 s c w
def Tryd.lays221_ren : Go.Shelf.Ren := ⟨fun | 221 => 160 | 268 => 185 | 138 => 186 | 143 => 159 | 195 => 199 | 197 => 138 | 218 => 200 | 219 => 184 | 260 => 170 | 217 => 168 | 225 => 142 | 224 => 141 | 267 => 198 | 266 => 189 | 314 => 203 | n => n, fun | 9 => 9 | 3 => 3 | 31 => 23 | 4 => 4 | 0 => 0 | 105 => 164 | 21 => 21 | 5 => 5 | 46 => 114 | 119 => 221 | 139 => 224 | 138 => 223 | 146 => 216 | 51 => 215 | n => n, fun | 1 => 1 | 3 => 4 | 4 => 5 | n => n⟩
theorem Tryd.lays221 : Go.Proofs.Lays.n221 Tryd.prog Tryd.lays221_ren := {
  mixed := by kernel_rfl
  f138 := Tryd.func186.trans (congrArg some (by kernel_rfl))
  f143 := Tryd.func159.trans (congrArg some (by kernel_rfl))
  f195 := Tryd.func199.trans (congrArg some (by kernel_rfl))
  f197 := Tryd.func138.trans (congrArg some (by kernel_rfl))
  f217 := Tryd.func168.trans (congrArg some (by kernel_rfl))
  f218 := Tryd.func200.trans (congrArg some (by kernel_rfl))
  f219 := Tryd.func184.trans (congrArg some (by kernel_rfl))
  f221 := Tryd.func160.trans (congrArg some (by kernel_rfl))
  f224 := Tryd.func141.trans (congrArg some (by kernel_rfl))
  f225 := Tryd.func142.trans (congrArg some (by kernel_rfl))
  f260 := Tryd.func170.trans (congrArg some (by kernel_rfl))
  f266 := Tryd.func189.trans (congrArg some (by kernel_rfl))
  f267 := Tryd.func198.trans (congrArg some (by kernel_rfl))
  f268 := Tryd.func185.trans (congrArg some (by kernel_rfl))
  f314 := Tryd.func203.trans (congrArg some (by kernel_rfl))
  t0 := Tryd.underlying0
  a0 := Tryd.isAgg0
  z0 := Tryd.sizeOf0
  v0 := Tryd.zeroValue0
  t3 := Tryd.underlying3
  a3 := Tryd.isAgg3
  z3 := Tryd.sizeOf3
  v3 := Tryd.zeroValue3
  t4 := Tryd.underlying4
  a4 := Tryd.isAgg4
  z4 := Tryd.sizeOf4
  v4 := Tryd.zeroValue4
  t5 := Tryd.underlying5
  a5 := Tryd.isAgg5
  z5 := Tryd.sizeOf5
  v5 := Tryd.zeroValue5
  t9 := Tryd.underlying9
  a9 := Tryd.isAgg9
  z9 := Tryd.sizeOf9
  v9 := Tryd.zeroValue9
  t21 := Tryd.underlying21
  a21 := Tryd.isAgg21
  z21 := Tryd.sizeOf21
  v21 := Tryd.zeroValue21
  t31 := Tryd.underlying23
  a31 := Tryd.isAgg23
  z31 := Tryd.sizeOf23
  v31 := Tryd.zeroValue23
  t46 := Tryd.underlying114
  a46 := Tryd.isAgg114
  z46 := Tryd.sizeOf114
  v46 := Tryd.zeroValue114
  t51 := Tryd.underlying215
  a51 := Tryd.isAgg215
  z51 := Tryd.sizeOf215
  v51 := Tryd.zeroValue215
  t105 := Tryd.underlying164
  a105 := Tryd.isAgg164
  z105 := Tryd.sizeOf164
  v105 := Tryd.zeroValue164
  t119 := Tryd.underlying221
  a119 := Tryd.isAgg221
  z119 := Tryd.sizeOf221
  t138 := Tryd.underlying223
  a138 := Tryd.isAgg223
  z138 := Tryd.sizeOf223
  v138 := Tryd.zeroValue223
  t139 := Tryd.underlying224
  a139 := Tryd.isAgg224
  z139 := Tryd.sizeOf224
  v139 := Tryd.zeroValue224
  t146 := Tryd.underlying216
  a146 := Tryd.isAgg216
  z146 := Tryd.sizeOf216
  v146 := Tryd.zeroValue216
  g1 := by kernel_rfl
  g3 := by kernel_rfl
  g4 := by kernel_rfl }
open Go.RowKit Go.Lib in
theorem Tryd.strings_genSplit (s sep : ByteArray) (sv : Nat) (n : Int) (N : Nat) (m : Int) (w : World) (hs : s.size < 4294967281) (hm : w.cell? ⟨1, 0, none⟩ = some (.int .i64 m)) (h1 : 1 ≤ sep.size) (hsv : sv ≤ sep.size) (hn0 : n ≠ 0) (hn63 : n ≤ 9223372036854775807) (hN : (N : Int) = min (if n < 0 then (Lib.countB s sep : Int) + 1 else n) ((s.size : Int) + 1)) :
    Calls Tryd.prog 160 #[.string s, .string sep, .int .i64 sv, .int .i64 n] w fun e w' =>
      e = .returned (.slice (some ⟨w.heap.size, 0, none⟩) (Lib.splitB sep sv (N - 1) s).length N) ∧ w' = w.alloc (.cells (Lib.cellsOf (Lib.splitB sep sv (N - 1) s) N) 9) := Any.strings_genSplit Tryd.lays221 (by kernel_rfl) s sep sv n N m w hs hm h1 hsv hn0 hn63 hN
def Tryd.lays105_ren : Go.Shelf.Ren := ⟨fun | 105 => 129 | 212 => 161 | 99 => 162 | 165 => 137 | 166 => 43 | 170 => 163 | 169 => 45 | 263 => 187 | 264 => 188 | 206 => 167 | 240 => 94 | 241 => 169 | 276 => 136 | 277 => 190 | n => n, fun | 9 => 9 | 3 => 3 | 4 => 4 | 20 => 20 | 0 => 0 | 46 => 114 | 109 => 182 | 5 => 5 | 72 => 70 | 76 => 76 | 51 => 215 | 146 => 216 | 53 => 64 | 148 => 218 | 70 => 67 | 37 => 68 | 75 => 47 | 127 => 120 | 164 => 149 | 80 => 79 | n => n, fun | n => n⟩
theorem Tryd.lays105 : Go.Proofs.Lays.n105 Tryd.prog Tryd.lays105_ren := {
  mixed := by kernel_rfl
  f99 := Tryd.func162.trans (congrArg some (by kernel_rfl))
  f105 := Tryd.func129.trans (congrArg some (by kernel_rfl))
  f165 := Tryd.func137.trans (congrArg some (by kernel_rfl))
  f166 := Tryd.func43.trans (congrArg some (by kernel_rfl))
  f169 := Tryd.func45.trans (congrArg some (by kernel_rfl))
  f170 := Tryd.func163.trans (congrArg some (by kernel_rfl))
  f206 := Tryd.func167.trans (congrArg some (by kernel_rfl))
  f212 := Tryd.func161.trans (congrArg some (by kernel_rfl))
  f240 := Tryd.func94.trans (congrArg some (by kernel_rfl))
  f241 := Tryd.func169.trans (congrArg some (by kernel_rfl))
  f263 := Tryd.func187.trans (congrArg some (by kernel_rfl))
  f264 := Tryd.func188.trans (congrArg some (by kernel_rfl))
  f276 := Tryd.func136.trans (congrArg some (by kernel_rfl))
  f277 := Tryd.func190.trans (congrArg some (by kernel_rfl))
  t0 := Tryd.underlying0
  a0 := Tryd.isAgg0
  z0 := Tryd.sizeOf0
  v0 := Tryd.zeroValue0
  t3 := Tryd.underlying3
  a3 := Tryd.isAgg3
  z3 := Tryd.sizeOf3
  v3 := Tryd.zeroValue3
  t4 := Tryd.underlying4
  a4 := Tryd.isAgg4
  z4 := Tryd.sizeOf4
  v4 := Tryd.zeroValue4
  t5 := Tryd.underlying5
  a5 := Tryd.isAgg5
  z5 := Tryd.sizeOf5
  v5 := Tryd.zeroValue5
  t9 := Tryd.underlying9
  a9 := Tryd.isAgg9
  z9 := Tryd.sizeOf9
  v9 := Tryd.zeroValue9
  t20 := Tryd.underlying20
  a20 := Tryd.isAgg20
  z20 := Tryd.sizeOf20
  v20 := Tryd.zeroValue20
  t37 := Tryd.underlying68
  a37 := Tryd.isAgg68
  z37 := Tryd.sizeOf68
  v37 := Tryd.zeroValue68
  t46 := Tryd.underlying114
  a46 := Tryd.isAgg114
  z46 := Tryd.sizeOf114
  v46 := Tryd.zeroValue114
  t51 := Tryd.underlying215
  a51 := Tryd.isAgg215
  z51 := Tryd.sizeOf215
  v51 := Tryd.zeroValue215
  t53 := Tryd.underlying64
  a53 := Tryd.isAgg64
  z53 := Tryd.sizeOf64
  v53 := Tryd.zeroValue64
  t70 := Tryd.underlying67
  a70 := Tryd.isAgg67
  z70 := Tryd.sizeOf67
  v70 := Tryd.zeroValue67
  t72 := Tryd.underlying70
  a72 := Tryd.isAgg70
  z72 := Tryd.sizeOf70
  v72 := Tryd.zeroValue70
  t75 := Tryd.underlying47
  a75 := Tryd.isAgg47
  z75 := Tryd.sizeOf47
  v75 := Tryd.zeroValue47
  t76 := Tryd.underlying76
  a76 := Tryd.isAgg76
  z76 := Tryd.sizeOf76
  v76 := Tryd.zeroValue76
  t109 := Tryd.underlying182
  a109 := Tryd.isAgg182
  z109 := Tryd.sizeOf182
  v109 := Tryd.zeroValue182
  t127 := Tryd.underlying120
  a127 := Tryd.isAgg120
  z127 := Tryd.sizeOf120
  v127 := Tryd.zeroValue120
  t146 := Tryd.underlying216
  a146 := Tryd.isAgg216
  z146 := Tryd.sizeOf216
  v146 := Tryd.zeroValue216
  t148 := Tryd.underlying218
  a148 := Tryd.isAgg218
  z148 := Tryd.sizeOf218
  v148 := Tryd.zeroValue218
  t164 := Tryd.underlying149
  a164 := Tryd.isAgg149
  z164 := Tryd.sizeOf149
  v164 := Tryd.zeroValue149 }
theorem Tryd.Builder_Extra_105 : Builder.Extra Tryd.prog Tryd.lays105_ren := {
  sizeBuilder := by kernel_rfl
  liesBuilder := by kernel_rfl
  t5 := Tryd.underlying5
  a5 := Tryd.isAgg5
  z5 := Tryd.sizeOf5
  v5 := Tryd.zeroValue5
  infoByte := by kernel_rfl
  cellsByte := by kernel_rfl
  sizeByte := by kernel_rfl
  neB5 := by decide }
open Go.RowKit Go.Lib in
/-- **strings.Repeat: count ≥ 0, the result within one allocation: count copies of s.** (LAID: no walk: one application.) -/
theorem Tryd.strings_Repeat (s : ByteArray) (c : Nat) (w : World) (hc : c ≤ 9223372036854775807) (hlen : s.size * c ≤ 140737488355328) :
    Calls Tryd.prog 129 #[.string s, .int .i64 c] w fun e w' => e = .returned (.string ⟨(Lib.repeatL s.data.toList c).toArray⟩) ∧ Below w.heap.size w w' := Any.strings_Repeat Tryd.lays105 Tryd.Builder_Extra_105 s c w hc hlen
end Go.Proofs
set_option linter.unusedVariables false
set_option linter.unusedSimpArgs false
namespace Go.Proofs.YtpbkdcfjlbdgfaaDoor
open Go Go.Ev
set_option maxRecDepth 100000
variable {G : World → Prop}
/-- A library function whose answer leads to new blocks. -/
theorem sound_lib3 {G : World → Prop} {P : Program} {f : FuncId} {g : List SV → Option (Prop × SV)} (hb : HasBody P f)
    (h : ∀ args p x, g args = some (p, x) → p → ∀ w, G w → ∀ m c vs, (∀ a u, c a u → w.cell? a = some u) → CnL m 0 c args vs → Calls P f vs.toArray w fun e w' => (∃ v, e = .returned v ∧ ∀ m n c', (∀ a u, c a u → c' a u) → (∀ a u, w'.cell? a = some u → w.heap.size ≤ a.block → c' a u) → Cn m n c' x v) ∧ RowKit.Below w.heap.size w w') : Sound G P f (pureC g) := by
  refine ⟨pureC_lawful g, ?_, SoundIt.none⟩
  intro H w m B s args vs K hK hO ha
  rw [pureC_wp] at hK
  obtain ⟨p, h1, rfl, h3, h4⟩ := need_ex hK
  refine ⟨hb, (h args p.1 p.2 h1 h3 w hO.gw m _ vs (fun a u hau => hau.1) ha).mono ?_⟩
  rintro e w' ⟨⟨v, rfl, hv⟩, hB⟩
  have hS : Since w m B ⟨0, []⟩ w' m B ⟨0, []⟩ := ⟨hB.os, hB.tape, hB.output, hB.size, fun b hb _ => hB.block b hb, fun b hb => .inl hb, Nat.le_refl _, fun _ _ => rfl, fun o x b _ h1 h2 h3 => .inl ⟨x, h1, h2, h3⟩⟩
  exact ⟨m, B, ⟨0, []⟩, .ret p.2, h4, SOk.empty (fun b hb => Nat.lt_of_lt_of_le (hO.hid b hb) hB.size) (hO.gs hS) _ _, hS, hv _ _ _ hS.vw fun a u h1 h2 => ⟨h1, fun ⟨o, x, e, _⟩ => by simp [lk] at e, fun hh => by have := hO.hid _ hh; omega⟩⟩
/-- The lines of a text. -/
def lns : List UInt8 → List (List UInt8)
  | [] => []
  | c :: r => if c = 10 then [10] :: lns r else match lns r with
    | [] => [[c]]
    | p :: ps => (c :: p) :: ps
/-- The pieces: a last one is empty where the text is, or ends with a line feed. -/
def pcs : List UInt8 → List (List UInt8)
  | [] => [[]]
  | c :: r => if c = 10 then [10] :: pcs r else match pcs r with
    | [] => [[c]]
    | p :: ps => (c :: p) :: ps
theorem pcs_ne : ∀ l, pcs l ≠ []
  | [] => by simp [pcs]
  | c :: r => by
    simp only [pcs]
    split
    · simp
    · split <;> simp
theorem pcs_lns : ∀ l, pcs l = lns l ++ (if l = [] ∨ l.getLast? = some 10 then [[]] else [])
  | [] => by simp [pcs, lns]
  | c :: r => by
    have h := pcs_lns r
    simp only [pcs, lns]
    by_cases hc : c = 10
    · subst hc
      rw [if_pos rfl, if_pos rfl, h, List.cons_append]
      congr 2
      cases r with
      | nil => simp
      | cons d r => simp [List.getLast?_cons_cons]
    · rw [if_neg hc, if_neg hc]
      cases r with
      | nil => simp [pcs, lns, hc]
      | cons d r =>
        have hn : lns (d :: r) ≠ [] := by
          simp only [lns]
          split
          · simp
          · split <;> simp
        cases hl : lns (d :: r) with
        | nil => exact absurd hl hn
        | cons p ps =>
          rw [h, hl]
          simp [List.getLast?_cons_cons]
theorem pcs_pre (p r : List UInt8) (hp : ∀ c ∈ p, c ≠ 10) : pcs (p ++ 10 :: r) = (p ++ [10]) :: pcs r := by
  induction p with
  | nil => simp [pcs]
  | cons c p ih =>
    have h := ih fun d hd => hp d (List.mem_cons_of_mem _ hd)
    simp only [List.cons_append, pcs, if_neg (hp c (List.mem_cons_self ..)), h]
theorem pcs_no (p : List UInt8) (hp : ∀ c ∈ p, c ≠ 10) : pcs p = [p] := by
  induction p with
  | nil => rfl
  | cons c p ih =>
    have h := ih fun d hd => hp d (List.mem_cons_of_mem _ hd)
    simp only [pcs, if_neg (hp c (List.mem_cons_self ..)), h]
theorem feed_or : ∀ l : List UInt8, (∀ c ∈ l, c ≠ 10) ∨ ∃ p r, l = p ++ 10 :: r ∧ ∀ c ∈ p, c ≠ 10
  | [] => .inl (by simp)
  | c :: l => by
    by_cases hc : c = 10
    · exact .inr ⟨[], l, by rw [hc]; rfl, by simp⟩
    · rcases feed_or l with h | ⟨p, r, rfl, h⟩
      · exact .inl (by simp only [List.mem_cons, forall_eq_or_imp]; exact ⟨hc, h⟩)
      · exact .inr ⟨c :: p, r, rfl, by simp only [List.mem_cons, forall_eq_or_imp]; exact ⟨hc, h⟩⟩
theorem occ_at (l : List UInt8) (i : Nat) : Lib.occAt l [10] i = decide (l[i]? = some 10) := by
  unfold Lib.occAt
  cases h : l.drop i with
  | nil =>
    have := List.drop_eq_nil_iff.1 h
    rw [List.getElem?_eq_none this]; rfl
  | cons c r =>
    have : l[i]? = some c := by rw [← List.head?_drop, h]; rfl
    rw [this]
    by_cases hc : c = 10
    · subst hc; simp [List.isPrefixOf]
    · have : ¬ (10 : UInt8) = c := fun e => hc e.symm
      simp [List.isPrefixOf, hc, this]
theorem index_feed (p r : List UInt8) (hp : ∀ c ∈ p, c ≠ 10) : Lib.index (p ++ 10 :: r) [10] = p.length := by
  refine Lib.index_first (by simp) (by rw [occ_at]; simp) fun j hj => ?_
  rw [occ_at, List.getElem?_append_left hj, List.getElem?_eq_getElem hj]
  simpa using hp _ (List.getElem_mem hj)
theorem splitK_pcs : ∀ (n : Nat) (l : List UInt8), l.count 10 = n → Lib.splitK [10] 1 n l = pcs l
  | 0, l, h => by
    have h2 : ∀ c ∈ l, c ≠ 10 := fun c hc e => by subst e; exact absurd (List.count_pos_iff.2 hc) (by omega)
    rw [pcs_no l h2]; rfl
  | n + 1, l, h => by
    rcases feed_or l with h2 | ⟨p, r, rfl, h2⟩
    · have : l.count 10 = 0 := List.count_eq_zero.2 fun hm => h2 _ hm rfl
      omega
    · have hc : p.count 10 = 0 := List.count_eq_zero.2 fun hm => h2 _ hm rfl
      rw [List.count_append, List.count_cons, hc] at h
      simp only [Lib.splitK, index_feed p r h2]
      have e1 : ((p.length : Int) == -1) = false := by simp
      rw [e1, pcs_pre p r h2]
      simp only [Bool.false_eq_true, if_false, Int.toNat_natCast, List.length_cons, List.length_nil]
      rw [splitK_pcs n _ (by rw [show p ++ 10 :: r = (p ++ [10]) ++ r by simp, List.drop_left' (by simp)]; simpa using h)]
      rw [show p ++ 10 :: r = (p ++ [10]) ++ r by simp, List.take_left' (by simp), List.drop_left' (by simp)]
theorem pcs_len : ∀ l, (pcs l).length = l.count 10 + 1
  | [] => rfl
  | c :: r => by
    have h := pcs_len r
    simp only [pcs]
    by_cases hc : c = 10
    · subst hc; simp [h]
    · rw [if_neg hc, List.count_cons_of_ne (fun e => hc e)]
      cases hp : pcs r with
      | nil => exact absurd hp (pcs_ne r)
      | cons p ps => rw [hp] at h; simpa using h
/-- strings.genSplit behind line feeds: each piece ends with one, but the last. -/
def CGen : Contract := pureC fun args => match args with
  | [.d (.v (.string s)), .d (.v (.string p)), .d (.v (.int .i64 sv)), .d (.v (.int .i64 n))] => some ((s.size ≤ 1099511627 ∧ p.data.toList = [10] ∧ sv = 1 ∧ n = -1), .d (.sl (strRows (pcs s.data.toList))))
  | _ => none
theorem sGen : Sound G Tryd.prog 160 CGen := by
  refine sound_lib3 ⟨Tryd.f160, by kernel_rfl, by kernel_rfl, by kernel_rfl⟩ fun args p x h hp => ?_
  split at h <;> simp only [Option.some.injEq, Prod.mk.injEq, reduceCtorEq] at h
  obtain ⟨rfl, rfl⟩ := h
  rename_i s q sv n
  obtain ⟨h1, h2, rfl, rfl⟩ := hp
  obtain ⟨q', rfl⟩ := ex_str q
  simp only [sem_str] at h2
  subst h2
  intro w hw m c vs hc hv
  match vs, hv with
  | [a, b, d, e], hv =>
    simp only [CnL, and_true] at hv
    obtain ⟨v1, v2, v3, v4⟩ := hv
    rw [of_v v1, of_v v2, of_v v3, of_v v4]
    have hi : ∀ x : ByteArray, Lib.indexB x ⟨#[10]⟩ = Lib.indexByte x.data.toList 10 := fun x => Lib.index_one _ _
    have hcn : Lib.countB s ⟨#[10]⟩ = s.data.toList.count 10 := Lib.count_one _ _
    have hle := Lib.countB_le ⟨#[10]⟩ (Nat.le_refl _) s.size s (Nat.le_refl _)
    have hlen := Lib.splitB_all ⟨#[10]⟩ (Nat.le_refl _) 1 _ s rfl
    have hd := Lib.splitB_data ⟨#[10]⟩ 1 (Lib.countB s ⟨#[10]⟩) s
    rw [show (⟨#[10]⟩ : ByteArray).data.toList = [10] from rfl, splitK_pcs _ _ hcn.symm] at hd
    have hcc := Any.strings_genSplit_core Tryd.lays221 (by kernel_rfl) s ⟨#[10]⟩ 1 (-1) (Lib.countB s ⟨#[10]⟩ + 1) w (by omega) (Nat.le_refl _) (Nat.le_refl _)
      (fun x cs hx => (Tryd.strings_Index_one x 10 _).mono fun e w' ⟨he, hw⟩ => ⟨by rw [he, hi], hw⟩)
      ((Tryd.strings_Count_one s 10 w).mono fun e w' ⟨he, hw⟩ => ⟨by rw [he, hcn]; rfl, hw⟩) (by decide) (by decide) (by rw [if_pos (by decide)]; omega)
    rw [Nat.add_sub_cancel, hlen] at hcc
    have e2 : Lib.cellsOf (Lib.splitB ⟨#[10]⟩ 1 (Lib.countB s ⟨#[10]⟩) s) (Lib.countB s ⟨#[10]⟩ + 1) = ((Lib.splitB ⟨#[10]⟩ 1 (Lib.countB s ⟨#[10]⟩) s).map Value.string).toArray := by rw [← hlen]; exact Lib.cellsOf_full _
    rw [e2] at hcc
    refine hcc.mono ?_
    rintro e w' ⟨rfl, rfl⟩
    have hpl : (pcs s.data.toList).length = Lib.countB s ⟨#[10]⟩ + 1 := by rw [pcs_len, hcn]
    refine ⟨⟨_, rfl, fun m n c' _ h2 => ?_⟩, (RowKit.Below.refl _ _).alloc (Nat.le_refl _) _⟩
    simp only [Cn, Rd]
    refine ⟨_, _, by rw [strRows_len, hpl], by rw [strRows_len, hpl]; exact Nat.le_refl _, by rw [strRows_len, hpl]; omega, .inr ⟨_, 1, rfl, rfl, ?_⟩⟩
    refine rdRows_of fun i r hir => ?_
    have hil : i < (pcs s.data.toList).length := by
      have := (List.getElem?_eq_some_iff.1 hir).1
      rwa [strRows_len] at this
    rw [strRows_get hil] at hir
    obtain rfl := Option.some.inj hir
    have hbl : i < (Lib.splitB ⟨#[10]⟩ 1 (Lib.countB s ⟨#[10]⟩) s).length := by rw [hlen, ← hpl]; exact hil
    refine ⟨rfl, ⟨.string (Lib.splitB ⟨#[10]⟩ 1 (Lib.countB s ⟨#[10]⟩) s)[i], h2 _ _ ?_ ?_, ?_⟩, trivial⟩
    · have hadd : (⟨w.heap.size, 0, none⟩ : Addr).add (0 + i * 1) = ⟨w.heap.size, i, none⟩ := by
        unfold Addr.add
        by_cases hz : i = 0
        · subst hz; rfl
        · rw [if_neg (by omega)]; simp
      rw [hadd, World.cell?_alloc_at _ _ _ _ (by simp)]
      simp [List.getElem?_eq_getElem hbl]
    · have hb : ((⟨w.heap.size, 0, none⟩ : Addr).add (0 + i * 1)).block = w.heap.size := by unfold Addr.add; split <;> rfl
      rw [hb]; exact Nat.le_refl _
    · simp only [Rd, Value.oneCell', and_true]
      have e3 : (pcs s.data.toList).getD i [] = ((Lib.splitB ⟨#[10]⟩ 1 (Lib.countB s ⟨#[10]⟩) s)[i]).data.toList := by
        rw [← hd, List.getD_eq_getElem?_getD, List.getElem?_map, List.getElem?_eq_getElem hbl]; rfl
      rw [e3]
  | [], hv => simp [CnL] at hv
  | [_], hv => simp [CnL] at hv
  | [_, _], hv => simp [CnL] at hv
  | [_, _, _], hv => simp [CnL] at hv
  | _ :: _ :: _ :: _ :: _ :: _, hv => simp [CnL] at hv
/-- strings.SplitAfter, lines.Split. -/
def CAfter : Contract := pureC fun args => match args with
  | [.d (.v (.string s)), .d (.v (.string p))] => some ((s.size ≤ 1099511627 ∧ p.data.toList = [10]), .d (.sl (strRows (pcs s.data.toList))))
  | _ => none
theorem s128 : Sound G Tryd.prog 128 CAfter := by
  refine sd128 (T := tabT [(160, CGen)]) (tab_cons sGen tab_nil) (pureC_lawful _) (pure_hX fun args p x K h hp hk => ?_)
  split at h <;> simp only [Option.some.injEq, Prod.mk.injEq, reduceCtorEq] at h
  obtain ⟨rfl, rfl⟩ := h
  rename_i s q
  obtain ⟨h1, h2⟩ := hp
  obtain ⟨q', rfl⟩ := ex_str q
  simp only [sem_str] at h2
  subst h2
  refine ⟨Nat.le_of_ble_eq_true rfl, ?_⟩
  simp -dsimp -implicitDefEqProofs only [S128, R128, CGen, h1, ↓Ev.xStp_eq, ↓Ev.P, Ev.Q, Bool.cond_true, Bool.cond_false, eq_self, forall_eq_or_imp, implies_true, forall_const, forall_eq, ↓reduceIte, reduceIte, Nat.reduceEqDiff, Nat.reduceAdd, reduceCtorEq, Nat.reduceSub, Int.reduceToNat, Int.reduceLE, Int.reduceLT, Int.reduceNeg, Nat.reduceBEq, Nat.reduceMul, Nat.reduceLeDiff, Nat.reduceMod, UInt8.reduceOfNat, Nat.reduceLT, Int.reduceEq, Int.reduceAdd, Int.reduceSub, Int.reduceMul]
  exact ⟨rfl, hk⟩
def CSplit : Contract := pureC fun args => match args with
  | [.d (.v (.string s))] => some (s.size ≤ 1099511627, .d (.sl (strRows (lns s.data.toList))))
  | _ => none
theorem pcs_last (l : List UInt8) : (pcs l).getD ((pcs l).length - 1) [] = if l = [] ∨ l.getLast? = some 10 then [] else (lns l).getLast?.getD [] := by
  rw [pcs_lns]
  split
  · simp [List.getD_eq_getElem?_getD]
  · rw [List.append_nil, List.getD_eq_getElem?_getD, List.getLast?_eq_getElem?]
theorem lns_ne : ∀ l, ∀ s ∈ lns l, s ≠ []
  | [], s, h => by simp [lns] at h
  | c :: r, s, h => by
    simp only [lns] at h
    split at h
    · rcases List.mem_cons.1 h with rfl | h
      · simp
      · exact lns_ne r s h
    · split at h
      · obtain rfl := List.mem_singleton.1 h; simp
      · rename_i p ps e
        rcases List.mem_cons.1 h with rfl | h
        · simp
        · exact lns_ne r s (by rw [e]; exact List.mem_cons_of_mem _ h)
theorem s82 : Sound G Tryd.prog 82 CSplit := by
  refine sd82 (T := tabT [(128, CAfter)]) (tab_cons s128 tab_nil) (pureC_lawful _) (pure_hX fun args p x K h hp hk => ?_)
  split at h <;> simp only [Option.some.injEq, Prod.mk.injEq, reduceCtorEq] at h
  obtain ⟨rfl, rfl⟩ := h
  rename_i s
  obtain ⟨s, rfl⟩ := ex_str s
  simp only [sem_str] at hp hk
  refine ⟨Nat.le_of_ble_eq_true rfl, ?_⟩
  have hl := pcs_len s
  have hcl := List.count_le_length (a := (10 : UInt8)) (l := s)
  have hg := strRows_get (l := pcs s) (i := (pcs s).length - 1) (by omega)
  have hlast := pcs_last s
  have hL := pcs_lns s
  by_cases hc : s = [] ∨ s.getLast? = some 10
  · rw [if_pos hc] at hlast hL
    rw [hlast] at hg
    have ht : (strRows (pcs s)).take ((pcs s).length - 1) = strRows (lns s) := by rw [hL]; simp [strRows]
    simp -dsimp -implicitDefEqProofs only [S82, R82, CAfter, hp, hg, strRows_len, ↓Ev.xStp_eq, ↓Ev.P, Ev.Q, Bool.cond_true, Bool.cond_false, eq_self, forall_eq_or_imp, implies_true, forall_const, forall_eq, ↓reduceIte, reduceIte, Nat.reduceEqDiff, Nat.reduceAdd, reduceCtorEq, Nat.reduceSub, Int.reduceToNat, Int.reduceLE, Int.reduceLT, Int.reduceNeg, Nat.reduceBEq, Nat.reduceMul, Nat.reduceLeDiff, Nat.reduceMod, UInt8.reduceOfNat, Nat.reduceLT, Int.reduceEq, Int.reduceAdd, Int.reduceSub, Int.reduceMul]
    refine ⟨by omega, by omega, by omega, by omega, by rw [strRows_all]; trivial, ?_⟩
    rw [ht]; exact hk
  · rw [if_neg hc] at hlast hL
    rw [hlast] at hg
    have hne : ¬ (lns s).getLast?.getD [] = [] := by
      cases hq : (lns s).getLast? with
      | none =>
        have h1 := List.getLast?_eq_none_iff.1 hq
        rw [h1, List.append_nil] at hL
        exact absurd hL (pcs_ne s)
      | some x => exact lns_ne s x (List.mem_of_getLast? hq)
    simp -dsimp -implicitDefEqProofs only [S82, R82, CAfter, hp, hg, strRows_len, ↓Ev.xStp_eq, ↓Ev.P, Ev.Q, Bool.cond_true, Bool.cond_false, eq_self, forall_eq_or_imp, implies_true, forall_const, forall_eq, ↓reduceIte, reduceIte, Nat.reduceEqDiff, Nat.reduceAdd, reduceCtorEq, Nat.reduceSub, Int.reduceToNat, Int.reduceLE, Int.reduceLT, Int.reduceNeg, Nat.reduceBEq, Nat.reduceMul, Nat.reduceLeDiff, Nat.reduceMod, UInt8.reduceOfNat, Nat.reduceLT, Int.reduceEq, Int.reduceAdd, Int.reduceSub, Int.reduceMul]
    refine ⟨by omega, by omega, fun h => absurd h hne, fun _ => ?_⟩
    rw [hL, List.append_nil]; exact hk
end Go.Proofs.YtpbkdcfjlbdgfaaDoor
/- The compiled code of functions, by program (gen.py): each theorem says that the loaded program compiles to it. -/
set_option linter.unusedVariables false
namespace Go.Proofs.YtpbkdcfjlbdgfaaDoor
open Go Go.Ev
set_option maxRecDepth 100000

/-! 40: redline/num.Unquote -/
def A40 : Ann := ⟨fun r i => if r = 4 ∧ i = 0 then 7 else 0, fun _ => none, fun r => if r = 1 then some (false, [0]) else if r = 3 then some (false, []) else if r = 6 then some (false, [5, 7]) else if r = 7 then some (false, [5, 7, 8]) else if r = 8 then some (false, [5, 7, 8]) else if r = 9 then some (false, [5, 7, 8, 9, 10]) else if r = 10 then some (false, []) else if r = 11 then some (false, [5, 7, 9]) else if r = 12 then some (false, [5, 7]) else if r = 13 then some (false, [5, 7, 8]) else if r = 14 then some (false, [5, 7]) else if r = 15 then some (false, [5, 7, 8]) else if r = 16 then some (false, [5, 7, 8]) else if r = 17 then some (false, []) else none, fun r => if r = 5 then [5, 7] else []⟩
def S40 : SCode :=
  (.seq (.ops [⟨none, (some 2), .mv 2 (.k (Value.string ⟨#[]⟩)), false⟩,
    ⟨none, (some 3), .mv 3 (.k (Value.string ⟨#[]⟩)), false⟩,
    ⟨none, (some 4), .mv 4 (.k (Value.int .i64 0)), false⟩])
  (.seq (.seq (.keep [0]) (.ops [⟨none, (some 12), .mv 12 (.s 0), false⟩,
    ⟨none, (some 13), .call (some 13) 91 false [(.s 12), (.k (Value.string ⟨#[34]⟩))], false⟩,
    ⟨none, (some 11), .mv 11 (.s 13), false⟩,
    ⟨none, (some 14), .ex 14 (.s 11) 0, false⟩,
    ⟨none, (some 15), .ex 15 (.s 11) 1, false⟩,
    ⟨none, (some 5), .mv 5 (.s 14), false⟩,
    ⟨none, (some 6), .mv 6 (.s 15), false⟩]))
  (.seq (.seq (.ops [⟨none, (some 16), .mv 16 (.s 6), false⟩,
    ⟨none, (some 17), .not 17 (.s 16), false⟩])
  (.cond (.s 17) (.seq (.seq (.keep []) (.ops [⟨none, (some 2), .mv 2 (.k (Value.string ⟨#[]⟩)), false⟩,
    ⟨none, (some 3), .mv 3 (.k (Value.string ⟨#[]⟩)), false⟩,
    ⟨none, (some 4), .mv 4 (.k (Value.int .i64 3)), false⟩]))
  .ret) .skip))
  (.seq (.ops [⟨none, (some 7), .nr 7 5 1, false⟩])
  (.seq (.block 0 (.loop [5, 7] (.seq (.seq (.ops [⟨none, (some 18), .mv 18 (.s 5), false⟩,
    ⟨none, (some 19), .bin 19 .neq (.s 18) (.k (Value.string ⟨#[]⟩)), false⟩])
  (.cond (.s 19) .skip (.exit 0)))
  (.block 1 (.seq (.seq (.keep [5, 7]) (.ops [⟨none, (some 20), .mv 20 (.s 5), false⟩,
    ⟨none, (some 21), .ixs 21 (.s 20) (.k (Value.int .i64 0)), false⟩,
    ⟨none, (some 8), .mv 8 (.s 21), false⟩]))
  (.seq (.seq (.keep [5, 7, 8]) (.ops [⟨none, (some 22), .mv 22 (.s 5), false⟩,
    ⟨none, (some 23), .sls 23 (.s 22) (some (.k (Value.int .i64 1))) none, false⟩,
    ⟨none, (some 5), .mv 5 (.s 23), false⟩]))
  (.block 2 (.seq (.seq (.keep [5, 7, 8]) (.ops [⟨none, (some 42), .mv 42 (.s 8), false⟩,
    ⟨none, (some 43), .bin 43 .eql (.s 42) (.k (Value.int .u8 34)), false⟩,
    ⟨none, (some 41), .mv 41 (.s 43), false⟩]))
  (.cond (.s 41) (.seq (.seq (.keep [5, 7]) (.ops [⟨none, (some 44), .mv 44 (.s 7), false⟩,
    ⟨none, (some 45), .b2s 45 (.s 44), false⟩,
    ⟨none, (some 46), .mv 46 (.s 5), false⟩,
    ⟨none, (some 2), .mv 2 (.s 45), false⟩,
    ⟨none, (some 3), .mv 3 (.s 46), false⟩,
    ⟨none, (some 4), .mv 4 (.k (Value.int .i64 0)), false⟩]))
  .ret) (.seq (.seq (.keep [5, 7, 8]) (.ops [⟨none, (some 48), .mv 48 (.s 8), false⟩,
    ⟨none, (some 49), .call (some 49) 89 false [(.s 48)], false⟩,
    ⟨none, (some 47), .mv 47 (.s 49), false⟩]))
  (.cond (.s 47) (.seq (.keep [5, 7, 8]) (.ops [⟨none, (some 50), .mv 50 (.s 7), false⟩,
    ⟨none, (some 51), .mv 51 (.s 8), false⟩,
    ⟨none, (some 52), .bs 52 5 1 [(.s 51)], false⟩,
    ⟨none, (some 53), .ap 53 5 1 1 (.s 50) (.s 52), false⟩,
    ⟨none, (some 7), .mv 7 (.s 53), false⟩])) (.seq (.seq (.keep [5, 7, 8]) (.ops [⟨none, (some 25), .mv 25 (.s 5), false⟩,
    ⟨none, (some 26), .call (some 26) 92 false [(.s 25)], false⟩,
    ⟨none, (some 24), .mv 24 (.s 26), false⟩,
    ⟨none, (some 27), .ex 27 (.s 24) 0, false⟩,
    ⟨none, (some 28), .ex 28 (.s 24) 1, false⟩,
    ⟨none, (some 9), .mv 9 (.s 27), false⟩,
    ⟨none, (some 10), .mv 10 (.s 28), false⟩]))
  (.seq (.seq (.seq (.keep [5, 7, 8, 9, 10]) (.ops [⟨none, (some 29), .mv 29 (.s 8), false⟩,
    ⟨none, (some 30), .bin 30 .neq (.s 29) (.k (Value.int .u8 92)), false⟩,
    ⟨none, (some 31), .mv 31 (.s 30), false⟩,
    ⟨(some (31, false)), (some 32), .mv 32 (.s 10), false⟩,
    ⟨(some (31, false)), (some 33), .not 33 (.s 32), false⟩,
    ⟨none, (some 34), .pk 34 (.s 31) (.k (Value.bool true)) (.s 33), false⟩]))
  (.cond (.s 34) (.seq (.seq (.keep []) (.ops [⟨none, (some 2), .mv 2 (.k (Value.string ⟨#[]⟩)), false⟩,
    ⟨none, (some 3), .mv 3 (.k (Value.string ⟨#[]⟩)), false⟩,
    ⟨none, (some 4), .mv 4 (.k (Value.int .i64 3)), false⟩]))
  .ret) .skip))
  (.seq (.seq (.keep [5, 7, 9]) (.ops [⟨none, (some 35), .mv 35 (.s 7), false⟩,
    ⟨none, (some 36), .mv 36 (.s 9), false⟩,
    ⟨none, (some 37), .bs 37 5 1 [(.s 36)], false⟩,
    ⟨none, (some 38), .ap 38 5 1 1 (.s 35) (.s 37), false⟩,
    ⟨none, (some 7), .mv 7 (.s 38), false⟩]))
  (.seq (.keep [5, 7]) (.ops [⟨none, (some 39), .mv 39 (.s 5), false⟩,
    ⟨none, (some 40), .sls 40 (.s 39) (some (.k (Value.int .i64 2))) none, false⟩,
    ⟨none, (some 5), .mv 5 (.s 40), false⟩]))))))))))))))))
  (.seq (.seq (.keep []) (.ops [⟨none, (some 2), .mv 2 (.k (Value.string ⟨#[]⟩)), false⟩,
    ⟨none, (some 3), .mv 3 (.k (Value.string ⟨#[]⟩)), false⟩,
    ⟨none, (some 4), .mv 4 (.k (Value.int .i64 3)), false⟩]))
  .ret))))))
theorem cc40 : (Tryd.f40.body).bind (cc Tryd.prog Tryd.f40.ntmps A40) = some S40 := by kernel_rfl
def R40 : List RR := [.sl 2, .sl 3, .sl 4]
theorem cr40 : Tryd.f40.results.toList.map (crr Tryd.prog) = R40.map some := by kernel_rfl
theorem nm40 : (Tryd.f40.name == "runtime.NumGoroutine") = false := by kernel_rfl
theorem fn40 : Tryd.prog.funcs[40]? = some Tryd.f40 := by kernel_rfl
theorem bd40 : ∃ b, Tryd.f40.body = some b ∧ cc Tryd.prog Tryd.f40.ntmps A40 b = some S40 := Option.bind_eq_some_iff.1 cc40
theorem sd40 {G : World → Prop} {T : FuncId → Contract} {C : Contract} (hT : ∀ f, Sound G Tryd.prog f (T f)) (hl : C.lawful) (hC : ∀ args st K, C.wp args st K → args.length ≤ 54 ∧ ∃ os op, xv T st.n S40 (st0 args st) (retK R40 st.n os K) (panK st.n op K)) (hit : SoundIt G Tryd.prog 40 C.it := by exact SoundIt.none) : Sound G Tryd.prog 40 C := by
  obtain ⟨b, hb, hc⟩ := bd40
  rw [xv_eq] at hC
  exact sound_of_ev mo fn40 hb nm40 hc cr40 hT hl hit hC

/-! 54: redline/redlineref01.Unquote -/
def A54 : Ann := ⟨fun r i => if r = 3 ∧ i = 0 then 7 else if r = 12 ∧ i = 8 then 1 else if r = 12 ∧ i = 16 then 1 else if r = 12 ∧ i = 24 then 1 else if r = 12 ∧ i = 32 then 1 else if r = 12 ∧ i = 38 then 1 else if r = 12 ∧ i = 41 then 1 else 0, fun r => if r = 9 then some ([0, 1, 2, 3, 4, 5, 6, 7, 8, 9, 10, 11, 12, 13, 14, 15], [(0, true), (2, true), (3, true), (4, true), (5, true), (1, false), (6, true), (7, true), (8, true)]) else if r = 13 then some ([0, 1, 2, 3, 4, 5, 6, 7, 8, 9, 10, 11, 12, 13, 14, 15], [(0, true), (1, true), (2, true), (3, true), (4, true), (7, true), (8, true), (9, true), (10, true), (5, false), (6, true), (11, false), (12, true), (13, true), (14, false), (15, false), (16, true)]) else if r = 12 then some ([0, 1, 2, 3, 4, 5, 6, 7, 8, 9, 10, 11, 12, 13, 14, 15], [(0, true), (1, true), (2, true), (3, true), (4, true), (5, true), (6, true), (7, true), (8, true), (9, true), (10, true), (11, true), (12, true), (13, true), (14, true), (15, true), (16, false), (17, true), (18, true), (19, true), (20, true), (21, true), (22, true), (23, true), (24, false), (25, true), (26, true), (27, true), (28, true), (29, true), (30, true), (31, true), (34, true), (35, true), (36, true), (37, true), (32, false), (33, true), (38, false), (39, true), (40, true), (41, false), (42, true), (43, true), (44, true)]) else none, fun r => if r = 1 then some (false, [0]) else if r = 2 then some (false, []) else if r = 5 then some (false, [0, 5, 6]) else if r = 6 then some (false, [0, 5, 6]) else if r = 7 then some (false, []) else if r = 8 then some (false, [0, 5, 6]) else if r = 9 then some (false, [0, 5, 6]) else if r = 10 then some (false, [0, 5, 6]) else if r = 11 then some (false, [0, 5, 6]) else if r = 12 then some (false, [0, 5, 6]) else if r = 13 then some (false, [0, 5, 6]) else if r = 14 then some (false, [0, 5, 6]) else if r = 15 then some (false, []) else none, fun r => if r = 5 then [0, 5, 6] else []⟩
def S54 : SCode :=
  (.seq (.ops [⟨none, (some 2), .mv 2 (.k (Value.string ⟨#[]⟩)), false⟩,
    ⟨none, (some 3), .mv 3 (.k (Value.string ⟨#[]⟩)), false⟩,
    ⟨none, (some 4), .mv 4 (.k (Value.int .i64 0)), false⟩])
  (.seq (.seq (.seq (.keep [0]) (.ops [⟨none, (some 7), .mv 7 (.s 0), false⟩,
    ⟨none, (some 8), .lens 8 (.s 7), false⟩,
    ⟨none, (some 9), .bin 9 .eql (.s 8) (.k (Value.int .i64 0)), false⟩,
    ⟨none, (some 10), .mv 10 (.s 9), false⟩,
    ⟨(some (10, false)), (some 11), .mv 11 (.s 0), false⟩,
    ⟨(some (10, false)), (some 12), .ixs 12 (.s 11) (.k (Value.int .i64 0)), false⟩,
    ⟨(some (10, false)), (some 13), .bin 13 .neq (.s 12) (.k (Value.int .u8 34)), false⟩,
    ⟨none, (some 14), .pk 14 (.s 10) (.k (Value.bool true)) (.s 13), false⟩]))
  (.cond (.s 14) (.seq (.seq (.keep []) (.ops [⟨none, (some 2), .mv 2 (.k (Value.string ⟨#[]⟩)), false⟩,
    ⟨none, (some 3), .mv 3 (.k (Value.string ⟨#[]⟩)), false⟩,
    ⟨none, (some 4), .mv 4 (.k (Value.int .i64 3)), false⟩]))
  .ret) .skip))
  (.seq (.ops [⟨none, (some 5), .nr 5 5 1, false⟩])
  (.seq (.seq (.ops [⟨none, (some 6), .mv 6 (.k (Value.int .i64 1)), false⟩])
  (.block 0 (.loop [0, 5, 6] (.seq (.seq (.seq (.keep [0, 5, 6]) (.ops [⟨none, (some 15), .mv 15 (.s 6), false⟩,
    ⟨none, (some 16), .mv 16 (.s 0), false⟩,
    ⟨none, (some 17), .lens 17 (.s 16), false⟩,
    ⟨none, (some 18), .bin 18 .lss (.s 15) (.s 17), false⟩]))
  (.cond (.s 18) .skip (.exit 0)))
  (.seq (.block 1 (.block 2 (.seq (.seq (.keep [0, 5, 6]) (.ops [⟨none, (some 22), .mv 22 (.s 0), false⟩,
    ⟨none, (some 23), .mv 23 (.s 6), false⟩,
    ⟨none, (some 24), .ixs 24 (.s 22) (.s 23), false⟩,
    ⟨none, (some 25), .bin 25 .eql (.s 24) (.k (Value.int .u8 34)), false⟩,
    ⟨none, (some 21), .mv 21 (.s 25), false⟩]))
  (.cond (.s 21) (.seq (.seq (.keep [0, 5, 6]) (.dr [0, 1, 2, 3, 4, 5, 6, 7, 8, 9, 10, 11, 12, 13, 14, 15] [(0, true, ⟨none, (some 26), .mv 26 (.s 5), false⟩),
    (2, true, ⟨none, (some 28), .mv 28 (.s 0), false⟩),
    (3, true, ⟨none, (some 29), .mv 29 (.s 6), false⟩),
    (4, true, ⟨none, (some 30), .binc 30 .add (.s 29) (.k (Value.int .i64 1)), false⟩),
    (5, true, ⟨none, (some 31), .sls 31 (.s 28) (some (.s 30)) none, false⟩),
    (1, false, ⟨none, (some 27), .b2s 27 (.s 26), false⟩),
    (6, true, ⟨none, (some 2), .mv 2 (.s 27), false⟩),
    (7, true, ⟨none, (some 3), .mv 3 (.s 31), false⟩),
    (8, true, ⟨none, (some 4), .mv 4 (.k (Value.int .i64 0)), false⟩)]))
  .ret) (.seq (.seq (.keep [0, 5, 6]) (.ops [⟨none, (some 33), .mv 33 (.s 0), false⟩,
    ⟨none, (some 34), .mv 34 (.s 6), false⟩,
    ⟨none, (some 35), .ixs 35 (.s 33) (.s 34), false⟩,
    ⟨none, (some 36), .call (some 36) 104 false [(.s 35)], false⟩,
    ⟨none, (some 32), .mv 32 (.s 36), false⟩]))
  (.cond (.s 32) (.seq (.keep [0, 5, 6]) (.ops [⟨none, (some 37), .mv 37 (.s 5), false⟩,
    ⟨none, (some 38), .mv 38 (.s 0), false⟩,
    ⟨none, (some 39), .mv 39 (.s 6), false⟩,
    ⟨none, (some 40), .ixs 40 (.s 38) (.s 39), false⟩,
    ⟨none, (some 41), .bs 41 5 1 [(.s 40)], false⟩,
    ⟨none, (some 42), .ap 42 5 1 1 (.s 37) (.s 41), false⟩,
    ⟨none, (some 5), .mv 5 (.s 42), false⟩])) (.seq (.seq (.keep [0, 5, 6]) (.dr [0, 1, 2, 3, 4, 5, 6, 7, 8, 9, 10, 11, 12, 13, 14, 15] [(0, true, ⟨none, (some 44), .mv 44 (.s 0), false⟩),
    (1, true, ⟨none, (some 45), .mv 45 (.s 6), false⟩),
    (2, true, ⟨none, (some 46), .ixs 46 (.s 44) (.s 45), false⟩),
    (3, true, ⟨none, (some 47), .bin 47 .eql (.s 46) (.k (Value.int .u8 92)), false⟩),
    (4, true, ⟨none, (some 48), .mv 48 (.s 47), false⟩),
    (5, true, ⟨(some (48, true)), (some 49), .mv 49 (.s 6), false⟩),
    (6, true, ⟨(some (48, true)), (some 50), .binc 50 .add (.s 49) (.k (Value.int .i64 2)), false⟩),
    (7, true, ⟨(some (48, true)), (some 51), .mv 51 (.s 0), false⟩),
    (8, true, ⟨(some (48, true)), (some 52), .lens 52 (.s 51), false⟩),
    (9, true, ⟨(some (48, true)), (some 53), .bin 53 .lss (.s 50) (.s 52), true⟩),
    (10, true, ⟨none, (some 54), .pk 54 (.s 48) (.s 53) (.k (Value.bool false)), false⟩),
    (11, true, ⟨none, (some 55), .mv 55 (.s 54), false⟩),
    (12, true, ⟨(some (55, true)), (some 56), .mv 56 (.s 0), false⟩),
    (13, true, ⟨(some (55, true)), (some 57), .mv 57 (.s 6), false⟩),
    (14, true, ⟨(some (55, true)), (some 58), .binc 58 .add (.s 57) (.k (Value.int .i64 1)), false⟩),
    (15, true, ⟨(some (55, true)), (some 59), .ixs 59 (.s 56) (.s 58), false⟩),
    (16, false, ⟨(some (55, true)), (some 60), .call (some 60) 105 true [(.s 59)], false⟩),
    (17, true, ⟨(some (55, true)), (some 61), .bin 61 .geq (.s 60) (.k (Value.int .i64 0)), false⟩),
    (18, true, ⟨none, (some 62), .pk 62 (.s 55) (.s 61) (.k (Value.bool false)), false⟩),
    (19, true, ⟨none, (some 63), .mv 63 (.s 62), true⟩),
    (20, true, ⟨(some (63, true)), (some 64), .mv 64 (.s 0), false⟩),
    (21, true, ⟨(some (63, true)), (some 65), .mv 65 (.s 6), false⟩),
    (22, true, ⟨(some (63, true)), (some 66), .binc 66 .add (.s 65) (.k (Value.int .i64 2)), false⟩),
    (23, true, ⟨(some (63, true)), (some 67), .ixs 67 (.s 64) (.s 66), false⟩),
    (24, false, ⟨(some (63, true)), (some 68), .call (some 68) 105 true [(.s 67)], false⟩),
    (25, true, ⟨(some (63, true)), (some 69), .bin 69 .geq (.s 68) (.k (Value.int .i64 0)), false⟩),
    (26, true, ⟨none, (some 70), .pk 70 (.s 63) (.s 69) (.k (Value.bool false)), false⟩),
    (27, true, ⟨none, (some 71), .mv 71 (.s 70), false⟩),
    (28, true, ⟨(some (71, true)), (some 72), .mv 72 (.s 0), false⟩),
    (29, true, ⟨(some (71, true)), (some 73), .mv 73 (.s 6), true⟩),
    (30, true, ⟨(some (71, true)), (some 74), .binc 74 .add (.s 73) (.k (Value.int .i64 1)), false⟩),
    (31, true, ⟨(some (71, true)), (some 75), .ixs 75 (.s 72) (.s 74), false⟩),
    (34, true, ⟨(some (71, true)), (some 78), .mv 78 (.s 0), false⟩),
    (35, true, ⟨(some (71, true)), (some 79), .mv 79 (.s 6), false⟩),
    (36, true, ⟨(some (71, true)), (some 80), .binc 80 .add (.s 79) (.k (Value.int .i64 2)), false⟩),
    (37, true, ⟨(some (71, true)), (some 81), .ixs 81 (.s 78) (.s 80), false⟩),
    (32, false, ⟨(some (71, true)), (some 76), .call (some 76) 105 true [(.s 75)], false⟩),
    (33, true, ⟨(some (71, true)), (some 77), .binc 77 .mul (.k (Value.int .i64 16)) (.s 76), false⟩),
    (38, false, ⟨(some (71, true)), (some 82), .call (some 82) 105 true [(.s 81)], false⟩),
    (39, true, ⟨(some (71, true)), (some 83), .binc 83 .add (.s 77) (.s 82), true⟩),
    (40, true, ⟨(some (71, true)), (some 84), .cvi 84 .u8 (.s 83), false⟩),
    (41, false, ⟨(some (71, true)), (some 85), .call (some 85) 104 true [(.s 84)], false⟩),
    (42, true, ⟨(some (71, true)), (some 86), .not 86 (.s 85), false⟩),
    (43, true, ⟨none, (some 87), .pk 87 (.s 71) (.s 86) (.k (Value.bool false)), false⟩),
    (44, true, ⟨none, (some 43), .mv 43 (.s 87), false⟩)]))
  (.cond (.s 43) (.seq (.seq (.keep [0, 5, 6]) (.dr [0, 1, 2, 3, 4, 5, 6, 7, 8, 9, 10, 11, 12, 13, 14, 15] [(0, true, ⟨none, (some 88), .mv 88 (.s 5), false⟩),
    (1, true, ⟨none, (some 89), .mv 89 (.s 0), false⟩),
    (2, true, ⟨none, (some 90), .mv 90 (.s 6), false⟩),
    (3, true, ⟨none, (some 91), .binc 91 .add (.s 90) (.k (Value.int .i64 1)), false⟩),
    (4, true, ⟨none, (some 92), .ixs 92 (.s 89) (.s 91), false⟩),
    (7, true, ⟨none, (some 95), .mv 95 (.s 0), false⟩),
    (8, true, ⟨none, (some 96), .mv 96 (.s 6), false⟩),
    (9, true, ⟨none, (some 97), .binc 97 .add (.s 96) (.k (Value.int .i64 2)), true⟩),
    (10, true, ⟨none, (some 98), .ixs 98 (.s 95) (.s 97), false⟩),
    (5, false, ⟨none, (some 93), .call (some 93) 105 false [(.s 92)], false⟩),
    (6, true, ⟨none, (some 94), .binc 94 .mul (.k (Value.int .i64 16)) (.s 93), false⟩),
    (11, false, ⟨none, (some 99), .call (some 99) 105 false [(.s 98)], false⟩),
    (12, true, ⟨none, (some 100), .binc 100 .add (.s 94) (.s 99), false⟩),
    (13, true, ⟨none, (some 101), .cvi 101 .u8 (.s 100), false⟩),
    (14, false, ⟨none, (some 102), .bs 102 5 1 [(.s 101)], false⟩),
    (15, false, ⟨none, (some 103), .ap 103 5 1 1 (.s 88) (.s 102), false⟩),
    (16, true, ⟨none, (some 5), .mv 5 (.s 103), false⟩)]))
  (.seq (.keep [0, 5, 6]) (.ops [⟨none, (some 104), .mv 104 (.s 6), false⟩,
    ⟨none, (some 105), .binc 105 .add (.s 104) (.k (Value.int .i64 2)), false⟩,
    ⟨none, (some 6), .mv 6 (.s 105), false⟩]))) (.seq (.seq (.keep []) (.ops [⟨none, (some 2), .mv 2 (.k (Value.string ⟨#[]⟩)), false⟩,
    ⟨none, (some 3), .mv 3 (.k (Value.string ⟨#[]⟩)), false⟩,
    ⟨none, (some 4), .mv 4 (.k (Value.int .i64 3)), false⟩]))
  .ret)))))))))
  (.seq (.keep [0, 5, 6]) (.ops [⟨none, (some 19), .mv 19 (.s 6), false⟩,
    ⟨none, (some 20), .binc 20 .add (.s 19) (.k (Value.int .i64 1)), false⟩,
    ⟨none, (some 6), .mv 6 (.s 20), false⟩])))))))
  (.seq (.seq (.keep []) (.ops [⟨none, (some 2), .mv 2 (.k (Value.string ⟨#[]⟩)), false⟩,
    ⟨none, (some 3), .mv 3 (.k (Value.string ⟨#[]⟩)), false⟩,
    ⟨none, (some 4), .mv 4 (.k (Value.int .i64 3)), false⟩]))
  .ret)))))
theorem cc54 : (Tryd.f54.body).bind (cc Tryd.prog Tryd.f54.ntmps A54) = some S54 := by kernel_rfl
def R54 : List RR := [.sl 2, .sl 3, .sl 4]
theorem cr54 : Tryd.f54.results.toList.map (crr Tryd.prog) = R54.map some := by kernel_rfl
theorem nm54 : (Tryd.f54.name == "runtime.NumGoroutine") = false := by kernel_rfl
theorem fn54 : Tryd.prog.funcs[54]? = some Tryd.f54 := by kernel_rfl
theorem bd54 : ∃ b, Tryd.f54.body = some b ∧ cc Tryd.prog Tryd.f54.ntmps A54 b = some S54 := Option.bind_eq_some_iff.1 cc54
theorem sd54 {G : World → Prop} {T : FuncId → Contract} {C : Contract} (hT : ∀ f, Sound G Tryd.prog f (T f)) (hl : C.lawful) (hC : ∀ args st K, C.wp args st K → args.length ≤ 106 ∧ ∃ os op, xv T st.n S54 (st0 args st) (retK R54 st.n os K) (panK st.n op K)) (hit : SoundIt G Tryd.prog 54 C.it := by exact SoundIt.none) : Sound G Tryd.prog 54 C := by
  obtain ⟨b, hb, hc⟩ := bd54
  rw [xv_eq] at hC
  exact sound_of_ev mo fn54 hb nm54 hc cr54 hT hl hit hC

/-! 39: redline/num.Quote -/
def A39 : Ann := ⟨fun r i => if r = 1 ∧ i = 0 then 7 else 0, fun r => if r = 9 then some ([0, 1, 2, 3, 4, 5, 6, 7, 8, 9, 10, 11, 12, 13, 14, 15], [(0, true), (1, true), (2, true), (3, true), (4, true), (5, true), (6, false), (7, false)]) else none, fun r => if r = 3 then some (false, [0, 3]) else if r = 6 then some (false, [0, 3, 4, 8, 9]) else if r = 9 then some (false, [0, 3, 5, 8, 9]) else none, fun r => if r = 4 then [0, 3, 8, 9] else []⟩
def S39 : SCode :=
  (.seq (.ops [⟨none, (some 2), .mv 2 (.k (Value.string ⟨#[]⟩)), false⟩])
  (.seq (.ops [⟨none, (some 3), .alb 3 70 5, false⟩])
  (.seq (.ops [⟨none, (some 6), .call (some 6) 88 false [(.s 3), (.k (Value.int .u8 34))], false⟩])
  (.seq (.seq (.seq (.keep [0, 3]) (.ops [⟨none, (some 7), .mv 7 (.s 0), false⟩,
    ⟨none, (some 8), .lens 8 (.s 7), false⟩,
    ⟨none, (some 9), .mv 9 (.k (Value.int .i64 0)), false⟩]))
  (.block 0 (.loop [0, 3, 8, 9] (.seq (.ops [⟨none, (some 10), .bin 10 .lss (.s 9) (.s 8), false⟩])
  (.seq (.cond (.s 10) .skip (.exit 0))
  (.seq (.block 1 (.seq (.ops [⟨none, (some 11), .mv 11 (.s 9), false⟩,
    ⟨none, (some 4), .mv 4 (.s 11), false⟩])
  (.seq (.seq (.keep [0, 3, 4, 8, 9]) (.ops [⟨none, (some 12), .mv 12 (.s 0), false⟩,
    ⟨none, (some 13), .mv 13 (.s 4), false⟩,
    ⟨none, (some 14), .ixs 14 (.s 12) (.s 13), false⟩,
    ⟨none, (some 5), .mv 5 (.s 14), false⟩]))
  (.seq (.ops [⟨none, (some 15), .mv 15 (.s 5), false⟩,
    ⟨none, (some 16), .call (some 16) 89 false [(.s 15)], false⟩])
  (.cond (.s 16) (.ops [⟨none, (some 17), .mv 17 (.s 5), false⟩,
    ⟨none, (some 18), .call (some 18) 88 false [(.s 3), (.s 17)], false⟩]) (.seq (.keep [0, 3, 5, 8, 9]) (.dr [0, 1, 2, 3, 4, 5, 6, 7, 8, 9, 10, 11, 12, 13, 14, 15] [(0, true, ⟨none, (some 19), .mv 19 (.s 5), false⟩),
    (1, true, ⟨none, (some 20), .bin 20 .shr (.s 19) (.k (Value.int .u64 4)), false⟩),
    (2, true, ⟨none, (some 21), .ixs 21 (.k (Value.string ⟨#[48, 49, 50, 51, 52, 53, 54, 55, 56, 57, 97, 98, 99, 100, 101, 102]⟩)) (.s 20), false⟩),
    (3, true, ⟨none, (some 22), .mv 22 (.s 5), false⟩),
    (4, true, ⟨none, (some 23), .bin 23 .and (.s 22) (.k (Value.int .u8 15)), false⟩),
    (5, true, ⟨none, (some 24), .ixs 24 (.k (Value.string ⟨#[48, 49, 50, 51, 52, 53, 54, 55, 56, 57, 97, 98, 99, 100, 101, 102]⟩)) (.s 23), false⟩),
    (6, false, ⟨none, (some 25), .bs 25 5 1 [(.k (Value.int .u8 92)), (.s 21), (.s 24)], false⟩),
    (7, false, ⟨none, (some 26), .call (some 26) 90 false [(.s 3), (.s 25)], false⟩)])))))))
  (.ops [⟨none, (some 27), .binc 27 .add (.s 9) (.k (Value.int .i64 1)), false⟩,
    ⟨none, (some 9), .mv 9 (.s 27), false⟩])))))))
  (.seq (.ops [⟨none, (some 28), .call (some 28) 88 false [(.s 3), (.k (Value.int .u8 34))], false⟩])
  (.seq (.ops [⟨none, (some 29), .call (some 29) 45 false [(.s 3)], false⟩,
    ⟨none, (some 2), .mv 2 (.s 29), false⟩])
  .ret))))))
theorem cc39 : (Tryd.f39.body).bind (cc Tryd.prog Tryd.f39.ntmps A39) = some S39 := by kernel_rfl
def R39 : List RR := [.sl 2]
theorem cr39 : Tryd.f39.results.toList.map (crr Tryd.prog) = R39.map some := by kernel_rfl
theorem nm39 : (Tryd.f39.name == "runtime.NumGoroutine") = false := by kernel_rfl
theorem fn39 : Tryd.prog.funcs[39]? = some Tryd.f39 := by kernel_rfl
theorem bd39 : ∃ b, Tryd.f39.body = some b ∧ cc Tryd.prog Tryd.f39.ntmps A39 b = some S39 := Option.bind_eq_some_iff.1 cc39
theorem sd39 {G : World → Prop} {T : FuncId → Contract} {C : Contract} (hT : ∀ f, Sound G Tryd.prog f (T f)) (hl : C.lawful) (hC : ∀ args st K, C.wp args st K → args.length ≤ 30 ∧ ∃ os op, xv T st.n S39 (st0 args st) (retK R39 st.n os K) (panK st.n op K)) (hit : SoundIt G Tryd.prog 39 C.it := by exact SoundIt.none) : Sound G Tryd.prog 39 C := by
  obtain ⟨b, hb, hc⟩ := bd39
  rw [xv_eq] at hC
  exact sound_of_ev mo fn39 hb nm39 hc cr39 hT hl hit hC

/-! 121: redline/redlineref01.Quote -/
def A121 : Ann := ⟨fun _ _ => 0, fun r => if r = 7 then some ([0, 1, 2, 3, 4, 5, 6, 7, 8, 9, 10, 11, 12, 13, 14, 15], [(0, true), (1, true), (2, true), (3, true), (4, true), (5, true), (6, true), (7, true), (8, true), (9, true), (10, true), (11, false), (12, false), (13, true)]) else none, fun r => if r = 3 then some (false, [0, 3, 4]) else if r = 4 then some (false, [0, 3, 4]) else if r = 5 then some (false, [0, 3, 4]) else if r = 6 then some (false, [0, 3, 4]) else if r = 7 then some (false, [0, 3, 4]) else if r = 8 then some (false, [3]) else none, fun r => if r = 3 then [0, 3, 4] else []⟩
def S121 : SCode :=
  (.seq (.ops [⟨none, (some 2), .mv 2 (.k (Value.string ⟨#[]⟩)), false⟩])
  (.seq (.ops [⟨none, (some 5), .bs 5 5 1 [(.k (Value.int .u8 34))], false⟩,
    ⟨none, (some 3), .mv 3 (.s 5), false⟩])
  (.seq (.seq (.ops [⟨none, (some 4), .mv 4 (.k (Value.int .i64 0)), false⟩])
  (.block 0 (.loop [0, 3, 4] (.seq (.seq (.seq (.keep [0, 3, 4]) (.ops [⟨none, (some 6), .mv 6 (.s 4), false⟩,
    ⟨none, (some 7), .mv 7 (.s 0), false⟩,
    ⟨none, (some 8), .lens 8 (.s 7), false⟩,
    ⟨none, (some 9), .bin 9 .lss (.s 6) (.s 8), false⟩]))
  (.cond (.s 9) .skip (.exit 0)))
  (.seq (.block 1 (.seq (.seq (.keep [0, 3, 4]) (.ops [⟨none, (some 12), .mv 12 (.s 0), false⟩,
    ⟨none, (some 13), .mv 13 (.s 4), false⟩,
    ⟨none, (some 14), .ixs 14 (.s 12) (.s 13), false⟩,
    ⟨none, (some 15), .call (some 15) 104 false [(.s 14)], false⟩]))
  (.cond (.s 15) (.seq (.keep [0, 3, 4]) (.ops [⟨none, (some 16), .mv 16 (.s 3), false⟩,
    ⟨none, (some 17), .mv 17 (.s 0), false⟩,
    ⟨none, (some 18), .mv 18 (.s 4), false⟩,
    ⟨none, (some 19), .ixs 19 (.s 17) (.s 18), false⟩,
    ⟨none, (some 20), .bs 20 5 1 [(.s 19)], false⟩,
    ⟨none, (some 21), .ap 21 5 1 1 (.s 16) (.s 20), false⟩,
    ⟨none, (some 3), .mv 3 (.s 21), false⟩])) (.seq (.keep [0, 3, 4]) (.dr [0, 1, 2, 3, 4, 5, 6, 7, 8, 9, 10, 11, 12, 13, 14, 15] [(0, true, ⟨none, (some 22), .mv 22 (.s 3), false⟩),
    (1, true, ⟨none, (some 23), .mv 23 (.s 0), false⟩),
    (2, true, ⟨none, (some 24), .mv 24 (.s 4), false⟩),
    (3, true, ⟨none, (some 25), .ixs 25 (.s 23) (.s 24), false⟩),
    (4, true, ⟨none, (some 26), .bin 26 .quo (.s 25) (.k (Value.int .u8 16)), false⟩),
    (5, true, ⟨none, (some 27), .ixs 27 (.k (Value.string ⟨#[48, 49, 50, 51, 52, 53, 54, 55, 56, 57, 97, 98, 99, 100, 101, 102]⟩)) (.s 26), false⟩),
    (6, true, ⟨none, (some 28), .mv 28 (.s 0), false⟩),
    (7, true, ⟨none, (some 29), .mv 29 (.s 4), false⟩),
    (8, true, ⟨none, (some 30), .ixs 30 (.s 28) (.s 29), false⟩),
    (9, true, ⟨none, (some 31), .bin 31 .rem (.s 30) (.k (Value.int .u8 16)), true⟩),
    (10, true, ⟨none, (some 32), .ixs 32 (.k (Value.string ⟨#[48, 49, 50, 51, 52, 53, 54, 55, 56, 57, 97, 98, 99, 100, 101, 102]⟩)) (.s 31), false⟩),
    (11, false, ⟨none, (some 33), .bs 33 5 1 [(.k (Value.int .u8 92)), (.s 27), (.s 32)], false⟩),
    (12, false, ⟨none, (some 34), .ap 34 5 1 1 (.s 22) (.s 33), false⟩),
    (13, true, ⟨none, (some 3), .mv 3 (.s 34), false⟩)])))))
  (.seq (.keep [0, 3, 4]) (.ops [⟨none, (some 10), .mv 10 (.s 4), false⟩,
    ⟨none, (some 11), .binc 11 .add (.s 10) (.k (Value.int .i64 1)), false⟩,
    ⟨none, (some 4), .mv 4 (.s 11), false⟩])))))))
  (.seq (.seq (.keep [3]) (.ops [⟨none, (some 35), .mv 35 (.s 3), false⟩,
    ⟨none, (some 36), .bs 36 5 1 [(.k (Value.int .u8 34))], false⟩,
    ⟨none, (some 37), .ap 37 5 1 1 (.s 35) (.s 36), false⟩,
    ⟨none, (some 38), .b2s 38 (.s 37), false⟩,
    ⟨none, (some 2), .mv 2 (.s 38), false⟩]))
  .ret))))
theorem cc121 : (Tryd.f121.body).bind (cc Tryd.prog Tryd.f121.ntmps A121) = some S121 := by kernel_rfl
def R121 : List RR := [.sl 2]
theorem cr121 : Tryd.f121.results.toList.map (crr Tryd.prog) = R121.map some := by kernel_rfl
theorem nm121 : (Tryd.f121.name == "runtime.NumGoroutine") = false := by kernel_rfl
theorem fn121 : Tryd.prog.funcs[121]? = some Tryd.f121 := by kernel_rfl
theorem bd121 : ∃ b, Tryd.f121.body = some b ∧ cc Tryd.prog Tryd.f121.ntmps A121 b = some S121 := Option.bind_eq_some_iff.1 cc121
theorem sd121 {G : World → Prop} {T : FuncId → Contract} {C : Contract} (hT : ∀ f, Sound G Tryd.prog f (T f)) (hl : C.lawful) (hC : ∀ args st K, C.wp args st K → args.length ≤ 39 ∧ ∃ os op, xv T st.n S121 (st0 args st) (retK R121 st.n os K) (panK st.n op K)) (hit : SoundIt G Tryd.prog 121 C.it := by exact SoundIt.none) : Sound G Tryd.prog 121 C := by
  obtain ⟨b, hb, hc⟩ := bd121
  rw [xv_eq] at hC
  exact sound_of_ev mo fn121 hb nm121 hc cr121 hT hl hit hC

/-! 91: strings.CutPrefix -/
def A91 : Ann := ⟨fun _ _ => 0, fun _ => none, fun r => if r = 1 then some (false, [0, 1]) else none, fun _ => []⟩
def S91 : SCode :=
  (.seq (.ops [⟨none, (some 4), .mv 4 (.k (Value.string ⟨#[]⟩)), false⟩,
    ⟨none, (some 5), .mv 5 (.k (Value.bool false)), false⟩])
  (.seq (.seq (.keep [0, 1]) (.ops [⟨none, (some 6), .mv 6 (.s 0), false⟩,
    ⟨none, (some 7), .mv 7 (.s 1), false⟩,
    ⟨none, (some 8), .call (some 8) 134 false [(.s 6), (.s 7)], false⟩,
    ⟨none, (some 9), .ex 9 (.s 8) 0, false⟩,
    ⟨none, (some 10), .ex 10 (.s 8) 1, false⟩,
    ⟨none, (some 4), .mv 4 (.s 9), false⟩,
    ⟨none, (some 5), .mv 5 (.s 10), false⟩]))
  .ret))
theorem cc91 : (Tryd.f91.body).bind (cc Tryd.prog Tryd.f91.ntmps A91) = some S91 := by kernel_rfl
def R91 : List RR := [.sl 4, .sl 5]
theorem cr91 : Tryd.f91.results.toList.map (crr Tryd.prog) = R91.map some := by kernel_rfl
theorem nm91 : (Tryd.f91.name == "runtime.NumGoroutine") = false := by kernel_rfl
theorem fn91 : Tryd.prog.funcs[91]? = some Tryd.f91 := by kernel_rfl
theorem bd91 : ∃ b, Tryd.f91.body = some b ∧ cc Tryd.prog Tryd.f91.ntmps A91 b = some S91 := Option.bind_eq_some_iff.1 cc91
theorem sd91 {G : World → Prop} {T : FuncId → Contract} {C : Contract} (hT : ∀ f, Sound G Tryd.prog f (T f)) (hl : C.lawful) (hC : ∀ args st K, C.wp args st K → args.length ≤ 11 ∧ ∃ os op, xv T st.n S91 (st0 args st) (retK R91 st.n os K) (panK st.n op K)) (hit : SoundIt G Tryd.prog 91 C.it := by exact SoundIt.none) : Sound G Tryd.prog 91 C := by
  obtain ⟨b, hb, hc⟩ := bd91
  rw [xv_eq] at hC
  exact sound_of_ev mo fn91 hb nm91 hc cr91 hT hl hit hC

/-! 89: redline/num.plain -/
def A89 : Ann := ⟨fun _ _ => 0, fun _ => none, fun r => if r = 1 then some (false, [0]) else none, fun _ => []⟩
def S89 : SCode :=
  (.seq (.ops [⟨none, (some 2), .mv 2 (.k (Value.bool false)), false⟩])
  (.seq (.seq (.keep [0]) (.ops [⟨none, (some 3), .mv 3 (.s 0), false⟩,
    ⟨none, (some 4), .bin 4 .geq (.s 3) (.k (Value.int .u8 32)), false⟩,
    ⟨none, (some 5), .mv 5 (.s 4), false⟩,
    ⟨(some (5, true)), (some 6), .mv 6 (.s 0), false⟩,
    ⟨(some (5, true)), (some 7), .bin 7 .leq (.s 6) (.k (Value.int .u8 126)), false⟩,
    ⟨none, (some 8), .pk 8 (.s 5) (.s 7) (.k (Value.bool false)), false⟩,
    ⟨none, (some 9), .mv 9 (.s 8), false⟩,
    ⟨(some (9, true)), (some 10), .mv 10 (.s 0), false⟩,
    ⟨(some (9, true)), (some 11), .bin 11 .neq (.s 10) (.k (Value.int .u8 34)), false⟩,
    ⟨none, (some 12), .pk 12 (.s 9) (.s 11) (.k (Value.bool false)), true⟩,
    ⟨none, (some 13), .mv 13 (.s 12), false⟩,
    ⟨(some (13, true)), (some 14), .mv 14 (.s 0), false⟩,
    ⟨(some (13, true)), (some 15), .bin 15 .neq (.s 14) (.k (Value.int .u8 92)), false⟩,
    ⟨none, (some 16), .pk 16 (.s 13) (.s 15) (.k (Value.bool false)), false⟩,
    ⟨none, (some 2), .mv 2 (.s 16), false⟩]))
  .ret))
theorem cc89 : (Tryd.f89.body).bind (cc Tryd.prog Tryd.f89.ntmps A89) = some S89 := by kernel_rfl
def R89 : List RR := [.sl 2]
theorem cr89 : Tryd.f89.results.toList.map (crr Tryd.prog) = R89.map some := by kernel_rfl
theorem nm89 : (Tryd.f89.name == "runtime.NumGoroutine") = false := by kernel_rfl
theorem fn89 : Tryd.prog.funcs[89]? = some Tryd.f89 := by kernel_rfl
theorem bd89 : ∃ b, Tryd.f89.body = some b ∧ cc Tryd.prog Tryd.f89.ntmps A89 b = some S89 := Option.bind_eq_some_iff.1 cc89
theorem sd89 {G : World → Prop} {T : FuncId → Contract} {C : Contract} (hT : ∀ f, Sound G Tryd.prog f (T f)) (hl : C.lawful) (hC : ∀ args st K, C.wp args st K → args.length ≤ 17 ∧ ∃ os op, xv T st.n S89 (st0 args st) (retK R89 st.n os K) (panK st.n op K)) (hit : SoundIt G Tryd.prog 89 C.it := by exact SoundIt.none) : Sound G Tryd.prog 89 C := by
  obtain ⟨b, hb, hc⟩ := bd89
  rw [xv_eq] at hC
  exact sound_of_ev mo fn89 hb nm89 hc cr89 hT hl hit hC

/-! 92: redline/num.octet -/
def A92 : Ann := ⟨fun r i => if r = 5 ∧ i = 9 then 1 else 0, fun r => if r = 3 then some ([0, 1, 2, 3, 4, 5, 6, 7, 8, 9, 10, 11, 12, 13, 14, 15], [(0, true), (1, true), (3, true), (4, true), (2, false), (5, false), (6, true), (7, true)]) else none, fun r => if r = 1 then some (false, [0]) else if r = 3 then some (false, [0]) else if r = 4 then some (false, [4, 5]) else if r = 5 then some (false, [4, 5, 6]) else none, fun _ => []⟩
def S92 : SCode :=
  (.seq (.ops [⟨none, (some 2), .mv 2 (.k (Value.int .u8 0)), false⟩,
    ⟨none, (some 3), .mv 3 (.k (Value.bool false)), false⟩])
  (.seq (.seq (.seq (.keep [0]) (.ops [⟨none, (some 7), .mv 7 (.s 0), false⟩,
    ⟨none, (some 8), .lens 8 (.s 7), false⟩,
    ⟨none, (some 9), .bin 9 .lss (.s 8) (.k (Value.int .i64 2)), false⟩]))
  (.cond (.s 9) (.seq (.ops [⟨none, (some 2), .mv 2 (.k (Value.int .u8 0)), false⟩,
    ⟨none, (some 3), .mv 3 (.k (Value.bool false)), false⟩])
  .ret) .skip))
  (.seq (.seq (.keep [0]) (.dr [0, 1, 2, 3, 4, 5, 6, 7, 8, 9, 10, 11, 12, 13, 14, 15] [(0, true, ⟨none, (some 10), .mv 10 (.s 0), false⟩),
    (1, true, ⟨none, (some 11), .ixs 11 (.s 10) (.k (Value.int .i64 0)), false⟩),
    (3, true, ⟨none, (some 13), .mv 13 (.s 0), false⟩),
    (4, true, ⟨none, (some 14), .ixs 14 (.s 13) (.k (Value.int .i64 1)), false⟩),
    (2, false, ⟨none, (some 12), .call (some 12) 135 false [(.k (Value.string ⟨#[48, 49, 50, 51, 52, 53, 54, 55, 56, 57, 97, 98, 99, 100, 101, 102]⟩)), (.s 11)], false⟩),
    (5, false, ⟨none, (some 15), .call (some 15) 135 false [(.k (Value.string ⟨#[48, 49, 50, 51, 52, 53, 54, 55, 56, 57, 97, 98, 99, 100, 101, 102]⟩)), (.s 14)], false⟩),
    (6, true, ⟨none, (some 4), .mv 4 (.s 12), false⟩),
    (7, true, ⟨none, (some 5), .mv 5 (.s 15), false⟩)]))
  (.seq (.seq (.keep [4, 5]) (.ops [⟨none, (some 16), .mv 16 (.s 4), false⟩,
    ⟨none, (some 17), .bin 17 .shl (.s 16) (.k (Value.int .u64 4)), false⟩,
    ⟨none, (some 18), .mv 18 (.s 5), false⟩,
    ⟨none, (some 19), .bin 19 .or (.s 17) (.s 18), false⟩,
    ⟨none, (some 20), .cvi 20 .u8 (.s 19), false⟩,
    ⟨none, (some 6), .mv 6 (.s 20), false⟩]))
  (.seq (.seq (.keep [4, 5, 6]) (.ops [⟨none, (some 21), .mv 21 (.s 6), false⟩,
    ⟨none, (some 22), .mv 22 (.s 4), false⟩,
    ⟨none, (some 23), .bin 23 .geq (.s 22) (.k (Value.int .i64 0)), false⟩,
    ⟨none, (some 24), .mv 24 (.s 23), false⟩,
    ⟨(some (24, true)), (some 25), .mv 25 (.s 5), false⟩,
    ⟨(some (24, true)), (some 26), .bin 26 .geq (.s 25) (.k (Value.int .i64 0)), false⟩,
    ⟨none, (some 27), .pk 27 (.s 24) (.s 26) (.k (Value.bool false)), false⟩,
    ⟨none, (some 28), .mv 28 (.s 27), false⟩,
    ⟨(some (28, true)), (some 29), .mv 29 (.s 6), false⟩,
    ⟨(some (28, true)), (some 30), .call (some 30) 89 true [(.s 29)], true⟩,
    ⟨(some (28, true)), (some 31), .not 31 (.s 30), false⟩,
    ⟨none, (some 32), .pk 32 (.s 28) (.s 31) (.k (Value.bool false)), false⟩,
    ⟨none, (some 2), .mv 2 (.s 21), false⟩,
    ⟨none, (some 3), .mv 3 (.s 32), false⟩]))
  .ret)))))
theorem cc92 : (Tryd.f92.body).bind (cc Tryd.prog Tryd.f92.ntmps A92) = some S92 := by kernel_rfl
def R92 : List RR := [.sl 2, .sl 3]
theorem cr92 : Tryd.f92.results.toList.map (crr Tryd.prog) = R92.map some := by kernel_rfl
theorem nm92 : (Tryd.f92.name == "runtime.NumGoroutine") = false := by kernel_rfl
theorem fn92 : Tryd.prog.funcs[92]? = some Tryd.f92 := by kernel_rfl
theorem bd92 : ∃ b, Tryd.f92.body = some b ∧ cc Tryd.prog Tryd.f92.ntmps A92 b = some S92 := Option.bind_eq_some_iff.1 cc92
theorem sd92 {G : World → Prop} {T : FuncId → Contract} {C : Contract} (hT : ∀ f, Sound G Tryd.prog f (T f)) (hl : C.lawful) (hC : ∀ args st K, C.wp args st K → args.length ≤ 33 ∧ ∃ os op, xv T st.n S92 (st0 args st) (retK R92 st.n os K) (panK st.n op K)) (hit : SoundIt G Tryd.prog 92 C.it := by exact SoundIt.none) : Sound G Tryd.prog 92 C := by
  obtain ⟨b, hb, hc⟩ := bd92
  rw [xv_eq] at hC
  exact sound_of_ev mo fn92 hb nm92 hc cr92 hT hl hit hC

/-! 104: redline/redlineref01.plain -/
def A104 : Ann := ⟨fun _ _ => 0, fun _ => none, fun r => if r = 1 then some (false, [0]) else none, fun _ => []⟩
def S104 : SCode :=
  (.seq (.ops [⟨none, (some 2), .mv 2 (.k (Value.bool false)), false⟩])
  (.seq (.seq (.keep [0]) (.ops [⟨none, (some 3), .mv 3 (.s 0), false⟩,
    ⟨none, (some 4), .bin 4 .geq (.s 3) (.k (Value.int .u8 32)), false⟩,
    ⟨none, (some 5), .mv 5 (.s 4), false⟩,
    ⟨(some (5, true)), (some 6), .mv 6 (.s 0), false⟩,
    ⟨(some (5, true)), (some 7), .bin 7 .leq (.s 6) (.k (Value.int .u8 126)), false⟩,
    ⟨none, (some 8), .pk 8 (.s 5) (.s 7) (.k (Value.bool false)), false⟩,
    ⟨none, (some 9), .mv 9 (.s 8), false⟩,
    ⟨(some (9, true)), (some 10), .mv 10 (.s 0), false⟩,
    ⟨(some (9, true)), (some 11), .bin 11 .neq (.s 10) (.k (Value.int .u8 34)), false⟩,
    ⟨none, (some 12), .pk 12 (.s 9) (.s 11) (.k (Value.bool false)), true⟩,
    ⟨none, (some 13), .mv 13 (.s 12), false⟩,
    ⟨(some (13, true)), (some 14), .mv 14 (.s 0), false⟩,
    ⟨(some (13, true)), (some 15), .bin 15 .neq (.s 14) (.k (Value.int .u8 92)), false⟩,
    ⟨none, (some 16), .pk 16 (.s 13) (.s 15) (.k (Value.bool false)), false⟩,
    ⟨none, (some 2), .mv 2 (.s 16), false⟩]))
  .ret))
theorem cc104 : (Tryd.f104.body).bind (cc Tryd.prog Tryd.f104.ntmps A104) = some S104 := by kernel_rfl
def R104 : List RR := [.sl 2]
theorem cr104 : Tryd.f104.results.toList.map (crr Tryd.prog) = R104.map some := by kernel_rfl
theorem nm104 : (Tryd.f104.name == "runtime.NumGoroutine") = false := by kernel_rfl
theorem fn104 : Tryd.prog.funcs[104]? = some Tryd.f104 := by kernel_rfl
theorem bd104 : ∃ b, Tryd.f104.body = some b ∧ cc Tryd.prog Tryd.f104.ntmps A104 b = some S104 := Option.bind_eq_some_iff.1 cc104
theorem sd104 {G : World → Prop} {T : FuncId → Contract} {C : Contract} (hT : ∀ f, Sound G Tryd.prog f (T f)) (hl : C.lawful) (hC : ∀ args st K, C.wp args st K → args.length ≤ 17 ∧ ∃ os op, xv T st.n S104 (st0 args st) (retK R104 st.n os K) (panK st.n op K)) (hit : SoundIt G Tryd.prog 104 C.it := by exact SoundIt.none) : Sound G Tryd.prog 104 C := by
  obtain ⟨b, hb, hc⟩ := bd104
  rw [xv_eq] at hC
  exact sound_of_ev mo fn104 hb nm104 hc cr104 hT hl hit hC

/-! 105: redline/redlineref01.digit -/
def A105 : Ann := ⟨fun _ _ => 0, fun _ => none, fun r => if r = 3 then some (false, [0, 3]) else if r = 4 then some (false, [0, 3]) else none, fun r => if r = 2 then [0, 3] else []⟩
def S105 : SCode :=
  (.seq (.ops [⟨none, (some 2), .mv 2 (.k (Value.int .i64 0)), false⟩])
  (.seq (.seq (.ops [⟨none, (some 3), .mv 3 (.k (Value.int .i64 0)), false⟩])
  (.block 0 (.loop [0, 3] (.seq (.seq (.ops [⟨none, (some 4), .mv 4 (.s 3), false⟩,
    ⟨none, (some 5), .bin 5 .lss (.s 4) (.k (Value.int .i64 16)), false⟩])
  (.cond (.s 5) .skip (.exit 0)))
  (.seq (.block 1 (.seq (.seq (.keep [0, 3]) (.ops [⟨none, (some 8), .mv 8 (.s 3), false⟩,
    ⟨none, (some 9), .ixs 9 (.k (Value.string ⟨#[48, 49, 50, 51, 52, 53, 54, 55, 56, 57, 97, 98, 99, 100, 101, 102]⟩)) (.s 8), false⟩,
    ⟨none, (some 10), .mv 10 (.s 0), false⟩,
    ⟨none, (some 11), .bin 11 .eql (.s 9) (.s 10), false⟩]))
  (.cond (.s 11) (.seq (.ops [⟨none, (some 12), .mv 12 (.s 3), false⟩,
    ⟨none, (some 2), .mv 2 (.s 12), false⟩])
  .ret) .skip)))
  (.seq (.keep [0, 3]) (.ops [⟨none, (some 6), .mv 6 (.s 3), false⟩,
    ⟨none, (some 7), .binc 7 .add (.s 6) (.k (Value.int .i64 1)), false⟩,
    ⟨none, (some 3), .mv 3 (.s 7), false⟩])))))))
  (.seq (.ops [⟨none, (some 2), .mv 2 (.k (Value.int .i64 (-1))), false⟩])
  .ret)))
theorem cc105 : (Tryd.f105.body).bind (cc Tryd.prog Tryd.f105.ntmps A105) = some S105 := by kernel_rfl
def R105 : List RR := [.sl 2]
theorem cr105 : Tryd.f105.results.toList.map (crr Tryd.prog) = R105.map some := by kernel_rfl
theorem nm105 : (Tryd.f105.name == "runtime.NumGoroutine") = false := by kernel_rfl
theorem fn105 : Tryd.prog.funcs[105]? = some Tryd.f105 := by kernel_rfl
theorem bd105 : ∃ b, Tryd.f105.body = some b ∧ cc Tryd.prog Tryd.f105.ntmps A105 b = some S105 := Option.bind_eq_some_iff.1 cc105
theorem sd105 {G : World → Prop} {T : FuncId → Contract} {C : Contract} (hT : ∀ f, Sound G Tryd.prog f (T f)) (hl : C.lawful) (hC : ∀ args st K, C.wp args st K → args.length ≤ 13 ∧ ∃ os op, xv T st.n S105 (st0 args st) (retK R105 st.n os K) (panK st.n op K)) (hit : SoundIt G Tryd.prog 105 C.it := by exact SoundIt.none) : Sound G Tryd.prog 105 C := by
  obtain ⟨b, hb, hc⟩ := bd105
  rw [xv_eq] at hC
  exact sound_of_ev mo fn105 hb nm105 hc cr105 hT hl hit hC

/-! 88: (*strings.Builder).WriteByte -/
def A88 : Ann := ⟨fun _ _ => 0, fun _ => none, fun r => if r = 2 then some (false, [0, 1]) else none, fun _ => []⟩
def S88 : SCode :=
  (.seq (.ops [⟨none, (some 4), .mv 4 (.k Value.nilIface), false⟩])
  (.seq (.ops [⟨none, (some 5), .mv 5 (.s 0), false⟩,
    ⟨none, (some 6), .call (some 6) 94 false [(.s 5)], false⟩])
  (.seq (.seq (.keep [0, 1]) (.ops [⟨none, (some 7), .mv 7 (.s 0), false⟩,
    ⟨none, (some 8), .mv 8 (.s 0), false⟩,
    ⟨none, (some 9), .nc 9 (.s 8), false⟩,
    ⟨none, (some 10), .fa 10 1 (.s 9), false⟩,
    ⟨none, (some 11), .ld 11 false 1 (.s 10), false⟩,
    ⟨none, (some 12), .mv 12 (.s 1), false⟩,
    ⟨none, (some 13), .bs 13 5 1 [(.s 12)], false⟩,
    ⟨none, (some 14), .ap 14 5 1 1 (.s 11) (.s 13), false⟩,
    ⟨none, (some 15), .nc 15 (.s 7), false⟩,
    ⟨none, (some 16), .fa 16 1 (.s 15), true⟩,
    ⟨none, none, .st false 1 (.s 16) (.s 14), false⟩]))
  (.seq (.ops [⟨none, (some 4), .mv 4 (.k Value.nilIface), false⟩])
  .ret))))
theorem cc88 : (Tryd.f88.body).bind (cc Tryd.prog Tryd.f88.ntmps A88) = some S88 := by kernel_rfl
def R88 : List RR := [.sl 4]
theorem cr88 : Tryd.f88.results.toList.map (crr Tryd.prog) = R88.map some := by kernel_rfl
theorem nm88 : (Tryd.f88.name == "runtime.NumGoroutine") = false := by kernel_rfl
theorem fn88 : Tryd.prog.funcs[88]? = some Tryd.f88 := by kernel_rfl
theorem bd88 : ∃ b, Tryd.f88.body = some b ∧ cc Tryd.prog Tryd.f88.ntmps A88 b = some S88 := Option.bind_eq_some_iff.1 cc88
theorem sd88 {G : World → Prop} {T : FuncId → Contract} {C : Contract} (hT : ∀ f, Sound G Tryd.prog f (T f)) (hl : C.lawful) (hC : ∀ args st K, C.wp args st K → args.length ≤ 17 ∧ ∃ os op, xv T st.n S88 (st0 args st) (retK R88 st.n os K) (panK st.n op K)) (hit : SoundIt G Tryd.prog 88 C.it := by exact SoundIt.none) : Sound G Tryd.prog 88 C := by
  obtain ⟨b, hb, hc⟩ := bd88
  rw [xv_eq] at hC
  exact sound_of_ev mo fn88 hb nm88 hc cr88 hT hl hit hC

/-! 90: (*strings.Builder).Write -/
def A90 : Ann := ⟨fun _ _ => 0, fun _ => none, fun r => if r = 2 then some (false, [0, 1]) else if r = 3 then some (false, [1]) else none, fun _ => []⟩
def S90 : SCode :=
  (.seq (.ops [⟨none, (some 4), .mv 4 (.k (Value.int .i64 0)), false⟩,
    ⟨none, (some 5), .mv 5 (.k Value.nilIface), false⟩])
  (.seq (.ops [⟨none, (some 6), .mv 6 (.s 0), false⟩,
    ⟨none, (some 7), .call (some 7) 94 false [(.s 6)], false⟩])
  (.seq (.seq (.keep [0, 1]) (.ops [⟨none, (some 8), .mv 8 (.s 0), false⟩,
    ⟨none, (some 9), .mv 9 (.s 0), false⟩,
    ⟨none, (some 10), .nc 10 (.s 9), false⟩,
    ⟨none, (some 11), .fa 11 1 (.s 10), false⟩,
    ⟨none, (some 12), .ld 12 false 1 (.s 11), false⟩,
    ⟨none, (some 13), .mv 13 (.s 1), false⟩,
    ⟨none, (some 14), .ap 14 5 1 1 (.s 12) (.s 13), false⟩,
    ⟨none, (some 15), .nc 15 (.s 8), false⟩,
    ⟨none, (some 16), .fa 16 1 (.s 15), false⟩,
    ⟨none, none, .st false 1 (.s 16) (.s 14), true⟩]))
  (.seq (.seq (.keep [1]) (.ops [⟨none, (some 17), .mv 17 (.s 1), false⟩,
    ⟨none, (some 18), .len 18 (.s 17), false⟩,
    ⟨none, (some 4), .mv 4 (.s 18), false⟩,
    ⟨none, (some 5), .mv 5 (.k Value.nilIface), false⟩]))
  .ret))))
theorem cc90 : (Tryd.f90.body).bind (cc Tryd.prog Tryd.f90.ntmps A90) = some S90 := by kernel_rfl
def R90 : List RR := [.sl 4, .sl 5]
theorem cr90 : Tryd.f90.results.toList.map (crr Tryd.prog) = R90.map some := by kernel_rfl
theorem nm90 : (Tryd.f90.name == "runtime.NumGoroutine") = false := by kernel_rfl
theorem fn90 : Tryd.prog.funcs[90]? = some Tryd.f90 := by kernel_rfl
theorem bd90 : ∃ b, Tryd.f90.body = some b ∧ cc Tryd.prog Tryd.f90.ntmps A90 b = some S90 := Option.bind_eq_some_iff.1 cc90
theorem sd90 {G : World → Prop} {T : FuncId → Contract} {C : Contract} (hT : ∀ f, Sound G Tryd.prog f (T f)) (hl : C.lawful) (hC : ∀ args st K, C.wp args st K → args.length ≤ 19 ∧ ∃ os op, xv T st.n S90 (st0 args st) (retK R90 st.n os K) (panK st.n op K)) (hit : SoundIt G Tryd.prog 90 C.it := by exact SoundIt.none) : Sound G Tryd.prog 90 C := by
  obtain ⟨b, hb, hc⟩ := bd90
  rw [xv_eq] at hC
  exact sound_of_ev mo fn90 hb nm90 hc cr90 hT hl hit hC

/-! 162: strings.HasPrefix -/
def A162 : Ann := ⟨fun _ _ => 0, fun _ => none, fun r => if r = 1 then some (false, [0, 1]) else none, fun _ => []⟩
def S162 : SCode :=
  (.seq (.ops [⟨none, (some 4), .mv 4 (.k (Value.bool false)), false⟩])
  (.seq (.seq (.keep [0, 1]) (.ops [⟨none, (some 5), .mv 5 (.s 0), false⟩,
    ⟨none, (some 6), .mv 6 (.s 1), false⟩,
    ⟨none, (some 7), .call (some 7) 167 false [(.s 5), (.s 6)], false⟩,
    ⟨none, (some 4), .mv 4 (.s 7), false⟩]))
  .ret))
theorem cc162 : (Tryd.f162.body).bind (cc Tryd.prog Tryd.f162.ntmps A162) = some S162 := by kernel_rfl
def R162 : List RR := [.sl 4]
theorem cr162 : Tryd.f162.results.toList.map (crr Tryd.prog) = R162.map some := by kernel_rfl
theorem nm162 : (Tryd.f162.name == "runtime.NumGoroutine") = false := by kernel_rfl
theorem fn162 : Tryd.prog.funcs[162]? = some Tryd.f162 := by kernel_rfl
theorem bd162 : ∃ b, Tryd.f162.body = some b ∧ cc Tryd.prog Tryd.f162.ntmps A162 b = some S162 := Option.bind_eq_some_iff.1 cc162
theorem sd162 {G : World → Prop} {T : FuncId → Contract} {C : Contract} (hT : ∀ f, Sound G Tryd.prog f (T f)) (hl : C.lawful) (hC : ∀ args st K, C.wp args st K → args.length ≤ 8 ∧ ∃ os op, xv T st.n S162 (st0 args st) (retK R162 st.n os K) (panK st.n op K)) (hit : SoundIt G Tryd.prog 162 C.it := by exact SoundIt.none) : Sound G Tryd.prog 162 C := by
  obtain ⟨b, hb, hc⟩ := bd162
  rw [xv_eq] at hC
  exact sound_of_ev mo fn162 hb nm162 hc cr162 hT hl hit hC

/-! 134: internal/stringslite.CutPrefix -/
def A134 : Ann := ⟨fun _ _ => 0, fun _ => none, fun r => if r = 1 then some (false, [0, 1]) else if r = 2 then some (false, [0]) else if r = 3 then some (false, [0, 1]) else none, fun _ => []⟩
def S134 : SCode :=
  (.seq (.ops [⟨none, (some 4), .mv 4 (.k (Value.string ⟨#[]⟩)), false⟩,
    ⟨none, (some 5), .mv 5 (.k (Value.bool false)), false⟩])
  (.seq (.seq (.seq (.keep [0, 1]) (.ops [⟨none, (some 6), .mv 6 (.s 0), false⟩,
    ⟨none, (some 7), .mv 7 (.s 1), false⟩,
    ⟨none, (some 8), .call (some 8) 167 false [(.s 6), (.s 7)], false⟩,
    ⟨none, (some 9), .not 9 (.s 8), false⟩]))
  (.cond (.s 9) (.seq (.seq (.keep [0]) (.ops [⟨none, (some 10), .mv 10 (.s 0), false⟩,
    ⟨none, (some 4), .mv 4 (.s 10), false⟩,
    ⟨none, (some 5), .mv 5 (.k (Value.bool false)), false⟩]))
  .ret) .skip))
  (.seq (.seq (.keep [0, 1]) (.ops [⟨none, (some 11), .mv 11 (.s 0), false⟩,
    ⟨none, (some 12), .mv 12 (.s 1), false⟩,
    ⟨none, (some 13), .lens 13 (.s 12), false⟩,
    ⟨none, (some 14), .sls 14 (.s 11) (some (.s 13)) none, false⟩,
    ⟨none, (some 4), .mv 4 (.s 14), false⟩,
    ⟨none, (some 5), .mv 5 (.k (Value.bool true)), false⟩]))
  .ret)))
theorem cc134 : (Tryd.f134.body).bind (cc Tryd.prog Tryd.f134.ntmps A134) = some S134 := by kernel_rfl
def R134 : List RR := [.sl 4, .sl 5]
theorem cr134 : Tryd.f134.results.toList.map (crr Tryd.prog) = R134.map some := by kernel_rfl
theorem nm134 : (Tryd.f134.name == "runtime.NumGoroutine") = false := by kernel_rfl
theorem fn134 : Tryd.prog.funcs[134]? = some Tryd.f134 := by kernel_rfl
theorem bd134 : ∃ b, Tryd.f134.body = some b ∧ cc Tryd.prog Tryd.f134.ntmps A134 b = some S134 := Option.bind_eq_some_iff.1 cc134
theorem sd134 {G : World → Prop} {T : FuncId → Contract} {C : Contract} (hT : ∀ f, Sound G Tryd.prog f (T f)) (hl : C.lawful) (hC : ∀ args st K, C.wp args st K → args.length ≤ 15 ∧ ∃ os op, xv T st.n S134 (st0 args st) (retK R134 st.n os K) (panK st.n op K)) (hit : SoundIt G Tryd.prog 134 C.it := by exact SoundIt.none) : Sound G Tryd.prog 134 C := by
  obtain ⟨b, hb, hc⟩ := bd134
  rw [xv_eq] at hC
  exact sound_of_ev mo fn134 hb nm134 hc cr134 hT hl hit hC

/-! 135: strings.IndexByte -/
def A135 : Ann := ⟨fun _ _ => 0, fun _ => none, fun r => if r = 1 then some (false, [0, 1]) else none, fun _ => []⟩
def S135 : SCode :=
  (.seq (.ops [⟨none, (some 4), .mv 4 (.k (Value.int .i64 0)), false⟩])
  (.seq (.seq (.keep [0, 1]) (.ops [⟨none, (some 5), .mv 5 (.s 0), false⟩,
    ⟨none, (some 6), .mv 6 (.s 1), false⟩,
    ⟨none, (some 7), .call (some 7) 168 false [(.s 5), (.s 6)], false⟩,
    ⟨none, (some 4), .mv 4 (.s 7), false⟩]))
  .ret))
theorem cc135 : (Tryd.f135.body).bind (cc Tryd.prog Tryd.f135.ntmps A135) = some S135 := by kernel_rfl
def R135 : List RR := [.sl 4]
theorem cr135 : Tryd.f135.results.toList.map (crr Tryd.prog) = R135.map some := by kernel_rfl
theorem nm135 : (Tryd.f135.name == "runtime.NumGoroutine") = false := by kernel_rfl
theorem fn135 : Tryd.prog.funcs[135]? = some Tryd.f135 := by kernel_rfl
theorem bd135 : ∃ b, Tryd.f135.body = some b ∧ cc Tryd.prog Tryd.f135.ntmps A135 b = some S135 := Option.bind_eq_some_iff.1 cc135
theorem sd135 {G : World → Prop} {T : FuncId → Contract} {C : Contract} (hT : ∀ f, Sound G Tryd.prog f (T f)) (hl : C.lawful) (hC : ∀ args st K, C.wp args st K → args.length ≤ 8 ∧ ∃ os op, xv T st.n S135 (st0 args st) (retK R135 st.n os K) (panK st.n op K)) (hit : SoundIt G Tryd.prog 135 C.it := by exact SoundIt.none) : Sound G Tryd.prog 135 C := by
  obtain ⟨b, hb, hc⟩ := bd135
  rw [xv_eq] at hC
  exact sound_of_ev mo fn135 hb nm135 hc cr135 hT hl hit hC

/-! 167: internal/stringslite.HasPrefix -/
def A167 : Ann := ⟨fun r i => if r = 1 ∧ i = 8 then 1 else 0, fun _ => none, fun r => if r = 1 then some (false, [0, 1]) else none, fun _ => []⟩
def S167 : SCode :=
  (.seq (.ops [⟨none, (some 4), .mv 4 (.k (Value.bool false)), false⟩])
  (.seq (.seq (.keep [0, 1]) (.ops [⟨none, (some 5), .mv 5 (.s 0), false⟩,
    ⟨none, (some 6), .lens 6 (.s 5), false⟩,
    ⟨none, (some 7), .mv 7 (.s 1), false⟩,
    ⟨none, (some 8), .lens 8 (.s 7), false⟩,
    ⟨none, (some 9), .bin 9 .geq (.s 6) (.s 8), false⟩,
    ⟨none, (some 10), .mv 10 (.s 9), false⟩,
    ⟨(some (10, true)), (some 11), .mv 11 (.s 0), false⟩,
    ⟨(some (10, true)), (some 12), .mv 12 (.s 1), false⟩,
    ⟨(some (10, true)), (some 13), .lens 13 (.s 12), false⟩,
    ⟨(some (10, true)), (some 14), .sls 14 (.s 11) none (some (.s 13)), true⟩,
    ⟨(some (10, true)), (some 15), .mv 15 (.s 1), false⟩,
    ⟨(some (10, true)), (some 16), .bin 16 .eql (.s 14) (.s 15), false⟩,
    ⟨none, (some 17), .pk 17 (.s 10) (.s 16) (.k (Value.bool false)), false⟩,
    ⟨none, (some 4), .mv 4 (.s 17), false⟩]))
  .ret))
theorem cc167 : (Tryd.f167.body).bind (cc Tryd.prog Tryd.f167.ntmps A167) = some S167 := by kernel_rfl
def R167 : List RR := [.sl 4]
theorem cr167 : Tryd.f167.results.toList.map (crr Tryd.prog) = R167.map some := by kernel_rfl
theorem nm167 : (Tryd.f167.name == "runtime.NumGoroutine") = false := by kernel_rfl
theorem fn167 : Tryd.prog.funcs[167]? = some Tryd.f167 := by kernel_rfl
theorem bd167 : ∃ b, Tryd.f167.body = some b ∧ cc Tryd.prog Tryd.f167.ntmps A167 b = some S167 := Option.bind_eq_some_iff.1 cc167
theorem sd167 {G : World → Prop} {T : FuncId → Contract} {C : Contract} (hT : ∀ f, Sound G Tryd.prog f (T f)) (hl : C.lawful) (hC : ∀ args st K, C.wp args st K → args.length ≤ 18 ∧ ∃ os op, xv T st.n S167 (st0 args st) (retK R167 st.n os K) (panK st.n op K)) (hit : SoundIt G Tryd.prog 167 C.it := by exact SoundIt.none) : Sound G Tryd.prog 167 C := by
  obtain ⟨b, hb, hc⟩ := bd167
  rw [xv_eq] at hC
  exact sound_of_ev mo fn167 hb nm167 hc cr167 hT hl hit hC

/-! 63: redline/unified.Name -/
def A63 : Ann := ⟨fun _ _ => 0, fun _ => none, fun r => if r = 1 then some (false, [0]) else if r = 2 then some (false, [0, 3]) else if r = 5 then some (false, [0, 3, 4, 8, 9]) else if r = 7 then some (false, [0, 3]) else if r = 10 then some (false, [0]) else none, fun r => if r = 3 then [0, 3, 8, 9] else []⟩
def S63 : SCode :=
  (.seq (.ops [⟨none, (some 2), .mv 2 (.k (Value.string ⟨#[]⟩)), false⟩])
  (.seq (.seq (.keep [0]) (.ops [⟨none, (some 5), .mv 5 (.s 0), false⟩,
    ⟨none, (some 6), .bin 6 .eql (.s 5) (.k (Value.string ⟨#[47, 100, 101, 118, 47, 110, 117, 108, 108]⟩)), false⟩,
    ⟨none, (some 3), .mv 3 (.s 6), false⟩]))
  (.seq (.seq (.seq (.keep [0, 3]) (.ops [⟨none, (some 7), .mv 7 (.s 0), false⟩,
    ⟨none, (some 8), .lens 8 (.s 7), false⟩,
    ⟨none, (some 9), .mv 9 (.k (Value.int .i64 0)), false⟩]))
  (.block 0 (.loop [0, 3, 8, 9] (.seq (.ops [⟨none, (some 10), .bin 10 .lss (.s 9) (.s 8), false⟩])
  (.seq (.cond (.s 10) .skip (.exit 0))
  (.seq (.block 1 (.seq (.ops [⟨none, (some 11), .mv 11 (.s 9), false⟩,
    ⟨none, (some 4), .mv 4 (.s 11), false⟩])
  (.seq (.keep [0, 3, 4, 8, 9]) (.ops [⟨none, (some 12), .mv 12 (.s 3), false⟩,
    ⟨none, (some 13), .mv 13 (.s 12), false⟩,
    ⟨(some (13, false)), (some 14), .mv 14 (.s 0), false⟩,
    ⟨(some (13, false)), (some 15), .mv 15 (.s 4), false⟩,
    ⟨(some (13, false)), (some 16), .ixs 16 (.s 14) (.s 15), false⟩,
    ⟨(some (13, false)), (some 17), .bin 17 .lss (.s 16) (.k (Value.int .u8 33)), false⟩,
    ⟨none, (some 18), .pk 18 (.s 13) (.k (Value.bool true)) (.s 17), false⟩,
    ⟨none, (some 19), .mv 19 (.s 18), false⟩,
    ⟨(some (19, false)), (some 20), .mv 20 (.s 0), false⟩,
    ⟨(some (19, false)), (some 21), .mv 21 (.s 4), true⟩,
    ⟨(some (19, false)), (some 22), .ixs 22 (.s 20) (.s 21), false⟩,
    ⟨(some (19, false)), (some 23), .bin 23 .gtr (.s 22) (.k (Value.int .u8 126)), false⟩,
    ⟨none, (some 24), .pk 24 (.s 19) (.k (Value.bool true)) (.s 23), false⟩,
    ⟨none, (some 25), .mv 25 (.s 24), false⟩,
    ⟨(some (25, false)), (some 26), .mv 26 (.s 0), false⟩,
    ⟨(some (25, false)), (some 27), .mv 27 (.s 4), false⟩,
    ⟨(some (25, false)), (some 28), .ixs 28 (.s 26) (.s 27), false⟩,
    ⟨(some (25, false)), (some 29), .bin 29 .eql (.s 28) (.k (Value.int .u8 34)), false⟩,
    ⟨none, (some 30), .pk 30 (.s 25) (.k (Value.bool true)) (.s 29), false⟩,
    ⟨none, (some 3), .mv 3 (.s 30), true⟩]))))
  (.ops [⟨none, (some 31), .binc 31 .add (.s 9) (.k (Value.int .i64 1)), false⟩,
    ⟨none, (some 9), .mv 9 (.s 31), false⟩])))))))
  (.seq (.block 2 (.seq (.seq (.keep [0, 3]) (.ops [⟨none, (some 33), .mv 33 (.s 0), false⟩,
    ⟨none, (some 34), .bin 34 .eql (.s 33) (.k (Value.string ⟨#[]⟩)), false⟩,
    ⟨none, (some 32), .mv 32 (.s 34), false⟩]))
  (.cond (.s 32) (.seq (.ops [⟨none, (some 2), .mv 2 (.k (Value.string ⟨#[47, 100, 101, 118, 47, 110, 117, 108, 108]⟩)), false⟩])
  .ret) (.seq (.ops [⟨none, (some 36), .mv 36 (.s 3), false⟩,
    ⟨none, (some 35), .mv 35 (.s 36), false⟩])
  (.cond (.s 35) (.seq (.seq (.keep [0]) (.ops [⟨none, (some 37), .mv 37 (.s 0), false⟩,
    ⟨none, (some 38), .call (some 38) 39 false [(.s 37)], false⟩,
    ⟨none, (some 2), .mv 2 (.s 38), false⟩]))
  .ret) .skip)))))
  (.seq (.ops [⟨none, (some 39), .mv 39 (.s 0), false⟩,
    ⟨none, (some 2), .mv 2 (.s 39), false⟩])
  .ret)))))
theorem cc63 : (Tryd.f63.body).bind (cc Tryd.prog Tryd.f63.ntmps A63) = some S63 := by kernel_rfl
def R63 : List RR := [.sl 2]
theorem cr63 : Tryd.f63.results.toList.map (crr Tryd.prog) = R63.map some := by kernel_rfl
theorem nm63 : (Tryd.f63.name == "runtime.NumGoroutine") = false := by kernel_rfl
theorem fn63 : Tryd.prog.funcs[63]? = some Tryd.f63 := by kernel_rfl
theorem bd63 : ∃ b, Tryd.f63.body = some b ∧ cc Tryd.prog Tryd.f63.ntmps A63 b = some S63 := Option.bind_eq_some_iff.1 cc63
theorem sd63 {G : World → Prop} {T : FuncId → Contract} {C : Contract} (hT : ∀ f, Sound G Tryd.prog f (T f)) (hl : C.lawful) (hC : ∀ args st K, C.wp args st K → args.length ≤ 40 ∧ ∃ os op, xv T st.n S63 (st0 args st) (retK R63 st.n os K) (panK st.n op K)) (hit : SoundIt G Tryd.prog 63 C.it := by exact SoundIt.none) : Sound G Tryd.prog 63 C := by
  obtain ⟨b, hb, hc⟩ := bd63
  rw [xv_eq] at hC
  exact sound_of_ev mo fn63 hb nm63 hc cr63 hT hl hit hC

/-! 74: redline/redlineref15.Name -/
def A74 : Ann := ⟨fun _ _ => 0, fun _ => none, fun r => if r = 4 then some (false, [0, 3]) else if r = 5 then some (false, [0, 3]) else if r = 6 then some (false, [0, 3]) else if r = 7 then some (false, [0]) else if r = 9 then some (false, [0]) else none, fun r => if r = 4 then [0, 3] else []⟩
def S74 : SCode :=
  (.seq (.ops [⟨none, (some 2), .mv 2 (.k (Value.string ⟨#[]⟩)), false⟩])
  (.seq (.seq (.ops [⟨none, (some 4), .mv 4 (.s 0), false⟩,
    ⟨none, (some 5), .bin 5 .eql (.s 4) (.k (Value.string ⟨#[]⟩)), false⟩])
  (.cond (.s 5) (.seq (.ops [⟨none, (some 2), .mv 2 (.k (Value.string ⟨#[47, 100, 101, 118, 47, 110, 117, 108, 108]⟩)), false⟩])
  .ret) .skip))
  (.seq (.seq (.ops [⟨none, (some 3), .mv 3 (.k (Value.int .i64 0)), false⟩])
  (.block 0 (.loop [0, 3] (.seq (.seq (.seq (.keep [0, 3]) (.ops [⟨none, (some 6), .mv 6 (.s 3), false⟩,
    ⟨none, (some 7), .mv 7 (.s 0), false⟩,
    ⟨none, (some 8), .lens 8 (.s 7), false⟩,
    ⟨none, (some 9), .bin 9 .lss (.s 6) (.s 8), false⟩]))
  (.cond (.s 9) .skip (.exit 0)))
  (.seq (.block 1 (.seq (.seq (.keep [0, 3]) (.ops [⟨none, (some 12), .mv 12 (.s 0), false⟩,
    ⟨none, (some 13), .mv 13 (.s 3), false⟩,
    ⟨none, (some 14), .ixs 14 (.s 12) (.s 13), false⟩,
    ⟨none, (some 15), .bin 15 .lss (.s 14) (.k (Value.int .u8 33)), false⟩,
    ⟨none, (some 16), .mv 16 (.s 15), false⟩,
    ⟨(some (16, false)), (some 17), .mv 17 (.s 0), false⟩,
    ⟨(some (16, false)), (some 18), .mv 18 (.s 3), false⟩,
    ⟨(some (16, false)), (some 19), .ixs 19 (.s 17) (.s 18), false⟩,
    ⟨(some (16, false)), (some 20), .bin 20 .gtr (.s 19) (.k (Value.int .u8 126)), false⟩,
    ⟨none, (some 21), .pk 21 (.s 16) (.k (Value.bool true)) (.s 20), true⟩,
    ⟨none, (some 22), .mv 22 (.s 21), false⟩,
    ⟨(some (22, false)), (some 23), .mv 23 (.s 0), false⟩,
    ⟨(some (22, false)), (some 24), .mv 24 (.s 3), false⟩,
    ⟨(some (22, false)), (some 25), .ixs 25 (.s 23) (.s 24), false⟩,
    ⟨(some (22, false)), (some 26), .bin 26 .eql (.s 25) (.k (Value.int .u8 34)), false⟩,
    ⟨none, (some 27), .pk 27 (.s 22) (.k (Value.bool true)) (.s 26), false⟩]))
  (.cond (.s 27) (.seq (.seq (.keep [0]) (.ops [⟨none, (some 28), .mv 28 (.s 0), false⟩,
    ⟨none, (some 29), .call (some 29) 121 false [(.s 28)], false⟩,
    ⟨none, (some 2), .mv 2 (.s 29), false⟩]))
  .ret) .skip)))
  (.seq (.keep [0, 3]) (.ops [⟨none, (some 10), .mv 10 (.s 3), false⟩,
    ⟨none, (some 11), .binc 11 .add (.s 10) (.k (Value.int .i64 1)), false⟩,
    ⟨none, (some 3), .mv 3 (.s 11), false⟩])))))))
  (.seq (.seq (.ops [⟨none, (some 30), .mv 30 (.s 0), false⟩,
    ⟨none, (some 31), .bin 31 .eql (.s 30) (.k (Value.string ⟨#[47, 100, 101, 118, 47, 110, 117, 108, 108]⟩)), false⟩])
  (.cond (.s 31) (.seq (.seq (.keep [0]) (.ops [⟨none, (some 32), .mv 32 (.s 0), false⟩,
    ⟨none, (some 33), .call (some 33) 121 false [(.s 32)], false⟩,
    ⟨none, (some 2), .mv 2 (.s 33), false⟩]))
  .ret) .skip))
  (.seq (.ops [⟨none, (some 34), .mv 34 (.s 0), false⟩,
    ⟨none, (some 2), .mv 2 (.s 34), false⟩])
  .ret)))))
theorem cc74 : (Tryd.f74.body).bind (cc Tryd.prog Tryd.f74.ntmps A74) = some S74 := by kernel_rfl
def R74 : List RR := [.sl 2]
theorem cr74 : Tryd.f74.results.toList.map (crr Tryd.prog) = R74.map some := by kernel_rfl
theorem nm74 : (Tryd.f74.name == "runtime.NumGoroutine") = false := by kernel_rfl
theorem fn74 : Tryd.prog.funcs[74]? = some Tryd.f74 := by kernel_rfl
theorem bd74 : ∃ b, Tryd.f74.body = some b ∧ cc Tryd.prog Tryd.f74.ntmps A74 b = some S74 := Option.bind_eq_some_iff.1 cc74
theorem sd74 {G : World → Prop} {T : FuncId → Contract} {C : Contract} (hT : ∀ f, Sound G Tryd.prog f (T f)) (hl : C.lawful) (hC : ∀ args st K, C.wp args st K → args.length ≤ 35 ∧ ∃ os op, xv T st.n S74 (st0 args st) (retK R74 st.n os K) (panK st.n op K)) (hit : SoundIt G Tryd.prog 74 C.it := by exact SoundIt.none) : Sound G Tryd.prog 74 C := by
  obtain ⟨b, hb, hc⟩ := bd74
  rw [xv_eq] at hC
  exact sound_of_ev mo fn74 hb nm74 hc cr74 hT hl hit hC

/-! 66: redline/redlineref16.Name -/
def A66 : Ann := ⟨fun _ _ => 0, fun _ => none, fun r => if r = 1 then some (false, [0]) else none, fun _ => []⟩
def S66 : SCode :=
  (.seq (.ops [⟨none, (some 2), .mv 2 (.k (Value.string ⟨#[]⟩)), false⟩])
  (.seq (.seq (.keep [0]) (.ops [⟨none, (some 3), .mv 3 (.s 0), false⟩,
    ⟨none, (some 4), .call (some 4) 74 false [(.s 3)], false⟩,
    ⟨none, (some 2), .mv 2 (.s 4), false⟩]))
  .ret))
theorem cc66 : (Tryd.f66.body).bind (cc Tryd.prog Tryd.f66.ntmps A66) = some S66 := by kernel_rfl
def R66 : List RR := [.sl 2]
theorem cr66 : Tryd.f66.results.toList.map (crr Tryd.prog) = R66.map some := by kernel_rfl
theorem nm66 : (Tryd.f66.name == "runtime.NumGoroutine") = false := by kernel_rfl
theorem fn66 : Tryd.prog.funcs[66]? = some Tryd.f66 := by kernel_rfl
theorem bd66 : ∃ b, Tryd.f66.body = some b ∧ cc Tryd.prog Tryd.f66.ntmps A66 b = some S66 := Option.bind_eq_some_iff.1 cc66
theorem sd66 {G : World → Prop} {T : FuncId → Contract} {C : Contract} (hT : ∀ f, Sound G Tryd.prog f (T f)) (hl : C.lawful) (hC : ∀ args st K, C.wp args st K → args.length ≤ 5 ∧ ∃ os op, xv T st.n S66 (st0 args st) (retK R66 st.n os K) (panK st.n op K)) (hit : SoundIt G Tryd.prog 66 C.it := by exact SoundIt.none) : Sound G Tryd.prog 66 C := by
  obtain ⟨b, hb, hc⟩ := bd66
  rw [xv_eq] at hC
  exact sound_of_ev mo fn66 hb nm66 hc cr66 hT hl hit hC

end Go.Proofs.YtpbkdcfjlbdgfaaDoor
set_option linter.unusedVariables false
set_option linter.unusedSimpArgs false
namespace Go.Proofs.YtpbkdcfjlbdgfaaDoor
open Go Go.Ev
set_option maxHeartbeats 1000000 in
set_option maxRecDepth 100000 in
theorem calls168 (s : ByteArray) (c : Int) (w : World) :
    Calls Tryd.prog 168 #[.string s, .int .u8 c] w fun e w' => e = .returned (.int .i64 (Lib.indexByte s.data.toList c.toNat.toUInt8)) ∧ w' = w := by
  go_enter Tryd.func168, Tryd.ntmps168
  go_wp2
  rw [run_callFunc_extern Tryd.func189 (by kernel_rfl) (by kernel_rfl) (by kernel_rfl) (e := Extern.BytealgIndexByte.indexByte) (by kernel_rfl), Lib.run_indexByteString]
  simp only [Result.andThen]
  rw [Oper.upon_value]
  go_wp2
  go_ret
  exact ⟨rfl, rfl⟩
def C168 : Contract := pureC fun args => match args with
  | [.d (.v (.string s)), .d (.v (.int .u8 c))] => some (True, .d (.v (.int .i64 (Lib.indexByte s.data.toList c.toNat.toUInt8))))
  | _ => none
set_option maxRecDepth 100000 in
theorem hb168 : HasBody Tryd.prog 168 := ⟨Tryd.f168, by kernel_rfl, by kernel_rfl, by kernel_rfl⟩
set_option maxRecDepth 100000 in
theorem s168 {G : World → Prop} : Sound G Tryd.prog 168 C168 := by
  refine sound_calls hb168 fun args p x h hp => ?_
  split at h <;> simp only [Option.some.injEq, Prod.mk.injEq, reduceCtorEq] at h
  obtain ⟨rfl, rfl⟩ := h
  refine ⟨_, fun m n c => ⟨rfl, rfl⟩, fun m c vs hv w => ?_⟩
  match vs, hv with
  | [a, b], hv =>
    simp only [CnL, and_true] at hv
    rw [of_v hv.1, of_v hv.2]
    exact calls168 _ _ w
  | [], hv => simp [CnL] at hv
  | [_], hv => simp [CnL] at hv
  | _ :: _ :: _ :: _, hv => simp [CnL] at hv
end Go.Proofs.YtpbkdcfjlbdgfaaDoor
set_option linter.unusedVariables false
set_option linter.unusedSimpArgs false
namespace Go.Proofs.YtpbkdcfjlbdgfaaDoor
open Go Go.Ev
set_option maxRecDepth 100000
variable {G : World → Prop}
def plainB (c : Int) : Bool := decide (32 ≤ c) && decide (c ≤ 126) && !decide (c = 34) && !decide (c = 92)
def C89 : Contract := pureC fun args => match args with
  | [.d (.v (.int .u8 c))] => some (True, .d (.v (.bool (plainB c))))
  | _ => none
theorem s89 : Sound G Tryd.prog 89 C89 := by
  refine sd89 (T := tabT []) tab_nil (pureC_lawful _) (pure_hX fun args p x K h hp hk => ?_)
  split at h <;> simp only [Option.some.injEq, Prod.mk.injEq, reduceCtorEq] at h
  obtain ⟨rfl, rfl⟩ := h
  refine ⟨Nat.le_of_ble_eq_true rfl, ?_⟩
  simp -dsimp -implicitDefEqProofs only [S89, R89, ↓Ev.xStp_eq, ↓Ev.P, Ev.Q, eq_self, forall_eq_or_imp, implies_true, forall_const, forall_eq, ↓reduceIte, reduceIte, Nat.reduceEqDiff, Nat.reduceAdd, reduceCtorEq, Nat.reduceSub, Int.reduceToNat, Int.reduceLE, Int.reduceLT, Int.reduceNeg, Nat.reduceBEq, Nat.reduceMul, Nat.reduceLeDiff, Nat.reduceMod, UInt8.reduceOfNat, Nat.reduceLT, Int.reduceEq, Int.reduceAdd, Int.reduceSub, Int.reduceMul]
  exact hk
theorem s104 : Sound G Tryd.prog 104 C89 := by
  refine sd104 (T := tabT []) tab_nil (pureC_lawful _) (pure_hX fun args p x K h hp hk => ?_)
  split at h <;> simp only [Option.some.injEq, Prod.mk.injEq, reduceCtorEq] at h
  obtain ⟨rfl, rfl⟩ := h
  refine ⟨Nat.le_of_ble_eq_true rfl, ?_⟩
  simp -dsimp -implicitDefEqProofs only [S104, R104, ↓Ev.xStp_eq, ↓Ev.P, Ev.Q, eq_self, forall_eq_or_imp, implies_true, forall_const, forall_eq, ↓reduceIte, reduceIte, Nat.reduceEqDiff, Nat.reduceAdd, reduceCtorEq, Nat.reduceSub, Int.reduceToNat, Int.reduceLE, Int.reduceLT, Int.reduceNeg, Nat.reduceBEq, Nat.reduceMul, Nat.reduceLeDiff, Nat.reduceMod, UInt8.reduceOfNat, Nat.reduceLT, Int.reduceEq, Int.reduceAdd, Int.reduceSub, Int.reduceMul]
  exact hk
def hasPre (s p : ByteArray) : Bool := decide ((p.size : Int) ≤ (s.size : Int)) && decide (s.extract 0 p.size = p)
def C167 : Contract := pureC fun args => match args with
  | [.d (.v (.string s)), .d (.v (.string p))] => some (True, .d (.v (.bool (hasPre s p))))
  | _ => none
theorem s167 : Sound G Tryd.prog 167 C167 := by
  refine sd167 (T := tabT []) tab_nil (pureC_lawful _) (pure_hX fun args p x K h hp hk => ?_)
  split at h <;> simp only [Option.some.injEq, Prod.mk.injEq, reduceCtorEq] at h
  obtain ⟨rfl, rfl⟩ := h
  refine ⟨Nat.le_of_ble_eq_true rfl, ?_⟩
  simp -dsimp -implicitDefEqProofs only [S167, R167, ↓Ev.xStp_eq, ↓Ev.P, Ev.Q, eq_self, forall_eq_or_imp, implies_true, forall_const, forall_eq, ↓reduceIte, reduceIte, Nat.reduceEqDiff, Nat.reduceAdd, reduceCtorEq, Nat.reduceSub, Int.reduceToNat, Int.reduceLE, Int.reduceLT, Int.reduceNeg, Nat.reduceBEq, Nat.reduceMul, Nat.reduceLeDiff, Nat.reduceMod, UInt8.reduceOfNat, Nat.reduceLT, Int.reduceEq, Int.reduceAdd, Int.reduceSub, Int.reduceMul]
  exact ⟨fun h => by omega, hk⟩
theorem s162 : Sound G Tryd.prog 162 C167 := by
  refine sd162 (T := tabT [(167, C167)]) (tab_cons s167 tab_nil) (pureC_lawful _) (pure_hX fun args p x K h hp hk => ?_)
  split at h <;> simp only [Option.some.injEq, Prod.mk.injEq, reduceCtorEq] at h
  obtain ⟨rfl, rfl⟩ := h
  refine ⟨Nat.le_of_ble_eq_true rfl, ?_⟩
  simp -dsimp -implicitDefEqProofs only [S162, R162, C167, ↓Ev.xStp_eq, ↓Ev.P, Ev.Q, eq_self, forall_eq_or_imp, implies_true, forall_const, forall_eq, ↓reduceIte, reduceIte, Nat.reduceEqDiff, Nat.reduceAdd, reduceCtorEq, Nat.reduceSub, Int.reduceToNat, Int.reduceLE, Int.reduceLT, Int.reduceNeg, Nat.reduceBEq, Nat.reduceMul, Nat.reduceLeDiff, Nat.reduceMod, UInt8.reduceOfNat, Nat.reduceLT, Int.reduceEq, Int.reduceAdd, Int.reduceSub, Int.reduceMul]
  exact hk
def C134 : Contract := pureC fun args => match args with
  | [.d (.v (.string s)), .d (.v (.string p))] => some (True, .tup [.d (.v (.string (if hasPre s p then s.extract p.size s.size else s))), .d (.v (.bool (hasPre s p)))])
  | _ => none
theorem s134 : Sound G Tryd.prog 134 C134 := by
  refine sd134 (T := tabT [(167, C167)]) (tab_cons s167 tab_nil) (pureC_lawful _) (pure_hX fun args p x K h hp hk => ?_)
  split at h <;> simp only [Option.some.injEq, Prod.mk.injEq, reduceCtorEq] at h
  obtain ⟨rfl, rfl⟩ := h
  rename_i s q
  refine ⟨Nat.le_of_ble_eq_true rfl, ?_⟩
  simp -dsimp -implicitDefEqProofs only [S134, R134, C167, ↓Ev.xStp_eq, ↓Ev.P, Ev.Q, eq_self, forall_eq_or_imp, implies_true, forall_const, forall_eq, ↓reduceIte, reduceIte, Nat.reduceEqDiff, Nat.reduceAdd, reduceCtorEq, Nat.reduceSub, Int.reduceToNat, Int.reduceLE, Int.reduceLT, Int.reduceNeg, Nat.reduceBEq, Nat.reduceMul, Nat.reduceLeDiff, Nat.reduceMod, UInt8.reduceOfNat, Nat.reduceLT, Int.reduceEq, Int.reduceAdd, Int.reduceSub, Int.reduceMul]
  refine ⟨fun h => ?_, fun h => ?_⟩
  · have h' : hasPre s q = false := by simpa using h
    rw [h'] at hk; exact hk
  · have h' : hasPre s q = true := by simpa using h
    rw [h'] at hk
    have hs : ∀ s p, hasPre s p = true → p.size ≤ s.size := fun s p h => by simp only [hasPre, Bool.and_eq_true, decide_eq_true_eq] at h; omega
    have := hs _ _ h'
    exact ⟨by omega, hk⟩
theorem s91 : Sound G Tryd.prog 91 C134 := by
  refine sd91 (T := tabT [(134, C134)]) (tab_cons s134 tab_nil) (pureC_lawful _) (pure_hX fun args p x K h hp hk => ?_)
  split at h <;> simp only [Option.some.injEq, Prod.mk.injEq, reduceCtorEq] at h
  obtain ⟨rfl, rfl⟩ := h
  refine ⟨Nat.le_of_ble_eq_true rfl, ?_⟩
  simp -dsimp -implicitDefEqProofs only [S91, R91, C134, ↓Ev.xStp_eq, ↓Ev.P, Ev.Q, eq_self, forall_eq_or_imp, implies_true, forall_const, forall_eq, ↓reduceIte, reduceIte, Nat.reduceEqDiff, Nat.reduceAdd, reduceCtorEq, Nat.reduceSub, Int.reduceToNat, Int.reduceLE, Int.reduceLT, Int.reduceNeg, Nat.reduceBEq, Nat.reduceMul, Nat.reduceLeDiff, Nat.reduceMod, UInt8.reduceOfNat, Nat.reduceLT, Int.reduceEq, Int.reduceAdd, Int.reduceSub, Int.reduceMul]
  exact hk
end Go.Proofs.YtpbkdcfjlbdgfaaDoor
set_option linter.unusedVariables false
set_option linter.unusedSimpArgs false
namespace Go.Proofs.YtpbkdcfjlbdgfaaDoor
open Go Go.Ev
set_option maxRecDepth 100000
variable {G : World → Prop}
theorem s135 : Sound G Tryd.prog 135 C168 := by
  refine sd135 (T := tabT [(168, C168)]) (tab_cons s168 tab_nil) (pureC_lawful _) (pure_hX fun args p x K h hp hk => ?_)
  split at h <;> simp only [Option.some.injEq, Prod.mk.injEq, reduceCtorEq] at h
  obtain ⟨rfl, rfl⟩ := h
  refine ⟨Nat.le_of_ble_eq_true rfl, ?_⟩
  simp -dsimp -implicitDefEqProofs only [S135, R135, C168, ↓Ev.xStp_eq, ↓Ev.P, Ev.Q, eq_self, forall_eq_or_imp, implies_true, forall_const, forall_eq, ↓reduceIte, reduceIte, Nat.reduceEqDiff, Nat.reduceAdd, reduceCtorEq, Nat.reduceSub, Int.reduceToNat, Int.reduceLE, Int.reduceLT, Int.reduceNeg, Nat.reduceBEq, Nat.reduceMul, Nat.reduceLeDiff, Nat.reduceMod, UInt8.reduceOfNat, Nat.reduceLT, Int.reduceEq, Int.reduceAdd, Int.reduceSub, Int.reduceMul]
  exact hk
/-- A digit's place, or -1. -/
def hx (c : UInt8) : Int := Lib.indexByte [48, 49, 50, 51, 52, 53, 54, 55, 56, 57, 97, 98, 99, 100, 101, 102] c
def octV (a b : UInt8) : Int := IntKind.u8.wrap (IntKind.i64.wrap ((BitVec.ofInt IntKind.i64.bits (IntKind.i64.wrap (hx a * 2 ^ min 4 IntKind.i64.bits)) ||| BitVec.ofInt IntKind.i64.bits (hx b)).toNat))
def okO (a b : UInt8) : Bool := decide (0 ≤ hx a) && decide (0 ≤ hx b) && !plainB (octV a b)
def oct2 : List UInt8 → Int × Bool
  | a :: b :: _ => (octV a b, okO a b)
  | _ => (0, false)
def C92 : Contract := pureC fun args => match args with
  | [.d (.v (.string s))] => some (True, .tup [.d (.v (.int .u8 (oct2 s.data.toList).1)), .d (.v (.bool (oct2 s.data.toList).2))])
  | _ => none
theorem s92 : Sound G Tryd.prog 92 C92 := by
  refine sd92 (T := tabT [(89, C89), (135, C168)]) (tab_cons s89 (tab_cons s135 tab_nil)) (pureC_lawful _) (pure_hX fun args p x K h hp hk => ?_)
  split at h <;> simp only [Option.some.injEq, Prod.mk.injEq, reduceCtorEq] at h
  obtain ⟨rfl, rfl⟩ := h
  refine ⟨Nat.le_of_ble_eq_true rfl, ?_⟩
  rename_i s
  obtain ⟨l, rfl⟩ := ex_str s
  simp only [sem_str] at hk
  match l, hk with
  | [], hk =>
    simp -dsimp -implicitDefEqProofs only [S92, R92, C168, C89, ↓Ev.xStp_eq, ↓Ev.P, Ev.Q, eq_self, forall_eq_or_imp, implies_true, forall_const, forall_eq, ↓reduceIte, reduceIte, Nat.reduceEqDiff, Nat.reduceAdd, reduceCtorEq, Nat.reduceSub, Int.reduceToNat, Int.reduceLE, Int.reduceLT, Int.reduceNeg, Nat.reduceBEq, Nat.reduceMul, Nat.reduceLeDiff, Nat.reduceMod, UInt8.reduceOfNat, Nat.reduceLT, Int.reduceEq, Int.reduceAdd, Int.reduceSub, Int.reduceMul]
    repeat' (first | refine And.intro ?_ ?_ | intro _)
    all_goals first | omega | exact hk
  | [a], hk =>
    simp -dsimp -implicitDefEqProofs only [S92, R92, C168, C89, ↓Ev.xStp_eq, ↓Ev.P, Ev.Q, eq_self, forall_eq_or_imp, implies_true, forall_const, forall_eq, ↓reduceIte, reduceIte, Nat.reduceEqDiff, Nat.reduceAdd, reduceCtorEq, Nat.reduceSub, Int.reduceToNat, Int.reduceLE, Int.reduceLT, Int.reduceNeg, Nat.reduceBEq, Nat.reduceMul, Nat.reduceLeDiff, Nat.reduceMod, UInt8.reduceOfNat, Nat.reduceLT, Int.reduceEq, Int.reduceAdd, Int.reduceSub, Int.reduceMul]
    repeat' (first | refine And.intro ?_ ?_ | intro _)
    all_goals first | omega | exact hk
  | a :: b :: r, hk =>
    simp -dsimp -implicitDefEqProofs only [S92, R92, C168, C89, ↓Ev.xStp_eq, ↓Ev.P, Ev.Q, eq_self, forall_eq_or_imp, implies_true, forall_const, forall_eq, ↓reduceIte, reduceIte, Nat.reduceEqDiff, Nat.reduceAdd, reduceCtorEq, Nat.reduceSub, Int.reduceToNat, Int.reduceLE, Int.reduceLT, Int.reduceNeg, Nat.reduceBEq, Nat.reduceMul, Nat.reduceLeDiff, Nat.reduceMod, UInt8.reduceOfNat, Nat.reduceLT, Int.reduceEq, Int.reduceAdd, Int.reduceSub, Int.reduceMul]
    repeat' (first | refine And.intro ?_ ?_ | intro _)
    all_goals first | omega | exact hk
/-- The bytes of a quoted text from behind its first mark, and what is behind it. -/
def unq : List UInt8 → List UInt8 → Option (List UInt8 × List UInt8)
  | [], _ => none
  | c :: r, out => if c = 34 then some (out, r) else if plainB c.toNat = true then unq r (out ++ [c]) else
    if c = 92 ∧ (oct2 r).2 = true then unq (r.drop 2) (out ++ [UInt8.ofNat (oct2 r).1.toNat]) else none
  termination_by l => l.length
  decreasing_by all_goals (simp; try omega)
def unqS : Option (List UInt8 × List UInt8) → SV
  | some (o, r) => .tup [.d (.v (str o)), .d (.v (str r)), .d (.v (.int .i64 0))]
  | none => .tup [.d (.v (str [])), .d (.v (str [])), .d (.v (.int .i64 3))]
def unqL : List UInt8 → Option (List UInt8 × List UInt8)
  | 34 :: r => unq r []
  | _ => none
def C40 : Contract := pureC fun args => match args with
  | [.d (.v (.string s))] => some (s.size ≤ 1099511627776, unqS (unqL s.data.toList))
  | _ => none
theorem pre34 (l : List UInt8) : hasPre ⟨l.toArray⟩ ⟨[34].toArray⟩ = (match l with | c :: _ => decide (c = 34) | [] => false) := by
  unfold hasPre
  simp only [sem_str]
  cases l with
  | nil => rfl
  | cons c r => simp; omega
theorem octV_byte (a b : UInt8) : ((UInt8.ofNat (octV a b).toNat).toNat : Int) = octV a b := by
  have : 0 ≤ octV a b ∧ octV a b < 256 := by
    unfold octV
    generalize IntKind.i64.wrap _ = z
    simp only [IntKind.wrap, IntKind.bits, IntKind.signed]
    simp
    omega
  simp
  omega
theorem u8_eq (d : UInt8) (n : Nat) (hn : n < 256) : ((d.toNat : Int) = n) ↔ d = UInt8.ofNat n := by
  constructor
  · intro h
    apply UInt8.toNat_inj.1
    rw [UInt8.toNat_ofNat']
    omega
  · rintro rfl
    rw [UInt8.toNat_ofNat']
    omega
theorem unq_end (m out : List UInt8) : unq (34 :: m) out = some (out, m) := by rw [unq]; simp
theorem unq_plain {d : UInt8} (m out : List UInt8) (h : d ≠ 34) (hp : plainB d.toNat = true) : unq (d :: m) out = unq m (out ++ [d]) := by rw [unq]; simp [h, hp]
theorem unq_oct (m out : List UInt8) (ho : (oct2 m).2 = true) : 2 ≤ m.length ∧ unq (92 :: m) out = unq (m.drop 2) (out ++ [UInt8.ofNat (oct2 m).1.toNat]) ∧ (((UInt8.ofNat (oct2 m).1.toNat).toNat : Int) = (oct2 m).1) := by
  match m, ho with
  | a :: b :: r, ho =>
    refine ⟨by simp, ?_, octV_byte a b⟩
    have hp : plainB (92 : UInt8).toNat = false := by decide
    rw [unq]
    simp only [hp]
    simp [ho]
  | [], ho => cases ho
  | [_], ho => cases ho
theorem unq_bad {d : UInt8} (m out : List UInt8) (h : d ≠ 34) (hp : plainB d.toNat = false) (hb : d = 92 → (oct2 m).2 = false) : unq (d :: m) out = none := by
  rw [unq]
  simp only [h, if_false, hp, Bool.false_eq_true]
  rw [if_neg]
  rintro ⟨h1, h2⟩
  rw [hb h1] at h2; cases h2
end Go.Proofs.YtpbkdcfjlbdgfaaDoor
set_option linter.unusedVariables false
set_option linter.unusedSimpArgs false
namespace Go.Proofs.YtpbkdcfjlbdgfaaDoor
open Go Go.Ev
set_option maxRecDepth 100000
variable {G : World → Prop}
theorem s40 : Sound G Tryd.prog 40 C40 := by
  refine sd40 (T := tabT [(91, C134), (89, C89), (92, C92)]) (tab_cons s91 (tab_cons s89 (tab_cons s92 tab_nil))) (pureC_lawful _) (pure_hX fun args p x K h hp hk => ?_)
  split at h <;> simp only [Option.some.injEq, Prod.mk.injEq, reduceCtorEq] at h
  obtain ⟨rfl, rfl⟩ := h
  refine ⟨Nat.le_of_ble_eq_true rfl, ?_⟩
  rename_i s
  obtain ⟨l, rfl⟩ := ex_str s
  simp only [sem_str] at hk hp
  have hpre := pre34 l
  have bad : unqL l = none → K (.ret (.tup [.d (.v (.string ⟨#[]⟩)), .d (.v (.string ⟨#[]⟩)), .d (.v (.int .i64 3))])) ⟨0, []⟩ := fun e => by rw [e] at hk; exact hk
  match l, hpre with
  | [], hpre =>
    simp -dsimp -implicitDefEqProofs only [S40, R40, C134, C89, C92, hpre, ↓Ev.xStp_eq, ↓Ev.P, Ev.Q, eq_self, forall_eq_or_imp, implies_true, forall_const, forall_eq, ↓reduceIte, reduceIte, Nat.reduceEqDiff, Nat.reduceAdd, reduceCtorEq, Nat.reduceSub, Int.reduceToNat, Int.reduceLE, Int.reduceLT, Int.reduceNeg, Nat.reduceBEq, Nat.reduceMul, Nat.reduceLeDiff, Nat.reduceMod, UInt8.reduceOfNat, Nat.reduceLT, Int.reduceEq, Int.reduceAdd, Int.reduceSub, Int.reduceMul]
    exact bad rfl
  | c :: r, hpre =>
    by_cases hc : c = 34
    case neg =>
      have hpre : hasPre ⟨(c :: r).toArray⟩ ⟨[34].toArray⟩ = false := by rw [hpre]; simp [hc]
      simp -dsimp -implicitDefEqProofs only [S40, R40, C134, C89, C92, hpre, ↓Ev.xStp_eq, ↓Ev.P, Ev.Q, eq_self, forall_eq_or_imp, implies_true, forall_const, forall_eq, ↓reduceIte, reduceIte, Nat.reduceEqDiff, Nat.reduceAdd, reduceCtorEq, Nat.reduceSub, Int.reduceToNat, Int.reduceLE, Int.reduceLT, Int.reduceNeg, Nat.reduceBEq, Nat.reduceMul, Nat.reduceLeDiff, Nat.reduceMod, UInt8.reduceOfNat, Nat.reduceLT, Int.reduceEq, Int.reduceAdd, Int.reduceSub, Int.reduceMul]
      refine bad ?_
      unfold unqL
      split
      · simp_all
      · rfl
    subst hc
    have hpre : hasPre ⟨((34 : UInt8) :: r).toArray⟩ ⟨[34].toArray⟩ = true := by rw [hpre]; simp
    simp -dsimp -implicitDefEqProofs only [S40, R40, C134, C89, C92, hpre, ↓Ev.xStp_eq, ↓Ev.P, Ev.Q, eq_self, forall_eq_or_imp, implies_true, forall_const, forall_eq, ↓reduceIte, reduceIte, Nat.reduceEqDiff, Nat.reduceAdd, reduceCtorEq, Nat.reduceSub, Int.reduceToNat, Int.reduceLE, Int.reduceLT, Int.reduceNeg, Nat.reduceBEq, Nat.reduceMul, Nat.reduceLeDiff, Nat.reduceMod, UInt8.reduceOfNat, Nat.reduceLT, Int.reduceEq, Int.reduceAdd, Int.reduceSub, Int.reduceMul]
    have good : ∀ o m, unq r [] = some (o, m) → K (.ret (.tup [.d (.v (.string ⟨o.toArray⟩)), .d (.v (.string ⟨m.toArray⟩)), .d (.v (.int .i64 0))])) ⟨0, []⟩ := fun o m e => by
      rw [unqL, e] at hk; exact hk
    have hr : r.length ≤ 1099511627776 := by simp only [List.length_cons] at hp; omega
    refine xLoop_intro (fun n st => ∃ (l out : List UInt8), n = l.length ∧ l.length + out.length ≤ r.length ∧ unq l out = unq r [] ∧
      st = ⟨[(5, .d (.v (.string ⟨l.toArray⟩))), (7, .own 0)], 1, [(0, .row 5 1 (byteRows out))]⟩) r.length [0] ?_ ?_ ?_
    · simp -dsimp -implicitDefEqProofs only [↓Ev.xStp_eq, ↓Ev.P, Ev.Q, eq_self, forall_eq_or_imp, implies_true, forall_const, forall_eq, ↓reduceIte, reduceIte, Nat.reduceEqDiff, Nat.reduceAdd, reduceCtorEq, Nat.reduceSub, Int.reduceToNat, Int.reduceLE, Int.reduceLT, Int.reduceNeg, Nat.reduceBEq, Nat.reduceMul, Nat.reduceLeDiff, Nat.reduceMod, UInt8.reduceOfNat, Nat.reduceLT, Int.reduceEq, Int.reduceAdd, Int.reduceSub, Int.reduceMul]
    · simp -dsimp -implicitDefEqProofs only [↓Ev.xStp_eq, ↓Ev.P, Ev.Q, eq_self, forall_eq_or_imp, implies_true, forall_const, forall_eq, ↓reduceIte, reduceIte, Nat.reduceEqDiff, Nat.reduceAdd, reduceCtorEq, Nat.reduceSub, Int.reduceToNat, Int.reduceLE, Int.reduceLT, Int.reduceNeg, Nat.reduceBEq, Nat.reduceMul, Nat.reduceLeDiff, Nat.reduceMod, UInt8.reduceOfNat, Nat.reduceLT, Int.reduceEq, Int.reduceAdd, Int.reduceSub, Int.reduceMul]
      exact ⟨r, [], rfl, by simp, rfl, rfl⟩
    · rintro n st ⟨l, out, hn, hlen, hu, rfl⟩
      cases l with
      | nil =>
        have hb := bad (by rw [unqL, ← hu, unq])
        simp -dsimp -implicitDefEqProofs only [↓Ev.xStp_eq, ↓Ev.P, Ev.Q, eq_self, forall_eq_or_imp, implies_true, forall_const, forall_eq, ↓reduceIte, reduceIte, Nat.reduceEqDiff, Nat.reduceAdd, reduceCtorEq, Nat.reduceSub, Int.reduceToNat, Int.reduceLE, Int.reduceLT, Int.reduceNeg, Nat.reduceBEq, Nat.reduceMul, Nat.reduceLeDiff, Nat.reduceMod, UInt8.reduceOfNat, Nat.reduceLT, Int.reduceEq, Int.reduceAdd, Int.reduceSub, Int.reduceMul]
        exact hb
      | cons d m =>
        have h34' : ((d.toNat : Int) = 34) ↔ d = 34 := u8_eq d 34 (by omega)
        have h92' : ((d.toNat : Int) = 92) ↔ d = 92 := u8_eq d 92 (by omega)
        simp only [List.length_cons] at hlen hn
        simp -dsimp -implicitDefEqProofs only [↓Ev.xStp_eq, ↓Ev.P, Ev.Q, eq_self, forall_eq_or_imp, implies_true, forall_const, forall_eq, ↓reduceIte, reduceIte, Nat.reduceEqDiff, Nat.reduceAdd, reduceCtorEq, Nat.reduceSub, Int.reduceToNat, Int.reduceLE, Int.reduceLT, Int.reduceNeg, Nat.reduceBEq, Nat.reduceMul, Nat.reduceLeDiff, Nat.reduceMod, UInt8.reduceOfNat, Nat.reduceLT, Int.reduceEq, Int.reduceAdd, Int.reduceSub, Int.reduceMul]
        repeat' (first | refine And.intro ?_ ?_ | intro _)
        all_goals try omega
        · rename_i h
          exact good _ _ (by rw [← hu, h34'.1 h, unq_end])
        · rename_i h hp
          refine xAgain_intro m.length [2] (by omega) (by simp -dsimp -implicitDefEqProofs only [↓Ev.xStp_eq, ↓Ev.P, Ev.Q, eq_self, forall_eq_or_imp, implies_true, forall_const, forall_eq, ↓reduceIte, reduceIte, Nat.reduceEqDiff, Nat.reduceAdd, reduceCtorEq, Nat.reduceSub, Int.reduceToNat, Int.reduceLE, Int.reduceLT, Int.reduceNeg, Nat.reduceBEq, Nat.reduceMul, Nat.reduceLeDiff, Nat.reduceMod, UInt8.reduceOfNat, Nat.reduceLT, Int.reduceEq, Int.reduceAdd, Int.reduceSub, Int.reduceMul]) ⟨m, out ++ [d], rfl, by simp; omega, by rw [← hu, unq_plain _ _ (fun e => h (h34'.2 e)) hp], ?_⟩
          simp -dsimp -implicitDefEqProofs only [↓Ev.xStp_eq, ↓Ev.P, Ev.Q, eq_self, forall_eq_or_imp, implies_true, forall_const, forall_eq, ↓reduceIte, reduceIte, Nat.reduceEqDiff, Nat.reduceAdd, reduceCtorEq, Nat.reduceSub, Int.reduceToNat, Int.reduceLE, Int.reduceLT, Int.reduceNeg, Nat.reduceBEq, Nat.reduceMul, Nat.reduceLeDiff, Nat.reduceMod, UInt8.reduceOfNat, Nat.reduceLT, Int.reduceEq, Int.reduceAdd, Int.reduceSub, Int.reduceMul]
          simp [byteRows]
        · rename_i h hp hb
          refine bad ?_
          rw [unqL, ← hu]
          refine unq_bad _ _ (fun e => h (h34'.2 e)) hp fun e => ?_
          rcases hb with hb | hb
          · exact absurd (h92'.2 e) hb
          · exact hb
        all_goals
          rename_i h hp hb
          obtain ⟨h1, h2⟩ := hb
          have := h92'.1 h1
          subst this
          obtain ⟨k1, k2, k3⟩ := unq_oct m out h2
        · omega
        · refine xAgain_intro (m.drop 2).length [2] (by simp; omega) (by simp -dsimp -implicitDefEqProofs only [↓Ev.xStp_eq, ↓Ev.P, Ev.Q, eq_self, forall_eq_or_imp, implies_true, forall_const, forall_eq, ↓reduceIte, reduceIte, Nat.reduceEqDiff, Nat.reduceAdd, reduceCtorEq, Nat.reduceSub, Int.reduceToNat, Int.reduceLE, Int.reduceLT, Int.reduceNeg, Nat.reduceBEq, Nat.reduceMul, Nat.reduceLeDiff, Nat.reduceMod, UInt8.reduceOfNat, Nat.reduceLT, Int.reduceEq, Int.reduceAdd, Int.reduceSub, Int.reduceMul]) ⟨m.drop 2, _, rfl, ?_, by rw [← hu, k2], ?_⟩
          · simp; omega
          · simp -dsimp -implicitDefEqProofs only [↓Ev.xStp_eq, ↓Ev.P, Ev.Q, eq_self, forall_eq_or_imp, implies_true, forall_const, forall_eq, ↓reduceIte, reduceIte, Nat.reduceEqDiff, Nat.reduceAdd, reduceCtorEq, Nat.reduceSub, Int.reduceToNat, Int.reduceLE, Int.reduceLT, Int.reduceNeg, Nat.reduceBEq, Nat.reduceMul, Nat.reduceLeDiff, Nat.reduceMod, UInt8.reduceOfNat, Nat.reduceLT, Int.reduceEq, Int.reduceAdd, Int.reduceSub, Int.reduceMul]
            simp only [byteRows, List.map_append, List.map_cons, List.map_nil, k3]
end Go.Proofs.YtpbkdcfjlbdgfaaDoor
set_option linter.unusedVariables false
set_option linter.unusedSimpArgs false
namespace Go.Proofs.YtpbkdcfjlbdgfaaDoor
open Go Go.Ev
set_option maxRecDepth 100000
variable {G : World → Prop}
theorem idx_hit : ∀ (l : List UInt8) (i : Nat) (d : UInt8), i < l.length → (∀ j, j < i → l.getD j 0 ≠ d) → l.getD i 0 = d → Lib.indexByte l d = i
  | [], i, d, h, _, _ => by simp at h
  | b :: l, 0, d, h, h1, h2 => by simp at h2; simp [Lib.indexByte, h2]
  | b :: l, i + 1, d, h, h1, h2 => by
    have h3 := h1 0 (by omega)
    simp only [List.getD_cons_zero] at h3
    have h4 := idx_hit l i d (by simpa using h) (fun j hj => by have := h1 (j + 1) (by omega); simpa using this) (by simpa using h2)
    simp only [Lib.indexByte, h4]
    simp [h3]
theorem idx_miss : ∀ (l : List UInt8) (d : UInt8), (∀ j, j < l.length → l.getD j 0 ≠ d) → Lib.indexByte l d = -1
  | [], d, _ => rfl
  | b :: l, d, h => by
    have h3 := h 0 (by simp)
    simp only [List.getD_cons_zero] at h3
    have h4 := idx_miss l d fun j hj => by have := h (j + 1) (by simp; omega); simpa using this
    simp only [Lib.indexByte, h4]
    simp [h3]
theorem u8_inj (a b : UInt8) : ((a.toNat : Int) = b.toNat) ↔ a = b := by
  constructor
  · intro h; exact UInt8.toNat_inj.1 (by omega)
  · rintro rfl; rfl
abbrev hexs : List UInt8 := [48, 49, 50, 51, 52, 53, 54, 55, 56, 57, 97, 98, 99, 100, 101, 102]
def C105 : Contract := pureC fun args => match args with
  | [.d (.v (.int .u8 c))] => some (∃ d : UInt8, c = d.toNat, .d (.v (.int .i64 (hx c.toNat.toUInt8))))
  | _ => none
theorem s105 : Sound G Tryd.prog 105 C105 := by
  refine sd105 (T := tabT []) tab_nil (pureC_lawful _) (pure_hX fun args p x K h hp hk => ?_)
  split at h <;> simp only [Option.some.injEq, Prod.mk.injEq, reduceCtorEq] at h
  rename_i c
  obtain ⟨rfl, rfl⟩ := h
  obtain ⟨d, rfl⟩ := hp
  simp only [Int.toNat_natCast, u8rt] at hk
  refine ⟨Nat.le_of_ble_eq_true rfl, ?_⟩
  simp -dsimp -implicitDefEqProofs only [S105, R105, ↓Ev.xStp_eq, ↓Ev.P, Ev.Q, eq_self, forall_eq_or_imp, implies_true, forall_const, forall_eq, ↓reduceIte, reduceIte, Nat.reduceEqDiff, Nat.reduceAdd, reduceCtorEq, Nat.reduceSub, Int.reduceToNat, Int.reduceLE, Int.reduceLT, Int.reduceNeg, Nat.reduceBEq, Nat.reduceMul, Nat.reduceLeDiff, Nat.reduceMod, UInt8.reduceOfNat, Nat.reduceLT, Int.reduceEq, Int.reduceAdd, Int.reduceSub, Int.reduceMul]
  refine xLoop_intro (fun n st => ∃ i : Nat, i ≤ 16 ∧ n = 16 - i ∧ st = ⟨[(0, .d (.v (.int .u8 d.toNat))), (3, .d (.v (.int .i64 i)))], 0, []⟩ ∧ ∀ j < i, hexs.getD j 0 ≠ d) 16 [] ?_ ?_ ?_
  · simp -dsimp -implicitDefEqProofs only [↓Ev.xStp_eq, ↓Ev.P, Ev.Q, eq_self, forall_eq_or_imp, implies_true, forall_const, forall_eq, ↓reduceIte, reduceIte, Nat.reduceEqDiff, Nat.reduceAdd, reduceCtorEq, Nat.reduceSub, Int.reduceToNat, Int.reduceLE, Int.reduceLT, Int.reduceNeg, Nat.reduceBEq, Nat.reduceMul, Nat.reduceLeDiff, Nat.reduceMod, UInt8.reduceOfNat, Nat.reduceLT, Int.reduceEq, Int.reduceAdd, Int.reduceSub, Int.reduceMul]
  · simp -dsimp -implicitDefEqProofs only [↓Ev.xStp_eq, ↓Ev.P, Ev.Q, eq_self, forall_eq_or_imp, implies_true, forall_const, forall_eq, ↓reduceIte, reduceIte, Nat.reduceEqDiff, Nat.reduceAdd, reduceCtorEq, Nat.reduceSub, Int.reduceToNat, Int.reduceLE, Int.reduceLT, Int.reduceNeg, Nat.reduceBEq, Nat.reduceMul, Nat.reduceLeDiff, Nat.reduceMod, UInt8.reduceOfNat, Nat.reduceLT, Int.reduceEq, Int.reduceAdd, Int.reduceSub, Int.reduceMul]
    exact ⟨0, by omega, rfl, rfl, fun j h => by omega⟩
  · rintro n st ⟨i, hi, rfl, rfl, hj⟩
    simp -dsimp -implicitDefEqProofs only [↓Ev.xStp_eq, ↓Ev.P, Ev.Q, eq_self, forall_eq_or_imp, implies_true, forall_const, forall_eq, ↓reduceIte, reduceIte, Nat.reduceEqDiff, Nat.reduceAdd, reduceCtorEq, Nat.reduceSub, Int.reduceToNat, Int.reduceLE, Int.reduceLT, Int.reduceNeg, Nat.reduceBEq, Nat.reduceMul, Nat.reduceLeDiff, Nat.reduceMod, UInt8.reduceOfNat, Nat.reduceLT, Int.reduceEq, Int.reduceAdd, Int.reduceSub, Int.reduceMul]
    repeat' (first | refine And.intro ?_ ?_ | intro _)
    all_goals try omega
    · rename_i h1 h2
      have := idx_hit hexs i d (by simp; omega) hj ((u8_inj _ _).1 h2)
      rw [show hx d = i from this] at hk
      exact hk
    · rename_i h1 h2
      refine xAgain_intro (16 - (i + 1)) [] (by omega) (by simp -dsimp -implicitDefEqProofs only [↓Ev.xStp_eq, ↓Ev.P, Ev.Q, eq_self, forall_eq_or_imp, implies_true, forall_const, forall_eq, ↓reduceIte, reduceIte, Nat.reduceEqDiff, Nat.reduceAdd, reduceCtorEq, Nat.reduceSub, Int.reduceToNat, Int.reduceLE, Int.reduceLT, Int.reduceNeg, Nat.reduceBEq, Nat.reduceMul, Nat.reduceLeDiff, Nat.reduceMod, UInt8.reduceOfNat, Nat.reduceLT, Int.reduceEq, Int.reduceAdd, Int.reduceSub, Int.reduceMul]) ⟨i + 1, by omega, rfl, ?_, ?_⟩
      · simp -dsimp -implicitDefEqProofs only [↓Ev.xStp_eq, ↓Ev.P, Ev.Q, eq_self, forall_eq_or_imp, implies_true, forall_const, forall_eq, ↓reduceIte, reduceIte, Nat.reduceEqDiff, Nat.reduceAdd, reduceCtorEq, Nat.reduceSub, Int.reduceToNat, Int.reduceLE, Int.reduceLT, Int.reduceNeg, Nat.reduceBEq, Nat.reduceMul, Nat.reduceLeDiff, Nat.reduceMod, UInt8.reduceOfNat, Nat.reduceLT, Int.reduceEq, Int.reduceAdd, Int.reduceSub, Int.reduceMul]
        rfl
      · intro j hj2
        by_cases e : j = i
        · subst e; exact fun e => h2 ((u8_inj _ _).2 e)
        · exact hj j (by omega)
    · rename_i h1
      have := idx_miss hexs d fun j hj2 => hj j (by simp at hj2; omega)
      rw [show hx d = -1 from this] at hk
      exact hk
end Go.Proofs.YtpbkdcfjlbdgfaaDoor
set_option linter.unusedVariables false
set_option linter.unusedSimpArgs false
namespace Go.Proofs.YtpbkdcfjlbdgfaaDoor
open Go Go.Ev
set_option maxRecDepth 100000
variable {G : World → Prop}
theorem hx_b (c : UInt8) : -1 ≤ hx c ∧ hx c < 16 := by
  refine ⟨Lib.indexByte_ge _ _, ?_⟩
  unfold hx
  have : ∀ l : List UInt8, Lib.indexByte l c < l.length := by
    intro l
    induction l with
    | nil => simp [Lib.indexByte]
    | cons b l ih =>
      simp only [Lib.indexByte, List.length_cons]
      have := Lib.indexByte_ge l c
      split
      · omega
      · split <;> omega
  exact this _
theorem oct_tab : ∀ a b : Fin 16, IntKind.u8.wrap (IntKind.i64.wrap ((BitVec.ofInt IntKind.i64.bits (IntKind.i64.wrap ((a.val : Int) * 2 ^ min 4 IntKind.i64.bits)) ||| BitVec.ofInt IntKind.i64.bits (b.val : Int)).toNat)) = IntKind.u8.wrap (16 * (a.val : Int) + (b.val : Int)) := by decide +kernel
theorem octV_eq (a b : UInt8) (ha : 0 ≤ hx a) (hb : 0 ≤ hx b) : octV a b = IntKind.u8.wrap (16 * hx a + hx b) := by
  have h1 := hx_b a
  have h2 := hx_b b
  have := oct_tab ⟨(hx a).toNat, by omega⟩ ⟨(hx b).toNat, by omega⟩
  have e1 : (((hx a).toNat : Nat) : Int) = hx a := by omega
  have e2 : (((hx b).toNat : Nat) : Int) = hx b := by omega
  simp only [e1, e2] at this
  exact this
theorem drop_cons (q : List UInt8) (i : Nat) (h : i < q.length) : q.drop i = q.getD i 0 :: q.drop (i + 1) := by
  rw [List.drop_eq_getElem_cons h]
  simp [List.getD_eq_getElem?_getD, List.getElem?_eq_getElem h]
/-- The value of two digits, as the reference reckons it. -/
def octR (a b : UInt8) : Int := IntKind.u8.wrap (16 * hx a + hx b)
theorem octR_eq (a b : UInt8) (ha : 0 ≤ hx a) (hb : 0 ≤ hx b) : octR a b = octV a b := (octV_eq a b ha hb).symm
def okR (q : List UInt8) (i : Nat) : Prop := ((((((q.getD i 0).toNat : Nat) : Int) = 92 ∧ (i : Int) + 2 < (q.length : Int)) ∧ 0 ≤ hx (q.getD (i + 1) 0)) ∧ 0 ≤ hx (q.getD (i + 2) 0)) ∧ plainB (octR (q.getD (i + 1) 0) (q.getD (i + 2) 0)) = false
section
variable {q out : List UInt8} {i : Nat} (hi : (i : Int) < (q.length : Int))
include hi
theorem at_end (hu : unq (q.drop i) out = unqL q) (h : ((q.getD i 0).toNat : Int) = 34) : unqL q = some (out, q.drop (i + 1)) := by
  rw [← hu, drop_cons q i (by omega), (u8_eq _ 34 (by omega)).1 h]
  exact unq_end _ _
theorem at_plain (hu : unq (q.drop i) out = unqL q) (h : ¬ ((q.getD i 0).toNat : Int) = 34) (hp : plainB (q.getD i 0).toNat = true) : unq (q.drop (i + 1)) (out ++ [q.getD i 0]) = unqL q := by
  rw [← hu, drop_cons q i (by omega), unq_plain _ _ (fun e => h ((u8_eq _ 34 (by omega)).2 e)) hp]
theorem oct2_at : oct2 (q.drop (i + 1)) = if (i : Int) + 2 < (q.length : Int) then (octV (q.getD (i + 1) 0) (q.getD (i + 2) 0), okO (q.getD (i + 1) 0) (q.getD (i + 2) 0)) else (0, false) := by
  by_cases h : (i : Int) + 2 < (q.length : Int)
  · rw [if_pos h, drop_cons q (i + 1) (by omega), drop_cons q (i + 1 + 1) (by omega)]
    rfl
  · rw [if_neg h]
    have : (q.drop (i + 1)).length ≤ 1 := by simp; omega
    match q.drop (i + 1), this with
    | [], _ => rfl
    | [_], _ => rfl
    | _ :: _ :: _, h => simp at h
theorem at_oct (hu : unq (q.drop i) out = unqL q) (h : ¬ ((q.getD i 0).toNat : Int) = 34) (hp : plainB (q.getD i 0).toNat = false) (hk : okR q i) :
    unq (q.drop (i + 3)) (out ++ [UInt8.ofNat (octR (q.getD (i + 1) 0) (q.getD (i + 2) 0)).toNat]) = unqL q ∧ ((UInt8.ofNat (octR (q.getD (i + 1) 0) (q.getD (i + 2) 0)).toNat).toNat : Int) = octR (q.getD (i + 1) 0) (q.getD (i + 2) 0) := by
  obtain ⟨⟨⟨⟨h1, h2⟩, h3⟩, h4⟩, h5⟩ := hk
  have ho := oct2_at hi
  rw [if_pos h2] at ho
  have he := octR_eq _ _ h3 h4
  have hok : (oct2 (q.drop (i + 1))).2 = true := by
    rw [ho]
    simp only [okO, Bool.and_eq_true, decide_eq_true_eq, Bool.not_eq_true']
    exact ⟨⟨h3, h4⟩, by rw [← he]; exact h5⟩
  obtain ⟨k1, k2, k3⟩ := unq_oct (q.drop (i + 1)) out hok
  rw [ho, List.drop_drop] at k2
  rw [ho] at k3
  rw [he]
  refine ⟨?_, k3⟩
  rw [← hu, drop_cons q i (by omega), (u8_eq _ 92 (by omega)).1 h1]
  exact k2.symm
theorem at_bad (hu : unq (q.drop i) out = unqL q) (h : ¬ ((q.getD i 0).toNat : Int) = 34) (hp : plainB (q.getD i 0).toNat = false) (hk : ¬ okR q i) : unqL q = none := by
  rw [← hu, drop_cons q i (by omega)]
  refine unq_bad _ _ (fun e => h ((u8_eq _ 34 (by omega)).2 e)) hp fun e => ?_
  rw [oct2_at hi]
  split
  · rename_i h2
    cases hc : okO (q.getD (i + 1) 0) (q.getD (i + 2) 0) with
    | false => rfl
    | true =>
      exfalso
      refine hk ?_
      simp only [okO, Bool.and_eq_true, decide_eq_true_eq, Bool.not_eq_true'] at hc
      exact ⟨⟨⟨⟨(u8_eq _ 92 (by omega)).2 e, h2⟩, hc.1.1⟩, hc.1.2⟩, by rw [octR_eq _ _ hc.1.1 hc.1.2]; exact hc.2⟩
  · rfl
end
end Go.Proofs.YtpbkdcfjlbdgfaaDoor
set_option linter.unusedVariables false
set_option linter.unusedSimpArgs false
namespace Go.Proofs.YtpbkdcfjlbdgfaaDoor
open Go Go.Ev
set_option maxRecDepth 100000
variable {G : World → Prop}
set_option maxHeartbeats 2000000 in
theorem s54 : Sound G Tryd.prog 54 C40 := by
  refine sd54 (T := tabT [(104, C89), (105, C105)]) (tab_cons s104 (tab_cons s105 tab_nil)) (pureC_lawful _) (pure_hX fun args p x K h hp hk => ?_)
  split at h <;> simp only [Option.some.injEq, Prod.mk.injEq, reduceCtorEq] at h
  obtain ⟨rfl, rfl⟩ := h
  refine ⟨Nat.le_of_ble_eq_true rfl, ?_⟩
  rename_i s
  obtain ⟨q, rfl⟩ := ex_str s
  simp only [sem_str] at hk hp
  have bad : unqL q = none → K (.ret (.tup [.d (.v (.string ⟨#[]⟩)), .d (.v (.string ⟨#[]⟩)), .d (.v (.int .i64 3))])) ⟨0, []⟩ := fun e => by rw [e] at hk; exact hk
  have good : ∀ o m, unqL q = some (o, m) → K (.ret (.tup [.d (.v (.string ⟨o.toArray⟩)), .d (.v (.string ⟨m.toArray⟩)), .d (.v (.int .i64 0))])) ⟨0, []⟩ := fun o m e => by
    rw [e] at hk; exact hk
  have hq : q.length ≤ 1099511627776 := hp
  simp -dsimp -implicitDefEqProofs only [S54, R54, C89, C105, ↓Ev.xStp_eq, ↓Ev.P, Ev.Q, eq_self, forall_eq_or_imp, implies_true, forall_const, forall_eq, ↓reduceIte, reduceIte, Nat.reduceEqDiff, Nat.reduceAdd, reduceCtorEq, Nat.reduceSub, Int.reduceToNat, Int.reduceLE, Int.reduceLT, Int.reduceNeg, Nat.reduceBEq, Nat.reduceMul, Nat.reduceLeDiff, Nat.reduceMod, UInt8.reduceOfNat, Nat.reduceLT, Int.reduceEq, Int.reduceAdd, Int.reduceSub, Int.reduceMul]
  have q34 : ∀ (i : Nat), ((((q.getD i 0).toNat : Nat) : Int) = 34) ↔ q.getD i 0 = 34 := fun i => u8_eq _ 34 (by omega)
  repeat' (first | refine And.intro ?_ ?_ | intro _)
  all_goals try omega
  · rename_i h
    refine bad ?_
    cases q with
    | nil => rfl
    | cons c r =>
      have : c ≠ 34 := fun e => by
        rcases h with h | h
        · simp only [List.length_cons] at h; omega
        · exact h ((q34 0).2 e)
      unfold unqL; split <;> simp_all
  rename_i h
  have h0 : unqL q = unq (q.drop 1) [] := by
    cases q with
    | nil => exact absurd rfl h.1
    | cons c r =>
      have : c = 34 := by have := (q34 0).1 (by simpa using h.2); simpa using this
      subst this; rfl
  have h1 : 1 ≤ q.length := by omega
  refine xLoop_intro (fun n st => ∃ (i : Nat) (out : List UInt8), n = q.length - i ∧ 1 ≤ i ∧ i ≤ q.length ∧ out.length ≤ i ∧ unq (q.drop i) out = unqL q ∧
      st = ⟨[(0, .d (.v (.string ⟨q.toArray⟩))), (5, .own 0), (6, .d (.v (.int .i64 i)))], 1, [(0, .row 5 1 (byteRows out))]⟩) (q.length - 1) [0] ?_ ?_ ?_
  · simp -dsimp -implicitDefEqProofs only [↓Ev.xStp_eq, ↓Ev.P, Ev.Q, eq_self, forall_eq_or_imp, implies_true, forall_const, forall_eq, ↓reduceIte, reduceIte, Nat.reduceEqDiff, Nat.reduceAdd, reduceCtorEq, Nat.reduceSub, Int.reduceToNat, Int.reduceLE, Int.reduceLT, Int.reduceNeg, Nat.reduceBEq, Nat.reduceMul, Nat.reduceLeDiff, Nat.reduceMod, UInt8.reduceOfNat, Nat.reduceLT, Int.reduceEq, Int.reduceAdd, Int.reduceSub, Int.reduceMul]
  · simp -dsimp -implicitDefEqProofs only [↓Ev.xStp_eq, ↓Ev.P, Ev.Q, eq_self, forall_eq_or_imp, implies_true, forall_const, forall_eq, ↓reduceIte, reduceIte, Nat.reduceEqDiff, Nat.reduceAdd, reduceCtorEq, Nat.reduceSub, Int.reduceToNat, Int.reduceLE, Int.reduceLT, Int.reduceNeg, Nat.reduceBEq, Nat.reduceMul, Nat.reduceLeDiff, Nat.reduceMod, UInt8.reduceOfNat, Nat.reduceLT, Int.reduceEq, Int.reduceAdd, Int.reduceSub, Int.reduceMul]
    exact ⟨1, [], rfl, by omega, h1, by simp, h0.symm, rfl⟩
  · rintro n st ⟨i, out, hn, hi1, hi2, ho, hu, rfl⟩
    have nb : ∀ x : UInt8, ∃ d : UInt8, (x.toNat : Int) = d.toNat := fun x => ⟨x, rfl⟩
    simp -dsimp -implicitDefEqProofs only [↓Ev.P, Ev.Q, eq_self, forall_eq_or_imp, implies_true, forall_const, forall_eq, ↓reduceIte, reduceIte, Nat.reduceEqDiff, Nat.reduceAdd, reduceCtorEq, Nat.reduceSub, Int.reduceToNat, Int.reduceLE, Int.reduceLT, Int.reduceNeg, Nat.reduceBEq, Nat.reduceMul, Nat.reduceLeDiff, Nat.reduceMod, UInt8.reduceOfNat, Nat.reduceLT, Int.reduceEq, Int.reduceAdd, Int.reduceSub, Int.reduceMul]
    have b1 := hx_b (q.getD (i + 1) 0)
    have b2 := hx_b (q.getD (i + 2) 0)
    repeat' (first | exact nb _ | refine And.intro ?_ ?_ | intro _ | (rw [Ev.xStp_eq]; simp -dsimp -implicitDefEqProofs only [↓Ev.P, Ev.Q, eq_self, forall_eq_or_imp, implies_true, forall_const, forall_eq, ↓reduceIte, reduceIte, Nat.reduceEqDiff, Nat.reduceAdd, reduceCtorEq, Nat.reduceSub, Int.reduceToNat, Int.reduceLE, Int.reduceLT, Int.reduceNeg, Nat.reduceBEq, Nat.reduceMul, Nat.reduceLeDiff, Nat.reduceMod, UInt8.reduceOfNat, Nat.reduceLT, Int.reduceEq, Int.reduceAdd, Int.reduceSub, Int.reduceMul]))
    all_goals try omega
    · rename_i hl h
      exact good _ _ (at_end hl hu h)
    · rename_i hl h hp
      refine xAgain_intro (q.length - (i + 1)) [2] (by omega) (by simp -dsimp -implicitDefEqProofs only [↓Ev.xStp_eq, ↓Ev.P, Ev.Q, eq_self, forall_eq_or_imp, implies_true, forall_const, forall_eq, ↓reduceIte, reduceIte, Nat.reduceEqDiff, Nat.reduceAdd, reduceCtorEq, Nat.reduceSub, Int.reduceToNat, Int.reduceLE, Int.reduceLT, Int.reduceNeg, Nat.reduceBEq, Nat.reduceMul, Nat.reduceLeDiff, Nat.reduceMod, UInt8.reduceOfNat, Nat.reduceLT, Int.reduceEq, Int.reduceAdd, Int.reduceSub, Int.reduceMul]) ⟨i + 1, out ++ [q.getD i 0], rfl, by omega, by omega, by simp; omega, at_plain hl hu h hp, ?_⟩
      simp -dsimp -implicitDefEqProofs only [↓Ev.xStp_eq, ↓Ev.P, Ev.Q, eq_self, forall_eq_or_imp, implies_true, forall_const, forall_eq, ↓reduceIte, reduceIte, Nat.reduceEqDiff, Nat.reduceAdd, reduceCtorEq, Nat.reduceSub, Int.reduceToNat, Int.reduceLE, Int.reduceLT, Int.reduceNeg, Nat.reduceBEq, Nat.reduceMul, Nat.reduceLeDiff, Nat.reduceMod, UInt8.reduceOfNat, Nat.reduceLT, Int.reduceEq, Int.reduceAdd, Int.reduceSub, Int.reduceMul]
      simp [byteRows]
    · rename_i hl h hp hk
      obtain ⟨k1, k2⟩ := at_oct hl hu h hp hk
      obtain ⟨⟨⟨⟨_, h2⟩, _⟩, _⟩, _⟩ := hk
      refine xAgain_intro (q.length - (i + 3)) [2] (by omega) (by simp -dsimp -implicitDefEqProofs only [↓Ev.xStp_eq, ↓Ev.P, Ev.Q, eq_self, forall_eq_or_imp, implies_true, forall_const, forall_eq, ↓reduceIte, reduceIte, Nat.reduceEqDiff, Nat.reduceAdd, reduceCtorEq, Nat.reduceSub, Int.reduceToNat, Int.reduceLE, Int.reduceLT, Int.reduceNeg, Nat.reduceBEq, Nat.reduceMul, Nat.reduceLeDiff, Nat.reduceMod, UInt8.reduceOfNat, Nat.reduceLT, Int.reduceEq, Int.reduceAdd, Int.reduceSub, Int.reduceMul]) ⟨i + 3, _, rfl, by omega, by omega, ?_, k1, ?_⟩
      · simp; omega
      · simp -dsimp -implicitDefEqProofs only [↓Ev.xStp_eq, ↓Ev.P, Ev.Q, eq_self, forall_eq_or_imp, implies_true, forall_const, forall_eq, ↓reduceIte, reduceIte, Nat.reduceEqDiff, Nat.reduceAdd, reduceCtorEq, Nat.reduceSub, Int.reduceToNat, Int.reduceLE, Int.reduceLT, Int.reduceNeg, Nat.reduceBEq, Nat.reduceMul, Nat.reduceLeDiff, Nat.reduceMod, UInt8.reduceOfNat, Nat.reduceLT, Int.reduceEq, Int.reduceAdd, Int.reduceSub, Int.reduceMul]
        simp only [byteRows, List.map_append, List.map_cons, List.map_nil, k2]
        simp only [octR]
        rfl
    · rename_i hl h hp hk
      refine bad (at_bad hl hu h hp fun h => ?_)
      obtain ⟨⟨⟨⟨h1, h2⟩, h3⟩, h4⟩, h5⟩ := h
      rcases hk with (((hk | hk) | hk) | hk) | hk
      · exact hk h1
      · exact hk h2
      · exact hk h3
      · exact hk h4
      · rw [octR] at h5; rw [h5] at hk; cases hk
    · refine bad ?_
      rw [← hu, List.drop_of_length_le (by omega), unq]
end Go.Proofs.YtpbkdcfjlbdgfaaDoor
/- (*strings.Builder).WriteByte. -/
set_option linter.unusedVariables false
set_option linter.unusedSimpArgs false
namespace Go.Proofs.YtpbkdcfjlbdgfaaDoor
open Go Go.Ev Go.RowKit
theorem ubyte : Tryd.prog.underlying 68 = some (.slice 5) := by kernel_rfl
theorem infB : (Tryd.prog.info? 5).map (fun i => (i.zero, i.size, i.bytes)) = some (some (.int .u8 0), 1, 1) := by kernel_rfl
set_option maxHeartbeats 2000000 in
set_option maxRecDepth 100000 in
theorem wb_at {t b : Nat} {p v : Value} {bs : List UInt8} (ht : bldT t = true) {w : World} (h : BldAt w t 5 b p v bs) (c : Int) (hc0 : 0 ≤ c) (hc1 : c < 256) (hlen : bs.length + 1 ≤ 140737488355328) :
    Calls Tryd.prog 88 #[.pointer (some ⟨b, 0, none⟩), .int .u8 c] w fun e w' => e = .returned .nilIface ∧ BldTo w w' t 5 b v (bs ++ [UInt8.ofNat c.toNat]) := by
  obtain ⟨i0, hi, hz0, hz1, hz2⟩ := info_parts infB
  go_enter Tryd.func88, Tryd.ntmps88
  go_wp2_with (go_at_call 94; refine (cc_at ht h).mono ?_)
  rintro e w1 ⟨rfl, hb1, h1⟩
  have c0 : w1.cell? ⟨b, 0, none⟩ = some (.pointer (some ⟨b, 0, none⟩)) := by rw [Lib.cell_of_heap h1.blk]; rfl
  have c1 : w1.cell? ⟨b, 1, none⟩ = some v := by rw [Lib.cell_of_heap h1.blk]; rfl
  go_wp2_with (at_builtin; refine wpList_app (t := 68) rfl rfl ubyte hi hz0 hz1 hz2 rfl (h1.own.alloc _) (A := some ⟨w1.heap.size, 0, none⟩) (k := 1) (cap := 1) rfl (news := [.int .u8 c]) rfl ?c1 ?c2 ?c4 ?_)
  case c1 =>
    intro j u hj
    match j, hj with
    | 0, hj => simp at hj; subst hj; exact ⟨_, rfl, by simp [Addr.add]⟩
  case c2 => intro u hu; simp at hu; subst hu; rfl
  case c4 => omega
  intro v' w2 hown' hgrow hv
  have hlt : b < w1.heap.size := (Array.getElem?_eq_some_iff.1 h1.blk).1
  have hb2 : w2.heap[b]? = some (.cells #[.pointer (some ⟨b, 0, none⟩), v] t (0, 0)) := by
    rw [hgrow.block b (by simp; omega) (fun e => h1.ne e.symm), Lib.alloc_old w1 _ b hlt]
    exact h1.blk
  have d0 : w2.cell? ⟨b, 0, none⟩ = some (.pointer (some ⟨b, 0, none⟩)) := by rw [Lib.cell_of_heap hb2]; rfl
  have d1 : w2.cell? ⟨b, 1, none⟩ = some v := by rw [Lib.cell_of_heap hb2]; rfl
  have f1 : w2.frozen? ⟨b, 1, none⟩ = false := Lib.frozen_of_heap hb2 1
  have hfin := BldAt.wrote (hb1.alloc _) (h1.alloc _) (bs' := bs ++ [UInt8.ofNat c.toNat]) (by rw [byteVals_snoc _ _ hc0 hc1]; simpa using hown') hgrow (by simpa using hv)
  obtain ⟨g, cap, rfl⟩ : ∃ g cap, v' = .slice (some ⟨g, 0, none⟩) (bs.length + 1) cap := by
    rcases hown'.2 with ⟨_, h0⟩ | ⟨g, cap, cur, hv, _⟩
    · omega
    · exact ⟨g, cap, hv⟩
  go_wp2
  go_ret
  exact ⟨rfl, hfin⟩
/-- A byte is written. -/
def gWB : List SV → Nat → Nat → List UInt8 → Option (Prop × SV × List UInt8)
  | [.d (.v (.int .u8 c))], t, u, bs => if bldT t = true ∧ u = 5 then some ((0 ≤ c ∧ c < 256) ∧ bs.length + 1 ≤ 140737488355328, .d (.v .nilIface), bs ++ [UInt8.ofNat c.toNat]) else none
  | _, _, _, _ => none
theorem sWB {G : World → Prop} : Sound G Tryd.prog 88 (bldC gWB) := by
  refine bld_sound ⟨Tryd.f88, by kernel_rfl, by kernel_rfl, by kernel_rfl⟩ ?_
  intro args t u bs p x bs' hg hp w b q v hb c m vs hc ha
  unfold gWB at hg
  split at hg
  · obtain ⟨⟨h1, rfl⟩, hg2⟩ := Option.ite_none_right_eq_some.1 hg
    simp only [Option.some.injEq, Prod.mk.injEq] at hg2
    obtain ⟨rfl, rfl, rfl⟩ := hg2
    match vs, ha with
    | [y], ha =>
      simp only [CnL, and_true] at ha
      rw [of_v ha]
      exact ⟨_, fun _ _ _ => ⟨rfl, rfl⟩, wb_at h1 hb _ hp.1.1 hp.1.2 hp.2⟩
    | [], ha => simp [CnL] at ha
    | _ :: _ :: _, ha => simp [CnL] at ha
  · simp only [reduceCtorEq] at hg
end Go.Proofs.YtpbkdcfjlbdgfaaDoor
/- (*strings.Builder).Write. -/
set_option linter.unusedVariables false
set_option linter.unusedSimpArgs false
namespace Go.Proofs.YtpbkdcfjlbdgfaaDoor
open Go Go.Ev Go.RowKit
theorem ubyte3 : Tryd.prog.underlying 68 = some (.slice 5) := by kernel_rfl
theorem infB3 : (Tryd.prog.info? 5).map (fun i => (i.zero, i.size, i.bytes)) = some (some (.int .u8 0), 1, 1) := by kernel_rfl
set_option maxHeartbeats 2000000 in
set_option maxRecDepth 100000 in
theorem ww_at {t b : Nat} {p v : Value} {bs : List UInt8} (ht : bldT t = true) {w : World} (h : BldAt w t 5 b p v bs) (A : Option Addr) (k cap : Nat) (l : List UInt8) (hl : l.length = k) (hA : ∀ j u, (byteVals l)[j]? = some u → ∃ ad, A = some ad ∧ w.cell? (ad.add j) = some u ∧ (ad.add j).block ≠ b ∧ some (ad.add j).block ≠ v.ownBlock) (hlen : bs.length + k ≤ 140737488355328) :
    Calls Tryd.prog 90 #[.pointer (some ⟨b, 0, none⟩), .slice A k cap] w fun e w' => e = .returned (.tuple #[.int .i64 k, .nilIface]) ∧ BldTo w w' t 5 b v (bs ++ l) := by
  obtain ⟨i0, hi, hz0, hz1, hz2⟩ := info_parts infB3
  go_enter Tryd.func90, Tryd.ntmps90
  go_wp2_with (go_at_call 94; refine (cc_at ht h).mono ?_)
  rintro e w1 ⟨rfl, hb1, h1⟩
  have c0 : w1.cell? ⟨b, 0, none⟩ = some (.pointer (some ⟨b, 0, none⟩)) := by rw [Lib.cell_of_heap h1.blk]; rfl
  have c1 : w1.cell? ⟨b, 1, none⟩ = some v := by rw [Lib.cell_of_heap h1.blk]; rfl
  have hA1 : ∀ j u, (byteVals l)[j]? = some u → ∃ ad, A = some ad ∧ w1.cell? (ad.add j) = some u := by
    intro j u hj
    obtain ⟨ad, e1, e2, e3, e4⟩ := hA j u hj
    exact ⟨ad, e1, by rw [World.cell?_of_block (hb1.block _ (cell_lt e2) e3 e4)]; exact e2⟩
  clear hA
  go_wp2_with (at_builtin; refine wpList_app (t := 68) rfl rfl ubyte3 hi hz0 hz1 hz2 rfl h1.own (A := A) (k := k) (cap := cap) rfl (news := byteVals l) (by rw [byteVals_len]; exact hl) hA1 ?c2 ?c4 ?_)
  case c2 => intro u hu; simp only [byteVals, List.mem_map] at hu; obtain ⟨x, _, rfl⟩ := hu; rfl
  case c4 => omega
  intro v' w2 hown' hgrow hv
  have hlt : b < w1.heap.size := (Array.getElem?_eq_some_iff.1 h1.blk).1
  have hb2 : w2.heap[b]? = some (.cells #[.pointer (some ⟨b, 0, none⟩), v] t (0, 0)) := by
    rw [hgrow.block b hlt (fun e => h1.ne e.symm)]
    exact h1.blk
  have d0 : w2.cell? ⟨b, 0, none⟩ = some (.pointer (some ⟨b, 0, none⟩)) := by rw [Lib.cell_of_heap hb2]; rfl
  have d1 : w2.cell? ⟨b, 1, none⟩ = some v := by rw [Lib.cell_of_heap hb2]; rfl
  have f1 : w2.frozen? ⟨b, 1, none⟩ = false := Lib.frozen_of_heap hb2 1
  have hfin := BldAt.wrote hb1 h1 (bs' := bs ++ l) (by rw [show byteVals (bs ++ l) = byteVals bs ++ byteVals l by simp [byteVals]]; simpa [hl] using hown') hgrow hv
  obtain ⟨ao, n', cap, rfl⟩ : ∃ ao n' cap, v' = .slice ao n' cap := by
    rcases hown'.2 with ⟨hv, _⟩ | ⟨g, cap, cur, hv, _⟩
    · exact ⟨_, _, _, hv⟩
    · exact ⟨_, _, _, hv⟩
  clear hA1
  go_wp2
  go_ret2
  exact ⟨rfl, hfin⟩
/-- Bytes are written. -/
def gWW : List SV → Nat → Nat → List UInt8 → Option (Prop × SV × List UInt8)
  | [.d (.sl rows)], t, u, bs => (bytesOf rows).bind fun l => if bldT t = true ∧ u = 5 then some (bs.length + rows.length ≤ 140737488355328 ∧ bytesIn rows, .tup [.d (.v (.int .i64 rows.length)), .d (.v .nilIface)], bs ++ l) else none
  | _, _, _, _ => none
theorem sWW {G : World → Prop} : Sound G Tryd.prog 90 (bldC gWW) := by
  refine bld_sound ⟨Tryd.f90, by kernel_rfl, by kernel_rfl, by kernel_rfl⟩ ?_
  intro args t u bs p x bs' hg hp w b q v hb c m vs hc ha
  unfold gWW at hg
  split at hg
  · obtain ⟨l, hl, hg⟩ := Option.bind_eq_some_iff.1 hg
    obtain ⟨⟨h1, rfl⟩, hg2⟩ := Option.ite_none_right_eq_some.1 hg
    simp only [Option.some.injEq, Prod.mk.injEq] at hg2
    obtain ⟨rfl, rfl, rfl⟩ := hg2
    match vs, ha with
    | [y], ha =>
      simp only [CnL, and_true] at ha
      obtain ⟨A, cap, rfl, hlc, hrows⟩ := sl_bytes hp.2 hl ha
      exact ⟨_, fun m n c => by simp only [Cn]; exact ⟨_, rfl, by simp only [CnL, Cn, and_true]; exact ⟨⟨rfl, rfl⟩, ⟨rfl, rfl⟩⟩⟩, ww_at h1 hb A _ cap l hlc (fun j u hj => by
        obtain ⟨ad, e1, e2⟩ := hrows j u hj
        exact ⟨ad, e1, hc _ _ e2⟩) hp.1⟩
    | [], ha => simp [CnL] at ha
    | _ :: _ :: _, ha => simp [CnL] at ha
  · simp only [reduceCtorEq] at hg
end Go.Proofs.YtpbkdcfjlbdgfaaDoor
set_option linter.unusedVariables false
set_option linter.unusedSimpArgs false
namespace Go.Proofs.YtpbkdcfjlbdgfaaDoor
open Go Go.Ev
set_option maxRecDepth 100000
variable {G : World → Prop}
/-- A byte in a quoted text. -/
def qb (c : UInt8) : List UInt8 := if plainB c.toNat = true then [c] else [92, hexs.getD (c.toNat / 16) 0, hexs.getD (c.toNat % 16) 0]
def quo (l : List UInt8) : List UInt8 := 34 :: l.flatMap qb ++ [34]
theorem qb_len (c : UInt8) : (qb c).length ≤ 3 := by unfold qb; split <;> simp
theorem quo_len (l : List UInt8) : (quo l).length ≤ 3 * l.length + 2 := by
  unfold quo
  have : ∀ l : List UInt8, (l.flatMap qb).length ≤ 3 * l.length := by
    intro l
    induction l with
    | nil => simp
    | cons c r ih => have := qb_len c; simp only [List.flatMap_cons, List.length_append, List.length_cons]; omega
  have := this l
  simp only [List.length_append, List.length_cons, List.length_nil]; omega
def C39 : Contract := pureC fun args => match args with
  | [.d (.v (.string s))] => some (s.size ≤ 1099511627776, .d (.v (str (quo s.data.toList))))
  | _ => none
theorem take_snoc (l : List UInt8) (i : Nat) (h : i < l.length) : l.take (i + 1) = l.take i ++ [l.getD i 0] := by
  rw [List.take_succ_eq_append_getElem h]
  simp [List.getD_eq_getElem?_getD, List.getElem?_eq_getElem h]
theorem nib_hi (c : UInt8) : ((c.toNat : Nat) : Int).fdiv (2 ^ min 4 IntKind.u8.bits) = ((c.toNat / 16 : Nat) : Int) := by
  have : ∀ n : Fin 256, ((n.val : Nat) : Int).fdiv (2 ^ min 4 IntKind.u8.bits) = ((n.val / 16 : Nat) : Int) := by decide +kernel
  exact this ⟨c.toNat, c.toNat_lt⟩
theorem nib_lo (c : UInt8) : IntKind.u8.wrap ((BitVec.ofInt IntKind.u8.bits ((c.toNat : Nat) : Int) &&& BitVec.ofInt IntKind.u8.bits 15).toNat : Int) = ((c.toNat % 16 : Nat) : Int) := by
  have : ∀ n : Fin 256, IntKind.u8.wrap ((BitVec.ofInt IntKind.u8.bits ((n.val : Nat) : Int) &&& BitVec.ofInt IntKind.u8.bits 15).toNat : Int) = ((n.val % 16 : Nat) : Int) := by decide +kernel
  exact this ⟨c.toNat, c.toNat_lt⟩
theorem flat_len (q : List UInt8) (i : Nat) : ((q.take i).flatMap qb).length ≤ 3 * q.length := by
  have h := quo_len (q.take i)
  unfold quo at h
  simp only [List.length_append, List.length_cons, List.length_nil, List.length_take] at h
  omega
theorem flat_snoc (q : List UInt8) (i : Nat) (h : i < q.length) : (q.take (i + 1)).flatMap qb = (q.take i).flatMap qb ++ qb (q.getD i 0) := by
  rw [take_snoc q i h, List.flatMap_append]; simp
theorem s39 : Sound G Tryd.prog 39 C39 := by
  refine sd39 (T := tabT [(89, C89), (88, bldC gWB), (90, bldC gWW), (45, strC 5)]) (tab_cons s89 (tab_cons sWB (tab_cons sWW (tab_cons sST tab_nil)))) (pureC_lawful _) (pure_hX fun args p x K h hp hk => ?_)
  split at h <;> simp only [Option.some.injEq, Prod.mk.injEq, reduceCtorEq] at h
  obtain ⟨rfl, rfl⟩ := h
  refine ⟨Nat.le_of_ble_eq_true rfl, ?_⟩
  rename_i s
  obtain ⟨q, rfl⟩ := ex_str s
  simp only [sem_str] at hk hp
  simp -dsimp -implicitDefEqProofs only [S39, R39, C89, gWB, gWW, bldT, ↓Ev.xStp_eq, ↓Ev.P, Ev.Q, eq_self, forall_eq_or_imp, implies_true, forall_const, forall_eq, ↓reduceIte, reduceIte, Nat.reduceEqDiff, Nat.reduceAdd, reduceCtorEq, Nat.reduceSub, Int.reduceToNat, Int.reduceLE, Int.reduceLT, Int.reduceNeg, Nat.reduceBEq, Nat.reduceMul, Nat.reduceLeDiff, Nat.reduceMod, UInt8.reduceOfNat, Nat.reduceLT, Int.reduceEq, Int.reduceAdd, Int.reduceSub, Int.reduceMul]
  refine xLoop_intro (fun n st => ∃ i : Nat, i ≤ q.length ∧ n = q.length - i ∧ 
      st = ⟨[(0, .d (.v (.string ⟨q.toArray⟩))), (3, .ptr 0 0), (8, .d (.v (.int .i64 q.length))), (9, .d (.v (.int .i64 i)))], 1, [(0, .bld 70 5 (34 :: (q.take i).flatMap qb))]⟩) q.length [0] ?_ ?_ ?_
  · simp -dsimp -implicitDefEqProofs only [↓Ev.xStp_eq, ↓Ev.P, Ev.Q, eq_self, forall_eq_or_imp, implies_true, forall_const, forall_eq, ↓reduceIte, reduceIte, Nat.reduceEqDiff, Nat.reduceAdd, reduceCtorEq, Nat.reduceSub, Int.reduceToNat, Int.reduceLE, Int.reduceLT, Int.reduceNeg, Nat.reduceBEq, Nat.reduceMul, Nat.reduceLeDiff, Nat.reduceMod, UInt8.reduceOfNat, Nat.reduceLT, Int.reduceEq, Int.reduceAdd, Int.reduceSub, Int.reduceMul]
  · simp -dsimp -implicitDefEqProofs only [↓Ev.xStp_eq, ↓Ev.P, Ev.Q, eq_self, forall_eq_or_imp, implies_true, forall_const, forall_eq, ↓reduceIte, reduceIte, Nat.reduceEqDiff, Nat.reduceAdd, reduceCtorEq, Nat.reduceSub, Int.reduceToNat, Int.reduceLE, Int.reduceLT, Int.reduceNeg, Nat.reduceBEq, Nat.reduceMul, Nat.reduceLeDiff, Nat.reduceMod, UInt8.reduceOfNat, Nat.reduceLT, Int.reduceEq, Int.reduceAdd, Int.reduceSub, Int.reduceMul]
    refine ⟨0, by omega, by omega, rfl⟩
  · rintro n st ⟨i, hi, hn, rfl⟩
    have hf := flat_len q i
    have hb := (q.getD i 0).toNat_lt
    simp -dsimp -implicitDefEqProofs only [C89, gWB, gWW, bldT, nib_hi, nib_lo, ↓Ev.xStp_eq, ↓Ev.P, Ev.Q, eq_self, forall_eq_or_imp, implies_true, forall_const, forall_eq, ↓reduceIte, reduceIte, Nat.reduceEqDiff, Nat.reduceAdd, reduceCtorEq, Nat.reduceSub, Int.reduceToNat, Int.reduceLE, Int.reduceLT, Int.reduceNeg, Nat.reduceBEq, Nat.reduceMul, Nat.reduceLeDiff, Nat.reduceMod, UInt8.reduceOfNat, Nat.reduceLT, Int.reduceEq, Int.reduceAdd, Int.reduceSub, Int.reduceMul]
    repeat' (first | refine And.intro ?_ ?_ | intro _)
    all_goals try omega
    · rename_i hl hp
      refine xAgain_intro (q.length - (i + 1)) [0] (by omega) (by simp -dsimp -implicitDefEqProofs only [↓Ev.xStp_eq, ↓Ev.P, Ev.Q, eq_self, forall_eq_or_imp, implies_true, forall_const, forall_eq, ↓reduceIte, reduceIte, Nat.reduceEqDiff, Nat.reduceAdd, reduceCtorEq, Nat.reduceSub, Int.reduceToNat, Int.reduceLE, Int.reduceLT, Int.reduceNeg, Nat.reduceBEq, Nat.reduceMul, Nat.reduceLeDiff, Nat.reduceMod, UInt8.reduceOfNat, Nat.reduceLT, Int.reduceEq, Int.reduceAdd, Int.reduceSub, Int.reduceMul]) ⟨i + 1, by omega, rfl, ?_⟩
      rw [flat_snoc q i (by omega), qb, if_pos hp]
      simp -dsimp -implicitDefEqProofs only [↓Ev.xStp_eq, ↓Ev.P, Ev.Q, eq_self, forall_eq_or_imp, implies_true, forall_const, forall_eq, ↓reduceIte, reduceIte, Nat.reduceEqDiff, Nat.reduceAdd, reduceCtorEq, Nat.reduceSub, Int.reduceToNat, Int.reduceLE, Int.reduceLT, Int.reduceNeg, Nat.reduceBEq, Nat.reduceMul, Nat.reduceLeDiff, Nat.reduceMod, UInt8.reduceOfNat, Nat.reduceLT, Int.reduceEq, Int.reduceAdd, Int.reduceSub, Int.reduceMul]
      simp
    · rename_i hl hp
      refine xAgain_intro (q.length - (i + 1)) [0] (by omega) (by simp -dsimp -implicitDefEqProofs only [↓Ev.xStp_eq, ↓Ev.P, Ev.Q, eq_self, forall_eq_or_imp, implies_true, forall_const, forall_eq, ↓reduceIte, reduceIte, Nat.reduceEqDiff, Nat.reduceAdd, reduceCtorEq, Nat.reduceSub, Int.reduceToNat, Int.reduceLE, Int.reduceLT, Int.reduceNeg, Nat.reduceBEq, Nat.reduceMul, Nat.reduceLeDiff, Nat.reduceMod, UInt8.reduceOfNat, Nat.reduceLT, Int.reduceEq, Int.reduceAdd, Int.reduceSub, Int.reduceMul]) ⟨i + 1, by omega, rfl, ?_⟩
      rw [flat_snoc q i (by omega), qb, if_neg (by rw [hp]; exact Bool.false_ne_true)]
      simp -dsimp -implicitDefEqProofs only [↓Ev.xStp_eq, ↓Ev.P, Ev.Q, eq_self, forall_eq_or_imp, implies_true, forall_const, forall_eq, ↓reduceIte, reduceIte, Nat.reduceEqDiff, Nat.reduceAdd, reduceCtorEq, Nat.reduceSub, Int.reduceToNat, Int.reduceLE, Int.reduceLT, Int.reduceNeg, Nat.reduceBEq, Nat.reduceMul, Nat.reduceLeDiff, Nat.reduceMod, UInt8.reduceOfNat, Nat.reduceLT, Int.reduceEq, Int.reduceAdd, Int.reduceSub, Int.reduceMul]
      simp
    · rename_i hl
      rw [List.take_of_length_le (by omega)]
      exact hk
end Go.Proofs.YtpbkdcfjlbdgfaaDoor
set_option linter.unusedVariables false
set_option linter.unusedSimpArgs false
namespace Go.Proofs.YtpbkdcfjlbdgfaaDoor
open Go Go.Ev
set_option maxRecDepth 100000
variable {G : World → Prop}
theorem quo16 (c : UInt8) : IntKind.u8.wrap (((c.toNat : Nat) : Int).tdiv 16) = ((c.toNat / 16 : Nat) : Int) := by
  have : ∀ n : Fin 256, IntKind.u8.wrap (((n.val : Nat) : Int).tdiv 16) = ((n.val / 16 : Nat) : Int) := by decide +kernel
  exact this ⟨c.toNat, c.toNat_lt⟩
theorem rem16 (c : UInt8) : ((c.toNat : Nat) : Int).tmod 16 = ((c.toNat % 16 : Nat) : Int) := by
  have : ∀ n : Fin 256, ((n.val : Nat) : Int).tmod 16 = ((n.val % 16 : Nat) : Int) := by decide +kernel
  exact this ⟨c.toNat, c.toNat_lt⟩
theorem s121 : Sound G Tryd.prog 121 C39 := by
  refine sd121 (T := tabT [(104, C89)]) (tab_cons s104 tab_nil) (pureC_lawful _) (pure_hX fun args p x K h hp hk => ?_)
  split at h <;> simp only [Option.some.injEq, Prod.mk.injEq, reduceCtorEq] at h
  obtain ⟨rfl, rfl⟩ := h
  refine ⟨Nat.le_of_ble_eq_true rfl, ?_⟩
  rename_i s
  obtain ⟨q, rfl⟩ := ex_str s
  simp only [sem_str] at hk hp
  simp -dsimp -implicitDefEqProofs only [S121, R121, C89, ↓Ev.xStp_eq, ↓Ev.P, Ev.Q, eq_self, forall_eq_or_imp, implies_true, forall_const, forall_eq, ↓reduceIte, reduceIte, Nat.reduceEqDiff, Nat.reduceAdd, reduceCtorEq, Nat.reduceSub, Int.reduceToNat, Int.reduceLE, Int.reduceLT, Int.reduceNeg, Nat.reduceBEq, Nat.reduceMul, Nat.reduceLeDiff, Nat.reduceMod, UInt8.reduceOfNat, Nat.reduceLT, Int.reduceEq, Int.reduceAdd, Int.reduceSub, Int.reduceMul]
  refine xLoop_intro (fun n st => ∃ i : Nat, i ≤ q.length ∧ n = q.length - i ∧ 
      st = ⟨[(0, .d (.v (.string ⟨q.toArray⟩))), (3, .own 0), (4, .d (.v (.int .i64 i)))], 1, [(0, .row 5 1 (byteRows (34 :: (q.take i).flatMap qb)))]⟩) q.length [0] ?_ ?_ ?_
  · simp -dsimp -implicitDefEqProofs only [↓Ev.xStp_eq, ↓Ev.P, Ev.Q, eq_self, forall_eq_or_imp, implies_true, forall_const, forall_eq, ↓reduceIte, reduceIte, Nat.reduceEqDiff, Nat.reduceAdd, reduceCtorEq, Nat.reduceSub, Int.reduceToNat, Int.reduceLE, Int.reduceLT, Int.reduceNeg, Nat.reduceBEq, Nat.reduceMul, Nat.reduceLeDiff, Nat.reduceMod, UInt8.reduceOfNat, Nat.reduceLT, Int.reduceEq, Int.reduceAdd, Int.reduceSub, Int.reduceMul]
  · simp -dsimp -implicitDefEqProofs only [↓Ev.xStp_eq, ↓Ev.P, Ev.Q, eq_self, forall_eq_or_imp, implies_true, forall_const, forall_eq, ↓reduceIte, reduceIte, Nat.reduceEqDiff, Nat.reduceAdd, reduceCtorEq, Nat.reduceSub, Int.reduceToNat, Int.reduceLE, Int.reduceLT, Int.reduceNeg, Nat.reduceBEq, Nat.reduceMul, Nat.reduceLeDiff, Nat.reduceMod, UInt8.reduceOfNat, Nat.reduceLT, Int.reduceEq, Int.reduceAdd, Int.reduceSub, Int.reduceMul]
    refine ⟨0, by omega, by omega, rfl⟩
  · rintro n st ⟨i, hi, hn, rfl⟩
    have hf := flat_len q i
    have hb := (q.getD i 0).toNat_lt
    simp -dsimp -implicitDefEqProofs only [C89, quo16, rem16, ↓Ev.xStp_eq, ↓Ev.P, Ev.Q, eq_self, forall_eq_or_imp, implies_true, forall_const, forall_eq, ↓reduceIte, reduceIte, Nat.reduceEqDiff, Nat.reduceAdd, reduceCtorEq, Nat.reduceSub, Int.reduceToNat, Int.reduceLE, Int.reduceLT, Int.reduceNeg, Nat.reduceBEq, Nat.reduceMul, Nat.reduceLeDiff, Nat.reduceMod, UInt8.reduceOfNat, Nat.reduceLT, Int.reduceEq, Int.reduceAdd, Int.reduceSub, Int.reduceMul]
    repeat' (first | refine And.intro ?_ ?_ | intro _)
    all_goals try omega
    · rename_i hl hp
      refine xAgain_intro (q.length - (i + 1)) [2] (by omega) (by simp -dsimp -implicitDefEqProofs only [↓Ev.xStp_eq, ↓Ev.P, Ev.Q, eq_self, forall_eq_or_imp, implies_true, forall_const, forall_eq, ↓reduceIte, reduceIte, Nat.reduceEqDiff, Nat.reduceAdd, reduceCtorEq, Nat.reduceSub, Int.reduceToNat, Int.reduceLE, Int.reduceLT, Int.reduceNeg, Nat.reduceBEq, Nat.reduceMul, Nat.reduceLeDiff, Nat.reduceMod, UInt8.reduceOfNat, Nat.reduceLT, Int.reduceEq, Int.reduceAdd, Int.reduceSub, Int.reduceMul]) ⟨i + 1, by omega, rfl, ?_⟩
      rw [flat_snoc q i (by omega), qb, if_pos hp]
      simp -dsimp -implicitDefEqProofs only [↓Ev.xStp_eq, ↓Ev.P, Ev.Q, eq_self, forall_eq_or_imp, implies_true, forall_const, forall_eq, ↓reduceIte, reduceIte, Nat.reduceEqDiff, Nat.reduceAdd, reduceCtorEq, Nat.reduceSub, Int.reduceToNat, Int.reduceLE, Int.reduceLT, Int.reduceNeg, Nat.reduceBEq, Nat.reduceMul, Nat.reduceLeDiff, Nat.reduceMod, UInt8.reduceOfNat, Nat.reduceLT, Int.reduceEq, Int.reduceAdd, Int.reduceSub, Int.reduceMul]
      simp [byteRows]
    · rename_i hl hp
      refine xAgain_intro (q.length - (i + 1)) [2] (by omega) (by simp -dsimp -implicitDefEqProofs only [↓Ev.xStp_eq, ↓Ev.P, Ev.Q, eq_self, forall_eq_or_imp, implies_true, forall_const, forall_eq, ↓reduceIte, reduceIte, Nat.reduceEqDiff, Nat.reduceAdd, reduceCtorEq, Nat.reduceSub, Int.reduceToNat, Int.reduceLE, Int.reduceLT, Int.reduceNeg, Nat.reduceBEq, Nat.reduceMul, Nat.reduceLeDiff, Nat.reduceMod, UInt8.reduceOfNat, Nat.reduceLT, Int.reduceEq, Int.reduceAdd, Int.reduceSub, Int.reduceMul]) ⟨i + 1, by omega, rfl, ?_⟩
      rw [flat_snoc q i (by omega), qb, if_neg (by rw [hp]; exact Bool.false_ne_true)]
      simp -dsimp -implicitDefEqProofs only [↓Ev.xStp_eq, ↓Ev.P, Ev.Q, eq_self, forall_eq_or_imp, implies_true, forall_const, forall_eq, ↓reduceIte, reduceIte, Nat.reduceEqDiff, Nat.reduceAdd, reduceCtorEq, Nat.reduceSub, Int.reduceToNat, Int.reduceLE, Int.reduceLT, Int.reduceNeg, Nat.reduceBEq, Nat.reduceMul, Nat.reduceLeDiff, Nat.reduceMod, UInt8.reduceOfNat, Nat.reduceLT, Int.reduceEq, Int.reduceAdd, Int.reduceSub, Int.reduceMul]
      simp [byteRows]
    · rename_i hl
      rw [List.take_of_length_le (by omega)]
      exact hk
end Go.Proofs.YtpbkdcfjlbdgfaaDoor
set_option linter.unusedVariables false
set_option linter.unusedSimpArgs false
namespace Go.Proofs.YtpbkdcfjlbdgfaaDoor
open Go Go.Ev
set_option maxRecDepth 100000
variable {G : World → Prop}
def oddB (c : UInt8) : Bool := decide ((c.toNat : Int) < 33) || decide (126 < (c.toNat : Int)) || decide ((c.toNat : Int) = 34)
abbrev nowh : List UInt8 := [47, 100, 101, 118, 47, 110, 117, 108, 108]
/-- A name as it stands in a patch. -/
def nameS (l : List UInt8) : List UInt8 := if l = [] then nowh else if l = nowh ∨ l.any oddB = true then quo l else l
/-- The name that stands in a patch, unasked. -/
def decS (l : List UInt8) : List UInt8 := if l = nowh then [] else match l with
  | 34 :: _ => ((unqL l).map (·.1)).getD []
  | _ => l
def namedS (l : List UInt8) : List UInt8 × Int := if 64 < (decS l).length ∨ nameS (decS l) ≠ l then ([], 253) else (decS l, 0)
theorem oct_all (c : UInt8) (h : plainB c.toNat = false) : oct2 (hexs.getD (c.toNat / 16) 0 :: hexs.getD (c.toNat % 16) 0 :: []) = ((c.toNat : Int), true) := by
  have : ∀ n : Fin 256, plainB ((n.val : Nat) : Int) = false → oct2 (hexs.getD (n.val / 16) 0 :: hexs.getD (n.val % 16) 0 :: []) = (((n.val : Nat) : Int), true) := by decide +kernel
  exact this ⟨c.toNat, c.toNat_lt⟩ h
theorem oct_more (a b : UInt8) (r : List UInt8) : oct2 (a :: b :: r) = oct2 (a :: b :: []) := rfl
/-- What was quoted is read again. -/
theorem unq_quo : ∀ (l out rest : List UInt8), unq (l.flatMap qb ++ 34 :: rest) out = some (out ++ l, rest)
  | [], out, rest => by simp [unq_end]
  | c :: l, out, rest => by
    have ih := unq_quo l (out ++ [c]) rest
    simp only [List.flatMap_cons]
    by_cases hp : plainB c.toNat = true
    · have e : qb c = [c] := by unfold qb; rw [if_pos hp]
      have h34 : c ≠ 34 := by rintro rfl; revert hp; decide
      rw [e, List.cons_append, List.cons_append, List.nil_append, unq_plain _ _ h34 hp, ih]
      simp
    · have e : qb c = [92, hexs.getD (c.toNat / 16) 0, hexs.getD (c.toNat % 16) 0] := by unfold qb; rw [if_neg hp]
      have hp' : plainB c.toNat = false := by simpa using hp
      have h2 := oct_all c hp'
      have h3 := unq_oct (hexs.getD (c.toNat / 16) 0 :: hexs.getD (c.toNat % 16) 0 :: (l.flatMap qb ++ 34 :: rest)) out (by rw [oct_more, h2])
      rw [e]
      simp only [List.cons_append, List.nil_append]
      rw [h3.2.1, oct_more, h2]
      simp only [List.drop_succ_cons, List.drop_zero, Int.toNat_natCast, UInt8.ofNat_toNat]
      rw [ih]; simp
theorem unqL_quo (l rest : List UInt8) : unqL (quo l ++ rest) = some (l, rest) := by
  show unqL (34 :: (l.flatMap qb ++ [34]) ++ rest) = _
  rw [List.cons_append, unqL, List.append_assoc]
  exact unq_quo l [] rest
theorem unq_len : ∀ (n : Nat) (l out o r : List UInt8), l.length ≤ n → unq l out = some (o, r) → o.length ≤ out.length + l.length
  | n, [], out, o, r, hn, h => by rw [unq] at h; cases h
  | 0, c :: l, out, o, r, hn, h => by simp at hn
  | n + 1, c :: l, out, o, r, hn, h => by
    simp only [List.length_cons] at hn ⊢
    rw [unq] at h
    split at h
    · simp only [Option.some.injEq, Prod.mk.injEq] at h; obtain ⟨rfl, _⟩ := h; omega
    · split at h
      · have := unq_len n l _ o r (by omega) h
        simp only [List.length_append, List.length_cons, List.length_nil] at this; omega
      · split at h
        · have := unq_len n (l.drop 2) _ o r (by simp; omega) h
          simp only [List.length_append, List.length_cons, List.length_nil, List.length_drop] at this; omega
        · cases h
theorem unqL_len {l o r : List UInt8} (h : unqL l = some (o, r)) : o.length ≤ l.length := by
  unfold unqL at h
  split at h
  · have := unq_len _ _ _ _ _ (Nat.le_refl _) h; simp at this ⊢; omega
  · cases h
theorem decS_len (l : List UInt8) : (decS l).length ≤ l.length := by
  unfold decS
  split
  · simp
  · split
    · cases h : unqL (34 :: _) with
      | none => simp
      | some z => obtain ⟨o, r⟩ := z; simpa using unqL_len h
    · exact Nat.le_refl _
theorem nameS_len (l : List UInt8) : (nameS l).length ≤ 3 * l.length + 9 := by
  unfold nameS
  split
  · simp
  · split
    · have := quo_len l; omega
    · omega
theorem odd34 {l : List UInt8} (h : l.any oddB = false) : ∀ r, l ≠ 34 :: r := by
  rintro r rfl
  simp [oddB] at h
theorem dec_name (l : List UInt8) : decS (nameS l) = l := by
  unfold nameS
  split
  · rename_i h; subst h; simp [decS]
  · rename_i h0
    split
    · have hq : quo l = 34 :: (l.flatMap qb ++ [34]) := rfl
      have hu := unqL_quo l []
      rw [List.append_nil] at hu
      unfold decS
      rw [if_neg (by rw [hq]; simp)]
      rw [hq] at hu ⊢
      simp only [hu]; rfl
    · rename_i h
      have h1 : l ≠ nowh := fun e => h (.inl e)
      have h2 : l.any oddB = false := by simpa using fun e => h (.inr e)
      unfold decS
      rw [if_neg h1]
      split
      · rename_i r; exact absurd rfl (odd34 h2 r)
      · rfl
/-- Where quoted text is followed by more, it is not the name that it says. -/
theorem named_more {l o r : List UInt8} (h : unqL l = some (o, r)) (hr : r ≠ []) : nameS o ≠ l := by
  intro e
  have h34 : ∃ m, l = 34 :: m := by unfold unqL at h; split at h; exact ⟨_, rfl⟩; cases h
  obtain ⟨m, rfl⟩ := h34
  unfold nameS at e
  split at e
  · cases e
  · split at e
    · rw [← e] at h
      have := unqL_quo o []
      rw [List.append_nil, h] at this
      simp at this
      exact hr this
    · rename_i h2
      have h3 : o.any oddB = false := by simpa using fun e => h2 (.inr e)
      exact odd34 h3 m e
theorem named_bad {l : List UInt8} (h : unqL l = none) {m : List UInt8} (hl : l = 34 :: m) : nameS (decS l) ≠ l := by
  subst hl
  unfold decS
  rw [if_neg (by simp)]
  simp only [h]
  simp [nameS]
theorem named_name (l : List UInt8) : namedS (nameS l) = if 64 < l.length then ([], 253) else (l, 0) := by
  unfold namedS
  rw [dec_name]
  simp
end Go.Proofs.YtpbkdcfjlbdgfaaDoor
set_option linter.unusedVariables false
set_option linter.unusedSimpArgs false
namespace Go.Proofs.YtpbkdcfjlbdgfaaDoor
open Go Go.Ev
set_option maxRecDepth 100000
variable {G : World → Prop}
def C63 : Contract := pureC fun args => match args with
  | [.d (.v (.string s))] => some (s.size ≤ 1099511627776, .d (.v (str (nameS s.data.toList))))
  | _ => none
theorem any_snoc (q : List UInt8) (i : Nat) (h : i < q.length) : (q.take (i + 1)).any oddB = ((q.take i).any oddB || oddB (q.getD i 0)) := by
  rw [take_snoc q i h]; simp
theorem any_out (q : List UInt8) (i : Nat) (h : i < q.length) (h2 : oddB (q.getD i 0) = true) : q.any oddB = true := by
  rw [List.any_eq_true]
  refine ⟨q.getD i 0, ?_, h2⟩
  rw [List.getD_eq_getElem?_getD, List.getElem?_eq_getElem h]
  simp
theorem s63 : Sound G Tryd.prog 63 C63 := by
  refine sd63 (T := tabT [(39, C39)]) (tab_cons s39 tab_nil) (pureC_lawful _) (pure_hX fun args p x K h hp hk => ?_)
  split at h <;> simp only [Option.some.injEq, Prod.mk.injEq, reduceCtorEq] at h
  obtain ⟨rfl, rfl⟩ := h
  refine ⟨Nat.le_of_ble_eq_true rfl, ?_⟩
  rename_i s
  obtain ⟨q, rfl⟩ := ex_str s
  simp only [sem_str] at hk hp
  simp -dsimp -implicitDefEqProofs only [S63, R63, C39, ↓Ev.xStp_eq, ↓Ev.P, Ev.Q, eq_self, forall_eq_or_imp, implies_true, forall_const, forall_eq, ↓reduceIte, reduceIte, Nat.reduceEqDiff, Nat.reduceAdd, reduceCtorEq, Nat.reduceSub, Int.reduceToNat, Int.reduceLE, Int.reduceLT, Int.reduceNeg, Nat.reduceBEq, Nat.reduceMul, Nat.reduceLeDiff, Nat.reduceMod, UInt8.reduceOfNat, Nat.reduceLT, Int.reduceEq, Int.reduceAdd, Int.reduceSub, Int.reduceMul]
  refine xLoop_intro (fun n st => ∃ i : Nat, i ≤ q.length ∧ n = q.length - i ∧ 
      st = ⟨[(0, .d (.v (.string ⟨q.toArray⟩))), (3, .d (.v (.bool (decide (q = nowh) || (q.take i).any oddB)))), (8, .d (.v (.int .i64 q.length))), (9, .d (.v (.int .i64 i)))], 0, []⟩) q.length [] ?_ ?_ ?_
  · simp -dsimp -implicitDefEqProofs only [↓Ev.xStp_eq, ↓Ev.P, Ev.Q, eq_self, forall_eq_or_imp, implies_true, forall_const, forall_eq, ↓reduceIte, reduceIte, Nat.reduceEqDiff, Nat.reduceAdd, reduceCtorEq, Nat.reduceSub, Int.reduceToNat, Int.reduceLE, Int.reduceLT, Int.reduceNeg, Nat.reduceBEq, Nat.reduceMul, Nat.reduceLeDiff, Nat.reduceMod, UInt8.reduceOfNat, Nat.reduceLT, Int.reduceEq, Int.reduceAdd, Int.reduceSub, Int.reduceMul]
  · simp -dsimp -implicitDefEqProofs only [↓Ev.xStp_eq, ↓Ev.P, Ev.Q, eq_self, forall_eq_or_imp, implies_true, forall_const, forall_eq, ↓reduceIte, reduceIte, Nat.reduceEqDiff, Nat.reduceAdd, reduceCtorEq, Nat.reduceSub, Int.reduceToNat, Int.reduceLE, Int.reduceLT, Int.reduceNeg, Nat.reduceBEq, Nat.reduceMul, Nat.reduceLeDiff, Nat.reduceMod, UInt8.reduceOfNat, Nat.reduceLT, Int.reduceEq, Int.reduceAdd, Int.reduceSub, Int.reduceMul]
    refine ⟨0, by omega, by omega, by simp⟩
  · rintro n st ⟨i, hi, hn, rfl⟩
    simp -dsimp -implicitDefEqProofs only [C39, ↓Ev.xStp_eq, ↓Ev.P, Ev.Q, eq_self, forall_eq_or_imp, implies_true, forall_const, forall_eq, ↓reduceIte, reduceIte, Nat.reduceEqDiff, Nat.reduceAdd, reduceCtorEq, Nat.reduceSub, Int.reduceToNat, Int.reduceLE, Int.reduceLT, Int.reduceNeg, Nat.reduceBEq, Nat.reduceMul, Nat.reduceLeDiff, Nat.reduceMod, UInt8.reduceOfNat, Nat.reduceLT, Int.reduceEq, Int.reduceAdd, Int.reduceSub, Int.reduceMul]
    repeat' (first | with_reducible assumption | (with_reducible refine And.left (b := _) ?_; with_reducible assumption) | refine And.intro ?_ ?_ | intro _)
    all_goals try omega
    · rename_i hl
      refine xAgain_intro (q.length - (i + 1)) [] (by omega) (by simp -dsimp -implicitDefEqProofs only [↓Ev.xStp_eq, ↓Ev.P, Ev.Q, eq_self, forall_eq_or_imp, implies_true, forall_const, forall_eq, ↓reduceIte, reduceIte, Nat.reduceEqDiff, Nat.reduceAdd, reduceCtorEq, Nat.reduceSub, Int.reduceToNat, Int.reduceLE, Int.reduceLT, Int.reduceNeg, Nat.reduceBEq, Nat.reduceMul, Nat.reduceLeDiff, Nat.reduceMod, UInt8.reduceOfNat, Nat.reduceLT, Int.reduceEq, Int.reduceAdd, Int.reduceSub, Int.reduceMul]) ⟨i + 1, by omega, rfl, ?_⟩
      rw [any_snoc q i (by omega)]
      simp -dsimp -implicitDefEqProofs only [↓Ev.xStp_eq, ↓Ev.P, Ev.Q, eq_self, forall_eq_or_imp, implies_true, forall_const, forall_eq, ↓reduceIte, reduceIte, Nat.reduceEqDiff, Nat.reduceAdd, reduceCtorEq, Nat.reduceSub, Int.reduceToNat, Int.reduceLE, Int.reduceLT, Int.reduceNeg, Nat.reduceBEq, Nat.reduceMul, Nat.reduceLeDiff, Nat.reduceMod, UInt8.reduceOfNat, Nat.reduceLT, Int.reduceEq, Int.reduceAdd, Int.reduceSub, Int.reduceMul]
      simp [oddB, Bool.or_assoc]
    · rename_i hl h0
      have : nameS q = nowh := by rw [h0]; rfl
      rw [this] at hk; exact hk
    · rename_i hl h0 h1
      rw [List.take_of_length_le (by omega)] at h1
      have : nameS q = quo q := by rw [nameS, if_neg h0, if_pos h1]
      rw [this] at hk; exact hk
    · rename_i hl h0 h1
      rw [List.take_of_length_le (by omega)] at h1
      have : nameS q = q := by rw [nameS, if_neg h0, if_neg (by rintro (h | h); exact h1.1 h; rw [h] at h1; exact absurd h1.2 (by decide))]
      rw [this] at hk; exact hk
theorem s74 : Sound G Tryd.prog 74 C63 := by
  refine sd74 (T := tabT [(121, C39)]) (tab_cons s121 tab_nil) (pureC_lawful _) (pure_hX fun args p x K h hp hk => ?_)
  split at h <;> simp only [Option.some.injEq, Prod.mk.injEq, reduceCtorEq] at h
  obtain ⟨rfl, rfl⟩ := h
  refine ⟨Nat.le_of_ble_eq_true rfl, ?_⟩
  rename_i s
  obtain ⟨q, rfl⟩ := ex_str s
  simp only [sem_str] at hk hp
  simp -dsimp -implicitDefEqProofs only [S74, R74, C39, ↓Ev.xStp_eq, ↓Ev.P, Ev.Q, eq_self, forall_eq_or_imp, implies_true, forall_const, forall_eq, ↓reduceIte, reduceIte, Nat.reduceEqDiff, Nat.reduceAdd, reduceCtorEq, Nat.reduceSub, Int.reduceToNat, Int.reduceLE, Int.reduceLT, Int.reduceNeg, Nat.reduceBEq, Nat.reduceMul, Nat.reduceLeDiff, Nat.reduceMod, UInt8.reduceOfNat, Nat.reduceLT, Int.reduceEq, Int.reduceAdd, Int.reduceSub, Int.reduceMul]
  refine ⟨fun h0 => ?_, fun h0 => ?_⟩
  · have : nameS q = nowh := by rw [h0]; rfl
    rw [this] at hk; exact hk
  refine xLoop_intro (fun n st => ∃ i : Nat, i ≤ q.length ∧ n = q.length - i ∧ (q.take i).any oddB = false ∧
      st = ⟨[(0, .d (.v (.string ⟨q.toArray⟩))), (3, .d (.v (.int .i64 i)))], 0, []⟩) q.length [] ?_ ?_ ?_
  · simp -dsimp -implicitDefEqProofs only [↓Ev.xStp_eq, ↓Ev.P, Ev.Q, eq_self, forall_eq_or_imp, implies_true, forall_const, forall_eq, ↓reduceIte, reduceIte, Nat.reduceEqDiff, Nat.reduceAdd, reduceCtorEq, Nat.reduceSub, Int.reduceToNat, Int.reduceLE, Int.reduceLT, Int.reduceNeg, Nat.reduceBEq, Nat.reduceMul, Nat.reduceLeDiff, Nat.reduceMod, UInt8.reduceOfNat, Nat.reduceLT, Int.reduceEq, Int.reduceAdd, Int.reduceSub, Int.reduceMul]
  · simp -dsimp -implicitDefEqProofs only [↓Ev.xStp_eq, ↓Ev.P, Ev.Q, eq_self, forall_eq_or_imp, implies_true, forall_const, forall_eq, ↓reduceIte, reduceIte, Nat.reduceEqDiff, Nat.reduceAdd, reduceCtorEq, Nat.reduceSub, Int.reduceToNat, Int.reduceLE, Int.reduceLT, Int.reduceNeg, Nat.reduceBEq, Nat.reduceMul, Nat.reduceLeDiff, Nat.reduceMod, UInt8.reduceOfNat, Nat.reduceLT, Int.reduceEq, Int.reduceAdd, Int.reduceSub, Int.reduceMul]
    refine ⟨0, by omega, by omega, by simp, rfl⟩
  · rintro n st ⟨i, hi, hn, ho, rfl⟩
    simp -dsimp -implicitDefEqProofs only [C39, ↓Ev.xStp_eq, ↓Ev.P, Ev.Q, eq_self, forall_eq_or_imp, implies_true, forall_const, forall_eq, ↓reduceIte, reduceIte, Nat.reduceEqDiff, Nat.reduceAdd, reduceCtorEq, Nat.reduceSub, Int.reduceToNat, Int.reduceLE, Int.reduceLT, Int.reduceNeg, Nat.reduceBEq, Nat.reduceMul, Nat.reduceLeDiff, Nat.reduceMod, UInt8.reduceOfNat, Nat.reduceLT, Int.reduceEq, Int.reduceAdd, Int.reduceSub, Int.reduceMul]
    repeat' (first | with_reducible assumption | (with_reducible refine And.left (b := _) ?_; with_reducible assumption) | refine And.intro ?_ ?_ | intro _)
    all_goals try omega
    · rename_i hl h
      have h1 : oddB (q.getD i 0) = true := by simpa [oddB, or_assoc] using h
      have : nameS q = quo q := by rw [nameS, if_neg h0, if_pos (.inr (any_out q i (by omega) h1))]
      rw [this] at hk; exact hk
    · rename_i hl h
      refine xAgain_intro (q.length - (i + 1)) [] (by omega) (by simp -dsimp -implicitDefEqProofs only [↓Ev.xStp_eq, ↓Ev.P, Ev.Q, eq_self, forall_eq_or_imp, implies_true, forall_const, forall_eq, ↓reduceIte, reduceIte, Nat.reduceEqDiff, Nat.reduceAdd, reduceCtorEq, Nat.reduceSub, Int.reduceToNat, Int.reduceLE, Int.reduceLT, Int.reduceNeg, Nat.reduceBEq, Nat.reduceMul, Nat.reduceLeDiff, Nat.reduceMod, UInt8.reduceOfNat, Nat.reduceLT, Int.reduceEq, Int.reduceAdd, Int.reduceSub, Int.reduceMul]) ⟨i + 1, by omega, rfl, ?_, ?_⟩
      · rw [any_snoc q i (by omega), ho]; simpa [oddB, and_assoc] using h
      · simp -dsimp -implicitDefEqProofs only [↓Ev.xStp_eq, ↓Ev.P, Ev.Q, eq_self, forall_eq_or_imp, implies_true, forall_const, forall_eq, ↓reduceIte, reduceIte, Nat.reduceEqDiff, Nat.reduceAdd, reduceCtorEq, Nat.reduceSub, Int.reduceToNat, Int.reduceLE, Int.reduceLT, Int.reduceNeg, Nat.reduceBEq, Nat.reduceMul, Nat.reduceLeDiff, Nat.reduceMod, UInt8.reduceOfNat, Nat.reduceLT, Int.reduceEq, Int.reduceAdd, Int.reduceSub, Int.reduceMul]
        rfl
    · rename_i hl h
      have : nameS q = quo q := by rw [nameS, if_neg h0, if_pos (.inl h)]
      rw [this] at hk; exact hk
    · rename_i hl h
      rw [List.take_of_length_le (by omega)] at ho
      have : nameS q = q := by rw [nameS, if_neg h0, if_neg (by rintro (e | e); exact h e; rw [e] at ho; cases ho)]
      rw [this] at hk; exact hk
theorem s66 : Sound G Tryd.prog 66 C63 := by
  refine sd66 (T := tabT [(74, C63)]) (tab_cons s74 tab_nil) (pureC_lawful _) (pure_hX fun args p x K h hp hk => ?_)
  split at h <;> simp only [Option.some.injEq, Prod.mk.injEq, reduceCtorEq] at h
  obtain ⟨rfl, rfl⟩ := h
  refine ⟨Nat.le_of_ble_eq_true rfl, ?_⟩
  simp -dsimp -implicitDefEqProofs only [S66, R66, C63, ↓Ev.xStp_eq, ↓Ev.P, Ev.Q, eq_self, forall_eq_or_imp, implies_true, forall_const, forall_eq, ↓reduceIte, reduceIte, Nat.reduceEqDiff, Nat.reduceAdd, reduceCtorEq, Nat.reduceSub, Int.reduceToNat, Int.reduceLE, Int.reduceLT, Int.reduceNeg, Nat.reduceBEq, Nat.reduceMul, Nat.reduceLeDiff, Nat.reduceMod, UInt8.reduceOfNat, Nat.reduceLT, Int.reduceEq, Int.reduceAdd, Int.reduceSub, Int.reduceMul]
  exact ⟨hp, hk⟩
end Go.Proofs.YtpbkdcfjlbdgfaaDoor
set_option linter.unusedVariables false
set_option linter.unusedSimpArgs false
namespace Go.Proofs.YtpbkdcfjlbdgfaaDoor
open Go Go.Ev
set_option maxRecDepth 100000
variable {G : World → Prop}
/-! Marks of conflicts, names. -/
def mkL (c : UInt8) (name : List UInt8) : List UInt8 := [c, c, c, c, c, c, c, 32] ++ name ++ [10]
def midL : List UInt8 := [61, 61, 61, 61, 61, 61, 61, 10]
/-- Is there no line feed? -/
def nf (l : List UInt8) : Bool := !l.contains 10
theorem nf_append (a b : List UInt8) : nf (a ++ b) = (nf a && nf b) := by
  simp only [nf, List.contains_eq_mem, List.mem_append]
  by_cases h1 : 10 ∈ a <;> by_cases h2 : 10 ∈ b <;> simp [h1, h2]
theorem indexByte_mem (c : UInt8) : ∀ l : List UInt8, 0 ≤ Lib.indexByte l c ↔ c ∈ l
  | [] => by simp [Lib.indexByte]
  | b :: l => by
    have ih := indexByte_mem c l
    have hge := Lib.indexByte_ge l c
    rw [Lib.indexByte, List.mem_cons, ← ih]
    by_cases h : b = c
    · subst h; simp
    · have h1 : (b == c) = false := by simpa using h
      have h3 : ¬ c = b := fun e => h e.symm
      rw [h1, if_neg (by simp)]
      by_cases h2 : Lib.indexByte l c = -1
      · rw [h2]; simp [h3]
      · have h4 : (Lib.indexByte l c == -1) = false := by simpa using h2
        rw [h4, if_neg (by simp)]
        simp only [h3, false_or]
        omega
theorem indexByte_in (c : UInt8) (l : List UInt8) : decide (0 ≤ Lib.indexByte l c) = l.contains c := by
  rw [Bool.eq_iff_iff]; simp [indexByte_mem]
theorem u8_ten (x : UInt8) : ((x.toNat : Int) = 10) ↔ x = 10 := ⟨fun h => UInt8.toNat_inj.1 (by show _ = 10; omega), fun h => by rw [h]; rfl⟩
def CHasFeed : Contract := pureC fun args => match args with
  | [.d (.v (.string s)), .d (.v (.string p))] => some (p.data.toList = [10], .d (.v (.bool (!nf s.data.toList))))
  | _ => none
theorem sHasFeed : Sound G Tryd.prog 127 CHasFeed := by
  refine sound_lib ⟨Tryd.f127, by kernel_rfl, by kernel_rfl, by kernel_rfl⟩ fun args p x h hp => ?_
  split at h <;> simp only [Option.some.injEq, Prod.mk.injEq, reduceCtorEq] at h
  obtain ⟨rfl, rfl⟩ := h
  rename_i s q
  obtain ⟨q', rfl⟩ := ex_str q
  simp only [sem_str] at hp
  subst hp
  refine ⟨_, fun m n c => ⟨rfl, rfl⟩, fun w hw m c vs hc hv => ?_⟩
  match vs, hv with
  | [a, b], hv =>
    simp only [CnL, and_true] at hv
    obtain ⟨v1, v2⟩ := hv
    rw [of_v v1, of_v v2]
    refine (Tryd.strings_Contains_one s 10 w).mono ?_
    rintro e w' ⟨rfl, rfl⟩
    exact ⟨by rw [indexByte_in, nf, Bool.not_not], RowKit.Below.refl _ _⟩
  | [], hv => simp [CnL] at hv
  | [_], hv => simp [CnL] at hv
  | _ :: _ :: _ :: _, hv => simp [CnL] at hv
/-- strings.Repeat of one byte, seven times. -/
def CSeven : Contract := pureC fun args => match args with
  | [.d (.v (.string s)), .d (.v (.int .i64 n))] => some (s.size = 1 ∧ n = 7, .d (.v (str (Lib.repeatL s.data.toList 7))))
  | _ => none
theorem sSeven : Sound G Tryd.prog 129 CSeven := by
  refine sound_lib ⟨Tryd.f129, by kernel_rfl, by kernel_rfl, by kernel_rfl⟩ fun args p x h hp => ?_
  split at h <;> simp only [Option.some.injEq, Prod.mk.injEq, reduceCtorEq] at h
  obtain ⟨rfl, rfl⟩ := h
  rename_i s n
  obtain ⟨h1, rfl⟩ := hp
  refine ⟨_, fun m n c => ⟨rfl, rfl⟩, fun w hw m c vs hc hv => ?_⟩
  match vs, hv with
  | [a, b], hv =>
    simp only [CnL, and_true] at hv
    obtain ⟨v1, v2⟩ := hv
    rw [of_v v1, of_v v2]
    exact Tryd.strings_Repeat s 7 w (by decide) (by omega)
  | [], hv => simp [CnL] at hv
  | [_], hv => simp [CnL] at hv
  | _ :: _ :: _ :: _, hv => simp [CnL] at hv
def CMark : Contract := pureC fun args => match args with
  | [.d (.v (.string c)), .d (.v (.string s))] => some (c.size = 1 ∧ s.size ≤ 1099511627776, .d (.v (str (mkL (c.data.toList.getD 0 0) s.data.toList))))
  | _ => none
theorem s83 : Sound G Tryd.prog 83 CMark := by
  refine sd83 (T := tabT [(129, CSeven)]) (tab_cons sSeven tab_nil) (pureC_lawful _) (pure_hX fun args p x K h hp hk => ?_)
  split at h <;> simp only [Option.some.injEq, Prod.mk.injEq, reduceCtorEq] at h
  obtain ⟨rfl, rfl⟩ := h
  rename_i c s
  obtain ⟨c, rfl⟩ := ex_str c
  obtain ⟨s, rfl⟩ := ex_str s
  simp only [sem_str] at hp hk
  obtain ⟨h1, h2⟩ := hp
  match c, h1 with
  | [b], _ =>
    refine ⟨Nat.le_of_ble_eq_true rfl, ?_⟩
    simp -dsimp -implicitDefEqProofs only [S83, R83, CSeven, ↓Ev.xStp_eq, ↓Ev.P, Ev.Q, Bool.cond_true, Bool.cond_false, eq_self, forall_eq_or_imp, implies_true, forall_const, forall_eq, ↓reduceIte, reduceIte, Nat.reduceEqDiff, Nat.reduceAdd, reduceCtorEq, Nat.reduceSub, Int.reduceToNat, Int.reduceLE, Int.reduceLT, Int.reduceNeg, Nat.reduceBEq, Nat.reduceMul, Nat.reduceLeDiff, Nat.reduceMod, UInt8.reduceOfNat, Nat.reduceLT, Int.reduceEq, Int.reduceAdd, Int.reduceSub, Int.reduceMul]
    refine ⟨?_, ?_, ?_, hk⟩ <;> (simp only [Lib.repeatL, List.length_append, List.length_cons, List.length_nil]; omega)
def CNamed : Contract := pureC fun args => match args with
  | [.agg [.d (.v (.string m)), .d (.v (.string o)), .d (.v (.string y))]] => some (m.size ≤ 1099511627776 ∧ o.size ≤ 1099511627776 ∧ y.size ≤ 1099511627776, .d (.v (.bool (nf m.data.toList && nf o.data.toList && nf y.data.toList))))
  | _ => none
theorem s81 : Sound G Tryd.prog 81 CNamed := by
  refine sd81 (T := tabT [(127, CHasFeed)]) (tab_cons sHasFeed tab_nil) (pureC_lawful _) (pure_hX fun args p x K h hp hk => ?_)
  split at h <;> simp only [Option.some.injEq, Prod.mk.injEq, reduceCtorEq] at h
  obtain ⟨rfl, rfl⟩ := h
  rename_i m o y
  obtain ⟨m, rfl⟩ := ex_str m
  obtain ⟨o, rfl⟩ := ex_str o
  obtain ⟨y, rfl⟩ := ex_str y
  simp only [sem_str] at hp hk
  refine ⟨Nat.le_of_ble_eq_true rfl, ?_⟩
  simp -dsimp -implicitDefEqProofs only [S81, R81, CHasFeed, ↓Ev.xStp_eq, ↓Ev.P, Ev.Q, Bool.cond_true, Bool.cond_false, eq_self, forall_eq_or_imp, implies_true, forall_const, forall_eq, ↓reduceIte, reduceIte, Nat.reduceEqDiff, Nat.reduceAdd, reduceCtorEq, Nat.reduceSub, Int.reduceToNat, Int.reduceLE, Int.reduceLT, Int.reduceNeg, Nat.reduceBEq, Nat.reduceMul, Nat.reduceLeDiff, Nat.reduceMod, UInt8.reduceOfNat, Nat.reduceLT, Int.reduceEq, Int.reduceAdd, Int.reduceSub, Int.reduceMul]
  refine ⟨by omega, by simp; omega, ?_⟩
  rw [Bool.not_not, nf_append, nf_append]; exact hk
def CRMark : Contract := pureC fun args => match args with
  | [.d (.v (.int .u8 c)), .d (.v (.string s))] => some ((0 ≤ c ∧ c < 256) ∧ s.size ≤ 1099511627776, .d (.v (str (mkL (UInt8.ofNat c.toNat) s.data.toList))))
  | _ => none
theorem s86 : Sound G Tryd.prog 86 CRMark := by
  refine sd86 (T := tabT []) tab_nil (pureC_lawful _) (pure_hX fun args p x K h hp hk => ?_)
  split at h <;> simp only [Option.some.injEq, Prod.mk.injEq, reduceCtorEq] at h
  obtain ⟨rfl, rfl⟩ := h
  rename_i c s
  obtain ⟨s, rfl⟩ := ex_str s
  simp only [sem_str] at hp hk
  refine ⟨Nat.le_of_ble_eq_true rfl, ?_⟩
  simp -dsimp -implicitDefEqProofs only [S86, R86, ↓Ev.xStp_eq, ↓Ev.P, Ev.Q, Bool.cond_true, Bool.cond_false, eq_self, forall_eq_or_imp, implies_true, forall_const, forall_eq, ↓reduceIte, reduceIte, Nat.reduceEqDiff, Nat.reduceAdd, reduceCtorEq, Nat.reduceSub, Int.reduceToNat, Int.reduceLE, Int.reduceLT, Int.reduceNeg, Nat.reduceBEq, Nat.reduceMul, Nat.reduceLeDiff, Nat.reduceMod, UInt8.reduceOfNat, Nat.reduceLT, Int.reduceEq, Int.reduceAdd, Int.reduceSub, Int.reduceMul]
  exact ⟨by omega, by omega, hk⟩
def CRNamed : Contract := pureC fun args => match args with
  | [.d (.v (.string s))] => some (s.size ≤ 1099511627776, .d (.v (.bool (nf s.data.toList))))
  | _ => none
theorem nf_snoc (q : List UInt8) (i : Nat) (h : i < q.length) : nf (q.take (i + 1)) = (nf (q.take i) && !decide (q.getD i 0 = 10)) := by
  rw [take_snoc q i h, nf_append]
  congr 1
  by_cases h : q.getD i 0 = 10
  · rw [h]; rfl
  · have h2 : ¬ (10 : UInt8) = q.getD i 0 := fun e => h e.symm
    simp only [nf, List.contains_cons, List.contains_nil, Bool.or_false, decide_eq_false h, show ((10 : UInt8) == q.getD i 0) = false from beq_eq_false_iff_ne.2 h2]
theorem nf_out (q : List UInt8) (i : Nat) (h : i < q.length) (h2 : q.getD i 0 = 10) : nf q = false := by
  have : (10 : UInt8) ∈ q := by
    rw [← h2, List.getD_eq_getElem?_getD, List.getElem?_eq_getElem h]; simp
  simp [nf, this]
theorem s84 : Sound G Tryd.prog 84 CRNamed := by
  refine sd84 (T := tabT []) tab_nil (pureC_lawful _) (pure_hX fun args p x K h hp hk => ?_)
  split at h <;> simp only [Option.some.injEq, Prod.mk.injEq, reduceCtorEq] at h
  obtain ⟨rfl, rfl⟩ := h
  rename_i q
  obtain ⟨q, rfl⟩ := ex_str q
  simp only [sem_str] at hp hk
  refine ⟨Nat.le_of_ble_eq_true rfl, ?_⟩
  simp -dsimp -implicitDefEqProofs only [S84, R84, ↓Ev.xStp_eq, ↓Ev.P, Ev.Q, Bool.cond_true, Bool.cond_false, eq_self, forall_eq_or_imp, implies_true, forall_const, forall_eq, ↓reduceIte, reduceIte, Nat.reduceEqDiff, Nat.reduceAdd, reduceCtorEq, Nat.reduceSub, Int.reduceToNat, Int.reduceLE, Int.reduceLT, Int.reduceNeg, Nat.reduceBEq, Nat.reduceMul, Nat.reduceLeDiff, Nat.reduceMod, UInt8.reduceOfNat, Nat.reduceLT, Int.reduceEq, Int.reduceAdd, Int.reduceSub, Int.reduceMul]
  refine xLoop_intro (fun n st => ∃ i : Nat, i ≤ q.length ∧ n = q.length - i ∧ nf (q.take i) = true ∧
      st = ⟨[(0, .d (.v (.string ⟨q.toArray⟩))), (3, .d (.v (.int .i64 i)))], 0, []⟩) q.length [] ?_ ?_ ?_
  · simp -dsimp -implicitDefEqProofs only [↓Ev.xStp_eq, ↓Ev.P, Ev.Q, Bool.cond_true, Bool.cond_false, eq_self, forall_eq_or_imp, implies_true, forall_const, forall_eq, ↓reduceIte, reduceIte, Nat.reduceEqDiff, Nat.reduceAdd, reduceCtorEq, Nat.reduceSub, Int.reduceToNat, Int.reduceLE, Int.reduceLT, Int.reduceNeg, Nat.reduceBEq, Nat.reduceMul, Nat.reduceLeDiff, Nat.reduceMod, UInt8.reduceOfNat, Nat.reduceLT, Int.reduceEq, Int.reduceAdd, Int.reduceSub, Int.reduceMul]
  · simp -dsimp -implicitDefEqProofs only [↓Ev.xStp_eq, ↓Ev.P, Ev.Q, Bool.cond_true, Bool.cond_false, eq_self, forall_eq_or_imp, implies_true, forall_const, forall_eq, ↓reduceIte, reduceIte, Nat.reduceEqDiff, Nat.reduceAdd, reduceCtorEq, Nat.reduceSub, Int.reduceToNat, Int.reduceLE, Int.reduceLT, Int.reduceNeg, Nat.reduceBEq, Nat.reduceMul, Nat.reduceLeDiff, Nat.reduceMod, UInt8.reduceOfNat, Nat.reduceLT, Int.reduceEq, Int.reduceAdd, Int.reduceSub, Int.reduceMul]
    refine ⟨0, by omega, by omega, by simp [nf], rfl⟩
  · rintro n st ⟨i, hi, hn, ho, rfl⟩
    simp -dsimp -implicitDefEqProofs only [↓Ev.xStp_eq, ↓Ev.P, Ev.Q, Bool.cond_true, Bool.cond_false, eq_self, forall_eq_or_imp, implies_true, forall_const, forall_eq, ↓reduceIte, reduceIte, Nat.reduceEqDiff, Nat.reduceAdd, reduceCtorEq, Nat.reduceSub, Int.reduceToNat, Int.reduceLE, Int.reduceLT, Int.reduceNeg, Nat.reduceBEq, Nat.reduceMul, Nat.reduceLeDiff, Nat.reduceMod, UInt8.reduceOfNat, Nat.reduceLT, Int.reduceEq, Int.reduceAdd, Int.reduceSub, Int.reduceMul]
    repeat' (first | with_reducible assumption | (with_reducible refine And.left (b := _) ?_; with_reducible assumption) | refine And.intro ?_ ?_ | intro _)
    all_goals try omega
    · rename_i hl h
      rw [nf_out q i (by omega) ((u8_ten _).1 h)] at hk; exact hk
    · rename_i hl h
      refine xAgain_intro (q.length - (i + 1)) [] (by omega) (by simp -dsimp -implicitDefEqProofs only [↓Ev.xStp_eq, ↓Ev.P, Ev.Q, Bool.cond_true, Bool.cond_false, eq_self, forall_eq_or_imp, implies_true, forall_const, forall_eq, ↓reduceIte, reduceIte, Nat.reduceEqDiff, Nat.reduceAdd, reduceCtorEq, Nat.reduceSub, Int.reduceToNat, Int.reduceLE, Int.reduceLT, Int.reduceNeg, Nat.reduceBEq, Nat.reduceMul, Nat.reduceLeDiff, Nat.reduceMod, UInt8.reduceOfNat, Nat.reduceLT, Int.reduceEq, Int.reduceAdd, Int.reduceSub, Int.reduceMul]) ⟨i + 1, by omega, rfl, ?_, ?_⟩
      · rw [nf_snoc q i (by omega), ho, decide_eq_false (fun e => h ((u8_ten _).2 e))]; rfl
      · simp -dsimp -implicitDefEqProofs only [↓Ev.xStp_eq, ↓Ev.P, Ev.Q, Bool.cond_true, Bool.cond_false, eq_self, forall_eq_or_imp, implies_true, forall_const, forall_eq, ↓reduceIte, reduceIte, Nat.reduceEqDiff, Nat.reduceAdd, reduceCtorEq, Nat.reduceSub, Int.reduceToNat, Int.reduceLE, Int.reduceLT, Int.reduceNeg, Nat.reduceBEq, Nat.reduceMul, Nat.reduceLeDiff, Nat.reduceMod, UInt8.reduceOfNat, Nat.reduceLT, Int.reduceEq, Int.reduceAdd, Int.reduceSub, Int.reduceMul]
        rfl
    · rename_i hl
      rw [List.take_of_length_le (by omega)] at ho
      rw [ho] at hk; exact hk
theorem lns_pre (p r : List UInt8) (hp : ∀ c ∈ p, c ≠ 10) : lns (p ++ 10 :: r) = (p ++ [10]) :: lns r := by
  induction p with
  | nil => simp [lns]
  | cons c p ih =>
    have h := ih fun d hd => hp d (List.mem_cons_of_mem _ hd)
    simp only [List.cons_append, lns, if_neg (hp c (List.mem_cons_self ..)), h]
theorem lns_no (p : List UInt8) (hp : ∀ c ∈ p, c ≠ 10) (hn : p ≠ []) : lns p = [p] := by
  induction p with
  | nil => exact absurd rfl hn
  | cons c p ih =>
    by_cases hq : p = []
    · subst hq; simp [lns, hp c (List.mem_cons_self ..)]
    · have h := ih (fun d hd => hp d (List.mem_cons_of_mem _ hd)) hq
      simp only [lns, if_neg (hp c (List.mem_cons_self ..)), h]
theorem lns_len : ∀ l, (lns l).length ≤ l.length
  | [] => by simp [lns]
  | c :: r => by
    have h := lns_len r
    simp only [lns]
    split
    · simpa using h
    · split
      · simp
      · rename_i p ps e
        rw [e] at h; simp at h ⊢; omega
theorem lns_flat : ∀ l, (lns l).flatten = l
  | [] => rfl
  | c :: r => by
    have h := lns_flat r
    simp only [lns]
    split
    · rename_i e; subst e; simp [h]
    · split
      · rename_i e; rw [e] at h; simp at h; subst h; rfl
      · rename_i p ps e
        rw [e] at h; simp at h ⊢; exact h
/-- While lines are taken: those that are taken, and the rest. -/
structure Cutting (s : List UInt8) (acc : List (List UInt8)) (at_ i : Nat) : Prop where
  le : at_ ≤ i
  all : acc ++ lns (s.drop at_) = lns s
  no : ∀ c ∈ (s.drop at_).take (i - at_), c ≠ 10
  len : acc.length ≤ i
theorem Cutting.step {s : List UInt8} {acc : List (List UInt8)} {at_ i : Nat} (h : Cutting s acc at_ i) (hi : i < s.length) (hc : ¬ s.getD i 0 = 10) : Cutting s acc at_ (i + 1) := by
  obtain ⟨h1, h2, h3, h4⟩ := h
  refine ⟨by omega, h2, fun c hm => ?_, by omega⟩
  rw [show i + 1 - at_ = (i - at_) + 1 by omega, List.take_succ_eq_append_getElem (by rw [List.length_drop]; omega), List.mem_append] at hm
  rcases hm with hm | hm
  · exact h3 c hm
  · rw [List.mem_singleton.1 hm, List.getElem_drop]
    rw [List.getD_eq_getElem?_getD, List.getElem?_eq_getElem hi] at hc
    simpa [show at_ + (i - at_) = i by omega] using hc
theorem Cutting.cut {s : List UInt8} {acc : List (List UInt8)} {at_ i : Nat} (h : Cutting s acc at_ i) (hi : i < s.length) (hc : s.getD i 0 = 10) : Cutting s (acc ++ [(s.drop at_).take (i + 1 - at_)]) (i + 1) (i + 1) := by
  obtain ⟨h1, h2, h3, h4⟩ := h
  have e : s.drop at_ = (s.drop at_).take (i - at_) ++ 10 :: s.drop (i + 1) := by
    conv => lhs; rw [← List.take_append_drop (i - at_) (s.drop at_)]
    rw [List.drop_drop, show at_ + (i - at_) = i by omega, List.drop_eq_getElem_cons hi]
    rw [List.getD_eq_getElem?_getD, List.getElem?_eq_getElem hi] at hc
    simp only [Option.getD_some] at hc
    rw [hc]
  have e2 : (s.drop at_).take (i + 1 - at_) = (s.drop at_).take (i - at_) ++ [10] := by
    rw [show i + 1 - at_ = (i - at_) + 1 by omega, List.take_succ_eq_append_getElem (by rw [List.length_drop]; omega), List.getElem_drop]
    rw [List.getD_eq_getElem?_getD, List.getElem?_eq_getElem hi] at hc
    simp only [Option.getD_some] at hc
    simp only [show at_ + (i - at_) = i by omega, hc]
  refine ⟨Nat.le_refl _, ?_, by simp, by simp; omega⟩
  rw [← h2, e2]
  conv => rhs; rw [e, lns_pre _ _ h3]
  rw [List.append_assoc]
  rfl
theorem Cutting.fin {s : List UInt8} {acc : List (List UInt8)} {at_ i : Nat} (h : Cutting s acc at_ i) (hi : s.length ≤ i) : (s.length ≤ at_ → lns s = acc) ∧ (at_ < s.length → lns s = acc ++ [s.drop at_]) := by
  obtain ⟨h1, h2, h3, h4⟩ := h
  refine ⟨fun h => ?_, fun h => ?_⟩
  · rw [← h2, List.drop_eq_nil_of_le h]; simp [lns]
  · rw [← h2, lns_no]
    · intro c hc; exact h3 c (by rw [List.take_of_length_le (by rw [List.length_drop]; omega)]; exact hc)
    · intro e; have := congrArg List.length e; rw [List.length_drop] at this; simp at this; omega
theorem strRows_snoc (a : List (List UInt8)) (x : List UInt8) : strRows (a ++ [x]) = strRows a ++ [[.v (.string ⟨x.toArray⟩)]] := by simp [strRows]
theorem s85 : Sound G Tryd.prog 85 CSplit := by
  refine sd85 (T := tabT []) tab_nil (pureC_lawful _) (pure_hX fun args p x K h hp hk => ?_)
  split at h <;> simp only [Option.some.injEq, Prod.mk.injEq, reduceCtorEq] at h
  obtain ⟨rfl, rfl⟩ := h
  rename_i q
  obtain ⟨q, rfl⟩ := ex_str q
  simp only [sem_str] at hp hk
  refine ⟨Nat.le_of_ble_eq_true rfl, ?_⟩
  simp -dsimp -implicitDefEqProofs only [S85, R85, ↓Ev.xStp_eq, ↓Ev.P, Ev.Q, Bool.cond_true, Bool.cond_false, eq_self, forall_eq_or_imp, implies_true, forall_const, forall_eq, ↓reduceIte, reduceIte, Nat.reduceEqDiff, Nat.reduceAdd, reduceCtorEq, Nat.reduceSub, Int.reduceToNat, Int.reduceLE, Int.reduceLT, Int.reduceNeg, Nat.reduceBEq, Nat.reduceMul, Nat.reduceLeDiff, Nat.reduceMod, UInt8.reduceOfNat, Nat.reduceLT, Int.reduceEq, Int.reduceAdd, Int.reduceSub, Int.reduceMul]
  refine xLoop_intro (fun n st => ∃ (acc : List (List UInt8)) (at_ i : Nat), i ≤ q.length ∧ n = q.length - i ∧ Cutting q acc at_ i ∧
      st = ⟨[(0, .d (.v (.string ⟨q.toArray⟩))), (3, .own 0), (4, .d (.v (.int .i64 at_))), (5, .d (.v (.int .i64 i)))], 1, [(0, .row 9 1 (strRows acc))]⟩) q.length [0] ?_ ?_ ?_
  · simp -dsimp -implicitDefEqProofs only [↓Ev.xStp_eq, ↓Ev.P, Ev.Q, Bool.cond_true, Bool.cond_false, eq_self, forall_eq_or_imp, implies_true, forall_const, forall_eq, ↓reduceIte, reduceIte, Nat.reduceEqDiff, Nat.reduceAdd, reduceCtorEq, Nat.reduceSub, Int.reduceToNat, Int.reduceLE, Int.reduceLT, Int.reduceNeg, Nat.reduceBEq, Nat.reduceMul, Nat.reduceLeDiff, Nat.reduceMod, UInt8.reduceOfNat, Nat.reduceLT, Int.reduceEq, Int.reduceAdd, Int.reduceSub, Int.reduceMul]
  · simp -dsimp -implicitDefEqProofs only [↓Ev.xStp_eq, ↓Ev.P, Ev.Q, Bool.cond_true, Bool.cond_false, eq_self, forall_eq_or_imp, implies_true, forall_const, forall_eq, ↓reduceIte, reduceIte, Nat.reduceEqDiff, Nat.reduceAdd, reduceCtorEq, Nat.reduceSub, Int.reduceToNat, Int.reduceLE, Int.reduceLT, Int.reduceNeg, Nat.reduceBEq, Nat.reduceMul, Nat.reduceLeDiff, Nat.reduceMod, UInt8.reduceOfNat, Nat.reduceLT, Int.reduceEq, Int.reduceAdd, Int.reduceSub, Int.reduceMul]
    exact ⟨[], 0, 0, by omega, by omega, ⟨Nat.le_refl _, rfl, by simp, by simp⟩, rfl⟩
  · rintro n st ⟨acc, at_, i, hi, hn, hc, rfl⟩
    have hal := hc.le
    have hacc := hc.len
    by_cases hil : i < q.length
    · have hi3 : (i : Int) < q.length := by omega
      by_cases hf : q.getD i 0 = 10
      · have hf2 : ((q.getD i 0).toNat : Int) = 10 := (u8_ten _).2 hf
        simp -dsimp -implicitDefEqProofs only [hi3, hf2, strRows_len, ↓Ev.xStp_eq, ↓Ev.P, Ev.Q, Bool.cond_true, Bool.cond_false, eq_self, forall_eq_or_imp, implies_true, forall_const, forall_eq, ↓reduceIte, reduceIte, Nat.reduceEqDiff, Nat.reduceAdd, reduceCtorEq, Nat.reduceSub, Int.reduceToNat, Int.reduceLE, Int.reduceLT, Int.reduceNeg, Nat.reduceBEq, Nat.reduceMul, Nat.reduceLeDiff, Nat.reduceMod, UInt8.reduceOfNat, Nat.reduceLT, Int.reduceEq, Int.reduceAdd, Int.reduceSub, Int.reduceMul]
        repeat' (first | with_reducible assumption | refine And.intro ?_ ?_ | intro _)
        all_goals try omega
        refine xAgain_intro (q.length - (i + 1)) [2] (by omega) (by simp -dsimp -implicitDefEqProofs only [↓Ev.xStp_eq, ↓Ev.P, Ev.Q, Bool.cond_true, Bool.cond_false, eq_self, forall_eq_or_imp, implies_true, forall_const, forall_eq, ↓reduceIte, reduceIte, Nat.reduceEqDiff, Nat.reduceAdd, reduceCtorEq, Nat.reduceSub, Int.reduceToNat, Int.reduceLE, Int.reduceLT, Int.reduceNeg, Nat.reduceBEq, Nat.reduceMul, Nat.reduceLeDiff, Nat.reduceMod, UInt8.reduceOfNat, Nat.reduceLT, Int.reduceEq, Int.reduceAdd, Int.reduceSub, Int.reduceMul]) ⟨acc ++ [(q.drop at_).take (i + 1 - at_)], i + 1, i + 1, by omega, rfl, hc.cut hil hf, ?_⟩
        rw [strRows_snoc]
        simp -dsimp -implicitDefEqProofs only [↓Ev.xStp_eq, ↓Ev.P, Ev.Q, Bool.cond_true, Bool.cond_false, eq_self, forall_eq_or_imp, implies_true, forall_const, forall_eq, ↓reduceIte, reduceIte, Nat.reduceEqDiff, Nat.reduceAdd, reduceCtorEq, Nat.reduceSub, Int.reduceToNat, Int.reduceLE, Int.reduceLT, Int.reduceNeg, Nat.reduceBEq, Nat.reduceMul, Nat.reduceLeDiff, Nat.reduceMod, UInt8.reduceOfNat, Nat.reduceLT, Int.reduceEq, Int.reduceAdd, Int.reduceSub, Int.reduceMul]
        rfl
      · have hf2 : ¬ ((q.getD i 0).toNat : Int) = 10 := fun h => hf ((u8_ten _).1 h)
        simp -dsimp -implicitDefEqProofs only [hi3, hf2, strRows_len, ↓Ev.xStp_eq, ↓Ev.P, Ev.Q, Bool.cond_true, Bool.cond_false, eq_self, forall_eq_or_imp, implies_true, forall_const, forall_eq, ↓reduceIte, reduceIte, Nat.reduceEqDiff, Nat.reduceAdd, reduceCtorEq, Nat.reduceSub, Int.reduceToNat, Int.reduceLE, Int.reduceLT, Int.reduceNeg, Nat.reduceBEq, Nat.reduceMul, Nat.reduceLeDiff, Nat.reduceMod, UInt8.reduceOfNat, Nat.reduceLT, Int.reduceEq, Int.reduceAdd, Int.reduceSub, Int.reduceMul]
        repeat' (first | with_reducible assumption | refine And.intro ?_ ?_ | intro _)
        all_goals try omega
        refine xAgain_intro (q.length - (i + 1)) [0] (by omega) (by simp -dsimp -implicitDefEqProofs only [↓Ev.xStp_eq, ↓Ev.P, Ev.Q, Bool.cond_true, Bool.cond_false, eq_self, forall_eq_or_imp, implies_true, forall_const, forall_eq, ↓reduceIte, reduceIte, Nat.reduceEqDiff, Nat.reduceAdd, reduceCtorEq, Nat.reduceSub, Int.reduceToNat, Int.reduceLE, Int.reduceLT, Int.reduceNeg, Nat.reduceBEq, Nat.reduceMul, Nat.reduceLeDiff, Nat.reduceMod, UInt8.reduceOfNat, Nat.reduceLT, Int.reduceEq, Int.reduceAdd, Int.reduceSub, Int.reduceMul]) ⟨acc, at_, i + 1, by omega, rfl, hc.step hil hf, ?_⟩
        simp -dsimp -implicitDefEqProofs only [↓Ev.xStp_eq, ↓Ev.P, Ev.Q, Bool.cond_true, Bool.cond_false, eq_self, forall_eq_or_imp, implies_true, forall_const, forall_eq, ↓reduceIte, reduceIte, Nat.reduceEqDiff, Nat.reduceAdd, reduceCtorEq, Nat.reduceSub, Int.reduceToNat, Int.reduceLE, Int.reduceLT, Int.reduceNeg, Nat.reduceBEq, Nat.reduceMul, Nat.reduceLeDiff, Nat.reduceMod, UInt8.reduceOfNat, Nat.reduceLT, Int.reduceEq, Int.reduceAdd, Int.reduceSub, Int.reduceMul]
        rfl
    · have hi3 : ¬ (i : Int) < q.length := by omega
      obtain ⟨f1, f2⟩ := hc.fin (by omega)
      by_cases ha : at_ < q.length
      · have ha3 : (at_ : Int) < q.length := by omega
        rw [f2 ha] at hk
        rw [strRows_snoc] at hk
        simp -dsimp -implicitDefEqProofs only [hi3, ha3, strRows_len, ↓Ev.xStp_eq, ↓Ev.P, Ev.Q, Bool.cond_true, Bool.cond_false, eq_self, forall_eq_or_imp, implies_true, forall_const, forall_eq, ↓reduceIte, reduceIte, Nat.reduceEqDiff, Nat.reduceAdd, reduceCtorEq, Nat.reduceSub, Int.reduceToNat, Int.reduceLE, Int.reduceLT, Int.reduceNeg, Nat.reduceBEq, Nat.reduceMul, Nat.reduceLeDiff, Nat.reduceMod, UInt8.reduceOfNat, Nat.reduceLT, Int.reduceEq, Int.reduceAdd, Int.reduceSub, Int.reduceMul]
        repeat' (first | with_reducible assumption | refine And.intro ?_ ?_ | intro _)
        all_goals try omega
      · have ha3 : ¬ (at_ : Int) < q.length := by omega
        rw [f1 (by omega)] at hk
        simp -dsimp -implicitDefEqProofs only [hi3, ha3, strRows_len, ↓Ev.xStp_eq, ↓Ev.P, Ev.Q, Bool.cond_true, Bool.cond_false, eq_self, forall_eq_or_imp, implies_true, forall_const, forall_eq, ↓reduceIte, reduceIte, Nat.reduceEqDiff, Nat.reduceAdd, reduceCtorEq, Nat.reduceSub, Int.reduceToNat, Int.reduceLE, Int.reduceLT, Int.reduceNeg, Nat.reduceBEq, Nat.reduceMul, Nat.reduceLeDiff, Nat.reduceMod, UInt8.reduceOfNat, Nat.reduceLT, Int.reduceEq, Int.reduceAdd, Int.reduceSub, Int.reduceMul]
        exact hk
end Go.Proofs.YtpbkdcfjlbdgfaaDoor
