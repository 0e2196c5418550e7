/- UnifiedAgain: what is read of any text is written and read again as the same Part 4 of 6. -/
import Derived.Test.YtlghobefhmpfkaaGreatDoorProg
import Derived.Lib.IndexLaws
import Derived.Lib.IndexMore
import Derived.Test.YtlghobefhmpfkaaGreatDoorUa1
import Derived.Test.YtlghobefhmpfkaaGreatDoorUa2
import Derived.Test.YtlghobefhmpfkaaGreatDoorUa3
set_option linter.unusedSimpArgs false
set_option linter.unusedVariables false
namespace Go.Proofs.YtlghobefhmpfkaaGreatDoor
open Go Go.Ev
set_option maxRecDepth 100000
def A25 : Ann := ⟨fun r i => if r = 1 ∧ i = 7 then 1 else if r = 5 ∧ i = 0 then 7 else 0, fun r => if r = 14 then some [(0, true, []), (2, true, []), (7, true, [1]), (9, true, [1]), (1, true, []), (3, true, []), (8, true, [1]), (10, true, [1]), (4, false, [1]), (5, true, [1]), (6, true, [1]), (11, false, [1]), (12, true, []), (13, true, []), (14, false, [1])] else if r = 13 then some [(0, true, []), (5, true, [1]), (1, true, []), (6, true, [1]), (2, false, [1]), (3, true, [1]), (4, true, [1]), (7, false, [1]), (8, true, []), (9, true, []), (10, false, [1])] else none, fun r => if r = 1 then some (false, [1]) else if r = 3 then some (false, [1]) else if r = 6 then some (false, [1, 4]) else if r = 8 then some (false, [1, 4, 27, 28, 29]) else if r = 9 then some (false, [1, 4, 5, 6, 27, 28, 29]) else if r = 11 then some (false, [7]) else if r = 13 then some (false, [1, 4, 6, 27, 28, 29]) else if r = 14 then some (false, [1, 4, 6, 27, 28, 29]) else if r = 15 then some (false, [1, 4, 6, 27, 28, 29]) else if r = 17 then some (false, [1, 4, 27, 28, 29, 68, 69, 70]) else if r = 18 then some (false, [1, 4, 9, 27, 28, 29, 68, 69, 70]) else if r = 19 then some (false, [1, 4, 9, 10, 11, 27, 28, 29, 68, 69, 70]) else if r = 24 then some (false, [4]) else none, fun r => if r = 7 then [1, 4, 27, 28, 29] else if r = 16 then [1, 4, 27, 28, 29, 68, 69, 70] else []⟩
def S25 : SCode :=
 (.seq (.ops [⟨none, (some 1), .bx 1 55 3 (.s 0), false⟩,
   ⟨none, (some 2), .mv 2 (.k (Value.string ⟨#[]⟩)), false⟩,
   ⟨none, (some 3), .mv 3 (.k (Value.int .i64 0)), false⟩])
 (.seq (.seq (.seq (.keep [1]) (.ops [⟨none, (some 12), .fa 12 0 (.s 1), false⟩,
   ⟨none, (some 13), .ld 13 false 1 (.s 12), false⟩,
   ⟨none, (some 14), .lens 14 (.s 13), false⟩,
   ⟨none, (some 15), .bin 15 .gtr (.s 14) (.k (Value.int .i64 64)), false⟩,
   ⟨none, (some 16), .mv 16 (.s 15), false⟩,
   ⟨(some (16, false)), (some 17), .fa 17 1 (.s 1), false⟩,
   ⟨(some (16, false)), (some 18), .ld 18 false 1 (.s 17), false⟩,
   ⟨(some (16, false)), (some 19), .lens 19 (.s 18), false⟩,
   ⟨(some (16, false)), (some 20), .bin 20 .gtr (.s 19) (.k (Value.int .i64 64)), false⟩,
   ⟨none, (some 21), .pk 21 (.s 16) (.k (Value.bool true)) (.s 20), true⟩]))
 (.cond (.s 21) (.seq (.ops [⟨none, (some 2), .mv 2 (.k (Value.string ⟨#[]⟩)), false⟩,
   ⟨none, (some 3), .mv 3 (.k (Value.int .i64 253)), false⟩])
 .ret) .skip))
 (.seq (.seq (.seq (.keep [1]) (.ops [⟨none, (some 22), .fa 22 2 (.s 1), false⟩,
   ⟨none, (some 23), .ld 23 false 1 (.s 22), false⟩,
   ⟨none, (some 24), .len 24 (.s 23), false⟩,
   ⟨none, (some 25), .bin 25 .gtr (.s 24) (.k (Value.int .i64 4096)), false⟩]))
 (.cond (.s 25) (.seq (.ops [⟨none, (some 2), .mv 2 (.k (Value.string ⟨#[]⟩)), false⟩,
   ⟨none, (some 3), .mv 3 (.k (Value.int .i64 9)), false⟩])
 .ret) .skip))
 (.seq (.ops [⟨none, (some 4), .alb 4 117 5, false⟩])
 (.seq (.seq (.seq (.keep [1, 4]) (.ops [⟨none, (some 26), .fa 26 2 (.s 1), false⟩,
   ⟨none, (some 27), .ld 27 false 1 (.s 26), false⟩,
   ⟨none, (some 28), .len 28 (.s 27), false⟩,
   ⟨none, (some 29), .mv 29 (.k (Value.int .i64 0)), false⟩]))
 (.block 0 (.loop [1, 4, 27, 28, 29] (.seq (.ops [⟨none, (some 30), .bin 30 .lss (.s 29) (.s 28), false⟩])
 (.seq (.cond (.s 30) .skip (.exit 0))
 (.seq (.block 1 (.seq (.seq (.keep [1, 4, 27, 28, 29]) (.ops [⟨none, (some 31), .mv 31 (.s 29), false⟩,
   ⟨none, (some 32), .ia 32 5 (.s 27) (.s 29), false⟩,
   ⟨none, (some 33), .ld 33 true 5 (.s 32), false⟩,
   ⟨none, (some 6), .al 6 47 [(Value.int .i64 0), (Value.int .i64 0), (Value.int .i64 0), (Value.int .i64 0), (Value.slice none 0 0)], false⟩,
   ⟨none, (some 5), .mv 5 (.s 31), false⟩,
   ⟨none, none, .st true 5 (.s 6) (.s 33), false⟩]))
 (.seq (.seq (.seq (.keep [1, 4, 5, 6, 27, 28, 29]) (.ops [⟨none, (some 34), .ld 34 true 5 (.s 6), false⟩,
   ⟨none, (some 35), .call (some 35) 22 false [(.s 34)], false⟩,
   ⟨none, (some 7), .mv 7 (.s 35), false⟩]))
 (.seq (.ops [⟨none, (some 36), .mv 36 (.s 7), false⟩,
   ⟨none, (some 37), .bin 37 .neq (.s 36) (.k (Value.int .i64 0)), false⟩])
 (.cond (.s 37) (.seq (.seq (.keep [7]) (.ops [⟨none, (some 38), .mv 38 (.s 7), false⟩,
   ⟨none, (some 2), .mv 2 (.k (Value.string ⟨#[]⟩)), false⟩,
   ⟨none, (some 3), .mv 3 (.s 38), false⟩]))
 .ret) .skip)))
 (.seq (.seq (.ops [⟨none, (some 39), .mv 39 (.s 5), false⟩,
   ⟨none, (some 40), .bin 40 .eql (.s 39) (.k (Value.int .i64 0)), false⟩])
 (.cond (.s 40) (.seq (.keep [1, 4, 6, 27, 28, 29]) (.dr [([], true, ⟨none, (some 41), .fa 41 0 (.s 1), false⟩),
   ([1], true, ⟨none, (some 46), .fa 46 1 (.s 1), false⟩),
   ([], true, ⟨none, (some 42), .ld 42 false 1 (.s 41), false⟩),
   ([1], true, ⟨none, (some 47), .ld 47 false 1 (.s 46), false⟩),
   ([1], false, ⟨none, (some 43), .call (some 43) 68 false [(.s 42)], false⟩),
   ([1], true, ⟨none, (some 44), .bin 44 .add (.k (Value.string ⟨#[45, 45, 45, 32]⟩)) (.s 43), false⟩),
   ([1], true, ⟨none, (some 45), .bin 45 .add (.s 44) (.k (Value.string ⟨#[10, 43, 43, 43, 32]⟩)), false⟩),
   ([1], false, ⟨none, (some 48), .call (some 48) 68 false [(.s 47)], false⟩),
   ([], true, ⟨none, (some 49), .bin 49 .add (.s 45) (.s 48), false⟩),
   ([], true, ⟨none, (some 50), .bin 50 .add (.s 49) (.k (Value.string ⟨#[10]⟩)), true⟩),
   ([1], false, ⟨none, (some 51), .call (some 51) 67 false [(.s 4), (.s 50)], false⟩)])) .skip))
 (.seq (.seq (.keep [1, 4, 6, 27, 28, 29]) (.dr [([], true, ⟨none, (some 52), .fa 52 0 (.s 6), false⟩),
   ([], true, ⟨none, (some 54), .fa 54 1 (.s 6), false⟩),
   ([1], true, ⟨none, (some 59), .fa 59 2 (.s 6), false⟩),
   ([1], true, ⟨none, (some 61), .fa 61 3 (.s 6), true⟩),
   ([], true, ⟨none, (some 53), .ld 53 false 1 (.s 52), false⟩),
   ([], true, ⟨none, (some 55), .ld 55 false 1 (.s 54), false⟩),
   ([1], true, ⟨none, (some 60), .ld 60 false 1 (.s 59), false⟩),
   ([1], true, ⟨none, (some 62), .ld 62 false 1 (.s 61), false⟩),
   ([1], false, ⟨none, (some 56), .call (some 56) 69 false [(.s 53), (.s 55)], false⟩),
   ([1], true, ⟨none, (some 57), .bin 57 .add (.k (Value.string ⟨#[64, 64, 32, 45]⟩)) (.s 56), false⟩),
   ([1], true, ⟨none, (some 58), .bin 58 .add (.s 57) (.k (Value.string ⟨#[32, 43]⟩)), false⟩),
   ([1], false, ⟨none, (some 63), .call (some 63) 69 false [(.s 60), (.s 62)], false⟩),
   ([], true, ⟨none, (some 64), .bin 64 .add (.s 58) (.s 63), false⟩),
   ([], true, ⟨none, (some 65), .bin 65 .add (.s 64) (.k (Value.string ⟨#[32, 64, 64, 10]⟩)), false⟩),
   ([1], false, ⟨none, (some 66), .call (some 66) 67 false [(.s 4), (.s 65)], false⟩)]))
 (.seq (.seq (.keep [1, 4, 6, 27, 28, 29]) (.ops [⟨none, (some 67), .fa 67 4 (.s 6), false⟩,
   ⟨none, (some 68), .ld 68 false 1 (.s 67), false⟩,
   ⟨none, (some 69), .len 69 (.s 68), false⟩,
   ⟨none, (some 70), .mv 70 (.k (Value.int .i64 0)), false⟩]))
 (.block 2 (.loop [1, 4, 27, 28, 29, 68, 69, 70] (.seq (.ops [⟨none, (some 71), .bin 71 .lss (.s 70) (.s 69), false⟩])
 (.seq (.cond (.s 71) .skip (.exit 2))
 (.seq (.block 3 (.seq (.seq (.keep [1, 4, 27, 28, 29, 68, 69, 70]) (.ops [⟨none, (some 72), .ia 72 2 (.s 68) (.s 70), false⟩,
   ⟨none, (some 73), .ld 73 true 2 (.s 72), false⟩,
   ⟨none, (some 9), .al 9 103 [(Value.int .u8 0), (Value.string ⟨#[]⟩)], false⟩,
   ⟨none, none, .st true 2 (.s 9) (.s 73), false⟩]))
 (.seq (.seq (.keep [1, 4, 9, 27, 28, 29, 68, 69, 70]) (.ops [⟨none, (some 75), .fa 75 1 (.s 9), false⟩,
   ⟨none, (some 76), .ld 76 false 1 (.s 75), false⟩,
   ⟨none, (some 77), .call (some 77) 18 false [(.s 76)], false⟩,
   ⟨none, (some 74), .mv 74 (.s 77), false⟩,
   ⟨none, (some 78), .ex 78 (.s 74) 0, false⟩,
   ⟨none, (some 79), .ex 79 (.s 74) 1, false⟩,
   ⟨none, (some 10), .mv 10 (.s 78), false⟩,
   ⟨none, (some 11), .mv 11 (.s 79), false⟩]))
 (.seq (.seq (.keep [1, 4, 9, 10, 11, 27, 28, 29, 68, 69, 70]) (.ops [⟨none, (some 80), .fa 80 0 (.s 9), false⟩,
   ⟨none, (some 81), .ld 81 false 1 (.s 80), false⟩,
   ⟨none, (some 82), .cvi 82 .i32 (.s 81), false⟩,
   ⟨none, (some 83), .i2s 83 (.s 82), false⟩,
   ⟨none, (some 84), .mv 84 (.s 10), false⟩,
   ⟨none, (some 85), .bin 85 .add (.s 83) (.s 84), false⟩,
   ⟨none, (some 86), .bin 86 .add (.s 85) (.k (Value.string ⟨#[10]⟩)), false⟩,
   ⟨none, (some 87), .call (some 87) 67 false [(.s 4), (.s 86)], false⟩]))
 (.seq (.ops [⟨none, (some 88), .mv 88 (.s 11), false⟩,
   ⟨none, (some 89), .not 89 (.s 88), false⟩])
 (.cond (.s 89) (.ops [⟨none, (some 90), .call (some 90) 67 false [(.s 4), (.k (Value.string ⟨#[92, 32, 78, 111, 32, 110, 101, 119, 108, 105, 110, 101, 32, 97, 116, 32, 101, 110, 100, 32, 111, 102, 32, 102, 105, 108, 101, 10]⟩))], false⟩]) .skip))))))
 (.ops [⟨none, (some 91), .binc 91 .add (.s 70) (.k (Value.int .i64 1)), false⟩,
   ⟨none, (some 70), .mv 70 (.s 91), false⟩]))))))))))))
 (.ops [⟨none, (some 92), .binc 92 .add (.s 29) (.k (Value.int .i64 1)), false⟩,
   ⟨none, (some 29), .mv 29 (.s 92), false⟩])))))))
 (.seq (.seq (.keep [4]) (.ops [⟨none, (some 93), .call (some 93) 70 false [(.s 4)], false⟩,
   ⟨none, (some 2), .mv 2 (.s 93), false⟩,
   ⟨none, (some 3), .mv 3 (.k (Value.int .i64 0)), false⟩]))
 .ret))))))
def R25 : List RR := [.sl 2, .sl 3]
theorem sd25 : SdT Tryz.prog 25 94 S25 R25 := fun hT hl hC hit => sdX (F := Tryz.f25) (A := A25) mo (by kernel_rfl) (by kernel_rfl) (by kernel_rfl) (by kernel_rfl) hT hl hC hit
def A63 : Ann := ⟨fun _ _ => 0, fun _ => none, fun r => if r = 1 then some (false, [2, 3]) else none, fun _ => []⟩
def S63 : SCode :=
 (.seq (.ops [⟨none, (some 2), .bx 2 55 3 (.s 0), false⟩,
   ⟨none, (some 3), .bx 3 55 3 (.s 1), false⟩,
   ⟨none, (some 4), .mv 4 (.k (Value.bool false)), false⟩])
 (.seq (.seq (.keep [2, 3]) (.ops [⟨none, (some 5), .ld 5 true 3 (.s 2), false⟩,
   ⟨none, (some 6), .ld 6 true 3 (.s 3), false⟩,
   ⟨none, (some 7), .call (some 7) 71 false [(.s 5), (.s 6)], false⟩,
   ⟨none, (some 4), .mv 4 (.s 7), false⟩]))
 .ret))
def R63 : List RR := [.sl 4]
theorem sd63 : SdT Tryz.prog 63 8 S63 R63 := fun hT hl hC hit => sdX (F := Tryz.f63) (A := A63) mo (by kernel_rfl) (by kernel_rfl) (by kernel_rfl) (by kernel_rfl) hT hl hC hit
def A71 : Ann := ⟨fun r i => if r = 1 ∧ i = 17 then 1 else 0, fun _ => none, fun r => if r = 1 then some (false, [2, 3]) else none, fun _ => []⟩
def S71 : SCode :=
 (.seq (.ops [⟨none, (some 2), .bx 2 55 3 (.s 0), false⟩,
   ⟨none, (some 3), .bx 3 55 3 (.s 1), false⟩,
   ⟨none, (some 4), .mv 4 (.k (Value.bool false)), false⟩])
 (.seq (.seq (.keep [2, 3]) (.ops [⟨none, (some 5), .fa 5 0 (.s 2), false⟩,
   ⟨none, (some 6), .ld 6 false 1 (.s 5), false⟩,
   ⟨none, (some 7), .fa 7 0 (.s 3), false⟩,
   ⟨none, (some 8), .ld 8 false 1 (.s 7), false⟩,
   ⟨none, (some 9), .bin 9 .eql (.s 6) (.s 8), false⟩,
   ⟨none, (some 10), .mv 10 (.s 9), false⟩,
   ⟨(some (10, true)), (some 11), .fa 11 1 (.s 2), false⟩,
   ⟨(some (10, true)), (some 12), .ld 12 false 1 (.s 11), false⟩,
   ⟨(some (10, true)), (some 13), .fa 13 1 (.s 3), false⟩,
   ⟨(some (10, true)), (some 14), .ld 14 false 1 (.s 13), true⟩,
   ⟨(some (10, true)), (some 15), .bin 15 .eql (.s 12) (.s 14), false⟩,
   ⟨none, (some 16), .pk 16 (.s 10) (.s 15) (.k (Value.bool false)), false⟩,
   ⟨none, (some 17), .mv 17 (.s 16), false⟩,
   ⟨(some (17, true)), (some 18), .fa 18 2 (.s 2), false⟩,
   ⟨(some (17, true)), (some 19), .ld 19 false 1 (.s 18), false⟩,
   ⟨(some (17, true)), (some 20), .fa 20 2 (.s 3), false⟩,
   ⟨(some (17, true)), (some 21), .ld 21 false 1 (.s 20), false⟩,
   ⟨(some (17, true)), (some 22), .call (some 22) 21 true [(.s 19), (.s 21)], false⟩,
   ⟨none, (some 23), .pk 23 (.s 17) (.s 22) (.k (Value.bool false)), false⟩,
   ⟨none, (some 4), .mv 4 (.s 23), true⟩]))
 .ret))
def R71 : List RR := [.sl 4]
theorem sd71 : SdT Tryz.prog 71 24 S71 R71 := fun hT hl hC hit => sdX (F := Tryz.f71) (A := A71) mo (by kernel_rfl) (by kernel_rfl) (by kernel_rfl) (by kernel_rfl) hT hl hC hit
def A22 : Ann := ⟨fun r i => if r = 2 ∧ i = 7 then 1 else if r = 2 ∧ i = 13 then 1 else if r = 2 ∧ i = 19 then 1 else if r = 2 ∧ i = 27 then 1 else if r = 2 ∧ i = 35 then 1 else if r = 6 ∧ i = 11 then 1 else 0, fun r => if r = 6 then some [(0, true, []), (1, true, []), (2, true, []), (3, false, []), (4, true, []), (5, true, []), (6, true, []), (7, true, []), (8, true, []), (9, true, []), (10, false, []), (11, true, []), (12, true, []), (13, true, []), (14, true, [])] else none, fun r => if r = 2 then some (false, [1, 3]) else if r = 4 then some (false, [1, 3]) else if r = 6 then some (false, [1, 3]) else if r = 8 then some (false, [1, 3]) else none, fun _ => []⟩
def S22 : SCode :=
 (.seq (.ops [⟨none, (some 1), .bx 1 47 5 (.s 0), false⟩,
   ⟨none, (some 2), .mv 2 (.k (Value.int .i64 0)), false⟩])
 (.seq (.ops [⟨none, (some 3), .mv 3 (.f 57), false⟩])
 (.seq (.block 0 (.seq (.seq (.keep [1, 3]) (.ops [⟨none, (some 5), .fa 5 0 (.s 1), false⟩,
   ⟨none, (some 6), .ld 6 false 1 (.s 5), false⟩,
   ⟨none, (some 7), .call (some 7) 58 false [(.s 6)], false⟩,
   ⟨none, (some 8), .not 8 (.s 7), false⟩,
   ⟨none, (some 9), .mv 9 (.s 8), false⟩,
   ⟨(some (9, false)), (some 10), .fa 10 1 (.s 1), false⟩,
   ⟨(some (9, false)), (some 11), .ld 11 false 1 (.s 10), false⟩,
   ⟨(some (9, false)), (some 12), .call (some 12) 58 true [(.s 11)], false⟩,
   ⟨(some (9, false)), (some 13), .not 13 (.s 12), false⟩,
   ⟨none, (some 14), .pk 14 (.s 9) (.k (Value.bool true)) (.s 13), true⟩,
   ⟨none, (some 15), .mv 15 (.s 14), false⟩,
   ⟨(some (15, false)), (some 16), .fa 16 2 (.s 1), false⟩,
   ⟨(some (15, false)), (some 17), .ld 17 false 1 (.s 16), false⟩,
   ⟨(some (15, false)), (some 18), .call (some 18) 58 true [(.s 17)], false⟩,
   ⟨(some (15, false)), (some 19), .not 19 (.s 18), false⟩,
   ⟨none, (some 20), .pk 20 (.s 15) (.k (Value.bool true)) (.s 19), false⟩,
   ⟨none, (some 21), .mv 21 (.s 20), false⟩,
   ⟨(some (21, false)), (some 22), .fa 22 3 (.s 1), false⟩,
   ⟨(some (21, false)), (some 23), .ld 23 false 1 (.s 22), false⟩,
   ⟨(some (21, false)), (some 24), .call (some 24) 58 true [(.s 23)], true⟩,
   ⟨(some (21, false)), (some 25), .not 25 (.s 24), false⟩,
   ⟨none, (some 26), .pk 26 (.s 21) (.k (Value.bool true)) (.s 25), false⟩,
   ⟨none, (some 27), .mv 27 (.s 26), false⟩,
   ⟨(some (27, false)), (some 28), .fa 28 0 (.s 1), false⟩,
   ⟨(some (27, false)), (some 29), .ld 29 false 1 (.s 28), false⟩,
   ⟨(some (27, false)), (some 30), .fa 30 1 (.s 1), false⟩,
   ⟨(some (27, false)), (some 31), .ld 31 false 1 (.s 30), false⟩,
   ⟨(some (27, false)), (some 32), .mm 32 true (.k (Value.int .i64 1)) [(.s 31)], false⟩,
   ⟨(some (27, false)), (some 33), .bin 33 .lss (.s 29) (.s 32), false⟩,
   ⟨none, (some 34), .pk 34 (.s 27) (.k (Value.bool true)) (.s 33), true⟩,
   ⟨none, (some 35), .mv 35 (.s 34), false⟩,
   ⟨(some (35, false)), (some 36), .fa 36 2 (.s 1), false⟩,
   ⟨(some (35, false)), (some 37), .ld 37 false 1 (.s 36), false⟩,
   ⟨(some (35, false)), (some 38), .fa 38 3 (.s 1), false⟩,
   ⟨(some (35, false)), (some 39), .ld 39 false 1 (.s 38), false⟩,
   ⟨(some (35, false)), (some 40), .mm 40 true (.k (Value.int .i64 1)) [(.s 39)], false⟩,
   ⟨(some (35, false)), (some 41), .bin 41 .lss (.s 37) (.s 40), false⟩,
   ⟨none, (some 42), .pk 42 (.s 35) (.k (Value.bool true)) (.s 41), false⟩,
   ⟨none, (some 4), .mv 4 (.s 42), false⟩]))
 (.cond (.s 4) (.seq (.ops [⟨none, (some 2), .mv 2 (.k (Value.int .i64 2)), false⟩])
 .ret) (.seq (.seq (.keep [1, 3]) (.ops [⟨none, (some 44), .ld 44 true 5 (.s 1), false⟩,
   ⟨none, (some 45), .call (some 45) 59 false [(.s 44)], false⟩,
   ⟨none, (some 46), .not 46 (.s 45), false⟩,
   ⟨none, (some 43), .mv 43 (.s 46), false⟩]))
 (.cond (.s 43) (.seq (.ops [⟨none, (some 2), .mv 2 (.k (Value.int .i64 6)), false⟩])
 .ret) (.seq (.seq (.keep [1, 3]) (.dr [([], true, ⟨none, (some 48), .fa 48 1 (.s 1), false⟩),
   ([], true, ⟨none, (some 49), .ld 49 false 1 (.s 48), false⟩),
   ([], true, ⟨none, (some 50), .ld 50 true 5 (.s 1), false⟩),
   ([], false, ⟨none, (some 51), .call (some 51) 60 false [(.s 50)], false⟩),
   ([], true, ⟨none, (some 52), .len 52 (.s 51), false⟩),
   ([], true, ⟨none, (some 53), .bin 53 .neq (.s 49) (.s 52), false⟩),
   ([], true, ⟨none, (some 54), .mv 54 (.s 53), false⟩),
   ([], true, ⟨(some (54, false)), (some 55), .fa 55 3 (.s 1), false⟩),
   ([], true, ⟨(some (54, false)), (some 56), .ld 56 false 1 (.s 55), false⟩),
   ([], true, ⟨(some (54, false)), (some 57), .ld 57 true 5 (.s 1), true⟩),
   ([], false, ⟨(some (54, false)), (some 58), .call (some 58) 61 false [(.s 57)], false⟩),
   ([], true, ⟨(some (54, false)), (some 59), .len 59 (.s 58), false⟩),
   ([], true, ⟨(some (54, false)), (some 60), .bin 60 .neq (.s 56) (.s 59), false⟩),
   ([], true, ⟨none, (some 61), .pk 61 (.s 54) (.k (Value.bool true)) (.s 60), false⟩),
   ([], true, ⟨none, (some 47), .mv 47 (.s 61), false⟩)]))
 (.cond (.s 47) (.seq (.ops [⟨none, (some 2), .mv 2 (.k (Value.int .i64 120)), false⟩])
 .ret) (.seq (.seq (.keep [1, 3]) (.ops [⟨none, (some 63), .fa 63 4 (.s 1), false⟩,
   ⟨none, (some 64), .ld 64 false 1 (.s 63), false⟩,
   ⟨none, (some 65), .mv 65 (.s 3), false⟩,
   ⟨none, (some 66), .call (some 66) 62 false [(.s 64), (.s 65)], false⟩,
   ⟨none, (some 67), .not 67 (.s 66), false⟩,
   ⟨none, (some 62), .mv 62 (.s 67), false⟩]))
 (.cond (.s 62) (.seq (.ops [⟨none, (some 2), .mv 2 (.k (Value.int .i64 50)), false⟩])
 .ret) .skip)))))))))
 (.seq (.ops [⟨none, (some 2), .mv 2 (.k (Value.int .i64 0)), false⟩])
 .ret))))
def R22 : List RR := [.sl 2]
theorem sd22 : SdT Tryz.prog 22 68 S22 R22 := fun hT hl hC hit => sdX (F := Tryz.f22) (A := A22) mo (by kernel_rfl) (by kernel_rfl) (by kernel_rfl) (by kernel_rfl) hT hl hC hit
def A57 : Ann := ⟨fun _ _ => 0, fun _ => none, fun r => if r = 1 then some (false, [1]) else none, fun _ => []⟩
def S57 : SCode :=
 (.seq (.ops [⟨none, (some 1), .bx 1 103 2 (.s 0), false⟩,
   ⟨none, (some 2), .mv 2 (.k (Value.bool false)), false⟩])
 (.seq (.seq (.keep [1]) (.ops [⟨none, (some 3), .fa 3 0 (.s 1), false⟩,
   ⟨none, (some 4), .ld 4 false 1 (.s 3), false⟩,
   ⟨none, (some 5), .bin 5 .neq (.s 4) (.k (Value.int .u8 32)), false⟩,
   ⟨none, (some 2), .mv 2 (.s 5), false⟩]))
 .ret))
def R57 : List RR := [.sl 2]
theorem sd57 : SdT Tryz.prog 57 6 S57 R57 := fun hT hl hC hit => sdX (F := Tryz.f57) (A := A57) mo (by kernel_rfl) (by kernel_rfl) (by kernel_rfl) (by kernel_rfl) hT hl hC hit
def A69 : Ann := ⟨fun _ _ => 0, fun _ => none, fun r => if r = 2 then some (false, [0]) else if r = 3 then some (false, [0, 1]) else none, fun _ => []⟩
def S69 : SCode :=
 (.seq (.ops [⟨none, (some 4), .mv 4 (.k (Value.string ⟨#[]⟩)), false⟩])
 (.seq (.seq (.ops [⟨none, (some 5), .mv 5 (.s 1), false⟩,
   ⟨none, (some 6), .bin 6 .eql (.s 5) (.k (Value.int .i64 1)), false⟩])
 (.cond (.s 6) (.seq (.seq (.keep [0]) (.ops [⟨none, (some 7), .mv 7 (.s 0), false⟩,
   ⟨none, (some 8), .call (some 8) 105 false [(.s 7)], false⟩,
   ⟨none, (some 4), .mv 4 (.s 8), false⟩]))
 .ret) .skip))
 (.seq (.seq (.keep [0, 1]) (.ops [⟨none, (some 9), .mv 9 (.s 0), false⟩,
   ⟨none, (some 10), .call (some 10) 105 false [(.s 9)], false⟩,
   ⟨none, (some 11), .bin 11 .add (.s 10) (.k (Value.string ⟨#[44]⟩)), false⟩,
   ⟨none, (some 12), .mv 12 (.s 1), false⟩,
   ⟨none, (some 13), .call (some 13) 105 false [(.s 12)], false⟩,
   ⟨none, (some 14), .bin 14 .add (.s 11) (.s 13), false⟩,
   ⟨none, (some 4), .mv 4 (.s 14), false⟩]))
 .ret)))
def R69 : List RR := [.sl 4]
theorem sd69 : SdT Tryz.prog 69 15 S69 R69 := fun hT hl hC hit => sdX (F := Tryz.f69) (A := A69) mo (by kernel_rfl) (by kernel_rfl) (by kernel_rfl) (by kernel_rfl) hT hl hC hit
def A21 : Ann := ⟨fun _ _ => 0, fun r => if r = 6 then some [(0, true, []), (1, true, []), (2, true, []), (4, true, []), (5, true, []), (6, true, []), (3, true, []), (7, true, []), (8, false, [0, 1, 2, 3, 4, 5, 6, 7, 8, 9, 10, 11, 12, 13, 14, 15]), (9, true, [])] else none, fun r => if r = 1 then some (false, [0, 1]) else if r = 4 then some (false, [0, 1, 5]) else if r = 5 then some (false, [0, 1, 5]) else if r = 6 then some (false, [0, 1, 5]) else none, fun r => if r = 4 then [0, 1, 5] else []⟩
def S21 : SCode :=
 (.seq (.ops [⟨none, (some 4), .mv 4 (.k (Value.bool false)), false⟩])
 (.seq (.seq (.seq (.keep [0, 1]) (.ops [⟨none, (some 6), .mv 6 (.s 0), false⟩,
   ⟨none, (some 7), .len 7 (.s 6), false⟩,
   ⟨none, (some 8), .mv 8 (.s 1), false⟩,
   ⟨none, (some 9), .len 9 (.s 8), false⟩,
   ⟨none, (some 10), .bin 10 .neq (.s 7) (.s 9), false⟩]))
 (.cond (.s 10) (.seq (.ops [⟨none, (some 4), .mv 4 (.k (Value.bool false)), false⟩])
 .ret) .skip))
 (.seq (.seq (.ops [⟨none, (some 5), .mv 5 (.k (Value.int .i64 0)), false⟩])
 (.block 0 (.loop [0, 1, 5] (.seq (.seq (.seq (.keep [0, 1, 5]) (.ops [⟨none, (some 11), .mv 11 (.s 5), false⟩,
   ⟨none, (some 12), .mv 12 (.s 0), false⟩,
   ⟨none, (some 13), .len 13 (.s 12), false⟩,
   ⟨none, (some 14), .bin 14 .lss (.s 11) (.s 13), false⟩]))
 (.cond (.s 14) .skip (.exit 0)))
 (.seq (.block 1 (.seq (.seq (.keep [0, 1, 5]) (.dr [([], true, ⟨none, (some 17), .mv 17 (.s 0), false⟩),
   ([], true, ⟨none, (some 18), .mv 18 (.s 5), false⟩),
   ([], true, ⟨none, (some 19), .ia 19 5 (.s 17) (.s 18), false⟩),
   ([], true, ⟨none, (some 21), .mv 21 (.s 1), false⟩),
   ([], true, ⟨none, (some 22), .mv 22 (.s 5), false⟩),
   ([], true, ⟨none, (some 23), .ia 23 5 (.s 21) (.s 22), false⟩),
   ([], true, ⟨none, (some 20), .ld 20 true 5 (.s 19), false⟩),
   ([], true, ⟨none, (some 24), .ld 24 true 5 (.s 23), false⟩),
   ([0, 1, 2, 3, 4, 5, 6, 7, 8, 9, 10, 11, 12, 13, 14, 15], false, ⟨none, (some 25), .call (some 25) 56 false [(.s 20), (.s 24)], false⟩),
   ([], true, ⟨none, (some 26), .not 26 (.s 25), true⟩)]))
 (.cond (.s 26) (.seq (.ops [⟨none, (some 4), .mv 4 (.k (Value.bool false)), false⟩])
 .ret) .skip)))
 (.seq (.keep [0, 1, 5]) (.ops [⟨none, (some 15), .mv 15 (.s 5), false⟩,
   ⟨none, (some 16), .binc 16 .add (.s 15) (.k (Value.int .i64 1)), false⟩,
   ⟨none, (some 5), .mv 5 (.s 16), false⟩])))))))
 (.seq (.ops [⟨none, (some 4), .mv 4 (.k (Value.bool true)), false⟩])
 .ret))))
def R21 : List RR := [.sl 4]
theorem sd21 : SdT Tryz.prog 21 27 S21 R21 := fun hT hl hC hit => sdX (F := Tryz.f21) (A := A21) mo (by kernel_rfl) (by kernel_rfl) (by kernel_rfl) (by kernel_rfl) hT hl hC hit
def A58 : Ann := ⟨fun _ _ => 0, fun _ => none, fun r => if r = 1 then some (false, [0]) else none, fun _ => []⟩
def S58 : SCode :=
 (.seq (.ops [⟨none, (some 2), .mv 2 (.k (Value.bool false)), false⟩])
 (.seq (.seq (.keep [0]) (.ops [⟨none, (some 3), .mv 3 (.s 0), false⟩,
   ⟨none, (some 4), .bin 4 .geq (.s 3) (.k (Value.int .i64 0)), false⟩,
   ⟨none, (some 5), .mv 5 (.s 4), false⟩,
   ⟨(some (5, true)), (some 6), .mv 6 (.s 0), false⟩,
   ⟨(some (5, true)), (some 7), .bin 7 .leq (.s 6) (.k (Value.int .i64 2147483647)), false⟩,
   ⟨none, (some 8), .pk 8 (.s 5) (.s 7) (.k (Value.bool false)), false⟩,
   ⟨none, (some 2), .mv 2 (.s 8), false⟩]))
 .ret))
def R58 : List RR := [.sl 2]
theorem sd58 : SdT Tryz.prog 58 9 S58 R58 := fun hT hl hC hit => sdX (F := Tryz.f58) (A := A58) mo (by kernel_rfl) (by kernel_rfl) (by kernel_rfl) (by kernel_rfl) hT hl hC hit
def A59 : Ann := ⟨fun r i => if r = 6 ∧ i = 18 then 1 else 0, fun r => if r = 5 then some [(0, true, []), (8, true, []), (1, true, []), (2, true, []), (3, true, []), (4, true, []), (5, true, []), (6, true, []), (7, true, []), (9, true, []), (10, true, []), (11, true, []), (12, true, []), (16, true, []), (13, true, []), (14, true, []), (15, true, []), (17, true, [])] else none, fun r => if r = 1 then some (false, [1, 2]) else if r = 2 then some (false, [1, 2, 3, 4]) else if r = 4 then some (false, [2, 3, 4, 6]) else if r = 5 then some (false, [2, 3, 4, 6, 7]) else if r = 6 then some (false, [2, 3, 4, 6, 7, 8, 9]) else if r = 8 then some (false, [2, 3, 4, 7, 8, 9]) else if r = 10 then some (false, [3, 4, 8, 9]) else none, fun r => if r = 4 then [2, 3, 4] else []⟩
def S59 : SCode :=
 (.seq (.ops [⟨none, (some 1), .bx 1 47 5 (.s 0), false⟩,
   ⟨none, (some 2), .al 2 4 [(Value.bool false)], false⟩])
 (.seq (.seq (.keep [1, 2]) (.ops [⟨none, (some 3), .al 3 4 [(Value.bool false)], false⟩,
   ⟨none, (some 4), .al 4 4 [(Value.bool false)], false⟩,
   ⟨none, none, .st false 1 (.s 3) (.k (Value.bool false)), false⟩,
   ⟨none, none, .st false 1 (.s 4) (.k (Value.bool false)), false⟩]))
 (.seq (.seq (.seq (.keep [1, 2, 3, 4]) (.ops [⟨none, (some 10), .fa 10 4 (.s 1), false⟩,
   ⟨none, (some 11), .ld 11 false 1 (.s 10), false⟩,
   ⟨none, (some 12), .call (some 12) 115 false [(.s 11)], false⟩]))
 (.block 0 (.each (.s 12) [13, 14] [2, 3, 4] (.ops [⟨none, (some 6), .al 6 103 [(Value.int .u8 0), (Value.string ⟨#[]⟩)], false⟩,
   ⟨none, none, .st true 2 (.s 6) (.s 14), false⟩]) (.block 1 (.seq (.seq (.keep [2, 3, 4, 6]) (.ops [⟨none, (some 15), .fa 15 1 (.s 6), false⟩,
   ⟨none, (some 16), .ld 16 false 1 (.s 15), false⟩,
   ⟨none, (some 17), .call (some 17) 116 false [(.s 16), (.k (Value.int .u8 10))], false⟩,
   ⟨none, (some 7), .mv 7 (.s 17), false⟩]))
 (.seq (.seq (.keep [2, 3, 4, 6, 7]) (.dr [([], true, ⟨none, (some 18), .fa 18 0 (.s 6), false⟩),
   ([], true, ⟨none, (some 26), .fa 26 0 (.s 6), false⟩),
   ([], true, ⟨none, (some 19), .ld 19 false 1 (.s 18), false⟩),
   ([], true, ⟨none, (some 20), .bin 20 .eql (.s 19) (.k (Value.int .u8 32)), false⟩),
   ([], true, ⟨none, (some 21), .mv 21 (.s 20), false⟩),
   ([], true, ⟨(some (21, false)), (some 22), .fa 22 0 (.s 6), false⟩),
   ([], true, ⟨(some (21, false)), (some 23), .ld 23 false 1 (.s 22), false⟩),
   ([], true, ⟨(some (21, false)), (some 24), .bin 24 .eql (.s 23) (.k (Value.int .u8 45)), false⟩),
   ([], true, ⟨none, (some 25), .pk 25 (.s 21) (.k (Value.bool true)) (.s 24), false⟩),
   ([], true, ⟨none, (some 27), .ld 27 false 1 (.s 26), true⟩),
   ([], true, ⟨none, (some 28), .bin 28 .eql (.s 27) (.k (Value.int .u8 32)), false⟩),
   ([], true, ⟨none, (some 29), .mv 29 (.s 28), false⟩),
   ([], true, ⟨(some (29, false)), (some 30), .fa 30 0 (.s 6), false⟩),
   ([], true, ⟨none, (some 8), .mv 8 (.s 25), false⟩),
   ([], true, ⟨(some (29, false)), (some 31), .ld 31 false 1 (.s 30), false⟩),
   ([], true, ⟨(some (29, false)), (some 32), .bin 32 .eql (.s 31) (.k (Value.int .u8 43)), false⟩),
   ([], true, ⟨none, (some 33), .pk 33 (.s 29) (.k (Value.bool true)) (.s 32), false⟩),
   ([], true, ⟨none, (some 9), .mv 9 (.s 33), false⟩)]))
 (.seq (.seq (.seq (.keep [2, 3, 4, 6, 7, 8, 9]) (.ops [⟨none, (some 34), .mv 34 (.s 8), false⟩,
   ⟨none, (some 35), .not 35 (.s 34), false⟩,
   ⟨none, (some 36), .mv 36 (.s 35), false⟩,
   ⟨(some (36, true)), (some 37), .mv 37 (.s 9), false⟩,
   ⟨(some (36, true)), (some 38), .not 38 (.s 37), false⟩,
   ⟨none, (some 39), .pk 39 (.s 36) (.s 38) (.k (Value.bool false)), false⟩,
   ⟨none, (some 40), .mv 40 (.s 39), false⟩,
   ⟨(some (40, false)), (some 41), .fa 41 1 (.s 6), false⟩,
   ⟨(some (40, false)), (some 42), .ld 42 false 1 (.s 41), false⟩,
   ⟨(some (40, false)), (some 43), .bin 43 .eql (.s 42) (.k (Value.string ⟨#[]⟩)), true⟩,
   ⟨none, (some 44), .pk 44 (.s 40) (.k (Value.bool true)) (.s 43), false⟩,
   ⟨none, (some 45), .mv 45 (.s 44), false⟩,
   ⟨(some (45, false)), (some 46), .mv 46 (.s 7), false⟩,
   ⟨(some (45, false)), (some 47), .bin 47 .geq (.s 46) (.k (Value.int .i64 0)), false⟩,
   ⟨(some (45, false)), (some 48), .mv 48 (.s 47), false⟩,
   ⟨(some (48, true)), (some 49), .mv 49 (.s 7), false⟩,
   ⟨(some (48, true)), (some 50), .fa 50 1 (.s 6), false⟩,
   ⟨(some (48, true)), (some 51), .ld 51 false 1 (.s 50), false⟩,
   ⟨(some (48, true)), (some 52), .lens 52 (.s 51), false⟩,
   ⟨(some (48, true)), (some 53), .binc 53 .sub (.s 52) (.k (Value.int .i64 1)), true⟩,
   ⟨(some (48, true)), (some 54), .bin 54 .lss (.s 49) (.s 53), false⟩,
   ⟨(some (45, false)), (some 55), .pk 55 (.s 48) (.s 54) (.k (Value.bool false)), false⟩,
   ⟨none, (some 56), .pk 56 (.s 45) (.k (Value.bool true)) (.s 55), false⟩]))
 (.cond (.s 56) (.seq (.ops [⟨none, none, .st false 1 (.s 2) (.k (Value.bool false)), false⟩])
 .ret) .skip))
 (.seq (.seq (.seq (.keep [2, 3, 4, 7, 8, 9]) (.ops [⟨none, (some 57), .mv 57 (.s 7), false⟩,
   ⟨none, (some 58), .bin 58 .lss (.s 57) (.k (Value.int .i64 0)), false⟩,
   ⟨none, (some 59), .mv 59 (.s 58), false⟩,
   ⟨(some (59, true)), (some 60), .mv 60 (.s 8), false⟩,
   ⟨(some (59, true)), (some 61), .mv 61 (.s 60), false⟩,
   ⟨(some (61, true)), (some 62), .ld 62 false 1 (.s 3), false⟩,
   ⟨(some (59, true)), (some 63), .pk 63 (.s 61) (.s 62) (.k (Value.bool false)), false⟩,
   ⟨(some (59, true)), (some 64), .mv 64 (.s 63), false⟩,
   ⟨(some (64, false)), (some 65), .mv 65 (.s 9), false⟩,
   ⟨(some (64, false)), (some 66), .mv 66 (.s 65), true⟩,
   ⟨(some (66, true)), (some 67), .ld 67 false 1 (.s 4), false⟩,
   ⟨(some (64, false)), (some 68), .pk 68 (.s 66) (.s 67) (.k (Value.bool false)), false⟩,
   ⟨(some (59, true)), (some 69), .pk 69 (.s 64) (.k (Value.bool true)) (.s 68), false⟩,
   ⟨none, (some 70), .pk 70 (.s 59) (.s 69) (.k (Value.bool false)), false⟩]))
 (.cond (.s 70) (.seq (.ops [⟨none, none, .st false 1 (.s 2) (.k (Value.bool false)), false⟩])
 .ret) .skip))
 (.seq (.keep [3, 4, 8, 9]) (.ops [⟨none, (some 71), .ld 71 false 1 (.s 3), false⟩,
   ⟨none, (some 72), .mv 72 (.s 71), false⟩,
   ⟨(some (72, false)), (some 73), .mv 73 (.s 8), false⟩,
   ⟨none, (some 74), .pk 74 (.s 72) (.k (Value.bool true)) (.s 73), false⟩,
   ⟨none, (some 75), .ld 75 false 1 (.s 4), false⟩,
   ⟨none, (some 76), .mv 76 (.s 75), false⟩,
   ⟨(some (76, false)), (some 77), .mv 77 (.s 9), false⟩,
   ⟨none, (some 78), .pk 78 (.s 76) (.k (Value.bool true)) (.s 77), false⟩,
   ⟨none, none, .st false 1 (.s 3) (.s 74), false⟩,
   ⟨none, none, .st false 1 (.s 4) (.s 78), true⟩]))))))))))
 (.seq (.ops [⟨none, none, .st false 1 (.s 2) (.k (Value.bool true)), false⟩])
 .ret))))
def R59 : List RR := [.ce 2 false 1]
theorem sd59 : SdT Tryz.prog 59 79 S59 R59 := fun hT hl hC hit => sdX (F := Tryz.f59) (A := A59) mo (by kernel_rfl) (by kernel_rfl) (by kernel_rfl) (by kernel_rfl) hT hl hC hit
def A60 : Ann := ⟨fun _ _ => 0, fun _ => none, fun r => if r = 1 then some (false, [1]) else none, fun _ => []⟩
def S60 : SCode :=
 (.seq (.ops [⟨none, (some 1), .bx 1 47 5 (.s 0), false⟩,
   ⟨none, (some 2), .mv 2 (.k (Value.slice none 0 0)), false⟩])
 (.seq (.seq (.keep [1]) (.ops [⟨none, (some 3), .ld 3 true 5 (.s 1), false⟩,
   ⟨none, (some 4), .call (some 4) 117 false [(.s 3), (.k (Value.int .u8 45))], false⟩,
   ⟨none, (some 2), .mv 2 (.s 4), false⟩]))
 .ret))
def R60 : List RR := [.sl 2]
theorem sd60 : SdT Tryz.prog 60 5 S60 R60 := fun hT hl hC hit => sdX (F := Tryz.f60) (A := A60) mo (by kernel_rfl) (by kernel_rfl) (by kernel_rfl) (by kernel_rfl) hT hl hC hit
def A61 : Ann := ⟨fun _ _ => 0, fun _ => none, fun r => if r = 1 then some (false, [1]) else none, fun _ => []⟩
def S61 : SCode :=
 (.seq (.ops [⟨none, (some 1), .bx 1 47 5 (.s 0), false⟩,
   ⟨none, (some 2), .mv 2 (.k (Value.slice none 0 0)), false⟩])
 (.seq (.seq (.keep [1]) (.ops [⟨none, (some 3), .ld 3 true 5 (.s 1), false⟩,
   ⟨none, (some 4), .call (some 4) 117 false [(.s 3), (.k (Value.int .u8 43))], false⟩,
   ⟨none, (some 2), .mv 2 (.s 4), false⟩]))
 .ret))
def R61 : List RR := [.sl 2]
theorem sd61 : SdT Tryz.prog 61 5 S61 R61 := fun hT hl hC hit => sdX (F := Tryz.f61) (A := A61) mo (by kernel_rfl) (by kernel_rfl) (by kernel_rfl) (by kernel_rfl) hT hl hC hit
def A56 : Ann := ⟨fun r i => if r = 1 ∧ i = 29 then 1 else if r = 1 ∧ i = 32 then 1 else 0, fun r => if r = 6 then some [(0, true, []), (2, true, []), (5, true, []), (7, true, []), (1, true, []), (3, true, []), (4, true, []), (6, true, []), (8, true, []), (9, true, []), (10, true, [])] else none, fun r => if r = 1 then some (false, [2, 3]) else if r = 4 then some (false, [2, 3, 5]) else if r = 5 then some (false, [2, 3, 5]) else if r = 6 then some (false, [2, 3, 5]) else none, fun r => if r = 4 then [2, 3, 5] else []⟩
def S56 : SCode :=
 (.seq (.ops [⟨none, (some 2), .bx 2 47 5 (.s 0), false⟩,
   ⟨none, (some 3), .bx 3 47 5 (.s 1), false⟩,
   ⟨none, (some 4), .mv 4 (.k (Value.bool false)), false⟩])
 (.seq (.seq (.seq (.keep [2, 3]) (.ops [⟨none, (some 6), .fa 6 0 (.s 2), false⟩,
   ⟨none, (some 7), .ld 7 false 1 (.s 6), false⟩,
   ⟨none, (some 8), .fa 8 0 (.s 3), false⟩,
   ⟨none, (some 9), .ld 9 false 1 (.s 8), false⟩,
   ⟨none, (some 10), .bin 10 .neq (.s 7) (.s 9), false⟩,
   ⟨none, (some 11), .mv 11 (.s 10), false⟩,
   ⟨(some (11, false)), (some 12), .fa 12 1 (.s 2), false⟩,
   ⟨(some (11, false)), (some 13), .ld 13 false 1 (.s 12), false⟩,
   ⟨(some (11, false)), (some 14), .fa 14 1 (.s 3), false⟩,
   ⟨(some (11, false)), (some 15), .ld 15 false 1 (.s 14), true⟩,
   ⟨(some (11, false)), (some 16), .bin 16 .neq (.s 13) (.s 15), false⟩,
   ⟨none, (some 17), .pk 17 (.s 11) (.k (Value.bool true)) (.s 16), false⟩,
   ⟨none, (some 18), .mv 18 (.s 17), false⟩,
   ⟨(some (18, false)), (some 19), .fa 19 2 (.s 2), false⟩,
   ⟨(some (18, false)), (some 20), .ld 20 false 1 (.s 19), false⟩,
   ⟨(some (18, false)), (some 21), .fa 21 2 (.s 3), false⟩,
   ⟨(some (18, false)), (some 22), .ld 22 false 1 (.s 21), false⟩,
   ⟨(some (18, false)), (some 23), .bin 23 .neq (.s 20) (.s 22), false⟩,
   ⟨none, (some 24), .pk 24 (.s 18) (.k (Value.bool true)) (.s 23), false⟩,
   ⟨none, (some 25), .mv 25 (.s 24), true⟩,
   ⟨(some (25, false)), (some 26), .fa 26 3 (.s 2), false⟩,
   ⟨(some (25, false)), (some 27), .ld 27 false 1 (.s 26), false⟩,
   ⟨(some (25, false)), (some 28), .fa 28 3 (.s 3), false⟩,
   ⟨(some (25, false)), (some 29), .ld 29 false 1 (.s 28), false⟩,
   ⟨(some (25, false)), (some 30), .bin 30 .neq (.s 27) (.s 29), false⟩,
   ⟨none, (some 31), .pk 31 (.s 25) (.k (Value.bool true)) (.s 30), false⟩,
   ⟨none, (some 32), .mv 32 (.s 31), false⟩,
   ⟨(some (32, false)), (some 33), .fa 33 4 (.s 2), false⟩,
   ⟨(some (32, false)), (some 34), .ld 34 false 1 (.s 33), false⟩,
   ⟨(some (32, false)), (some 35), .len 35 (.s 34), true⟩,
   ⟨(some (32, false)), (some 36), .fa 36 4 (.s 3), false⟩,
   ⟨(some (32, false)), (some 37), .ld 37 false 1 (.s 36), false⟩,
   ⟨(some (32, false)), (some 38), .len 38 (.s 37), false⟩,
   ⟨(some (32, false)), (some 39), .bin 39 .neq (.s 35) (.s 38), false⟩,
   ⟨none, (some 40), .pk 40 (.s 32) (.k (Value.bool true)) (.s 39), false⟩]))
 (.cond (.s 40) (.seq (.ops [⟨none, (some 4), .mv 4 (.k (Value.bool false)), false⟩])
 .ret) .skip))
 (.seq (.seq (.ops [⟨none, (some 5), .mv 5 (.k (Value.int .i64 0)), false⟩])
 (.block 0 (.loop [2, 3, 5] (.seq (.seq (.seq (.keep [2, 3, 5]) (.ops [⟨none, (some 41), .mv 41 (.s 5), false⟩,
   ⟨none, (some 42), .fa 42 4 (.s 2), false⟩,
   ⟨none, (some 43), .ld 43 false 1 (.s 42), false⟩,
   ⟨none, (some 44), .len 44 (.s 43), false⟩,
   ⟨none, (some 45), .bin 45 .lss (.s 41) (.s 44), false⟩]))
 (.cond (.s 45) .skip (.exit 0)))
 (.seq (.block 1 (.seq (.seq (.keep [2, 3, 5]) (.dr [([], true, ⟨none, (some 48), .fa 48 4 (.s 2), false⟩),
   ([], true, ⟨none, (some 50), .mv 50 (.s 5), false⟩),
   ([], true, ⟨none, (some 53), .fa 53 4 (.s 3), false⟩),
   ([], true, ⟨none, (some 55), .mv 55 (.s 5), false⟩),
   ([], true, ⟨none, (some 49), .ld 49 false 1 (.s 48), false⟩),
   ([], true, ⟨none, (some 51), .ia 51 2 (.s 49) (.s 50), false⟩),
   ([], true, ⟨none, (some 52), .ld 52 true 2 (.s 51), false⟩),
   ([], true, ⟨none, (some 54), .ld 54 false 1 (.s 53), false⟩),
   ([], true, ⟨none, (some 56), .ia 56 2 (.s 54) (.s 55), false⟩),
   ([], true, ⟨none, (some 57), .ld 57 true 2 (.s 56), true⟩),
   ([], true, ⟨none, (some 58), .eqa 58 true [0, 1] (.s 52) (.s 57), false⟩)]))
 (.cond (.s 58) (.seq (.ops [⟨none, (some 4), .mv 4 (.k (Value.bool false)), false⟩])
 .ret) .skip)))
 (.seq (.keep [2, 3, 5]) (.ops [⟨none, (some 46), .mv 46 (.s 5), false⟩,
   ⟨none, (some 47), .binc 47 .add (.s 46) (.k (Value.int .i64 1)), false⟩,
   ⟨none, (some 5), .mv 5 (.s 47), false⟩])))))))
 (.seq (.ops [⟨none, (some 4), .mv 4 (.k (Value.bool true)), false⟩])
 .ret))))
def R56 : List RR := [.sl 4]
theorem sd56 : SdT Tryz.prog 56 59 S56 R56 := fun hT hl hC hit => sdX (F := Tryz.f56) (A := A56) mo (by kernel_rfl) (by kernel_rfl) (by kernel_rfl) (by kernel_rfl) hT hl hC hit
def A115 : Ann := ⟨fun _ _ => 0, fun _ => none, fun _ => none, fun _ => []⟩
def S115 : SCode :=
 (.seq (.ops [⟨none, (some 1), .bx 1 45 1 (.s 0), false⟩,
   ⟨none, (some 2), .mv 2 (.k Value.nilFunc), false⟩])
 (.seq (.ops [⟨none, (some 3), .mf 3 162 [(.s 1)], false⟩,
   ⟨none, (some 2), .mv 2 (.s 3), false⟩])
 .ret))
def R115 : List RR := [.sl 2]
theorem sd115 : SdT Tryz.prog 115 4 S115 R115 := fun hT hl hC hit => sdX (F := Tryz.f115) (A := A115) mo (by kernel_rfl) (by kernel_rfl) (by kernel_rfl) (by kernel_rfl) hT hl hC hit
def A162 : Ann := ⟨fun _ _ => 0, fun _ => none, fun r => if r = 2 then some (false, [0, 1, 3]) else if r = 3 then some (false, [0, 1, 3]) else none, fun r => if r = 1 then [0, 1, 3] else []⟩
def S162 : SCode :=
 (.seq (.ops [⟨none, (some 4), .ld 4 false 1 (.s 1), false⟩,
   ⟨none, (some 5), .len 5 (.s 4), false⟩,
   ⟨none, (some 6), .binc 6 .sub (.s 5) (.k (Value.int .i64 1)), false⟩,
   ⟨none, (some 3), .mv 3 (.s 6), false⟩])
 (.block 0 (.loop [0, 1, 3] (.seq (.seq (.ops [⟨none, (some 7), .mv 7 (.s 3), false⟩,
   ⟨none, (some 8), .bin 8 .geq (.s 7) (.k (Value.int .i64 0)), false⟩])
 (.cond (.s 8) .skip (.exit 0)))
 (.seq (.block 1 (.seq (.seq (.keep [0, 1, 3]) (.ops [⟨none, (some 11), .mv 11 (.s 0), false⟩,
   ⟨none, (some 12), .mv 12 (.s 3), false⟩,
   ⟨none, (some 13), .ld 13 false 1 (.s 1), false⟩,
   ⟨none, (some 14), .mv 14 (.s 3), false⟩,
   ⟨none, (some 15), .ia 15 2 (.s 13) (.s 14), false⟩,
   ⟨none, (some 16), .ld 16 true 2 (.s 15), false⟩,
   ⟨none, (some 17), .callv (some 17) false (.s 11) [(.s 12), (.s 16)], false⟩,
   ⟨none, (some 18), .not 18 (.s 17), false⟩]))
 (.cond (.s 18) .ret .skip)))
 (.seq (.keep [0, 1, 3]) (.ops [⟨none, (some 9), .mv 9 (.s 3), false⟩,
   ⟨none, (some 10), .binc 10 .sub (.s 9) (.k (Value.int .i64 1)), false⟩,
   ⟨none, (some 3), .mv 3 (.s 10), false⟩])))))))
theorem cc162 : (Tryz.f162.body).bind (cc Tryz.prog Tryz.f162.ntmps A162) = some S162 := by kernel_rfl
theorem nm162 : (Tryz.f162.name == "runtime.NumGoroutine") = false := by kernel_rfl
theorem fn162 : Tryz.prog.funcs[162]? = some Tryz.f162 := by kernel_rfl
theorem bd162 : ∃ b, Tryz.f162.body = some b ∧ cc Tryz.prog Tryz.f162.ntmps A162 b = some S162 := Option.bind_eq_some_iff.1 cc162
def A117 : Ann := ⟨fun r i => if r = 1 ∧ i = 0 then 11 else 0, fun _ => none, fun r => if r = 2 then some (false, [1, 2, 5]) else if r = 4 then some (false, [1, 5, 9, 10, 11]) else if r = 5 then some (false, [1, 5, 7, 9, 10, 11]) else if r = 6 then some (false, [1, 5, 7, 9, 10, 11]) else none, fun r => if r = 3 then [1, 5, 9, 10, 11] else []⟩
def S117 : SCode :=
 (.seq (.ops [⟨none, (some 2), .bx 2 47 5 (.s 0), false⟩,
   ⟨none, (some 4), .mv 4 (.k (Value.slice none 0 0)), false⟩])
 (.seq (.ops [⟨none, (some 5), .nr 5 9 1, false⟩])
 (.seq (.seq (.seq (.keep [1, 2, 5]) (.ops [⟨none, (some 8), .fa 8 4 (.s 2), false⟩,
   ⟨none, (some 9), .ld 9 false 1 (.s 8), false⟩,
   ⟨none, (some 10), .len 10 (.s 9), false⟩,
   ⟨none, (some 11), .mv 11 (.k (Value.int .i64 0)), false⟩]))
 (.block 0 (.loop [1, 5, 9, 10, 11] (.seq (.ops [⟨none, (some 12), .bin 12 .lss (.s 11) (.s 10), false⟩])
 (.seq (.cond (.s 12) .skip (.exit 0))
 (.seq (.block 1 (.seq (.seq (.keep [1, 5, 9, 10, 11]) (.ops [⟨none, (some 13), .ia 13 2 (.s 9) (.s 11), false⟩,
   ⟨none, (some 14), .ld 14 true 2 (.s 13), false⟩,
   ⟨none, (some 7), .al 7 103 [(Value.int .u8 0), (Value.string ⟨#[]⟩)], false⟩,
   ⟨none, none, .st true 2 (.s 7) (.s 14), false⟩]))
 (.seq (.seq (.keep [1, 5, 7, 9, 10, 11]) (.ops [⟨none, (some 15), .fa 15 0 (.s 7), false⟩,
   ⟨none, (some 16), .ld 16 false 1 (.s 15), false⟩,
   ⟨none, (some 17), .mv 17 (.s 1), false⟩,
   ⟨none, (some 18), .bin 18 .eql (.s 16) (.s 17), false⟩,
   ⟨none, (some 19), .mv 19 (.s 18), false⟩,
   ⟨(some (19, false)), (some 20), .fa 20 0 (.s 7), false⟩,
   ⟨(some (19, false)), (some 21), .ld 21 false 1 (.s 20), false⟩,
   ⟨(some (19, false)), (some 22), .bin 22 .eql (.s 21) (.k (Value.int .u8 32)), false⟩,
   ⟨none, (some 23), .pk 23 (.s 19) (.k (Value.bool true)) (.s 22), false⟩]))
 (.cond (.s 23) (.seq (.keep [1, 5, 7, 9, 10, 11]) (.ops [⟨none, (some 24), .mv 24 (.s 5), false⟩,
   ⟨none, (some 25), .fa 25 1 (.s 7), false⟩,
   ⟨none, (some 26), .ld 26 false 1 (.s 25), false⟩,
   ⟨none, (some 27), .bs 27 9 1 [(.s 26)], false⟩,
   ⟨none, (some 28), .ap 28 9 1 16 (.s 24) (.s 27), false⟩,
   ⟨none, (some 5), .mv 5 (.s 28), false⟩])) .skip))))
 (.ops [⟨none, (some 29), .binc 29 .add (.s 11) (.k (Value.int .i64 1)), false⟩,
   ⟨none, (some 11), .mv 11 (.s 29), false⟩])))))))
 (.seq (.ops [⟨none, (some 30), .mv 30 (.s 5), false⟩,
   ⟨none, (some 4), .mv 4 (.s 30), false⟩])
 .ret))))
def R117 : List RR := [.sl 4]
theorem sd117 : SdT Tryz.prog 117 31 S117 R117 := fun hT hl hC hit => sdX (F := Tryz.f117) (A := A117) mo (by kernel_rfl) (by kernel_rfl) (by kernel_rfl) (by kernel_rfl) hT hl hC hit
def A62 : Ann := ⟨fun _ _ => 0, fun _ => none, fun r => if r = 1 then some (false, [0, 1]) else none, fun _ => []⟩
def S62 : SCode :=
 (.seq (.ops [⟨none, (some 4), .mv 4 (.k (Value.bool false)), false⟩])
 (.seq (.seq (.keep [0, 1]) (.ops [⟨none, (some 5), .mv 5 (.s 0), false⟩,
   ⟨none, (some 6), .mv 6 (.s 1), false⟩,
   ⟨none, (some 7), .call (some 7) 118 false [(.s 5), (.s 6)], false⟩,
   ⟨none, (some 8), .bin 8 .geq (.s 7) (.k (Value.int .i64 0)), false⟩,
   ⟨none, (some 4), .mv 4 (.s 8), false⟩]))
 .ret))
def R62 : List RR := [.sl 4]
theorem sd62 : SdT Tryz.prog 62 9 S62 R62 := fun hT hl hC hit => sdX (F := Tryz.f62) (A := A62) mo (by kernel_rfl) (by kernel_rfl) (by kernel_rfl) (by kernel_rfl) hT hl hC hit
def A118 : Ann := ⟨fun _ _ => 0, fun _ => none, fun r => if r = 1 then some (false, [0, 1]) else if r = 4 then some (false, [0, 1, 5, 7, 8]) else none, fun r => if r = 2 then [0, 1, 7, 8] else []⟩
def S118 : SCode :=
 (.seq (.ops [⟨none, (some 4), .mv 4 (.k (Value.int .i64 0)), false⟩])
 (.seq (.seq (.seq (.keep [0, 1]) (.ops [⟨none, (some 6), .mv 6 (.s 0), false⟩,
   ⟨none, (some 7), .len 7 (.s 6), false⟩,
   ⟨none, (some 8), .mv 8 (.k (Value.int .i64 0)), false⟩]))
 (.block 0 (.loop [0, 1, 7, 8] (.seq (.ops [⟨none, (some 9), .bin 9 .lss (.s 8) (.s 7), false⟩])
 (.seq (.cond (.s 9) .skip (.exit 0))
 (.seq (.block 1 (.seq (.ops [⟨none, (some 10), .mv 10 (.s 8), false⟩,
   ⟨none, (some 5), .mv 5 (.s 10), false⟩])
 (.seq (.seq (.keep [0, 1, 5, 7, 8]) (.ops [⟨none, (some 11), .mv 11 (.s 1), false⟩,
   ⟨none, (some 12), .mv 12 (.s 0), false⟩,
   ⟨none, (some 13), .mv 13 (.s 5), false⟩,
   ⟨none, (some 14), .ia 14 2 (.s 12) (.s 13), false⟩,
   ⟨none, (some 15), .ld 15 true 2 (.s 14), false⟩,
   ⟨none, (some 16), .callv (some 16) false (.s 11) [(.s 15)], false⟩]))
 (.cond (.s 16) (.seq (.ops [⟨none, (some 17), .mv 17 (.s 5), false⟩,
   ⟨none, (some 4), .mv 4 (.s 17), false⟩])
 .ret) .skip))))
 (.ops [⟨none, (some 18), .binc 18 .add (.s 8) (.k (Value.int .i64 1)), false⟩,
   ⟨none, (some 8), .mv 8 (.s 18), false⟩])))))))
 (.seq (.ops [⟨none, (some 4), .mv 4 (.k (Value.int .i64 (-1))), false⟩])
 .ret)))
def R118 : List RR := [.sl 4]
theorem sd118 : SdT Tryz.prog 118 19 S118 R118 := fun hT hl hC hit => sdX (F := Tryz.f118) (A := A118) mo (by kernel_rfl) (by kernel_rfl) (by kernel_rfl) (by kernel_rfl) hT hl hC hit
end Go.Proofs.YtlghobefhmpfkaaGreatDoor
namespace Go.Ev
open Go
inductive ItK where
 | y (d : Option Nat) (t : Nat) (rs : List Rv)
 | m (d t : Nat)
 | p
def itK : SOp → ItK
 | .callv d _ (.s t) rs => .y d t rs
 | .mv d (.s t) => .m d t
 | _ => .p
def niO : Option Nat → List Nat → Prop
 | some k, yl => k ∉ yl
 | none, _ => True
theorem niO_ok {d : Option Nat} {yl : List Nat} (h : niO d yl) : ∀ k, d = some k → k ∉ yl := by
 rintro k rfl; exact h
def itOps (T : FuncId → Contract) (xs : List (List SV)) : List GOp → List Nat → St → Option Nat → (List Nat → St → Option Nat → Prop) → Prop
 | [], yl, st, md, K => K yl st md
 | ⟨some _, _, _, _⟩ :: _, _, _, _, _ => False
 | ⟨none, d', s, _⟩ :: r, yl, st, md, K => match itK s with
   | .y d t rs => (t ∈ yl ∧ niO d yl) ∧ need md fun k => need xs[k]? fun x => (rs.map fun r => r.get st) = x ∧
       itOps T xs r yl (st.putO d (.d (.v (.bool true)))) (some (k + 1)) K ∧ itOps T xs r yl (st.putO d (.d (.v (.bool false)))) none K
   | .m d t => if t ∈ yl then itOps T xs r (d :: yl) (st.put d .any) md K else d ∉ yl ∧ itOps T xs r yl (st.put d (st.get t)) md K
   | .p => (isTk s = true ∧ niO d' yl) ∧ xStep T s st (fun st' => itOps T xs r yl st' md K) noP
abbrev IKs := Ex → List Nat → St → Option Nat → Prop
def itThen (K2 : List Nat → St → Option Nat → Prop) (K : IKs) : IKs
 | .normal, yl, st, md => K2 yl st md
 | e, yl, st, md => K e yl st md
def itBlk (id : Nat) (K : IKs) : IKs
 | .exit j, yl, st, md => if j = id then K .normal yl st md else K (.exit j) yl st md
 | e, yl, st, md => K e yl st md
@[irreducible] def itAgain (I : Nat → St → Option Nat → Prop) (ks yl0 : List Nat) (n : Nat) (yl : List Nat) (st : PSt I) (md : Option Nat) : Prop := (∀ t ∈ yl0, t ∈ yl) ∧ ∃ k, k < n ∧ I k (St.keep ks st) md
@[irreducible] def itLoop (body : List Nat → St → Option Nat → IKs → Prop) (ks yl : List Nat) (K : IKs) (st : PSt (body, K)) (md : Option Nat) : Prop :=
 ∃ (I : Nat → St → Option Nat → Prop) (n : Nat), I n (St.keep ks st) md ∧ ∀ n st md, I n st md → body yl st md (itThen (itAgain I ks yl n) K)
def itv (T : FuncId → Contract) (xs : List (List SV)) : SCode → List Nat → St → Option Nat → IKs → Prop
 | .skip, yl, st, md, K => K .normal yl st md
 | .ops l, yl, st, md, K => itOps T xs l yl st md (K .normal)
 | .keep ks, yl, st, md, K => K .normal yl (st.keep ks) md
 | .seq a b, yl, st, md, K => itv T xs a yl st md (itThen (fun yl' st' md' => itv T xs b yl' st' md' K) K)
 | .cond c t e, yl, st, md, K => match c.get st with
   | .d (.v (.bool b)) => (b = true → itv T xs t yl st md K) ∧ (b = false → itv T xs e yl st md K)
   | _ => False
 | .block id b, yl, st, md, K => itv T xs b yl st md (itBlk id K)
 | .loop ks b, yl, st, md, K => itLoop (itv T xs b) ks yl K st md
 | .exit id, yl, st, md, K => K (.exit id) yl st md
 | .ret, yl, st, md, K => K .ret yl st md
 | _, _, _, _, _ => False
@[congr] theorem itOps_congr {T : FuncId → Contract} {xs : List (List SV)} {l : List GOp} {yl yl' : List Nat} {st st' : St} {md md' : Option Nat} {K : List Nat → St → Option Nat → Prop} (h1 : yl = yl') (h2 : st = st') (h3 : md = md') : itOps T xs l yl st md K = itOps T xs l yl' st' md' K := by rw [h1, h2, h3]
@[congr] theorem itv_congr {T : FuncId → Contract} {xs : List (List SV)} {s : SCode} {yl yl' : List Nat} {st st' : St} {md md' : Option Nat} {K : IKs} (h1 : yl = yl') (h2 : st = st') (h3 : md = md') : itv T xs s yl st md K = itv T xs s yl' st' md' K := by rw [h1, h2, h3]
@[congr] theorem itThen_congr {K2 : List Nat → St → Option Nat → Prop} {K : IKs} {e : Ex} {yl yl' : List Nat} {st st' : St} {md md' : Option Nat} (h1 : yl = yl') (h2 : st = st') (h3 : md = md') : itThen K2 K e yl st md = itThen K2 K e yl' st' md' := by rw [h1, h2, h3]
@[congr] theorem itBlk_congr {id : Nat} {K : IKs} {e : Ex} {yl yl' : List Nat} {st st' : St} {md md' : Option Nat} (h1 : yl = yl') (h2 : st = st') (h3 : md = md') : itBlk id K e yl st md = itBlk id K e yl' st' md' := by rw [h1, h2, h3]
@[congr] theorem itLoop_congr {body : List Nat → St → Option Nat → IKs → Prop} {ks yl yl' : List Nat} {st st' : St} {md md' : Option Nat} {K : IKs} (h1 : yl = yl') (h2 : st = st') (h3 : md = md') : itLoop body ks yl K st md = itLoop body ks yl' K st' md' := by rw [h1, h2, h3]
@[congr] theorem itAgain_congr {I : Nat → St → Option Nat → Prop} {ks yl0 : List Nat} {n : Nat} {yl yl' : List Nat} {st st' : St} {md md' : Option Nat} (h1 : yl = yl') (h2 : st = st') (h3 : md = md') : itAgain I ks yl0 n yl st md = itAgain I ks yl0 n yl' st' md' := by rw [h1, h2, h3]
theorem itLoop_intro {body : List Nat → St → Option Nat → IKs → Prop} {ks yl : List Nat} {st : St} {md : Option Nat} {K : IKs} (I : Nat → St → Option Nat → Prop) (n : Nat) (h1 : I n (st.keep ks) md)
 (h2 : ∀ n st md, I n st md → body yl st md (itThen (itAgain I ks yl n) K)) : itLoop body ks yl K st md := by unfold itLoop; exact ⟨I, n, h1, h2⟩
theorem itAgain_intro {I : Nat → St → Option Nat → Prop} {ks yl0 : List Nat} {n : Nat} {yl : List Nat} {st : St} {md : Option Nat} (k : Nat) (h0 : ∀ t ∈ yl0, t ∈ yl) (h1 : k < n) (h2 : I k (st.keep ks) md) : itAgain I ks yl0 n yl st md := by
 unfold itAgain; exact ⟨h0, k, h1, h2⟩
theorem itKs : (∀ (K2 : List Nat → St → Option Nat → Prop) (K : IKs) yl st md, itThen K2 K .normal yl st md = K2 yl st md) ∧ (∀ (K2 : List Nat → St → Option Nat → Prop) (K : IKs) i yl st md, itThen K2 K (.exit i) yl st md = K (.exit i) yl st md) ∧ (∀ (K2 : List Nat → St → Option Nat → Prop) (K : IKs) yl st md, itThen K2 K .ret yl st md = K .ret yl st md) ∧
   (∀ id (K : IKs) yl st md, itBlk id K .normal yl st md = K .normal yl st md) ∧ (∀ id (K : IKs) yl st md, itBlk id K .ret yl st md = K .ret yl st md) ∧ (∀ id j (K : IKs) yl st md, itBlk id K (.exit j) yl st md = if j = id then K .normal yl st md else K (.exit j) yl st md) :=
 ⟨fun _ _ _ _ _ => rfl, fun _ _ _ _ _ _ => rfl, fun _ _ _ _ _ => rfl, fun _ _ _ _ _ => rfl, fun _ _ _ _ _ => rfl, fun _ _ _ _ _ _ => rfl⟩
section
variable {P : Program} {T : FuncId → Contract} {N l : Nat} {xs : List (List SV)} {S : Nat → Prop} {w : World} {J : Nat → World → Prop} {Jx : World → Prop}
def rdS (S : Nat → Prop) (w : World) : Rdr := fun a u => w.cell? a = some u ∧ S a.block
def WJ (J : Nat → World → Prop) (Jx : World → Prop) : Option Nat → World → Prop
 | some k, W => J k W
 | none, W => Jx W
structure IS (S : Nat → Prop) (w : World) (N l : Nat) (a : Act) (yl : List Nat) (st : St) : Prop where
 size : a.tmps.size = N
 defers : a.defers = []
 slots : SlOk (fun _ => undef) 0 (rdS S w) a st
 ob : st.ob = []
 n : st.n = 0
 yl : ∀ t ∈ yl, a.tmps.getD t undef = .func (.yield l) #[] #[]
structure Env (P : Program) (S : Nat → Prop) (w : World) (l : Nat) (xs : List (List SV)) (J : Nat → World → Prop) (Jx : World → Prop) : Prop where
 kept : ∀ md W, WJ J Jx md W → ∀ b, S b → b < w.heap.size → W.heap[b]? = w.heap[b]?
 yield : ∀ k W x ys, J k W → xs[k]? = some x → CnL (fun _ => undef) 0 (rdS S w) x ys → YieldAt Fence.wide 0 P l ys.toArray W fun e W' => (e = .returned (.bool true) ∧ J (k + 1) W') ∨ (e = .returned (.bool false) ∧ Jx W')
def LiftI (S : Nat → Prop) (w : World) (N l : Nat) (J : Nat → World → Prop) (Jx : World → Prop) (K : IKs) : Exit → Act → World → Prop
 | .normal, a, W => ∃ yl st md, K .normal yl st md ∧ IS S w N l a yl st ∧ WJ J Jx md W
 | .exit id, a, W => ∃ yl st md, K (.exit id) yl st md ∧ IS S w N l a yl st ∧ WJ J Jx md W
 | .ret, a, W => ∃ yl st md, K .ret yl st md ∧ IS S w N l a yl st ∧ WJ J Jx md W
 | _, _, _ => False
def hS (S : Nat → Prop) (n : Nat) (W : World) : Hd (fun _ => True) := ⟨fun b => b < W.heap.size ∧ ¬ (S b ∧ b < n), fun _ => False, fun _ h => h.elim, fun _ _ _ _ => trivial, 0, []⟩
theorem IS.sat {a : Act} {yl : List Nat} {st : St} {W : World} (h : IS S w N l a yl st) (hk : ∀ b, S b → b < w.heap.size → W.heap[b]? = w.heap[b]?) : Sat (hS S w.heap.size W) N W (fun _ => undef) (fun _ _ => False) a st := by
 refine ⟨h.size, by rw [h.defers]; exact Marks.nil rfl _ _ _, fun k => ?_, ?_⟩
 · rw [h.n, h.ob]
   refine Cn_mono (Nat.le_refl _) (fun _ _ => rfl) (fun a u hu => ?_) _ _ (h.slots k)
   have hl := cell_lt hu.1
   refine ⟨by rw [World.cell?_of_block (hk _ hu.2 hl)]; exact hu.1, fun ⟨o, x, h1, _⟩ => by simp [lk] at h1, fun hh => hh.2 ⟨hu.2, hl⟩⟩
 · show SOk _ _ _ _ ⟨st.n, st.ob⟩
   rw [h.n, h.ob]
   exact SOk.empty (H := hS S w.heap.size W) (fun b hb => hb.1) trivial _ _
theorem vw_rdS {W : World} (hk : ∀ b, S b → b < w.heap.size → W.heap[b]? = w.heap[b]?) (a : Addr) (u : Value) (h : vw (hS S w.heap.size W) W (fun _ _ => False) [] a u) : rdS S w a u := by
 have hl := cell_lt h.1
 have : S a.block ∧ a.block < w.heap.size := Classical.byContradiction fun hn => h.2.2 ⟨hl, hn⟩
 exact ⟨by rw [← World.cell?_of_block (hk _ this.1 this.2)]; exact h.1, this.1⟩
theorem IS.put {a : Act} {yl : List Nat} {st : St} (h : IS S w N l a yl st) {d : Nat} (hd : d < N) (hy : d ∉ yl) {x : SV} {v : Value} (hx : Cn (fun _ => undef) 0 (rdS S w) x v) : IS S w N l (a.put (some d) v) yl (st.put d x) :=
 ⟨by simp [Act.put, h.size], h.defers, h.slots.put (by rw [h.size]; exact hd) hx, h.ob, h.n, fun t ht => by
   rw [getD_put _ _ _ _ (by rw [h.size]; exact hd)]
   rw [if_neg (fun (e : d = t) => hy (e ▸ ht))]; exact h.yl t ht⟩
theorem IS.putO {a : Act} {yl : List Nat} {st : St} (h : IS S w N l a yl st) {d : Option Nat} (hd : ∀ k, d = some k → k < N) (hy : ∀ k, d = some k → k ∉ yl) {x : SV} {v : Value} (hx : Cn (fun _ => undef) 0 (rdS S w) x v) : IS S w N l (a.put d v) yl (st.putO d x) := by
 cases d with
 | none => exact h
 | some d => exact h.put (hd d rfl) (hy d rfl) hx
theorem IS.keep {a : Act} {yl : List Nat} {st : St} (h : IS S w N l a yl st) {ks : List Nat} : IS S w N l a yl (st.keep ks) := by
 refine ⟨h.size, h.defers, fun k => ?_, h.ob, h.n, h.yl⟩
 have key : ∀ ks : List Nat, Cn (fun _ => undef) 0 (rdS S w) ((lk (ks.map fun k => (k, st.get k)) k).getD .any) (a.tmps.getD k undef) := by
   intro ks
   induction ks with
   | nil => simp [lk, Cn]
   | cons j r ih =>
     simp only [List.map_cons, lk_cons]
     by_cases e : j = k
     · subst e
       simp only [if_true, Option.getD_some]
       exact h.slots j
     · simp only [e, if_false]; exact ih
 exact key ks
theorem LiftI.notOut {K : IKs} : ¬ LetsOut (LiftI S w N l J Jx K) := fun ⟨_, _, h⟩ => h
theorem cop_callv {an : Nat} {o : Oper} {d : Option Nat} {lend : Bool} {x : Rv} {rs : List Rv} (h : cop P N an o = some (.callv d lend x rs)) : ∃ c, o.op = .call c ∧ copCall P N an c o.dst = some (.callv d lend x rs) := by
 unfold cop at h
 split at h
 all_goals first
   | exact ⟨_, by assumption, h⟩
   | (exfalso
      repeat' (first
        | (simp only [Option.ite_none_right_eq_some, Option.bind_eq_some_iff, Option.map_eq_some_iff, reduceCtorEq, and_false, exists_false, Option.some.injEq] at h; done)
        | (simp only [Option.ite_none_right_eq_some, Option.bind_eq_some_iff, Option.map_eq_some_iff] at h)
        | (obtain ⟨_, h⟩ := h)
        | split at h
        | cases h))
theorem copCall_callv {an : Nat} {c : Call} {d dst : Option Nat} {lend : Bool} {x : Rv} {rs : List Rv} (h : copCall P N an c dst = some (.callv d lend x rs)) : ∃ t, c.callee = .value (.tmp t) ∧ x = .s t ∧ d = dst ∧ (∀ k, d = some k → k < N) ∧ c.args.toList.map opn = rs.map some := by
 unfold copCall at h
 split at h
 all_goals first
   | (rename_i t ec
      obtain ⟨hd, h⟩ := Option.ite_none_right_eq_some.1 h
      obtain ⟨q, hq, hs⟩ := Option.map_eq_some_iff.1 h
      simp only [SOp.callv.injEq] at hs
      obtain ⟨hs1, hs2, hs3, hs4⟩ := hs
      subst hs1 hs3 hs4
      exact ⟨t, ec, rfl, rfl, fun k hk => by rw [hk] at hd; simpa using hd, mapM_some hq⟩)
   | (exfalso
      repeat' (first
        | (simp only [Option.ite_none_right_eq_some, Option.bind_eq_some_iff, Option.map_eq_some_iff, reduceCtorEq, and_false, exists_false, Option.some.injEq] at h; done)
        | (simp only [Option.ite_none_right_eq_some, Option.bind_eq_some_iff, Option.map_eq_some_iff] at h)
        | (obtain ⟨_, h⟩ := h)
        | split at h
        | cases h))
theorem opn_s {x : Operand} {t : Nat} (h : opn x = some (.s t)) : x = .tmp t := by
 unfold opn at h
 repeat' (first | (simp at h; done) | split at h)
 all_goals first | (simp at h; subst h; rfl) | (simp at h)
theorem cop_mv {an : Nat} {o : Oper} {d t : Nat} (h : cop P N an o = some (.mv d (.s t))) : o.dst = some d ∧ d < N ∧ ∀ (a : Act) (W : World), (execOp a.eval o).run P W = .ok (.value (a.tmps.getD t undef)) W := by
 unfold cop at h
 split at h
 case h_1 | h_2 =>
   rename_i x d' e1 e2
   obtain ⟨hd, h⟩ := Option.ite_none_right_eq_some.1 h
   split at h
   · obtain ⟨_, h⟩ := Option.ite_none_right_eq_some.1 h
     obtain ⟨_, _, h⟩ := Option.map_eq_some_iff.1 h
     cases h
   · obtain ⟨r, hr, h⟩ := Option.map_eq_some_iff.1 h
     simp only [SOp.mv.injEq] at h
     obtain ⟨rfl, rfl⟩ := h
     have := opn_s hr
     subst this
     exact ⟨e2, hd, fun a W => by simp [execOp, e1, Act.eval]⟩
 case h_26 =>
   rename_i c e
   exfalso
   unfold copCall at h
   repeat' (first
        | (simp only [Option.ite_none_right_eq_some, Option.bind_eq_some_iff, Option.map_eq_some_iff, reduceCtorEq, and_false, exists_false, Option.some.injEq] at h; done)
        | (simp only [Option.ite_none_right_eq_some, Option.bind_eq_some_iff, Option.map_eq_some_iff] at h)
        | (obtain ⟨_, h⟩ := h)
        | split at h
        | cases h)
 all_goals
     (exfalso
      repeat' (first
        | (simp only [Option.ite_none_right_eq_some, Option.bind_eq_some_iff, Option.map_eq_some_iff, reduceCtorEq, and_false, exists_false, Option.some.injEq] at h; done)
        | (simp only [Option.ite_none_right_eq_some, Option.bind_eq_some_iff, Option.map_eq_some_iff] at h)
        | (obtain ⟨_, h⟩ := h)
        | split at h
        | cases h))
theorem itOps_ok (he : Env P S w l xs J Jx) {an : Nat → Nat} {ops : Array Oper} (hnd : noDefer ops = true) {K : IKs} : ∀ (r : List Oper) (i : Nat) (gs : List GOp) (a : Act) (W : World) (yl : List Nat) (st : St) (md : Option Nat),
   cops P N an ops r i = some gs → (∀ j o, r[j]? = some o → ops[i + j]? = some o) → IS S w N l a yl st → WJ J Jx md W → itOps T xs gs yl st md (K .normal) →
   wpOpsIn Fence.wide 0 P ops (LiftI S w N l J Jx K) (List.range' i r.length) a W
 | [], i, gs, a, W, yl, st, md, hc, _, h, hJ, hK => by
   simp only [cops, Option.some.injEq] at hc; subst hc
   exact ⟨yl, st, md, hK, h, hJ⟩
 | o :: r, i, gs, a, W, yl, st, md, hc, hl, h, hJ, hK => by
   simp only [cops] at hc
   obtain ⟨g, hg, hc⟩ := Option.bind_eq_some_iff.1 hc
   obtain ⟨gs', hgs, rfl⟩ := Option.map_eq_some_iff.1 hc
   obtain ⟨h1, h2, h3, h4⟩ := gop_ok hg
   have ho : ops[i]? = some o := hl 0 o rfl
   have hl' : ∀ j o', r[j]? = some o' → ops[i + 1 + j]? = some o' := fun j o' hj => by
     have := hl (j + 1) o' (by simpa using hj)
     rwa [show i + (j + 1) = i + 1 + j by omega] at this
   simp only [List.length_cons, List.range'_succ, wpOpsIn, ho]
   obtain ⟨gg, gd', s, gb⟩ := g
   cases gg with
   | some p => exact hK.elim
   | none =>
     simp only [itOps] at hK
     rw [wanted_none h1]
     simp only [if_true]
     have ih := itOps_ok he (an := an) hnd (K := K) r (i + 1) gs'
     have hk := he.kept md W hJ
     have hsat := h.sat hk
     have hkx : ∀ x v, Cn (fun _ => undef) st.n (vw (hS S w.heap.size W) W (fun _ _ => False) st.ob) x v → Cn (fun _ => undef) 0 (rdS S w) x v := fun x v hx => by
       rw [h.n, h.ob] at hx
       exact Cn_mono (Nat.le_refl _) (fun _ _ => rfl) (vw_rdS hk) _ _ hx
     simp only at h2 h3 h4
     split at hK
     · -- yield
       rename_i d t rs es
       obtain ⟨⟨y1, y2⟩, hK⟩ := hK
       replace y2 := niO_ok y2
       obtain ⟨k, rfl, hK⟩ := need_ex hK
       replace hK : need xs[k]? fun x => _ := hK
       obtain ⟨x, ex, hK⟩ := need_ex hK
       obtain ⟨hx, kt, kf⟩ := hK
       obtain ⟨lend, rfl⟩ : ∃ lend, s = .callv d lend (.s t) rs := by
         unfold itK at es
         split at es <;> cases es
         exact ⟨_, rfl⟩
       obtain ⟨c, e0, hcc⟩ := cop_callv h2
       obtain ⟨t', e1, e2, rfl, e3, e4⟩ := copCall_callv hcc
       simp only [Rv.s.injEq] at e2; subst e2
       obtain ⟨args, ea⟩ : ∃ args, args = c.args.toList.map a.eval := ⟨_, rfl⟩
       have hargs : CnL (fun _ => undef) 0 (rdS S w) x args := by
         have := getL_ok hsat (xs := c.args.toList) e4
         rw [hx, ← ea, h.n, h.ob] at this
         exact CnL_mono (Nat.le_refl _) (fun _ _ => rfl) (vw_rdS hk) _ _ this
       obtain ⟨f, tmps, assign, body, hy, hr⟩ := he.yield k W x args hJ ex hargs
       have hrun : (execOp a.eval o).run P W = .ok (.round l f tmps assign body) W := by
         obtain ⟨cc, ca, ct⟩ := c
         simp only at e1 ea
         subst e1
         have hyl := h.yl t y1
         have : (a.eval (.tmp t)) = .func (.yield l) #[] #[] := hyl
         have hy2 : (Instr.yield l (ca.map a.eval)).run P W = .ok (.round l f tmps assign body) W := by
           rw [show ca.map a.eval = args.toArray by rw [ea]; apply Array.ext'; simp]; exact hy
         simp only [execOp, e0, resolve, this, Deferred.ofValue, invoke, Sem.run_bind, Sem.run_pure, Result.andThen_ok]
         simpa using hy2
       refine ⟨fun f _ => trivial, ?_⟩
       rw [Oper.semAt_plain Fence.wide a.eval o (noDefer_ok hnd i o ho), hrun, Oper.uponIn_round]
       refine ⟨fun hh => by simp [Fence.wide] at hh, hr.mono ?_⟩
       rintro e W' (⟨rfl, hJ'⟩ | ⟨rfl, hJ'⟩)
       · exact ih _ W' yl _ (some (k + 1)) hgs hl' (h.putO e3 y2 (Cn_dv rfl)) hJ' kt
       · exact ih _ W' yl _ none hgs hl' (h.putO e3 y2 (Cn_dv rfl)) hJ' kf
     · -- a move
       rename_i d t es
       obtain rfl : s = .mv d (.s t) := by
         unfold itK at es
         split at es <;> cases es
         rfl
       obtain ⟨m1, m2, m3⟩ := cop_mv h2
       refine opIn_of_op (.inl rfl) (noDefer_ok hnd i o ho) ?_
       unfold Oper.wp
       rw [m3, Oper.upon_value, m1]
       split at hK
       · rename_i hyt
         refine ih _ W (d :: yl) _ md hgs hl' ⟨by simp [Act.put, h.size], h.defers, h.slots.put (by rw [h.size]; exact m2) (by simp [Cn]), h.ob, h.n, fun t' ht' => ?_⟩ hJ hK
         rw [getD_put _ _ _ _ (by rw [h.size]; exact m2)]
         by_cases e : d = t'
         · rw [if_pos e]; exact h.yl t hyt
         · rw [if_neg e]
           exact h.yl t' ((List.mem_cons.1 ht').resolve_left fun hh => e hh.symm)
       · exact ih _ W yl _ md hgs hl' (h.put m2 hK.1 (h.slots t)) hJ hK.2
     · obtain ⟨⟨p1, p2⟩, hK⟩ := hK
       replace p2 := niO_ok p2
       rw [xStep_eq] at hK
       obtain ⟨d, q1, q2, x, v, q3, q4, q5⟩ := take_ok h2 hsat (fr := []) (xo := []) (tkC_ok p1 (by unfold tkC; split <;> trivial)) (isTk_ts p1) hK (XB := fun _ => False) (fun q hq => hq.elim)
       refine opIn_of_op (.inl rfl) (noDefer_ok hnd i o ho) ?_
       unfold Oper.wp
       rw [q5 W (fun _ _ _ => rfl), Oper.upon_value, q1]
       exact ih _ W yl _ md hgs hl' (h.put q2 (p2 d (h3.trans q1)) (hkx _ _ q4)) hJ q3
theorem itv_ok (he : Env P S w l xs J Jx) {A : Ann} : ∀ (c : Code) (s : SCode), cc P N A c = some s → flat c = true → ∀ (K : IKs) (a : Act) (W : World) (yl : List Nat) (st : St) (md : Option Nat),
   IS S w N l a yl st → WJ J Jx md W → itv T xs s yl st md K → c.wpIn Fence.wide 0 P (LiftI S w N l J Jx K) a W
 | .skip, s, hc, hfl, K, a, W, yl, st, md, h, hJ, hK => by
   simp only [cc, Option.some.injEq] at hc; subst hc
   exact wpIn_skip ⟨yl, st, md, hK, h, hJ⟩
 | .region id ops false, s, hc, hfl, K, a, W, yl, st, md, h, hJ, hK => by
   simp only [cc] at hc
   obtain ⟨hnd, hc⟩ := Option.ite_none_right_eq_some.1 hc
   obtain ⟨gs, hg, rfl⟩ := Option.map_eq_some_iff.1 hc
   have go : ∀ st, IS S w N l a yl st → itOps T xs gs yl st md (K .normal) → (Code.region id ops false).wpIn Fence.wide 0 P (LiftI S w N l J Jx K) a W := fun st h hK => by
     refine wpIn_region ?_
     have := itOps_ok he hnd ops.toList 0 gs a W yl st md hg (fun j o hj => by simpa using hj) h hJ hK
     rwa [Array.length_toList, ← List.range_eq_range'] at this
   unfold cutAt at hK
   split at hK
   · exact hK.elim
   · exact go _ h.keep hK
   · exact go _ h hK
 | .region id ops true, s, hc, hfl, K, a, W, yl, st, md, h, hJ, hK => by
   simp only [cc] at hc
   obtain ⟨p, hp, hc⟩ := Option.bind_eq_some_iff.1 hc
   obtain ⟨h1, hc⟩ := Option.ite_none_right_eq_some.1 hc
   obtain ⟨gs, hg, rfl⟩ := Option.map_eq_some_iff.1 hc
   unfold cutAt at hK
   split at hK <;> exact hK.elim
 | .seq x y, s, hc, hfl, K, a, W, yl, st, md, h, hJ, hK => by
   simp only [cc] at hc
   obtain ⟨sx, hx, hc⟩ := Option.bind_eq_some_iff.1 hc
   obtain ⟨sy, hy, rfl⟩ := Option.map_eq_some_iff.1 hc
   simp only [flat, Bool.and_eq_true] at hfl
   simp only [itv] at hK
   refine wpIn_seq (wpIn_mono (itv_ok he x sx hx hfl.1 _ a W yl st md h hJ hK) ?_)
   intro e a' W' hl
   cases e with
   | normal => obtain ⟨yl', st', md', k1, k2, k3⟩ := hl; exact itv_ok he y sy hy hfl.2 K a' W' yl' st' md' k2 k3 k1
   | exit id => exact hl
   | goto l => exact hl
   | ret => exact hl
   | panic ch => exact hl
   | outgrown => exact hl
 | .cond c x y, s, hc, hfl, K, a, W, yl, st, md, h, hJ, hK => by
   simp only [cc] at hc
   obtain ⟨r, hr, hc⟩ := Option.bind_eq_some_iff.1 hc
   obtain ⟨sx, hx, hc⟩ := Option.bind_eq_some_iff.1 hc
   obtain ⟨sy, hy, rfl⟩ := Option.map_eq_some_iff.1 hc
   simp only [flat, Bool.and_eq_true] at hfl
   simp only [itv] at hK
   have h1 := get_ok (h.sat (he.kept md W hJ)) hr
   split at hK
   · rename_i b e
     rw [e] at h1
     exact wpIn_cond_split (of_v h1) (fun hb => itv_ok he x sx hx hfl.1 K a W yl st md h hJ (hK.1 hb)) (fun hb => itv_ok he y sy hy hfl.2 K a W yl st md h hJ (hK.2 hb))
   · exact hK.elim
 | .block id x, s, hc, hfl, K, a, W, yl, st, md, h, hJ, hK => by
   simp only [cc] at hc
   obtain ⟨sx, hx, rfl⟩ := Option.map_eq_some_iff.1 hc
   simp only [itv] at hK
   refine wpIn_block (wpIn_mono (itv_ok he x sx hx hfl _ a W yl st md h hJ hK) ?_)
   intro e a' W' hl
   cases e with
   | normal => exact hl
   | exit j =>
     obtain ⟨yl', st', md', k1, k2⟩ := hl
     simp only [Exit.inBlock]
     simp only [itBlk] at k1
     by_cases e : j = id
     · simp only [e, if_true] at k1 ⊢; exact ⟨yl', st', md', k1, k2⟩
     · simp only [e, if_false] at k1 ⊢; exact ⟨yl', st', md', k1, k2⟩
   | goto l => exact hl
   | ret => exact hl
   | panic ch => exact hl
   | outgrown => exact hl
 | .loop x, s, hc, hfl, K, a, W, yl, st, md, h, hJ, hK => by
   simp only [cc] at hc
   obtain ⟨sx, hx, rfl⟩ := Option.map_eq_some_iff.1 hc
   simp only [itv] at hK
   unfold itLoop at hK
   obtain ⟨I, n, h0, hr⟩ := hK
   refine wpIn_loop_I (I := fun n a W => ∃ st md, I n st md ∧ IS S w N l a yl st ∧ WJ J Jx md W) ?_ (n := n) ⟨_, md, h0, h.keep, hJ⟩
   rintro n a W ⟨st, md, k1, k2, k3⟩
   refine wpIn_mono (itv_ok he x sx hx hfl _ a W yl st md k2 k3 (hr n st md k1)) ?_
   intro e a' W' hl
   cases e with
   | normal =>
     obtain ⟨yl', st', md', q1, q2, q3⟩ := hl
     simp only [itThen] at q1
     unfold itAgain at q1
     obtain ⟨r1, k, r2, r3⟩ := q1
     have q4 := q2.keep (ks := A.lp ((firstReg x).getD 0))
     exact ⟨k, r2, _, md', r3, ⟨q4.size, q4.defers, q4.slots, q4.ob, q4.n, fun t ht => q4.yl t (r1 t ht)⟩, q3⟩
   | exit id => exact hl
   | goto l => exact hl
   | ret => exact hl
   | panic ch => exact hl
   | outgrown => exact hl
 | .exit id, s, hc, hfl, K, a, W, yl, st, md, h, hJ, hK => by
   simp only [cc, Option.some.injEq] at hc; subst hc
   exact wpIn_exit ⟨yl, st, md, hK, h, hJ⟩
 | .ret, s, hc, hfl, K, a, W, yl, st, md, h, hJ, hK => by
   simp only [cc, Option.some.injEq] at hc; subst hc
   exact wpIn_ret ⟨yl, st, md, hK, h, hJ⟩
 | .rangeFunc _ _ _ _, s, hc, hfl, K, a, W, yl, st, md, h, hJ, hK => by simp [flat] at hfl
 | .scope _, s, hc, hfl, K, a, W, yl, st, md, h, hJ, hK => by simp [flat] at hfl
 | .label _, s, hc, hfl, K, a, W, yl, st, md, h, hJ, hK => by
   simp only [cc, Option.some.injEq] at hc; subst hc
   exact wpIn_label ⟨yl, st, md, hK, h, hJ⟩
 | .goto _, s, hc, hfl, K, a, W, yl, st, md, h, hJ, hK => by
   simp only [cc, Option.some.injEq] at hc; subst hc
   exact hK.elim
 | .refuse _, s, hc, _, _, _, _, _, _, _, _, _, _ => by simp [cc] at hc
end
def itEnd (n : Nat) : IKs
 | .exit _, _, _, _ => False
 | _, _, _, md => md = some n ∨ md = none
theorem soundIt_of_itv {G : World → Prop} {P : Program} {T : FuncId → Contract} {f : FuncId} {fn : Func} {body : Code} {s : SCode} (hf : P.funcs[f]? = some fn) (hb : fn.body = some body) (hn : (fn.name == "runtime.NumGoroutine") = false)
   {A : Ann} (hc : cc P fn.ntmps A body = some s) (hfl : flat body = true) (hr : fn.results = #[]) {it : List D → Option (Prop × List (List SV))}
   (h : ∀ cs p xs, it cs = some (p, xs) → p → cs.length + 1 ≤ fn.ntmps ∧ itv T xs s [0] ⟨slots0 (.any :: cs.map .d) 0, 0, []⟩ (some 0) (itEnd xs.length)) : SoundIt G P f it := by
 intro S w cs vs p xs l J Jx hit hp hcs hJk hJxk _ _ hy hJ0
 obtain ⟨hlen, hv⟩ := h cs p xs hit hp
 refine ⟨⟨fn, hf, by rw [hb]; rfl, hn⟩, ?_⟩
 have hvl := RdL_length hcs
 refine callsIn_of_wp hf hb trivial ?_
 have he : Env P S w l xs J Jx := ⟨fun md W hW => by
   cases md with
   | none => exact hJxk W hW
   | some k => exact (hJk k W hW).2, hy⟩
 refine wpIn_mono (itv_ok he body s hc hfl (itEnd xs.length) _ w [0] _ (some 0) ?_ hJ0 hv) ?_
 · have hsz : (#[Value.func (.yield l) #[] #[]] ++ vs.toArray).size = cs.length + 1 := by simp [hvl, Nat.add_comm]
   refine ⟨by simp [hvl]; omega, rfl, fun k => ?_, rfl, rfl, fun t ht => ?_⟩
   · have hC : CnL (fun _ => undef) 0 (rdS S w) (.any :: cs.map .d) (Value.func (.yield l) #[] #[] :: vs) := by
       simp only [CnL]; exact ⟨trivial, CnL_of_RdL hcs⟩
     simp only [St.get, slots0_lk, Nat.zero_le, if_true, Nat.sub_zero]
     cases e : (SV.any :: cs.map SV.d)[k]? with
     | none => simp [Cn]
     | some x =>
       obtain ⟨v, hv, hx⟩ := CnL_get hC e
       have hk : k < vs.length + 1 := by have := (List.getElem?_eq_some_iff.1 hv).1; simpa using this
       have : (#[Value.func (.yield l) #[] #[]] ++ vs.toArray ++ Array.replicate (fn.ntmps - (#[Value.func (.yield l) #[] #[]] ++ vs.toArray).size) undef).getD k undef = v := by
         rw [Array.getD_eq_getD_getElem?, Array.getElem?_append_left (by rw [hsz]; omega)]
         have : (#[Value.func (.yield l) #[] #[]] ++ vs.toArray) = (Value.func (.yield l) #[] #[] :: vs).toArray := by apply Array.ext'; simp
         rw [this]; simp [hv]
       rw [this]; exact hx
   · simp only [List.mem_singleton] at ht; subst ht
     rw [Array.getD_eq_getD_getElem?, Array.getElem?_append_left (by rw [hsz]; omega), Array.getElem?_append_left (by simp)]
     rfl
 · have fin : ∀ (a : Act) (W : World) (yl : List Nat) (st : St) (md : Option Nat), (md = some xs.length ∨ md = none) → IS S w fn.ntmps l a yl st → WJ J Jx md W →
       a.defers = [] ∧ ∃ v, (results fn a.tmps).run P W = .ok v W ∧ ((∃ v', Ending.returned v = .returned v') ∧ (J xs.length W ∨ Jx W)) := by
     intro a W yl st md h1 h2 h3
     refine ⟨h2.defers, .tuple #[], by rw [results_eq, hr]; simp [Sem.run_bind, Sem.run_pure], ⟨_, rfl⟩, ?_⟩
     rcases h1 with rfl | rfl
     · exact .inl h3
     · exact .inr h3
   intro e a W hl
   cases e with
   | normal => obtain ⟨yl, st, md, k1, k2, k3⟩ := hl; exact fin a W yl st md k1 k2 k3
   | ret => obtain ⟨yl, st, md, k1, k2, k3⟩ := hl; exact fin a W yl st md k1 k2 k3
   | exit id => obtain ⟨yl, st, md, k1, k2, k3⟩ := hl; exact k1.elim
   | goto l => exact hl.elim
   | panic ch => exact hl.elim
   | outgrown => exact hl.elim
end Go.Ev
namespace Go.Proofs.YtlghobefhmpfkaaGreatDoor
open Go Go.Ev
set_option maxRecDepth 100000
variable {G : World → Prop}
abbrev Mk := Int × List UInt8
def mkRow (m : Mk) : List D := [.v (.int .u8 m.1), .v (.string ⟨m.2.toArray⟩)]
def mkRows (l : List Mk) : List (List D) := l.map mkRow
abbrev mk0 : Mk := (0, [])
theorem mkRows_len (l : List Mk) : (mkRows l).length = l.length := by simp [mkRows]
theorem mkRows_get {l : List Mk} {i : Nat} (h : i < l.length) : (mkRows l)[i]? = some (mkRow (l.getD i mk0)) := by
 simp [mkRows, List.getD_eq_getElem?_getD, List.getElem?_eq_getElem h]
theorem mkRows_getD {l : List Mk} {i : Nat} (h : i < l.length) : (mkRows l).getD i [] = mkRow (l.getD i mk0) := by rw [List.getD_eq_getElem?_getD, mkRows_get h]; rfl
theorem mkRows_all (l : List Mk) : (∀ r ∈ mkRows l, r.length = 2) = True := by
 refine eq_true fun r hr => ?_
 obtain ⟨m, _, rfl⟩ := List.mem_map.1 hr
 rfl
def unMk : List (List D) → Option (List Mk)
 | [] => some []
 | [.v (.int .u8 s), .v (.string t)] :: r => (unMk r).map ((s, t.data.toList) :: ·)
 | _ => none
theorem unMk_rows : ∀ l : List Mk, unMk (mkRows l) = some l
 | [] => rfl
 | m :: r => by
   have := unMk_rows r
   unfold mkRows at this
   simp [mkRows, mkRow, unMk, this]
theorem unMk_eq : ∀ {rows : List (List D)} {l : List Mk}, unMk rows = some l → rows = mkRows l
 | [], l, h => by simp only [unMk, Option.some.injEq] at h; subst h; rfl
 | x :: r, l, h => by
   unfold unMk at h
   split at h
   · rename_i e; cases e
   · rename_i s t r' e
     simp only [List.cons.injEq] at e
     obtain ⟨rfl, rfl⟩ := e
     obtain ⟨m, h1, rfl⟩ := Option.map_eq_some_iff.1 h
     rw [unMk_eq h1]
     simp [mkRows, mkRow]
   · cases h
theorem mk_mem {l : List Mk} {i : Nat} (h : i < l.length) : l.getD i mk0 ∈ l := by simp [List.getD_eq_getElem?_getD, List.getElem?_eq_getElem h]
theorem mk_drop {l : List Mk} {i : Nat} (h : i < l.length) : l.drop i = l.getD i mk0 :: l.drop (i + 1) := by
 rw [List.drop_eq_getElem_cons h]; simp [List.getD_eq_getElem?_getD, List.getElem?_eq_getElem h]
theorem mk_take {l : List Mk} {i : Nat} (h : i < l.length) : l.take (i + 1) = l.take i ++ [l.getD i mk0] := by
 rw [List.take_succ_eq_append_getElem h]; simp [List.getD_eq_getElem?_getD, List.getElem?_eq_getElem h]
def CNum : Contract := pureC fun args => match args with
 | [.d (.v (.int .i64 n))] => some (True, .d (.v (.bool (cntB n))))
 | _ => none
theorem s58 : Sound G Tryz.prog 58 CNum := by
 refine sd58 (T := tabT []) tab_nil (pureC_lawful _) (pure_hX fun args p x K h hp hk => ?_)
 split at h <;> simp only [Option.some.injEq, Prod.mk.injEq, reduceCtorEq] at h
 obtain ⟨rfl, rfl⟩ := h
 refine ⟨Nat.le_of_ble_eq_true rfl, ?_⟩
 simp -dsimp -implicitDefEqProofs only [S58, R58, ↓Ev.xStp_eq, ↓Ev.P, Ev.Q, Ev.Z, simprocAttr]
 exact hk
def lineQ (s : List UInt8) : Bool × Bool := if s = [] ∨ 10 ∈ s.dropLast then (false, false) else (true, decide (s.getLast? = some 10))
end Go.Proofs.YtlghobefhmpfkaaGreatDoor
namespace Go.Proofs.YtlghobefhmpfkaaGreatDoor
open Go Go.Ev Go.Rcs
set_option maxRecDepth 100000
variable {G : World → Prop}
def cutPre (p s : List UInt8) : List UInt8 × Bool := if s.take p.length = p then (s.drop p.length, true) else (s, false)
def CCutP : Contract := pureC fun args => match args with
 | [.d (.v (.string s)), .d (.v (.string p))] => some (True, .tup [.d (.v (str (cutPre p.data.toList s.data.toList).1)), .d (.v (.bool (cutPre p.data.toList s.data.toList).2))])
 | _ => none
theorem hasPre_list (s p : List UInt8) : hasPre ⟨s.toArray⟩ ⟨p.toArray⟩ = decide (s.take p.length = p) := by
 unfold hasPre
 simp only [sem_str]
 by_cases h : s.take p.length = p
 · have hl : p.length ≤ s.length := by
     have := congrArg List.length h
     rw [List.length_take] at this
     omega
   simp [h]
   omega
 · simp [h]
theorem sCutP : Sound G Tryz.prog 161 CCutP := by
 refine sound_two s161 s161 fun args p x h hp => .inl ?_
 split at h <;> simp only [Option.some.injEq, Prod.mk.injEq, reduceCtorEq] at h
 obtain ⟨rfl, rfl⟩ := h
 rename_i s p
 obtain ⟨s, rfl⟩ := ex_str s
 obtain ⟨p, rfl⟩ := ex_str p
 refine ⟨True, ?_, trivial⟩
 dsimp only
 rw [hasPre_list]
 simp only [sem_str]
 unfold cutPre
 by_cases h : s.take p.length = p
 · rw [if_pos h]
   have e : List.take (s.length - p.length) (List.drop p.length s) = List.drop p.length s := List.take_of_length_le (by rw [List.length_drop]; omega)
   simp [h, str, e]
 · rw [if_neg h]
   simp [h, str]
def markS : List UInt8 := [92, 32, 78, 111, 32, 110, 101, 119, 108, 105, 110, 101, 32, 97, 116, 32, 101, 110, 100, 32, 111, 102, 32, 102, 105, 108, 101, 10]
theorem nextL_le {L : List (List UInt8)} {k a : Nat} {s : List UInt8} (h : nextL L k = .ok (s, a)) : a = k + 1 ∧ k < L.length ∧ s = (bareS (L.getD k [])).1 := by
 unfold nextL at h
 split at h
 · split at h
   · simp only [Except.ok.injEq, Prod.mk.injEq] at h
     exact ⟨h.2.symm, by assumption, h.1.symm⟩
   · cases h
 · cases h
theorem impF (o : Option Prop) (X : Prop) : Ev.impC false o X = X := by rw [eq_iff_iff, Ev.impC_iff]; simp
theorem bare_len (l : List UInt8) : (bareS l).1.length ≤ l.length := by unfold bareS; split <;> simp
theorem mkRows_snoc (l : List Mk) (m : Mk) : mkRows l ++ [[.v (.int .u8 m.1), .v (.string ⟨m.2.toArray⟩)]] = mkRows (l ++ [m]) := by simp [mkRows, mkRow]
theorem nx_next_err {L : List (List UInt8)} {k : Nat} {a e : Int} (fa : Int) (h : nextL L k = .error (a, e)) : nxC L k fa 0 = ([], (k : Int) + 1, (k : Int) + 1, e) ∧ a = (k : Int) + 1 ∧ ¬ e = 0 := by
 unfold nextL at h
 split at h
 · rename_i h1
   split at h
   · cases h
   · rename_i h2
     simp only [Except.error.injEq, Prod.mk.injEq] at h
     obtain ⟨rfl, rfl⟩ := h
     rw [nxC, if_pos rfl, if_neg (by omega), Int.toNat_natCast, if_neg h2]
     exact ⟨rfl, rfl, by decide⟩
 · rename_i h1
   simp only [Except.error.injEq, Prod.mk.injEq] at h
   obtain ⟨rfl, rfl⟩ := h
   rw [nxC, if_pos rfl, if_pos (by omega)]
   exact ⟨rfl, rfl, by decide⟩
end Go.Proofs.YtlghobefhmpfkaaGreatDoor
namespace Go.Proofs.YtlghobefhmpfkaaGreatDoor
open Go Go.Ev
set_option maxRecDepth 100000
variable {G : World → Prop}
def pickT (s : Int) (l : List Mk) : List (List UInt8) := (l.filter fun m => decide (m.1 = s) || decide (m.1 = 32)).map (·.2)
theorem pick_snoc (s : Int) {l : List Mk} {i : Nat} (h : i < l.length) : pickT s (l.take (i + 1)) = pickT s (l.take i) ++ (if (l.getD i mk0).1 = s ∨ (l.getD i mk0).1 = 32 then [(l.getD i mk0).2] else []) := by
 rw [mk_take h, pickT, List.filter_append, List.map_append]
 generalize l.getD i mk0 = m
 by_cases h1 : m.1 = s ∨ m.1 = 32
 · rw [if_pos h1]
   have : (decide (m.1 = s) || decide (m.1 = 32)) = true := by simpa using h1
   simp [pickT, this]
 · rw [if_neg h1]
   have : (decide (m.1 = s) || decide (m.1 = 32)) = false := by simpa using h1
   simp [pickT, this]
theorem pick_len (s : Int) (l : List Mk) : (pickT s l).length ≤ l.length := by
 rw [pickT, List.length_map]; exact List.length_filter_le _ _
theorem pick_take_len (s : Int) (l : List Mk) (i : Nat) (h : i ≤ l.length) : (pickT s (l.take i)).length ≤ i := by
 have := pick_len s (l.take i)
 rw [List.length_take] at this
 omega
theorem strRows_one (a : List (List UInt8)) (x : List UInt8) : strRows a ++ [[.v (.string ⟨x.toArray⟩)]] = strRows (a ++ [x]) := by simp [strRows]
def CPick : Contract := stC fun args st => match args, st with
 | [.agg [.d (.v (.int .i64 A)), .d (.v (.int .i64 AN)), .d (.v (.int .i64 B)), .d (.v (.int .i64 BN)), .d (.sl rows)], .d (.v (.int .u8 s))], ⟨0, []⟩ => (unMk rows).map fun l => (l.length ≤ 1099511627776, .own 0, ⟨1, [(0, .row 9 1 (strRows (pickT s l)))]⟩)
 | _, _ => none
def COld (s : Int) : Contract := stC fun args st => match args, st with
 | [.agg [.d (.v (.int .i64 A)), .d (.v (.int .i64 AN)), .d (.v (.int .i64 B)), .d (.v (.int .i64 BN)), .d (.sl rows)]], ⟨0, []⟩ => (unMk rows).map fun l => (l.length ≤ 1099511627776, .own 0, ⟨1, [(0, .row 9 1 (strRows (pickT s l)))]⟩)
 | _, _ => none
theorem s117 : Sound G Tryz.prog 117 CPick := by
 refine sd117 (T := tabT []) tab_nil (stC_lawful _) (st_hX fun args st p x st' K h hp hk => ?_)
 split at h <;> simp only [Option.map_eq_some_iff, Prod.mk.injEq, reduceCtorEq] at h
 obtain ⟨l, hl, rfl, rfl, rfl⟩ := h
 rw [unMk_eq hl] at *
 rename_i A AN B BN rows s
 refine ⟨Nat.le_of_ble_eq_true rfl, [0], ?_⟩
 simp -dsimp -implicitDefEqProofs only [S117, R117, mkRows_len, ↓Ev.xStp_eq, ↓Ev.P, Ev.Q, Ev.Z, simprocAttr]
 refine xLoop_intro (fun n st => ∃ i : Nat, i ≤ l.length ∧ n = l.length - i ∧
     st = ⟨[(1, .d (.v (.int .u8 s))), (5, .own 0), (9, .d (.sl (mkRows l))), (10, .d (.v (.int .i64 l.length))), (11, .d (.v (.int .i64 i)))], 1, [(0, .row 9 1 (strRows (pickT s (l.take i))))]⟩) l.length [1] ?_ ?_ ?_
 · simp -dsimp -implicitDefEqProofs only [↓Ev.xStp_eq, ↓Ev.P, Ev.Q, Ev.Z, simprocAttr]
 · simp -dsimp -implicitDefEqProofs only [↓Ev.xStp_eq, ↓Ev.P, Ev.Q, Ev.Z, simprocAttr]
   exact ⟨0, by omega, by omega, by simp [pickT, strRows]⟩
 · rintro n st ⟨i, hi, hn, rfl⟩
   by_cases hil : i < l.length
   · have hi3 : (i : Int) < l.length := by omega
     have hg := mkRows_get hil
     have hsn := pick_snoc s hil
     have hpl := pick_take_len s l i hi
     generalize l.getD i mk0 = m at hg hsn
     obtain ⟨c, t⟩ := m
     simp only at hsn
     by_cases hc : c = s
     · subst hc
       rw [if_pos (.inl rfl)] at hsn
       simp -dsimp -implicitDefEqProofs only [hg, hi3, mkRow, strRows_len, strRows_one, ↓Ev.xStp_eq, ↓Ev.P, Ev.Q, Ev.Z, simprocAttr]
       repeat' (first | with_reducible assumption | refine And.intro ?_ ?_ | intro _)
       all_goals try omega
       refine xAgain_intro (l.length - (i + 1)) [3] (by omega) (by simp -dsimp -implicitDefEqProofs only [↓Ev.xStp_eq, ↓Ev.P, Ev.Q, Ev.Z, simprocAttr]) ⟨i + 1, by omega, rfl, ?_⟩
       rw [hsn]
       simp -dsimp -implicitDefEqProofs only [↓Ev.xStp_eq, ↓Ev.P, Ev.Q, Ev.Z, simprocAttr]
       rfl
     · by_cases hc2 : c = 32
       · subst hc2
         rw [if_pos (.inr rfl)] at hsn
         simp -dsimp -implicitDefEqProofs only [hg, hi3, mkRow, hc, strRows_len, strRows_one, ↓Ev.xStp_eq, ↓Ev.P, Ev.Q, Ev.Z, simprocAttr]
         repeat' (first | with_reducible assumption | refine And.intro ?_ ?_ | intro _)
         all_goals try omega
         refine xAgain_intro (l.length - (i + 1)) [3] (by omega) (by simp -dsimp -implicitDefEqProofs only [↓Ev.xStp_eq, ↓Ev.P, Ev.Q, Ev.Z, simprocAttr]) ⟨i + 1, by omega, rfl, ?_⟩
         rw [hsn]
         simp -dsimp -implicitDefEqProofs only [↓Ev.xStp_eq, ↓Ev.P, Ev.Q, Ev.Z, simprocAttr]
         rfl
       · rw [if_neg (by rintro (h | h); exact hc h; exact hc2 h), List.append_nil] at hsn
         simp -dsimp -implicitDefEqProofs only [hg, hi3, mkRow, hc, hc2, strRows_len, strRows_one, ↓Ev.xStp_eq, ↓Ev.P, Ev.Q, Ev.Z, simprocAttr]
         repeat' (first | with_reducible assumption | refine And.intro ?_ ?_ | intro _)
         all_goals try omega
         refine xAgain_intro (l.length - (i + 1)) [0] (by omega) (by simp -dsimp -implicitDefEqProofs only [↓Ev.xStp_eq, ↓Ev.P, Ev.Q, Ev.Z, simprocAttr]) ⟨i + 1, by omega, rfl, ?_⟩
         rw [hsn]
         simp -dsimp -implicitDefEqProofs only [↓Ev.xStp_eq, ↓Ev.P, Ev.Q, Ev.Z, simprocAttr]
         rfl
   · have hi3 : ¬ (i : Int) < l.length := by omega
     simp -dsimp -implicitDefEqProofs only [hi3, ↓Ev.xStp_eq, ↓Ev.P, Ev.Q, Ev.Z, simprocAttr]
     rw [List.take_of_length_le (by omega)]
     exact hk
theorem s60 : Sound G Tryz.prog 60 (COld 45) := by
 refine sd60 (T := tabT [(117, CPick)]) (tab_cons s117 tab_nil) (stC_lawful _) (st_hX fun args st p x st' K h hp hk => ?_)
 split at h <;> simp only [Option.map_eq_some_iff, Prod.mk.injEq, reduceCtorEq] at h
 obtain ⟨l, hl, rfl, rfl, rfl⟩ := h
 rw [unMk_eq hl] at *
 refine ⟨Nat.le_of_ble_eq_true rfl, [1], ?_⟩
 simp -dsimp -implicitDefEqProofs only [S60, R60, CPick, unMk_rows, Ev.St.giveC, ↓Ev.xStp_eq, ↓Ev.P, Ev.Q, Ev.Z, simprocAttr]
 exact ⟨hp, hk⟩
theorem s61 : Sound G Tryz.prog 61 (COld 43) := by
 refine sd61 (T := tabT [(117, CPick)]) (tab_cons s117 tab_nil) (stC_lawful _) (st_hX fun args st p x st' K h hp hk => ?_)
 split at h <;> simp only [Option.map_eq_some_iff, Prod.mk.injEq, reduceCtorEq] at h
 obtain ⟨l, hl, rfl, rfl, rfl⟩ := h
 rw [unMk_eq hl] at *
 refine ⟨Nat.le_of_ble_eq_true rfl, [1], ?_⟩
 simp -dsimp -implicitDefEqProofs only [S61, R61, CPick, unMk_rows, Ev.St.giveC, ↓Ev.xStp_eq, ↓Ev.P, Ev.Q, Ev.Z, simprocAttr]
 exact ⟨hp, hk⟩
def isO (m : Mk) : Bool := decide (m.1 = 32) || decide (m.1 = 45)
def isN (m : Mk) : Bool := decide (m.1 = 32) || decide (m.1 = 43)
def okAt (m : Mk) (r : List Mk) : Bool := (lineQ m.2).1 && (isO m || isN m) && ((lineQ m.2).2 || !((isO m && r.any isO) || (isN m && r.any isN)))
def fieldsT : List Mk → Bool
 | [] => true
 | m :: r => okAt m r && fieldsT r
theorem fields_drop : ∀ (l : List Mk) (i : Nat), fieldsT l = true → fieldsT (l.drop i) = true
 | l, 0, h => by simpa using h
 | [], i + 1, h => by simp [fieldsT]
 | m :: r, i + 1, h => by
   simp only [fieldsT, Bool.and_eq_true] at h
   simp only [List.drop_succ_cons]
   exact fields_drop r i h.2
theorem fields_bad {l : List Mk} {i : Nat} (h : i < l.length) (hb : okAt (l.getD i mk0) (l.drop (i + 1)) = false) : fieldsT l = false := by
 cases e : fieldsT l with
 | false => rfl
 | true =>
   have := fields_drop l i e
   rw [mk_drop h, fieldsT, hb] at this
   simp at this
def CFields : Contract := pureC fun args => match args with
 | [.agg [.d (.v (.int .i64 A)), .d (.v (.int .i64 AN)), .d (.v (.int .i64 B)), .d (.v (.int .i64 BN)), .d (.sl rows)]] => (unMk rows).map fun l => (l.length ≤ 1099511627776 ∧ ∀ m ∈ l, m.2.length ≤ 1099511627776, .d (.v (.bool (fieldsT l))))
 | _ => none
def backXs (rows : List (List D)) : List (List SV) := (List.range rows.length).map fun (k : Nat) => [.d (.v (.int .i64 ((rows.length : Int) - 1 - k))), .agg ((rows.getD (rows.length - 1 - k) []).map .d)]
def backIt (sz : Nat) : List D → Option (Prop × List (List SV))
 | [.pt [.sl rows]] => some (rows.length ≤ 1099511627776 ∧ ∀ r ∈ rows, r.length = sz, backXs rows)
 | _ => none
theorem backXs_len (rows : List (List D)) : (backXs rows).length = rows.length := by simp [backXs]
theorem backXs_get {rows : List (List D)} {k : Nat} (h : k < rows.length) : (backXs rows)[k]? = some [.d (.v (.int .i64 ((rows.length : Int) - 1 - k))), .agg ((rows.getD (rows.length - 1 - k) []).map .d)] := by
 simp [backXs, h]
def CBackIt (sz : Nat) : Contract := ⟨fun _ _ _ => False, fun _ => none, backIt sz⟩
def CBackF (t f : Nat) : Contract := stC fun args st => match args, st with
 | [.d (.sl rows)], ⟨0, []⟩ => some (True, .fn f [.ptr 0 0], ⟨1, [(0, .cells t [.d (.sl rows)])]⟩)
 | _, _ => none
theorem s115 : Sound G Tryz.prog 115 (CBackF 45 162) := by
 refine sd115 (T := tabT []) tab_nil (stC_lawful _) (st_hX fun args st p x st' K h hp hk => ?_)
 split at h <;> simp only [Option.some.injEq, Prod.mk.injEq, reduceCtorEq] at h
 obtain ⟨rfl, rfl, rfl⟩ := h
 refine ⟨Nat.le_of_ble_eq_true rfl, [0], ?_⟩
 simp -dsimp -implicitDefEqProofs only [S115, R115, ↓Ev.xStp_eq, ↓Ev.P, Ev.Q, Ev.Z, simprocAttr]
 exact hk
theorem it162 : Sound G Tryz.prog 162 (CBackIt 2) := by
 obtain ⟨b, hb, hc⟩ := bd162
 refine ⟨fun _ _ _ _ h => (nomatch h), fun _ _ _ _ _ _ _ _ h => h.elim, soundIt_of_itv (T := tabT []) fn162 hb nm162 hc (by simp only [Tryz.f162, Option.some.injEq] at hb; subst hb; kernel_rfl) (by kernel_rfl) fun cs p xs h hp => ?_⟩
 simp only [CBackIt, backIt] at h
 split at h <;> simp only [Option.some.injEq, Prod.mk.injEq, reduceCtorEq] at h
 obtain ⟨rfl, rfl⟩ := h
 rename_i rows
 obtain ⟨h1, h2⟩ := hp
 refine ⟨Nat.le_of_ble_eq_true rfl, ?_⟩
 rw [backXs_len]
 simp -dsimp -implicitDefEqProofs only [S162, itv, itOps, itK, itKs, niO, isTk, isPV, ↓Ev.xStp_eq, ↓Ev.P, Ev.Q, Ev.Z, simprocAttr]
 refine ⟨by omega, ?_⟩
 refine itLoop_intro (fun n st md => ∃ k : Nat, k ≤ rows.length ∧ md = some k ∧ n = rows.length - k ∧ st = ⟨[(0, .any), (1, .d (.pt [.sl rows])), (3, .d (.v (.int .i64 ((rows.length : Int) - 1 - k))))], 0, []⟩) rows.length ?_ ?_
 · simp -dsimp -implicitDefEqProofs only [↓Ev.xStp_eq, ↓Ev.P, Ev.Q, Ev.Z, simprocAttr]
   exact ⟨0, by omega, rfl, by omega, by simp⟩
 · rintro n st md ⟨k, hk, rfl, hn, rfl⟩
   by_cases hkl : k < rows.length
   · have hi : (0 : Int) ≤ (rows.length : Int) - 1 - k := by omega
     have hj : ((rows.length : Int) - 1 - k).toNat = rows.length - 1 - k := by omega
     have hl : rows.length - 1 - k < rows.length := by omega
     have hx := backXs_get hkl
     have hr : rows[rows.length - 1 - k]? = some (rows.getD (rows.length - 1 - k) []) := by simp [List.getD_eq_getElem?_getD, List.getElem?_eq_getElem hl]
     have h4 : (rows.getD (rows.length - 1 - k) []).length = 2 := h2 _ (by rw [List.getD_eq_getElem?_getD, List.getElem?_eq_getElem hl]; exact List.getElem_mem hl)
     have ht : (rows.getD (rows.length - 1 - k) []).take 2 = rows.getD (rows.length - 1 - k) [] := List.take_of_length_le (by omega)
     simp -dsimp -implicitDefEqProofs only [itv, itOps, itK, itKs, niO, isTk, isPV, hi, hj, hr, h4, ht, hx, ↓Ev.xStp_eq, ↓Ev.P, Ev.Q, Ev.Z, simprocAttr]
     refine ⟨⟨by omega, itAgain_intro (rows.length - (k + 1)) (by simp) (by omega) ⟨k + 1, by omega, rfl, rfl, ?_⟩⟩, .inr rfl⟩
     simp -dsimp -implicitDefEqProofs only [↓Ev.xStp_eq, ↓Ev.P, Ev.Q, Ev.Z, simprocAttr]
     rw [show (rows.length : Int) - 1 - k - 1 = (rows.length : Int) - 1 - ((k + 1 : Nat) : Int) by omega]
   · have hi : ¬ (0 : Int) ≤ (rows.length : Int) - 1 - k := by omega
     simp -dsimp -implicitDefEqProofs only [itv, itOps, itK, itKs, niO, isTk, isPV, hi, ↓Ev.xStp_eq, ↓Ev.P, Ev.Q, Ev.Z, simprocAttr]
     exact .inl (by rw [show k = rows.length by omega])
theorem idx10 {s : List UInt8} (h : s ≠ []) : ((0 : Int) ≤ Lib.indexByte s 10 ∧ Lib.indexByte s 10 < (s.length : Int) - 1 ↔ 10 ∈ s.dropLast) ∧ (Lib.indexByte s 10 < 0 ↔ ¬ 10 ∈ s) := by
 have hl : 0 < s.length := List.length_pos_iff.2 h
 have hge := Lib.indexByte_ge s 10
 by_cases h0 : Lib.indexByte s 10 < 0
 · have e : Lib.indexByte s 10 = -1 := by omega
   have hn := Lib.indexByte_none e
   have hm : ¬ (10 : UInt8) ∈ s := fun hm => by
     obtain ⟨k, hk, e⟩ := List.getElem_of_mem hm
     exact hn k (by rw [List.getElem?_eq_getElem hk, e])
   exact ⟨⟨fun h => by omega, fun h => absurd ((List.dropLast_sublist s).subset h) hm⟩, ⟨fun _ => hm, fun _ => h0⟩⟩
 · obtain ⟨o, ho⟩ := Int.eq_ofNat_of_zero_le (show (0 : Int) ≤ Lib.indexByte s 10 by omega)
   obtain ⟨k1, k2⟩ := Lib.indexByte_some ho
   have hol := (List.getElem?_eq_some_iff.1 k1).1
   have hm : (10 : UInt8) ∈ s := List.mem_of_getElem? k1
   rw [ho]
   refine ⟨⟨fun hh => ?_, fun hh => ?_⟩, ⟨fun hh => by omega, fun hh => absurd hm hh⟩⟩
   · have hd : o < s.dropLast.length := by simp; omega
     have : s.dropLast[o] = 10 := by
       rw [List.getElem_dropLast]
       exact (List.getElem?_eq_some_iff.1 k1).2
     rw [← this]; exact List.getElem_mem hd
   · obtain ⟨j, hj, e⟩ := List.getElem_of_mem hh
     simp only [List.length_dropLast] at hj
     rw [List.getElem_dropLast] at e
     have : ¬ j < o := fun hjo => k2 j hjo (by rw [List.getElem?_eq_getElem (by omega), e])
     omega
theorem line10 {s : List UInt8} (h : s ≠ []) (h2 : ¬ 10 ∈ s.dropLast) : lineQ s = (true, decide (10 ∈ s)) := by
 rw [lineQ, if_neg (by rintro (e | e); exact h e; exact h2 e)]
 congr 1
 have hs : s = s.dropLast ++ [s.getLast h] := (List.dropLast_concat_getLast h).symm
 have hg : s.getLast? = some (s.getLast h) := List.getLast?_eq_some_getLast h
 rw [hg]
 by_cases e : s.getLast h = 10
 · have : (10 : UInt8) ∈ s := by rw [← e]; exact List.getLast_mem h
   simp [e, this]
 · have : ¬ (10 : UInt8) ∈ s := fun hm => by
     rw [hs, List.mem_append] at hm
     rcases hm with hm | hm
     · exact h2 hm
     · simp only [List.mem_singleton] at hm; exact e hm.symm
   simp [e, this]
theorem ten8 : (10 : Int).toNat.toUInt8 = 10 := by decide
theorem ten8b : Nat.toUInt8 10 = (10 : UInt8) := by decide
theorem mk_dropL {l : List Mk} {i : Nat} (h : i < l.length) : l.drop (l.length - (i + 1)) = l.getD (l.length - 1 - i) mk0 :: l.drop (l.length - i) := by
 rw [show l.length - (i + 1) = l.length - 1 - i by omega, mk_drop (by omega), show l.length - 1 - i + 1 = l.length - i by omega]
set_option maxHeartbeats 4000000 in
theorem s59 : Sound G Tryz.prog 59 CFields := by
 refine sd59 (T := tabT [(116, C163), (115, CBackF 45 162), (162, CBackIt 2)])
   (tab_cons s116 (tab_cons s115 (tab_cons it162 tab_nil))) (pureC_lawful _) (pure_hX fun args p x K h hp hk => ?_)
 split at h <;> simp only [Option.map_eq_some_iff, Prod.mk.injEq, reduceCtorEq] at h
 obtain ⟨l, hl, rfl, rfl⟩ := h
 rw [unMk_eq hl] at *
 rename_i A AN B BN rows
 obtain ⟨h1, h2⟩ := hp
 refine ⟨Nat.le_of_ble_eq_true rfl, ?_⟩
 simp -dsimp -implicitDefEqProofs only [S59, R59, CBackF, ↓Ev.xStp_eq, ↓Ev.P, Ev.Q, Ev.Z, simprocAttr]
 refine xEach_intro (fun i s => i ≤ l.length ∧ fieldsT (l.drop (l.length - i)) = true ∧ s = ⟨3, [(0, .cells 4 [.d (.v (.bool false))]), (1, .cells 4 [.d (.v (.bool ((l.drop (l.length - i)).any isO)))]), (2, .cells 4 [.d (.v (.bool ((l.drop (l.length - i)).any isN)))])]⟩) [1, 2, 3] rfl rfl ?_ ?_ ?_ ?_ ?_
 · exact ⟨by rw [mkRows_len]; omega, by rw [mkRows_all]; trivial⟩
 · simp -dsimp -implicitDefEqProofs only [↓Ev.xStp_eq, ↓Ev.P, Ev.Q, Ev.Z, simprocAttr]
 · refine ⟨by omega, by simp [fieldsT], ?_⟩
   simp -dsimp -implicitDefEqProofs only [↓Ev.xStp_eq, ↓Ev.P, Ev.Q, Ev.Z, simprocAttr]
   simp
 · rintro i s x ⟨hi, hf, rfl⟩ hx
   have hil : i < l.length := by
     have := (List.getElem?_eq_some_iff.1 hx).1
     rwa [backXs_len, mkRows_len] at this
   rw [backXs_get (by rw [mkRows_len]; exact hil), mkRows_len] at hx
   simp only [Option.some.injEq] at hx
   subst hx
   refine ⟨rfl, ?_⟩
   have hlt : l.length - 1 - i < l.length := by omega
   have hg2 := mkRows_getD hlt
   have hmx := h2 _ (mk_mem hlt)
   have hdl := mk_dropL hil
   have hbad := fields_bad hlt
   rw [show l.length - 1 - i + 1 = l.length - i by omega] at hbad
   rw [hg2]
   generalize l.getD (l.length - 1 - i) mk0 = m at hmx hdl hbad ⊢
   obtain ⟨c, t⟩ := m
   simp only at hmx
   generalize l.drop (l.length - i) = r at hf hdl hbad ⊢
   have ho : ∀ q1 q2, lineQ t = (q1, q2) → okAt (c, t) r = (q1 && (isO (c, t) || isN (c, t)) && (q2 || !((isO (c, t) && r.any isO) || (isN (c, t) && r.any isN)))) := fun q1 q2 e => by rw [okAt, e]
   have hno : (l.drop (l.length - (i + 1))).any isO = (isO (c, t) || r.any isO) := by rw [hdl, List.any_cons]
   have hnn : (l.drop (l.length - (i + 1))).any isN = (isN (c, t) || r.any isN) := by rw [hdl, List.any_cons]
   have hnf : fieldsT (l.drop (l.length - (i + 1))) = okAt (c, t) r := by rw [hdl, fieldsT, hf, Bool.and_true]
   generalize r.any isO = xo at ho hno ⊢
   generalize r.any isN = xn at ho hnn ⊢
   have hge := Lib.indexByte_ge t 10
   have h10 := fun h => idx10 (s := t) h
   have l10 := fun h h2 => line10 (s := t) h h2
   simp -dsimp -implicitDefEqProofs only [mkRow, C163, ten8, ten8b, ↓Ev.P, Ev.Q, Ev.Z, simprocAttr]
   repeat' (first | with_reducible assumption | refine And.intro ?_ ?_ | intro _ | (rw [Ev.xStp_eq]; simp -dsimp -implicitDefEqProofs only [C163, ten8, ten8b, ↓Ev.P, Ev.Q, Ev.Z, simprocAttr]))
   all_goals try omega
   · rename_i hh
     have hb : okAt (c, t) r = false := by
       rcases hh with (h | h) | h
       · rcases hq : lineQ t with ⟨q1, q2⟩
         rw [ho q1 q2 hq]
         obtain ⟨⟨e1, e2⟩, -, e3⟩ := h
         simp [isO, isN, e1, e2, e3]
       · rw [ho false false (by rw [h]; rfl)]; rfl
       · by_cases ht : t = []
         · rw [ho false false (by rw [ht]; rfl)]; rfl
         · have := (h10 ht).1.1 h
           rw [ho false false (by rw [lineQ, if_pos (.inr this)])]; rfl
     rw [hbad hb] at hk
     exact hk
   · rename_i hh hh2
     obtain ⟨⟨hc, ht⟩, hnd⟩ := hh
     obtain ⟨hat, hh2⟩ := hh2
     have hd : ¬ (10 : UInt8) ∈ t.dropLast := fun h => by
       obtain ⟨k1, k2⟩ := (h10 ht).1.2 h
       exact hnd.elim (fun e => e k1) (fun e => e k2)
     have hb : okAt (c, t) r = false := by
       rw [ho _ _ (l10 ht hd), decide_eq_false ((h10 ht).2.1 hat)]
       clear ho hno hnn hnf hbad
       rcases hh2 with ⟨(rfl | rfl), e⟩ | ⟨(rfl | rfl), e⟩ <;> rw [e] <;> simp [isO, isN]
     rw [hbad hb] at hk
     exact hk
   · rename_i hh hh2
     obtain ⟨⟨hc, ht⟩, hnd⟩ := hh
     have hd : ¬ (10 : UInt8) ∈ t.dropLast := fun h => by
       obtain ⟨k1, k2⟩ := (h10 ht).1.2 h
       exact hnd.elim (fun e => e k1) (fun e => e k2)
     have hb : okAt (c, t) r = true := by
       rw [ho _ _ (l10 ht hd)]
       have h3 : (10 : UInt8) ∈ t ∨ ((¬c = 32 ∧ ¬c = 45) ∨ xo = false) ∧ ((¬c = 32 ∧ ¬c = 43) ∨ xn = false) := hh2.imp (fun e => Classical.not_not.1 fun hn => e ((h10 ht).2.2 hn)) (fun e => ⟨e.1.elim (fun a => .inl a) .inr, e.2.elim (fun a => .inl a) .inr⟩)
       clear ho hno hnn hnf hbad hh2
       generalize hm : decide ((10 : UInt8) ∈ t) = b10
       have h4 : b10 = true ∨ ((¬c = 32 ∧ ¬c = 45) ∨ xo = false) ∧ ((¬c = 32 ∧ ¬c = 43) ∨ xn = false) := h3.imp (fun e => by rw [← hm]; exact decide_eq_true e) id
       clear h3 hm
       rcases hc with (rfl | rfl) | (rfl | rfl) <;> cases b10 <;> cases xo <;> cases xn <;> simp [isO, isN] at h4 ⊢
     refine xOnce_intro [0, 1, 2] (by simp -dsimp -implicitDefEqProofs only [↓Ev.xStp_eq, ↓Ev.P, Ev.Q, Ev.Z, simprocAttr]) ⟨by omega, by rw [hnf, hb], ?_⟩
     rw [hno, hnn]
     simp -dsimp -implicitDefEqProofs only [↓Ev.xStp_eq, ↓Ev.P, Ev.Q, Ev.Z, simprocAttr]
     simp only [isO, isN]
     rw [Bool.or_comm xo, Bool.or_comm xn]
 · rintro s ⟨hi, hf, rfl⟩
   rw [backXs_len, mkRows_len, Nat.sub_self, List.drop_zero] at hf
   rw [hf] at hk
   simp -dsimp -implicitDefEqProofs only [↓Ev.xStp_eq, ↓Ev.P, Ev.Q, Ev.Z, simprocAttr]
   exact hk
def firstM (f : Mk → Bool) (l : List Mk) : Int := match l.findIdx? f with
 | some i => i
 | none => -1
theorem first_hit {f : Mk → Bool} {l : List Mk} {i : Nat} (h : i < l.length) (hn : ∀ j, j < i → f (l.getD j mk0) = false) (hy : f (l.getD i mk0) = true) : firstM f l = i := by
 have : l.findIdx? f = some i := by
   rw [List.findIdx?_eq_some_iff_getElem]
   refine ⟨h, ?_, fun j hj => ?_⟩
   · rw [List.getD_eq_getElem?_getD, List.getElem?_eq_getElem h] at hy; exact hy
   · have := hn j hj
     rw [List.getD_eq_getElem?_getD, List.getElem?_eq_getElem (by omega)] at this
     simpa using this
 rw [firstM, this]
theorem first_miss {f : Mk → Bool} {l : List Mk} (hn : ∀ j, j < l.length → f (l.getD j mk0) = false) : firstM f l = -1 := by
 have : l.findIdx? f = none := by
   rw [List.findIdx?_eq_none_iff]
   intro x hx
   obtain ⟨j, hj, e⟩ := List.getElem_of_mem hx
   have := hn j hj
   rw [List.getD_eq_getElem?_getD, List.getElem?_eq_getElem hj] at this
   simpa [e] using this
 rw [firstM, this]
theorem first_any (f : Mk → Bool) (l : List Mk) : decide (0 ≤ firstM f l) = l.any f := by
 rw [firstM]
 cases e : l.findIdx? f with
 | none =>
   rw [List.findIdx?_eq_none_iff] at e
   have : l.any f = false := by
     rw [List.any_eq_false]
     intro x hx; simpa using e x hx
   rw [this]; decide
 | some i =>
   rw [List.findIdx?_eq_some_iff_getElem] at e
   obtain ⟨h, e, _⟩ := e
   have : l.any f = true := List.any_eq_true.2 ⟨_, List.getElem_mem h, e⟩
   rw [this]; simp
def chgM (m : Mk) : Bool := !decide (m.1 = 32)
def CChg : Contract := pureC fun args => match args with
 | [.agg [.d (.v (.int .u8 c)), .d (.v (.string t))]] => some (True, .d (.v (.bool (chgM (c, t.data.toList)))))
 | _ => none
theorem s57 : Sound G Tryz.prog 57 CChg := by
 refine sd57 (T := tabT []) tab_nil (pureC_lawful _) (pure_hX fun args p x K h hp hk => ?_)
 split at h <;> simp only [Option.some.injEq, Prod.mk.injEq, reduceCtorEq] at h
 obtain ⟨rfl, rfl⟩ := h
 refine ⟨Nat.le_of_ble_eq_true rfl, ?_⟩
 simp -dsimp -implicitDefEqProofs only [S57, R57, ↓Ev.xStp_eq, ↓Ev.P, Ev.Q, Ev.Z, simprocAttr]
 exact hk
def CIdxF : Contract := stC fun args st => match args, st with
 | [.d (.sl rows), .fn 57 []], ⟨0, []⟩ => (unMk rows).map fun l => (l.length ≤ 1099511627776, .d (.v (.int .i64 (firstM chgM l))), ⟨0, []⟩)
 | _, _ => none
def CCtF : Contract := stC fun args st => match args, st with
 | [.d (.sl rows), .fn 57 []], ⟨0, []⟩ => (unMk rows).map fun l => (l.length ≤ 1099511627776, .d (.v (.bool (l.any chgM))), ⟨0, []⟩)
 | _, _ => none
theorem s118 : Sound G Tryz.prog 118 CIdxF := by
 refine sd118 (T := tabT [(57, CChg)]) (tab_cons s57 tab_nil) (stC_lawful _) (st_hX fun args st p x st' K h hp hk => ?_)
 split at h <;> simp only [Option.map_eq_some_iff, Prod.mk.injEq, reduceCtorEq] at h
 obtain ⟨l, hl, rfl, rfl, rfl⟩ := h
 rw [unMk_eq hl] at *
 refine ⟨Nat.le_of_ble_eq_true rfl, [], ?_⟩
 simp -dsimp -implicitDefEqProofs only [S118, R118, mkRows_len, ↓Ev.xStp_eq, ↓Ev.P, Ev.Q, Ev.Z, simprocAttr]
 refine xLoop_intro (fun n st => ∃ i : Nat, i ≤ l.length ∧ n = l.length - i ∧ (∀ j, j < i → chgM (l.getD j mk0) = false) ∧
     st = ⟨[(0, .d (.sl (mkRows l))), (1, .fn 57 []), (7, .d (.v (.int .i64 l.length))), (8, .d (.v (.int .i64 i)))], 0, []⟩) l.length [] ?_ ?_ ?_
 · simp -dsimp -implicitDefEqProofs only [↓Ev.xStp_eq, ↓Ev.P, Ev.Q, Ev.Z, simprocAttr]
 · simp -dsimp -implicitDefEqProofs only [↓Ev.xStp_eq, ↓Ev.P, Ev.Q, Ev.Z, simprocAttr]
   exact ⟨0, by omega, by omega, fun _ h => by omega, rfl⟩
 · rintro n st ⟨i, hi, hn, hj, rfl⟩
   by_cases hil : i < l.length
   · have hi3 : (i : Int) < l.length := by omega
     have hg := mkRows_get hil
     have hx := fun hy => first_hit (f := chgM) hil hj hy
     have hj2 : chgM (l.getD i mk0) = false → ∀ j, j < i + 1 → chgM (l.getD j mk0) = false := fun h j hji => by
       by_cases e : j = i
       · subst e; exact h
       · exact hj j (by omega)
     generalize l.getD i mk0 = m at hg hx hj2
     obtain ⟨c, t⟩ := m
     simp -dsimp -implicitDefEqProofs only [hg, hi3, mkRow, CChg, Ev.St.giveC, ↓Ev.xStp_eq, ↓Ev.P, Ev.Q, Ev.Z, simprocAttr]
     repeat' (first | with_reducible assumption | refine And.intro ?_ ?_ | intro _)
     all_goals try omega
     · rename_i hc
       rw [hx hc] at hk
       exact hk
     · rename_i hc
       refine xAgain_intro (l.length - (i + 1)) [] (by omega) (by simp -dsimp -implicitDefEqProofs only [↓Ev.xStp_eq, ↓Ev.P, Ev.Q, Ev.Z, simprocAttr]) ⟨i + 1, by omega, rfl, hj2 hc, ?_⟩
       simp -dsimp -implicitDefEqProofs only [↓Ev.xStp_eq, ↓Ev.P, Ev.Q, Ev.Z, simprocAttr]
       rfl
   · have hi3 : ¬ (i : Int) < l.length := by omega
     simp -dsimp -implicitDefEqProofs only [hi3, ↓Ev.xStp_eq, ↓Ev.P, Ev.Q, Ev.Z, simprocAttr]
     rw [first_miss (fun j h => hj j (by omega))] at hk
     exact hk
theorem s62 : Sound G Tryz.prog 62 CCtF := by
 refine sd62 (T := tabT [(118, CIdxF)]) (tab_cons s118 tab_nil) (stC_lawful _) (st_hX fun args st p x st' K h hp hk => ?_)
 split at h <;> simp only [Option.map_eq_some_iff, Prod.mk.injEq, reduceCtorEq] at h
 obtain ⟨l, hl, rfl, rfl, rfl⟩ := h
 rw [unMk_eq hl] at *
 refine ⟨Nat.le_of_ble_eq_true rfl, [], ?_⟩
 simp -dsimp -implicitDefEqProofs only [S62, R62, CIdxF, unMk_rows, ↓Ev.xStp_eq, ↓Ev.P, Ev.Q, Ev.Z, simprocAttr]
 rw [first_any]
 exact ⟨hp, hk⟩
def hkChk (A AN B BN : Int) (l : List Mk) : Int :=
 if (((((cntB A = false ∨ cntB AN = false) ∨ cntB B = false) ∨ cntB BN = false) ∨ (A = 0 ∧ 0 < AN)) ∨ (B = 0 ∧ 0 < BN)) then 2
 else if fieldsT l = false then 6
 else if ¬ AN = (pickT 45 l).length ∨ ¬ BN = (pickT 43 l).length then 120
 else if l.any chgM = false then 50 else 0
def CHk : Contract := pureC fun args => match args with
 | [.agg [.d (.v (.int .i64 A)), .d (.v (.int .i64 AN)), .d (.v (.int .i64 B)), .d (.v (.int .i64 BN)), .d (.sl rows)]] => (unMk rows).map fun l => (l.length ≤ 1099511627776 ∧ ∀ m ∈ l, m.2.length ≤ 1099511627776, .d (.v (.int .i64 (hkChk A AN B BN l))))
 | _ => none
theorem cnt_true {n : Int} (h : cntB n = true) : 0 ≤ n ∧ n ≤ 2147483647 := by simpa [cntB] using h
set_option maxHeartbeats 4000000 in
theorem s22 : Sound G Tryz.prog 22 CHk := by
 refine sd22 (T := tabT [(58, CNum), (59, CFields), (60, COld 45), (61, COld 43), (62, CCtF)])
   (tab_cons s58 (tab_cons s59 (tab_cons s60 (tab_cons s61 (tab_cons s62 tab_nil))))) (pureC_lawful _) (pure_hX fun args p x K h hp hk => ?_)
 split at h <;> simp only [Option.map_eq_some_iff, Prod.mk.injEq, reduceCtorEq] at h
 obtain ⟨l, hl, rfl, rfl⟩ := h
 rw [unMk_eq hl] at *
 rename_i A AN B BN rows
 obtain ⟨h1, h2⟩ := hp
 refine ⟨Nat.le_of_ble_eq_true rfl, ?_⟩
 have l1 := pick_len 45 l
 have l2 := pick_len 43 l
 unfold hkChk at hk
 by_cases hn : ((cntB A = true ∧ cntB AN = true) ∧ cntB B = true) ∧ cntB BN = true
 · obtain ⟨⟨⟨e1, e2⟩, e3⟩, e4⟩ := hn
   have c1 := cnt_true e1
   have c2 := cnt_true e2
   have c3 := cnt_true e3
   have c4 := cnt_true e4
   by_cases hm : A < min 1 AN ∨ B < min 1 BN
   · rw [if_pos (by omega)] at hk
     by_cases m1 : A < min 1 AN
     · simp -dsimp -implicitDefEqProofs only [S22, R22, CNum, e1, e2, e3, e4, m1, ↓Ev.P, Ev.Q, Ev.Z, simprocAttr]
       repeat' (first | with_reducible assumption | refine And.intro ?_ ?_ | intro _ | (rw [Ev.xStp_eq]; simp -dsimp -implicitDefEqProofs only [CNum, e1, e2, e3, e4, m1, ↓Ev.P, Ev.Q, Ev.Z, simprocAttr]))
     · have m2 := hm.resolve_left m1
       simp -dsimp -implicitDefEqProofs only [S22, R22, CNum, e1, e2, e3, e4, m1, m2, ↓Ev.P, Ev.Q, Ev.Z, simprocAttr]
       repeat' (first | with_reducible assumption | refine And.intro ?_ ?_ | intro _ | (rw [Ev.xStp_eq]; simp -dsimp -implicitDefEqProofs only [CNum, e1, e2, e3, e4, m1, m2, ↓Ev.P, Ev.Q, Ev.Z, simprocAttr]))
   · have m1 : ¬ A < min 1 AN := fun h => hm (.inl h)
     have m2 : ¬ B < min 1 BN := fun h => hm (.inr h)
     rw [if_neg (by rw [e1, e2, e3, e4]; simp; omega)] at hk
     cases hf : fieldsT l with
     | false =>
       rw [if_pos hf] at hk
       simp -dsimp -implicitDefEqProofs only [S22, R22, CNum, e1, e2, e3, e4, m1, m2, ↓Ev.P, Ev.Q, Ev.Z, simprocAttr]
       repeat' (first | with_reducible assumption | refine And.intro ?_ ?_ | intro _ | (rw [Ev.xStp_eq]; simp -dsimp -implicitDefEqProofs only [CNum, e1, e2, e3, e4, m1, m2, CFields, unMk_rows, hf, Ev.St.giveC, ↓Ev.P, Ev.Q, Ev.Z, simprocAttr]))
     | true =>
       rw [if_neg (by rw [hf]; simp)] at hk
       have ha : l.any chgM = false ∨ l.any chgM = true := by cases l.any chgM <;> simp
       by_cases ho : AN = (pickT 45 l).length
       · by_cases hw : BN = (pickT 43 l).length
         · rw [if_neg (by rintro (h | h); exact h ho; exact h hw)] at hk
           have ho' : (AN = (pickT 45 l).length) = True := eq_true ho
           have hw' : (BN = (pickT 43 l).length) = True := eq_true hw
           rcases ha with ha | ha <;>
           · rw [ha] at hk
             simp only [if_true, Bool.true_eq_false, if_false] at hk
             simp -dsimp -implicitDefEqProofs only [S22, R22, CNum, e1, e2, e3, e4, m1, m2, ↓Ev.P, Ev.Q, Ev.Z, simprocAttr]
             repeat' (first | with_reducible assumption | refine And.intro ?_ ?_ | intro _ | (rw [Ev.xStp_eq]; simp -dsimp -implicitDefEqProofs only [CNum, e1, e2, e3, e4, m1, m2, CFields, COld, CCtF, unMk_rows, strRows_len, hf, ho', hw', ha, Ev.St.giveC, ↓Ev.P, Ev.Q, Ev.Z, simprocAttr]))
         · rw [if_pos (.inr hw)] at hk
           have ho' : (AN = (pickT 45 l).length) = True := eq_true ho
           have hw' : (BN = (pickT 43 l).length) = False := eq_false hw
           simp -dsimp -implicitDefEqProofs only [S22, R22, CNum, e1, e2, e3, e4, m1, m2, ↓Ev.P, Ev.Q, Ev.Z, simprocAttr]
           repeat' (first | with_reducible assumption | refine And.intro ?_ ?_ | intro _ | (rw [Ev.xStp_eq]; simp -dsimp -implicitDefEqProofs only [CNum, e1, e2, e3, e4, m1, m2, CFields, COld, CCtF, unMk_rows, strRows_len, hf, ho', hw', Ev.St.giveC, ↓Ev.P, Ev.Q, Ev.Z, simprocAttr]))
       · rw [if_pos (.inl ho)] at hk
         have ho' : (AN = (pickT 45 l).length) = False := eq_false ho
         simp -dsimp -implicitDefEqProofs only [S22, R22, CNum, e1, e2, e3, e4, m1, m2, ↓Ev.P, Ev.Q, Ev.Z, simprocAttr]
         repeat' (first | with_reducible assumption | refine And.intro ?_ ?_ | intro _ | (rw [Ev.xStp_eq]; simp -dsimp -implicitDefEqProofs only [CNum, e1, e2, e3, e4, m1, m2, CFields, COld, CCtF, unMk_rows, strRows_len, hf, ho', Ev.St.giveC, ↓Ev.P, Ev.Q, Ev.Z, simprocAttr]))
 · rw [if_pos (by revert hn; cases cntB A <;> cases cntB AN <;> cases cntB B <;> cases cntB BN <;> simp)] at hk
   cases e1 : cntB A with
   | false =>
     simp -dsimp -implicitDefEqProofs only [S22, R22, CNum, e1, ↓Ev.P, Ev.Q, Ev.Z, simprocAttr]
     repeat' (first | with_reducible assumption | refine And.intro ?_ ?_ | intro _ | (rw [Ev.xStp_eq]; simp -dsimp -implicitDefEqProofs only [CNum, e1, ↓Ev.P, Ev.Q, Ev.Z, simprocAttr]))
   | true =>
     cases e2 : cntB AN with
     | false =>
       simp -dsimp -implicitDefEqProofs only [S22, R22, CNum, e1, e2, ↓Ev.P, Ev.Q, Ev.Z, simprocAttr]
       repeat' (first | with_reducible assumption | refine And.intro ?_ ?_ | intro _ | (rw [Ev.xStp_eq]; simp -dsimp -implicitDefEqProofs only [CNum, e1, e2, ↓Ev.P, Ev.Q, Ev.Z, simprocAttr]))
     | true =>
       cases e3 : cntB B with
       | false =>
         simp -dsimp -implicitDefEqProofs only [S22, R22, CNum, e1, e2, e3, ↓Ev.P, Ev.Q, Ev.Z, simprocAttr]
         repeat' (first | with_reducible assumption | refine And.intro ?_ ?_ | intro _ | (rw [Ev.xStp_eq]; simp -dsimp -implicitDefEqProofs only [CNum, e1, e2, e3, ↓Ev.P, Ev.Q, Ev.Z, simprocAttr]))
       | true =>
         have e4 : cntB BN = false := by
           cases e4 : cntB BN with
           | false => rfl
           | true => exact absurd ⟨⟨⟨e1, e2⟩, e3⟩, e4⟩ hn
         simp -dsimp -implicitDefEqProofs only [S22, R22, CNum, e1, e2, e3, e4, ↓Ev.P, Ev.Q, Ev.Z, simprocAttr]
         repeat' (first | with_reducible assumption | refine And.intro ?_ ?_ | intro _ | (rw [Ev.xStp_eq]; simp -dsimp -implicitDefEqProofs only [CNum, e1, e2, e3, e4, ↓Ev.P, Ev.Q, Ev.Z, simprocAttr]))
abbrev Hk := (Int × Int × Int × Int) × List Mk
abbrev hk0 : Hk := ((0, 0, 0, 0), [])
def hkRow (h : Hk) : List D := [.v (.int .i64 h.1.1), .v (.int .i64 h.1.2.1), .v (.int .i64 h.1.2.2.1), .v (.int .i64 h.1.2.2.2), .sl (mkRows h.2)]
def hkRows (l : List Hk) : List (List D) := l.map hkRow
theorem hkRows_len (l : List Hk) : (hkRows l).length = l.length := by simp [hkRows]
theorem hkRows_get {l : List Hk} {i : Nat} (h : i < l.length) : (hkRows l)[i]? = some (hkRow (l.getD i hk0)) := by
 simp [hkRows, List.getD_eq_getElem?_getD, List.getElem?_eq_getElem h]
theorem hkRows_getD {l : List Hk} {i : Nat} (h : i < l.length) : (hkRows l).getD i [] = hkRow (l.getD i hk0) := by rw [List.getD_eq_getElem?_getD, hkRows_get h]; rfl
theorem hkRows_all (l : List Hk) : (∀ r ∈ hkRows l, r.length = 5) = True := by
 refine eq_true fun r hr => ?_
 obtain ⟨m, _, rfl⟩ := List.mem_map.1 hr
 rfl
def unHk : List (List D) → Option (List Hk)
 | [] => some []
 | [.v (.int .i64 a), .v (.int .i64 b), .v (.int .i64 c), .v (.int .i64 d), .sl rows] :: r => (unMk rows).bind fun l => (unHk r).map (((a, b, c, d), l) :: ·)
 | _ => none
theorem unHk_rows : ∀ l : List Hk, unHk (hkRows l) = some l
 | [] => rfl
 | h :: r => by
   have := unHk_rows r
   unfold hkRows at this
   simp [hkRows, hkRow, unHk, unMk_rows, this]
theorem unHk_eq : ∀ {rows : List (List D)} {l : List Hk}, unHk rows = some l → rows = hkRows l
 | [], l, h => by simp only [unHk, Option.some.injEq] at h; subst h; rfl
 | x :: r, l, h => by
   unfold unHk at h
   split at h
   · rename_i e; cases e
   · rename_i a b c d rows r' e
     simp only [List.cons.injEq] at e
     obtain ⟨rfl, rfl⟩ := e
     obtain ⟨m, h1, h3⟩ := Option.bind_eq_some_iff.1 h
     obtain ⟨k, h2, rfl⟩ := Option.map_eq_some_iff.1 h3
     rw [unHk_eq h2, unMk_eq h1]
     simp [hkRows, hkRow]
   · cases h
theorem hk_mem {l : List Hk} {i : Nat} (h : i < l.length) : l.getD i hk0 ∈ l := by simp [List.getD_eq_getElem?_getD, List.getElem?_eq_getElem h]
theorem hk_drop {l : List Hk} {i : Nat} (h : i < l.length) : l.drop i = l.getD i hk0 :: l.drop (i + 1) := by
 rw [List.drop_eq_getElem_cons h]; simp [List.getD_eq_getElem?_getD, List.getElem?_eq_getElem h]
theorem hk_take {l : List Hk} {i : Nat} (h : i < l.length) : l.take (i + 1) = l.take i ++ [l.getD i hk0] := by
 rw [List.take_succ_eq_append_getElem h]; simp [List.getD_eq_getElem?_getD, List.getElem?_eq_getElem h]
def chkH (h : Hk) : Int := hkChk h.1.1 h.1.2.1 h.1.2.2.1 h.1.2.2.2 h.2
def smH (l : List Hk) : Prop := l.length ≤ 1099511627776 ∧ ∀ h ∈ l, h.2.length ≤ 1099511627776 ∧ ∀ m ∈ h.2, m.2.length ≤ 1099511627776
def badHs : List Hk → Int
 | [] => 0
 | h :: r => if chkH h = 0 then badHs r else chkH h
def wrongT (o n : List UInt8) (l : List Hk) : Int := if 64 < o.length ∨ 64 < n.length then 253 else if 4096 < l.length then 9 else badHs l
def cntT (p n : Int) : List UInt8 := if n = 1 then Lib.itoa p else Lib.itoa p ++ [44] ++ Lib.itoa n
def CCnt : Contract := pureC fun args => match args with
 | [.d (.v (.int .i64 a)), .d (.v (.int .i64 n))] => some ((0 ≤ a ∧ a ≤ 4294967296) ∧ (0 ≤ n ∧ n ≤ 4294967296), .d (.v (str (cntT a n))))
 | _ => none
theorem cnt_len {a n : Int} (h : (0 ≤ a ∧ a ≤ 4294967296) ∧ (0 ≤ n ∧ n ≤ 4294967296)) : (cntT a n).length ≤ 43 := by
 have h1 := itoa_len (n := a) (by omega)
 have h2 := itoa_len (n := n) (by omega)
 unfold cntT
 split
 · omega
 · simp only [List.length_append, List.length_cons, List.length_nil]; omega
theorem s69 (hG : ∀ w, G w → Pow10 w) : Sound G Tryz.prog 69 CCnt := by
 refine sd69 (T := tabT [(105, CItoa)]) (tab_cons (s105 hG) tab_nil) (pureC_lawful _) (pure_hX fun args p x K h hp hk => ?_)
 split at h <;> simp only [Option.some.injEq, Prod.mk.injEq, reduceCtorEq] at h
 obtain ⟨rfl, rfl⟩ := h
 refine ⟨Nat.le_of_ble_eq_true rfl, ?_⟩
 rename_i a n
 have h1 := itoa_len (n := a) (by omega)
 have h2 := itoa_len (n := n) (by omega)
 simp -dsimp -implicitDefEqProofs only [S69, R69, CItoa, List.length_append, ↓Ev.xStp_eq, ↓Ev.P, Ev.Q, Ev.Z, simprocAttr]
 by_cases hn : n = 1
 · rw [cntT, if_pos hn] at hk
   repeat' (first | with_reducible assumption | refine And.intro ?_ ?_ | intro _)
   all_goals first | omega | exact hk
 · rw [cntT, if_neg hn] at hk
   repeat' (first | with_reducible assumption | refine And.intro ?_ ?_ | intro _)
   all_goals first | omega | exact hk
theorem hkRows_one (l : List Hk) (A AN B BN : Int) (m : List Mk) : hkRows l ++ [[.v (.int .i64 A), .v (.int .i64 AN), .v (.int .i64 B), .v (.int .i64 BN), .sl (mkRows m)]] = hkRows (l ++ [((A, AN, B, BN), m)]) := by simp [hkRows, hkRow]
abbrev Pt := (List UInt8 × List UInt8) × List Hk
abbrev pt0 : Pt := (([], []), [])
def ptRow (p : Pt) : List D := [.v (.string ⟨p.1.1.toArray⟩), .v (.string ⟨p.1.2.toArray⟩), .sl (hkRows p.2)]
def ptRows (l : List Pt) : List (List D) := l.map ptRow
theorem ptRows_len (l : List Pt) : (ptRows l).length = l.length := by simp [ptRows]
theorem ptRows_get {l : List Pt} {i : Nat} (h : i < l.length) : (ptRows l)[i]? = some (ptRow (l.getD i pt0)) := by
 simp [ptRows, List.getD_eq_getElem?_getD, List.getElem?_eq_getElem h]
theorem ptRows_all (l : List Pt) : (∀ r ∈ ptRows l, r.length = 3) = True := by
 refine eq_true fun r hr => ?_
 obtain ⟨m, _, rfl⟩ := List.mem_map.1 hr
 rfl
def unPt : List (List D) → Option (List Pt)
 | [] => some []
 | [.v (.string o), .v (.string n), .sl rows] :: r => (unHk rows).bind fun l => (unPt r).map (((o.data.toList, n.data.toList), l) :: ·)
 | _ => none
theorem unPt_rows : ∀ l : List Pt, unPt (ptRows l) = some l
 | [] => rfl
 | h :: r => by
   have := unPt_rows r
   unfold ptRows at this
   simp [ptRows, ptRow, unPt, unHk_rows, this]
theorem unPt_eq : ∀ {rows : List (List D)} {l : List Pt}, unPt rows = some l → rows = ptRows l
 | [], l, h => by simp only [unPt, Option.some.injEq] at h; subst h; rfl
 | x :: r, l, h => by
   unfold unPt at h
   split at h
   · rename_i e; cases e
   · rename_i o n rows r' e
     simp only [List.cons.injEq] at e
     obtain ⟨rfl, rfl⟩ := e
     obtain ⟨m, h1, h3⟩ := Option.bind_eq_some_iff.1 h
     obtain ⟨k, h2, rfl⟩ := Option.map_eq_some_iff.1 h3
     rw [unPt_eq h2, unHk_eq h1]
     obtain ⟨o, rfl⟩ := ex_str o
     obtain ⟨n, rfl⟩ := ex_str n
     simp [ptRows, ptRow]
   · cases h
theorem pt_mem {l : List Pt} {i : Nat} (h : i < l.length) : l.getD i pt0 ∈ l := by simp [List.getD_eq_getElem?_getD, List.getElem?_eq_getElem h]
theorem pt_take {l : List Pt} {i : Nat} (h : i < l.length) : l.take (i + 1) = l.take i ++ [l.getD i pt0] := by
 rw [List.take_succ_eq_append_getElem h]; simp [List.getD_eq_getElem?_getD, List.getElem?_eq_getElem h]
theorem ptRows_one (l : List Pt) (o n : List UInt8) (h : List Hk) : ptRows l ++ [[.v (.string ⟨o.toArray⟩), .v (.string ⟨n.toArray⟩), .sl (hkRows h)]] = ptRows (l ++ [((o, n), h)]) := by simp [ptRows, ptRow]
def smP (l : List Pt) : Prop := l.length ≤ 1099511627776 ∧ ∀ p ∈ l, smH p.2
def CSame1 : Contract := pureC fun args => match args with
 | [.agg [.d (.v (.int .i64 A)), .d (.v (.int .i64 AN)), .d (.v (.int .i64 B)), .d (.v (.int .i64 BN)), .d (.sl rows)], .agg [.d (.v (.int .i64 A')), .d (.v (.int .i64 AN')), .d (.v (.int .i64 B')), .d (.v (.int .i64 BN')), .d (.sl rows')]] =>
     (unMk rows).bind fun l => (unMk rows').map fun m => (((A, AN, B, BN) = (A', AN', B', BN') ∧ l = m) ∧ l.length ≤ 1099511627776, .d (.v (.bool true)))
 | _ => none
set_option maxHeartbeats 1000000 in
theorem s56 : Sound G Tryz.prog 56 CSame1 := by
 refine sd56 (T := tabT []) tab_nil (pureC_lawful _) (pure_hX fun args p x K h hp hk => ?_)
 split at h <;> simp only [Option.bind_eq_some_iff, Option.map_eq_some_iff, Prod.mk.injEq, reduceCtorEq] at h
 obtain ⟨l, hl, m, hm, rfl, rfl⟩ := h
 rw [unMk_eq hl, unMk_eq hm] at *
 rename_i A AN B BN rows A' AN' B' BN' rows'
 obtain ⟨⟨e, rfl⟩, h1⟩ := hp
 obtain ⟨rfl, rfl, rfl, rfl⟩ := e
 refine ⟨Nat.le_of_ble_eq_true rfl, ?_⟩
 simp -dsimp -implicitDefEqProofs only [S56, R56, mkRows_len, ↓Ev.P, Ev.Q, Ev.Z, simprocAttr]
 repeat' (first | with_reducible assumption | refine And.intro ?_ ?_ | intro _ | (rw [Ev.xStp_eq]; simp -dsimp -implicitDefEqProofs only [mkRows_len, ↓Ev.P, Ev.Q, Ev.Z, simprocAttr]))
 refine xLoop_intro (fun n st => ∃ i : Nat, i ≤ l.length ∧ n = l.length - i ∧
     st = ⟨[(2, .ptr 0 0), (3, .ptr 1 0), (5, .d (.v (.int .i64 i)))], 2, [(0, .cells 47 [.d (.v (.int .i64 A)), .d (.v (.int .i64 AN)), .d (.v (.int .i64 B)), .d (.v (.int .i64 BN)), .d (.sl (mkRows l))]), (1, .cells 47 [.d (.v (.int .i64 A)), .d (.v (.int .i64 AN)), .d (.v (.int .i64 B)), .d (.v (.int .i64 BN)), .d (.sl (mkRows l))])]⟩) l.length [0, 1] ?_ ?_ ?_
 · simp -dsimp -implicitDefEqProofs only [↓Ev.xStp_eq, ↓Ev.P, Ev.Q, Ev.Z, simprocAttr]
 · simp -dsimp -implicitDefEqProofs only [↓Ev.xStp_eq, ↓Ev.P, Ev.Q, Ev.Z, simprocAttr]
   exact ⟨0, by omega, by omega, rfl⟩
 · rintro n st ⟨i, hi, hn, rfl⟩
   by_cases hil : i < l.length
   · have hi3 : (i : Int) < l.length := by omega
     have hg := mkRows_get hil
     generalize l.getD i mk0 = m at hg
     obtain ⟨c, t⟩ := m
     simp -dsimp -implicitDefEqProofs only [hg, hi3, mkRow, mkRows_len, ↓Ev.xStp_eq, ↓Ev.P, Ev.Q, Ev.Z, simprocAttr]
     repeat' (first | with_reducible assumption | refine And.intro ?_ ?_ | intro _)
     all_goals first | omega | skip
     refine xAgain_intro (l.length - (i + 1)) [0, 1] (by omega) (by simp -dsimp -implicitDefEqProofs only [↓Ev.xStp_eq, ↓Ev.P, Ev.Q, Ev.Z, simprocAttr]) ⟨i + 1, by omega, rfl, ?_⟩
     simp -dsimp -implicitDefEqProofs only [↓Ev.xStp_eq, ↓Ev.P, Ev.Q, Ev.Z, simprocAttr]
     rfl
   · have hi3 : ¬ (i : Int) < l.length := by omega
     simp -dsimp -implicitDefEqProofs only [hi3, mkRows_len, ↓Ev.xStp_eq, ↓Ev.P, Ev.Q, Ev.Z, simprocAttr]
     exact hk
def CSameHs : Contract := pureC fun args => match args with
 | [.d (.sl rows), .d (.sl rows')] => (unHk rows).bind fun l => (unHk rows').map fun m => (l = m ∧ smH l, .d (.v (.bool true)))
 | _ => none
set_option maxHeartbeats 1000000 in
theorem s21 : Sound G Tryz.prog 21 CSameHs := by
 refine sd21 (T := tabT [(56, CSame1)]) (tab_cons s56 tab_nil) (pureC_lawful _) (pure_hX fun args p x K h hp hk => ?_)
 split at h <;> simp only [Option.bind_eq_some_iff, Option.map_eq_some_iff, Prod.mk.injEq, reduceCtorEq] at h
 obtain ⟨l, hl, m, hm, rfl, rfl⟩ := h
 rw [unHk_eq hl, unHk_eq hm] at *
 obtain ⟨rfl, h1, h2⟩ := hp
 refine ⟨Nat.le_of_ble_eq_true rfl, ?_⟩
 simp -dsimp -implicitDefEqProofs only [S21, R21, hkRows_len, ↓Ev.xStp_eq, ↓Ev.P, Ev.Q, Ev.Z, simprocAttr]
 refine xLoop_intro (fun n st => ∃ i : Nat, i ≤ l.length ∧ n = l.length - i ∧
     st = ⟨[(0, .d (.sl (hkRows l))), (1, .d (.sl (hkRows l))), (5, .d (.v (.int .i64 i)))], 0, []⟩) l.length [] ?_ ?_ ?_
 · simp -dsimp -implicitDefEqProofs only [↓Ev.xStp_eq, ↓Ev.P, Ev.Q, Ev.Z, simprocAttr]
 · simp -dsimp -implicitDefEqProofs only [↓Ev.xStp_eq, ↓Ev.P, Ev.Q, Ev.Z, simprocAttr]
   exact ⟨0, by omega, by omega, rfl⟩
 · rintro n st ⟨i, hi, hn, rfl⟩
   by_cases hil : i < l.length
   · have hi3 : (i : Int) < l.length := by omega
     have hg := hkRows_get hil
     have hg2 := hkRows_getD hil
     have hm := h2 _ (hk_mem hil)
     generalize l.getD i hk0 = h at hg hg2 hm
     obtain ⟨⟨A, AN, B, BN⟩, m⟩ := h
     simp only at hm
     simp -dsimp -implicitDefEqProofs only [hg, hg2, hi3, hkRow, hkRows_len, CSame1, unMk_rows, Ev.St.giveC, ↓Ev.xStp_eq, ↓Ev.P, Ev.Q, Ev.Z, simprocAttr]
     repeat' (first | with_reducible assumption | refine And.intro ?_ ?_ | intro _)
     all_goals first | omega | rfl | exact hm.1 | skip
     refine xAgain_intro (l.length - (i + 1)) [] (by omega) (by simp -dsimp -implicitDefEqProofs only [↓Ev.xStp_eq, ↓Ev.P, Ev.Q, Ev.Z, simprocAttr]) ⟨i + 1, by omega, rfl, ?_⟩
     simp -dsimp -implicitDefEqProofs only [↓Ev.xStp_eq, ↓Ev.P, Ev.Q, Ev.Z, simprocAttr]
     rfl
   · have hi3 : ¬ (i : Int) < l.length := by omega
     simp -dsimp -implicitDefEqProofs only [hi3, hkRows_len, ↓Ev.xStp_eq, ↓Ev.P, Ev.Q, Ev.Z, simprocAttr]
     exact hk
def CSameP : Contract := pureC fun args => match args with
 | [.agg [.d (.v (.string o)), .d (.v (.string n)), .d (.sl rows)], .agg [.d (.v (.string o')), .d (.v (.string n')), .d (.sl rows')]] => (unHk rows).bind fun l => (unHk rows').map fun m => ((o = o' ∧ n = n' ∧ l = m) ∧ smH l, .d (.v (.bool true)))
 | _ => none
theorem s71 : Sound G Tryz.prog 71 CSameP := by
 refine sd71 (T := tabT [(21, CSameHs)]) (tab_cons s21 tab_nil) (pureC_lawful _) (pure_hX fun args p x K h hp hk => ?_)
 split at h <;> simp only [Option.bind_eq_some_iff, Option.map_eq_some_iff, Prod.mk.injEq, reduceCtorEq] at h
 obtain ⟨l, hl, m, hm, rfl, rfl⟩ := h
 rw [unHk_eq hl, unHk_eq hm] at *
 obtain ⟨⟨rfl, rfl, rfl⟩, h1⟩ := hp
 refine ⟨Nat.le_of_ble_eq_true rfl, ?_⟩
 simp -dsimp -implicitDefEqProofs only [S71, R71, CSameHs, unHk_rows, Ev.St.giveC, ↓Ev.P, Ev.Q, Ev.Z, simprocAttr]
 repeat' (first | with_reducible assumption | refine And.intro ?_ ?_ | intro _ | (rw [Ev.xStp_eq]; simp -dsimp -implicitDefEqProofs only [CSameHs, unHk_rows, Ev.St.giveC, ↓Ev.P, Ev.Q, Ev.Z, simprocAttr]))
theorem s63 : Sound G Tryz.prog 63 CSameP := by
 refine sd63 (T := tabT [(71, CSameP)]) (tab_cons s71 tab_nil) (pureC_lawful _) (pure_hX fun args p x K h hp hk => ?_)
 split at h <;> simp only [Option.bind_eq_some_iff, Option.map_eq_some_iff, Prod.mk.injEq, reduceCtorEq] at h
 obtain ⟨l, hl, m, hm, rfl, rfl⟩ := h
 rw [unHk_eq hl, unHk_eq hm] at *
 obtain ⟨⟨rfl, rfl, rfl⟩, h1⟩ := hp
 refine ⟨Nat.le_of_ble_eq_true rfl, ?_⟩
 simp -dsimp -implicitDefEqProofs only [S63, R63, CSameP, unHk_rows, Ev.St.giveC, ↓Ev.P, Ev.Q, Ev.Z, simprocAttr]
 repeat' (first | with_reducible assumption | refine And.intro ?_ ?_ | intro _ | (rw [Ev.xStp_eq]; simp -dsimp -implicitDefEqProofs only [CSameP, unHk_rows, Ev.St.giveC, ↓Ev.P, Ev.Q, Ev.Z, simprocAttr]))
end Go.Proofs.YtlghobefhmpfkaaGreatDoor
namespace Go.Proofs.YtlghobefhmpfkaaGreatDoor
open Go Go.Ev Go.Rcs
set_option maxRecDepth 100000
variable {G : World → Prop}
def hkA (x : Hk × Nat) : SV × Int := (.agg [.d (.v (.int .i64 x.1.1.1)), .d (.v (.int .i64 x.1.1.2.1)), .d (.v (.int .i64 x.1.1.2.2.1)), .d (.v (.int .i64 x.1.1.2.2.2)), .d (.sl (mkRows x.1.2))], (x.2 : Int))
theorem lns_feed : ∀ (l : List UInt8), ∀ x ∈ lns l, ∀ k, k + 1 < x.length → x.getD k 0 ≠ 10
 | [], x, h, k, _ => by simp [lns] at h
 | c :: r, x, h, k, hk => by
   rw [lns] at h
   by_cases hc : c = 10
   · rw [if_pos hc] at h
     rcases List.mem_cons.1 h with rfl | h
     · simp at hk
     · exact lns_feed r x h k hk
   · rw [if_neg hc] at h
     cases hl : lns r with
     | nil =>
       rw [hl] at h
       simp only [List.mem_singleton] at h
       subst h
       simp at hk
     | cons p ps =>
       rw [hl] at h
       rcases List.mem_cons.1 h with rfl | h
       · cases k with
         | zero => simpa using hc
         | succ k =>
           have := lns_feed r p (by rw [hl]; simp) k (by simpa using hk)
           simpa using this
       · exact lns_feed r x (by rw [hl]; exact List.mem_cons_of_mem _ h) k hk
theorem lns_szN (s : List UInt8) (h : s.length ≤ 1048576) : (lns s).length ≤ 1048576 ∧ ∀ x ∈ lns s, x.length ≤ 1048576 := by
 refine ⟨Nat.le_trans (lns_len s) h, fun x hx => ?_⟩
 have h2 : x.length ≤ (lns s).flatten.length := by
   obtain ⟨a, b, e⟩ := List.append_of_mem hx
   rw [e]; simp; omega
 rw [lns_flat] at h2
 omega
def feedE (L : List (List UInt8)) : Prop := ∀ x ∈ L, ∀ k, k + 1 < x.length → x.getD k 0 ≠ 10
theorem bare_no {x : List UInt8} (h : ∀ k, k + 1 < x.length → x.getD k 0 ≠ 10) (hb : (bareS x).2 = true) : 10 ∉ (bareS x).1 := by
 unfold bareS at hb ⊢
 split at hb
 · rename_i hl
   rw [if_pos hl]
   intro hm
   obtain ⟨k, hk, e⟩ := List.mem_iff_getElem.1 hm
   simp only [List.length_dropLast] at hk
   refine h k (by omega) ?_
   rw [List.getElem_dropLast] at e
   rw [List.getD_eq_getElem?_getD, List.getElem?_eq_getElem (by omega), Option.getD_some]
   exact e
 · cases hb
theorem cnt_inN {n : Int} (h : 0 ≤ n ∧ n ≤ 2147483647) : cntB n = true := by simpa [cntB] using h
end Go.Proofs.YtlghobefhmpfkaaGreatDoor
namespace Go.Proofs.YtlghobefhmpfkaaGreatDoor
open Go Go.Ev
set_option maxRecDepth 100000
def A24 : Ann := ⟨fun r i => if r = 0 ∧ i = 0 then 57 else 0, fun r => if r = 6 then some [(1, true, []), (2, true, []), (3, true, []), (0, true, [3]), (4, false, [3]), (5, false, []), (6, false, [0, 1, 2, 3, 4, 5, 6, 7, 8, 9, 10, 11, 12, 13, 14, 15]), (7, false, [0, 1, 2, 3, 4, 5, 6, 7, 8, 9, 10, 11, 12, 13, 14, 15])] else none, fun r => if r = 1 then some (false, [0, 2, 3]) else if r = 2 then some (false, [2, 3]) else if r = 4 then some (false, [0, 2, 3]) else if r = 6 then some (false, [2, 3, 4]) else if r = 7 then some (false, [2, 3]) else none, fun r => if r = 5 then [2, 3, 4] else []⟩
def S24 : SCode :=
 (.seq (.seq (.keep [0, 2, 3]) (.ops [⟨none, (some 13), .mv 13 (.s 0), false⟩,
   ⟨none, (some 14), .call (some 14) 34 false [(.s 13)], false⟩,
   ⟨none, (some 15), .bd 15 [(Value.slice none 0 0), (Value.int .i64 0)] [(0, 1, (.s 14))], false⟩,
   ⟨none, (some 16), .bx 16 112 2 (.s 15), false⟩,
   ⟨none, (some 4), .mv 4 (.s 16), false⟩]))
 (.seq (.block 0 (.loop [2, 3, 4] (.seq (.seq (.ops [⟨none, (some 17), .mv 17 (.s 4), false⟩,
   ⟨none, (some 18), .call (some 18) 65 false [(.s 17)], false⟩])
 (.cond (.s 18) .skip (.exit 0)))
 (.block 1 (.seq (.keep [2, 3, 4]) (.dr [([], true, ⟨none, (some 20), .mv 20 (.s 4), false⟩),
   ([], true, ⟨none, (some 21), .ld 21 false 1 (.s 2), false⟩),
   ([], true, ⟨none, (some 22), .len 22 (.s 21), false⟩),
   ([3], true, ⟨none, (some 19), .ld 19 false 1 (.s 2), false⟩),
   ([3], false, ⟨none, (some 23), .call (some 23) 66 false [(.s 20), (.s 22)], false⟩),
   ([], false, ⟨none, (some 24), .bs 24 55 3 [(.s 23)], false⟩),
   ([0, 1, 2, 3, 4, 5, 6, 7, 8, 9, 10, 11, 12, 13, 14, 15], false, ⟨none, (some 25), .ap 25 55 3 56 (.s 19) (.s 24), false⟩),
   ([0, 1, 2, 3, 4, 5, 6, 7, 8, 9, 10, 11, 12, 13, 14, 15], false, ⟨none, none, .st false 1 (.s 2) (.s 25), false⟩)]))))))
 (.seq (.seq (.keep [2, 3]) (.ops [⟨none, (some 26), .ld 26 false 1 (.s 2), false⟩,
   ⟨none, none, .st false 1 (.s 2) (.s 26), false⟩,
   ⟨none, none, .st false 1 (.s 3) (.k Value.nilIface), false⟩]))
 .ret)))
def SP24 : List SCode := [(.ops [⟨none, (some 2), .aln 2 49 [(Value.slice none 0 0)] 0 55 3, false⟩,
   ⟨none, (some 3), .al 3 24 [Value.nilIface], false⟩]),
 (.seq (.seq (.keep [0, 2, 3]) (.ops [⟨none, (some 5), .mv 5 (.s 0), false⟩,
   ⟨none, (some 6), .lens 6 (.s 5), false⟩,
   ⟨none, (some 7), .bin 7 .gtr (.s 6) (.k (Value.int .i64 1048576)), false⟩]))
 (.cond (.s 7) (.seq (.seq (.keep [2, 3]) (.ops [⟨none, (some 8), .mi 8 27 (.k (Value.int .i64 9)), false⟩,
   ⟨none, (some 9), .bd 9 [(Value.int .i64 0), Value.nilIface] [(1, 1, (.s 8))], false⟩,
   ⟨none, (some 10), .bx 10 83 2 (.s 9), false⟩,
   ⟨none, (some 11), .mi 11 79 (.s 10), false⟩,
   ⟨none, none, .st false 1 (.s 2) (.k (Value.slice none 0 0)), false⟩,
   ⟨none, none, .st false 1 (.s 3) (.s 11), false⟩]))
 .ret) .skip))]
theorem cc24 : (Tryz.f24.body).bind (ccD Tryz.prog Tryz.f24.ntmps A24) = some (SP24, S24, 12, 64, [(.s 2), (.s 3)]) := by kernel_rfl
def R24 : List RR := [.ce 2 false 1, .ce 3 false 1]
theorem cr24 : Tryz.f24.results.toList.map (crr Tryz.prog) = R24.map some := by kernel_rfl
theorem nm24 : (Tryz.f24.name == "runtime.NumGoroutine") = false := by kernel_rfl
theorem fn24 : Tryz.prog.funcs[24]? = some Tryz.f24 := by kernel_rfl
theorem bd24 : ∃ b, Tryz.f24.body = some b ∧ ccD Tryz.prog Tryz.f24.ntmps A24 b = some (SP24, S24, 12, 64, [(.s 2), (.s 3)]) := Option.bind_eq_some_iff.1 cc24
theorem sd24 {G : World → Prop} {T : FuncId → Contract} {D : DCon} {C : Contract} (hT : ∀ f, Sound G Tryz.prog f (T f)) (hD : SoundD G Tryz.prog 64 D) (hl : C.lawful) (hC : ∀ args st K, C.wp args st K → args.length ≤ 27 ∧ ∃ os, xvs T st.n (endK R24 st.n os K) SP24 (fun st1 => xv T st1.n S24 (st1.put 12 (.fn 64 (([(.s 2), (.s 3)] : List Rv).map fun x => x.get st1))) (defE D R24 st.n os K (([(.s 2), (.s 3)] : List Rv).map fun x => x.get st1)) (fun x s => defK D R24 st.n os K (some x) (([(.s 2), (.s 3)] : List Rv).map fun x => x.get st1) s)) (st0 args st)) (hit : SoundIt G Tryz.prog 24 C.it := by exact SoundIt.none) : Sound G Tryz.prog 24 C := by
 obtain ⟨b, hb, hc⟩ := bd24
 rw [xvs_eq, xv_eq] at hC
 exact sound_of_ccD mo fn24 hb nm24 hc cr24 hT hD hl hit hC
def A66 : Ann := ⟨fun r i => if r = 5 ∧ i = 18 then 1 else 0, fun r => if r = 6 then some [(0, true, [0]), (2, true, []), (3, true, []), (4, true, []), (5, true, []), (1, true, [0]), (6, false, [0]), (7, false, []), (8, false, [0, 1, 2, 3, 4, 5, 6, 7, 8, 9, 10, 11, 12, 13, 14, 15]), (9, true, []), (10, false, [0, 1, 2, 3, 4, 5, 6, 7, 8, 9, 10, 11, 12, 13, 14, 15])] else if r = 5 then some [(0, true, []), (1, true, []), (2, true, []), (3, true, []), (4, true, []), (5, true, []), (6, false, [0, 1, 2, 3, 4, 5, 6, 7, 8, 9, 10, 11, 12, 13, 14, 15]), (7, true, []), (8, true, []), (9, true, []), (10, true, []), (12, true, []), (13, true, []), (14, true, []), (11, true, []), (15, true, []), (16, true, []), (17, true, []), (18, false, [0, 1, 2, 3, 4, 5, 6, 7, 8, 9, 10, 11, 12, 13, 14, 15]), (19, true, []), (20, true, [])] else none, fun r => if r = 1 then some (false, [0, 1, 4]) else if r = 3 then some (false, [0, 4, 5]) else if r = 4 then some (false, [0, 4, 5]) else if r = 5 then some (false, [0, 4, 5]) else if r = 6 then some (false, [0, 4, 5]) else none, fun r => if r = 5 then [0, 4, 5] else []⟩
def S66 : SCode :=
 (.seq (.ops [⟨none, (some 4), .al 4 55 [(Value.string ⟨#[]⟩), (Value.string ⟨#[]⟩), (Value.slice none 0 0)], false⟩])
 (.seq (.seq (.keep [0, 1, 4]) (.ops [⟨none, (some 6), .mv 6 (.s 0), false⟩,
   ⟨none, (some 7), .call (some 7) 119 false [(.s 6), (.k (Value.string ⟨#[45, 45, 45, 32]⟩))], false⟩,
   ⟨none, (some 8), .bd 8 [(Value.string ⟨#[]⟩), (Value.string ⟨#[]⟩), (Value.slice none 0 0)] [(0, 1, (.s 7))], false⟩,
   ⟨none, (some 5), .al 5 55 [(Value.string ⟨#[]⟩), (Value.string ⟨#[]⟩), (Value.slice none 0 0)], false⟩,
   ⟨none, none, .st true 3 (.s 5) (.s 8), false⟩]))
 (.seq (.seq (.ops [⟨none, (some 9), .mv 9 (.s 1), false⟩,
   ⟨none, (some 10), .bin 10 .geq (.s 9) (.k (Value.int .i64 64)), false⟩])
 (.cond (.s 10) (.seq (.keep [0, 4, 5]) (.ops [⟨none, (some 11), .mv 11 (.s 0), false⟩,
   ⟨none, (some 12), .mv 12 (.s 0), false⟩,
   ⟨none, (some 13), .nc 13 (.s 12), false⟩,
   ⟨none, (some 14), .fa 14 1 (.s 13), false⟩,
   ⟨none, (some 15), .ld 15 false 1 (.s 14), false⟩,
   ⟨none, (some 16), .call (some 16) 120 false [(.s 11), (.s 15), (.k (Value.int .i64 9))], false⟩])) .skip))
 (.seq (.seq (.keep [0, 4, 5]) (.ops [⟨none, (some 17), .mv 17 (.s 0), false⟩,
   ⟨none, (some 18), .call (some 18) 119 false [(.s 17), (.k (Value.string ⟨#[43, 43, 43, 32]⟩))], false⟩,
   ⟨none, (some 19), .fa 19 1 (.s 5), false⟩,
   ⟨none, none, .st false 1 (.s 19) (.s 18), false⟩]))
 (.seq (.block 0 (.loop [0, 4, 5] (.seq (.seq (.seq (.keep [0, 4, 5]) (.dr [([], true, ⟨none, (some 20), .fa 20 2 (.s 5), false⟩),
   ([], true, ⟨none, (some 21), .ld 21 false 1 (.s 20), false⟩),
   ([], true, ⟨none, (some 22), .len 22 (.s 21), false⟩),
   ([], true, ⟨none, (some 23), .bin 23 .eql (.s 22) (.k (Value.int .i64 0)), false⟩),
   ([], true, ⟨none, (some 24), .mv 24 (.s 23), false⟩),
   ([], true, ⟨(some (24, false)), (some 25), .mv 25 (.s 0), false⟩),
   ([0, 1, 2, 3, 4, 5, 6, 7, 8, 9, 10, 11, 12, 13, 14, 15], false, ⟨(some (24, false)), (some 26), .call (some 26) 65 false [(.s 25)], false⟩),
   ([], true, ⟨(some (24, false)), (some 27), .mv 27 (.s 26), false⟩),
   ([], true, ⟨(some (27, true)), (some 28), .mv 28 (.s 0), false⟩),
   ([], true, ⟨(some (27, true)), (some 29), .nc 29 (.s 28), true⟩),
   ([], true, ⟨(some (27, true)), (some 30), .fa 30 0 (.s 29), false⟩),
   ([], true, ⟨(some (27, true)), (some 32), .mv 32 (.s 0), false⟩),
   ([], true, ⟨(some (27, true)), (some 33), .nc 33 (.s 32), false⟩),
   ([], true, ⟨(some (27, true)), (some 34), .fa 34 1 (.s 33), false⟩),
   ([], true, ⟨(some (27, true)), (some 31), .ld 31 false 1 (.s 30), false⟩),
   ([], true, ⟨(some (27, true)), (some 35), .ld 35 false 1 (.s 34), false⟩),
   ([], true, ⟨(some (27, true)), (some 36), .ia 36 1 (.s 31) (.s 35), false⟩),
   ([], true, ⟨(some (27, true)), (some 37), .ld 37 false 1 (.s 36), false⟩),
   ([0, 1, 2, 3, 4, 5, 6, 7, 8, 9, 10, 11, 12, 13, 14, 15], false, ⟨(some (27, true)), (some 38), .call (some 38) 121 true [(.s 37), (.k (Value.string ⟨#[64, 64]⟩))], false⟩),
   ([], true, ⟨(some (24, false)), (some 39), .pk 39 (.s 27) (.s 38) (.k (Value.bool false)), true⟩),
   ([], true, ⟨none, (some 40), .pk 40 (.s 24) (.k (Value.bool true)) (.s 39), false⟩)]))
 (.cond (.s 40) .skip (.exit 0)))
 (.block 1 (.seq (.keep [0, 4, 5]) (.dr [([0], true, ⟨none, (some 41), .fa 41 2 (.s 5), false⟩),
   ([], true, ⟨none, (some 43), .mv 43 (.s 0), false⟩),
   ([], true, ⟨none, (some 44), .fa 44 2 (.s 5), false⟩),
   ([], true, ⟨none, (some 45), .ld 45 false 1 (.s 44), false⟩),
   ([], true, ⟨none, (some 46), .len 46 (.s 45), false⟩),
   ([0], true, ⟨none, (some 42), .ld 42 false 1 (.s 41), false⟩),
   ([0], false, ⟨none, (some 47), .call (some 47) 122 false [(.s 43), (.s 46)], false⟩),
   ([], false, ⟨none, (some 48), .bs 48 47 5 [(.s 47)], false⟩),
   ([0, 1, 2, 3, 4, 5, 6, 7, 8, 9, 10, 11, 12, 13, 14, 15], false, ⟨none, (some 49), .ap 49 47 5 56 (.s 42) (.s 48), false⟩),
   ([], true, ⟨none, (some 50), .fa 50 2 (.s 5), true⟩),
   ([0, 1, 2, 3, 4, 5, 6, 7, 8, 9, 10, 11, 12, 13, 14, 15], false, ⟨none, none, .st false 1 (.s 50) (.s 49), false⟩)]))))))
 (.seq (.ops [⟨none, (some 51), .ld 51 true 3 (.s 5), false⟩,
   ⟨none, none, .st true 3 (.s 4) (.s 51), false⟩])
 .ret))))))
def R66 : List RR := [.ce 4 true 3]
theorem sd66 : SdT Tryz.prog 66 52 S66 R66 := fun hT hl hC hit => sdX (F := Tryz.f66) (A := A66) mo (by kernel_rfl) (by kernel_rfl) (by kernel_rfl) (by kernel_rfl) hT hl hC hit
def A122 : Ann := ⟨fun r i => if r = 7 ∧ i = 11 then 1 else 0, fun _ => none, fun r => if r = 1 then some (false, [0, 1, 4]) else if r = 2 then some (false, [0, 1, 4, 5, 6]) else if r = 3 then some (false, [0, 1, 4, 5, 6, 7]) else if r = 4 then some (false, [0, 4, 5, 7]) else if r = 5 then some (false, [0, 1, 4, 5, 7]) else if r = 6 then some (false, [0, 4, 5, 7]) else if r = 7 then some (false, [0, 4, 5, 7]) else if r = 8 then some (false, [0, 4, 5, 7]) else if r = 10 then some (false, [0, 4, 5, 7, 8]) else if r = 11 then some (false, [0, 4, 5, 7, 8, 9]) else if r = 12 then some (false, [0, 4, 5, 7, 8, 9]) else if r = 13 then some (false, [0, 4, 5, 7, 8, 9, 10]) else if r = 14 then some (false, [0, 4, 5, 7, 8, 9, 10]) else if r = 18 then some (false, [0, 4, 5, 7]) else none, fun r => if r = 11 then [0, 4, 5, 7, 8, 9] else []⟩
def S122_0 : SCode :=
 (.ops [⟨none, (some 4), .al 4 47 [(Value.int .i64 0), (Value.int .i64 0), (Value.int .i64 0), (Value.int .i64 0), (Value.slice none 0 0)], false⟩])
def S122_1 : SCode :=
 (.seq (.keep [0, 1, 4]) (.ops [⟨none, (some 12), .mv 12 (.s 0), false⟩,
   ⟨none, (some 13), .call (some 13) 164 false [(.s 12)], false⟩,
   ⟨none, (some 14), .call (some 14) 167 false [(.s 13)], false⟩,
   ⟨none, (some 11), .mv 11 (.s 14), false⟩,
   ⟨none, (some 15), .ex 15 (.s 11) 0, false⟩,
   ⟨none, (some 16), .ex 16 (.s 11) 1, false⟩,
   ⟨none, (some 5), .al 5 47 [(Value.int .i64 0), (Value.int .i64 0), (Value.int .i64 0), (Value.int .i64 0), (Value.slice none 0 0)], false⟩,
   ⟨none, none, .st true 5 (.s 5) (.s 15), false⟩,
   ⟨none, (some 6), .mv 6 (.s 16), false⟩]))
def S122_2 : SCode :=
 (.seq (.keep [0, 1, 4, 5, 6]) (.ops [⟨none, (some 17), .mv 17 (.s 0), false⟩,
   ⟨none, (some 18), .nc 18 (.s 17), false⟩,
   ⟨none, (some 19), .fa 19 1 (.s 18), false⟩,
   ⟨none, (some 20), .ld 20 false 1 (.s 19), false⟩,
   ⟨none, (some 7), .mv 7 (.s 20), false⟩]))
def S122_3 : SCode :=
 (.block 0 (.seq (.seq (.keep [0, 1, 4, 5, 6, 7]) (.ops [⟨none, (some 22), .mv 22 (.s 6), false⟩,
   ⟨none, (some 23), .not 23 (.s 22), false⟩,
   ⟨none, (some 21), .mv 21 (.s 23), false⟩]))
 (.cond (.s 21) (.seq (.keep [0, 4, 5, 7]) (.ops [⟨none, (some 24), .mv 24 (.s 0), false⟩,
   ⟨none, (some 25), .mv 25 (.s 7), false⟩,
   ⟨none, (some 26), .call (some 26) 120 false [(.s 24), (.s 25), (.k (Value.int .i64 3))], false⟩])) (.seq (.seq (.keep [0, 1, 4, 5, 7]) (.ops [⟨none, (some 28), .mv 28 (.s 1), false⟩,
   ⟨none, (some 29), .bin 29 .geq (.s 28) (.k (Value.int .i64 4096)), false⟩,
   ⟨none, (some 27), .mv 27 (.s 29), false⟩]))
 (.cond (.s 27) (.seq (.keep [0, 4, 5, 7]) (.ops [⟨none, (some 30), .mv 30 (.s 0), false⟩,
   ⟨none, (some 31), .mv 31 (.s 7), false⟩,
   ⟨none, (some 32), .call (some 32) 120 false [(.s 30), (.s 31), (.k (Value.int .i64 9))], false⟩])) (.seq (.seq (.keep [0, 4, 5, 7]) (.ops [⟨none, (some 34), .fa 34 0 (.s 5), false⟩,
   ⟨none, (some 35), .ld 35 false 1 (.s 34), false⟩,
   ⟨none, (some 36), .fa 36 1 (.s 5), false⟩,
   ⟨none, (some 37), .ld 37 false 1 (.s 36), false⟩,
   ⟨none, (some 38), .mm 38 true (.k (Value.int .i64 1)) [(.s 37)], false⟩,
   ⟨none, (some 39), .bin 39 .lss (.s 35) (.s 38), false⟩,
   ⟨none, (some 40), .mv 40 (.s 39), false⟩,
   ⟨(some (40, false)), (some 41), .fa 41 2 (.s 5), false⟩,
   ⟨(some (40, false)), (some 42), .ld 42 false 1 (.s 41), false⟩,
   ⟨(some (40, false)), (some 43), .fa 43 3 (.s 5), true⟩,
   ⟨(some (40, false)), (some 44), .ld 44 false 1 (.s 43), false⟩,
   ⟨(some (40, false)), (some 45), .mm 45 true (.k (Value.int .i64 1)) [(.s 44)], false⟩,
   ⟨(some (40, false)), (some 46), .bin 46 .lss (.s 42) (.s 45), false⟩,
   ⟨none, (some 47), .pk 47 (.s 40) (.k (Value.bool true)) (.s 46), false⟩,
   ⟨none, (some 33), .mv 33 (.s 47), false⟩]))
 (.cond (.s 33) (.seq (.keep [0, 4, 5, 7]) (.ops [⟨none, (some 48), .mv 48 (.s 0), false⟩,
   ⟨none, (some 49), .mv 49 (.s 7), false⟩,
   ⟨none, (some 50), .call (some 50) 120 false [(.s 48), (.s 49), (.k (Value.int .i64 2))], false⟩])) .skip)))))))
def S122_4 : SCode :=
 (.ops [⟨none, (some 8), .mv 8 (.k (Value.bool false)), false⟩])
def S122_5 : SCode :=
 (.seq (.seq (.keep [0, 4, 5, 7, 8]) (.ops [⟨none, (some 51), .fa 51 1 (.s 5), false⟩,
   ⟨none, (some 52), .ld 52 false 1 (.s 51), false⟩,
   ⟨none, (some 53), .fa 53 3 (.s 5), false⟩,
   ⟨none, (some 54), .ld 54 false 1 (.s 53), false⟩,
   ⟨none, (some 55), .bd 55 [(Value.int .i64 0), (Value.int .i64 0)] [(0, 1, (.s 52)), (1, 1, (.s 54))], false⟩,
   ⟨none, (some 9), .al 9 220 [(Value.int .i64 0), (Value.int .i64 0)], false⟩,
   ⟨none, none, .st true 2 (.s 9) (.s 55), false⟩]))
 (.block 1 (.loop [0, 4, 5, 7, 8, 9] (.seq (.seq (.seq (.keep [0, 4, 5, 7, 8, 9]) (.ops [⟨none, (some 56), .ld 56 true 2 (.s 9), false⟩,
   ⟨none, (some 57), .bd 57 [(Value.int .i64 0), (Value.int .i64 0)] [], false⟩,
   ⟨none, (some 58), .eqa 58 true [0, 0] (.s 56) (.s 57), false⟩]))
 (.cond (.s 58) .skip (.exit 1)))
 (.seq (.block 2 (.seq (.seq (.keep [0, 4, 5, 7, 8, 9]) (.ops [⟨none, (some 59), .mv 59 (.s 0), false⟩,
   ⟨none, (some 60), .call (some 60) 168 false [(.s 59), (.s 9)], false⟩,
   ⟨none, (some 10), .al 10 103 [(Value.int .u8 0), (Value.string ⟨#[]⟩)], false⟩,
   ⟨none, none, .st true 2 (.s 10) (.s 60), false⟩]))
 (.seq (.seq (.keep [0, 4, 5, 7, 8, 9, 10]) (.ops [⟨none, (some 61), .mv 61 (.s 8), false⟩,
   ⟨none, (some 62), .mv 62 (.s 61), false⟩,
   ⟨(some (62, false)), (some 63), .fa 63 0 (.s 10), false⟩,
   ⟨(some (62, false)), (some 64), .ld 64 false 1 (.s 63), false⟩,
   ⟨(some (62, false)), (some 65), .bin 65 .neq (.s 64) (.k (Value.int .u8 32)), false⟩,
   ⟨none, (some 66), .pk 66 (.s 62) (.k (Value.bool true)) (.s 65), false⟩,
   ⟨none, (some 8), .mv 8 (.s 66), false⟩]))
 (.seq (.keep [0, 4, 5, 7, 8, 9, 10]) (.ops [⟨none, (some 67), .fa 67 4 (.s 5), false⟩,
   ⟨none, (some 68), .ld 68 false 1 (.s 67), false⟩,
   ⟨none, (some 69), .ld 69 true 2 (.s 10), false⟩,
   ⟨none, (some 70), .bs 70 103 2 [(.s 69)], false⟩,
   ⟨none, (some 71), .ap 71 103 2 24 (.s 68) (.s 70), false⟩,
   ⟨none, (some 72), .fa 72 4 (.s 5), false⟩,
   ⟨none, none, .st false 1 (.s 72) (.s 71), false⟩])))))
 (.seq (.ops [⟨none, (some 73), .ld 73 true 2 (.s 9), false⟩])
 (.ops [⟨none, (some 9), .al 9 220 [(Value.int .i64 0), (Value.int .i64 0)], false⟩,
   ⟨none, none, .st true 2 (.s 9) (.s 73), false⟩])))))))
def S122_6 : SCode :=
 (.seq (.ops [⟨none, (some 74), .mv 74 (.s 8), false⟩,
   ⟨none, (some 75), .not 75 (.s 74), false⟩])
 (.cond (.s 75) (.seq (.keep [0, 4, 5, 7]) (.ops [⟨none, (some 76), .mv 76 (.s 0), false⟩,
   ⟨none, (some 77), .mv 77 (.s 7), false⟩,
   ⟨none, (some 78), .call (some 78) 120 false [(.s 76), (.s 77), (.k (Value.int .i64 50))], false⟩])) .skip))
def S122_7 : SCode :=
 (.ops [⟨none, (some 79), .ld 79 true 5 (.s 5), false⟩,
   ⟨none, none, .st true 5 (.s 4) (.s 79), false⟩])
def S122r8 : SCode := .ret
def S122r7 : SCode := .seq S122_7 S122r8
def S122r6 : SCode := .seq S122_6 S122r7
def S122r5 : SCode := .seq S122_5 S122r6
def S122r4 : SCode := .seq S122_4 S122r5
def S122r3 : SCode := .seq S122_3 S122r4
def S122r2 : SCode := .seq S122_2 S122r3
def S122r1 : SCode := .seq S122_1 S122r2
def S122 : SCode := .seq S122_0 S122r1
def R122 : List RR := [.ce 4 true 5]
theorem sd122 : SdT Tryz.prog 122 80 S122 R122 := fun hT hl hC hit => sdX (F := Tryz.f122) (A := A122) mo (by kernel_rfl) (by kernel_rfl) (by kernel_rfl) (by kernel_rfl) hT hl hC hit
def A168 : Ann := ⟨fun r i => if r = 2 ∧ i = 6 then 1 else 0, fun r => if r = 16 then some [(0, true, []), (1, true, []), (2, true, []), (3, true, []), (4, true, []), (5, true, []), (6, true, []), (7, true, []), (8, false, [0, 1, 2, 3, 4, 5, 6, 7, 8, 9, 10, 11, 12, 13, 14, 15]), (9, true, []), (10, true, []), (11, true, []), (12, true, []), (13, true, []), (15, true, []), (16, true, []), (17, true, []), (14, true, []), (18, true, []), (19, true, []), (20, true, []), (21, true, []), (22, true, [])] else if r = 11 then some [(0, true, []), (1, true, []), (2, true, []), (3, true, []), (6, true, []), (4, true, []), (5, true, []), (7, true, []), (8, false, [0, 1, 2, 3, 4, 5, 6, 7, 8, 9, 10, 11, 12, 13, 14, 15])] else if r = 4 then some [(0, true, []), (1, true, []), (2, true, []), (3, true, []), (4, true, []), (5, false, []), (6, false, [999])] else none, fun r => if r = 1 then some (false, [0, 1, 4]) else if r = 2 then some (false, [0, 1, 4, 5]) else if r = 3 then some (false, [0, 1, 4, 5]) else if r = 4 then some (false, [0, 1, 4, 5]) else if r = 5 then some (false, [0, 1, 4, 6]) else if r = 9 then some (false, [0, 1, 4, 6, 8, 40, 41]) else if r = 11 then some (false, [0, 1, 4, 6, 8, 9, 40, 41]) else if r = 12 then some (false, [0, 1, 4, 6, 8, 9, 40, 41]) else if r = 13 then some (false, [0, 1, 4, 6, 8, 9, 40, 41]) else if r = 14 then some (false, [0, 1, 4, 6, 8, 9, 40, 41]) else if r = 16 then some (false, [0, 4, 6, 8]) else if r = 17 then some (false, [0, 4, 6]) else if r = 19 then some (false, [4, 6]) else none, fun r => if r = 8 then [0, 1, 4, 6, 8, 40, 41] else []⟩
def S168 : SCode :=
 (.seq (.ops [⟨none, (some 4), .al 4 103 [(Value.int .u8 0), (Value.string ⟨#[]⟩)], false⟩])
 (.seq (.seq (.keep [0, 1, 4]) (.ops [⟨none, (some 11), .mv 11 (.s 0), false⟩,
   ⟨none, (some 12), .call (some 12) 164 false [(.s 11)], false⟩,
   ⟨none, (some 5), .mv 5 (.s 12), false⟩]))
 (.seq (.seq (.seq (.keep [0, 1, 4, 5]) (.ops [⟨none, (some 13), .mv 13 (.s 5), false⟩,
   ⟨none, (some 14), .bin 14 .eql (.s 13) (.k (Value.string ⟨#[]⟩)), false⟩,
   ⟨none, (some 15), .mv 15 (.s 14), false⟩,
   ⟨(some (15, false)), (some 16), .mv 16 (.s 5), false⟩,
   ⟨(some (15, false)), (some 17), .ixs 17 (.s 16) (.k (Value.int .i64 0)), false⟩,
   ⟨(some (15, false)), (some 18), .cvi 18 .i32 (.s 17), false⟩,
   ⟨(some (15, false)), (some 19), .call (some 19) 200 true [(.k (Value.string ⟨#[32, 45, 43]⟩)), (.s 18)], false⟩,
   ⟨(some (15, false)), (some 20), .not 20 (.s 19), false⟩,
   ⟨none, (some 21), .pk 21 (.s 15) (.k (Value.bool true)) (.s 20), false⟩]))
 (.cond (.s 21) (.seq (.keep [0, 1, 4, 5]) (.ops [⟨none, (some 22), .mv 22 (.s 0), false⟩,
   ⟨none, (some 23), .mv 23 (.s 0), false⟩,
   ⟨none, (some 24), .nc 24 (.s 23), false⟩,
   ⟨none, (some 25), .fa 25 1 (.s 24), false⟩,
   ⟨none, (some 26), .ld 26 false 1 (.s 25), false⟩,
   ⟨none, (some 27), .call (some 27) 120 false [(.s 22), (.s 26), (.k (Value.int .i64 3))], false⟩])) .skip))
 (.seq (.seq (.keep [0, 1, 4, 5]) (.dr [([], true, ⟨none, (some 28), .mv 28 (.s 5), false⟩),
   ([], true, ⟨none, (some 29), .ixs 29 (.s 28) (.k (Value.int .i64 0)), false⟩),
   ([], true, ⟨none, (some 30), .mv 30 (.s 5), false⟩),
   ([], true, ⟨none, (some 31), .sls 31 (.s 30) (some (.k (Value.int .i64 1))) none, false⟩),
   ([], true, ⟨none, (some 32), .bd 32 [(Value.int .u8 0), (Value.string ⟨#[]⟩)] [(0, 1, (.s 29)), (1, 1, (.s 31))], false⟩),
   ([], false, ⟨none, (some 6), .al 6 103 [(Value.int .u8 0), (Value.string ⟨#[]⟩)], false⟩),
   ([999], false, ⟨none, none, .st true 2 (.s 6) (.s 32), false⟩)]))
 (.seq (.seq (.keep [0, 1, 4, 6]) (.ops [⟨none, (some 33), .fa 33 0 (.s 6), false⟩,
   ⟨none, (some 34), .ld 34 false 1 (.s 33), false⟩,
   ⟨none, (some 35), .bin 35 .neq (.s 34) (.k (Value.int .u8 43)), false⟩,
   ⟨none, (some 36), .fa 36 0 (.s 6), false⟩,
   ⟨none, (some 37), .ld 37 false 1 (.s 36), false⟩,
   ⟨none, (some 38), .bin 38 .neq (.s 37) (.k (Value.int .u8 45)), false⟩,
   ⟨none, (some 39), .bd 39 [(Value.bool false), (Value.bool false)] [(0, 1, (.s 35)), (1, 1, (.s 38))], false⟩,
   ⟨none, (some 7), .al 7 247 [(Value.bool false), (Value.bool false)], false⟩,
   ⟨none, none, .st true 2 (.s 7) (.s 39), false⟩]))
 (.seq (.ops [⟨none, (some 8), .mv 8 (.k (Value.bool true)), false⟩])
 (.seq (.seq (.ops [⟨none, (some 40), .ld 40 true 2 (.s 7), false⟩,
   ⟨none, (some 41), .mv 41 (.k (Value.int .i64 0)), false⟩])
 (.block 0 (.loop [0, 1, 4, 6, 8, 40, 41] (.seq (.ops [⟨none, (some 42), .bin 42 .lss (.s 41) (.k (Value.int .i64 2)), false⟩])
 (.seq (.cond (.s 42) .skip (.exit 0))
 (.seq (.block 1 (.seq (.seq (.keep [0, 1, 4, 6, 8, 40, 41]) (.ops [⟨none, (some 43), .mv 43 (.s 41), false⟩,
   ⟨none, (some 44), .ixa 44 false 2 1 (.s 40) (.s 41), false⟩,
   ⟨none, (some 9), .mv 9 (.s 43), false⟩,
   ⟨none, (some 10), .mv 10 (.s 44), false⟩]))
 (.seq (.seq (.ops [⟨none, (some 45), .mv 45 (.s 10), false⟩,
   ⟨none, (some 46), .not 46 (.s 45), false⟩])
 (.cond (.s 46) (.exit 1) .skip))
 (.seq (.seq (.keep [0, 1, 4, 6, 8, 9, 40, 41]) (.dr [([], true, ⟨none, (some 47), .mv 47 (.s 1), false⟩),
   ([], true, ⟨none, (some 48), .mv 48 (.s 9), false⟩),
   ([], true, ⟨none, (some 49), .nc 49 (.s 47), false⟩),
   ([], true, ⟨none, (some 50), .ipa 50 2 1 (.s 49) (.s 48), false⟩),
   ([], true, ⟨none, (some 53), .nc 53 (.s 47), false⟩),
   ([], true, ⟨none, (some 51), .ld 51 false 1 (.s 50), false⟩),
   ([], true, ⟨none, (some 52), .binc 52 .sub (.s 51) (.k (Value.int .i64 1)), false⟩),
   ([], true, ⟨none, (some 54), .ipa 54 2 1 (.s 53) (.s 48), false⟩),
   ([0, 1, 2, 3, 4, 5, 6, 7, 8, 9, 10, 11, 12, 13, 14, 15], false, ⟨none, none, .st false 1 (.s 54) (.s 52), false⟩)]))
 (.seq (.seq (.seq (.keep [0, 1, 4, 6, 8, 9, 40, 41]) (.ops [⟨none, (some 55), .mv 55 (.s 1), false⟩,
   ⟨none, (some 56), .mv 56 (.s 9), false⟩,
   ⟨none, (some 57), .nc 57 (.s 55), false⟩,
   ⟨none, (some 58), .ipa 58 2 1 (.s 57) (.s 56), false⟩,
   ⟨none, (some 59), .ld 59 false 1 (.s 58), false⟩,
   ⟨none, (some 60), .bin 60 .lss (.s 59) (.k (Value.int .i64 0)), false⟩]))
 (.cond (.s 60) (.seq (.keep [0, 1, 4, 6, 8, 9, 40, 41]) (.ops [⟨none, (some 61), .mv 61 (.s 0), false⟩,
   ⟨none, (some 62), .mv 62 (.s 0), false⟩,
   ⟨none, (some 63), .nc 63 (.s 62), false⟩,
   ⟨none, (some 64), .fa 64 1 (.s 63), false⟩,
   ⟨none, (some 65), .ld 65 false 1 (.s 64), false⟩,
   ⟨none, (some 66), .call (some 66) 120 false [(.s 61), (.s 65), (.k (Value.int .i64 3))], false⟩])) .skip))
 (.seq (.keep [0, 1, 4, 6, 8, 9, 40, 41]) (.ops [⟨none, (some 67), .mv 67 (.s 8), false⟩,
   ⟨none, (some 68), .mv 68 (.s 67), false⟩,
   ⟨(some (68, true)), (some 69), .mv 69 (.s 1), false⟩,
   ⟨(some (68, true)), (some 70), .mv 70 (.s 9), false⟩,
   ⟨(some (68, true)), (some 71), .nc 71 (.s 69), false⟩,
   ⟨(some (68, true)), (some 72), .ipa 72 2 1 (.s 71) (.s 70), false⟩,
   ⟨(some (68, true)), (some 73), .ld 73 false 1 (.s 72), false⟩,
   ⟨(some (68, true)), (some 74), .bin 74 .eql (.s 73) (.k (Value.int .i64 0)), false⟩,
   ⟨none, (some 75), .pk 75 (.s 68) (.s 74) (.k (Value.bool false)), false⟩,
   ⟨none, (some 8), .mv 8 (.s 75), true⟩])))))))
 (.ops [⟨none, (some 76), .binc 76 .add (.s 41) (.k (Value.int .i64 1)), false⟩,
   ⟨none, (some 41), .mv 41 (.s 76), false⟩])))))))
 (.seq (.seq (.seq (.keep [0, 4, 6, 8]) (.dr [([], true, ⟨none, (some 77), .mv 77 (.s 8), false⟩),
   ([], true, ⟨none, (some 78), .mv 78 (.s 77), false⟩),
   ([], true, ⟨(some (78, true)), (some 79), .fa 79 1 (.s 6), false⟩),
   ([], true, ⟨(some (78, true)), (some 80), .ld 80 false 1 (.s 79), false⟩),
   ([], true, ⟨(some (78, true)), (some 81), .bin 81 .neq (.s 80) (.k (Value.string ⟨#[]⟩)), false⟩),
   ([], true, ⟨none, (some 82), .pk 82 (.s 78) (.s 81) (.k (Value.bool false)), false⟩),
   ([], true, ⟨none, (some 83), .mv 83 (.s 82), false⟩),
   ([], true, ⟨(some (83, true)), (some 84), .mv 84 (.s 0), false⟩),
   ([0, 1, 2, 3, 4, 5, 6, 7, 8, 9, 10, 11, 12, 13, 14, 15], false, ⟨(some (83, true)), (some 85), .call (some 85) 65 false [(.s 84)], false⟩),
   ([], true, ⟨none, (some 86), .pk 86 (.s 83) (.s 85) (.k (Value.bool false)), true⟩),
   ([], true, ⟨none, (some 87), .mv 87 (.s 86), false⟩),
   ([], true, ⟨(some (87, true)), (some 88), .mv 88 (.s 0), false⟩),
   ([], true, ⟨(some (87, true)), (some 89), .nc 89 (.s 88), false⟩),
   ([], true, ⟨(some (87, true)), (some 90), .fa 90 0 (.s 89), false⟩),
   ([], true, ⟨(some (87, true)), (some 92), .mv 92 (.s 0), false⟩),
   ([], true, ⟨(some (87, true)), (some 93), .nc 93 (.s 92), false⟩),
   ([], true, ⟨(some (87, true)), (some 94), .fa 94 1 (.s 93), false⟩),
   ([], true, ⟨(some (87, true)), (some 91), .ld 91 false 1 (.s 90), false⟩),
   ([], true, ⟨(some (87, true)), (some 95), .ld 95 false 1 (.s 94), false⟩),
   ([], true, ⟨(some (87, true)), (some 96), .ia 96 1 (.s 91) (.s 95), true⟩),
   ([], true, ⟨(some (87, true)), (some 97), .ld 97 false 1 (.s 96), false⟩),
   ([], true, ⟨(some (87, true)), (some 98), .bin 98 .eql (.s 97) (.k (Value.string ⟨#[92, 32, 78, 111, 32, 110, 101, 119, 108, 105, 110, 101, 32, 97, 116, 32, 101, 110, 100, 32, 111, 102, 32, 102, 105, 108, 101, 10]⟩)), false⟩),
   ([], true, ⟨none, (some 99), .pk 99 (.s 87) (.s 98) (.k (Value.bool false)), false⟩)]))
 (.cond (.s 99) (.seq (.seq (.keep [0, 4, 6]) (.ops [⟨none, (some 100), .mv 100 (.s 0), false⟩,
   ⟨none, (some 101), .nc 101 (.s 100), false⟩,
   ⟨none, (some 102), .fa 102 1 (.s 101), false⟩,
   ⟨none, (some 103), .ld 103 false 1 (.s 102), false⟩,
   ⟨none, (some 104), .binc 104 .add (.s 103) (.k (Value.int .i64 1)), false⟩,
   ⟨none, (some 105), .nc 105 (.s 100), false⟩,
   ⟨none, (some 106), .fa 106 1 (.s 105), false⟩,
   ⟨none, none, .st false 1 (.s 106) (.s 104), false⟩]))
 (.seq (.ops [⟨none, (some 107), .ld 107 true 2 (.s 6), false⟩,
   ⟨none, none, .st true 2 (.s 4) (.s 107), false⟩])
 .ret)) .skip))
 (.seq (.seq (.keep [4, 6]) (.ops [⟨none, (some 108), .fa 108 1 (.s 6), false⟩,
   ⟨none, (some 109), .ld 109 false 1 (.s 108), false⟩,
   ⟨none, (some 110), .bin 110 .add (.s 109) (.k (Value.string ⟨#[10]⟩)), false⟩,
   ⟨none, (some 111), .fa 111 1 (.s 6), false⟩,
   ⟨none, none, .st false 1 (.s 111) (.s 110), false⟩]))
 (.seq (.ops [⟨none, (some 112), .ld 112 true 2 (.s 6), false⟩,
   ⟨none, none, .st true 2 (.s 4) (.s 112), false⟩])
 .ret))))))))))
def R168 : List RR := [.ce 4 true 2]
theorem sd168 : SdT Tryz.prog 168 113 S168 R168 := fun hT hl hC hit => sdX (F := Tryz.f168) (A := A168) mo (by kernel_rfl) (by kernel_rfl) (by kernel_rfl) (by kernel_rfl) hT hl hC hit
def A119 : Ann := ⟨fun _ _ => 0, fun _ => none, fun r => if r = 1 then some (false, [0, 1]) else if r = 3 then some (false, [0, 5]) else if r = 4 then some (false, [0, 5]) else if r = 6 then some (false, [0, 7, 8]) else none, fun _ => []⟩
def S119 : SCode :=
 (.seq (.ops [⟨none, (some 4), .mv 4 (.k (Value.string ⟨#[]⟩)), false⟩])
 (.seq (.seq (.keep [0, 1]) (.ops [⟨none, (some 10), .mv 10 (.s 0), false⟩,
   ⟨none, (some 11), .call (some 11) 164 false [(.s 10)], false⟩,
   ⟨none, (some 12), .mv 12 (.s 1), false⟩,
   ⟨none, (some 13), .call (some 13) 161 false [(.s 11), (.s 12)], false⟩,
   ⟨none, (some 9), .mv 9 (.s 13), false⟩,
   ⟨none, (some 14), .ex 14 (.s 9) 0, false⟩,
   ⟨none, (some 15), .ex 15 (.s 9) 1, false⟩,
   ⟨none, (some 5), .mv 5 (.s 14), false⟩,
   ⟨none, (some 6), .mv 6 (.s 15), false⟩]))
 (.seq (.seq (.ops [⟨none, (some 16), .mv 16 (.s 6), false⟩,
   ⟨none, (some 17), .not 17 (.s 16), false⟩])
 (.cond (.s 17) (.seq (.keep [0, 5]) (.ops [⟨none, (some 18), .mv 18 (.s 0), false⟩,
   ⟨none, (some 19), .mv 19 (.s 0), false⟩,
   ⟨none, (some 20), .nc 20 (.s 19), false⟩,
   ⟨none, (some 21), .fa 21 1 (.s 20), false⟩,
   ⟨none, (some 22), .ld 22 false 1 (.s 21), false⟩,
   ⟨none, (some 23), .call (some 23) 120 false [(.s 18), (.s 22), (.k (Value.int .i64 3))], false⟩])) .skip))
 (.seq (.seq (.keep [0, 5]) (.ops [⟨none, (some 25), .mv 25 (.s 5), false⟩,
   ⟨none, (some 26), .call (some 26) 165 false [(.s 25)], false⟩,
   ⟨none, (some 24), .mv 24 (.s 26), false⟩,
   ⟨none, (some 27), .ex 27 (.s 24) 0, false⟩,
   ⟨none, (some 28), .ex 28 (.s 24) 1, false⟩,
   ⟨none, (some 7), .mv 7 (.s 27), false⟩,
   ⟨none, (some 8), .mv 8 (.s 28), false⟩]))
 (.seq (.seq (.ops [⟨none, (some 29), .mv 29 (.s 8), false⟩,
   ⟨none, (some 30), .bin 30 .neq (.s 29) (.k (Value.int .i64 0)), false⟩])
 (.cond (.s 30) (.seq (.keep [0, 7, 8]) (.ops [⟨none, (some 31), .mv 31 (.s 0), false⟩,
   ⟨none, (some 32), .mv 32 (.s 0), false⟩,
   ⟨none, (some 33), .nc 33 (.s 32), false⟩,
   ⟨none, (some 34), .fa 34 1 (.s 33), false⟩,
   ⟨none, (some 35), .ld 35 false 1 (.s 34), false⟩,
   ⟨none, (some 36), .mv 36 (.s 8), false⟩,
   ⟨none, (some 37), .call (some 37) 120 false [(.s 31), (.s 35), (.s 36)], false⟩])) .skip))
 (.seq (.ops [⟨none, (some 38), .mv 38 (.s 7), false⟩,
   ⟨none, (some 4), .mv 4 (.s 38), false⟩])
 .ret))))))
def R119 : List RR := [.sl 4]
theorem sd119 : SdT Tryz.prog 119 39 S119 R119 := fun hT hl hC hit => sdX (F := Tryz.f119) (A := A119) mo (by kernel_rfl) (by kernel_rfl) (by kernel_rfl) (by kernel_rfl) hT hl hC hit
def A164 : Ann := ⟨fun _ _ => 0, fun r => if r = 4 then some [(0, true, []), (1, true, []), (2, true, []), (4, true, []), (5, true, []), (6, true, []), (3, true, []), (7, true, []), (8, true, []), (9, true, []), (10, true, []), (11, false, [0, 1, 2, 3, 4, 5, 6, 7, 8, 9, 10, 11, 12, 13, 14, 15]), (12, true, []), (13, true, []), (14, true, []), (15, true, []), (16, true, [])] else if r = 2 then some [(0, true, []), (1, true, []), (2, true, []), (4, true, []), (5, true, []), (6, true, []), (3, true, []), (7, true, []), (8, true, []), (9, true, [])] else none, fun r => if r = 1 then some (false, [0]) else if r = 2 then some (false, [0]) else if r = 3 then some (false, [0]) else if r = 4 then some (false, [0]) else if r = 6 then some (false, [0, 3]) else none, fun _ => []⟩
def S164 : SCode :=
 (.seq (.ops [⟨none, (some 2), .mv 2 (.k (Value.string ⟨#[]⟩)), false⟩])
 (.seq (.seq (.keep [0]) (.ops [⟨none, (some 5), .mv 5 (.s 0), false⟩,
   ⟨none, (some 6), .nc 6 (.s 5), false⟩,
   ⟨none, (some 7), .fa 7 1 (.s 6), false⟩,
   ⟨none, (some 8), .ld 8 false 1 (.s 7), false⟩,
   ⟨none, (some 9), .binc 9 .add (.s 8) (.k (Value.int .i64 1)), false⟩,
   ⟨none, (some 10), .nc 10 (.s 5), false⟩,
   ⟨none, (some 11), .fa 11 1 (.s 10), false⟩,
   ⟨none, none, .st false 1 (.s 11) (.s 9), false⟩]))
 (.seq (.seq (.seq (.keep [0]) (.dr [([], true, ⟨none, (some 12), .mv 12 (.s 0), false⟩),
   ([], true, ⟨none, (some 13), .nc 13 (.s 12), false⟩),
   ([], true, ⟨none, (some 14), .fa 14 1 (.s 13), false⟩),
   ([], true, ⟨none, (some 16), .mv 16 (.s 0), false⟩),
   ([], true, ⟨none, (some 17), .nc 17 (.s 16), false⟩),
   ([], true, ⟨none, (some 18), .fa 18 0 (.s 17), false⟩),
   ([], true, ⟨none, (some 15), .ld 15 false 1 (.s 14), false⟩),
   ([], true, ⟨none, (some 19), .ld 19 false 1 (.s 18), false⟩),
   ([], true, ⟨none, (some 20), .len 20 (.s 19), false⟩),
   ([], true, ⟨none, (some 21), .bin 21 .gtr (.s 15) (.s 20), true⟩)]))
 (.cond (.s 21) (.seq (.keep [0]) (.ops [⟨none, (some 22), .mv 22 (.s 0), false⟩,
   ⟨none, (some 23), .mv 23 (.s 0), false⟩,
   ⟨none, (some 24), .nc 24 (.s 23), false⟩,
   ⟨none, (some 25), .fa 25 1 (.s 24), false⟩,
   ⟨none, (some 26), .ld 26 false 1 (.s 25), false⟩,
   ⟨none, (some 27), .call (some 27) 120 false [(.s 22), (.s 26), (.k (Value.int .i64 1))], false⟩])) .skip))
 (.seq (.seq (.keep [0]) (.dr [([], true, ⟨none, (some 29), .mv 29 (.s 0), false⟩),
   ([], true, ⟨none, (some 30), .nc 30 (.s 29), false⟩),
   ([], true, ⟨none, (some 31), .fa 31 0 (.s 30), false⟩),
   ([], true, ⟨none, (some 33), .mv 33 (.s 0), false⟩),
   ([], true, ⟨none, (some 34), .nc 34 (.s 33), false⟩),
   ([], true, ⟨none, (some 35), .fa 35 1 (.s 34), false⟩),
   ([], true, ⟨none, (some 32), .ld 32 false 1 (.s 31), false⟩),
   ([], true, ⟨none, (some 36), .ld 36 false 1 (.s 35), false⟩),
   ([], true, ⟨none, (some 37), .binc 37 .sub (.s 36) (.k (Value.int .i64 1)), false⟩),
   ([], true, ⟨none, (some 38), .ia 38 1 (.s 32) (.s 37), true⟩),
   ([], true, ⟨none, (some 39), .ld 39 false 1 (.s 38), false⟩),
   ([0, 1, 2, 3, 4, 5, 6, 7, 8, 9, 10, 11, 12, 13, 14, 15], false, ⟨none, (some 40), .call (some 40) 18 false [(.s 39)], false⟩),
   ([], true, ⟨none, (some 28), .mv 28 (.s 40), false⟩),
   ([], true, ⟨none, (some 41), .ex 41 (.s 28) 0, false⟩),
   ([], true, ⟨none, (some 42), .ex 42 (.s 28) 1, false⟩),
   ([], true, ⟨none, (some 3), .mv 3 (.s 41), false⟩),
   ([], true, ⟨none, (some 4), .mv 4 (.s 42), false⟩)]))
 (.seq (.seq (.ops [⟨none, (some 43), .mv 43 (.s 4), false⟩,
   ⟨none, (some 44), .not 44 (.s 43), false⟩])
 (.cond (.s 44) (.seq (.keep [0, 3]) (.ops [⟨none, (some 45), .mv 45 (.s 0), false⟩,
   ⟨none, (some 46), .mv 46 (.s 0), false⟩,
   ⟨none, (some 47), .nc 47 (.s 46), false⟩,
   ⟨none, (some 48), .fa 48 1 (.s 47), false⟩,
   ⟨none, (some 49), .ld 49 false 1 (.s 48), false⟩,
   ⟨none, (some 50), .call (some 50) 120 false [(.s 45), (.s 49), (.k (Value.int .i64 3))], false⟩])) .skip))
 (.seq (.ops [⟨none, (some 51), .mv 51 (.s 3), false⟩,
   ⟨none, (some 2), .mv 2 (.s 51), false⟩])
 .ret))))))
def R164 : List RR := [.sl 2]
theorem sd164 : SdT Tryz.prog 164 52 S164 R164 := fun hT hl hC hit => sdX (F := Tryz.f164) (A := A164) mo (by kernel_rfl) (by kernel_rfl) (by kernel_rfl) (by kernel_rfl) hT hl hC hit
def A65 : Ann := ⟨fun _ _ => 0, fun r => if r = 1 then some [(0, true, []), (1, true, []), (2, true, []), (4, true, []), (5, true, []), (6, true, []), (3, true, []), (7, true, []), (8, true, []), (9, true, []), (10, true, [])] else none, fun r => if r = 1 then some (false, [0]) else none, fun _ => []⟩
def S65 : SCode :=
 (.seq (.ops [⟨none, (some 2), .mv 2 (.k (Value.bool false)), false⟩])
 (.seq (.seq (.keep [0]) (.dr [([], true, ⟨none, (some 3), .mv 3 (.s 0), false⟩),
   ([], true, ⟨none, (some 4), .nc 4 (.s 3), false⟩),
   ([], true, ⟨none, (some 5), .fa 5 1 (.s 4), false⟩),
   ([], true, ⟨none, (some 7), .mv 7 (.s 0), false⟩),
   ([], true, ⟨none, (some 8), .nc 8 (.s 7), false⟩),
   ([], true, ⟨none, (some 9), .fa 9 0 (.s 8), false⟩),
   ([], true, ⟨none, (some 6), .ld 6 false 1 (.s 5), false⟩),
   ([], true, ⟨none, (some 10), .ld 10 false 1 (.s 9), false⟩),
   ([], true, ⟨none, (some 11), .len 11 (.s 10), false⟩),
   ([], true, ⟨none, (some 12), .bin 12 .lss (.s 6) (.s 11), true⟩),
   ([], true, ⟨none, (some 2), .mv 2 (.s 12), false⟩)]))
 .ret))
def R65 : List RR := [.sl 2]
theorem sd65 : SdT Tryz.prog 65 13 S65 R65 := fun hT hl hC hit => sdX (F := Tryz.f65) (A := A65) mo (by kernel_rfl) (by kernel_rfl) (by kernel_rfl) (by kernel_rfl) hT hl hC hit
def A120 : Ann := ⟨fun _ _ => 0, fun _ => none, fun _ => none, fun _ => []⟩
def S120 : SCode :=
 (.ops [⟨none, (some 6), .mv 6 (.s 1), false⟩,
   ⟨none, (some 7), .mv 7 (.s 2), false⟩,
   ⟨none, (some 8), .mi 8 27 (.s 7), false⟩,
   ⟨none, (some 9), .bd 9 [(Value.int .i64 0), Value.nilIface] [(0, 1, (.s 6)), (1, 1, (.s 8))], false⟩,
   ⟨none, (some 10), .bx 10 83 2 (.s 9), false⟩,
   ⟨none, (some 11), .mi 11 79 (.s 10), false⟩,
   ⟨none, none, .pn (.s 11), false⟩])
def R120 : List RR := []
theorem sd120 : SdT Tryz.prog 120 12 S120 R120 := fun hT hl hC hit => sdX (F := Tryz.f120) (A := A120) mo (by kernel_rfl) (by kernel_rfl) (by kernel_rfl) (by kernel_rfl) hT hl hC hit
def A167 : Ann := ⟨fun r i => if r = 0 ∧ i = 0 then 105 else 0, fun r => if r = 7 then some [(1, true, []), (2, true, []), (3, true, []), (4, true, []), (5, true, []), (6, true, []), (7, true, []), (8, true, []), (9, true, []), (10, true, []), (11, true, []), (12, true, []), (13, true, []), (14, true, []), (15, true, []), (16, true, []), (17, true, []), (18, true, [0, 1, 2, 3, 4, 5, 6, 7, 8, 9, 10, 11, 12, 13, 14, 15]), (19, true, [0, 1, 2, 3, 4, 5, 6, 7, 8, 9, 10, 11, 12, 13, 14, 15]), (20, true, [0, 1, 2, 3, 4, 5, 6, 7, 8, 9, 10, 11, 12, 13, 14, 15]), (21, true, [0, 1, 2, 3, 4, 5, 6, 7, 8, 9, 10, 11, 12, 13, 14, 15]), (22, true, [0, 1, 2, 3, 4, 5, 6, 7, 8, 9, 10, 11, 12, 13, 14, 15]), (0, true, []), (23, false, [0, 1, 2, 3, 4, 5, 6, 7, 8, 9, 10, 11, 12, 13, 14, 15]), (24, true, [])] else none, fun r => if r = 1 then some (false, [0, 2]) else if r = 2 then some (false, [0, 2, 4]) else if r = 3 then some (false, [2, 4, 5, 6, 7]) else if r = 5 then some (false, [2, 4, 5, 7, 8, 9, 10]) else if r = 6 then some (false, [2, 4, 7, 8, 9, 10, 11]) else if r = 7 then some (false, [2, 4, 7, 9, 10, 11, 12]) else none, fun _ => []⟩
def S167 : SCode :=
 (.seq (.ops [⟨none, (some 2), .aln 2 47 [(Value.int .i64 0), (Value.int .i64 0), (Value.int .i64 0), (Value.int .i64 0), (Value.slice none 0 0)] 4 103 2, false⟩,
   ⟨none, (some 3), .mv 3 (.k (Value.bool false)), false⟩])
 (.seq (.seq (.keep [0, 2]) (.ops [⟨none, (some 14), .mv 14 (.s 0), false⟩,
   ⟨none, (some 15), .call (some 15) 161 false [(.s 14), (.k (Value.string ⟨#[64, 64, 32, 45]⟩))], false⟩,
   ⟨none, (some 13), .mv 13 (.s 15), false⟩,
   ⟨none, (some 16), .ex 16 (.s 13) 0, false⟩,
   ⟨none, (some 17), .ex 17 (.s 13) 1, false⟩,
   ⟨none, (some 0), .mv 0 (.s 16), false⟩,
   ⟨none, (some 4), .mv 4 (.s 17), false⟩]))
 (.seq (.seq (.keep [0, 2, 4]) (.ops [⟨none, (some 19), .mv 19 (.s 0), false⟩,
   ⟨none, (some 20), .call (some 20) 85 false [(.s 19), (.k (Value.string ⟨#[32, 43]⟩))], false⟩,
   ⟨none, (some 18), .mv 18 (.s 20), false⟩,
   ⟨none, (some 21), .ex 21 (.s 18) 0, false⟩,
   ⟨none, (some 22), .ex 22 (.s 18) 1, false⟩,
   ⟨none, (some 23), .ex 23 (.s 18) 2, false⟩,
   ⟨none, (some 5), .mv 5 (.s 21), false⟩,
   ⟨none, (some 6), .mv 6 (.s 22), false⟩,
   ⟨none, (some 7), .mv 7 (.s 23), false⟩]))
 (.seq (.seq (.keep [2, 4, 5, 6, 7]) (.ops [⟨none, (some 25), .mv 25 (.s 6), false⟩,
   ⟨none, (some 26), .call (some 26) 85 false [(.s 25), (.k (Value.string ⟨#[32, 64, 64]⟩))], false⟩,
   ⟨none, (some 24), .mv 24 (.s 26), false⟩,
   ⟨none, (some 27), .ex 27 (.s 24) 0, false⟩,
   ⟨none, (some 28), .ex 28 (.s 24) 1, false⟩,
   ⟨none, (some 29), .ex 29 (.s 24) 2, false⟩,
   ⟨none, (some 8), .mv 8 (.s 27), false⟩,
   ⟨none, (some 9), .mv 9 (.s 28), false⟩,
   ⟨none, (some 10), .mv 10 (.s 29), false⟩]))
 (.seq (.ops [⟨none, (some 11), .mv 11 (.k (Value.bool false)), false⟩,
   ⟨none, (some 12), .mv 12 (.k (Value.bool false)), false⟩])
 (.seq (.seq (.keep [2, 4, 5, 7, 8, 9, 10]) (.ops [⟨none, (some 31), .mv 31 (.s 5), false⟩,
   ⟨none, (some 32), .call (some 32) 199 false [(.s 31)], false⟩,
   ⟨none, (some 30), .mv 30 (.s 32), false⟩,
   ⟨none, (some 33), .ex 33 (.s 30) 0, false⟩,
   ⟨none, (some 34), .ex 34 (.s 30) 1, false⟩,
   ⟨none, (some 35), .ex 35 (.s 30) 2, false⟩,
   ⟨none, (some 36), .fa 36 0 (.s 2), false⟩,
   ⟨none, none, .st false 1 (.s 36) (.s 33), false⟩,
   ⟨none, (some 37), .fa 37 1 (.s 2), false⟩,
   ⟨none, none, .st false 1 (.s 37) (.s 34), true⟩,
   ⟨none, (some 11), .mv 11 (.s 35), false⟩]))
 (.seq (.seq (.keep [2, 4, 7, 8, 9, 10, 11]) (.ops [⟨none, (some 39), .mv 39 (.s 8), false⟩,
   ⟨none, (some 40), .call (some 40) 199 false [(.s 39)], false⟩,
   ⟨none, (some 38), .mv 38 (.s 40), false⟩,
   ⟨none, (some 41), .ex 41 (.s 38) 0, false⟩,
   ⟨none, (some 42), .ex 42 (.s 38) 1, false⟩,
   ⟨none, (some 43), .ex 43 (.s 38) 2, false⟩,
   ⟨none, (some 44), .fa 44 2 (.s 2), false⟩,
   ⟨none, none, .st false 1 (.s 44) (.s 41), false⟩,
   ⟨none, (some 45), .fa 45 3 (.s 2), false⟩,
   ⟨none, none, .st false 1 (.s 45) (.s 42), true⟩,
   ⟨none, (some 12), .mv 12 (.s 43), false⟩]))
 (.seq (.seq (.keep [2, 4, 7, 9, 10, 11, 12]) (.dr [([], true, ⟨none, (some 47), .mv 47 (.s 4), false⟩),
   ([], true, ⟨none, (some 48), .mv 48 (.s 47), false⟩),
   ([], true, ⟨(some (48, true)), (some 49), .mv 49 (.s 7), false⟩),
   ([], true, ⟨none, (some 50), .pk 50 (.s 48) (.s 49) (.k (Value.bool false)), false⟩),
   ([], true, ⟨none, (some 51), .mv 51 (.s 50), false⟩),
   ([], true, ⟨(some (51, true)), (some 52), .mv 52 (.s 10), false⟩),
   ([], true, ⟨none, (some 53), .pk 53 (.s 51) (.s 52) (.k (Value.bool false)), false⟩),
   ([], true, ⟨none, (some 54), .mv 54 (.s 53), false⟩),
   ([], true, ⟨(some (54, true)), (some 55), .mv 55 (.s 11), true⟩),
   ([], true, ⟨none, (some 56), .pk 56 (.s 54) (.s 55) (.k (Value.bool false)), false⟩),
   ([], true, ⟨none, (some 57), .mv 57 (.s 56), false⟩),
   ([], true, ⟨(some (57, true)), (some 58), .mv 58 (.s 12), false⟩),
   ([], true, ⟨none, (some 59), .pk 59 (.s 57) (.s 58) (.k (Value.bool false)), false⟩),
   ([], true, ⟨none, (some 60), .mv 60 (.s 59), false⟩),
   ([], true, ⟨(some (60, true)), (some 61), .mv 61 (.s 9), false⟩),
   ([], true, ⟨(some (60, true)), (some 62), .bin 62 .eql (.s 61) (.k (Value.string ⟨#[]⟩)), false⟩),
   ([], true, ⟨(some (60, true)), (some 63), .mv 63 (.s 62), false⟩),
   ([0, 1, 2, 3, 4, 5, 6, 7, 8, 9, 10, 11, 12, 13, 14, 15], true, ⟨(some (63, false)), (some 64), .mv 64 (.s 9), false⟩),
   ([0, 1, 2, 3, 4, 5, 6, 7, 8, 9, 10, 11, 12, 13, 14, 15], true, ⟨(some (63, false)), (some 65), .ixs 65 (.s 64) (.k (Value.int .i64 0)), true⟩),
   ([0, 1, 2, 3, 4, 5, 6, 7, 8, 9, 10, 11, 12, 13, 14, 15], true, ⟨(some (63, false)), (some 66), .bin 66 .eql (.s 65) (.k (Value.int .u8 32)), false⟩),
   ([0, 1, 2, 3, 4, 5, 6, 7, 8, 9, 10, 11, 12, 13, 14, 15], true, ⟨(some (60, true)), (some 67), .pk 67 (.s 63) (.k (Value.bool true)) (.s 66), false⟩),
   ([0, 1, 2, 3, 4, 5, 6, 7, 8, 9, 10, 11, 12, 13, 14, 15], true, ⟨none, (some 68), .pk 68 (.s 60) (.s 67) (.k (Value.bool false)), false⟩),
   ([], true, ⟨none, (some 46), .ld 46 true 5 (.s 2), false⟩),
   ([0, 1, 2, 3, 4, 5, 6, 7, 8, 9, 10, 11, 12, 13, 14, 15], false, ⟨none, none, .st true 5 (.s 2) (.s 46), false⟩),
   ([], true, ⟨none, (some 3), .mv 3 (.s 68), false⟩)]))
 .ret))))))))
def R167 : List RR := [.ce 2 true 5, .sl 3]
theorem sd167 : SdT Tryz.prog 167 69 S167 R167 := fun hT hl hC hit => sdX (F := Tryz.f167) (A := A167) mo (by kernel_rfl) (by kernel_rfl) (by kernel_rfl) (by kernel_rfl) hT hl hC hit
def A199 : Ann := ⟨fun _ _ => 0, fun _ => none, fun r => if r = 1 then some (false, [0]) else if r = 2 then some (false, [5, 6, 7]) else if r = 5 then some (false, [6, 8, 9]) else if r = 6 then some (false, [8, 9, 10, 11]) else none, fun _ => []⟩
def S199 : SCode :=
 (.seq (.ops [⟨none, (some 2), .mv 2 (.k (Value.int .i64 0)), false⟩,
   ⟨none, (some 3), .mv 3 (.k (Value.int .i64 0)), false⟩,
   ⟨none, (some 4), .mv 4 (.k (Value.bool false)), false⟩])
 (.seq (.seq (.keep [0]) (.ops [⟨none, (some 13), .mv 13 (.s 0), false⟩,
   ⟨none, (some 14), .call (some 14) 85 false [(.s 13), (.k (Value.string ⟨#[44]⟩))], false⟩,
   ⟨none, (some 12), .mv 12 (.s 14), false⟩,
   ⟨none, (some 15), .ex 15 (.s 12) 0, false⟩,
   ⟨none, (some 16), .ex 16 (.s 12) 1, false⟩,
   ⟨none, (some 17), .ex 17 (.s 12) 2, false⟩,
   ⟨none, (some 5), .mv 5 (.s 15), false⟩,
   ⟨none, (some 6), .mv 6 (.s 16), false⟩,
   ⟨none, (some 7), .mv 7 (.s 17), false⟩]))
 (.seq (.seq (.keep [5, 6, 7]) (.ops [⟨none, (some 19), .mv 19 (.s 5), false⟩,
   ⟨none, (some 20), .call (some 20) 86 false [(.s 19)], false⟩,
   ⟨none, (some 18), .mv 18 (.s 20), false⟩,
   ⟨none, (some 21), .ex 21 (.s 18) 0, false⟩,
   ⟨none, (some 22), .ex 22 (.s 18) 1, false⟩,
   ⟨none, (some 8), .mv 8 (.s 21), false⟩,
   ⟨none, (some 9), .mv 9 (.s 22), false⟩]))
 (.seq (.ops [⟨none, (some 10), .mv 10 (.k (Value.int .i64 1)), false⟩,
   ⟨none, (some 11), .mv 11 (.k (Value.int .i64 0)), false⟩])
 (.seq (.seq (.ops [⟨none, (some 23), .mv 23 (.s 7), false⟩])
 (.cond (.s 23) (.seq (.keep [6, 8, 9]) (.ops [⟨none, (some 25), .mv 25 (.s 6), false⟩,
   ⟨none, (some 26), .call (some 26) 86 false [(.s 25)], false⟩,
   ⟨none, (some 24), .mv 24 (.s 26), false⟩,
   ⟨none, (some 27), .ex 27 (.s 24) 0, false⟩,
   ⟨none, (some 28), .ex 28 (.s 24) 1, false⟩,
   ⟨none, (some 10), .mv 10 (.s 27), false⟩,
   ⟨none, (some 11), .mv 11 (.s 28), false⟩])) .skip))
 (.seq (.seq (.keep [8, 9, 10, 11]) (.ops [⟨none, (some 29), .mv 29 (.s 8), false⟩,
   ⟨none, (some 30), .mv 30 (.s 10), false⟩,
   ⟨none, (some 31), .mv 31 (.s 9), false⟩,
   ⟨none, (some 32), .bin 32 .eql (.s 31) (.k (Value.int .i64 0)), false⟩,
   ⟨none, (some 33), .mv 33 (.s 32), false⟩,
   ⟨(some (33, true)), (some 34), .mv 34 (.s 11), false⟩,
   ⟨(some (33, true)), (some 35), .bin 35 .eql (.s 34) (.k (Value.int .i64 0)), false⟩,
   ⟨none, (some 36), .pk 36 (.s 33) (.s 35) (.k (Value.bool false)), false⟩,
   ⟨none, (some 2), .mv 2 (.s 29), false⟩,
   ⟨none, (some 3), .mv 3 (.s 30), true⟩,
   ⟨none, (some 4), .mv 4 (.s 36), false⟩]))
 .ret))))))
def R199 : List RR := [.sl 2, .sl 3, .sl 4]
theorem sd199 : SdT Tryz.prog 199 37 S199 R199 := fun hT hl hC hit => sdX (F := Tryz.f199) (A := A199) mo (by kernel_rfl) (by kernel_rfl) (by kernel_rfl) (by kernel_rfl) hT hl hC hit
def A165 : Ann := ⟨fun r i => if r = 6 ∧ i = 5 then 1 else 0, fun _ => none, fun r => if r = 2 then some (false, [0, 4]) else if r = 4 then some (false, [0, 4]) else if r = 5 then some (false, [0]) else if r = 6 then some (false, [0, 4]) else if r = 8 then some (false, [4]) else none, fun _ => []⟩
def S165 : SCode :=
 (.seq (.ops [⟨none, (some 2), .mv 2 (.k (Value.string ⟨#[]⟩)), false⟩,
   ⟨none, (some 3), .mv 3 (.k (Value.int .i64 0)), false⟩])
 (.seq (.ops [⟨none, (some 5), .mv 5 (.s 0), false⟩,
   ⟨none, (some 4), .mv 4 (.s 5), false⟩])
 (.seq (.block 0 (.seq (.seq (.keep [0, 4]) (.ops [⟨none, (some 7), .mv 7 (.s 0), false⟩,
   ⟨none, (some 8), .bin 8 .eql (.s 7) (.k (Value.string ⟨#[47, 100, 101, 118, 47, 110, 117, 108, 108]⟩)), false⟩,
   ⟨none, (some 6), .mv 6 (.s 8), false⟩]))
 (.cond (.s 6) (.ops [⟨none, (some 4), .mv 4 (.k (Value.string ⟨#[]⟩)), false⟩]) (.seq (.seq (.keep [0, 4]) (.ops [⟨none, (some 10), .mv 10 (.s 0), false⟩,
   ⟨none, (some 11), .call (some 11) 121 false [(.s 10), (.k (Value.string ⟨#[34]⟩))], false⟩,
   ⟨none, (some 9), .mv 9 (.s 11), false⟩]))
 (.cond (.s 9) (.seq (.keep [0]) (.ops [⟨none, (some 13), .mv 13 (.s 0), false⟩,
   ⟨none, (some 14), .call (some 14) 198 false [(.s 13)], false⟩,
   ⟨none, (some 12), .mv 12 (.s 14), false⟩,
   ⟨none, (some 15), .ex 15 (.s 12) 0, false⟩,
   ⟨none, (some 16), .ex 16 (.s 12) 1, false⟩,
   ⟨none, (some 17), .ex 17 (.s 12) 2, false⟩,
   ⟨none, (some 4), .mv 4 (.s 15), false⟩])) .skip)))))
 (.seq (.seq (.seq (.keep [0, 4]) (.ops [⟨none, (some 18), .mv 18 (.s 4), false⟩,
   ⟨none, (some 19), .lens 19 (.s 18), false⟩,
   ⟨none, (some 20), .bin 20 .gtr (.s 19) (.k (Value.int .i64 64)), false⟩,
   ⟨none, (some 21), .mv 21 (.s 20), false⟩,
   ⟨(some (21, false)), (some 22), .mv 22 (.s 4), false⟩,
   ⟨(some (21, false)), (some 23), .call (some 23) 68 true [(.s 22)], false⟩,
   ⟨(some (21, false)), (some 24), .mv 24 (.s 0), false⟩,
   ⟨(some (21, false)), (some 25), .bin 25 .neq (.s 23) (.s 24), false⟩,
   ⟨none, (some 26), .pk 26 (.s 21) (.k (Value.bool true)) (.s 25), false⟩]))
 (.cond (.s 26) (.seq (.ops [⟨none, (some 2), .mv 2 (.k (Value.string ⟨#[]⟩)), false⟩,
   ⟨none, (some 3), .mv 3 (.k (Value.int .i64 253)), false⟩])
 .ret) .skip))
 (.seq (.seq (.keep [4]) (.ops [⟨none, (some 27), .mv 27 (.s 4), false⟩,
   ⟨none, (some 2), .mv 2 (.s 27), false⟩,
   ⟨none, (some 3), .mv 3 (.k (Value.int .i64 0)), false⟩]))
 .ret)))))
def R165 : List RR := [.sl 2, .sl 3]
theorem sd165 : SdT Tryz.prog 165 28 S165 R165 := fun hT hl hC hit => sdX (F := Tryz.f165) (A := A165) mo (by kernel_rfl) (by kernel_rfl) (by kernel_rfl) (by kernel_rfl) hT hl hC hit
def A26 : Ann := ⟨fun _ _ => 0, fun _ => none, fun r => if r = 1 then some (false, [0, 1]) else none, fun _ => []⟩
def S26 : SCode :=
 (.seq (.ops [⟨none, (some 4), .mv 4 (.k (Value.bool false)), false⟩])
 (.seq (.seq (.keep [0, 1]) (.ops [⟨none, (some 5), .mv 5 (.s 0), false⟩,
   ⟨none, (some 6), .mv 6 (.s 1), false⟩,
   ⟨none, (some 7), .call (some 7) 30 false [(.s 5), (.s 6)], false⟩,
   ⟨none, (some 4), .mv 4 (.s 7), false⟩]))
 .ret))
def R26 : List RR := [.sl 4]
theorem sd26 : SdT Tryz.prog 26 8 S26 R26 := fun hT hl hC hit => sdX (F := Tryz.f26) (A := A26) mo (by kernel_rfl) (by kernel_rfl) (by kernel_rfl) (by kernel_rfl) hT hl hC hit
def A30 : Ann := ⟨fun _ _ => 0, fun r => if r = 6 then some [(0, true, []), (1, true, []), (2, true, []), (4, true, []), (5, true, []), (6, true, []), (3, true, []), (7, true, []), (8, false, [0, 1, 2, 3, 4, 5, 6, 7, 8, 9, 10, 11, 12, 13, 14, 15]), (9, true, [])] else none, fun r => if r = 1 then some (false, [0, 1]) else if r = 4 then some (false, [0, 1, 5]) else if r = 5 then some (false, [0, 1, 5]) else if r = 6 then some (false, [0, 1, 5]) else none, fun r => if r = 4 then [0, 1, 5] else []⟩
def S30 : SCode :=
 (.seq (.ops [⟨none, (some 4), .mv 4 (.k (Value.bool false)), false⟩])
 (.seq (.seq (.seq (.keep [0, 1]) (.ops [⟨none, (some 6), .mv 6 (.s 0), false⟩,
   ⟨none, (some 7), .len 7 (.s 6), false⟩,
   ⟨none, (some 8), .mv 8 (.s 1), false⟩,
   ⟨none, (some 9), .len 9 (.s 8), false⟩,
   ⟨none, (some 10), .bin 10 .neq (.s 7) (.s 9), false⟩]))
 (.cond (.s 10) (.seq (.ops [⟨none, (some 4), .mv 4 (.k (Value.bool false)), false⟩])
 .ret) .skip))
 (.seq (.seq (.ops [⟨none, (some 5), .mv 5 (.k (Value.int .i64 0)), false⟩])
 (.block 0 (.loop [0, 1, 5] (.seq (.seq (.seq (.keep [0, 1, 5]) (.ops [⟨none, (some 11), .mv 11 (.s 5), false⟩,
   ⟨none, (some 12), .mv 12 (.s 0), false⟩,
   ⟨none, (some 13), .len 13 (.s 12), false⟩,
   ⟨none, (some 14), .bin 14 .lss (.s 11) (.s 13), false⟩]))
 (.cond (.s 14) .skip (.exit 0)))
 (.seq (.block 1 (.seq (.seq (.keep [0, 1, 5]) (.dr [([], true, ⟨none, (some 17), .mv 17 (.s 0), false⟩),
   ([], true, ⟨none, (some 18), .mv 18 (.s 5), false⟩),
   ([], true, ⟨none, (some 19), .ia 19 3 (.s 17) (.s 18), false⟩),
   ([], true, ⟨none, (some 21), .mv 21 (.s 1), false⟩),
   ([], true, ⟨none, (some 22), .mv 22 (.s 5), false⟩),
   ([], true, ⟨none, (some 23), .ia 23 3 (.s 21) (.s 22), false⟩),
   ([], true, ⟨none, (some 20), .ld 20 true 3 (.s 19), false⟩),
   ([], true, ⟨none, (some 24), .ld 24 true 3 (.s 23), false⟩),
   ([0, 1, 2, 3, 4, 5, 6, 7, 8, 9, 10, 11, 12, 13, 14, 15], false, ⟨none, (some 25), .call (some 25) 71 false [(.s 20), (.s 24)], false⟩),
   ([], true, ⟨none, (some 26), .not 26 (.s 25), true⟩)]))
 (.cond (.s 26) (.seq (.ops [⟨none, (some 4), .mv 4 (.k (Value.bool false)), false⟩])
 .ret) .skip)))
 (.seq (.keep [0, 1, 5]) (.ops [⟨none, (some 15), .mv 15 (.s 5), false⟩,
   ⟨none, (some 16), .binc 16 .add (.s 15) (.k (Value.int .i64 1)), false⟩,
   ⟨none, (some 5), .mv 5 (.s 16), false⟩])))))))
 (.seq (.ops [⟨none, (some 4), .mv 4 (.k (Value.bool true)), false⟩])
 .ret))))
def R30 : List RR := [.sl 4]
theorem sd30 : SdT Tryz.prog 30 27 S30 R30 := fun hT hl hC hit => sdX (F := Tryz.f30) (A := A30) mo (by kernel_rfl) (by kernel_rfl) (by kernel_rfl) (by kernel_rfl) hT hl hC hit
def A200 : Ann := ⟨fun _ _ => 0, fun _ => none, fun r => if r = 1 then some (false, [0, 1]) else none, fun _ => []⟩
def S200 : SCode :=
 (.seq (.ops [⟨none, (some 4), .mv 4 (.k (Value.bool false)), false⟩])
 (.seq (.seq (.keep [0, 1]) (.ops [⟨none, (some 5), .mv 5 (.s 0), false⟩,
   ⟨none, (some 6), .mv 6 (.s 1), false⟩,
   ⟨none, (some 7), .call (some 7) 156 false [(.s 5), (.s 6)], false⟩,
   ⟨none, (some 8), .bin 8 .geq (.s 7) (.k (Value.int .i64 0)), false⟩,
   ⟨none, (some 4), .mv 4 (.s 8), false⟩]))
 .ret))
def R200 : List RR := [.sl 4]
theorem sd200 : SdT Tryz.prog 200 9 S200 R200 := fun hT hl hC hit => sdX (F := Tryz.f200) (A := A200) mo (by kernel_rfl) (by kernel_rfl) (by kernel_rfl) (by kernel_rfl) hT hl hC hit
def A156 : Ann := ⟨fun r i => if r = 18 ∧ i = 3 then 1 else if r = 18 ∧ i = 9 then 1 else if r = 18 ∧ i = 23 then 1 else 0, fun r => if r = 31 then some [(0, true, []), (1, true, []), (2, true, []), (3, true, []), (4, true, []), (5, true, []), (6, true, []), (7, true, []), (8, true, []), (9, true, []), (10, true, [])] else if r = 14 then some [(0, true, []), (1, true, []), (2, true, []), (3, true, []), (4, true, []), (5, true, []), (6, true, []), (7, true, []), (8, true, []), (9, true, []), (10, true, [])] else if r = 7 then some [(0, true, []), (1, true, []), (2, true, []), (3, true, []), (4, true, []), (5, true, []), (6, true, []), (7, false, [0, 1, 2, 3, 4, 5, 6, 7, 8, 9, 10, 11, 12, 13, 14, 15]), (8, true, [])] else if r = 6 then some [(0, true, []), (1, true, []), (2, true, []), (3, true, []), (4, true, []), (5, true, []), (6, true, [])] else none, fun r => if r = 1 then some (false, [0, 1]) else if r = 2 then some (false, [0, 7]) else if r = 5 then some (false, [0, 7, 8, 9]) else if r = 6 then some (false, [0, 7, 8, 9]) else if r = 7 then some (false, [0, 7, 8, 9]) else if r = 10 then some (false, [0, 7, 8, 9, 11]) else if r = 12 then some (false, [0, 7, 8, 9, 12]) else if r = 13 then some (false, [0, 7, 8, 9, 12]) else if r = 14 then some (false, [0, 7, 8, 9, 12]) else if r = 15 then some (false, [8, 9]) else if r = 16 then some (false, [0, 7, 8, 9, 10]) else if r = 17 then some (false, [0, 7, 8, 9, 10]) else if r = 18 then some (false, [0, 7, 8, 9, 10]) else if r = 20 then some (false, [0, 1, 8, 9]) else if r = 22 then some (false, [8, 9, 13]) else if r = 23 then some (false, [0, 7, 8, 9]) else if r = 24 then some (false, [0, 7, 8, 9, 14]) else if r = 25 then some (false, [0, 7, 8, 9, 14, 15]) else if r = 26 then some (false, [0, 7, 8, 9, 14, 15]) else if r = 27 then some (false, [0, 7, 8, 9, 14, 15]) else if r = 29 then some (false, [0, 7, 8, 9, 14, 15, 16]) else if r = 30 then some (false, [0, 7, 8, 9, 14, 15, 16]) else if r = 31 then some (false, [0, 7, 8, 9, 14, 15, 16]) else if r = 32 then some (false, [8, 9]) else if r = 34 then some (false, [0, 1]) else if r = 35 then some (false, [0, 1]) else if r = 36 then some (false, [0, 1]) else if r = 39 then some (false, [175, 176]) else if r = 43 then some (false, [0, 1]) else none, fun r => if r = 5 then [0, 7, 8, 9] else if r = 12 then [0, 7, 8, 9, 12] else if r = 25 then [0, 7, 8, 9, 14, 15] else if r = 29 then [0, 7, 8, 9, 14, 15, 16] else if r = 38 then [175] else []⟩
def S156 : SCode :=
 (.seq (.ops [⟨none, (some 4), .mv 4 (.k (Value.int .i64 0)), false⟩])
 (.block 0 (.seq (.seq (.keep [0, 1]) (.ops [⟨none, (some 161), .mv 161 (.s 1), false⟩,
   ⟨none, (some 162), .bin 162 .leq (.k (Value.int .i32 0)) (.s 161), false⟩,
   ⟨none, (some 163), .mv 163 (.s 162), false⟩,
   ⟨(some (163, true)), (some 164), .mv 164 (.s 1), false⟩,
   ⟨(some (163, true)), (some 165), .bin 165 .lss (.s 164) (.k (Value.int .i32 128)), false⟩,
   ⟨none, (some 166), .pk 166 (.s 163) (.s 165) (.k (Value.bool false)), false⟩,
   ⟨none, (some 160), .mv 160 (.s 166), false⟩]))
 (.cond (.s 160) (.seq (.seq (.keep [0, 1]) (.ops [⟨none, (some 167), .mv 167 (.s 0), false⟩,
   ⟨none, (some 168), .mv 168 (.s 1), false⟩,
   ⟨none, (some 169), .cvi 169 .u8 (.s 168), false⟩,
   ⟨none, (some 170), .call (some 170) 116 false [(.s 167), (.s 169)], false⟩,
   ⟨none, (some 4), .mv 4 (.s 170), false⟩]))
 .ret) (.seq (.seq (.keep [0, 1]) (.ops [⟨none, (some 172), .mv 172 (.s 1), false⟩,
   ⟨none, (some 173), .bin 173 .eql (.s 172) (.k (Value.int .i32 65533)), false⟩,
   ⟨none, (some 171), .mv 171 (.s 173), false⟩]))
 (.cond (.s 171) (.seq (.seq (.ops [⟨none, (some 174), .mv 174 (.s 0), false⟩,
   ⟨none, (some 175), .rg 175 (.s 174), false⟩])
 (.block 9 (.loop [175] (.seq (.ops [⟨none, (some 176), .nx 176 (.s 175), false⟩,
   ⟨none, (some 177), .ex 177 (.s 176) 0, false⟩])
 (.seq (.cond (.s 177) .skip (.exit 9))
 (.block 10 (.seq (.seq (.keep [175, 176]) (.ops [⟨none, (some 178), .ex 178 (.s 176) 1, false⟩,
   ⟨none, (some 179), .ex 179 (.s 176) 2, false⟩,
   ⟨none, (some 5), .mv 5 (.s 178), false⟩,
   ⟨none, (some 6), .mv 6 (.s 179), false⟩]))
 (.seq (.ops [⟨none, (some 180), .mv 180 (.s 6), false⟩,
   ⟨none, (some 181), .bin 181 .eql (.s 180) (.k (Value.int .i32 65533)), false⟩])
 (.cond (.s 181) (.seq (.ops [⟨none, (some 182), .mv 182 (.s 5), false⟩,
   ⟨none, (some 4), .mv 4 (.s 182), false⟩])
 .ret) .skip)))))))))
 (.seq (.ops [⟨none, (some 4), .mv 4 (.k (Value.int .i64 (-1))), false⟩])
 .ret)) (.seq (.seq (.keep [0, 1]) (.ops [⟨none, (some 184), .mv 184 (.s 1), false⟩,
   ⟨none, (some 185), .call (some 185) 195 false [(.s 184)], false⟩,
   ⟨none, (some 186), .not 186 (.s 185), false⟩,
   ⟨none, (some 183), .mv 183 (.s 186), false⟩]))
 (.cond (.s 183) (.seq (.ops [⟨none, (some 4), .mv 4 (.k (Value.int .i64 (-1))), false⟩])
 .ret) (.seq (.seq (.keep [0, 1]) (.ops [⟨none, (some 17), .mv 17 (.s 1), false⟩,
   ⟨none, (some 18), .i2s 18 (.s 17), false⟩,
   ⟨none, (some 7), .mv 7 (.s 18), false⟩]))
 (.seq (.seq (.keep [0, 7]) (.ops [⟨none, (some 19), .mv 19 (.s 7), false⟩,
   ⟨none, (some 20), .lens 20 (.s 19), false⟩,
   ⟨none, (some 21), .binc 21 .sub (.s 20) (.k (Value.int .i64 1)), false⟩,
   ⟨none, (some 8), .mv 8 (.s 21), false⟩]))
 (.seq (.ops [⟨none, (some 22), .mv 22 (.s 8), false⟩,
   ⟨none, (some 9), .mv 9 (.s 22), false⟩])
 (.seq (.ops [⟨none, (some 10), .mv 10 (.k (Value.int .i64 0)), false⟩])
 (.seq (.block 1 (.loop [0, 7, 8, 9] (.seq (.seq (.seq (.keep [0, 7, 8, 9]) (.ops [⟨none, (some 23), .mv 23 (.s 9), false⟩,
   ⟨none, (some 24), .mv 24 (.s 0), false⟩,
   ⟨none, (some 25), .lens 25 (.s 24), false⟩,
   ⟨none, (some 26), .bin 26 .lss (.s 23) (.s 25), false⟩]))
 (.cond (.s 26) .skip (.exit 1)))
 (.block 2 (.seq (.seq (.seq (.keep [0, 7, 8, 9]) (.dr [([], true, ⟨none, (some 27), .mv 27 (.s 0), false⟩),
   ([], true, ⟨none, (some 28), .mv 28 (.s 9), false⟩),
   ([], true, ⟨none, (some 29), .ixs 29 (.s 27) (.s 28), false⟩),
   ([], true, ⟨none, (some 30), .mv 30 (.s 7), false⟩),
   ([], true, ⟨none, (some 31), .mv 31 (.s 8), false⟩),
   ([], true, ⟨none, (some 32), .ixs 32 (.s 30) (.s 31), false⟩),
   ([], true, ⟨none, (some 33), .bin 33 .neq (.s 29) (.s 32), false⟩)]))
 (.cond (.s 33) (.seq (.seq (.keep [0, 7, 8, 9]) (.dr [([], true, ⟨none, (some 34), .mv 34 (.s 0), false⟩),
   ([], true, ⟨none, (some 35), .mv 35 (.s 9), false⟩),
   ([], true, ⟨none, (some 36), .binc 36 .add (.s 35) (.k (Value.int .i64 1)), false⟩),
   ([], true, ⟨none, (some 37), .sls 37 (.s 34) (some (.s 36)) none, false⟩),
   ([], true, ⟨none, (some 38), .mv 38 (.s 7), false⟩),
   ([], true, ⟨none, (some 39), .mv 39 (.s 8), false⟩),
   ([], true, ⟨none, (some 40), .ixs 40 (.s 38) (.s 39), false⟩),
   ([0, 1, 2, 3, 4, 5, 6, 7, 8, 9, 10, 11, 12, 13, 14, 15], false, ⟨none, (some 41), .call (some 41) 116 false [(.s 37), (.s 40)], false⟩),
   ([], true, ⟨none, (some 11), .mv 11 (.s 41), false⟩)]))
 (.seq (.seq (.ops [⟨none, (some 42), .mv 42 (.s 11), false⟩,
   ⟨none, (some 43), .bin 43 .lss (.s 42) (.k (Value.int .i64 0)), false⟩])
 (.cond (.s 43) (.seq (.ops [⟨none, (some 4), .mv 4 (.k (Value.int .i64 (-1))), false⟩])
 .ret) .skip))
 (.seq (.keep [0, 7, 8, 9, 11]) (.ops [⟨none, (some 44), .mv 44 (.s 9), false⟩,
   ⟨none, (some 45), .mv 45 (.s 11), false⟩,
   ⟨none, (some 46), .binc 46 .add (.s 45) (.k (Value.int .i64 1)), false⟩,
   ⟨none, (some 47), .binc 47 .add (.s 44) (.s 46), false⟩,
   ⟨none, (some 9), .mv 9 (.s 47), false⟩])))) .skip))
 (.seq (.seq (.ops [⟨none, (some 12), .mv 12 (.k (Value.int .i64 1)), false⟩])
 (.block 3 (.loop [0, 7, 8, 9, 12] (.seq (.seq (.seq (.keep [0, 7, 8, 9, 12]) (.ops [⟨none, (some 48), .mv 48 (.s 12), false⟩,
   ⟨none, (some 49), .mv 49 (.s 7), false⟩,
   ⟨none, (some 50), .lens 50 (.s 49), false⟩,
   ⟨none, (some 51), .bin 51 .lss (.s 48) (.s 50), false⟩]))
 (.cond (.s 51) .skip (.exit 3)))
 (.seq (.block 4 (.seq (.seq (.keep [0, 7, 8, 9, 12]) (.dr [([], true, ⟨none, (some 54), .mv 54 (.s 0), false⟩),
   ([], true, ⟨none, (some 55), .mv 55 (.s 9), false⟩),
   ([], true, ⟨none, (some 56), .mv 56 (.s 12), false⟩),
   ([], true, ⟨none, (some 57), .binc 57 .sub (.s 55) (.s 56), false⟩),
   ([], true, ⟨none, (some 58), .ixs 58 (.s 54) (.s 57), false⟩),
   ([], true, ⟨none, (some 59), .mv 59 (.s 7), false⟩),
   ([], true, ⟨none, (some 60), .mv 60 (.s 8), false⟩),
   ([], true, ⟨none, (some 61), .mv 61 (.s 12), false⟩),
   ([], true, ⟨none, (some 62), .binc 62 .sub (.s 60) (.s 61), false⟩),
   ([], true, ⟨none, (some 63), .ixs 63 (.s 59) (.s 62), true⟩),
   ([], true, ⟨none, (some 64), .bin 64 .neq (.s 58) (.s 63), false⟩)]))
 (.cond (.s 64) .bad .skip)))
 (.seq (.keep [0, 7, 8, 9, 12]) (.ops [⟨none, (some 52), .mv 52 (.s 12), false⟩,
   ⟨none, (some 53), .binc 53 .add (.s 52) (.k (Value.int .i64 1)), false⟩,
   ⟨none, (some 12), .mv 12 (.s 53), false⟩])))))))
 (.seq (.seq (.seq (.keep [8, 9]) (.ops [⟨none, (some 65), .mv 65 (.s 9), false⟩,
   ⟨none, (some 66), .mv 66 (.s 8), false⟩,
   ⟨none, (some 67), .binc 67 .sub (.s 65) (.s 66), false⟩,
   ⟨none, (some 4), .mv 4 (.s 67), false⟩]))
 .ret)
 (.seq .skip
 (.seq (.seq (.keep [0, 7, 8, 9, 10]) (.ops [⟨none, (some 68), .mv 68 (.s 10), false⟩,
   ⟨none, (some 69), .binc 69 .add (.s 68) (.k (Value.int .i64 1)), false⟩,
   ⟨none, (some 10), .mv 10 (.s 69), false⟩]))
 (.seq (.seq (.keep [0, 7, 8, 9, 10]) (.ops [⟨none, (some 70), .mv 70 (.s 9), false⟩,
   ⟨none, (some 71), .binc 71 .add (.s 70) (.k (Value.int .i64 1)), false⟩,
   ⟨none, (some 9), .mv 9 (.s 71), false⟩]))
 (.seq (.seq (.keep [0, 7, 8, 9, 10]) (.ops [⟨none, (some 72), .mv 72 (.k (Value.bool true)), false⟩,
   ⟨(some (72, true)), (some 73), .mv 73 (.s 10), false⟩,
   ⟨(some (72, true)), (some 74), .mv 74 (.s 9), false⟩,
   ⟨(some (72, true)), (some 75), .call (some 75) 192 true [(.s 74)], false⟩,
   ⟨(some (72, true)), (some 76), .bin 76 .gtr (.s 73) (.s 75), false⟩,
   ⟨none, (some 77), .pk 77 (.s 72) (.s 76) (.k (Value.bool false)), false⟩,
   ⟨none, (some 78), .mv 78 (.s 77), false⟩,
   ⟨(some (78, true)), (some 79), .mv 79 (.s 9), false⟩,
   ⟨(some (78, true)), (some 80), .mv 80 (.s 0), false⟩,
   ⟨(some (78, true)), (some 81), .lens 81 (.s 80), true⟩,
   ⟨(some (78, true)), (some 82), .bin 82 .lss (.s 79) (.s 81), false⟩,
   ⟨none, (some 83), .pk 83 (.s 78) (.s 82) (.k (Value.bool false)), false⟩,
   ⟨none, (some 84), .mv 84 (.s 83), false⟩,
   ⟨(some (84, false)), (some 85), .mv 85 (.k (Value.bool false)), false⟩,
   ⟨(some (85, true)), (some 86), .mv 86 (.s 10), false⟩,
   ⟨(some (85, true)), (some 87), .mv 87 (.s 9), false⟩,
   ⟨(some (85, true)), (some 88), .bin 88 .shr (.s 87) (.k (Value.int .u64 4)), false⟩,
   ⟨(some (85, true)), (some 89), .binc 89 .add (.k (Value.int .i64 4)) (.s 88), false⟩,
   ⟨(some (85, true)), (some 90), .bin 90 .geq (.s 86) (.s 89), false⟩,
   ⟨(some (84, false)), (some 91), .pk 91 (.s 85) (.s 90) (.k (Value.bool false)), true⟩,
   ⟨(some (84, false)), (some 92), .mv 92 (.s 91), false⟩,
   ⟨(some (92, true)), (some 93), .mv 93 (.s 9), false⟩,
   ⟨(some (92, true)), (some 94), .mv 94 (.s 0), false⟩,
   ⟨(some (92, true)), (some 95), .lens 95 (.s 94), false⟩,
   ⟨(some (92, true)), (some 96), .bin 96 .lss (.s 93) (.s 95), false⟩,
   ⟨(some (84, false)), (some 97), .pk 97 (.s 92) (.s 96) (.k (Value.bool false)), false⟩,
   ⟨none, (some 98), .pk 98 (.s 84) (.k (Value.bool true)) (.s 97), false⟩]))
 (.cond (.s 98) .bad .skip))))))))))))
 (.seq (.seq (.ops [⟨none, (some 4), .mv 4 (.k (Value.int .i64 (-1))), false⟩])
 .ret)
 (.seq .skip
 (.seq (.cond (.k (Value.bool true)) (.seq (.seq (.keep [0, 1, 8, 9]) (.ops [⟨none, (some 99), .mv 99 (.s 0), false⟩,
   ⟨none, (some 100), .mv 100 (.s 9), false⟩,
   ⟨none, (some 101), .mv 101 (.s 8), false⟩,
   ⟨none, (some 102), .binc 102 .sub (.s 100) (.s 101), false⟩,
   ⟨none, (some 103), .sls 103 (.s 99) (some (.s 102)) none, false⟩,
   ⟨none, (some 104), .mv 104 (.s 1), false⟩,
   ⟨none, (some 105), .i2s 105 (.s 104), false⟩,
   ⟨none, (some 106), .stuck, false⟩,
   ⟨none, (some 13), .mv 13 (.s 106), false⟩]))
 (.seq (.ops [⟨none, (some 107), .mv 107 (.s 13), false⟩,
   ⟨none, (some 108), .bin 108 .geq (.s 107) (.k (Value.int .i64 0)), false⟩])
 (.cond (.s 108) (.seq (.seq (.keep [8, 9, 13]) (.ops [⟨none, (some 109), .mv 109 (.s 9), false⟩,
   ⟨none, (some 110), .mv 110 (.s 13), false⟩,
   ⟨none, (some 111), .binc 111 .add (.s 109) (.s 110), false⟩,
   ⟨none, (some 112), .mv 112 (.s 8), false⟩,
   ⟨none, (some 113), .binc 113 .sub (.s 111) (.s 112), false⟩,
   ⟨none, (some 4), .mv 4 (.s 113), false⟩]))
 .ret) .skip))) (.seq (.seq (.keep [0, 7, 8, 9]) (.ops [⟨none, (some 114), .mv 114 (.s 7), false⟩,
   ⟨none, (some 115), .mv 115 (.s 8), false⟩,
   ⟨none, (some 116), .ixs 116 (.s 114) (.s 115), false⟩,
   ⟨none, (some 14), .mv 14 (.s 116), false⟩]))
 (.seq (.seq (.keep [0, 7, 8, 9, 14]) (.ops [⟨none, (some 117), .mv 117 (.s 7), false⟩,
   ⟨none, (some 118), .mv 118 (.s 8), false⟩,
   ⟨none, (some 119), .binc 119 .sub (.s 118) (.k (Value.int .i64 1)), false⟩,
   ⟨none, (some 120), .ixs 120 (.s 117) (.s 119), false⟩,
   ⟨none, (some 15), .mv 15 (.s 120), false⟩]))
 (.seq .skip
 (.block 5 (.loop [0, 7, 8, 9, 14, 15] (.seq (.seq (.seq (.keep [0, 7, 8, 9, 14, 15]) (.ops [⟨none, (some 121), .mv 121 (.s 9), false⟩,
   ⟨none, (some 122), .mv 122 (.s 0), false⟩,
   ⟨none, (some 123), .lens 123 (.s 122), false⟩,
   ⟨none, (some 124), .bin 124 .lss (.s 121) (.s 123), false⟩]))
 (.cond (.s 124) .skip (.exit 5)))
 (.seq (.block 6 (.seq (.seq (.keep [0, 7, 8, 9, 14, 15]) (.ops [⟨none, (some 127), .mv 127 (.s 0), false⟩,
   ⟨none, (some 128), .mv 128 (.s 9), false⟩,
   ⟨none, (some 129), .ixs 129 (.s 127) (.s 128), false⟩,
   ⟨none, (some 130), .mv 130 (.s 14), false⟩,
   ⟨none, (some 131), .bin 131 .eql (.s 129) (.s 130), false⟩,
   ⟨none, (some 132), .mv 132 (.s 131), false⟩,
   ⟨(some (132, true)), (some 133), .mv 133 (.s 0), false⟩,
   ⟨(some (132, true)), (some 134), .mv 134 (.s 9), false⟩,
   ⟨(some (132, true)), (some 135), .binc 135 .sub (.s 134) (.k (Value.int .i64 1)), false⟩,
   ⟨(some (132, true)), (some 136), .ixs 136 (.s 133) (.s 135), true⟩,
   ⟨(some (132, true)), (some 137), .mv 137 (.s 15), false⟩,
   ⟨(some (132, true)), (some 138), .bin 138 .eql (.s 136) (.s 137), false⟩,
   ⟨none, (some 139), .pk 139 (.s 132) (.s 138) (.k (Value.bool false)), false⟩]))
 (.cond (.s 139) (.seq (.seq (.ops [⟨none, (some 16), .mv 16 (.k (Value.int .i64 2)), false⟩])
 (.block 7 (.loop [0, 7, 8, 9, 14, 15, 16] (.seq (.seq (.seq (.keep [0, 7, 8, 9, 14, 15, 16]) (.ops [⟨none, (some 140), .mv 140 (.s 16), false⟩,
   ⟨none, (some 141), .mv 141 (.s 7), false⟩,
   ⟨none, (some 142), .lens 142 (.s 141), false⟩,
   ⟨none, (some 143), .bin 143 .lss (.s 140) (.s 142), false⟩]))
 (.cond (.s 143) .skip (.exit 7)))
 (.seq (.block 8 (.seq (.seq (.keep [0, 7, 8, 9, 14, 15, 16]) (.dr [([], true, ⟨none, (some 146), .mv 146 (.s 0), false⟩),
   ([], true, ⟨none, (some 147), .mv 147 (.s 9), false⟩),
   ([], true, ⟨none, (some 148), .mv 148 (.s 16), false⟩),
   ([], true, ⟨none, (some 149), .binc 149 .sub (.s 147) (.s 148), false⟩),
   ([], true, ⟨none, (some 150), .ixs 150 (.s 146) (.s 149), false⟩),
   ([], true, ⟨none, (some 151), .mv 151 (.s 7), false⟩),
   ([], true, ⟨none, (some 152), .mv 152 (.s 8), false⟩),
   ([], true, ⟨none, (some 153), .mv 153 (.s 16), false⟩),
   ([], true, ⟨none, (some 154), .binc 154 .sub (.s 152) (.s 153), false⟩),
   ([], true, ⟨none, (some 155), .ixs 155 (.s 151) (.s 154), true⟩),
   ([], true, ⟨none, (some 156), .bin 156 .neq (.s 150) (.s 155), false⟩)]))
 (.cond (.s 156) (.exit 6) .skip)))
 (.seq (.keep [0, 7, 8, 9, 14, 15, 16]) (.ops [⟨none, (some 144), .mv 144 (.s 16), false⟩,
   ⟨none, (some 145), .binc 145 .add (.s 144) (.k (Value.int .i64 1)), false⟩,
   ⟨none, (some 16), .mv 16 (.s 145), false⟩])))))))
 (.seq (.seq (.keep [8, 9]) (.ops [⟨none, (some 157), .mv 157 (.s 9), false⟩,
   ⟨none, (some 158), .mv 158 (.s 8), false⟩,
   ⟨none, (some 159), .binc 159 .sub (.s 157) (.s 158), false⟩,
   ⟨none, (some 4), .mv 4 (.s 159), false⟩]))
 .ret)) .skip)))
 (.seq (.keep [0, 7, 8, 9, 14, 15]) (.ops [⟨none, (some 125), .mv 125 (.s 9), false⟩,
   ⟨none, (some 126), .binc 126 .add (.s 125) (.k (Value.int .i64 1)), false⟩,
   ⟨none, (some 9), .mv 9 (.s 126), false⟩]))))))))))
 (.seq (.ops [⟨none, (some 4), .mv 4 (.k (Value.int .i64 (-1))), false⟩])
 .ret)))))))))))))))))
def R156 : List RR := [.sl 4]
theorem sd156 : SdT Tryz.prog 156 187 S156 R156 := fun hT hl hC hit => sdX (F := Tryz.f156) (A := A156) mo (by kernel_rfl) (by kernel_rfl) (by kernel_rfl) (by kernel_rfl) hT hl hC hit
end Go.Proofs.YtlghobefhmpfkaaGreatDoor
namespace Go.Proofs.YtlghobefhmpfkaaGreatDoor
open Go Go.Ev
set_option maxRecDepth 100000
variable {G : World → Prop}
def C165 : Contract := pureC fun args => match args with
 | [.d (.v (.string s))] => some (s.size ≤ 1099511627776, .tup [.d (.v (str (namedS s.data.toList).1)), .d (.v (.int .i64 (namedS s.data.toList).2))])
 | _ => none
theorem unqS_1 (o : Option (List UInt8 × List UInt8)) : ∃ b c, unqS o = .tup [.d (.v (.string ⟨((o.map (·.1)).getD []).toArray⟩)), .d (.v (.string b)), .d (.v (.int .i64 c))] := by
 cases o with
 | none => exact ⟨_, _, rfl⟩
 | some z => exact ⟨_, _, rfl⟩
theorem dec0 {q : List UInt8} (h : q = nowh) : decS q = [] := by unfold decS; rw [if_pos h]
def st34 (l : List UInt8) : Bool := match l with | c :: _ => decide (c = 34) | [] => false
theorem dec1 {q : List UInt8} (h : ¬ q = nowh) (h2 : st34 q = true) : decS q = ((unqL q).map (·.1)).getD [] := by
 cases q with
 | nil => cases h2
 | cons c r =>
   have : c = 34 := by simpa [st34] using h2
   subst this
   unfold decS
   rw [if_neg h]
   rfl
theorem dec2 {q : List UInt8} (h : ¬ q = nowh) (h2 : st34 q = false) : decS q = q := by
 unfold decS
 rw [if_neg h]
 split
 · simp [st34] at h2
 · rfl
theorem nm_bad {q m : List UInt8} (h : decS q = m) (h2 : 64 < (m.length : Int) ∨ ¬ nameS m = q) : namedS q = ([], 253) := by
 subst h
 rw [namedS, if_pos]
 rcases h2 with h | h
 · exact .inl (by omega)
 · exact .inr h
theorem nm_good {q m : List UInt8} (h : decS q = m) (h2 : ¬ 64 < (m.length : Int) ∧ nameS m = q) : namedS q = (m, 0) := by
 subst h
 rw [namedS, if_neg]
 rintro (h | h)
 · exact h2.1 (by omega)
 · exact h h2.2
theorem s165 : Sound G Tryz.prog 165 C165 := by
 refine sd165 (T := tabT [(198, C198), (68, C68), (121, C166)]) (tab_cons s198 (tab_cons s68 (tab_cons s121 tab_nil))) (pureC_lawful _) (pure_hX fun args p x K h hp hk => ?_)
 split at h <;> simp only [Option.some.injEq, Prod.mk.injEq, reduceCtorEq] at h
 obtain ⟨rfl, rfl⟩ := h
 refine ⟨Nat.le_of_ble_eq_true rfl, ?_⟩
 rename_i s
 obtain ⟨q, rfl⟩ := ex_str s
 simp only [sem_str] at hk hp
 have hpre : hasPre ⟨q.toArray⟩ ⟨[34].toArray⟩ = st34 q := pre34 q
 obtain ⟨b, c, hu⟩ := unqS_1 (unqL q)
 have hl := decS_len q
 simp -dsimp -implicitDefEqProofs only [S165, R165, C198, C68, C166, hpre, hu, ↓Ev.xStp_eq, ↓Ev.P, Ev.Q, Bool.cond_true, Bool.cond_false, eq_self, forall_eq_or_imp, implies_true, forall_const, forall_eq, ↓reduceIte, reduceIte, Nat.reduceEqDiff, Nat.reduceAdd, reduceCtorEq, Nat.reduceSub, Int.reduceToNat, Int.reduceLE, Int.reduceLT, Int.reduceNeg, Nat.reduceBEq, Nat.reduceMul, Nat.reduceLeDiff, Nat.reduceMod, UInt8.reduceOfNat, Nat.reduceLT, Int.reduceEq, Int.reduceAdd, Int.reduceSub, Int.reduceMul]
 repeat' (first | with_reducible assumption | refine And.intro ?_ ?_ | intro _)
 · rename_i h0 h
   rw [nm_bad (dec0 h0) (.inr h)] at hk; exact hk
 · rename_i h0 h
   rw [nm_good (dec0 h0) ⟨by simp, h⟩] at hk; exact hk
 · rename_i h0 h1 h
   rw [dec1 h0 h1] at hl; omega
 · rename_i h0 h1 h
   rw [nm_bad (dec1 h0 h1) h] at hk; exact hk
 · rename_i h0 h1 h
   rw [nm_good (dec1 h0 h1) h] at hk; exact hk
 · rename_i h0 h1 h
   rw [nm_bad (dec2 h0 h1) h] at hk; exact hk
 · rename_i h0 h1 h
   rw [nm_good (dec2 h0 h1) h] at hk; exact hk
end Go.Proofs.YtlghobefhmpfkaaGreatDoor
namespace Go.Proofs.YtlghobefhmpfkaaGreatDoor
open Go Go.Ev Go.Rcs
set_option maxRecDepth 100000
variable {G : World → Prop}
def nmG (p : List UInt8) (L : List (List UInt8)) (at_ : Nat) : Except Fl (List UInt8 × Nat) := match nextL L at_ with
 | .error e => .error e
 | .ok (s, a) => if s.take 4 = p then if (namedS (s.drop 4)).2 = 0 then .ok ((namedS (s.drop 4)).1, a) else .error ((a : Int), 253) else .error ((a : Int), 3)
abbrev HkF := List (List UInt8) → Int → Nat → Except Fl (Hk × Nat)
def goesH (bg : List UInt8) (L : List (List UInt8)) (at_ : Nat) (hs : List Hk) : Bool := decide (hs = []) || (decide (at_ < L.length) && decide ((L.getD at_ []).take bg.length = bg))
def hksG (hk : HkF) (bg : List UInt8) (L : List (List UInt8)) : Nat → Nat → List Hk → Except Fl (List Hk × Nat)
 | 0, at_, hs => .ok (hs, at_)
 | n + 1, at_, hs => if goesH bg L at_ hs = true then match hk L hs.length at_ with
     | .error e => .error e
     | .ok (h, a) => hksG hk bg L n a (hs ++ [h])
   else .ok (hs, at_)
def ptG (hk : HkF) (bg p1 p2 : List UInt8) (L : List (List UInt8)) (ahead : Int) (at_ : Nat) : Except Fl (Pt × Nat) := match nmG p1 L at_ with
 | .error e => .error e
 | .ok (o, a1) => if 64 ≤ ahead then .error ((a1 : Int), 9) else match nmG p2 L a1 with
   | .error e => .error e
   | .ok (n, a2) => match hksG hk bg L (L.length + 1) a2 [] with
     | .error e => .error e
     | .ok (hs, a) => .ok (((o, n), hs), a)
def psG (hk : HkF) (bg p1 p2 : List UInt8) (L : List (List UInt8)) : Nat → Nat → List Pt → Except Fl (List Pt)
 | 0, _, ps => .ok ps
 | n + 1, at_, ps => if at_ < L.length then match ptG hk bg p1 p2 L ps.length at_ with
     | .error e => .error e
     | .ok (p, a) => psG hk bg p1 p2 L n a (ps ++ [p])
   else .ok ps
def parG (hk : HkF) (bg p1 p2 : List UInt8) (s : List UInt8) : Except Fl (List Pt) := if 1048576 < s.length then .error (0, 9) else psG hk bg p1 p2 (lns s) (lns s).length 0 []
structure HkOk (hk : HkF) : Prop where
 le : ∀ {L ahead k h a}, hk L ahead k = .ok (h, a) → k < a ∧ a ≤ L.length ∧ h.2.length ≤ L.length ∧ ahead < 4096
 adv : ∀ {L ahead k h a}, k ≤ L.length → hk L ahead k = .ok (h, a) → h.2.length + k ≤ a
 err : ∀ {L ahead k} {a e : Int}, hk L ahead k = .error (a, e) → ¬ e = 0
 good : ∀ {L ahead k h a}, feedE L → hk L ahead k = .ok (h, a) → chkH h = 0
 sz : ∀ {L ahead k h a}, (∀ x ∈ L, x.length ≤ 1048576) → hk L ahead k = .ok (h, a) → ∀ m ∈ h.2, m.2.length ≤ 1048577
theorem nmG_le {p : List UInt8} {L : List (List UInt8)} {k a : Nat} {o : List UInt8} (h : nmG p L k = .ok (o, a)) : a = k + 1 ∧ k < L.length ∧ o.length ≤ 64 := by
 unfold nmG at h
 split at h
 · cases h
 · rename_i s a1 e
   obtain ⟨rfl, hlt, _⟩ := nextL_le e
   split at h
   · split at h
     · rename_i h0
       simp only [Except.ok.injEq, Prod.mk.injEq] at h
       refine ⟨h.2.symm, hlt, ?_⟩
       rw [← h.1]
       unfold namedS at h0 ⊢
       split
       · simp
       · rename_i h1
         simp only [not_or] at h1
         dsimp only
         omega
     · cases h
   · cases h
theorem hksG_le {hk : HkF} (H : HkOk hk) {bg : List UInt8} {L : List (List UInt8)} : ∀ (n at_ : Nat) (hs hh : List Hk) (a : Nat), hksG hk bg L n at_ hs = .ok (hh, a) → at_ ≤ L.length → hs.length ≤ 4096 → at_ ≤ a ∧ a ≤ L.length ∧ hh.length ≤ 4096
 | 0, at_, hs, hh, a, h, hl, h4 => by
   simp only [hksG, Except.ok.injEq, Prod.mk.injEq] at h
   obtain ⟨rfl, rfl⟩ := h
   exact ⟨Nat.le_refl _, hl, h4⟩
 | n + 1, at_, hs, hh, a, h, hl, h4 => by
   rw [hksG] at h
   split at h
   · split at h
     · cases h
     · rename_i x a1 hx
       obtain ⟨b1, b2, b3, b4⟩ := H.le hx
       have := hksG_le H n a1 _ hh a h b2 (by rw [List.length_append, List.length_singleton]; omega)
       omega
   · simp only [Except.ok.injEq, Prod.mk.injEq] at h
     obtain ⟨rfl, rfl⟩ := h
     exact ⟨Nat.le_refl _, hl, h4⟩
theorem hksG_ne {hk : HkF} {bg : List UInt8} {L : List (List UInt8)} : ∀ (n at_ : Nat) (hs hh : List Hk) (a : Nat), hksG hk bg L n at_ hs = .ok (hh, a) → (0 < n ∨ ¬ hs = []) → ¬ hh = []
 | 0, at_, hs, hh, a, h, h0 => by
   simp only [hksG, Except.ok.injEq, Prod.mk.injEq] at h
   obtain ⟨rfl, rfl⟩ := h
   exact h0.resolve_left (by omega)
 | n + 1, at_, hs, hh, a, h, h0 => by
   rw [hksG] at h
   split at h
   · split at h
     · cases h
     · exact hksG_ne n _ _ hh a h (.inr (by simp))
   · rename_i hg
     simp only [Except.ok.injEq, Prod.mk.injEq] at h
     obtain ⟨rfl, rfl⟩ := h
     intro e
     exact hg (by rw [goesH, decide_eq_true e]; rfl)
theorem hksG_all {hk : HkF} {bg : List UInt8} {L : List (List UInt8)} {Q : Hk → Prop} (hQ : ∀ {ahead k h a}, hk L ahead k = .ok (h, a) → Q h) : ∀ (n at_ : Nat) (hs hh : List Hk) (a : Nat), hksG hk bg L n at_ hs = .ok (hh, a) → (∀ h ∈ hs, Q h) → ∀ h ∈ hh, Q h
 | 0, at_, hs, hh, a, h, h0 => by
   simp only [hksG, Except.ok.injEq, Prod.mk.injEq] at h
   obtain ⟨rfl, rfl⟩ := h
   exact h0
 | n + 1, at_, hs, hh, a, h, h0 => by
   rw [hksG] at h
   split at h
   · split at h
     · cases h
     · rename_i x a1 hx
       refine hksG_all hQ n a1 _ hh a h fun y hy => ?_
       rcases List.mem_append.1 hy with hm | hm
       · exact h0 y hm
       · rw [List.mem_singleton.1 hm]; exact hQ hx
   · simp only [Except.ok.injEq, Prod.mk.injEq] at h
     obtain ⟨rfl, rfl⟩ := h
     exact h0
theorem ptG_le {hk : HkF} (H : HkOk hk) {bg p1 p2 : List UInt8} {L : List (List UInt8)} {ahead : Int} {k a : Nat} {p : Pt} (h : ptG hk bg p1 p2 L ahead k = .ok (p, a)) : k < a ∧ a ≤ L.length ∧ ahead < 64 := by
 unfold ptG at h
 split at h
 · cases h
 · rename_i o a1 h1
   obtain ⟨rfl, hlt, _⟩ := nmG_le h1
   split at h
   · cases h
   · rename_i h64
     split at h
     · cases h
     · rename_i nn a2 h2
       obtain ⟨rfl, hlt2, _⟩ := nmG_le h2
       split at h
       · cases h
       · rename_i hs a3 h3
         obtain ⟨b1, b2, _⟩ := hksG_le H _ _ _ _ _ h3 (by omega) (by simp)
         simp only [Except.ok.injEq, Prod.mk.injEq] at h
         omega
theorem psG_all {hk : HkF} {bg p1 p2 : List UInt8} {L : List (List UInt8)} {Q : Pt → Prop} (hQ : ∀ {ahead k p a}, ptG hk bg p1 p2 L ahead k = .ok (p, a) → Q p) : ∀ (n at_ : Nat) (ps pp : List Pt), psG hk bg p1 p2 L n at_ ps = .ok pp → (∀ p ∈ ps, Q p) → ∀ p ∈ pp, Q p
 | 0, at_, ps, pp, h, h0 => by
   simp only [psG, Except.ok.injEq] at h
   rw [← h]; exact h0
 | n + 1, at_, ps, pp, h, h0 => by
   rw [psG] at h
   split at h
   · split at h
     · cases h
     · rename_i x a1 hx
       refine psG_all hQ n a1 _ pp h fun y hy => ?_
       rcases List.mem_append.1 hy with hm | hm
       · exact h0 y hm
       · rw [List.mem_singleton.1 hm]; exact hQ hx
   · simp only [Except.ok.injEq] at h
     rw [← h]; exact h0
theorem psG_len {hk : HkF} (H : HkOk hk) {bg p1 p2 : List UInt8} {L : List (List UInt8)} : ∀ (n at_ : Nat) (ps pp : List Pt), psG hk bg p1 p2 L n at_ ps = .ok pp → ps.length ≤ 64 → pp.length ≤ 64
 | 0, at_, ps, pp, h, h0 => by
   simp only [psG, Except.ok.injEq] at h
   rw [← h]; exact h0
 | n + 1, at_, ps, pp, h, h0 => by
   rw [psG] at h
   split at h
   · split at h
     · cases h
     · rename_i x a1 hx
       obtain ⟨_, _, h6⟩ := ptG_le H hx
       exact psG_len H n a1 _ pp h (by rw [List.length_append, List.length_singleton]; omega)
   · simp only [Except.ok.injEq] at h
     rw [← h]; exact h0
def PtOk (p : Pt) : Prop := p.1.1.length ≤ 64 ∧ p.1.2.length ≤ 64 ∧ ¬ p.2 = [] ∧ p.2.length ≤ 4096 ∧ ∀ h ∈ p.2, chkH h = 0 ∧ h.2.length ≤ 1048576 ∧ ∀ m ∈ h.2, m.2.length ≤ 1048577
theorem ptG_ok {hk : HkF} (H : HkOk hk) {bg p1 p2 : List UInt8} {L : List (List UInt8)} (hf : feedE L) (hl : L.length ≤ 1048576) (hz : ∀ x ∈ L, x.length ≤ 1048576) {ahead : Int} {k a : Nat} {p : Pt} (h : ptG hk bg p1 p2 L ahead k = .ok (p, a)) : PtOk p := by
 unfold ptG at h
 split at h
 · cases h
 · rename_i o a1 h1
   obtain ⟨rfl, hlt, q1⟩ := nmG_le h1
   split at h
   · cases h
   · split at h
     · cases h
     · rename_i nn a2 h2
       obtain ⟨rfl, hlt2, q2⟩ := nmG_le h2
       split at h
       · cases h
       · rename_i hs a3 h3
         obtain ⟨b1, b2, b3⟩ := hksG_le H _ _ _ _ _ h3 (by omega) (by simp)
         simp only [Except.ok.injEq, Prod.mk.injEq] at h
         rw [← h.1]
         refine ⟨q1, q2, hksG_ne _ _ _ _ _ h3 (.inl (by omega)), b3, ?_⟩
         exact hksG_all (Q := fun h => chkH h = 0 ∧ h.2.length ≤ 1048576 ∧ ∀ m ∈ h.2, m.2.length ≤ 1048577) (fun hx => ⟨H.good hf hx, by have := (H.le hx).2.2.1; omega, H.sz hz hx⟩) _ _ _ _ _ h3 (by simp)
theorem parG_ok {hk : HkF} (H : HkOk hk) {bg p1 p2 : List UInt8} {s : List UInt8} {pp : List Pt} (h : parG hk bg p1 p2 s = .ok pp) : pp.length ≤ 64 ∧ ∀ p ∈ pp, PtOk p := by
 unfold parG at h
 split at h
 · cases h
 · rename_i h4
   obtain ⟨h1, h2⟩ := lns_szN s (by omega)
   exact ⟨psG_len H _ _ _ _ h (by simp), psG_all (fun hx => ptG_ok H (lns_feed s) h1 h2 hx) _ _ _ _ h (by simp)⟩
def lnN (hs : List Hk) : Nat := (hs.map fun h => h.2.length).sum
theorem hksG_sum {hk : HkF} (H : HkOk hk) {bg : List UInt8} {L : List (List UInt8)} : ∀ (n at_ : Nat) (hs hh : List Hk) (a : Nat), hksG hk bg L n at_ hs = .ok (hh, a) → at_ ≤ L.length → lnN hh + at_ ≤ lnN hs + a
 | 0, at_, hs, hh, a, h, hl => by
   simp only [hksG, Except.ok.injEq, Prod.mk.injEq] at h
   obtain ⟨rfl, rfl⟩ := h
   exact Nat.le_refl _
 | n + 1, at_, hs, hh, a, h, hl => by
   rw [hksG] at h
   split at h
   · split at h
     · cases h
     · rename_i x a1 hx
       have b := H.le hx
       have c := H.adv hl hx
       have := hksG_sum H n a1 _ hh a h b.2.1
       simp only [lnN, List.map_append, List.sum_append, List.map_cons, List.map_nil, List.sum_cons, List.sum_nil] at this ⊢
       omega
   · simp only [Except.ok.injEq, Prod.mk.injEq] at h
     obtain ⟨rfl, rfl⟩ := h
     exact Nat.le_refl _
theorem ptG_sum {hk : HkF} (H : HkOk hk) {bg p1 p2 : List UInt8} {L : List (List UInt8)} {ahead : Int} {k a : Nat} {p : Pt} (h : ptG hk bg p1 p2 L ahead k = .ok (p, a)) : lnN p.2 ≤ L.length := by
 unfold ptG at h
 split at h
 · cases h
 · rename_i o a1 h1
   obtain ⟨rfl, hlt, _⟩ := nmG_le h1
   split at h
   · cases h
   · split at h
     · cases h
     · rename_i nn a2 h2
       obtain ⟨rfl, hlt2, _⟩ := nmG_le h2
       split at h
       · cases h
       · rename_i hs a3 h3
         have b := hksG_le H _ _ _ _ _ h3 (by omega) (by simp)
         have c := hksG_sum H _ _ _ _ _ h3 (by omega)
         simp only [Except.ok.injEq, Prod.mk.injEq] at h
         rw [← h.1]
         simp only [lnN, List.map_nil, List.sum_nil] at c ⊢
         omega
theorem parG_sum {hk : HkF} (H : HkOk hk) {bg p1 p2 : List UInt8} {s : List UInt8} {pp : List Pt} (h : parG hk bg p1 p2 s = .ok pp) : ∀ p ∈ pp, lnN p.2 ≤ 1048576 := by
 unfold parG at h
 split at h
 · cases h
 · rename_i h4
   obtain ⟨h1, h2⟩ := lns_szN s (by omega)
   exact psG_all (Q := fun p => lnN p.2 ≤ 1048576) (fun hx => Nat.le_trans (ptG_sum H hx) h1) _ _ _ _ h (by simp)
theorem psG_end {hk : HkF} {bg p1 p2 : List UInt8} {L : List (List UInt8)} {n at_ : Nat} {ps : List Pt} (h : ¬ at_ < L.length) : psG hk bg p1 p2 L n at_ ps = .ok ps := by
 cases n with
 | zero => rfl
 | succ n => rw [psG, if_neg h]
theorem hksG_end {hk : HkF} {bg : List UInt8} {L : List (List UInt8)} {n at_ : Nat} {hs : List Hk} (h : goesH bg L at_ hs = false) : hksG hk bg L n at_ hs = .ok (hs, at_) := by
 cases n with
 | zero => rfl
 | succ n => rw [hksG, if_neg (by rw [h]; decide)]
def isLn (x : List UInt8) : Prop := ∃ y, x = y ++ [10] ∧ 10 ∉ y
theorem lns_one : ∀ (y : List UInt8) (r : List UInt8), 10 ∉ y → lns (y ++ 10 :: r) = (y ++ [10]) :: lns r
 | [], r, _ => by rw [List.nil_append, lns, if_pos rfl]; rfl
 | c :: y, r, h => by
   simp only [List.mem_cons, not_or] at h
   rw [List.cons_append, lns, if_neg (fun e => h.1 e.symm), lns_one y r h.2]
   rfl
theorem lns_flatten : ∀ (l : List (List UInt8)), (∀ x ∈ l, isLn x) → lns l.flatten = l
 | [], _ => rfl
 | x :: r, h => by
   obtain ⟨y, rfl, hy⟩ := h x (by simp)
   have := lns_flatten r fun z hz => h z (by simp [hz])
   rw [List.flatten_cons, List.append_assoc, List.singleton_append, lns_one y _ hy, this]
theorem getD_mid (pre : List (List UInt8)) (x : List UInt8) (post : List (List UInt8)) : (pre ++ x :: post).getD pre.length [] = x := by
 rw [List.getD_eq_getElem?_getD, List.getElem?_append_right (Nat.le_refl _), Nat.sub_self]; rfl
theorem bare_feed (y : List UInt8) : bareS (y ++ [10]) = (y, true) := by
 rw [bareS, if_pos (by simp)]; simp
theorem nextL_mid (pre : List (List UInt8)) (y : List UInt8) (post : List (List UInt8)) : nextL (pre ++ (y ++ [10]) :: post) pre.length = .ok (y, pre.length + 1) := by
 have h : pre.length < (pre ++ (y ++ [10]) :: post).length := by rw [List.length_append, List.length_cons]; omega
 rw [nextL_ok h (by rw [getD_mid, bare_feed]), getD_mid, bare_feed]
theorem nmG_mid {p : List UInt8} (hp : p.length = 4) (pre post : List (List UInt8)) {o : List UInt8} (ho : o.length ≤ 64) : nmG p (pre ++ (p ++ nameS o ++ [10]) :: post) pre.length = .ok (o, pre.length + 1) := by
 unfold nmG
 rw [nextL_mid]
 dsimp only
 have h1 : (p ++ nameS o).take 4 = p := by rw [← hp]; simp
 have h2 : (p ++ nameS o).drop 4 = nameS o := by rw [← hp]; simp
 have e : namedS (nameS o) = (o, 0) := by rw [named_name, if_neg (by omega)]
 rw [if_pos h1, h2, e, if_pos rfl]
def okPost (bg p1 : List UInt8) (post : List (List UInt8)) : Prop := post = [] ∨ ∃ x r, post = x :: r ∧ (x.take bg.length = bg ∨ x.take 4 = p1)
structure HkBack (hk : HkF) (bg p1 : List UInt8) (Q : Hk → Prop) (hl : Hk → List (List UInt8)) : Prop where
 head : ∀ {h}, Q h → ∃ x r, hl h = x :: r ∧ x.take bg.length = bg
 ln : ∀ {h}, Q h → ∀ x ∈ hl h, isLn x
 back : ∀ {h}, Q h → ∀ (pre post : List (List UInt8)) (ahead : Int), ahead < 4096 → okPost bg p1 post → hk (pre ++ (hl h ++ post)) ahead pre.length = .ok (h, pre.length + (hl h).length)
 neq : ∀ x : List UInt8, x.take 4 = p1 → ¬ x.take bg.length = bg
def ptL (p1 p2 : List UInt8) (hl : Hk → List (List UInt8)) (p : Pt) : List (List UInt8) := (p1 ++ nameS p.1.1 ++ [10]) :: (p2 ++ nameS p.1.2 ++ [10]) :: p.2.flatMap hl
theorem hksG_mid {hk : HkF} {bg p1 : List UInt8} {Q : Hk → Prop} {hl : Hk → List (List UInt8)} (B : HkBack hk bg p1 Q hl) : ∀ (hs hs0 : List Hk) (pre post : List (List UInt8)) (n : Nat), (∀ h ∈ hs, Q h) → hs0.length + hs.length ≤ 4096 → ¬ (hs0 = [] ∧ hs = []) →
   (post = [] ∨ ∃ x r, post = x :: r ∧ x.take 4 = p1) → hs.length ≤ n → hksG hk bg (pre ++ (hs.flatMap hl ++ post)) n pre.length hs0 = .ok (hs0 ++ hs, pre.length + (hs.flatMap hl).length)
 | [], hs0, pre, post, n, hQ, hl4, hne, hpost, hn => by
   have hg : goesH bg (pre ++ (([] : List Hk).flatMap hl ++ post)) pre.length hs0 = false := by
     have h0 : ¬ hs0 = [] := fun e => hne ⟨e, rfl⟩
     rw [goesH, decide_eq_false h0, Bool.false_or]
     rcases hpost with rfl | ⟨x, r, rfl, hx⟩
     · simp
     · have := B.neq x hx
       rw [List.flatMap_nil, List.nil_append, getD_mid, decide_eq_false this, Bool.and_false]
   rw [hksG_end hg]
   simp
 | h :: hs, hs0, pre, post, n, hQ, hl4, hne, hpost, hn => by
   obtain ⟨m, rfl⟩ : ∃ m, n = m + 1 := ⟨n - 1, by simp only [List.length_cons] at hn; omega⟩
   obtain ⟨x, r, e, hx⟩ := B.head (hQ h (by simp))
   have hp : okPost bg p1 (hs.flatMap hl ++ post) := by
     cases hs with
     | nil =>
       rcases hpost with rfl | ⟨y, z, rfl, hy⟩
       · exact .inl rfl
       · exact .inr ⟨y, z, rfl, .inr hy⟩
     | cons h2 hs =>
       obtain ⟨x2, r2, e2, hx2⟩ := B.head (hQ h2 (by simp))
       exact .inr ⟨x2, r2 ++ hs.flatMap hl ++ post, by rw [List.flatMap_cons, e2]; simp, .inl hx2⟩
   have hg : goesH bg (pre ++ ((h :: hs).flatMap hl ++ post)) pre.length hs0 = true := by
     have h2 : pre ++ ((h :: hs).flatMap hl ++ post) = pre ++ x :: (r ++ hs.flatMap hl ++ post) := by rw [List.flatMap_cons, e]; simp
     have hlt : pre.length < (pre ++ x :: (r ++ hs.flatMap hl ++ post)).length := by rw [List.length_append, List.length_cons]; omega
     rw [h2, goesH, getD_mid, decide_eq_true hx, decide_eq_true hlt]
     simp
   simp only [List.length_cons] at hl4 hn
   have hb := B.back (hQ h (by simp)) pre (hs.flatMap hl ++ post) (hs0.length : Int) (by omega) hp
   have e3 : pre ++ ((h :: hs).flatMap hl ++ post) = pre ++ (hl h ++ (hs.flatMap hl ++ post)) := by rw [List.flatMap_cons]; simp
   rw [hksG, if_pos hg, e3, hb]
   dsimp only
   have ih := hksG_mid B hs (hs0 ++ [h]) (pre ++ hl h) post m (fun y hy => hQ y (by simp [hy])) (by rw [List.length_append, List.length_singleton]; omega) (by simp) hpost (by omega)
   rw [List.length_append] at ih
   rw [show pre ++ (hl h ++ (hs.flatMap hl ++ post)) = pre ++ hl h ++ (hs.flatMap hl ++ post) by simp, ih]
   simp [Nat.add_assoc]
theorem ptG_mid {hk : HkF} {bg p1 p2 : List UInt8} {Q : Hk → Prop} {hl : Hk → List (List UInt8)} (B : HkBack hk bg p1 Q hl) (l1 : p1.length = 4) (l2 : p2.length = 4) {p : Pt} (ho : p.1.1.length ≤ 64) (hn : p.1.2.length ≤ 64) (hne : ¬ p.2 = []) (hQ : ∀ h ∈ p.2, Q h) (h4 : p.2.length ≤ 4096)
   (pre post : List (List UInt8)) (hpost : post = [] ∨ ∃ x r, post = x :: r ∧ x.take 4 = p1) (ahead : Int) (ha : ahead < 64) (hlen : p.2.length ≤ (pre ++ (ptL p1 p2 hl p ++ post)).length) :
   ptG hk bg p1 p2 (pre ++ (ptL p1 p2 hl p ++ post)) ahead pre.length = .ok (p, pre.length + (ptL p1 p2 hl p).length) := by
 have e1 : pre ++ (ptL p1 p2 hl p ++ post) = pre ++ (p1 ++ nameS p.1.1 ++ [10]) :: ((p2 ++ nameS p.1.2 ++ [10]) :: (p.2.flatMap hl ++ post)) := by simp [ptL]
 have e2 : pre ++ (ptL p1 p2 hl p ++ post) = (pre ++ [p1 ++ nameS p.1.1 ++ [10]]) ++ (p2 ++ nameS p.1.2 ++ [10]) :: (p.2.flatMap hl ++ post) := by simp [ptL]
 have e3 : pre ++ (ptL p1 p2 hl p ++ post) = (pre ++ [p1 ++ nameS p.1.1 ++ [10], p2 ++ nameS p.1.2 ++ [10]]) ++ (p.2.flatMap hl ++ post) := by simp [ptL]
 have n1 := nmG_mid l1 pre ((p2 ++ nameS p.1.2 ++ [10]) :: (p.2.flatMap hl ++ post)) ho
 have n2 := nmG_mid l2 (pre ++ [p1 ++ nameS p.1.1 ++ [10]]) (p.2.flatMap hl ++ post) hn
 have n3 := hksG_mid B p.2 [] (pre ++ [p1 ++ nameS p.1.1 ++ [10], p2 ++ nameS p.1.2 ++ [10]]) post ((pre ++ (ptL p1 p2 hl p ++ post)).length + 1) hQ (by simpa using h4) (fun h => hne h.2) hpost (by omega)
 rw [← e1] at n1
 rw [← e2, List.length_append, List.length_singleton] at n2
 have l3 : (pre ++ [p1 ++ nameS p.1.1 ++ [10], p2 ++ nameS p.1.2 ++ [10]]).length = pre.length + 2 := by simp
 rw [← e3, l3, List.nil_append] at n3
 unfold ptG
 rw [n1]; dsimp only
 rw [if_neg (by omega), n2]; dsimp only
 rw [n3]; dsimp only
 simp only [ptL, List.length_cons]
 congr 2
 omega
theorem ptL_len (p1 p2 : List UInt8) {hk : HkF} {bg : List UInt8} {Q : Hk → Prop} {hl : Hk → List (List UInt8)} (B : HkBack hk bg p1 Q hl) : ∀ (hs : List Hk), (∀ h ∈ hs, Q h) → hs.length ≤ (hs.flatMap hl).length
 | [], _ => by simp
 | h :: hs, hQ => by
   obtain ⟨x, r, e, _⟩ := B.head (hQ h (by simp))
   have := ptL_len p1 p2 B hs fun y hy => hQ y (by simp [hy])
   rw [List.flatMap_cons, e, List.length_append, List.length_cons, List.length_cons]
   omega
def PtQ (Q : Hk → Prop) (p : Pt) : Prop := p.1.1.length ≤ 64 ∧ p.1.2.length ≤ 64 ∧ ¬ p.2 = [] ∧ p.2.length ≤ 4096 ∧ ∀ h ∈ p.2, Q h
theorem psG_mid {hk : HkF} {bg p1 p2 : List UInt8} {Q : Hk → Prop} {hl : Hk → List (List UInt8)} (B : HkBack hk bg p1 Q hl) (l1 : p1.length = 4) (l2 : p2.length = 4) : ∀ (ps ps0 : List Pt) (pre : List (List UInt8)) (n : Nat), (∀ p ∈ ps, PtQ Q p) → ps0.length + ps.length ≤ 64 → ps.length ≤ n →
   psG hk bg p1 p2 (pre ++ ps.flatMap (ptL p1 p2 hl)) n pre.length ps0 = .ok (ps0 ++ ps)
 | [], ps0, pre, n, hQ, h64, hn => by
   rw [psG_end (by simp)]
   simp
 | p :: ps, ps0, pre, n, hQ, h64, hn => by
   obtain ⟨m, rfl⟩ : ∃ m, n = m + 1 := ⟨n - 1, by simp only [List.length_cons] at hn; omega⟩
   simp only [List.length_cons] at h64 hn
   obtain ⟨q1, q2, q3, q4, q5⟩ := hQ p (by simp)
   have hpost : ps.flatMap (ptL p1 p2 hl) = [] ∨ ∃ x r, ps.flatMap (ptL p1 p2 hl) = x :: r ∧ x.take 4 = p1 := by
     cases ps with
     | nil => exact .inl rfl
     | cons p' ps => exact .inr ⟨_, _, rfl, by rw [← l1]; simp⟩
   have hlen := ptL_len p1 p2 B p.2 q5
   have e : pre ++ (p :: ps).flatMap (ptL p1 p2 hl) = pre ++ (ptL p1 p2 hl p ++ ps.flatMap (ptL p1 p2 hl)) := by rw [List.flatMap_cons]
   have hpt := ptG_mid B l1 l2 q1 q2 q3 q5 q4 pre (ps.flatMap (ptL p1 p2 hl)) hpost (ps0.length : Int) (by omega) (by simp only [List.length_append, ptL, List.length_cons]; omega)
   have hlt : pre.length < (pre ++ (p :: ps).flatMap (ptL p1 p2 hl)).length := by rw [e, List.length_append, List.length_append, ptL, List.length_cons]; omega
   rw [psG, if_pos hlt, e, hpt]
   dsimp only
   have ih := psG_mid B l1 l2 ps (ps0 ++ [p]) (pre ++ ptL p1 p2 hl p) m (fun y hy => hQ y (by simp [hy])) (by rw [List.length_append, List.length_singleton]; omega) (by omega)
   rw [List.length_append] at ih
   rw [← List.append_assoc, ih]
   simp
theorem name_ln {p : List UInt8} (hp : 10 ∉ p) (o : List UInt8) : isLn (p ++ nameS o ++ [10]) := by
 refine ⟨p ++ nameS o, rfl, ?_⟩
 rw [List.mem_append, not_or]
 refine ⟨hp, ?_⟩
 have hq : ∀ c : UInt8, 10 ∉ qb c := by
   have : ∀ n : Fin 256, (10 : UInt8) ∉ qb (UInt8.ofNat n.val) := by decide +kernel
   intro c
   have h := this ⟨c.toNat, c.toNat_lt⟩
   simpa using h
 unfold nameS
 split
 · decide
 · split
   · unfold quo
     simp only [List.mem_cons, List.mem_append, List.mem_flatMap, not_or]
     repeat' (first | refine And.intro ?_ ?_ | (with_reducible rintro ⟨c, _, h⟩; exact hq c h))
     all_goals first | decide | (intro h; cases h; done) | (rintro ⟨c, _, h⟩; exact hq c h)
   · rename_i h
     simp only [not_or] at h
     intro hm
     apply h.2
     rw [List.any_eq_true]
     exact ⟨10, hm, by decide⟩
theorem again {hk : HkF} {bg p1 p2 : List UInt8} {Q : Hk → Prop} {hl : Hk → List (List UInt8)} (B : HkBack hk bg p1 Q hl) (l1 : p1.length = 4) (l2 : p2.length = 4) (t1 : 10 ∉ p1) (t2 : 10 ∉ p2) {ps : List Pt} (hQ : ∀ p ∈ ps, PtQ Q p) (h64 : ps.length ≤ 64)
   (hlen : (ps.flatMap (ptL p1 p2 hl)).flatten.length ≤ 1048576) : parG hk bg p1 p2 (ps.flatMap (ptL p1 p2 hl)).flatten = .ok ps := by
 have hall : ∀ x ∈ ps.flatMap (ptL p1 p2 hl), isLn x := by
   intro x hx
   obtain ⟨p, hp, hx⟩ := List.mem_flatMap.1 hx
   obtain ⟨_, _, _, _, q5⟩ := hQ p hp
   simp only [ptL, List.mem_cons] at hx
   rcases hx with rfl | rfl | hx
   · exact name_ln t1 _
   · exact name_ln t2 _
   · obtain ⟨h, hh, hx⟩ := List.mem_flatMap.1 hx
     exact B.ln (q5 h hh) x hx
 have hn : ∀ l : List Pt, l.length ≤ (l.flatMap (ptL p1 p2 hl)).length := by
   intro l
   induction l with
   | nil => simp
   | cons p l ih => rw [List.flatMap_cons, List.length_append, ptL, List.length_cons, List.length_cons]; omega
 unfold parG
 rw [if_neg (by omega), lns_flatten _ hall]
 have := psG_mid B l1 l2 ps [] [] (ps.flatMap (ptL p1 p2 hl)).length hQ (by simpa using h64) (hn ps)
 simpa using this
def cutS (p s : List UInt8) : Option (List UInt8 × List UInt8) := if Lib.index s p < 0 then none else some (s.take (Lib.index s p).toNat, s.drop ((Lib.index s p).toNat + p.length))
theorem cutS_len {p s a b : List UInt8} (h : cutS p s = some (a, b)) : a.length ≤ s.length ∧ b.length ≤ s.length := by
 unfold cutS at h
 split at h
 · cases h
 · simp only [Option.some.injEq, Prod.mk.injEq] at h
   rw [← h.1, ← h.2, List.length_take, List.length_drop]
   omega
def cntS (s : List UInt8) : (Int × Int) × Bool := match cutK 44 s with
 | none => (((parseS s).1, 1), decide ((parseS s).2 = 0))
 | some (p, q) => (((parseS p).1, (parseS q).1), decide ((parseS p).2 = 0) && decide ((parseS q).2 = 0))
theorem cntS_bd (s : List UInt8) : (0 ≤ (cntS s).1.1 ∧ (cntS s).1.1 ≤ 2147483647) ∧ 0 ≤ (cntS s).1.2 ∧ (cntS s).1.2 ≤ 2147483647 := by
 unfold cntS
 split
 · exact ⟨parseS_bd s, by dsimp only; omega⟩
 · exact ⟨parseS_bd _, parseS_bd _⟩
def pcsU (s : List UInt8) : Option (List UInt8 × List UInt8) := if s.take 4 = [64, 64, 32, 45] then
   match cutS [32, 43] (s.drop 4) with
   | none => none
   | some (old, rest) => match cutS [32, 64, 64] rest with
     | none => none
     | some (fresh, tail) => if tail = [] ∨ tail.getD 0 0 = 32 then some (old, fresh) else none
 else none
def hdU (s : List UInt8) : Option (Int × Int × Int × Int) := match pcsU s with
 | none => none
 | some (old, fresh) => if (cntS old).2 = true ∧ (cntS fresh).2 = true then some ((cntS old).1.1, (cntS old).1.2, (cntS fresh).1.1, (cntS fresh).1.2) else none
theorem hdU_bd {s : List UInt8} {c : Int × Int × Int × Int} (h : hdU s = some c) : (0 ≤ c.1 ∧ c.1 ≤ 2147483647) ∧ (0 ≤ c.2.1 ∧ c.2.1 ≤ 2147483647) ∧ (0 ≤ c.2.2.1 ∧ c.2.2.1 ≤ 2147483647) ∧ 0 ≤ c.2.2.2 ∧ c.2.2.2 ≤ 2147483647 := by
 unfold hdU at h
 split at h
 · cases h
 · rename_i old fresh e
   split at h
   · simp only [Option.some.injEq] at h
     subst h
     have h1 := cntS_bd old
     have h2 := cntS_bd fresh
     exact ⟨h1.1, h1.2, h2.1, h2.2⟩
   · cases h
def lnU (L : List (List UInt8)) (o f : Int) (at_ : Nat) : Except Fl ((Mk × Int × Int) × Nat) := match nextL L at_ with
 | .error e => .error e
 | .ok (s, a) => match s with
   | [] => .error ((a : Int), 3)
   | c :: r => if c = 32 then
       if o < 1 ∨ f < 1 then .error ((a : Int), 3)
       else if ((o = 1 ∧ f = 1) ∧ ¬ r = []) ∧ a < L.length ∧ L.getD a [] = markS then .ok (((32, r), o - 1, f - 1), a + 1)
       else .ok (((32, r ++ [10]), o - 1, f - 1), a)
     else if c = 45 then
       if o < 1 then .error ((a : Int), 3)
       else if (o = 1 ∧ ¬ r = []) ∧ a < L.length ∧ L.getD a [] = markS then .ok (((45, r), o - 1, f), a + 1)
       else .ok (((45, r ++ [10]), o - 1, f), a)
     else if c = 43 then
       if f < 1 then .error ((a : Int), 3)
       else if (f = 1 ∧ ¬ r = []) ∧ a < L.length ∧ L.getD a [] = markS then .ok (((43, r), o, f - 1), a + 1)
       else .ok (((43, r ++ [10]), o, f - 1), a)
     else .error ((a : Int), 3)
def lnsU (L : List (List UInt8)) : Nat → Int → Int → Nat → List Mk → Except Fl (List Mk × Nat)
 | 0, _, _, at_, ms => .ok (ms, at_)
 | n + 1, o, f, at_, ms => if o = 0 ∧ f = 0 then .ok (ms, at_) else match lnU L o f at_ with
   | .error e => .error e
   | .ok ((m, o', f'), a) => lnsU L n o' f' a (ms ++ [m])
def hkU : HkF := fun L ahead at_ => match nextL L at_ with
 | .error e => .error e
 | .ok (s, a) => match hdU s with
   | none => .error ((a : Int), 3)
   | some c => if 4096 ≤ ahead then .error ((a : Int), 9)
     else if (c.1 < 1 ∧ 0 < c.2.1) ∨ (c.2.2.1 < 1 ∧ 0 < c.2.2.2) then .error ((a : Int), 2)
     else match lnsU L (c.2.1 + c.2.2.2).toNat c.2.1 c.2.2.2 a [] with
       | .error e => .error e
       | .ok (ms, a') => if ms.any chgM = true then .ok ((c, ms), a') else .error ((a : Int), 50)
theorem nextL_bare {L : List (List UInt8)} {k a : Nat} {s : List UInt8} (h : nextL L k = .ok (s, a)) : (bareS (L.getD k [])).2 = true := by
 unfold nextL at h
 split at h
 · split at h
   · rename_i hb; exact hb
   · cases h
 · cases h
theorem lnU_spec {L : List (List UInt8)} (hL : feedE L) {o f : Int} {k a : Nat} {m : Mk} {o' f' : Int} (h : lnU L o f k = .ok ((m, o', f'), a)) (ho : 0 ≤ o) (hf : 0 ≤ f) :
   (k < a ∧ a ≤ L.length) ∧ (0 ≤ o' ∧ 0 ≤ f') ∧ (o = o' + if isO m = true then 1 else 0) ∧ (f = f' + if isN m = true then 1 else 0) ∧ (isO m || isN m) = true ∧ (lineQ m.2).1 = true ∧ ((lineQ m.2).2 = true ∨ ((isO m = true → o' = 0) ∧ (isN m = true → f' = 0))) := by
 unfold lnU at h
 split at h
 · cases h
 · rename_i s a1 hx
   obtain ⟨rfl, hlt, hs⟩ := nextL_le hx
   have h10 : 10 ∉ s := by
     rw [hs]
     refine bare_no (hL _ ?_) (nextL_bare hx)
     rw [List.getD_eq_getElem?_getD, List.getElem?_eq_getElem hlt, Option.getD_some]
     exact List.getElem_mem hlt
   split at h
   · cases h
   · rename_i c r
     have hr : 10 ∉ r := fun e => h10 (List.mem_cons_of_mem _ e)
     have q1 : lineQ (r ++ [10]) = (true, true) := by
       rw [lineQ, if_neg]
       · simp
       · rintro (e | e)
         · simp at e
         · simp at e; exact hr e
     have q2 : ¬ r = [] → (lineQ r).1 = true := fun hne => by
       rw [lineQ, if_neg]
       rintro (e | e)
       · exact hne e
       · exact hr (List.dropLast_subset _ e)
     have sg : ∀ w : List UInt8, isO (32, w) = true ∧ isN (32, w) = true ∧ isO (45, w) = true ∧ isN (45, w) = false ∧ isO (43, w) = false ∧ isN (43, w) = true := fun w => by simp [isO, isN]
     split at h
     · split at h
       · cases h
       · split at h
         · rename_i h1 h2
           simp only [Except.ok.injEq, Prod.mk.injEq] at h
           obtain ⟨⟨rfl, rfl, rfl⟩, rfl⟩ := h
           obtain ⟨s1, s2, s3, s4, s5, s6⟩ := sg r
           rw [s1, s2]
           exact ⟨by omega, by omega, by simp, by simp, rfl, q2 h2.1.2, .inr ⟨fun _ => by omega, fun _ => by omega⟩⟩
         · simp only [Except.ok.injEq, Prod.mk.injEq] at h
           obtain ⟨⟨rfl, rfl, rfl⟩, rfl⟩ := h
           obtain ⟨s1, s2, s3, s4, s5, s6⟩ := sg (r ++ [10])
           rw [s1, s2, q1]
           exact ⟨by omega, by omega, by simp, by simp, rfl, rfl, .inl rfl⟩
     · split at h
       · split at h
         · cases h
         · split at h
           · rename_i h1 h2
             simp only [Except.ok.injEq, Prod.mk.injEq] at h
             obtain ⟨⟨rfl, rfl, rfl⟩, rfl⟩ := h
             obtain ⟨s1, s2, s3, s4, s5, s6⟩ := sg r
             rw [s3, s4]
             exact ⟨by omega, by omega, by simp, by simp, rfl, q2 h2.1.2, .inr ⟨fun _ => by omega, fun e => (by cases e)⟩⟩
           · simp only [Except.ok.injEq, Prod.mk.injEq] at h
             obtain ⟨⟨rfl, rfl, rfl⟩, rfl⟩ := h
             obtain ⟨s1, s2, s3, s4, s5, s6⟩ := sg (r ++ [10])
             rw [s3, s4, q1]
             exact ⟨by omega, by omega, by simp, by simp, rfl, rfl, .inl rfl⟩
       · split at h
         · split at h
           · cases h
           · split at h
             · rename_i h1 h2
               simp only [Except.ok.injEq, Prod.mk.injEq] at h
               obtain ⟨⟨rfl, rfl, rfl⟩, rfl⟩ := h
               obtain ⟨s1, s2, s3, s4, s5, s6⟩ := sg r
               rw [s5, s6]
               exact ⟨by omega, by omega, by simp, by simp, rfl, q2 h2.1.2, .inr ⟨fun e => (by cases e), fun _ => by omega⟩⟩
             · simp only [Except.ok.injEq, Prod.mk.injEq] at h
               obtain ⟨⟨rfl, rfl, rfl⟩, rfl⟩ := h
               obtain ⟨s1, s2, s3, s4, s5, s6⟩ := sg (r ++ [10])
               rw [s5, s6, q1]
               exact ⟨by omega, by omega, by simp, by simp, rfl, rfl, .inl rfl⟩
         · cases h
theorem lnU_err {L : List (List UInt8)} {o f : Int} {k : Nat} {a e : Int} (h : lnU L o f k = .error (a, e)) : ¬ e = 0 := by
 unfold lnU at h
 split at h
 · rename_i x hx; cases h; exact (nx_next_err 0 hx).2.2
 · repeat' split at h
   all_goals first | (cases h; done) | (cases h; decide)
theorem lnU_sz {L : List (List UInt8)} (hL : ∀ x ∈ L, x.length ≤ 1048576) {o f : Int} {k a : Nat} {m : Mk} {o' f' : Int} (h : lnU L o f k = .ok ((m, o', f'), a)) : m.2.length ≤ 1048577 := by
 unfold lnU at h
 split at h
 · cases h
 · rename_i s a1 hx
   obtain ⟨_, hlt, hs⟩ := nextL_le hx
   have h1 : s.length ≤ 1048576 := by
     rw [hs]
     refine Nat.le_trans (bare_len _) (hL _ ?_)
     rw [List.getD_eq_getElem?_getD, List.getElem?_eq_getElem hlt, Option.getD_some]
     exact List.getElem_mem hlt
   clear hs
   repeat' split at h
   all_goals first
     | (cases h; done)
     | (simp only [Except.ok.injEq, Prod.mk.injEq] at h
        obtain ⟨⟨rfl, rfl, rfl⟩, rfl⟩ := h
        simp only [List.length_cons, List.length_append, List.length_nil] at h1 ⊢
        omega)
theorem lnU_le {L : List (List UInt8)} {o f : Int} {k a : Nat} {m : Mk} {o' f' : Int} (h : lnU L o f k = .ok ((m, o', f'), a)) (ho : 0 ≤ o) (hf : 0 ≤ f) : (k < a ∧ a ≤ L.length) ∧ (0 ≤ o' ∧ 0 ≤ f') ∧ o' + f' < o + f ∧ o' ≤ o ∧ f' ≤ f := by
 unfold lnU at h
 split at h
 · cases h
 · rename_i s a1 hx
   obtain ⟨rfl, hlt, hs⟩ := nextL_le hx
   clear hs
   repeat' split at h
   all_goals first
     | (cases h; done)
     | (simp only [Except.ok.injEq, Prod.mk.injEq] at h
        obtain ⟨⟨rfl, rfl, rfl⟩, rfl⟩ := h
        omega)
theorem lnsU_le {L : List (List UInt8)} : ∀ (n : Nat) (o f : Int) (k : Nat) (ms mm : List Mk) (a : Nat), lnsU L n o f k ms = .ok (mm, a) → 0 ≤ o → 0 ≤ f → k ≤ L.length → k ≤ a ∧ a ≤ L.length ∧ mm.length + k ≤ ms.length + a
 | 0, o, f, k, ms, mm, a, h, ho, hf, hk => by
   simp only [lnsU, Except.ok.injEq, Prod.mk.injEq] at h
   obtain ⟨rfl, rfl⟩ := h
   exact ⟨Nat.le_refl _, hk, Nat.le_refl _⟩
 | n + 1, o, f, k, ms, mm, a, h, ho, hf, hk => by
   rw [lnsU] at h
   split at h
   · simp only [Except.ok.injEq, Prod.mk.injEq] at h
     obtain ⟨rfl, rfl⟩ := h
     exact ⟨Nat.le_refl _, hk, Nat.le_refl _⟩
   · split at h
     · cases h
     · rename_i m o' f' a1 hx
       obtain ⟨⟨b1, b2⟩, ⟨b3, b4⟩, _⟩ := lnU_le hx ho hf
       have := lnsU_le n o' f' a1 _ mm a h b3 b4 b2
       rw [List.length_append, List.length_singleton] at this
       omega
theorem lnsU_err {L : List (List UInt8)} : ∀ (n : Nat) (o f : Int) (k : Nat) (ms : List Mk) (a e : Int), lnsU L n o f k ms = .error (a, e) → ¬ e = 0
 | 0, o, f, k, ms, a, e, h => by simp [lnsU] at h
 | n + 1, o, f, k, ms, a, e, h => by
   rw [lnsU] at h
   split at h
   · cases h
   · split at h
     · rename_i x hx; cases h; exact lnU_err hx
     · exact lnsU_err n _ _ _ _ _ _ h
theorem lnsU_sz {L : List (List UInt8)} (hL : ∀ x ∈ L, x.length ≤ 1048576) : ∀ (n : Nat) (o f : Int) (k : Nat) (ms mm : List Mk) (a : Nat), lnsU L n o f k ms = .ok (mm, a) → (∀ m ∈ ms, m.2.length ≤ 1048577) → ∀ m ∈ mm, m.2.length ≤ 1048577
 | 0, o, f, k, ms, mm, a, h, h0 => by
   simp only [lnsU, Except.ok.injEq, Prod.mk.injEq] at h
   obtain ⟨rfl, rfl⟩ := h
   exact h0
 | n + 1, o, f, k, ms, mm, a, h, h0 => by
   rw [lnsU] at h
   split at h
   · simp only [Except.ok.injEq, Prod.mk.injEq] at h
     obtain ⟨rfl, rfl⟩ := h
     exact h0
   · split at h
     · cases h
     · rename_i m o' f' a1 hx
       refine lnsU_sz hL n o' f' a1 _ mm a h fun y hy => ?_
       rcases List.mem_append.1 hy with hm | hm
       · exact h0 y hm
       · rw [List.mem_singleton.1 hm]; exact lnU_sz hL hx
theorem any_len {f : Mk → Bool} {l : List Mk} (h : (l.filter f).length = 0) : l.any f = false := by
 rw [List.any_eq_false]
 intro m hm hf
 have : m ∈ l.filter f := List.mem_filter.2 ⟨hm, hf⟩
 rw [List.length_eq_zero_iff.1 h] at this
 cases this
theorem lnsU_good {L : List (List UInt8)} (hL : feedE L) : ∀ (n : Nat) (o f : Int) (k : Nat) (ms mm : List Mk) (a : Nat), lnsU L n o f k ms = .ok (mm, a) → 0 ≤ o → 0 ≤ f → o + f ≤ n → ∃ l, mm = ms ++ l ∧ ((l.filter isO).length : Int) = o ∧ ((l.filter isN).length : Int) = f ∧ fieldsT l = true
 | 0, o, f, k, ms, mm, a, h, ho, hf, hn => by
   simp only [lnsU, Except.ok.injEq, Prod.mk.injEq] at h
   obtain ⟨rfl, rfl⟩ := h
   exact ⟨[], by simp, by simp; omega, by simp; omega, rfl⟩
 | n + 1, o, f, k, ms, mm, a, h, ho, hf, hn => by
   rw [lnsU] at h
   split at h
   · rename_i h0
     simp only [Except.ok.injEq, Prod.mk.injEq] at h
     obtain ⟨rfl, rfl⟩ := h
     exact ⟨[], by simp, by simp; omega, by simp; omega, rfl⟩
   · split at h
     · cases h
     · rename_i m o' f' a1 hx
       obtain ⟨_, ⟨b3, b4⟩, b5, b6, b7, b8, b9⟩ := lnU_spec hL hx ho hf
       obtain ⟨_, _, c1, _⟩ := lnU_le hx ho hf
       obtain ⟨l, e1, e2, e3, e4⟩ := lnsU_good hL n o' f' a1 _ mm a h b3 b4 (by omega)
       refine ⟨m :: l, by rw [e1]; simp, ?_, ?_, ?_⟩
       · rw [List.filter_cons]
         split
         · rename_i hm
           rw [if_pos hm] at b5
           rw [List.length_cons]; omega
         · rename_i hm
           rw [if_neg hm] at b5
           omega
       · rw [List.filter_cons]
         split
         · rename_i hm
           rw [if_pos hm] at b6
           rw [List.length_cons]; omega
         · rename_i hm
           rw [if_neg hm] at b6
           omega
       · rw [fieldsT, e4, okAt, b8, b7, Bool.and_true, Bool.true_and, Bool.true_and]
         rcases b9 with b9 | ⟨b9, b10⟩
         · rw [b9]; rfl
         · have h1 : (isO m && l.any isO) = false := by
             cases hm : isO m with
             | false => rfl
             | true => rw [any_len (by have := b9 hm; omega)]; rfl
           have h2 : (isN m && l.any isN) = false := by
             cases hm : isN m with
             | false => rfl
             | true => rw [any_len (by have := b10 hm; omega)]; rfl
           rw [h1, h2]; simp
theorem pick_O (l : List Mk) : (pickT 45 l).length = (l.filter isO).length := by
 unfold pickT isO
 rw [List.length_map]
 congr 2
 funext m
 rw [Bool.or_comm]
theorem pick_N (l : List Mk) : (pickT 43 l).length = (l.filter isN).length := by
 unfold pickT isN
 rw [List.length_map]
 congr 2
 funext m
 rw [Bool.or_comm]
theorem hkU_ok : HkOk hkU where
 le := by
   intro L ahead k h a e
   unfold hkU at e
   split at e
   · cases e
   · rename_i s a1 e1
     obtain ⟨rfl, hlt, _⟩ := nextL_le e1
     split at e
     · cases e
     · rename_i c hc
       split at e
       · cases e
       · split at e
         · cases e
         · split at e
           · cases e
           · rename_i ms a2 e2
             obtain ⟨d1, d2, d3, d4⟩ := hdU_bd hc
             obtain ⟨b1, b2, b3⟩ := lnsU_le _ _ _ _ _ _ _ e2 d2.1 d4.1 (by omega)
             split at e
             · simp only [Except.ok.injEq, Prod.mk.injEq] at e
               obtain ⟨rfl, rfl⟩ := e
               simp only [List.length_nil] at b3
               dsimp only
               omega
             · cases e
 adv := by
   intro L ahead k h a hk e
   unfold hkU at e
   split at e
   · cases e
   · rename_i s a1 e1
     obtain ⟨rfl, hlt, _⟩ := nextL_le e1
     split at e
     · cases e
     · rename_i c hc
       split at e
       · cases e
       · split at e
         · cases e
         · split at e
           · cases e
           · rename_i ms a2 e2
             obtain ⟨d1, d2, d3, d4⟩ := hdU_bd hc
             obtain ⟨b1, b2, b3⟩ := lnsU_le _ _ _ _ _ _ _ e2 d2.1 d4.1 (by omega)
             split at e
             · simp only [Except.ok.injEq, Prod.mk.injEq] at e
               obtain ⟨rfl, rfl⟩ := e
               simp only [List.length_nil] at b3
               dsimp only
               omega
             · cases e
 err := by
   intro L ahead k a e h
   unfold hkU at h
   split at h
   · rename_i x hx; cases h; exact (nx_next_err 0 hx).2.2
   · split at h
     · cases h; decide
     · split at h
       · cases h; decide
       · split at h
         · cases h; decide
         · split at h
           · rename_i x hx; cases h; exact lnsU_err _ _ _ _ _ _ _ hx
           · split at h
             · cases h
             · cases h; decide
 good := by
   intro L ahead k h a hL e
   unfold hkU at e
   split at e
   · cases e
   · split at e
     · cases e
     · rename_i c hc
       split at e
       · cases e
       · split at e
         · cases e
         · rename_i hr
           split at e
           · cases e
           · rename_i ms a2 e2
             split at e
             · rename_i hch
               obtain ⟨d1, d2, d3, d4⟩ := hdU_bd hc
               obtain ⟨l, e3, e4, e5, e6⟩ := lnsU_good hL _ _ _ _ _ _ _ e2 d2.1 d4.1 (by omega)
               rw [List.nil_append] at e3
               subst e3
               simp only [Except.ok.injEq, Prod.mk.injEq] at e
               obtain ⟨rfl, rfl⟩ := e
               unfold chkH hkChk
               dsimp only
               rw [cnt_inN d1, cnt_inN d2, cnt_inN d3, cnt_inN d4, pick_O, pick_N, e6, hch, if_neg, if_neg (by decide), if_neg (by omega), if_neg (by decide)]
               simp only [Bool.true_eq_false, false_or]
               omega
             · cases e
 sz := by
   intro L ahead k h a hL e
   unfold hkU at e
   split at e
   · cases e
   · split at e
     · cases e
     · split at e
       · cases e
       · split at e
         · cases e
         · split at e
           · cases e
           · rename_i ms a2 e2
             split at e
             · simp only [Except.ok.injEq, Prod.mk.injEq] at e
               obtain ⟨rfl, rfl⟩ := e
               exact lnsU_sz hL _ _ _ _ _ _ _ e2 (by simp)
             · cases e
end Go.Proofs.YtlghobefhmpfkaaGreatDoor
namespace Go.Proofs.YtlghobefhmpfkaaGreatDoor
open Go Go.Ev
set_option maxRecDepth 100000
theorem dig_of {c : UInt8} (h : 48 ≤ c.toNat ∧ c.toNat ≤ 57) : dig c = true := by simp only [dig, Bool.and_eq_true, decide_eq_true_eq]; omega
theorem digit_nat (k : Nat) (h : k < 10) : (UInt8.ofNat (48 + k)).toNat = 48 + k := by
 simp [UInt8.toNat_ofNat']; omega
theorem dec_all : ∀ u : Nat, (Lib.decDigits u).all dig = true := by
 intro u
 induction u using Nat.strongRecOn with
 | _ u ih =>
   by_cases h : u < 10
   · rw [dec_small h]
     simp only [List.all_cons, List.all_nil, Bool.and_true]
     exact dig_of (by rw [digit_nat _ (by omega)]; omega)
   · rw [dec_big h, List.all_append, ih (u / 10) (by omega)]
     simp only [List.all_cons, List.all_nil, Bool.and_true, Bool.true_and]
     exact dig_of (by rw [digit_nat _ (by omega)]; omega)
theorem dec_val : ∀ u : Nat, valT (Lib.decDigits u) = u := by
 intro u
 induction u using Nat.strongRecOn with
 | _ u ih =>
   by_cases h : u < 10
   · rw [dec_small h]
     simp only [valT, List.foldl_cons, List.foldl_nil]
     rw [digit_nat _ (by omega)]; omega
   · rw [dec_big h, val_app, ih (u / 10) (by omega), digit_nat _ (by omega)]; omega
theorem dec_ne (u : Nat) : Lib.decDigits u ≠ [] := by
 by_cases h : u < 10
 · rw [dec_small h]; simp
 · rw [dec_big h]; simp
theorem dec_head : ∀ u : Nat, 1 ≤ u → (Lib.decDigits u).getD 0 0 ≠ 48 := by
 intro u
 induction u using Nat.strongRecOn with
 | _ u ih =>
   intro h1
   by_cases h : u < 10
   · rw [dec_small h]
     simp only [List.getD_cons_zero]
     intro e
     have := congrArg UInt8.toNat e
     rw [digit_nat _ (by omega), show (48 : UInt8).toNat = 48 from rfl] at this
     omega
   · rw [dec_big h]
     have hi := ih (u / 10) (by omega) (by omega)
     cases e : Lib.decDigits (u / 10) with
     | nil => exact absurd e (dec_ne _)
     | cons c r => rw [e] at hi; exact hi
theorem dec_good (u : Nat) : ¬ badP (Lib.decDigits u) := by
 rintro (h | ⟨h1, h2⟩)
 · exact dec_ne u h
 · by_cases h : u < 10
   · rw [dec_small h] at h1; simp at h1
   · exact dec_head u (by omega) h2
theorem parse_text (n : Int) : parseS (Lib.itoa n) = if n < 0 then (0, 3) else if 2147483647 < n then (0, 2) else (n, 0) := by
 unfold Lib.itoa
 by_cases h : n < 0
 · rw [if_pos h, if_pos h]
   unfold parseS
   by_cases hb : badP (45 :: Lib.decDigits n.natAbs)
   · rw [if_pos hb]
   · rw [if_neg hb, if_pos]
     rfl
 · rw [if_neg h, if_neg h]
   unfold parseS
   rw [if_neg (dec_good _), if_neg (by rw [dec_all]; decide), dec_val]
   by_cases k : 2147483647 < n
   · rw [if_pos k, if_pos (by omega)]
   · rw [if_neg k, if_neg (by omega)]
     congr 1
     omega
end Go.Proofs.YtlghobefhmpfkaaGreatDoor
namespace Go.Proofs.YtlghobefhmpfkaaGreatDoor
open Go Go.Ev
set_option maxRecDepth 100000
variable {G : World → Prop}
def uLn (m : Mk) : List UInt8 := lineT [UInt8.ofNat m.1.toNat] m.2
def uHd (A AN B BN : Int) : List UInt8 := [64, 64, 32, 45] ++ cntT A AN ++ [32, 43] ++ cntT B BN ++ [32, 64, 64, 10]
def uHk (h : Hk) : List UInt8 := uHd h.1.1 h.1.2.1 h.1.2.2.1 h.1.2.2.2 ++ h.2.flatMap uLn
def uTop (o n : List UInt8) : List UInt8 := [45, 45, 45, 32] ++ nameS o ++ [10, 43, 43, 43, 32] ++ nameS n ++ [10]
def uPt (o n : List UInt8) (l : List Hk) : List UInt8 := if l = [] then [] else uTop o n ++ l.flatMap uHk
theorem uHk_snoc {l : List Hk} {i : Nat} (h : i < l.length) : (l.take (i + 1)).flatMap uHk = (l.take i).flatMap uHk ++ uHk (l.getD i hk0) := by
 rw [hk_take h, List.flatMap_append]; simp
theorem uHk_le (l : List Hk) (i : Nat) : ((l.take i).flatMap uHk).length ≤ (l.flatMap uHk).length := by
 conv => rhs; rw [← List.take_append_drop i l, List.flatMap_append, List.length_append]
 exact Nat.le_add_right _ _
theorem uLn_snoc {l : List Mk} {i : Nat} (h : i < l.length) : (l.take (i + 1)).flatMap uLn = (l.take i).flatMap uLn ++ uLn (l.getD i mk0) := by
 rw [mk_take h, List.flatMap_append]; simp
theorem uLn_le (l : List Mk) (i : Nat) : ((l.take i).flatMap uLn).length ≤ (l.flatMap uLn).length := by
 conv => rhs; rw [← List.take_append_drop i l, List.flatMap_append, List.length_append]
 exact Nat.le_add_right _ _
theorem chk_ok {A AN B BN : Int} {l : List Mk} (h : hkChk A AN B BN l = 0) : (0 ≤ A ∧ A ≤ 2147483647) ∧ (0 ≤ AN ∧ AN ≤ 2147483647) ∧ (0 ≤ B ∧ B ≤ 2147483647) ∧ (0 ≤ BN ∧ BN ≤ 2147483647) ∧ fieldsT l = true := by
 unfold hkChk at h
 split at h
 · cases h
 · rename_i hn
   split at h
   · cases h
   · rename_i hf
     have k : ∀ n, ¬ cntB n = false → 0 ≤ n ∧ n ≤ 2147483647 := fun n h => cnt_true (by simpa using h)
     exact ⟨k A fun e => hn (.inl (.inl (.inl (.inl (.inl e))))), k AN fun e => hn (.inl (.inl (.inl (.inl (.inr e))))), k B fun e => hn (.inl (.inl (.inl (.inr e)))), k BN fun e => hn (.inl (.inl (.inr e))), by simpa using hf⟩
theorem sign_ok : ∀ {l : List Mk}, fieldsT l = true → ∀ m ∈ l, m.1 = 32 ∨ m.1 = 45 ∨ m.1 = 43
 | m :: r, h, x, hx => by
   simp only [fieldsT, Bool.and_eq_true] at h
   rcases List.mem_cons.1 hx with rfl | hx
   · have := h.1
     simp only [okAt, isO, isN, Bool.and_eq_true, Bool.or_eq_true, decide_eq_true_eq] at this
     rcases this.1.2 with (e | e) | (e | e)
     · exact .inl e
     · exact .inr (.inl e)
     · exact .inl e
     · exact .inr (.inr e)
   · exact sign_ok h.2 x hx
def CUPrint : Contract := pureC fun args => match args with
 | [.agg [.d (.v (.string o)), .d (.v (.string n)), .d (.sl rows)]] => (unHk rows).map fun l => (smH l ∧ (uPt o.data.toList n.data.toList l).length ≤ 70368744177664,
     .tup [.d (.v (str (if wrongT o.data.toList n.data.toList l = 0 then uPt o.data.toList n.data.toList l else []))), .d (.v (.int .i64 (wrongT o.data.toList n.data.toList l)))])
 | _ => none
end Go.Proofs.YtlghobefhmpfkaaGreatDoor
