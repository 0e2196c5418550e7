/- EdfmtRuns: any text is run as commands over any lines, or refused with the line and the reason Part 4 of 5. -/
import Derived.Test.YtlghobefhmpfkaaGreatDoorProg
import Derived.WalkKit
import Derived.RowKitTokens
import Derived.Laws.CopyOwn
import Derived.Laws.MakeOwn
import Derived.Lib.Hide
import Derived.RecoverIn
import Derived.Below
import Derived.Test.YtlghobefhmpfkaaGreatDoorEp1
import Derived.Test.YtlghobefhmpfkaaGreatDoorEp2
import Derived.Test.YtlghobefhmpfkaaGreatDoorEp3
set_option linter.unusedVariables false
namespace Go.Proofs.YtlghobefhmpfkaaGreatDoor
open Go Go.Ev
set_option maxRecDepth 100000
def A4 : Ann := ⟨fun r i => if r = 1 ∧ i = 5 then 1 else if r = 6 ∧ i = 7 then 1 else 0, fun r => if r = 6 then some [(0, true, []), (2, true, []), (1, false, []), (3, true, []), (4, true, []), (5, true, []), (6, true, []), (7, false, []), (8, true, []), (9, true, [])] else none, fun r => if r = 1 then some (false, [0, 1]) else if r = 3 then some (false, [0, 1]) else if r = 4 then some (false, [0, 1, 5]) else if r = 5 then some (false, [0, 1, 5, 6, 7]) else if r = 6 then some (false, [1, 5, 6, 7, 8, 9]) else if r = 9 then some (false, [1, 5, 6, 10]) else if r = 10 then some (false, [1, 5, 6, 10]) else if r = 11 then some (false, [1, 5, 6, 10]) else if r = 12 then some (false, [1, 5]) else none, fun r => if r = 9 then [1, 5, 6, 10] else []⟩
def S4 : SCode :=
  (.seq (.ops [⟨none, (some 4), .mv 4 (.k (Value.bool false)), false⟩])
  (.seq (.seq (.seq (.keep [0, 1]) (.ops [⟨none, (some 11), .mv 11 (.s 0), false⟩,
    ⟨none, (some 12), .lens 12 (.s 11), false⟩,
    ⟨none, (some 13), .bin 13 .gtr (.s 12) (.k (Value.int .i64 200000)), false⟩,
    ⟨none, (some 14), .mv 14 (.s 13), false⟩,
    ⟨(some (14, true)), (some 15), .mv 15 (.s 0), false⟩,
    ⟨(some (14, true)), (some 16), .lens 16 (.s 15), false⟩,
    ⟨(some (14, true)), (some 17), .bin 17 .leq (.s 16) (.k (Value.int .i64 1048576)), false⟩,
    ⟨none, (some 18), .pk 18 (.s 14) (.s 17) (.k (Value.bool false)), false⟩]))
  (.cond (.s 18) (.seq (.ops [⟨none, (some 4), .mv 4 (.k (Value.bool true)), false⟩])
  .ret) .skip))
  (.seq (.seq (.keep [0, 1]) (.ops [⟨none, (some 19), .bs 19 9 1 [], false⟩,
    ⟨none, (some 20), .mv 20 (.s 1), false⟩,
    ⟨none, (some 21), .ap 21 9 1 16 (.s 19) (.s 20), false⟩,
    ⟨none, (some 5), .mv 5 (.s 21), false⟩]))
  (.seq (.seq (.keep [0, 1, 5]) (.ops [⟨none, (some 23), .mv 23 (.s 0), false⟩,
    ⟨none, (some 24), .mv 24 (.s 5), false⟩,
    ⟨none, (some 25), .call (some 25) 15 false [(.s 23), (.s 24)], false⟩,
    ⟨none, (some 22), .mv 22 (.s 25), false⟩,
    ⟨none, (some 26), .ex 26 (.s 22) 0, false⟩,
    ⟨none, (some 27), .ex 27 (.s 22) 1, false⟩,
    ⟨none, (some 6), .mv 6 (.s 26), false⟩,
    ⟨none, (some 7), .mv 7 (.s 27), false⟩]))
  (.seq (.seq (.keep [0, 1, 5, 6, 7]) (.ops [⟨none, (some 29), .mv 29 (.s 0), false⟩,
    ⟨none, (some 30), .mv 30 (.s 1), false⟩,
    ⟨none, (some 31), .call (some 31) 16 false [(.s 29), (.s 30)], false⟩,
    ⟨none, (some 28), .mv 28 (.s 31), false⟩,
    ⟨none, (some 32), .ex 32 (.s 28) 0, false⟩,
    ⟨none, (some 33), .ex 33 (.s 28) 1, false⟩,
    ⟨none, (some 9), .al 9 29 [(Value.int .i64 0), (Value.int .i64 0)], false⟩,
    ⟨none, (some 8), .mv 8 (.s 32), false⟩,
    ⟨none, none, .st true 2 (.s 9) (.s 33), false⟩]))
  (.seq (.seq (.seq (.keep [1, 5, 6, 7, 8, 9]) (.dr [([], true, ⟨none, (some 34), .mv 34 (.s 7), false⟩),
    ([], true, ⟨none, (some 36), .ld 36 true 2 (.s 9), false⟩),
    ([], false, ⟨none, (some 35), .call (some 35) 13 false [(.s 34)], false⟩),
    ([], true, ⟨none, (some 37), .eqa 37 true [0, 0] (.s 35) (.s 36), false⟩),
    ([], true, ⟨none, (some 38), .mv 38 (.s 37), false⟩),
    ([], true, ⟨(some (38, false)), (some 39), .mv 39 (.s 6), false⟩),
    ([], true, ⟨(some (38, false)), (some 40), .mv 40 (.s 8), false⟩),
    ([], false, ⟨(some (38, false)), (some 41), .call (some 41) 14 true [(.s 39), (.s 40)], false⟩),
    ([], true, ⟨(some (38, false)), (some 42), .not 42 (.s 41), false⟩),
    ([], true, ⟨none, (some 43), .pk 43 (.s 38) (.k (Value.bool true)) (.s 42), true⟩)]))
  (.cond (.s 43) (.seq (.ops [⟨none, (some 4), .mv 4 (.k (Value.bool false)), false⟩])
  .ret) .skip))
  (.seq (.seq (.ops [⟨none, (some 10), .mv 10 (.k (Value.int .i64 0)), false⟩])
  (.block 0 (.loop [1, 5, 6, 10] (.seq (.seq (.seq (.keep [1, 5, 6, 10]) (.ops [⟨none, (some 44), .mv 44 (.s 10), false⟩,
    ⟨none, (some 45), .mv 45 (.s 6), false⟩,
    ⟨none, (some 46), .len 46 (.s 45), false⟩,
    ⟨none, (some 47), .bin 47 .lss (.s 44) (.s 46), false⟩]))
  (.cond (.s 47) .skip (.exit 0)))
  (.seq (.block 1 (.seq (.keep [1, 5, 6, 10]) (.ops [⟨none, (some 50), .mv 50 (.s 6), false⟩,
    ⟨none, (some 51), .mv 51 (.s 10), false⟩,
    ⟨none, (some 52), .ia 52 1 (.s 50) (.s 51), false⟩,
    ⟨none, none, .st false 1 (.s 52) (.k (Value.string ⟨#[115, 112, 111, 105, 108, 116]⟩)), false⟩])))
  (.seq (.keep [1, 5, 6, 10]) (.ops [⟨none, (some 48), .mv 48 (.s 10), false⟩,
    ⟨none, (some 49), .binc 49 .add (.s 48) (.k (Value.int .i64 1)), false⟩,
    ⟨none, (some 10), .mv 10 (.s 49), false⟩])))))))
  (.seq (.seq (.keep [1, 5]) (.ops [⟨none, (some 53), .mv 53 (.s 5), false⟩,
    ⟨none, (some 54), .mv 54 (.s 1), false⟩,
    ⟨none, (some 55), .call (some 55) 14 false [(.s 53), (.s 54)], false⟩,
    ⟨none, (some 4), .mv 4 (.s 55), false⟩]))
  .ret))))))))
theorem cc4 : (Tryz.f4.body).bind (cc Tryz.prog Tryz.f4.ntmps A4) = some S4 := by kernel_rfl
def R4 : List RR := [.sl 4]
theorem cr4 : Tryz.f4.results.toList.map (crr Tryz.prog) = R4.map some := by kernel_rfl
theorem nm4 : (Tryz.f4.name == "runtime.NumGoroutine") = false := by kernel_rfl
theorem fn4 : Tryz.prog.funcs[4]? = some Tryz.f4 := by kernel_rfl
theorem bd4 : ∃ b, Tryz.f4.body = some b ∧ cc Tryz.prog Tryz.f4.ntmps A4 b = some S4 := Option.bind_eq_some_iff.1 cc4
theorem sd4 {G : World → Prop} {T : FuncId → Contract} {C : Contract} (hT : ∀ f, Sound G Tryz.prog f (T f)) (hl : C.lawful) (hC : ∀ args st K, C.wp args st K → args.length ≤ 56 ∧ ∃ os op, xv T st.n S4 (st0 args st) (retK R4 st.n os K) (panK st.n op K)) (hit : SoundIt G Tryz.prog 4 C.it := by exact SoundIt.none) : Sound G Tryz.prog 4 C := by
  obtain ⟨b, hb, hc⟩ := bd4
  rw [xv_eq] at hC
  exact sound_of_ev mo fn4 hb nm4 hc cr4 hT hl hit hC
def A15 : Ann := ⟨fun r i => if r = 4 ∧ i = 3 then 11 else if r = 23 ∧ i = 8 then 1 else 0, fun r => if r = 15 then some [(0, true, []), (1, true, []), (2, true, []), (4, true, []), (5, true, []), (6, true, []), (3, true, []), (7, true, []), (8, true, []), (9, true, []), (10, true, []), (11, true, [])] else if r = 13 then some [(0, true, []), (1, true, []), (2, true, []), (4, true, []), (5, true, []), (6, true, []), (3, true, []), (7, true, []), (8, true, []), (9, true, []), (10, true, [])] else if r = 12 then some [(0, true, []), (1, true, []), (2, true, []), (4, true, []), (5, true, []), (6, true, []), (3, true, []), (7, true, []), (8, true, []), (9, true, [])] else none, fun r => if r = 1 then some (false, [0, 1, 4, 5]) else if r = 2 then some (false, [4, 5]) else if r = 4 then some (false, [0, 1, 4, 5]) else if r = 5 then some (false, [1, 4, 5, 6]) else if r = 7 then some (false, [4, 5, 6, 25, 26, 27]) else if r = 8 then some (false, [4, 5, 6, 8, 25, 26, 27]) else if r = 9 then some (false, [4, 5, 6, 9, 25, 26, 27]) else if r = 12 then some (false, [4, 5, 6, 11]) else if r = 13 then some (false, [4, 5, 6, 11]) else if r = 15 then some (false, [4, 5, 6]) else if r = 17 then some (false, [4, 5, 6, 11]) else if r = 19 then some (false, [4, 5, 6, 11]) else if r = 20 then some (false, [4, 5, 6, 11]) else if r = 23 then some (false, [4, 5, 6, 11, 12, 103, 104]) else if r = 24 then some (false, [4, 5, 6, 11, 12, 103, 104]) else if r = 26 then some (false, [4, 5, 6]) else none, fun r => if r = 6 then [4, 5, 6, 25, 26, 27] else if r = 12 then [4, 5, 6, 11] else if r = 21 then [4, 5, 6, 11, 103, 104] else []⟩
def S15 : SCode :=
  (.seq (.seq (.keep [0, 1, 4, 5]) (.ops [⟨none, (some 21), .mv 21 (.s 0), false⟩,
    ⟨none, (some 22), .call (some 22) 34 false [(.s 21)], false⟩,
    ⟨none, (some 23), .bd 23 [(Value.slice none 0 0), (Value.int .i64 0), (Value.slice none 0 0), (Value.int .i64 0)] [(1, 1, (.k (Value.int .i64 (-1)))), (2, 1, (.s 22))], false⟩,
    ⟨none, (some 24), .bxn 24 87 4 (.s 23) 0 9 1, false⟩,
    ⟨none, (some 6), .mv 6 (.s 24), false⟩]))
  (.seq (.seq (.seq (.keep [1, 4, 5, 6]) (.ops [⟨none, (some 25), .mv 25 (.s 1), false⟩,
    ⟨none, (some 26), .len 26 (.s 25), false⟩,
    ⟨none, (some 27), .mv 27 (.k (Value.int .i64 0)), false⟩]))
  (.block 0 (.loop [4, 5, 6, 25, 26, 27] (.seq (.ops [⟨none, (some 28), .bin 28 .lss (.s 27) (.s 26), false⟩])
  (.seq (.cond (.s 28) .skip (.exit 0))
  (.seq (.block 1 (.seq (.seq (.keep [4, 5, 6, 25, 26, 27]) (.ops [⟨none, (some 29), .ia 29 1 (.s 25) (.s 27), false⟩,
    ⟨none, (some 30), .ld 30 false 1 (.s 29), false⟩,
    ⟨none, (some 8), .mv 8 (.s 30), false⟩]))
  (.seq (.seq (.keep [4, 5, 6, 8, 25, 26, 27]) (.ops [⟨none, (some 32), .mv 32 (.s 8), false⟩,
    ⟨none, (some 33), .call (some 33) 18 false [(.s 32)], false⟩,
    ⟨none, (some 31), .mv 31 (.s 33), false⟩,
    ⟨none, (some 34), .ex 34 (.s 31) 0, false⟩,
    ⟨none, (some 35), .ex 35 (.s 31) 1, false⟩,
    ⟨none, (some 9), .mv 9 (.s 34), false⟩,
    ⟨none, (some 10), .mv 10 (.s 35), false⟩]))
  (.seq (.keep [4, 5, 6, 9, 25, 26, 27]) (.ops [⟨none, (some 36), .mv 36 (.s 6), false⟩,
    ⟨none, (some 37), .mv 37 (.s 6), false⟩,
    ⟨none, (some 38), .nc 38 (.s 37), false⟩,
    ⟨none, (some 39), .fa 39 0 (.s 38), false⟩,
    ⟨none, (some 40), .ld 40 false 1 (.s 39), false⟩,
    ⟨none, (some 41), .mv 41 (.s 9), false⟩,
    ⟨none, (some 42), .bs 42 9 1 [(.s 41)], false⟩,
    ⟨none, (some 43), .ap 43 9 1 16 (.s 40) (.s 42), false⟩,
    ⟨none, (some 44), .nc 44 (.s 36), false⟩,
    ⟨none, (some 45), .fa 45 0 (.s 44), true⟩,
    ⟨none, none, .st false 1 (.s 45) (.s 43), false⟩])))))
  (.ops [⟨none, (some 46), .binc 46 .add (.s 27) (.k (Value.int .i64 1)), false⟩,
    ⟨none, (some 27), .mv 27 (.s 46), false⟩])))))))
  (.seq (.ops [⟨none, (some 11), .mv 11 (.k (Value.bool false)), false⟩])
  (.seq (.block 2 (.loop [4, 5, 6, 11] (.seq (.seq (.seq (.keep [4, 5, 6, 11]) (.dr [([], true, ⟨none, (some 47), .mv 47 (.s 6), false⟩),
    ([], true, ⟨none, (some 48), .nc 48 (.s 47), false⟩),
    ([], true, ⟨none, (some 49), .fa 49 3 (.s 48), false⟩),
    ([], true, ⟨none, (some 51), .mv 51 (.s 6), false⟩),
    ([], true, ⟨none, (some 52), .nc 52 (.s 51), false⟩),
    ([], true, ⟨none, (some 53), .fa 53 2 (.s 52), false⟩),
    ([], true, ⟨none, (some 50), .ld 50 false 1 (.s 49), false⟩),
    ([], true, ⟨none, (some 54), .ld 54 false 1 (.s 53), false⟩),
    ([], true, ⟨none, (some 55), .len 55 (.s 54), false⟩),
    ([], true, ⟨none, (some 56), .bin 56 .lss (.s 50) (.s 55), true⟩)]))
  (.cond (.s 56) .skip (.exit 2)))
  (.block 3 (.seq (.seq (.seq (.keep [4, 5, 6, 11]) (.dr [([], true, ⟨none, (some 57), .mv 57 (.s 6), false⟩),
    ([], true, ⟨none, (some 58), .nc 58 (.s 57), false⟩),
    ([], true, ⟨none, (some 59), .fa 59 2 (.s 58), false⟩),
    ([], true, ⟨none, (some 61), .mv 61 (.s 6), false⟩),
    ([], true, ⟨none, (some 62), .nc 62 (.s 61), false⟩),
    ([], true, ⟨none, (some 63), .fa 63 3 (.s 62), false⟩),
    ([], true, ⟨none, (some 60), .ld 60 false 1 (.s 59), false⟩),
    ([], true, ⟨none, (some 64), .ld 64 false 1 (.s 63), false⟩),
    ([], true, ⟨none, (some 65), .ia 65 1 (.s 60) (.s 64), false⟩),
    ([], true, ⟨none, (some 66), .ld 66 false 1 (.s 65), true⟩),
    ([], true, ⟨none, (some 67), .bin 67 .neq (.s 66) (.k (Value.string ⟨#[92, 32, 78, 111, 32, 110, 101, 119, 108, 105, 110, 101, 32, 97, 116, 32, 101, 110, 100, 32, 111, 102, 32, 102, 105, 108, 101, 10]⟩)), false⟩)]))
  (.cond (.s 67) (.seq (.ops [⟨none, (some 68), .mv 68 (.s 6), false⟩,
    ⟨none, (some 69), .call (some 69) 47 false [(.s 68)], false⟩])
  (.exit 3)) .skip))
  (.seq (.seq (.seq (.keep [4, 5, 6]) (.dr [([], true, ⟨none, (some 70), .mv 70 (.s 6), false⟩),
    ([], true, ⟨none, (some 71), .nc 71 (.s 70), false⟩),
    ([], true, ⟨none, (some 72), .fa 72 3 (.s 71), false⟩),
    ([], true, ⟨none, (some 74), .mv 74 (.s 6), false⟩),
    ([], true, ⟨none, (some 75), .nc 75 (.s 74), false⟩),
    ([], true, ⟨none, (some 76), .fa 76 2 (.s 75), false⟩),
    ([], true, ⟨none, (some 73), .ld 73 false 1 (.s 72), false⟩),
    ([], true, ⟨none, (some 77), .ld 77 false 1 (.s 76), false⟩),
    ([], true, ⟨none, (some 78), .len 78 (.s 77), false⟩),
    ([], true, ⟨none, (some 79), .binc 79 .sub (.s 78) (.k (Value.int .i64 1)), true⟩),
    ([], true, ⟨none, (some 80), .bin 80 .eql (.s 73) (.s 79), false⟩),
    ([], true, ⟨none, (some 11), .mv 11 (.s 80), false⟩)]))
  (.seq (.ops [⟨none, (some 81), .mv 81 (.s 11), false⟩,
    ⟨none, (some 82), .not 82 (.s 81), false⟩])
  (.cond (.s 82) (.seq (.seq (.keep [4, 5, 6, 11]) (.ops [⟨none, (some 83), .mv 83 (.s 6), false⟩,
    ⟨none, (some 84), .nc 84 (.s 83), false⟩,
    ⟨none, (some 85), .fa 85 3 (.s 84), false⟩,
    ⟨none, (some 86), .ld 86 false 1 (.s 85), false⟩,
    ⟨none, (some 87), .binc 87 .add (.s 86) (.k (Value.int .i64 2)), false⟩,
    ⟨none, (some 88), .nc 88 (.s 83), false⟩,
    ⟨none, (some 89), .fa 89 3 (.s 88), false⟩,
    ⟨none, none, .st false 1 (.s 89) (.s 87), false⟩]))
  (.ops [⟨none, (some 90), .mv 90 (.s 6), false⟩,
    ⟨none, (some 91), .call (some 91) 48 false [(.s 90), (.k (Value.int .i64 7))], false⟩])) .skip)))
  (.seq (.keep [4, 5, 6, 11]) (.ops [⟨none, (some 92), .mv 92 (.s 6), false⟩,
    ⟨none, (some 93), .nc 93 (.s 92), false⟩,
    ⟨none, (some 94), .fa 94 3 (.s 93), false⟩,
    ⟨none, (some 95), .ld 95 false 1 (.s 94), false⟩,
    ⟨none, (some 96), .binc 96 .add (.s 95) (.k (Value.int .i64 1)), false⟩,
    ⟨none, (some 97), .nc 97 (.s 92), false⟩,
    ⟨none, (some 98), .fa 98 3 (.s 97), false⟩,
    ⟨none, none, .st false 1 (.s 98) (.s 96), false⟩]))))))))
  (.seq (.seq (.seq (.keep [4, 5, 6, 11]) (.ops [⟨none, (some 99), .mv 99 (.s 6), false⟩,
    ⟨none, (some 100), .nc 100 (.s 99), false⟩,
    ⟨none, (some 101), .fa 101 0 (.s 100), false⟩,
    ⟨none, (some 102), .ld 102 false 1 (.s 101), false⟩,
    ⟨none, (some 103), .len 103 (.s 102), false⟩,
    ⟨none, (some 104), .mv 104 (.k (Value.int .i64 0)), false⟩]))
  (.block 4 (.loop [4, 5, 6, 11, 103, 104] (.seq (.ops [⟨none, (some 105), .bin 105 .lss (.s 104) (.s 103), false⟩])
  (.seq (.cond (.s 105) .skip (.exit 4))
  (.seq (.block 5 (.seq (.ops [⟨none, (some 106), .mv 106 (.s 104), false⟩,
    ⟨none, (some 12), .mv 12 (.s 106), false⟩])
  (.seq (.seq (.keep [4, 5, 6, 11, 12, 103, 104]) (.ops [⟨none, (some 107), .mv 107 (.s 11), false⟩,
    ⟨none, (some 108), .not 108 (.s 107), false⟩,
    ⟨none, (some 109), .mv 109 (.s 108), false⟩,
    ⟨(some (109, false)), (some 110), .mv 110 (.s 12), false⟩,
    ⟨(some (109, false)), (some 111), .mv 111 (.s 6), false⟩,
    ⟨(some (109, false)), (some 112), .nc 112 (.s 111), false⟩,
    ⟨(some (109, false)), (some 113), .fa 113 0 (.s 112), false⟩,
    ⟨(some (109, false)), (some 114), .ld 114 false 1 (.s 113), false⟩,
    ⟨(some (109, false)), (some 115), .len 115 (.s 114), false⟩,
    ⟨(some (109, false)), (some 116), .binc 116 .sub (.s 115) (.k (Value.int .i64 1)), true⟩,
    ⟨(some (109, false)), (some 117), .bin 117 .lss (.s 110) (.s 116), false⟩,
    ⟨none, (some 118), .pk 118 (.s 109) (.k (Value.bool true)) (.s 117), false⟩]))
  (.cond (.s 118) (.seq (.keep [4, 5, 6, 11, 12, 103, 104]) (.ops [⟨none, (some 119), .mv 119 (.s 6), false⟩,
    ⟨none, (some 120), .nc 120 (.s 119), false⟩,
    ⟨none, (some 121), .fa 121 0 (.s 120), false⟩,
    ⟨none, (some 122), .ld 122 false 1 (.s 121), false⟩,
    ⟨none, (some 123), .mv 123 (.s 12), false⟩,
    ⟨none, (some 124), .ia 124 1 (.s 122) (.s 123), false⟩,
    ⟨none, (some 125), .ld 125 false 1 (.s 124), false⟩,
    ⟨none, (some 126), .bin 126 .add (.s 125) (.k (Value.string ⟨#[10]⟩)), false⟩,
    ⟨none, (some 127), .ia 127 1 (.s 122) (.s 123), false⟩,
    ⟨none, none, .st false 1 (.s 127) (.s 126), true⟩])) .skip))))
  (.ops [⟨none, (some 128), .binc 128 .add (.s 104) (.k (Value.int .i64 1)), false⟩,
    ⟨none, (some 104), .mv 104 (.s 128), false⟩])))))))
  (.seq (.seq (.keep [4, 5, 6]) (.ops [⟨none, (some 129), .mv 129 (.s 6), false⟩,
    ⟨none, (some 130), .nc 130 (.s 129), false⟩,
    ⟨none, (some 131), .fa 131 0 (.s 130), false⟩,
    ⟨none, (some 132), .ld 132 false 1 (.s 131), false⟩,
    ⟨none, none, .st false 1 (.s 4) (.s 132), false⟩,
    ⟨none, none, .st false 1 (.s 5) (.k Value.nilIface), false⟩]))
  .ret))))))
def SP15 : List SCode := [(.ops [⟨none, (some 4), .al 4 22 [(Value.slice none 0 0)], false⟩,
    ⟨none, (some 5), .al 5 24 [Value.nilIface], false⟩]),
  (.seq (.seq (.keep [0, 1, 4, 5]) (.ops [⟨none, (some 13), .mv 13 (.s 0), false⟩,
    ⟨none, (some 14), .lens 14 (.s 13), false⟩,
    ⟨none, (some 15), .bin 15 .gtr (.s 14) (.k (Value.int .i64 1048576)), false⟩]))
  (.cond (.s 15) (.seq (.seq (.keep [4, 5]) (.ops [⟨none, (some 16), .mi 16 27 (.k (Value.int .i64 9)), false⟩,
    ⟨none, (some 17), .bd 17 [(Value.int .i64 0), Value.nilIface] [(1, 1, (.s 16))], false⟩,
    ⟨none, (some 18), .bx 18 83 2 (.s 17), false⟩,
    ⟨none, (some 19), .mi 19 79 (.s 18), false⟩,
    ⟨none, none, .st false 1 (.s 4) (.k (Value.slice none 0 0)), false⟩,
    ⟨none, none, .st false 1 (.s 5) (.s 19), false⟩]))
  .ret) .skip))]
theorem cc15 : (Tryz.f15.body).bind (ccD Tryz.prog Tryz.f15.ntmps A15) = some (SP15, S15, 20, 46, [(.s 4), (.s 5)]) := by kernel_rfl
def R15 : List RR := [.ce 4 false 1, .ce 5 false 1]
theorem cr15 : Tryz.f15.results.toList.map (crr Tryz.prog) = R15.map some := by kernel_rfl
theorem nm15 : (Tryz.f15.name == "runtime.NumGoroutine") = false := by kernel_rfl
theorem fn15 : Tryz.prog.funcs[15]? = some Tryz.f15 := by kernel_rfl
theorem bd15 : ∃ b, Tryz.f15.body = some b ∧ ccD Tryz.prog Tryz.f15.ntmps A15 b = some (SP15, S15, 20, 46, [(.s 4), (.s 5)]) := Option.bind_eq_some_iff.1 cc15
theorem sd15 {G : World → Prop} {T : FuncId → Contract} {D : DCon} {C : Contract} (hT : ∀ f, Sound G Tryz.prog f (T f)) (hD : SoundD G Tryz.prog 46 D) (hl : C.lawful) (hC : ∀ args st K, C.wp args st K → args.length ≤ 133 ∧ ∃ os, xvs T st.n (endK R15 st.n os K) SP15 (fun st1 => xv T st1.n S15 (st1.put 20 (.fn 46 (([(.s 4), (.s 5)] : List Rv).map fun x => x.get st1))) (defE D R15 st.n os K (([(.s 4), (.s 5)] : List Rv).map fun x => x.get st1)) (fun x s => defK D R15 st.n os K (some x) (([(.s 4), (.s 5)] : List Rv).map fun x => x.get st1) s)) (st0 args st)) (hit : SoundIt G Tryz.prog 15 C.it := by exact SoundIt.none) : Sound G Tryz.prog 15 C := by
  obtain ⟨b, hb, hc⟩ := bd15
  rw [xvs_eq, xv_eq] at hC
  exact sound_of_ccD mo fn15 hb nm15 hc cr15 hT hD hl hit hC
def A47 : Ann := ⟨fun _ _ => 0, fun r => if r = 7 then some [(0, true, [1, 3000, 4000]), (1, true, [1, 3000, 4000]), (2, true, [1, 3000, 4000]), (3, true, [1, 3000, 4000]), (6, true, []), (4, true, [1, 3000, 4000]), (5, true, [1, 3000, 4000]), (7, false, [1, 3000, 4000]), (8, false, [0, 1, 2, 3, 4, 5, 6, 7, 8, 9, 10, 11, 12, 13, 14, 15])] else if r = 8 then some [(0, true, []), (1, true, []), (2, true, []), (4, true, []), (5, true, []), (6, true, []), (8, true, []), (9, true, []), (10, true, []), (12, true, []), (13, true, []), (14, true, []), (3, true, []), (7, true, []), (11, true, []), (15, true, []), (16, true, []), (17, true, []), (18, true, []), (19, true, []), (20, false, [0, 1, 2, 3, 4, 5, 6, 7, 8, 9, 10, 11, 12, 13, 14, 15])] else if r = 4 then some [(0, true, []), (1, true, []), (2, true, []), (3, true, []), (4, true, []), (5, true, []), (6, true, []), (7, true, []), (8, true, []), (9, true, []), (10, true, []), (11, true, []), (13, true, []), (14, true, []), (15, true, []), (12, true, []), (16, true, []), (17, true, []), (18, true, []), (19, true, []), (20, true, []), (21, true, [])] else none, fun r => if r = 1 then some (false, [0, 2]) else if r = 3 then some (false, [0, 2]) else if r = 4 then some (false, [0, 2]) else if r = 7 then some (false, [0]) else if r = 8 then some (false, [0]) else if r = 9 then some (false, [0, 2]) else if r = 10 then some (false, [0, 2, 3]) else if r = 12 then some (false, [0, 2, 3]) else if r = 15 then some (false, [0, 4, 5]) else if r = 16 then some (false, [0, 4, 5, 6]) else none, fun _ => []⟩
def S47_0 : SCode :=
  (.ops [⟨none, (some 7), .mv 7 (.s 0), false⟩,
    ⟨none, (some 8), .call (some 8) 95 false [(.s 7)], false⟩,
    ⟨none, (some 2), .mv 2 (.s 8), false⟩])
def S47_1 : SCode :=
  (.block 0 (.seq (.seq (.keep [0, 2]) (.ops [⟨none, (some 10), .mv 10 (.s 2), false⟩,
    ⟨none, (some 11), .bin 11 .eql (.s 10) (.k (Value.string ⟨#[]⟩)), false⟩,
    ⟨none, (some 9), .mv 9 (.s 11), false⟩]))
  (.cond (.s 9) (.ops [⟨none, (some 12), .mv 12 (.s 0), false⟩,
    ⟨none, (some 13), .call (some 13) 48 false [(.s 12), (.k (Value.int .i64 3))], false⟩]) (.seq (.seq (.keep [0, 2]) (.ops [⟨none, (some 15), .mv 15 (.s 2), false⟩,
    ⟨none, (some 16), .bin 16 .eql (.s 15) (.k (Value.string ⟨#[97]⟩)), false⟩,
    ⟨none, (some 17), .mv 17 (.s 16), false⟩,
    ⟨(some (17, false)), (some 18), .mv 18 (.s 2), false⟩,
    ⟨(some (17, false)), (some 19), .bin 19 .eql (.s 18) (.k (Value.string ⟨#[115, 47, 46, 47, 47]⟩)), false⟩,
    ⟨none, (some 20), .pk 20 (.s 17) (.k (Value.bool true)) (.s 19), false⟩,
    ⟨none, (some 14), .mv 14 (.s 20), false⟩]))
  (.cond (.s 14) (.seq (.seq (.seq (.keep [0, 2]) (.dr [([], true, ⟨none, (some 21), .mv 21 (.s 0), false⟩),
    ([], true, ⟨none, (some 22), .nc 22 (.s 21), false⟩),
    ([], true, ⟨none, (some 23), .fa 23 1 (.s 22), false⟩),
    ([], true, ⟨none, (some 24), .ld 24 false 1 (.s 23), false⟩),
    ([], true, ⟨none, (some 25), .bin 25 .eql (.s 24) (.k (Value.int .i64 (-1))), false⟩),
    ([], true, ⟨none, (some 26), .mv 26 (.s 25), false⟩),
    ([], true, ⟨(some (26, false)), (some 27), .mv 27 (.s 2), false⟩),
    ([], true, ⟨(some (26, false)), (some 28), .bin 28 .eql (.s 27) (.k (Value.string ⟨#[115, 47, 46, 47, 47]⟩)), false⟩),
    ([], true, ⟨(some (26, false)), (some 29), .mv 29 (.s 28), false⟩),
    ([], true, ⟨(some (29, true)), (some 30), .mv 30 (.s 0), true⟩),
    ([], true, ⟨(some (29, true)), (some 31), .nc 31 (.s 30), false⟩),
    ([], true, ⟨(some (29, true)), (some 32), .fa 32 0 (.s 31), false⟩),
    ([], true, ⟨(some (29, true)), (some 34), .mv 34 (.s 0), false⟩),
    ([], true, ⟨(some (29, true)), (some 35), .nc 35 (.s 34), false⟩),
    ([], true, ⟨(some (29, true)), (some 36), .fa 36 1 (.s 35), false⟩),
    ([], true, ⟨(some (29, true)), (some 33), .ld 33 false 1 (.s 32), false⟩),
    ([], true, ⟨(some (29, true)), (some 37), .ld 37 false 1 (.s 36), false⟩),
    ([], true, ⟨(some (29, true)), (some 38), .ia 38 1 (.s 33) (.s 37), false⟩),
    ([], true, ⟨(some (29, true)), (some 39), .ld 39 false 1 (.s 38), false⟩),
    ([], true, ⟨(some (29, true)), (some 40), .bin 40 .eql (.s 39) (.k (Value.string ⟨#[]⟩)), true⟩),
    ([], true, ⟨(some (26, false)), (some 41), .pk 41 (.s 29) (.s 40) (.k (Value.bool false)), false⟩),
    ([], true, ⟨none, (some 42), .pk 42 (.s 26) (.k (Value.bool true)) (.s 41), false⟩)]))
  (.cond (.s 42) (.ops [⟨none, (some 43), .mv 43 (.s 0), false⟩,
    ⟨none, (some 44), .call (some 44) 48 false [(.s 43), (.k (Value.int .i64 130))], false⟩]) .skip))
  (.seq (.seq (.ops [⟨none, (some 45), .mv 45 (.s 2), false⟩,
    ⟨none, (some 46), .bin 46 .eql (.s 45) (.k (Value.string ⟨#[97]⟩)), false⟩])
  (.cond (.s 46) (.seq (.keep [0]) (.dr [([1, 3000, 4000], true, ⟨none, (some 47), .mv 47 (.s 0), false⟩),
    ([1, 3000, 4000], true, ⟨none, (some 48), .mv 48 (.s 0), false⟩),
    ([1, 3000, 4000], true, ⟨none, (some 49), .nc 49 (.s 48), false⟩),
    ([1, 3000, 4000], true, ⟨none, (some 50), .fa 50 1 (.s 49), false⟩),
    ([], true, ⟨none, (some 53), .mv 53 (.s 0), false⟩),
    ([1, 3000, 4000], true, ⟨none, (some 51), .ld 51 false 1 (.s 50), false⟩),
    ([1, 3000, 4000], true, ⟨none, (some 52), .binc 52 .add (.s 51) (.k (Value.int .i64 1)), false⟩),
    ([1, 3000, 4000], false, ⟨none, (some 54), .call (some 54) 97 false [(.s 53)], false⟩),
    ([0, 1, 2, 3, 4, 5, 6, 7, 8, 9, 10, 11, 12, 13, 14, 15], false, ⟨none, (some 55), .call (some 55) 96 false [(.s 47), (.s 52), (.k (Value.int .i64 0)), (.s 54)], false⟩)])) (.seq (.keep [0]) (.dr [([], true, ⟨none, (some 56), .mv 56 (.s 0), false⟩),
    ([], true, ⟨none, (some 57), .nc 57 (.s 56), false⟩),
    ([], true, ⟨none, (some 58), .fa 58 0 (.s 57), false⟩),
    ([], true, ⟨none, (some 60), .mv 60 (.s 0), false⟩),
    ([], true, ⟨none, (some 61), .nc 61 (.s 60), false⟩),
    ([], true, ⟨none, (some 62), .fa 62 1 (.s 61), false⟩),
    ([], true, ⟨none, (some 64), .mv 64 (.s 0), false⟩),
    ([], true, ⟨none, (some 65), .nc 65 (.s 64), true⟩),
    ([], true, ⟨none, (some 66), .fa 66 0 (.s 65), false⟩),
    ([], true, ⟨none, (some 68), .mv 68 (.s 0), false⟩),
    ([], true, ⟨none, (some 69), .nc 69 (.s 68), false⟩),
    ([], true, ⟨none, (some 70), .fa 70 1 (.s 69), false⟩),
    ([], true, ⟨none, (some 59), .ld 59 false 1 (.s 58), false⟩),
    ([], true, ⟨none, (some 63), .ld 63 false 1 (.s 62), false⟩),
    ([], true, ⟨none, (some 67), .ld 67 false 1 (.s 66), false⟩),
    ([], true, ⟨none, (some 71), .ld 71 false 1 (.s 70), false⟩),
    ([], true, ⟨none, (some 72), .ia 72 1 (.s 67) (.s 71), false⟩),
    ([], true, ⟨none, (some 73), .ld 73 false 1 (.s 72), false⟩),
    ([], true, ⟨none, (some 74), .sls 74 (.s 73) (some (.k (Value.int .i64 1))) none, false⟩),
    ([], true, ⟨none, (some 75), .ia 75 1 (.s 59) (.s 63), true⟩),
    ([0, 1, 2, 3, 4, 5, 6, 7, 8, 9, 10, 11, 12, 13, 14, 15], false, ⟨none, none, .st false 1 (.s 75) (.s 74), false⟩)]))))
  .ret)) .skip)))))
def S47_2 : SCode :=
  (.seq (.keep [0, 2]) (.ops [⟨none, (some 76), .mv 76 (.s 2), false⟩,
    ⟨none, (some 77), .mv 77 (.s 2), false⟩,
    ⟨none, (some 78), .lens 78 (.s 77), false⟩,
    ⟨none, (some 79), .binc 79 .sub (.s 78) (.k (Value.int .i64 1)), false⟩,
    ⟨none, (some 80), .ixs 80 (.s 76) (.s 79), false⟩,
    ⟨none, (some 3), .mv 3 (.s 80), false⟩]))
def S47_3 : SCode :=
  (.seq (.seq (.keep [0, 2, 3]) (.ops [⟨none, (some 81), .mv 81 (.s 3), false⟩,
    ⟨none, (some 82), .bin 82 .neq (.s 81) (.k (Value.int .u8 97)), false⟩,
    ⟨none, (some 83), .mv 83 (.s 82), false⟩,
    ⟨(some (83, true)), (some 84), .mv 84 (.s 3), false⟩,
    ⟨(some (83, true)), (some 85), .bin 85 .neq (.s 84) (.k (Value.int .u8 99)), false⟩,
    ⟨none, (some 86), .pk 86 (.s 83) (.s 85) (.k (Value.bool false)), false⟩,
    ⟨none, (some 87), .mv 87 (.s 86), false⟩,
    ⟨(some (87, true)), (some 88), .mv 88 (.s 3), false⟩,
    ⟨(some (87, true)), (some 89), .bin 89 .neq (.s 88) (.k (Value.int .u8 100)), false⟩,
    ⟨none, (some 90), .pk 90 (.s 87) (.s 89) (.k (Value.bool false)), true⟩]))
  (.cond (.s 90) (.ops [⟨none, (some 91), .mv 91 (.s 0), false⟩,
    ⟨none, (some 92), .call (some 92) 48 false [(.s 91), (.k (Value.int .i64 3))], false⟩]) .skip))
def S47_4 : SCode :=
  (.seq (.keep [0, 2, 3]) (.ops [⟨none, (some 94), .mv 94 (.s 0), false⟩,
    ⟨none, (some 95), .mv 95 (.s 2), false⟩,
    ⟨none, (some 96), .mv 96 (.s 2), false⟩,
    ⟨none, (some 97), .lens 97 (.s 96), false⟩,
    ⟨none, (some 98), .binc 98 .sub (.s 97) (.k (Value.int .i64 1)), false⟩,
    ⟨none, (some 99), .sls 99 (.s 95) none (some (.s 98)), false⟩,
    ⟨none, (some 100), .mv 100 (.s 3), false⟩,
    ⟨none, (some 101), .call (some 101) 98 false [(.s 94), (.s 99), (.s 100)], false⟩,
    ⟨none, (some 93), .mv 93 (.s 101), false⟩,
    ⟨none, (some 102), .ex 102 (.s 93) 0, true⟩,
    ⟨none, (some 103), .ex 103 (.s 93) 1, false⟩,
    ⟨none, (some 4), .mv 4 (.s 102), false⟩,
    ⟨none, (some 5), .mv 5 (.s 103), false⟩]))
def S47_5 : SCode :=
  (.ops [⟨none, (some 6), .mv 6 (.k (Value.slice none 0 0)), false⟩])
def S47_6 : SCode :=
  (.seq (.ops [⟨none, (some 104), .mv 104 (.s 3), false⟩,
    ⟨none, (some 105), .bin 105 .neq (.s 104) (.k (Value.int .u8 100)), false⟩])
  (.cond (.s 105) (.seq (.keep [0, 4, 5]) (.ops [⟨none, (some 106), .mv 106 (.s 0), false⟩,
    ⟨none, (some 107), .call (some 107) 97 false [(.s 106)], false⟩,
    ⟨none, (some 6), .mv 6 (.s 107), false⟩])) .skip))
def S47_7 : SCode :=
  (.keep [0, 4, 5, 6])
def S47r8 : SCode := (.ops [⟨none, (some 108), .mv 108 (.s 0), false⟩,
    ⟨none, (some 109), .mv 109 (.s 4), false⟩,
    ⟨none, (some 110), .mv 110 (.s 5), false⟩,
    ⟨none, (some 111), .mv 111 (.s 6), false⟩,
    ⟨none, (some 112), .call (some 112) 96 false [(.s 108), (.s 109), (.s 110), (.s 111)], false⟩])
def S47r7 : SCode := .seq S47_7 S47r8
def S47r6 : SCode := .seq S47_6 S47r7
def S47r5 : SCode := .seq S47_5 S47r6
def S47r4 : SCode := .seq S47_4 S47r5
def S47r3 : SCode := .seq S47_3 S47r4
def S47r2 : SCode := .seq S47_2 S47r3
def S47r1 : SCode := .seq S47_1 S47r2
def S47 : SCode := .seq S47_0 S47r1
theorem cc47 : (Tryz.f47.body).bind (cc Tryz.prog Tryz.f47.ntmps A47) = some S47 := by kernel_rfl
def R47 : List RR := []
theorem cr47 : Tryz.f47.results.toList.map (crr Tryz.prog) = R47.map some := by kernel_rfl
theorem nm47 : (Tryz.f47.name == "runtime.NumGoroutine") = false := by kernel_rfl
theorem fn47 : Tryz.prog.funcs[47]? = some Tryz.f47 := by kernel_rfl
theorem bd47 : ∃ b, Tryz.f47.body = some b ∧ cc Tryz.prog Tryz.f47.ntmps A47 b = some S47 := Option.bind_eq_some_iff.1 cc47
theorem sd47 {G : World → Prop} {T : FuncId → Contract} {C : Contract} (hT : ∀ f, Sound G Tryz.prog f (T f)) (hl : C.lawful) (hC : ∀ args st K, C.wp args st K → args.length ≤ 113 ∧ ∃ os op, xv T st.n S47 (st0 args st) (retK R47 st.n os K) (panK st.n op K)) (hit : SoundIt G Tryz.prog 47 C.it := by exact SoundIt.none) : Sound G Tryz.prog 47 C := by
  obtain ⟨b, hb, hc⟩ := bd47
  rw [xv_eq] at hC
  exact sound_of_ev mo fn47 hb nm47 hc cr47 hT hl hit hC
def A98 : Ann := ⟨fun _ _ => 0, fun _ => none, fun r => if r = 1 then some (false, [0, 1, 2]) else if r = 2 then some (false, [0, 2, 8, 9, 10]) else if r = 4 then some (false, [0, 10, 11, 12]) else if r = 6 then some (false, [0, 11]) else if r = 8 then some (false, [11]) else if r = 12 then some (false, [0, 9, 11, 12]) else if r = 13 then some (false, [0, 11, 12, 13, 14]) else if r = 15 then some (false, [0, 11, 12, 13]) else if r = 17 then some (false, [0, 11, 13]) else if r = 19 then some (false, [11, 13]) else none, fun _ => []⟩
def S98 : SCode :=
  (.seq (.ops [⟨none, (some 6), .mv 6 (.k (Value.int .i64 0)), false⟩,
    ⟨none, (some 7), .mv 7 (.k (Value.int .i64 0)), false⟩])
  (.seq (.seq (.keep [0, 1, 2]) (.ops [⟨none, (some 16), .mv 16 (.s 1), false⟩,
    ⟨none, (some 17), .call (some 17) 85 false [(.s 16), (.k (Value.string ⟨#[44]⟩))], false⟩,
    ⟨none, (some 15), .mv 15 (.s 17), false⟩,
    ⟨none, (some 18), .ex 18 (.s 15) 0, false⟩,
    ⟨none, (some 19), .ex 19 (.s 15) 1, false⟩,
    ⟨none, (some 20), .ex 20 (.s 15) 2, false⟩,
    ⟨none, (some 8), .mv 8 (.s 18), false⟩,
    ⟨none, (some 9), .mv 9 (.s 19), false⟩,
    ⟨none, (some 10), .mv 10 (.s 20), false⟩]))
  (.seq (.seq (.keep [0, 2, 8, 9, 10]) (.ops [⟨none, (some 22), .mv 22 (.s 8), false⟩,
    ⟨none, (some 23), .call (some 23) 86 false [(.s 22)], false⟩,
    ⟨none, (some 21), .mv 21 (.s 23), false⟩,
    ⟨none, (some 24), .ex 24 (.s 21) 0, false⟩,
    ⟨none, (some 25), .ex 25 (.s 21) 1, false⟩,
    ⟨none, (some 11), .mv 11 (.s 24), false⟩,
    ⟨none, (some 12), .mv 12 (.s 25), false⟩]))
  (.seq (.seq (.ops [⟨none, (some 26), .mv 26 (.s 2), false⟩,
    ⟨none, (some 27), .bin 27 .eql (.s 26) (.k (Value.int .u8 97)), false⟩])
  (.cond (.s 27) (.seq (.seq (.seq (.keep [0, 10, 11, 12]) (.ops [⟨none, (some 28), .mv 28 (.s 10), false⟩,
    ⟨none, (some 29), .mv 29 (.s 28), false⟩,
    ⟨(some (29, false)), (some 30), .mv 30 (.s 12), false⟩,
    ⟨(some (29, false)), (some 31), .bin 31 .neq (.s 30) (.k (Value.int .i64 0)), false⟩,
    ⟨none, (some 32), .pk 32 (.s 29) (.k (Value.bool true)) (.s 31), false⟩]))
  (.cond (.s 32) (.ops [⟨none, (some 33), .mv 33 (.s 0), false⟩,
    ⟨none, (some 34), .call (some 34) 48 false [(.s 33), (.k (Value.int .i64 3))], false⟩]) .skip))
  (.seq (.seq (.seq (.keep [0, 11]) (.ops [⟨none, (some 35), .mv 35 (.s 11), false⟩,
    ⟨none, (some 36), .mv 36 (.s 0), false⟩,
    ⟨none, (some 37), .nc 37 (.s 36), false⟩,
    ⟨none, (some 38), .fa 38 0 (.s 37), false⟩,
    ⟨none, (some 39), .ld 39 false 1 (.s 38), false⟩,
    ⟨none, (some 40), .len 40 (.s 39), false⟩,
    ⟨none, (some 41), .bin 41 .gtr (.s 35) (.s 40), false⟩]))
  (.cond (.s 41) (.ops [⟨none, (some 42), .mv 42 (.s 0), false⟩,
    ⟨none, (some 43), .call (some 43) 48 false [(.s 42), (.k (Value.int .i64 2))], false⟩]) .skip))
  (.seq (.seq (.keep [11]) (.ops [⟨none, (some 44), .mv 44 (.s 11), false⟩,
    ⟨none, (some 6), .mv 6 (.s 44), false⟩,
    ⟨none, (some 7), .mv 7 (.k (Value.int .i64 0)), false⟩]))
  .ret))) .skip))
  (.seq (.ops [⟨none, (some 45), .mv 45 (.s 11), false⟩,
    ⟨none, (some 13), .mv 13 (.s 45), false⟩])
  (.seq (.seq (.ops [⟨none, (some 46), .mv 46 (.s 10), false⟩])
  (.cond (.s 46) (.seq (.ops [⟨none, (some 14), .mv 14 (.k (Value.int .i64 0)), false⟩])
  (.seq (.seq (.keep [0, 9, 11, 12]) (.ops [⟨none, (some 48), .mv 48 (.s 9), false⟩,
    ⟨none, (some 49), .call (some 49) 86 false [(.s 48)], false⟩,
    ⟨none, (some 47), .mv 47 (.s 49), false⟩,
    ⟨none, (some 50), .ex 50 (.s 47) 0, false⟩,
    ⟨none, (some 51), .ex 51 (.s 47) 1, false⟩,
    ⟨none, (some 13), .mv 13 (.s 50), false⟩,
    ⟨none, (some 14), .mv 14 (.s 51), false⟩]))
  (.seq (.seq (.keep [0, 11, 12, 13, 14]) (.ops [⟨none, (some 52), .mv 52 (.s 14), false⟩,
    ⟨none, (some 53), .bin 53 .neq (.s 52) (.k (Value.int .i64 0)), false⟩,
    ⟨none, (some 54), .mv 54 (.s 53), false⟩,
    ⟨(some (54, false)), (some 55), .mv 55 (.s 13), false⟩,
    ⟨(some (54, false)), (some 56), .mv 56 (.s 11), false⟩,
    ⟨(some (54, false)), (some 57), .bin 57 .leq (.s 55) (.s 56), false⟩,
    ⟨none, (some 58), .pk 58 (.s 54) (.k (Value.bool true)) (.s 57), false⟩]))
  (.cond (.s 58) (.ops [⟨none, (some 59), .mv 59 (.s 0), false⟩,
    ⟨none, (some 60), .call (some 60) 48 false [(.s 59), (.k (Value.int .i64 3))], false⟩]) .skip)))) .skip))
  (.seq (.seq (.seq (.keep [0, 11, 12, 13]) (.ops [⟨none, (some 61), .mv 61 (.s 12), false⟩,
    ⟨none, (some 62), .bin 62 .neq (.s 61) (.k (Value.int .i64 0)), false⟩,
    ⟨none, (some 63), .mv 63 (.s 62), false⟩,
    ⟨(some (63, false)), (some 64), .mv 64 (.s 11), false⟩,
    ⟨(some (63, false)), (some 65), .bin 65 .eql (.s 64) (.k (Value.int .i64 0)), false⟩,
    ⟨none, (some 66), .pk 66 (.s 63) (.k (Value.bool true)) (.s 65), false⟩]))
  (.cond (.s 66) (.ops [⟨none, (some 67), .mv 67 (.s 0), false⟩,
    ⟨none, (some 68), .call (some 68) 48 false [(.s 67), (.k (Value.int .i64 3))], false⟩]) .skip))
  (.seq (.seq (.seq (.keep [0, 11, 13]) (.ops [⟨none, (some 69), .mv 69 (.s 13), false⟩,
    ⟨none, (some 70), .mv 70 (.s 0), false⟩,
    ⟨none, (some 71), .nc 71 (.s 70), false⟩,
    ⟨none, (some 72), .fa 72 0 (.s 71), false⟩,
    ⟨none, (some 73), .ld 73 false 1 (.s 72), false⟩,
    ⟨none, (some 74), .len 74 (.s 73), false⟩,
    ⟨none, (some 75), .bin 75 .gtr (.s 69) (.s 74), false⟩]))
  (.cond (.s 75) (.ops [⟨none, (some 76), .mv 76 (.s 0), false⟩,
    ⟨none, (some 77), .call (some 77) 48 false [(.s 76), (.k (Value.int .i64 2))], false⟩]) .skip))
  (.seq (.seq (.keep [11, 13]) (.ops [⟨none, (some 78), .mv 78 (.s 11), false⟩,
    ⟨none, (some 79), .binc 79 .sub (.s 78) (.k (Value.int .i64 1)), false⟩,
    ⟨none, (some 80), .mv 80 (.s 13), false⟩,
    ⟨none, (some 81), .mv 81 (.s 11), false⟩,
    ⟨none, (some 82), .binc 82 .sub (.s 80) (.s 81), false⟩,
    ⟨none, (some 83), .binc 83 .add (.s 82) (.k (Value.int .i64 1)), false⟩,
    ⟨none, (some 6), .mv 6 (.s 79), false⟩,
    ⟨none, (some 7), .mv 7 (.s 83), false⟩]))
  .ret)))))))))
theorem cc98 : (Tryz.f98.body).bind (cc Tryz.prog Tryz.f98.ntmps A98) = some S98 := by kernel_rfl
def R98 : List RR := [.sl 6, .sl 7]
theorem cr98 : Tryz.f98.results.toList.map (crr Tryz.prog) = R98.map some := by kernel_rfl
theorem nm98 : (Tryz.f98.name == "runtime.NumGoroutine") = false := by kernel_rfl
theorem fn98 : Tryz.prog.funcs[98]? = some Tryz.f98 := by kernel_rfl
theorem bd98 : ∃ b, Tryz.f98.body = some b ∧ cc Tryz.prog Tryz.f98.ntmps A98 b = some S98 := Option.bind_eq_some_iff.1 cc98
theorem sd98 {G : World → Prop} {T : FuncId → Contract} {C : Contract} (hT : ∀ f, Sound G Tryz.prog f (T f)) (hl : C.lawful) (hC : ∀ args st K, C.wp args st K → args.length ≤ 84 ∧ ∃ os op, xv T st.n S98 (st0 args st) (retK R98 st.n os K) (panK st.n op K)) (hit : SoundIt G Tryz.prog 98 C.it := by exact SoundIt.none) : Sound G Tryz.prog 98 C := by
  obtain ⟨b, hb, hc⟩ := bd98
  rw [xv_eq] at hC
  exact sound_of_ev mo fn98 hb nm98 hc cr98 hT hl hit hC
def A97 : Ann := ⟨fun r i => if r = 1 ∧ i = 0 then 11 else 0, fun _ => none, fun r => if r = 2 then some (false, [0, 3]) else if r = 5 then some (false, [0, 3, 4]) else none, fun r => if r = 2 then [0, 3] else []⟩
def S97 : SCode :=
  (.seq (.ops [⟨none, (some 2), .mv 2 (.k (Value.slice none 0 0)), false⟩])
  (.seq (.ops [⟨none, (some 3), .nr 3 9 1, false⟩])
  (.block 0 (.loop [0, 3] (.block 1 (.seq (.seq (.keep [0, 3]) (.ops [⟨none, (some 5), .mv 5 (.s 0), false⟩,
    ⟨none, (some 6), .call (some 6) 95 false [(.s 5)], false⟩,
    ⟨none, (some 4), .mv 4 (.s 6), false⟩]))
  (.seq (.seq (.ops [⟨none, (some 7), .mv 7 (.s 4), false⟩,
    ⟨none, (some 8), .bin 8 .eql (.s 7) (.k (Value.string ⟨#[46]⟩)), false⟩])
  (.cond (.s 8) (.seq (.ops [⟨none, (some 9), .mv 9 (.s 3), false⟩,
    ⟨none, (some 2), .mv 2 (.s 9), false⟩])
  .ret) .skip))
  (.seq (.keep [0, 3, 4]) (.ops [⟨none, (some 10), .mv 10 (.s 3), false⟩,
    ⟨none, (some 11), .mv 11 (.s 4), false⟩,
    ⟨none, (some 12), .bs 12 9 1 [(.s 11)], false⟩,
    ⟨none, (some 13), .ap 13 9 1 16 (.s 10) (.s 12), false⟩,
    ⟨none, (some 3), .mv 3 (.s 13), false⟩])))))))))
theorem cc97 : (Tryz.f97.body).bind (cc Tryz.prog Tryz.f97.ntmps A97) = some S97 := by kernel_rfl
def R97 : List RR := [.sl 2]
theorem cr97 : Tryz.f97.results.toList.map (crr Tryz.prog) = R97.map some := by kernel_rfl
theorem nm97 : (Tryz.f97.name == "runtime.NumGoroutine") = false := by kernel_rfl
theorem fn97 : Tryz.prog.funcs[97]? = some Tryz.f97 := by kernel_rfl
theorem bd97 : ∃ b, Tryz.f97.body = some b ∧ cc Tryz.prog Tryz.f97.ntmps A97 b = some S97 := Option.bind_eq_some_iff.1 cc97
theorem sd97 {G : World → Prop} {T : FuncId → Contract} {C : Contract} (hT : ∀ f, Sound G Tryz.prog f (T f)) (hl : C.lawful) (hC : ∀ args st K, C.wp args st K → args.length ≤ 14 ∧ ∃ os op, xv T st.n S97 (st0 args st) (retK R97 st.n os K) (panK st.n op K)) (hit : SoundIt G Tryz.prog 97 C.it := by exact SoundIt.none) : Sound G Tryz.prog 97 C := by
  obtain ⟨b, hb, hc⟩ := bd97
  rw [xv_eq] at hC
  exact sound_of_ev mo fn97 hb nm97 hc cr97 hT hl hit hC
def A95 : Ann := ⟨fun _ _ => 0, fun r => if r = 4 then some [(0, true, []), (1, true, []), (2, true, []), (4, true, []), (5, true, []), (6, true, []), (3, true, []), (7, true, []), (8, true, []), (9, true, []), (10, true, []), (11, false, [0, 1, 2, 3, 4, 5, 6, 7, 8, 9, 10, 11, 12, 13, 14, 15]), (12, true, []), (13, true, []), (14, true, []), (15, true, []), (16, true, [])] else if r = 2 then some [(0, true, []), (1, true, []), (2, true, []), (4, true, []), (5, true, []), (6, true, []), (3, true, []), (7, true, []), (8, true, []), (9, true, [])] else none, fun r => if r = 1 then some (false, [0]) else if r = 2 then some (false, [0]) else if r = 4 then some (false, [0]) else none, fun _ => []⟩
def S95 : SCode :=
  (.seq (.ops [⟨none, (some 2), .mv 2 (.k (Value.string ⟨#[]⟩)), false⟩])
  (.seq (.seq (.keep [0]) (.ops [⟨none, (some 5), .mv 5 (.s 0), false⟩,
    ⟨none, (some 6), .nc 6 (.s 5), false⟩,
    ⟨none, (some 7), .fa 7 3 (.s 6), false⟩,
    ⟨none, (some 8), .ld 8 false 1 (.s 7), false⟩,
    ⟨none, (some 9), .binc 9 .add (.s 8) (.k (Value.int .i64 1)), false⟩,
    ⟨none, (some 10), .nc 10 (.s 5), false⟩,
    ⟨none, (some 11), .fa 11 3 (.s 10), false⟩,
    ⟨none, none, .st false 1 (.s 11) (.s 9), false⟩]))
  (.seq (.seq (.seq (.keep [0]) (.dr [([], true, ⟨none, (some 12), .mv 12 (.s 0), false⟩),
    ([], true, ⟨none, (some 13), .nc 13 (.s 12), false⟩),
    ([], true, ⟨none, (some 14), .fa 14 3 (.s 13), false⟩),
    ([], true, ⟨none, (some 16), .mv 16 (.s 0), false⟩),
    ([], true, ⟨none, (some 17), .nc 17 (.s 16), false⟩),
    ([], true, ⟨none, (some 18), .fa 18 2 (.s 17), false⟩),
    ([], true, ⟨none, (some 15), .ld 15 false 1 (.s 14), false⟩),
    ([], true, ⟨none, (some 19), .ld 19 false 1 (.s 18), false⟩),
    ([], true, ⟨none, (some 20), .len 20 (.s 19), false⟩),
    ([], true, ⟨none, (some 21), .bin 21 .gtr (.s 15) (.s 20), true⟩)]))
  (.cond (.s 21) (.ops [⟨none, (some 22), .mv 22 (.s 0), false⟩,
    ⟨none, (some 23), .call (some 23) 48 false [(.s 22), (.k (Value.int .i64 1))], false⟩]) .skip))
  (.seq (.seq (.keep [0]) (.dr [([], true, ⟨none, (some 25), .mv 25 (.s 0), false⟩),
    ([], true, ⟨none, (some 26), .nc 26 (.s 25), false⟩),
    ([], true, ⟨none, (some 27), .fa 27 2 (.s 26), false⟩),
    ([], true, ⟨none, (some 29), .mv 29 (.s 0), false⟩),
    ([], true, ⟨none, (some 30), .nc 30 (.s 29), false⟩),
    ([], true, ⟨none, (some 31), .fa 31 3 (.s 30), false⟩),
    ([], true, ⟨none, (some 28), .ld 28 false 1 (.s 27), false⟩),
    ([], true, ⟨none, (some 32), .ld 32 false 1 (.s 31), false⟩),
    ([], true, ⟨none, (some 33), .binc 33 .sub (.s 32) (.k (Value.int .i64 1)), false⟩),
    ([], true, ⟨none, (some 34), .ia 34 1 (.s 28) (.s 33), true⟩),
    ([], true, ⟨none, (some 35), .ld 35 false 1 (.s 34), false⟩),
    ([0, 1, 2, 3, 4, 5, 6, 7, 8, 9, 10, 11, 12, 13, 14, 15], false, ⟨none, (some 36), .call (some 36) 18 false [(.s 35)], false⟩),
    ([], true, ⟨none, (some 24), .mv 24 (.s 36), false⟩),
    ([], true, ⟨none, (some 37), .ex 37 (.s 24) 0, false⟩),
    ([], true, ⟨none, (some 38), .ex 38 (.s 24) 1, false⟩),
    ([], true, ⟨none, (some 3), .mv 3 (.s 37), false⟩),
    ([], true, ⟨none, (some 4), .mv 4 (.s 38), false⟩)]))
  (.seq (.seq (.ops [⟨none, (some 39), .mv 39 (.s 4), false⟩,
    ⟨none, (some 40), .not 40 (.s 39), false⟩])
  (.cond (.s 40) (.ops [⟨none, (some 41), .mv 41 (.s 0), false⟩,
    ⟨none, (some 42), .call (some 42) 48 false [(.s 41), (.k (Value.int .i64 3))], false⟩]) .skip))
  (.seq (.ops [⟨none, (some 43), .mv 43 (.s 3), false⟩,
    ⟨none, (some 2), .mv 2 (.s 43), false⟩])
  .ret))))))
theorem cc95 : (Tryz.f95.body).bind (cc Tryz.prog Tryz.f95.ntmps A95) = some S95 := by kernel_rfl
def R95 : List RR := [.sl 2]
theorem cr95 : Tryz.f95.results.toList.map (crr Tryz.prog) = R95.map some := by kernel_rfl
theorem nm95 : (Tryz.f95.name == "runtime.NumGoroutine") = false := by kernel_rfl
theorem fn95 : Tryz.prog.funcs[95]? = some Tryz.f95 := by kernel_rfl
theorem bd95 : ∃ b, Tryz.f95.body = some b ∧ cc Tryz.prog Tryz.f95.ntmps A95 b = some S95 := Option.bind_eq_some_iff.1 cc95
theorem sd95 {G : World → Prop} {T : FuncId → Contract} {C : Contract} (hT : ∀ f, Sound G Tryz.prog f (T f)) (hl : C.lawful) (hC : ∀ args st K, C.wp args st K → args.length ≤ 44 ∧ ∃ os op, xv T st.n S95 (st0 args st) (retK R95 st.n os K) (panK st.n op K)) (hit : SoundIt G Tryz.prog 95 C.it := by exact SoundIt.none) : Sound G Tryz.prog 95 C := by
  obtain ⟨b, hb, hc⟩ := bd95
  rw [xv_eq] at hC
  exact sound_of_ev mo fn95 hb nm95 hc cr95 hT hl hit hC
def A48 : Ann := ⟨fun _ _ => 0, fun _ => none, fun _ => none, fun _ => []⟩
def S48 : SCode :=
  (.ops [⟨none, (some 4), .mv 4 (.s 0), false⟩,
    ⟨none, (some 5), .nc 5 (.s 4), false⟩,
    ⟨none, (some 6), .fa 6 3 (.s 5), false⟩,
    ⟨none, (some 7), .ld 7 false 1 (.s 6), false⟩,
    ⟨none, (some 8), .mv 8 (.s 1), false⟩,
    ⟨none, (some 9), .mi 9 27 (.s 8), false⟩,
    ⟨none, (some 10), .bd 10 [(Value.int .i64 0), Value.nilIface] [(0, 1, (.s 7)), (1, 1, (.s 9))], false⟩,
    ⟨none, (some 11), .bx 11 83 2 (.s 10), false⟩,
    ⟨none, (some 12), .mi 12 79 (.s 11), false⟩,
    ⟨none, none, .pn (.s 12), true⟩])
theorem cc48 : (Tryz.f48.body).bind (cc Tryz.prog Tryz.f48.ntmps A48) = some S48 := by kernel_rfl
def R48 : List RR := []
theorem cr48 : Tryz.f48.results.toList.map (crr Tryz.prog) = R48.map some := by kernel_rfl
theorem nm48 : (Tryz.f48.name == "runtime.NumGoroutine") = false := by kernel_rfl
theorem fn48 : Tryz.prog.funcs[48]? = some Tryz.f48 := by kernel_rfl
theorem bd48 : ∃ b, Tryz.f48.body = some b ∧ cc Tryz.prog Tryz.f48.ntmps A48 b = some S48 := Option.bind_eq_some_iff.1 cc48
theorem sd48 {G : World → Prop} {T : FuncId → Contract} {C : Contract} (hT : ∀ f, Sound G Tryz.prog f (T f)) (hl : C.lawful) (hC : ∀ args st K, C.wp args st K → args.length ≤ 13 ∧ ∃ os op, xv T st.n S48 (st0 args st) (retK R48 st.n os K) (panK st.n op K)) (hit : SoundIt G Tryz.prog 48 C.it := by exact SoundIt.none) : Sound G Tryz.prog 48 C := by
  obtain ⟨b, hb, hc⟩ := bd48
  rw [xv_eq] at hC
  exact sound_of_ev mo fn48 hb nm48 hc cr48 hT hl hit hC
def A16 : Ann := ⟨fun r i => if r = 2 ∧ i = 1 then 11 else if r = 22 ∧ i = 8 then 1 else 0, fun r => if r = 23 then some [(0, true, []), (1, true, []), (2, true, []), (4, true, []), (5, true, []), (6, true, []), (7, true, []), (9, true, []), (3, true, []), (8, true, []), (10, true, []), (11, true, []), (12, true, []), (13, true, []), (14, false, [0, 1, 2, 3, 4, 5, 6, 7, 8, 9, 10, 11, 12, 13, 14, 15])] else if r = 18 then some [(0, true, []), (1, true, []), (2, true, []), (4, true, []), (3, true, []), (5, false, [0, 1, 2, 3, 4, 5, 6, 7, 8, 9, 10, 11, 12, 13, 14, 15])] else if r = 10 then some [(0, true, []), (1, true, []), (2, true, []), (4, true, []), (5, true, []), (6, true, []), (3, true, []), (7, true, []), (8, true, []), (9, true, []), (10, true, [])] else none, fun r => if r = 1 then some (false, [0, 1, 5]) else if r = 2 then some (false, [1, 5, 6]) else if r = 4 then some (false, [1, 5, 6, 7, 8]) else if r = 5 then some (false, [1, 5, 6, 7, 8]) else if r = 6 then some (false, [1, 5, 6, 7, 8]) else if r = 7 then some (false, [1, 5, 6, 7, 8, 9]) else if r = 10 then some (false, [5, 6, 7, 11]) else if r = 11 then some (false, [5, 6, 7]) else if r = 14 then some (false, [5, 6, 7, 11]) else if r = 16 then some (false, [5, 6, 7, 11]) else if r = 17 then some (false, [5, 6, 7, 11]) else if r = 18 then some (false, [5, 6]) else if r = 20 then some (false, [5, 7, 11, 12]) else if r = 21 then some (false, [5, 7, 11, 12]) else if r = 22 then some (false, [5, 7, 11, 12]) else if r = 23 then some (false, [5, 7, 11, 12]) else if r = 24 then some (false, [5, 7]) else none, fun r => if r = 4 then [1, 5, 6, 7, 8] else if r = 9 then [5, 6, 7, 11] else if r = 20 then [5, 7, 11, 12] else []⟩
def S16_0 : SCode :=
  (.ops [⟨none, (some 4), .mv 4 (.k (Value.slice none 0 0)), false⟩,
    ⟨none, (some 5), .al 5 29 [(Value.int .i64 0), (Value.int .i64 0)], false⟩])
def S16_1 : SCode :=
  (.seq (.keep [0, 1, 5]) (.ops [⟨none, (some 13), .mv 13 (.s 0), false⟩,
    ⟨none, (some 14), .call (some 14) 39 false [(.s 13)], false⟩,
    ⟨none, (some 6), .mv 6 (.s 14), false⟩]))
def S16_2 : SCode :=
  (.seq (.keep [1, 5, 6]) (.ops [⟨none, (some 15), .bd 15 [(Value.slice none 0 0), (Value.int .i64 0)] [(1, 1, (.k (Value.int .i64 (-1))))], false⟩,
    ⟨none, (some 16), .bxn 16 90 2 (.s 15) 0 9 1, false⟩,
    ⟨none, (some 7), .mv 7 (.s 16), false⟩]))
def S16_3 : SCode :=
  (.seq (.ops [⟨none, (some 8), .mv 8 (.k (Value.int .i64 0)), false⟩])
  (.block 0 (.loop [1, 5, 6, 7, 8] (.seq (.seq (.seq (.keep [1, 5, 6, 7, 8]) (.ops [⟨none, (some 17), .mv 17 (.s 8), false⟩,
    ⟨none, (some 18), .mv 18 (.s 1), false⟩,
    ⟨none, (some 19), .len 19 (.s 18), false⟩,
    ⟨none, (some 20), .bin 20 .lss (.s 17) (.s 19), false⟩]))
  (.cond (.s 20) .skip (.exit 0)))
  (.seq (.block 1 (.seq (.seq (.keep [1, 5, 6, 7, 8]) (.ops [⟨none, (some 24), .mv 24 (.s 1), false⟩,
    ⟨none, (some 25), .mv 25 (.s 8), false⟩,
    ⟨none, (some 26), .ia 26 1 (.s 24) (.s 25), false⟩,
    ⟨none, (some 27), .ld 27 false 1 (.s 26), false⟩,
    ⟨none, (some 28), .call (some 28) 49 false [(.s 27)], false⟩,
    ⟨none, (some 23), .mv 23 (.s 28), false⟩,
    ⟨none, (some 29), .ex 29 (.s 23) 0, false⟩,
    ⟨none, (some 30), .ex 30 (.s 23) 1, false⟩,
    ⟨none, (some 9), .mv 9 (.s 29), false⟩,
    ⟨none, (some 10), .mv 10 (.s 30), true⟩]))
  (.seq (.keep [1, 5, 6, 7, 8, 9]) (.ops [⟨none, (some 31), .mv 31 (.s 7), false⟩,
    ⟨none, (some 32), .mv 32 (.s 7), false⟩,
    ⟨none, (some 33), .nc 33 (.s 32), false⟩,
    ⟨none, (some 34), .fa 34 0 (.s 33), false⟩,
    ⟨none, (some 35), .ld 35 false 1 (.s 34), false⟩,
    ⟨none, (some 36), .mv 36 (.s 9), false⟩,
    ⟨none, (some 37), .bs 37 9 1 [(.s 36)], false⟩,
    ⟨none, (some 38), .ap 38 9 1 16 (.s 35) (.s 37), false⟩,
    ⟨none, (some 39), .nc 39 (.s 31), false⟩,
    ⟨none, (some 40), .fa 40 0 (.s 39), true⟩,
    ⟨none, none, .st false 1 (.s 40) (.s 38), false⟩]))))
  (.seq (.keep [1, 5, 6, 7, 8]) (.ops [⟨none, (some 21), .mv 21 (.s 8), false⟩,
    ⟨none, (some 22), .binc 22 .add (.s 21) (.k (Value.int .i64 1)), false⟩,
    ⟨none, (some 8), .mv 8 (.s 22), false⟩])))))))
def S16_4 : SCode :=
  (.ops [⟨none, (some 11), .mv 11 (.k (Value.bool false)), false⟩])
def S16_5 : SCode :=
  (.block 2 (.loop [5, 6, 7, 11] (.seq (.seq (.ops [⟨none, (some 41), .mv 41 (.s 6), false⟩,
    ⟨none, (some 42), .call (some 42) 40 false [(.s 41)], false⟩])
  (.cond (.s 42) .skip (.exit 2)))
  (.block 3 (.seq (.seq (.seq (.keep [5, 6, 7, 11]) (.dr [([], true, ⟨none, (some 43), .mv 43 (.s 6), false⟩),
    ([], true, ⟨none, (some 44), .nc 44 (.s 43), false⟩),
    ([], true, ⟨none, (some 45), .fa 45 0 (.s 44), false⟩),
    ([], true, ⟨none, (some 47), .mv 47 (.s 6), false⟩),
    ([], true, ⟨none, (some 48), .nc 48 (.s 47), false⟩),
    ([], true, ⟨none, (some 49), .fa 49 1 (.s 48), false⟩),
    ([], true, ⟨none, (some 46), .ld 46 false 1 (.s 45), false⟩),
    ([], true, ⟨none, (some 50), .ld 50 false 1 (.s 49), false⟩),
    ([], true, ⟨none, (some 51), .ia 51 1 (.s 46) (.s 50), false⟩),
    ([], true, ⟨none, (some 52), .ld 52 false 1 (.s 51), true⟩),
    ([], true, ⟨none, (some 53), .bin 53 .eql (.s 52) (.k (Value.string ⟨#[92, 32, 78, 111, 32, 110, 101, 119, 108, 105, 110, 101, 32, 97, 116, 32, 101, 110, 100, 32, 111, 102, 32, 102, 105, 108, 101, 10]⟩)), false⟩)]))
  (.cond (.s 53) (.seq (.seq (.keep [5, 6, 7]) (.ops [⟨none, (some 54), .mv 54 (.s 6), false⟩,
    ⟨none, (some 55), .nc 55 (.s 54), false⟩,
    ⟨none, (some 56), .fa 56 1 (.s 55), false⟩,
    ⟨none, (some 57), .ld 57 false 1 (.s 56), false⟩,
    ⟨none, (some 58), .binc 58 .add (.s 57) (.k (Value.int .i64 1)), false⟩,
    ⟨none, (some 59), .nc 59 (.s 54), false⟩,
    ⟨none, (some 60), .fa 60 1 (.s 59), false⟩,
    ⟨none, none, .st false 1 (.s 60) (.s 58), false⟩]))
  (.seq (.ops [⟨none, (some 11), .mv 11 (.k (Value.bool true)), false⟩])
  (.seq (.seq (.ops [⟨none, (some 61), .mv 61 (.s 6), false⟩,
    ⟨none, (some 62), .call (some 62) 40 false [(.s 61)], false⟩])
  (.cond (.s 62) (.seq (.seq (.keep [5, 6, 7, 11]) (.ops [⟨none, (some 63), .mv 63 (.s 6), false⟩,
    ⟨none, (some 64), .nc 64 (.s 63), false⟩,
    ⟨none, (some 65), .fa 65 1 (.s 64), false⟩,
    ⟨none, (some 66), .ld 66 false 1 (.s 65), false⟩,
    ⟨none, (some 67), .binc 67 .add (.s 66) (.k (Value.int .i64 1)), false⟩,
    ⟨none, (some 68), .nc 68 (.s 63), false⟩,
    ⟨none, (some 69), .fa 69 1 (.s 68), false⟩,
    ⟨none, none, .st false 1 (.s 69) (.s 67), false⟩]))
  (.ops [⟨none, (some 70), .mv 70 (.s 6), false⟩,
    ⟨none, (some 71), .call (some 71) 43 false [(.s 70), (.k (Value.int .i64 7))], false⟩])) .skip))
  (.exit 2)))) .skip))
  (.seq (.keep [5, 6, 7, 11]) (.ops [⟨none, (some 72), .mv 72 (.s 7), false⟩,
    ⟨none, (some 73), .mv 73 (.s 6), false⟩,
    ⟨none, (some 74), .call (some 74) 50 false [(.s 72), (.s 73)], false⟩])))))))
def S16_6 : SCode :=
  (.seq (.seq (.keep [5, 6, 7, 11]) (.ops [⟨none, (some 75), .mv 75 (.s 6), false⟩,
    ⟨none, (some 76), .nc 76 (.s 75), false⟩,
    ⟨none, (some 77), .fa 77 2 (.s 76), false⟩,
    ⟨none, (some 78), .fa 78 1 (.s 77), false⟩,
    ⟨none, (some 79), .ld 79 false 1 (.s 78), false⟩,
    ⟨none, (some 80), .bin 80 .neq (.s 79) (.k (Value.int .i64 0)), false⟩]))
  (.cond (.s 80) (.seq (.seq (.keep [5, 6]) (.dr [([], true, ⟨none, (some 81), .mv 81 (.s 6), false⟩),
    ([], true, ⟨none, (some 82), .nc 82 (.s 81), false⟩),
    ([], true, ⟨none, (some 83), .fa 83 2 (.s 82), false⟩),
    ([], true, ⟨none, (some 4), .mv 4 (.k (Value.slice none 0 0)), false⟩),
    ([], true, ⟨none, (some 84), .ld 84 true 2 (.s 83), false⟩),
    ([0, 1, 2, 3, 4, 5, 6, 7, 8, 9, 10, 11, 12, 13, 14, 15], false, ⟨none, none, .st true 2 (.s 5) (.s 84), false⟩)]))
  .ret) .skip))
def S16_7 : SCode :=
  (.seq (.ops [⟨none, (some 12), .mv 12 (.k (Value.int .i64 0)), false⟩])
  (.block 4 (.loop [5, 7, 11, 12] (.seq (.seq (.seq (.keep [5, 7, 11, 12]) (.ops [⟨none, (some 85), .mv 85 (.s 12), false⟩,
    ⟨none, (some 86), .mv 86 (.s 7), false⟩,
    ⟨none, (some 87), .nc 87 (.s 86), false⟩,
    ⟨none, (some 88), .fa 88 0 (.s 87), false⟩,
    ⟨none, (some 89), .ld 89 false 1 (.s 88), false⟩,
    ⟨none, (some 90), .len 90 (.s 89), false⟩,
    ⟨none, (some 91), .bin 91 .lss (.s 85) (.s 90), false⟩]))
  (.cond (.s 91) .skip (.exit 4)))
  (.seq (.block 5 (.seq (.seq (.keep [5, 7, 11, 12]) (.ops [⟨none, (some 94), .mv 94 (.s 11), false⟩,
    ⟨none, (some 95), .not 95 (.s 94), false⟩,
    ⟨none, (some 96), .mv 96 (.s 95), false⟩,
    ⟨(some (96, false)), (some 97), .mv 97 (.s 12), false⟩,
    ⟨(some (96, false)), (some 98), .mv 98 (.s 7), false⟩,
    ⟨(some (96, false)), (some 99), .nc 99 (.s 98), false⟩,
    ⟨(some (96, false)), (some 100), .fa 100 0 (.s 99), false⟩,
    ⟨(some (96, false)), (some 101), .ld 101 false 1 (.s 100), false⟩,
    ⟨(some (96, false)), (some 102), .len 102 (.s 101), false⟩,
    ⟨(some (96, false)), (some 103), .binc 103 .sub (.s 102) (.k (Value.int .i64 1)), true⟩,
    ⟨(some (96, false)), (some 104), .bin 104 .lss (.s 97) (.s 103), false⟩,
    ⟨none, (some 105), .pk 105 (.s 96) (.k (Value.bool true)) (.s 104), false⟩]))
  (.cond (.s 105) (.seq (.keep [5, 7, 11, 12]) (.dr [([], true, ⟨none, (some 106), .mv 106 (.s 7), false⟩),
    ([], true, ⟨none, (some 107), .nc 107 (.s 106), false⟩),
    ([], true, ⟨none, (some 108), .fa 108 0 (.s 107), false⟩),
    ([], true, ⟨none, (some 110), .mv 110 (.s 12), false⟩),
    ([], true, ⟨none, (some 111), .mv 111 (.s 7), false⟩),
    ([], true, ⟨none, (some 112), .nc 112 (.s 111), false⟩),
    ([], true, ⟨none, (some 113), .fa 113 0 (.s 112), false⟩),
    ([], true, ⟨none, (some 115), .mv 115 (.s 12), true⟩),
    ([], true, ⟨none, (some 109), .ld 109 false 1 (.s 108), false⟩),
    ([], true, ⟨none, (some 114), .ld 114 false 1 (.s 113), false⟩),
    ([], true, ⟨none, (some 116), .ia 116 1 (.s 114) (.s 115), false⟩),
    ([], true, ⟨none, (some 117), .ld 117 false 1 (.s 116), false⟩),
    ([], true, ⟨none, (some 118), .bin 118 .add (.s 117) (.k (Value.string ⟨#[10]⟩)), false⟩),
    ([], true, ⟨none, (some 119), .ia 119 1 (.s 109) (.s 110), false⟩),
    ([0, 1, 2, 3, 4, 5, 6, 7, 8, 9, 10, 11, 12, 13, 14, 15], false, ⟨none, none, .st false 1 (.s 119) (.s 118), false⟩)])) .skip)))
  (.seq (.keep [5, 7, 11, 12]) (.ops [⟨none, (some 92), .mv 92 (.s 12), false⟩,
    ⟨none, (some 93), .binc 93 .add (.s 92) (.k (Value.int .i64 1)), false⟩,
    ⟨none, (some 12), .mv 12 (.s 93), false⟩])))))))
def S16_8 : SCode :=
  (.seq (.keep [5, 7]) (.ops [⟨none, (some 120), .mv 120 (.s 7), false⟩,
    ⟨none, (some 121), .nc 121 (.s 120), false⟩,
    ⟨none, (some 122), .fa 122 0 (.s 121), false⟩,
    ⟨none, (some 123), .ld 123 false 1 (.s 122), false⟩,
    ⟨none, (some 124), .bd 124 [(Value.int .i64 0), (Value.int .i64 0)] [], false⟩,
    ⟨none, (some 4), .mv 4 (.s 123), false⟩,
    ⟨none, none, .st true 2 (.s 5) (.s 124), false⟩]))
def S16r9 : SCode := .ret
def S16r8 : SCode := .seq S16_8 S16r9
def S16r7 : SCode := .seq S16_7 S16r8
def S16r6 : SCode := .seq S16_6 S16r7
def S16r5 : SCode := .seq S16_5 S16r6
def S16r4 : SCode := .seq S16_4 S16r5
def S16r3 : SCode := .seq S16_3 S16r4
def S16r2 : SCode := .seq S16_2 S16r3
def S16r1 : SCode := .seq S16_1 S16r2
def S16 : SCode := .seq S16_0 S16r1
theorem cc16 : (Tryz.f16.body).bind (cc Tryz.prog Tryz.f16.ntmps A16) = some S16 := by kernel_rfl
def R16 : List RR := [.sl 4, .ce 5 true 2]
theorem cr16 : Tryz.f16.results.toList.map (crr Tryz.prog) = R16.map some := by kernel_rfl
theorem nm16 : (Tryz.f16.name == "runtime.NumGoroutine") = false := by kernel_rfl
theorem fn16 : Tryz.prog.funcs[16]? = some Tryz.f16 := by kernel_rfl
theorem bd16 : ∃ b, Tryz.f16.body = some b ∧ cc Tryz.prog Tryz.f16.ntmps A16 b = some S16 := Option.bind_eq_some_iff.1 cc16
theorem sd16 {G : World → Prop} {T : FuncId → Contract} {C : Contract} (hT : ∀ f, Sound G Tryz.prog f (T f)) (hl : C.lawful) (hC : ∀ args st K, C.wp args st K → args.length ≤ 125 ∧ ∃ os op, xv T st.n S16 (st0 args st) (retK R16 st.n os K) (panK st.n op K)) (hit : SoundIt G Tryz.prog 16 C.it := by exact SoundIt.none) : Sound G Tryz.prog 16 C := by
  obtain ⟨b, hb, hc⟩ := bd16
  rw [xv_eq] at hC
  exact sound_of_ev mo fn16 hb nm16 hc cr16 hT hl hit hC
def A50 : Ann := ⟨fun r i => if r = 3 ∧ i = 19 then 1 else if r = 27 ∧ i = 18 then 1 else 0, fun r => if r = 27 then some [(0, true, [997, 999]), (2, true, []), (3, true, []), (4, true, []), (6, true, []), (7, true, []), (10, true, [997]), (11, true, [997]), (12, true, [997]), (14, true, [997]), (15, true, [997]), (16, true, [997]), (17, true, [997]), (5, true, []), (8, true, []), (13, true, [997]), (18, true, [997]), (1, false, []), (9, false, [997]), (19, false, [999]), (20, true, []), (21, true, []), (22, false, [999])] else if r = 8 then some [(0, true, []), (1, true, []), (2, true, []), (4, true, []), (5, true, []), (6, true, []), (8, true, []), (9, true, []), (10, true, []), (12, true, []), (13, true, []), (14, true, []), (3, true, []), (7, true, []), (11, true, []), (15, true, []), (16, true, []), (17, true, []), (18, true, []), (19, true, []), (20, false, [0, 1, 2, 3, 4, 5, 6, 7, 8, 9, 10, 11, 12, 13, 14, 15])] else if r = 3 then some [(0, true, []), (1, true, []), (2, true, []), (3, true, []), (4, true, []), (5, true, []), (6, true, []), (7, true, []), (8, true, []), (9, true, []), (10, true, []), (11, true, []), (13, true, []), (14, true, []), (15, true, []), (12, true, []), (16, true, []), (17, true, []), (18, true, []), (19, true, []), (20, true, []), (21, true, []), (22, true, [])] else none, fun r => if r = 1 then some (false, [0, 1, 4]) else if r = 2 then some (false, [0, 1, 4]) else if r = 3 then some (false, [0, 1, 4]) else if r = 6 then some (false, [0, 1]) else if r = 7 then some (false, [0, 5]) else if r = 8 then some (false, [0]) else if r = 9 then some (false, [0, 1, 4]) else if r = 11 then some (false, [0, 1, 4]) else if r = 12 then some (false, [0, 1, 4, 6]) else if r = 13 then some (false, [0, 1, 4, 6]) else if r = 15 then some (false, [0, 1, 4, 6]) else if r = 16 then some (false, [0, 1, 6, 10, 11]) else if r = 18 then some (false, [0, 1, 6, 7, 8, 11]) else if r = 19 then some (false, [0, 1, 6, 7, 8, 9]) else if r = 21 then some (false, [0, 1, 6, 7, 8]) else if r = 25 then some (false, [0, 1, 7, 8]) else if r = 26 then some (false, [0, 1, 7, 8, 12]) else if r = 27 then some (false, [0, 7, 8, 12]) else if r = 28 then some (false, [0, 7, 12]) else none, fun _ => []⟩
def S50_0 : SCode :=
  (.ops [⟨none, (some 13), .mv 13 (.s 1), false⟩,
    ⟨none, (some 14), .call (some 14) 42 false [(.s 13)], false⟩,
    ⟨none, (some 4), .mv 4 (.s 14), false⟩])
def S50_1 : SCode :=
  (.seq (.seq (.keep [0, 1, 4]) (.ops [⟨none, (some 15), .mv 15 (.s 1), false⟩,
    ⟨none, (some 16), .nc 16 (.s 15), false⟩,
    ⟨none, (some 17), .fa 17 2 (.s 16), false⟩,
    ⟨none, (some 18), .fa 18 1 (.s 17), false⟩,
    ⟨none, (some 19), .ld 19 false 1 (.s 18), false⟩,
    ⟨none, (some 20), .bin 20 .neq (.s 19) (.k (Value.int .i64 0)), false⟩]))
  (.cond (.s 20) .ret .skip))
def S50_2 : SCode :=
  (.seq (.seq (.keep [0, 1, 4]) (.ops [⟨none, (some 21), .mv 21 (.s 4), false⟩,
    ⟨none, (some 22), .bin 22 .eql (.s 21) (.k (Value.string ⟨#[97]⟩)), false⟩,
    ⟨none, (some 23), .mv 23 (.s 22), false⟩,
    ⟨(some (23, false)), (some 24), .mv 24 (.s 4), false⟩,
    ⟨(some (23, false)), (some 25), .bin 25 .eql (.s 24) (.k (Value.string ⟨#[115, 47, 46, 47, 47]⟩)), false⟩,
    ⟨none, (some 26), .pk 26 (.s 23) (.k (Value.bool true)) (.s 25), false⟩]))
  (.cond (.s 26) (.seq (.seq (.seq (.keep [0, 1, 4]) (.dr [([], true, ⟨none, (some 27), .mv 27 (.s 0), false⟩),
    ([], true, ⟨none, (some 28), .nc 28 (.s 27), false⟩),
    ([], true, ⟨none, (some 29), .fa 29 1 (.s 28), false⟩),
    ([], true, ⟨none, (some 30), .ld 30 false 1 (.s 29), false⟩),
    ([], true, ⟨none, (some 31), .bin 31 .lss (.s 30) (.k (Value.int .i64 0)), false⟩),
    ([], true, ⟨none, (some 32), .mv 32 (.s 31), false⟩),
    ([], true, ⟨(some (32, false)), (some 33), .mv 33 (.s 4), false⟩),
    ([], true, ⟨(some (32, false)), (some 34), .bin 34 .neq (.s 33) (.k (Value.string ⟨#[97]⟩)), false⟩),
    ([], true, ⟨(some (32, false)), (some 35), .mv 35 (.s 34), false⟩),
    ([], true, ⟨(some (35, true)), (some 36), .mv 36 (.s 0), true⟩),
    ([], true, ⟨(some (35, true)), (some 37), .nc 37 (.s 36), false⟩),
    ([], true, ⟨(some (35, true)), (some 38), .fa 38 0 (.s 37), false⟩),
    ([], true, ⟨(some (35, true)), (some 40), .mv 40 (.s 0), false⟩),
    ([], true, ⟨(some (35, true)), (some 41), .nc 41 (.s 40), false⟩),
    ([], true, ⟨(some (35, true)), (some 42), .fa 42 1 (.s 41), false⟩),
    ([], true, ⟨(some (35, true)), (some 39), .ld 39 false 1 (.s 38), false⟩),
    ([], true, ⟨(some (35, true)), (some 43), .ld 43 false 1 (.s 42), false⟩),
    ([], true, ⟨(some (35, true)), (some 44), .ia 44 1 (.s 39) (.s 43), false⟩),
    ([], true, ⟨(some (35, true)), (some 45), .ld 45 false 1 (.s 44), false⟩),
    ([], true, ⟨(some (35, true)), (some 46), .lens 46 (.s 45), true⟩),
    ([], true, ⟨(some (35, true)), (some 47), .bin 47 .eql (.s 46) (.k (Value.int .i64 0)), false⟩),
    ([], true, ⟨(some (32, false)), (some 48), .pk 48 (.s 35) (.s 47) (.k (Value.bool false)), false⟩),
    ([], true, ⟨none, (some 49), .pk 49 (.s 32) (.k (Value.bool true)) (.s 48), false⟩)]))
  (.cond (.s 49) (.seq (.ops [⟨none, (some 50), .mv 50 (.s 1), false⟩,
    ⟨none, (some 51), .call (some 51) 43 false [(.s 50), (.k (Value.int .i64 130))], false⟩])
  .ret) .skip))
  (.seq (.seq (.ops [⟨none, (some 52), .mv 52 (.s 4), false⟩,
    ⟨none, (some 53), .bin 53 .eql (.s 52) (.k (Value.string ⟨#[97]⟩)), false⟩])
  (.cond (.s 53) (.seq (.seq (.keep [0, 1]) (.ops [⟨none, (some 54), .mv 54 (.s 1), false⟩,
    ⟨none, (some 55), .call (some 55) 99 false [(.s 54)], false⟩,
    ⟨none, (some 5), .mv 5 (.s 55), false⟩]))
  (.seq (.keep [0, 5]) (.ops [⟨none, (some 56), .mv 56 (.s 0), false⟩,
    ⟨none, (some 57), .mv 57 (.s 0), false⟩,
    ⟨none, (some 58), .nc 58 (.s 57), false⟩,
    ⟨none, (some 59), .fa 59 1 (.s 58), false⟩,
    ⟨none, (some 60), .ld 60 false 1 (.s 59), false⟩,
    ⟨none, (some 61), .binc 61 .add (.s 60) (.k (Value.int .i64 1)), false⟩,
    ⟨none, (some 62), .mv 62 (.s 5), false⟩,
    ⟨none, (some 63), .call (some 63) 100 false [(.s 56), (.s 61), (.s 62)], false⟩]))) (.seq (.keep [0]) (.dr [([], true, ⟨none, (some 64), .mv 64 (.s 0), false⟩),
    ([], true, ⟨none, (some 65), .nc 65 (.s 64), false⟩),
    ([], true, ⟨none, (some 66), .fa 66 0 (.s 65), false⟩),
    ([], true, ⟨none, (some 68), .mv 68 (.s 0), false⟩),
    ([], true, ⟨none, (some 69), .nc 69 (.s 68), false⟩),
    ([], true, ⟨none, (some 70), .fa 70 1 (.s 69), false⟩),
    ([], true, ⟨none, (some 72), .mv 72 (.s 0), false⟩),
    ([], true, ⟨none, (some 73), .nc 73 (.s 72), true⟩),
    ([], true, ⟨none, (some 74), .fa 74 0 (.s 73), false⟩),
    ([], true, ⟨none, (some 76), .mv 76 (.s 0), false⟩),
    ([], true, ⟨none, (some 77), .nc 77 (.s 76), false⟩),
    ([], true, ⟨none, (some 78), .fa 78 1 (.s 77), false⟩),
    ([], true, ⟨none, (some 67), .ld 67 false 1 (.s 66), false⟩),
    ([], true, ⟨none, (some 71), .ld 71 false 1 (.s 70), false⟩),
    ([], true, ⟨none, (some 75), .ld 75 false 1 (.s 74), false⟩),
    ([], true, ⟨none, (some 79), .ld 79 false 1 (.s 78), false⟩),
    ([], true, ⟨none, (some 80), .ia 80 1 (.s 75) (.s 79), false⟩),
    ([], true, ⟨none, (some 81), .ld 81 false 1 (.s 80), false⟩),
    ([], true, ⟨none, (some 82), .sls 82 (.s 81) (some (.k (Value.int .i64 1))) none, false⟩),
    ([], true, ⟨none, (some 83), .ia 83 1 (.s 67) (.s 71), true⟩),
    ([0, 1, 2, 3, 4, 5, 6, 7, 8, 9, 10, 11, 12, 13, 14, 15], false, ⟨none, none, .st false 1 (.s 83) (.s 82), false⟩)]))))
  .ret)) .skip))
def S50_3 : SCode :=
  (.seq (.seq (.keep [0, 1, 4]) (.ops [⟨none, (some 84), .mv 84 (.s 4), false⟩,
    ⟨none, (some 85), .lens 85 (.s 84), false⟩,
    ⟨none, (some 86), .bin 86 .eql (.s 85) (.k (Value.int .i64 0)), false⟩]))
  (.cond (.s 86) (.seq (.ops [⟨none, (some 87), .mv 87 (.s 1), false⟩,
    ⟨none, (some 88), .call (some 88) 43 false [(.s 87), (.k (Value.int .i64 3))], false⟩])
  .ret) .skip))
def S50_4 : SCode :=
  (.seq (.keep [0, 1, 4]) (.ops [⟨none, (some 89), .mv 89 (.s 4), false⟩,
    ⟨none, (some 90), .mv 90 (.s 4), false⟩,
    ⟨none, (some 91), .lens 91 (.s 90), false⟩,
    ⟨none, (some 92), .binc 92 .sub (.s 91) (.k (Value.int .i64 1)), false⟩,
    ⟨none, (some 93), .ixs 93 (.s 89) (.s 92), false⟩,
    ⟨none, (some 6), .mv 6 (.s 93), false⟩]))
def S50_5 : SCode :=
  (.seq (.keep [0, 1, 4, 6]) (.ops [⟨none, (some 94), .mv 94 (.s 4), false⟩,
    ⟨none, (some 95), .mv 95 (.s 4), false⟩,
    ⟨none, (some 96), .lens 96 (.s 95), false⟩,
    ⟨none, (some 97), .binc 97 .sub (.s 96) (.k (Value.int .i64 1)), false⟩,
    ⟨none, (some 98), .sls 98 (.s 94) none (some (.s 97)), false⟩,
    ⟨none, (some 4), .mv 4 (.s 98), false⟩]))
def S50_6 : SCode :=
  (.seq (.keep [0, 1, 4, 6]) (.ops [⟨none, (some 100), .mv 100 (.s 4), false⟩,
    ⟨none, (some 101), .call (some 101) 101 false [(.s 100)], false⟩,
    ⟨none, (some 99), .mv 99 (.s 101), false⟩,
    ⟨none, (some 102), .ex 102 (.s 99) 0, false⟩,
    ⟨none, (some 103), .ex 103 (.s 99) 1, false⟩,
    ⟨none, (some 104), .ex 104 (.s 99) 2, false⟩,
    ⟨none, (some 7), .mv 7 (.s 102), false⟩,
    ⟨none, (some 8), .mv 8 (.s 103), false⟩,
    ⟨none, (some 9), .mv 9 (.s 104), false⟩]))
def S50_7 : SCode :=
  (.seq (.ops [⟨none, (some 105), .mv 105 (.s 6), false⟩,
    ⟨none, (some 106), .bin 106 .eql (.s 105) (.k (Value.int .u8 97)), false⟩])
  (.cond (.s 106) (.seq (.seq (.keep [0, 1, 4, 6]) (.ops [⟨none, (some 108), .mv 108 (.s 4), false⟩,
    ⟨none, (some 109), .call (some 109) 90 false [(.s 108)], false⟩,
    ⟨none, (some 107), .mv 107 (.s 109), false⟩,
    ⟨none, (some 110), .ex 110 (.s 107) 0, false⟩,
    ⟨none, (some 111), .ex 111 (.s 107) 1, false⟩,
    ⟨none, (some 10), .mv 10 (.s 110), false⟩,
    ⟨none, (some 11), .mv 11 (.s 111), false⟩]))
  (.seq (.seq (.keep [0, 1, 6, 10, 11]) (.ops [⟨none, (some 112), .mv 112 (.s 10), false⟩,
    ⟨none, (some 113), .binc 113 .add (.s 112) (.k (Value.int .i64 1)), false⟩,
    ⟨none, (some 7), .mv 7 (.s 113), false⟩]))
  (.seq (.ops [⟨none, (some 8), .mv 8 (.k (Value.int .i64 0)), false⟩])
  (.seq (.keep [0, 1, 6, 7, 8, 11]) (.ops [⟨none, (some 114), .mv 114 (.s 11), false⟩,
    ⟨none, (some 115), .bin 115 .eql (.s 114) (.k (Value.int .i64 0)), false⟩,
    ⟨none, (some 9), .mv 9 (.s 115), false⟩]))))) .skip))
def S50_8 : SCode :=
  (.seq (.seq (.keep [0, 1, 6, 7, 8, 9]) (.ops [⟨none, (some 116), .mv 116 (.s 9), false⟩,
    ⟨none, (some 117), .not 117 (.s 116), false⟩,
    ⟨none, (some 118), .mv 118 (.s 117), false⟩,
    ⟨(some (118, false)), (some 119), .mv 119 (.s 6), false⟩,
    ⟨(some (118, false)), (some 120), .bin 120 .neq (.s 119) (.k (Value.int .u8 97)), false⟩,
    ⟨(some (118, false)), (some 121), .mv 121 (.s 120), false⟩,
    ⟨(some (121, true)), (some 122), .mv 122 (.s 6), false⟩,
    ⟨(some (121, true)), (some 123), .bin 123 .neq (.s 122) (.k (Value.int .u8 99)), false⟩,
    ⟨(some (118, false)), (some 124), .pk 124 (.s 121) (.s 123) (.k (Value.bool false)), false⟩,
    ⟨(some (118, false)), (some 125), .mv 125 (.s 124), true⟩,
    ⟨(some (125, true)), (some 126), .mv 126 (.s 6), false⟩,
    ⟨(some (125, true)), (some 127), .bin 127 .neq (.s 126) (.k (Value.int .u8 100)), false⟩,
    ⟨(some (118, false)), (some 128), .pk 128 (.s 125) (.s 127) (.k (Value.bool false)), false⟩,
    ⟨none, (some 129), .pk 129 (.s 118) (.k (Value.bool true)) (.s 128), false⟩]))
  (.cond (.s 129) (.seq (.ops [⟨none, (some 130), .mv 130 (.s 1), false⟩,
    ⟨none, (some 131), .call (some 131) 43 false [(.s 130), (.k (Value.int .i64 3))], false⟩])
  .ret) .skip))
def S50_9 : SCode :=
  (.seq (.seq (.keep [0, 1, 6, 7, 8]) (.ops [⟨none, (some 132), .mv 132 (.s 7), false⟩,
    ⟨none, (some 133), .mv 133 (.s 8), false⟩,
    ⟨none, (some 134), .binc 134 .add (.s 132) (.s 133), false⟩,
    ⟨none, (some 135), .binc 135 .sub (.s 134) (.k (Value.int .i64 1)), false⟩,
    ⟨none, (some 136), .mv 136 (.s 0), false⟩,
    ⟨none, (some 137), .nc 137 (.s 136), false⟩,
    ⟨none, (some 138), .fa 138 0 (.s 137), false⟩,
    ⟨none, (some 139), .ld 139 false 1 (.s 138), false⟩,
    ⟨none, (some 140), .len 140 (.s 139), false⟩,
    ⟨none, (some 141), .bin 141 .gtr (.s 135) (.s 140), true⟩]))
  (.cond (.s 141) (.seq (.ops [⟨none, (some 142), .mv 142 (.s 1), false⟩,
    ⟨none, (some 143), .call (some 143) 43 false [(.s 142), (.k (Value.int .i64 2))], false⟩])
  .ret) .skip))
def S50_10 : SCode :=
  (.ops [⟨none, (some 12), .mv 12 (.k (Value.slice none 0 0)), false⟩])
def S50_11 : SCode :=
  (.seq (.ops [⟨none, (some 144), .mv 144 (.s 6), false⟩,
    ⟨none, (some 145), .bin 145 .neq (.s 144) (.k (Value.int .u8 100)), false⟩])
  (.cond (.s 145) (.seq (.keep [0, 1, 7, 8]) (.ops [⟨none, (some 146), .mv 146 (.s 1), false⟩,
    ⟨none, (some 147), .call (some 147) 99 false [(.s 146)], false⟩,
    ⟨none, (some 12), .mv 12 (.s 147), false⟩])) .skip))
def S50_12 : SCode :=
  (.seq (.keep [0, 1, 7, 8, 12]) (.ops [⟨none, (some 148), .mv 148 (.s 1), false⟩,
    ⟨none, (some 149), .nc 149 (.s 148), false⟩,
    ⟨none, (some 150), .fa 150 2 (.s 149), false⟩,
    ⟨none, (some 151), .fa 151 1 (.s 150), false⟩,
    ⟨none, (some 152), .ld 152 false 1 (.s 151), false⟩,
    ⟨none, (some 153), .bin 153 .eql (.s 152) (.k (Value.int .i64 0)), false⟩]))
def S50r13 : SCode := (.cond (.s 153) (.seq (.seq (.keep [0, 7, 8, 12]) (.dr [([997, 999], true, ⟨none, (some 154), .mv 154 (.s 0), false⟩),
    ([], true, ⟨none, (some 156), .mv 156 (.s 0), false⟩),
    ([], true, ⟨none, (some 157), .nc 157 (.s 156), false⟩),
    ([], true, ⟨none, (some 158), .fa 158 0 (.s 157), false⟩),
    ([], true, ⟨none, (some 160), .mv 160 (.s 7), false⟩),
    ([], true, ⟨none, (some 161), .binc 161 .sub (.s 160) (.k (Value.int .i64 1)), false⟩),
    ([997], true, ⟨none, (some 164), .mv 164 (.s 0), false⟩),
    ([997], true, ⟨none, (some 165), .nc 165 (.s 164), false⟩),
    ([997], true, ⟨none, (some 166), .fa 166 0 (.s 165), false⟩),
    ([997], true, ⟨none, (some 168), .mv 168 (.s 7), false⟩),
    ([997], true, ⟨none, (some 169), .binc 169 .sub (.s 168) (.k (Value.int .i64 1)), false⟩),
    ([997], true, ⟨none, (some 170), .mv 170 (.s 8), false⟩),
    ([997], true, ⟨none, (some 171), .binc 171 .add (.s 169) (.s 170), false⟩),
    ([], true, ⟨none, (some 159), .ld 159 false 1 (.s 158), false⟩),
    ([], true, ⟨none, (some 162), .slr 162 1 (.s 159) none (some (.s 161)), false⟩),
    ([997], true, ⟨none, (some 167), .ld 167 false 1 (.s 166), false⟩),
    ([997], true, ⟨none, (some 172), .slp 172 1 (.s 167) (some (.s 171)) none, false⟩),
    ([], false, ⟨none, (some 155), .bs 155 9 1 [], false⟩),
    ([997], false, ⟨none, (some 163), .ap 163 9 1 16 (.s 155) (.s 162), true⟩),
    ([999], false, ⟨none, (some 173), .ap 173 9 1 16 (.s 163) (.s 172), true⟩),
    ([], true, ⟨none, (some 174), .nc 174 (.s 154), false⟩),
    ([], true, ⟨none, (some 175), .fa 175 0 (.s 174), false⟩),
    ([999], false, ⟨none, none, .st false 1 (.s 175) (.s 173), false⟩)]))
  (.seq (.keep [0, 7, 12]) (.ops [⟨none, (some 176), .mv 176 (.s 0), false⟩,
    ⟨none, (some 177), .mv 177 (.s 7), false⟩,
    ⟨none, (some 178), .binc 178 .sub (.s 177) (.k (Value.int .i64 1)), false⟩,
    ⟨none, (some 179), .mv 179 (.s 12), false⟩,
    ⟨none, (some 180), .call (some 180) 100 false [(.s 176), (.s 178), (.s 179)], false⟩]))) .skip)
def S50r12 : SCode := .seq S50_12 S50r13
def S50r11 : SCode := .seq S50_11 S50r12
def S50r10 : SCode := .seq S50_10 S50r11
def S50r9 : SCode := .seq S50_9 S50r10
def S50r8 : SCode := .seq S50_8 S50r9
def S50r7 : SCode := .seq S50_7 S50r8
def S50r6 : SCode := .seq S50_6 S50r7
def S50r5 : SCode := .seq S50_5 S50r6
def S50r4 : SCode := .seq S50_4 S50r5
def S50r3 : SCode := .seq S50_3 S50r4
def S50r2 : SCode := .seq S50_2 S50r3
def S50r1 : SCode := .seq S50_1 S50r2
def S50 : SCode := .seq S50_0 S50r1
theorem cc50 : (Tryz.f50.body).bind (cc Tryz.prog Tryz.f50.ntmps A50) = some S50 := by kernel_rfl
def R50 : List RR := []
theorem cr50 : Tryz.f50.results.toList.map (crr Tryz.prog) = R50.map some := by kernel_rfl
theorem nm50 : (Tryz.f50.name == "runtime.NumGoroutine") = false := by kernel_rfl
theorem fn50 : Tryz.prog.funcs[50]? = some Tryz.f50 := by kernel_rfl
theorem bd50 : ∃ b, Tryz.f50.body = some b ∧ cc Tryz.prog Tryz.f50.ntmps A50 b = some S50 := Option.bind_eq_some_iff.1 cc50
theorem sd50 {G : World → Prop} {T : FuncId → Contract} {C : Contract} (hT : ∀ f, Sound G Tryz.prog f (T f)) (hl : C.lawful) (hC : ∀ args st K, C.wp args st K → args.length ≤ 181 ∧ ∃ os op, xv T st.n S50 (st0 args st) (retK R50 st.n os K) (panK st.n op K)) (hit : SoundIt G Tryz.prog 50 C.it := by exact SoundIt.none) : Sound G Tryz.prog 50 C := by
  obtain ⟨b, hb, hc⟩ := bd50
  rw [xv_eq] at hC
  exact sound_of_ev mo fn50 hb nm50 hc cr50 hT hl hit hC
def A100 : Ann := ⟨fun r i => if r = 1 ∧ i = 9 then 1 else 0, fun r => if r = 1 then some [(0, true, [2, 3, 4, 999]), (1, true, []), (2, true, []), (4, true, [2, 3, 4]), (5, true, [2, 3, 4]), (6, true, [2, 3, 4]), (8, true, [2, 3, 4]), (7, true, [2, 3, 4]), (9, true, [2, 3, 4]), (3, false, [2, 3, 4]), (10, false, [999]), (11, true, []), (12, true, []), (13, false, [999])] else none, fun r => if r = 1 then some (false, [0, 1, 2, 6]) else if r = 2 then some (false, [0, 1, 2]) else if r = 3 then some (false, [0, 1, 2]) else if r = 4 then some (false, [0, 1, 2]) else none, fun _ => []⟩
def S100 : SCode :=
  (.seq (.ops [⟨none, (some 7), .bs 7 9 1 [], false⟩,
    ⟨none, (some 8), .mv 8 (.s 0), false⟩,
    ⟨none, (some 9), .nc 9 (.s 8), false⟩,
    ⟨none, (some 10), .fa 10 0 (.s 9), false⟩,
    ⟨none, (some 11), .ld 11 false 1 (.s 10), false⟩,
    ⟨none, (some 12), .mv 12 (.s 1), false⟩,
    ⟨none, (some 13), .slr 13 1 (.s 11) none (some (.s 12)), false⟩,
    ⟨none, (some 14), .ap 14 9 1 16 (.s 7) (.s 13), false⟩,
    ⟨none, (some 6), .mv 6 (.s 14), false⟩])
  (.seq (.seq (.keep [0, 1, 2, 6]) (.dr [([2, 3, 4, 999], true, ⟨none, (some 15), .mv 15 (.s 0), false⟩),
    ([], true, ⟨none, (some 16), .mv 16 (.s 6), false⟩),
    ([], true, ⟨none, (some 17), .mv 17 (.s 2), false⟩),
    ([2, 3, 4], true, ⟨none, (some 19), .mv 19 (.s 0), false⟩),
    ([2, 3, 4], true, ⟨none, (some 20), .nc 20 (.s 19), false⟩),
    ([2, 3, 4], true, ⟨none, (some 21), .fa 21 0 (.s 20), false⟩),
    ([2, 3, 4], true, ⟨none, (some 23), .mv 23 (.s 1), false⟩),
    ([2, 3, 4], true, ⟨none, (some 22), .ld 22 false 1 (.s 21), false⟩),
    ([2, 3, 4], true, ⟨none, (some 24), .slp 24 1 (.s 22) (some (.s 23)) none, true⟩),
    ([2, 3, 4], false, ⟨none, (some 18), .ap 18 9 1 16 (.s 16) (.s 17), false⟩),
    ([999], false, ⟨none, (some 25), .ap 25 9 1 16 (.s 18) (.s 24), false⟩),
    ([], true, ⟨none, (some 26), .nc 26 (.s 15), false⟩),
    ([], true, ⟨none, (some 27), .fa 27 0 (.s 26), false⟩),
    ([999], false, ⟨none, none, .st false 1 (.s 27) (.s 25), false⟩)]))
  (.seq (.seq (.keep [0, 1, 2]) (.ops [⟨none, (some 28), .mv 28 (.s 0), false⟩,
    ⟨none, (some 29), .nc 29 (.s 28), false⟩,
    ⟨none, (some 30), .fa 30 1 (.s 29), false⟩,
    ⟨none, none, .st false 1 (.s 30) (.k (Value.int .i64 (-1))), false⟩]))
  (.seq (.seq (.keep [0, 1, 2]) (.ops [⟨none, (some 31), .mv 31 (.s 2), false⟩,
    ⟨none, (some 32), .len 32 (.s 31), false⟩,
    ⟨none, (some 33), .bin 33 .gtr (.s 32) (.k (Value.int .i64 0)), false⟩]))
  (.cond (.s 33) (.seq (.keep [0, 1, 2]) (.ops [⟨none, (some 34), .mv 34 (.s 0), false⟩,
    ⟨none, (some 35), .mv 35 (.s 1), false⟩,
    ⟨none, (some 36), .mv 36 (.s 2), false⟩,
    ⟨none, (some 37), .len 37 (.s 36), false⟩,
    ⟨none, (some 38), .binc 38 .add (.s 35) (.s 37), false⟩,
    ⟨none, (some 39), .binc 39 .sub (.s 38) (.k (Value.int .i64 1)), false⟩,
    ⟨none, (some 40), .nc 40 (.s 34), false⟩,
    ⟨none, (some 41), .fa 41 1 (.s 40), false⟩,
    ⟨none, none, .st false 1 (.s 41) (.s 39), false⟩])) .skip)))))
theorem cc100 : (Tryz.f100.body).bind (cc Tryz.prog Tryz.f100.ntmps A100) = some S100 := by kernel_rfl
def R100 : List RR := []
theorem cr100 : Tryz.f100.results.toList.map (crr Tryz.prog) = R100.map some := by kernel_rfl
theorem nm100 : (Tryz.f100.name == "runtime.NumGoroutine") = false := by kernel_rfl
theorem fn100 : Tryz.prog.funcs[100]? = some Tryz.f100 := by kernel_rfl
theorem bd100 : ∃ b, Tryz.f100.body = some b ∧ cc Tryz.prog Tryz.f100.ntmps A100 b = some S100 := Option.bind_eq_some_iff.1 cc100
theorem sd100 {G : World → Prop} {T : FuncId → Contract} {C : Contract} (hT : ∀ f, Sound G Tryz.prog f (T f)) (hl : C.lawful) (hC : ∀ args st K, C.wp args st K → args.length ≤ 42 ∧ ∃ os op, xv T st.n S100 (st0 args st) (retK R100 st.n os K) (panK st.n op K)) (hit : SoundIt G Tryz.prog 100 C.it := by exact SoundIt.none) : Sound G Tryz.prog 100 C := by
  obtain ⟨b, hb, hc⟩ := bd100
  rw [xv_eq] at hC
  exact sound_of_ev mo fn100 hb nm100 hc cr100 hT hl hit hC
def A99 : Ann := ⟨fun r i => if r = 1 ∧ i = 0 then 11 else 0, fun _ => none, fun r => if r = 2 then some (false, [0, 3]) else if r = 3 then some (false, [0, 3]) else if r = 6 then some (false, [0, 3, 4]) else none, fun r => if r = 2 then [0, 3] else []⟩
def S99 : SCode :=
  (.seq (.ops [⟨none, (some 2), .mv 2 (.k (Value.slice none 0 0)), false⟩])
  (.seq (.ops [⟨none, (some 3), .nr 3 9 1, false⟩])
  (.seq (.block 0 (.loop [0, 3] (.seq (.seq (.seq (.keep [0, 3]) (.ops [⟨none, (some 5), .mv 5 (.s 0), false⟩,
    ⟨none, (some 6), .nc 6 (.s 5), false⟩,
    ⟨none, (some 7), .fa 7 2 (.s 6), false⟩,
    ⟨none, (some 8), .fa 8 1 (.s 7), false⟩,
    ⟨none, (some 9), .ld 9 false 1 (.s 8), false⟩,
    ⟨none, (some 10), .bin 10 .eql (.s 9) (.k (Value.int .i64 0)), false⟩]))
  (.cond (.s 10) .skip (.exit 0)))
  (.block 1 (.seq (.seq (.keep [0, 3]) (.ops [⟨none, (some 11), .mv 11 (.s 0), false⟩,
    ⟨none, (some 12), .call (some 12) 42 false [(.s 11)], false⟩,
    ⟨none, (some 4), .mv 4 (.s 12), false⟩]))
  (.seq (.seq (.ops [⟨none, (some 13), .mv 13 (.s 4), false⟩,
    ⟨none, (some 14), .bin 14 .eql (.s 13) (.k (Value.string ⟨#[46]⟩)), false⟩])
  (.cond (.s 14) (.seq (.ops [⟨none, (some 15), .mv 15 (.s 3), false⟩,
    ⟨none, (some 2), .mv 2 (.s 15), false⟩])
  .ret) .skip))
  (.seq (.keep [0, 3, 4]) (.ops [⟨none, (some 16), .mv 16 (.s 3), false⟩,
    ⟨none, (some 17), .mv 17 (.s 4), false⟩,
    ⟨none, (some 18), .bs 18 9 1 [(.s 17)], false⟩,
    ⟨none, (some 19), .ap 19 9 1 16 (.s 16) (.s 18), false⟩,
    ⟨none, (some 3), .mv 3 (.s 19), false⟩]))))))))
  (.seq (.ops [⟨none, (some 2), .mv 2 (.k (Value.slice none 0 0)), false⟩])
  .ret))))
theorem cc99 : (Tryz.f99.body).bind (cc Tryz.prog Tryz.f99.ntmps A99) = some S99 := by kernel_rfl
def R99 : List RR := [.sl 2]
theorem cr99 : Tryz.f99.results.toList.map (crr Tryz.prog) = R99.map some := by kernel_rfl
theorem nm99 : (Tryz.f99.name == "runtime.NumGoroutine") = false := by kernel_rfl
theorem fn99 : Tryz.prog.funcs[99]? = some Tryz.f99 := by kernel_rfl
theorem bd99 : ∃ b, Tryz.f99.body = some b ∧ cc Tryz.prog Tryz.f99.ntmps A99 b = some S99 := Option.bind_eq_some_iff.1 cc99
theorem sd99 {G : World → Prop} {T : FuncId → Contract} {C : Contract} (hT : ∀ f, Sound G Tryz.prog f (T f)) (hl : C.lawful) (hC : ∀ args st K, C.wp args st K → args.length ≤ 20 ∧ ∃ os op, xv T st.n S99 (st0 args st) (retK R99 st.n os K) (panK st.n op K)) (hit : SoundIt G Tryz.prog 99 C.it := by exact SoundIt.none) : Sound G Tryz.prog 99 C := by
  obtain ⟨b, hb, hc⟩ := bd99
  rw [xv_eq] at hC
  exact sound_of_ev mo fn99 hb nm99 hc cr99 hT hl hit hC
end Go.Proofs.YtlghobefhmpfkaaGreatDoor
set_option linter.unusedVariables false
set_option linter.unusedSimpArgs false
namespace Go.Proofs.YtlghobefhmpfkaaGreatDoor
open Go Go.Ev Go.Rcs
set_option maxRecDepth 100000
variable {G : World → Prop}
def bodR (t : TypeId) (rows : List (List D)) (fa : Int) : Except Fl (List (List UInt8) × Nat) → SV × Store
  | .ok (l, b) => (.own 1, ⟨2, [(0, .cells t [.d (.sl rows), .d (.v (.int .i64 (b : Nat))), .d (.v (.int .i64 fa)), .d (.v (.int .i64 0))]), (1, .row 9 1 (strRows l))]⟩)
  | .error (a, e) => (.d (.sl []), ⟨1, [(0, .cells t [.d (.sl rows), .d (.v (.int .i64 a)), .d (.v (.int .i64 a)), .d (.v (.int .i64 e))])]⟩)
def CBodyR : Contract := stC fun args st => match args, st with
  | [.ptr 0 0], ⟨1, [(0, .cells t [.d (.sl rows), .d (.v (.int .i64 at_)), .d (.v (.int .i64 fa)), .d (.v (.int .i64 fe))])]⟩ =>
    (unStr rows).map fun L => ((fe = 0 ∧ (0 ≤ at_ ∧ at_ ≤ L.length) ∧ smL L), bodR t rows fa (bodyL L (L.length - at_.toNat) at_.toNat []))
  | _, _ => none
theorem bodyL_err {L : List (List UInt8)} : ∀ {n k : Nat} {acc : List (List UInt8)} {a e : Int}, bodyL L n k acc = .error (a, e) → ¬ e = 0
  | 0, k, acc, a, e, h => by
    simp only [bodyL, Except.error.injEq, Prod.mk.injEq] at h
    obtain ⟨_, rfl⟩ := h; decide
  | n + 1, k, acc, a, e, h => by
    rw [bodyL] at h
    cases hx : nextL L k with
    | error y =>
      obtain ⟨ya, ye⟩ := y
      rw [hx] at h
      simp only [Except.error.injEq, Prod.mk.injEq] at h
      obtain ⟨rfl, rfl⟩ := h
      exact (nx_next_err 0 hx).2.2
    | ok y =>
      obtain ⟨s, b⟩ := y
      rw [hx] at h; dsimp only at h
      split at h
      · cases h
      · exact bodyL_err h
set_option maxHeartbeats 4000000 in
theorem s99 : Sound G Tryz.prog 99 CBodyR := by
  refine sd99 (T := tabT [(42, CNext)]) (tab_cons s42 tab_nil) (stC_lawful _) (st_hX fun args st p x st' K h hp hk => ?_)
  split at h <;> simp only [Option.map_eq_some_iff, Prod.mk.injEq, reduceCtorEq] at h
  obtain ⟨L, hl, rfl, h2⟩ := h
  rename_i t rows at_ fa fe
  rw [unStr_eq hl] at *
  obtain ⟨rfl, ⟨t0, t1⟩, hLl, hL⟩ := hp
  obtain ⟨at0, rfl⟩ := Int.eq_ofNat_of_zero_le t0
  rw [Int.toNat_natCast] at h2
  generalize hY : bodyL L (L.length - at0) at0 [] = Y at h2
  refine ⟨Nat.le_of_ble_eq_true rfl, ?_⟩
  have key : ∀ os, (∀ y, Y = .ok y → os = [0, 1]) → (∀ y, Y = .error y → os = [0]) → xv (tabT [(42, CNext)]) 1 S99 (st0 [.ptr 0 0] ⟨1, [(0, .cells t [.d (.sl (strRows L)), .d (.v (.int .i64 (at0 : Nat))), .d (.v (.int .i64 fa)), .d (.v (.int .i64 0))])]⟩) (retK R99 1 os K) (panK 1 [] K) := by
    intro os ho1 ho2
    simp -dsimp -implicitDefEqProofs only [S99, R99, ↓Ev.xStp_eq, ↓Ev.P, Ev.Q, Bool.cond_true, Bool.cond_false, eq_self, forall_eq_or_imp, implies_true, forall_const, forall_eq, ↓reduceIte, reduceIte, Nat.reduceEqDiff, Nat.reduceAdd, reduceCtorEq, Nat.reduceSub, Int.reduceToNat, Int.reduceLE, Int.reduceLT, Int.reduceNeg, Nat.reduceBEq, Nat.reduceMul, Nat.reduceLeDiff, Nat.reduceMod, UInt8.reduceOfNat, Nat.reduceLT, Int.reduceEq, Int.reduceAdd, Int.reduceSub, Int.reduceMul]
    refine xLoop_intro (fun m st => (∃ (k : Nat) (acc : List (List UInt8)), k ≤ L.length ∧ m = L.length - k + 1 ∧ acc.length ≤ k ∧ bodyL L (L.length - k) k acc = Y ∧ (∀ x ∈ acc, x.length ≤ 1099511627776) ∧
        st = ⟨[(0, .ptr 0 0), (3, .own 1)], 2, [(0, .cells t [.d (.sl (strRows L)), .d (.v (.int .i64 (k : Nat))), .d (.v (.int .i64 fa)), .d (.v (.int .i64 0))]), (1, .row 9 1 (strRows acc))]⟩) ∨
      (∃ (a e : Int) (rows : List (List D)), m = 0 ∧ ¬ e = 0 ∧ Y = .error (a, e) ∧ st = ⟨[(0, .ptr 0 0), (3, .own 1)], 2, [(0, .cells t [.d (.sl (strRows L)), .d (.v (.int .i64 a)), .d (.v (.int .i64 a)), .d (.v (.int .i64 e))]), (1, .row 9 1 rows)]⟩)) (L.length - at0 + 1) [0, 1] ?_ ?_ ?_
    · simp -dsimp -implicitDefEqProofs only [↓Ev.xStp_eq, ↓Ev.P, Ev.Q, Bool.cond_true, Bool.cond_false, eq_self, forall_eq_or_imp, implies_true, forall_const, forall_eq, ↓reduceIte, reduceIte, Nat.reduceEqDiff, Nat.reduceAdd, reduceCtorEq, Nat.reduceSub, Int.reduceToNat, Int.reduceLE, Int.reduceLT, Int.reduceNeg, Nat.reduceBEq, Nat.reduceMul, Nat.reduceLeDiff, Nat.reduceMod, UInt8.reduceOfNat, Nat.reduceLT, Int.reduceEq, Int.reduceAdd, Int.reduceSub, Int.reduceMul]
    · simp -dsimp -implicitDefEqProofs only [↓Ev.xStp_eq, ↓Ev.P, Ev.Q, Bool.cond_true, Bool.cond_false, eq_self, forall_eq_or_imp, implies_true, forall_const, forall_eq, ↓reduceIte, reduceIte, Nat.reduceEqDiff, Nat.reduceAdd, reduceCtorEq, Nat.reduceSub, Int.reduceToNat, Int.reduceLE, Int.reduceLT, Int.reduceNeg, Nat.reduceBEq, Nat.reduceMul, Nat.reduceLeDiff, Nat.reduceMod, UInt8.reduceOfNat, Nat.reduceLT, Int.reduceEq, Int.reduceAdd, Int.reduceSub, Int.reduceMul]
      exact .inl ⟨at0, [], by omega, rfl, by simp, hY, by simp, rfl⟩
    · rintro m st (⟨k, acc, hk1, rfl, hal, hgo, hacc, rfl⟩ | ⟨a, e, rows, rfl, he, rfl, rfl⟩)
      · have _t := trivial
        by_cases hlt : k < L.length
        · obtain ⟨j, hj⟩ : ∃ j, L.length - k = j + 1 := ⟨L.length - k - 1, by omega⟩
          rw [hj, bodyL] at hgo
          cases hx : nextL L k with
          | error x =>
            obtain ⟨xa, xe⟩ := x
            rw [hx] at hgo; dsimp only at hgo
            have hye := hgo.symm
            obtain ⟨hn, ha, he⟩ := nx_next_err fa hx
            (try subst ha)
            simp -dsimp -implicitDefEqProofs only [hn, CNext, rdr, unStr_rows, strRows_len, List.length_append, ↓Ev.P, Ev.Q, Bool.cond_true, Bool.cond_false, eq_self, forall_eq_or_imp, implies_true, forall_const, forall_eq, ↓reduceIte, reduceIte, Nat.reduceEqDiff, Nat.reduceAdd, reduceCtorEq, Nat.reduceSub, Int.reduceToNat, Int.reduceLE, Int.reduceLT, Int.reduceNeg, Nat.reduceBEq, Nat.reduceMul, Nat.reduceLeDiff, Nat.reduceMod, UInt8.reduceOfNat, Nat.reduceLT, Int.reduceEq, Int.reduceAdd, Int.reduceSub, Int.reduceMul]
            repeat' (first | with_reducible assumption | refine And.intro ?_ ?_ | intro _ | (rw [Ev.xStp_eq]; simp -dsimp -implicitDefEqProofs only [hn, CNext, rdr, unStr_rows, strRows_len, List.length_append, ↓Ev.P, Ev.Q, Bool.cond_true, Bool.cond_false, eq_self, forall_eq_or_imp, implies_true, forall_const, forall_eq, ↓reduceIte, reduceIte, Nat.reduceEqDiff, Nat.reduceAdd, reduceCtorEq, Nat.reduceSub, Int.reduceToNat, Int.reduceLE, Int.reduceLT, Int.reduceNeg, Nat.reduceBEq, Nat.reduceMul, Nat.reduceLeDiff, Nat.reduceMod, UInt8.reduceOfNat, Nat.reduceLT, Int.reduceEq, Int.reduceAdd, Int.reduceSub, Int.reduceMul]))
            all_goals try omega
            refine xAgain_intro 0 [0, 3] (by omega) (by simp -dsimp -implicitDefEqProofs only [↓Ev.xStp_eq, ↓Ev.P, Ev.Q, Bool.cond_true, Bool.cond_false, eq_self, forall_eq_or_imp, implies_true, forall_const, forall_eq, ↓reduceIte, reduceIte, Nat.reduceEqDiff, Nat.reduceAdd, reduceCtorEq, Nat.reduceSub, Int.reduceToNat, Int.reduceLE, Int.reduceLT, Int.reduceNeg, Nat.reduceBEq, Nat.reduceMul, Nat.reduceLeDiff, Nat.reduceMod, UInt8.reduceOfNat, Nat.reduceLT, Int.reduceEq, Int.reduceAdd, Int.reduceSub, Int.reduceMul]) (.inr ⟨(k : Int) + 1, _, (strRows acc ++ [[.v (.string ⟨([] : List UInt8).toArray⟩)]]), rfl, he, hye, ?_⟩)
            simp -dsimp -implicitDefEqProofs only [↓Ev.xStp_eq, ↓Ev.P, Ev.Q, Bool.cond_true, Bool.cond_false, eq_self, forall_eq_or_imp, implies_true, forall_const, forall_eq, ↓reduceIte, reduceIte, Nat.reduceEqDiff, Nat.reduceAdd, reduceCtorEq, Nat.reduceSub, Int.reduceToNat, Int.reduceLE, Int.reduceLT, Int.reduceNeg, Nat.reduceBEq, Nat.reduceMul, Nat.reduceLeDiff, Nat.reduceMod, UInt8.reduceOfNat, Nat.reduceLT, Int.reduceEq, Int.reduceAdd, Int.reduceSub, Int.reduceMul]
            all_goals rfl
          | ok x =>
            obtain ⟨s, a⟩ := x
            obtain ⟨rfl, _, hs⟩ := nextL_le hx
            have hsl : s.length ≤ 1099511627776 := by rw [hs]; exact Nat.le_trans (bare_len _) (hL _ (getD_in hlt))
            have hn := nx_next_ok fa hx
            have ec : ((k + 1 : Nat) : Int) = (k : Int) + 1 := by omega
            rw [hx] at hgo; dsimp only at hgo
            clear hs
            by_cases hd : s = [46]
            · rw [if_pos hd] at hgo; subst hgo
              rw [ho1 _ rfl]
              simp only [bodR, Prod.mk.injEq] at h2
              obtain ⟨rfl, rfl⟩ := h2
              rw [ec] at hk
              simp -dsimp -implicitDefEqProofs only [hn, hd, CNext, rdr, unStr_rows, strRows_len, List.length_append, ↓Ev.P, Ev.Q, Bool.cond_true, Bool.cond_false, eq_self, forall_eq_or_imp, implies_true, forall_const, forall_eq, ↓reduceIte, reduceIte, Nat.reduceEqDiff, Nat.reduceAdd, reduceCtorEq, Nat.reduceSub, Int.reduceToNat, Int.reduceLE, Int.reduceLT, Int.reduceNeg, Nat.reduceBEq, Nat.reduceMul, Nat.reduceLeDiff, Nat.reduceMod, UInt8.reduceOfNat, Nat.reduceLT, Int.reduceEq, Int.reduceAdd, Int.reduceSub, Int.reduceMul]
              repeat' (first | with_reducible assumption | refine And.intro ?_ ?_ | intro _ | (rw [Ev.xStp_eq]; simp -dsimp -implicitDefEqProofs only [hn, hd, CNext, rdr, unStr_rows, strRows_len, List.length_append, ↓Ev.P, Ev.Q, Bool.cond_true, Bool.cond_false, eq_self, forall_eq_or_imp, implies_true, forall_const, forall_eq, ↓reduceIte, reduceIte, Nat.reduceEqDiff, Nat.reduceAdd, reduceCtorEq, Nat.reduceSub, Int.reduceToNat, Int.reduceLE, Int.reduceLT, Int.reduceNeg, Nat.reduceBEq, Nat.reduceMul, Nat.reduceLeDiff, Nat.reduceMod, UInt8.reduceOfNat, Nat.reduceLT, Int.reduceEq, Int.reduceAdd, Int.reduceSub, Int.reduceMul]))
              all_goals try omega
              all_goals exact hk
            · rw [if_neg hd] at hgo
              simp -dsimp -implicitDefEqProofs only [hn, hd, CNext, rdr, unStr_rows, strRows_len, List.length_append, ↓Ev.P, Ev.Q, Bool.cond_true, Bool.cond_false, eq_self, forall_eq_or_imp, implies_true, forall_const, forall_eq, ↓reduceIte, reduceIte, Nat.reduceEqDiff, Nat.reduceAdd, reduceCtorEq, Nat.reduceSub, Int.reduceToNat, Int.reduceLE, Int.reduceLT, Int.reduceNeg, Nat.reduceBEq, Nat.reduceMul, Nat.reduceLeDiff, Nat.reduceMod, UInt8.reduceOfNat, Nat.reduceLT, Int.reduceEq, Int.reduceAdd, Int.reduceSub, Int.reduceMul]
              repeat' (first | with_reducible assumption | refine And.intro ?_ ?_ | intro _ | (rw [Ev.xStp_eq]; simp -dsimp -implicitDefEqProofs only [hn, hd, CNext, rdr, unStr_rows, strRows_len, List.length_append, ↓Ev.P, Ev.Q, Bool.cond_true, Bool.cond_false, eq_self, forall_eq_or_imp, implies_true, forall_const, forall_eq, ↓reduceIte, reduceIte, Nat.reduceEqDiff, Nat.reduceAdd, reduceCtorEq, Nat.reduceSub, Int.reduceToNat, Int.reduceLE, Int.reduceLT, Int.reduceNeg, Nat.reduceBEq, Nat.reduceMul, Nat.reduceLeDiff, Nat.reduceMod, UInt8.reduceOfNat, Nat.reduceLT, Int.reduceEq, Int.reduceAdd, Int.reduceSub, Int.reduceMul]))
              all_goals try omega
              refine xAgain_intro (j + 1) [0, 3] (by omega) (by simp -dsimp -implicitDefEqProofs only [↓Ev.xStp_eq, ↓Ev.P, Ev.Q, Bool.cond_true, Bool.cond_false, eq_self, forall_eq_or_imp, implies_true, forall_const, forall_eq, ↓reduceIte, reduceIte, Nat.reduceEqDiff, Nat.reduceAdd, reduceCtorEq, Nat.reduceSub, Int.reduceToNat, Int.reduceLE, Int.reduceLT, Int.reduceNeg, Nat.reduceBEq, Nat.reduceMul, Nat.reduceLeDiff, Nat.reduceMod, UInt8.reduceOfNat, Nat.reduceLT, Int.reduceEq, Int.reduceAdd, Int.reduceSub, Int.reduceMul]) (.inl ⟨k + 1, acc ++ [s], by omega, by omega, by rw [List.length_append, List.length_singleton]; omega, by rw [show L.length - (k + 1) = j by omega]; exact hgo, ?_, ?_⟩)
              · intro x hx2
                rcases List.mem_append.1 hx2 with h3 | h3
                · exact hacc x h3
                · rw [List.mem_singleton.1 h3]; exact hsl
              · rw [strRows_snoc]
                simp -dsimp -implicitDefEqProofs only [ec, ↓Ev.xStp_eq, ↓Ev.P, Ev.Q, Bool.cond_true, Bool.cond_false, eq_self, forall_eq_or_imp, implies_true, forall_const, forall_eq, ↓reduceIte, reduceIte, Nat.reduceEqDiff, Nat.reduceAdd, reduceCtorEq, Nat.reduceSub, Int.reduceToNat, Int.reduceLE, Int.reduceLT, Int.reduceNeg, Nat.reduceBEq, Nat.reduceMul, Nat.reduceLeDiff, Nat.reduceMod, UInt8.reduceOfNat, Nat.reduceLT, Int.reduceEq, Int.reduceAdd, Int.reduceSub, Int.reduceMul]
                all_goals rfl
        · have e0 : L.length - k = 0 := by omega
          rw [e0, bodyL] at hgo
          have hye := hgo.symm
          have hx := nextL_end hlt
          obtain ⟨hn, ha, he⟩ := nx_next_err fa hx
          (try subst ha)
          simp -dsimp -implicitDefEqProofs only [hn, CNext, rdr, unStr_rows, strRows_len, List.length_append, ↓Ev.P, Ev.Q, Bool.cond_true, Bool.cond_false, eq_self, forall_eq_or_imp, implies_true, forall_const, forall_eq, ↓reduceIte, reduceIte, Nat.reduceEqDiff, Nat.reduceAdd, reduceCtorEq, Nat.reduceSub, Int.reduceToNat, Int.reduceLE, Int.reduceLT, Int.reduceNeg, Nat.reduceBEq, Nat.reduceMul, Nat.reduceLeDiff, Nat.reduceMod, UInt8.reduceOfNat, Nat.reduceLT, Int.reduceEq, Int.reduceAdd, Int.reduceSub, Int.reduceMul]
          repeat' (first | with_reducible assumption | refine And.intro ?_ ?_ | intro _ | (rw [Ev.xStp_eq]; simp -dsimp -implicitDefEqProofs only [hn, CNext, rdr, unStr_rows, strRows_len, List.length_append, ↓Ev.P, Ev.Q, Bool.cond_true, Bool.cond_false, eq_self, forall_eq_or_imp, implies_true, forall_const, forall_eq, ↓reduceIte, reduceIte, Nat.reduceEqDiff, Nat.reduceAdd, reduceCtorEq, Nat.reduceSub, Int.reduceToNat, Int.reduceLE, Int.reduceLT, Int.reduceNeg, Nat.reduceBEq, Nat.reduceMul, Nat.reduceLeDiff, Nat.reduceMod, UInt8.reduceOfNat, Nat.reduceLT, Int.reduceEq, Int.reduceAdd, Int.reduceSub, Int.reduceMul]))
          all_goals try omega
          refine xAgain_intro 0 [0, 3] (by omega) (by simp -dsimp -implicitDefEqProofs only [↓Ev.xStp_eq, ↓Ev.P, Ev.Q, Bool.cond_true, Bool.cond_false, eq_self, forall_eq_or_imp, implies_true, forall_const, forall_eq, ↓reduceIte, reduceIte, Nat.reduceEqDiff, Nat.reduceAdd, reduceCtorEq, Nat.reduceSub, Int.reduceToNat, Int.reduceLE, Int.reduceLT, Int.reduceNeg, Nat.reduceBEq, Nat.reduceMul, Nat.reduceLeDiff, Nat.reduceMod, UInt8.reduceOfNat, Nat.reduceLT, Int.reduceEq, Int.reduceAdd, Int.reduceSub, Int.reduceMul]) (.inr ⟨(k : Int) + 1, _, (strRows acc ++ [[.v (.string ⟨([] : List UInt8).toArray⟩)]]), rfl, he, hye, ?_⟩)
          simp -dsimp -implicitDefEqProofs only [↓Ev.xStp_eq, ↓Ev.P, Ev.Q, Bool.cond_true, Bool.cond_false, eq_self, forall_eq_or_imp, implies_true, forall_const, forall_eq, ↓reduceIte, reduceIte, Nat.reduceEqDiff, Nat.reduceAdd, reduceCtorEq, Nat.reduceSub, Int.reduceToNat, Int.reduceLE, Int.reduceLT, Int.reduceNeg, Nat.reduceBEq, Nat.reduceMul, Nat.reduceLeDiff, Nat.reduceMod, UInt8.reduceOfNat, Nat.reduceLT, Int.reduceEq, Int.reduceAdd, Int.reduceSub, Int.reduceMul]
          all_goals rfl
      · rw [ho2 _ rfl]
        simp only [bodR, Prod.mk.injEq] at h2
        obtain ⟨rfl, rfl⟩ := h2
        simp -dsimp -implicitDefEqProofs only [he, ↓Ev.xStp_eq, ↓Ev.P, Ev.Q, Bool.cond_true, Bool.cond_false, eq_self, forall_eq_or_imp, implies_true, forall_const, forall_eq, ↓reduceIte, reduceIte, Nat.reduceEqDiff, Nat.reduceAdd, reduceCtorEq, Nat.reduceSub, Int.reduceToNat, Int.reduceLE, Int.reduceLT, Int.reduceNeg, Nat.reduceBEq, Nat.reduceMul, Nat.reduceLeDiff, Nat.reduceMod, UInt8.reduceOfNat, Nat.reduceLT, Int.reduceEq, Int.reduceAdd, Int.reduceSub, Int.reduceMul]
        exact hk
  cases Y with
  | ok y => exact ⟨[0, 1], key _ (fun _ _ => rfl) (fun y h => by cases h)⟩
  | error y => exact ⟨[0], key _ (fun y h => by cases h) (fun _ _ => rfl)⟩
end Go.Proofs.YtlghobefhmpfkaaGreatDoor
set_option linter.unusedVariables false
set_option linter.unusedSimpArgs false
namespace Go.Proofs.YtlghobefhmpfkaaGreatDoor
open Go Go.RowKit
set_option maxRecDepth 100000
def SlCells (w : World) (A : Option Addr) (xs : List Value) : Prop := 0 < xs.length → ∃ ad, A = some ad ∧ ∀ j v, xs[j]? = some v → w.cell? (ad.add j) = some v
theorem SlCells.keep {w W : World} {A : Option Addr} {xs : List Value} (h : SlCells w A xs) (hk : ∀ k, k < w.heap.size → W.heap[k]? = w.heap[k]?) : SlCells W A xs := fun h0 => by
  obtain ⟨ad, e, hc⟩ := h h0
  exact ⟨ad, e, fun j v hj => by rw [World.cell?_of_block (hk _ (Ev.cell_lt (hc j v hj)))]; exact hc j v hj⟩
theorem SlCells.take {w : World} {A : Option Addr} {xs : List Value} (h : SlCells w A xs) (k : Nat) : SlCells w A (xs.take k) := fun h0 => by
  obtain ⟨ad, e, hc⟩ := h (by rw [List.length_take] at h0; omega)
  refine ⟨ad, e, fun j v hj => hc j v ?_⟩
  rw [List.getElem?_take] at hj
  split at hj
  · exact hj
  · cases hj
theorem SlCells.drop {w : World} {A : Option Addr} {xs : List Value} (h : SlCells w A xs) (k : Nat) : SlCells w (A.map (·.add k)) (xs.drop k) := fun h0 => by
  obtain ⟨ad, e, hc⟩ := h (by rw [List.length_drop] at h0; omega)
  subst e
  refine ⟨_, rfl, fun j v hj => ?_⟩
  rw [Ev.add_add]
  exact hc _ v (by rw [List.getElem?_drop] at hj; exact hj)
theorem uStrs : Tryz.prog.underlying 22 = some (.slice 9) := by kernel_rfl
theorem zStr : (Tryz.prog.info? 9).map (·.size) = some 1 := by kernel_rfl
theorem iStr : ∃ i z, Tryz.prog.info? 9 = some i ∧ i.zero = some z ∧ i.size = 1 ∧ i.bytes = 16 := by
  have h : ((Tryz.prog.info? 9).bind fun i => i.zero.map fun z => (i.size, i.bytes)) = some (1, 16) := by kernel_rfl
  obtain ⟨i, h1, h2⟩ := Option.bind_eq_some_iff.1 h
  obtain ⟨z, h3, h4⟩ := Option.map_eq_some_iff.1 h2
  simp only [Prod.mk.injEq] at h4
  exact ⟨i, z, h1, h3, h4.1, h4.2⟩
theorem mk_strs (N : Nat) (V : Int) (hV : V = N) (hN : N ≤ 4398046511104) : ∃ Z : List Value, Z.length = N ∧ ∀ W : World, (Instr.makeSlice 22 (.int .i64 V) (.int .i64 V)).run Tryz.prog W = .ok (.slice (some ⟨W.heap.size, 0, none⟩) N N) (W.alloc (.cells Z.toArray 9)) := by
  obtain ⟨i, z, h1, h2, h3, h4⟩ := iStr
  subst hV
  refine ⟨(madeCells z.cells (N * i.size)).toList, by simp [size_madeCells, h3], fun W => ?_⟩
  have := run_make (P := Tryz.prog) W 22 9 i z uStrs h1 h2 .i64 .i64 (N : Int) (N : Int) (by omega) (Int.le_refl _) (by rw [h4]; omega) (by omega)
  simpa using this
structure OneRow (g : Nat) (w w' : World) : Prop where
  os : w'.os = w.os
  tape : w'.tape = w.tape
  output : w'.output = w.output
  size : w'.heap.size = w.heap.size
  other : ∀ k, k ≠ g → w'.heap[k]? = w.heap[k]?
theorem OneRow.refl (g : Nat) (w : World) : OneRow g w w := ⟨rfl, rfl, rfl, rfl, fun _ _ => rfl⟩
theorem OneRow.trans {g : Nat} {w w1 w2 : World} (h : OneRow g w w1) (k : OneRow g w1 w2) : OneRow g w w2 :=
  ⟨k.os.trans h.os, k.tape.trans h.tape, k.output.trans h.output, k.size.trans h.size, fun j hj => (k.other j hj).trans (h.other j hj)⟩
theorem OneRow.cell {g : Nat} {w w' : World} (h : OneRow g w w') {a : Addr} (ha : a.block ≠ g) : w'.cell? a = w.cell? a := by simp [World.cell?, h.other _ ha]
theorem OneRow.frozen {g : Nat} {w w' : World} (h : OneRow g w w') {a : Addr} (ha : a.block ≠ g) : w'.frozen? a = w.frozen? a := by simp [World.frozen?, h.other _ ha]
theorem oneRow_setRow (w : World) (g : Nat) (cs : Array Value) : OneRow g w (w.setRow g cs) := ⟨rfl, rfl, rfl, by simp [World.setRow], fun k hk => setRow_other w g k cs hk⟩
theorem copy_step {W : World} {dp sp : Option Addr} {dLen dCap sLen sCap : Nat} {C : Result Next → Prop} (g off : Nat) (cur cs : List Value)
    (hg : W.heap[g]? = some (.cells cur.toArray 9 (0, 0))) (hn : cs.length = Nat.min sLen dLen)
    (hpos : 0 < cs.length → dp = some ⟨g, off, none⟩ ∧ ∃ ad, sp = some ad ∧ ∀ j v, cs[j]? = some v → W.cell? (ad.add j) = some v)
    (hfit : off + cs.length ≤ cur.length) (h1 : ∀ v ∈ cs, v.oneCell' = true)
    (h : ∀ w', Hid (w'.heap[g]? = some (.cells (splice cur off cs).toArray 9 (0, 0))) → OneRow g W w' → C (.ok (.value (goInt cs.length)) w')) :
    C ((Sem.run Tryz.prog (Builtin.copy_ #[22, 22] 3 #[.slice dp dLen dCap, .slice sp sLen sCap]) W).andThen fun a w' => .ok (.value a) w') := by
  by_cases h0 : cs.length = 0
  · obtain rfl : cs = [] := List.eq_nil_of_length_eq_zero h0
    rw [run_copy_none (P := Tryz.prog) W 22 22 3 9 dp sp dLen dCap sLen sCap uStrs zStr (by simpa using hn.symm)]
    exact h W (show _ = _ by simpa [splice] using hg) (OneRow.refl _ _)
  · obtain ⟨rfl, ad, rfl, hsrc⟩ := hpos (by omega)
    rw [run_copy_row (P := Tryz.prog) W 22 22 3 9 g off dLen dCap ad sLen sCap cur.toArray 9 cs uStrs zStr hg hn hsrc (by simpa using hfit) h1]
    exact h _ (show _ = _ by simpa [splice] using setRow_heap W g _ _ 9 _ hg) (oneRow_setRow _ _ _)
theorem oneRow_setCell (w : World) (b o : Nat) (v : Value) : OneRow b w (w.setCell ⟨b, o, none⟩ v) := ⟨rfl, rfl, rfl, by simp [World.setCell], fun k hk => Below.heap_setCell _ _ _ _ hk⟩
theorem set4 {w : World} {b : Nat} {te : TypeId} {x0 x1 x2 x3 : Value} (h : w.heap[b]? = some (.cells #[x0, x1, x2, x3] te (0, 0))) (v : Value) :
    (w.setCell ⟨b, 0, none⟩ v).heap[b]? = some (.cells #[v, x1, x2, x3] te (0, 0)) ∧ (w.setCell ⟨b, 1, none⟩ v).heap[b]? = some (.cells #[x0, v, x2, x3] te (0, 0)) := by
  constructor
  · simp only [World.setCell, Array.getElem?_modify, if_true, h, Option.map_some]
    rfl
  · simp only [World.setCell, Array.getElem?_modify, if_true, h, Option.map_some]
    rfl
def ReplW (w : World) (b : Nat) (te : TypeId) (lv av : Value) (rows : List Value) (cur : Int) (e : Ending) (w' : World) : Prop :=
  e = .returned (.tuple #[]) ∧ ∃ g, w.heap.size ≤ g ∧ w'.heap[g]? = some (.cells rows.toArray 9 (0, 0)) ∧ w'.heap[b]? = some (.cells #[.slice (some ⟨g, 0, none⟩) rows.length rows.length, .int .i64 cur, lv, av] te (0, 0)) ∧
    w'.os = w.os ∧ w'.tape = w.tape ∧ w'.output = w.output ∧ w.heap.size ≤ w'.heap.size ∧ ∀ k, k < w.heap.size → k ≠ b → w'.heap[k]? = w.heap[k]?
theorem repl_fin {w w3 W : World} {b : Nat} {te : TypeId} {lv av V : Value} {Z3 R : List Value} {cu cv : Int} (hbl : b < w.heap.size) (hB : Below w.heap.size w w3) (hG : w3.heap[w.heap.size]? = some (.cells Z3.toArray 9 (0, 0)))
    (hW : W.heap[b]? = some (.cells #[V, .int .i64 cv, lv, av] te (0, 0))) (ho : OneRow b w3 W) (hV : V = .slice (some ⟨w.heap.size, 0, none⟩) R.length R.length) (hZ : Z3 = R) (hc : cv = cu) : ReplW w b te lv av R cu (.returned (.tuple #[])) W :=
  ⟨rfl, w.heap.size, Nat.le_refl _, by rw [ho.other _ (by omega), hG, hZ], by rw [hW, hV, hc], ho.os.trans hB.os, ho.tape.trans hB.tape, ho.output.trans hB.output, by rw [ho.size]; exact hB.size, fun k hk hkb => (ho.other k hkb).trans (hB.block k hk)⟩
theorem repl_fin1 {w w3 : World} {b N : Nat} {te : TypeId} {x0 x1 lv av : Value} {Z3 R : List Value} {cu cv : Int} (hbl : b < w.heap.size) (hB : Below w.heap.size w w3) (hG : w3.heap[w.heap.size]? = some (.cells Z3.toArray 9 (0, 0)))
    (hb3 : w3.heap[b]? = some (.cells #[x0, x1, lv, av] te (0, 0))) (hN : R.length = N) (hZ : Z3 = R) (hc : cv = cu) :
    ReplW w b te lv av R cu (.returned (.tuple #[])) ((w3.setCell ⟨b, 0, none⟩ (.slice (some ⟨w.heap.size, 0, none⟩) N N)).setCell ⟨b, 1, none⟩ (.int .i64 cv)) :=
  repl_fin hbl hB hG (set4 (set4 hb3 _).1 _).2 ((oneRow_setCell _ _ _ _).trans (oneRow_setCell _ _ _ _)) (by rw [hN]) hZ hc
theorem repl_fin2 {w w3 : World} {b N : Nat} {te : TypeId} {x0 x1 lv av u : Value} {Z3 R : List Value} {cu cv : Int} (hbl : b < w.heap.size) (hB : Below w.heap.size w w3) (hG : w3.heap[w.heap.size]? = some (.cells Z3.toArray 9 (0, 0)))
    (hb3 : w3.heap[b]? = some (.cells #[x0, x1, lv, av] te (0, 0))) (hN : R.length = N) (hZ : Z3 = R) (hc : cv = cu) :
    ReplW w b te lv av R cu (.returned (.tuple #[])) (((w3.setCell ⟨b, 0, none⟩ (.slice (some ⟨w.heap.size, 0, none⟩) N N)).setCell ⟨b, 1, none⟩ u).setCell ⟨b, 1, none⟩ (.int .i64 cv)) :=
  repl_fin hbl hB hG (set4 (set4 (set4 hb3 _).1 _).2 _).2 (((oneRow_setCell _ _ _ _).trans (oneRow_setCell _ _ _ _)).trans (oneRow_setCell _ _ _ _)) (by rw [hN]) hZ hc
theorem repl_len {xs ys R Z X1 X2 : List Value} {at_ n tl ll N M1 M2 : Nat} (hR : R = xs.take at_ ++ (ys ++ xs.drop (at_ + n))) (hX1 : X1 = xs.take at_) (hX2 : X2 = xs.drop M2) (e1 : M1 = at_ + ll) (e2 : M2 = at_ + n) (e3 : N = tl - n + ll) (e5 : ys.length = ll) (e6 : Z.length = N) (e7 : xs.length = tl) (h1 : at_ + n ≤ tl) :
    R.length = N ∧ splice (splice (splice Z 0 X1) at_ ys) M1 X2 = R := by
  subst e1 e2
  have l1 : X1.length = at_ := by rw [hX1, List.length_take]; omega
  have l2 : X2.length = tl - (at_ + n) := by rw [hX2, List.length_drop]; omega
  refine ⟨?_, ?_⟩
  · rw [hR]
    simp only [List.length_append, List.length_take, List.length_drop]
    omega
  · rw [splice_splice_splice Z X1 ys X2 at_ ll l1 e5 (by omega), hR, hX1, hX2]
set_option maxHeartbeats 8000000 in
theorem repl_run (w : World) (b : Nat) (te : TypeId) (A : Option Addr) (tl tc : Nat) (c0 lv av : Value) (at_ n : Nat) (LA : Option Addr) (ll lc : Nat) (xs ys R : List Value) (cu : Int) (hR : R = xs.take at_ ++ (ys ++ xs.drop (at_ + n))) (hcu : cu = if ys.length = 0 then -1 else (at_ : Int) + ys.length - 1)
    (hb : w.heap[b]? = some (.cells #[.slice A tl tc, c0, lv, av] te (0, 0))) (h1 : at_ + n ≤ tl) (htc : tl ≤ tc) (hlc : ll ≤ lc) (hs : tl ≤ 1099511627776 ∧ ll ≤ 1099511627776) (hxl : xs.length = tl) (hA : SlCells w A xs) (hyl : ys.length = ll) (hLA : SlCells w LA ys) (hx1 : ∀ v ∈ xs, v.oneCell' = true) (hy1 : ∀ v ∈ ys, v.oneCell' = true) :
    Calls Tryz.prog 96 #[.pointer (some ⟨b, 0, none⟩), .int .i64 at_, .int .i64 n, .slice LA ll lc] w (ReplW w b te lv av R cu) := by
  have HR := Lib.hid hR
  have Hcu := Lib.hid hcu
  clear hR hcu
  have hbl : b < w.heap.size := (Array.getElem?_eq_some_iff.1 hb).1
  have c1 : w.cell? ⟨b, 0, none⟩ = some (.slice A tl tc) := by simp [World.cell?, hb]
  obtain ⟨N, hN0⟩ : ∃ N, N = tl - n + ll := ⟨_, rfl⟩
  have hN1 : N + n ≤ tl + ll := by omega
  have hN2 : tl + ll ≤ N + n := by omega
  obtain ⟨Z, hZ0, hm⟩ := mk_strs N ((tl : Int) - n + ll) (by omega) (by omega)
  have hN := Lib.hid hN0
  have hZ := Lib.hid hZ0
  clear hN0 hZ0
  have hatN : at_ ≤ N := by omega
  obtain ⟨X1, hX1⟩ : ∃ X1, X1 = xs.take at_ := ⟨_, rfl⟩
  have hl1 : X1.length = Nat.min at_ N := by
    have e : Nat.min at_ N = at_ := Nat.min_eq_left hatN
    rw [hX1, List.length_take, e]; omega
  have ho1 : ∀ v ∈ X1, v.oneCell' = true := fun v hv => hx1 v (List.mem_of_mem_take (hX1 ▸ hv))
  have hz1 : 0 + X1.length ≤ Z.length := by
    have e : Nat.min at_ N = at_ := Nat.min_eq_left hatN
    rw [hl1, e, hZ.out]; omega
  have hX1c : SlCells w A X1 := hX1 ▸ hA.take at_
  obtain ⟨M1, hM1⟩ : ∃ M1, M1 = at_ + ll := ⟨_, rfl⟩
  obtain ⟨M2, hM2⟩ : ∃ M2, M2 = at_ + n := ⟨_, rfl⟩
  have HM1 := Lib.hid hM1
  have HM2 := Lib.hid hM2
  clear hM1 hM2
  obtain ⟨X2, hX2⟩ : ∃ X2, X2 = xs.drop M2 := ⟨_, rfl⟩
  have ho2 : ∀ v ∈ X2, v.oneCell' = true := fun v hv => hx1 v (List.mem_of_mem_drop (hX2 ▸ hv))
  have hl2 : X2.length = tl - M2 := by rw [hX2, List.length_drop, hxl]
  have hX2c : SlCells w (A.map (·.add M2)) X2 := hX2 ▸ hA.drop M2
  have HX2 := Lib.hid hX2
  have HX2o := Lib.hid ho2
  have Hl2 := Lib.hid hl2
  have HX2c := Lib.hid hX2c
  clear hX2 ho2 hl2 hX2c
  have Hl1 := Lib.hid hl1
  have Ho1 := Lib.hid ho1
  have Hz1 := Lib.hid hz1
  have HX1c := Lib.hid hX1c
  have HX1 := Lib.hid hX1
  have Hxl := Lib.hid hxl
  have Hyl := Lib.hid hyl
  have HA := Lib.hid hA
  have HLA := Lib.hid hLA
  have Hx1 := Lib.hid hx1
  have Hy1 := Lib.hid hy1
  clear hl1 ho1 hz1 hX1c hX1 hxl hyl hA hLA hx1 hy1
  go_enter Tryz.func96, Tryz.ntmps96
  go_wp2_with fail
  refine copy_step (C := Oper.upon _ _ _ _ _) w.heap.size 0 Z X1 (heap_alloc_new w _) Hl1.out (fun h0 => ⟨rfl, HX1c.out.keep (fun k hk => Ev.al_old _ _ _ hk) h0⟩) Hz1.out Ho1.out ?_
  intro W1 HG1 HR1
  have hk1 : ∀ k, k < w.heap.size → W1.heap[k]? = w.heap[k]? := fun k hk => (HR1.other k (by omega)).trans (Ev.al_old _ _ _ hk)
  have Hk1 := Lib.hid hk1
  have hb1 : W1.heap[b]? = some (.cells #[.slice A tl tc, c0, lv, av] te (0, 0)) := (hk1 b hbl).trans hb
  have c1' : W1.cell? ⟨b, 0, none⟩ = some (.slice A tl tc) := by simp [World.cell?, hb1]
  clear hk1 hb1
  go_wp2_with fail
  all_goals refine copy_step (C := Oper.upon _ _ _ _ _) w.heap.size at_ (splice Z 0 X1) ys HG1.out (by have e1 := Hyl.out; have e2 := hN.out; show _ = min _ _; omega) (fun h0 => ⟨by first | rfl | (exfalso; have e1 := Hyl.out; have e2 := hN.out; omega), HLA.out.keep Hk1.out h0⟩) (by have e1 := Hyl.out; have e2 := hN.out; have e3 := hZ.out; rw [length_splice _ _ _ Hz1.out]; omega) Hy1.out ?_
  all_goals intro W2 HG2 HR2
  all_goals (
    have hk2 : ∀ k, k < w.heap.size → W2.heap[k]? = w.heap[k]? := fun k hk => (HR2.other k (by omega)).trans (Hk1.out k hk)
    have Hk2 := Lib.hid hk2
    have hb2 : W2.heap[b]? = some (.cells #[.slice A tl tc, c0, lv, av] te (0, 0)) := (hk2 b hbl).trans hb
    have c2' : W2.cell? ⟨b, 0, none⟩ = some (.slice A tl tc) := by simp [World.cell?, hb2]
    clear hk2 hb2)
  all_goals go_wp2_with fail
  · have hB2 : Below w.heap.size w W2 := ⟨HR2.os.trans HR1.os, HR2.tape.trans HR1.tape, HR2.output.trans HR1.output, by rw [HR2.size, HR1.size]; simp, fun k hk => Hk2.out k hk⟩
    have HB2 := Lib.hid hB2
    clear hB2
    have hM1N : M1 ≤ at_ := by have e1 := HM1.out; have e2 := hN.out; omega
    have hM2t : M2 ≤ tl := by have e1 := HM2.out; omega
    have hfit2 : M1 + X2.length ≤ (splice (splice Z 0 X1) at_ ys).length := by
      have e1 := Hl2.out; have e2 := hN.out; have e3 := HM1.out; have e4 := HM2.out; have e5 := hZ.out; have e6 := Hyl.out
      have e7 := length_splice Z 0 X1 Hz1.out
      rw [length_splice _ _ _ (by omega)]; omega
    have Hfit2 := Lib.hid hfit2
    clear hfit2
    rcases Nat.lt_or_ge M1 at_ with q1 | q1
    · have q1' : ¬ at_ = M1 := by omega
      rcases Nat.lt_or_ge M2 tc with q2 | q2
      · have q2' : ¬ tc = M2 := by omega
        have w1 : IntKind.i64.wrap ((at_ : Int) + (ll : Int)) = (M1 : Int) := by
          have e1 := HM1.out
          rw [IntKind.wrap_i64]; omega
        have w2 : IntKind.i64.wrap ((at_ : Int) + (n : Int)) = (M2 : Int) := by
          have e1 := HM2.out
          rw [IntKind.wrap_i64]; omega
        go_region_law (refine step_copy_splice rfl (.tmp 38) (.tmp 46) 22 22 rfl 9 uStrs zStr _ _ _ _ _ _ rfl rfl w.heap.size M1 (splice (splice Z 0 X1) at_ ys) 9 HG2.out X2 (by have e1 := Hl2.out; have e2 := hN.out; have e3 := HM1.out; have e4 := HM2.out; show _ = min _ _; omega) (fun h0 => ⟨by first | rfl | (exfalso; have e1 := Hl2.out; have e2 := hN.out; have e3 := HM1.out; have e4 := HM2.out; omega), by first | exact HX2c.out.keep Hk2.out h0 | (exfalso; have e1 := Hl2.out; have e2 := hN.out; have e3 := HM1.out; have e4 := HM2.out; omega)⟩) Hfit2.out HX2o.out w.heap.size w HB2.out.drew (Nat.le_refl _) ?_; intro w3 HG3 HB3; (have hb3 : w3.heap[b]? = some (.cells #[.slice A tl tc, c0, lv, av] te (0, 0)) := (HB3.block b hbl).trans hb); (have c3a : w3.cell? ⟨b, 0, none⟩ = some (.slice A tl tc) := by simp [World.cell?, hb3]); (have c3b : w3.cell? ⟨b, 1, none⟩ = some c0 := by simp [World.cell?, hb3]); (have f3a : w3.frozen? ⟨b, 0, none⟩ = false := by simp [World.frozen?, hb3]); (have f3b : w3.frozen? ⟨b, 1, none⟩ = false := by simp [World.frozen?, hb3]); (have Hb3 := Lib.hid hb3); clear hb3)
        go_wp2_with fail
        all_goals refine ⟨rfl, _, results_none rfl _ _ _, ?_⟩
        all_goals (
          obtain ⟨hRl, hZ3⟩ := repl_len HR.out HX1.out HX2.out HM1.out HM2.out hN.out Hyl.out hZ.out Hxl.out h1
          first
            | (with_reducible refine repl_fin1 hbl HB3 HG3.out Hb3.out (hRl.trans (by have e1 := HM1.out; have e3 := hN.out; omega)) hZ3 ?_
               rw [Hcu.out, if_pos (by have e1 := HM1.out; rw [Hyl.out]; omega)])
            | (with_reducible refine repl_fin2 hbl HB3 HG3.out Hb3.out (hRl.trans (by have e1 := HM1.out; have e3 := hN.out; omega)) hZ3 ?_
               rw [Hcu.out, if_neg (by rw [Hyl.out]; omega), Hyl.out, HM1.out]
               omega)
            | (exfalso; have e1 := HM1.out; have e3 := hN.out; omega))
      · obtain rfl : tc = M2 := by omega
        have w1 : IntKind.i64.wrap ((at_ : Int) + (ll : Int)) = (M1 : Int) := by
          have e1 := HM1.out
          rw [IntKind.wrap_i64]; omega
        have w2 : IntKind.i64.wrap ((at_ : Int) + (n : Int)) = (tc : Int) := by
          have e1 := HM2.out
          rw [IntKind.wrap_i64]; omega
        go_region_law (refine step_copy_splice rfl (.tmp 38) (.tmp 46) 22 22 rfl 9 uStrs zStr _ _ _ _ _ _ rfl rfl w.heap.size M1 (splice (splice Z 0 X1) at_ ys) 9 HG2.out X2 (by have e1 := Hl2.out; have e2 := hN.out; have e3 := HM1.out; have e4 := HM2.out; show _ = min _ _; omega) (fun h0 => ⟨by first | rfl | (exfalso; have e1 := Hl2.out; have e2 := hN.out; have e3 := HM1.out; have e4 := HM2.out; omega), by first | exact HX2c.out.keep Hk2.out h0 | (exfalso; have e1 := Hl2.out; have e2 := hN.out; have e3 := HM1.out; have e4 := HM2.out; omega)⟩) Hfit2.out HX2o.out w.heap.size w HB2.out.drew (Nat.le_refl _) ?_; intro w3 HG3 HB3; (have hb3 : w3.heap[b]? = some (.cells #[.slice A tl tc, c0, lv, av] te (0, 0)) := (HB3.block b hbl).trans hb); (have c3a : w3.cell? ⟨b, 0, none⟩ = some (.slice A tl tc) := by simp [World.cell?, hb3]); (have c3b : w3.cell? ⟨b, 1, none⟩ = some c0 := by simp [World.cell?, hb3]); (have f3a : w3.frozen? ⟨b, 0, none⟩ = false := by simp [World.frozen?, hb3]); (have f3b : w3.frozen? ⟨b, 1, none⟩ = false := by simp [World.frozen?, hb3]); (have Hb3 := Lib.hid hb3); clear hb3)
        go_wp2_with fail
        all_goals refine ⟨rfl, _, results_none rfl _ _ _, ?_⟩
        all_goals (
          obtain ⟨hRl, hZ3⟩ := repl_len HR.out HX1.out HX2.out HM1.out HM2.out hN.out Hyl.out hZ.out Hxl.out h1
          first
            | (with_reducible refine repl_fin1 hbl HB3 HG3.out Hb3.out (hRl.trans (by have e1 := HM1.out; have e3 := hN.out; omega)) hZ3 ?_
               rw [Hcu.out, if_pos (by have e1 := HM1.out; rw [Hyl.out]; omega)])
            | (with_reducible refine repl_fin2 hbl HB3 HG3.out Hb3.out (hRl.trans (by have e1 := HM1.out; have e3 := hN.out; omega)) hZ3 ?_
               rw [Hcu.out, if_neg (by rw [Hyl.out]; omega), Hyl.out, HM1.out]
               omega)
            | (exfalso; have e1 := HM1.out; have e3 := hN.out; omega))
    · obtain rfl : at_ = M1 := by omega
      rcases Nat.lt_or_ge M2 tc with q2 | q2
      · have q2' : ¬ tc = M2 := by omega
        have w1 : IntKind.i64.wrap ((at_ : Int) + (ll : Int)) = (at_ : Int) := by
          have e1 := HM1.out
          rw [IntKind.wrap_i64]; omega
        have w2 : IntKind.i64.wrap ((at_ : Int) + (n : Int)) = (M2 : Int) := by
          have e1 := HM2.out
          rw [IntKind.wrap_i64]; omega
        go_region_law (refine step_copy_splice rfl (.tmp 38) (.tmp 46) 22 22 rfl 9 uStrs zStr _ _ _ _ _ _ rfl rfl w.heap.size at_ (splice (splice Z 0 X1) at_ ys) 9 HG2.out X2 (by have e1 := Hl2.out; have e2 := hN.out; have e3 := HM1.out; have e4 := HM2.out; show _ = min _ _; omega) (fun h0 => ⟨by first | rfl | (exfalso; have e1 := Hl2.out; have e2 := hN.out; have e3 := HM1.out; have e4 := HM2.out; omega), by first | exact HX2c.out.keep Hk2.out h0 | (exfalso; have e1 := Hl2.out; have e2 := hN.out; have e3 := HM1.out; have e4 := HM2.out; omega)⟩) Hfit2.out HX2o.out w.heap.size w HB2.out.drew (Nat.le_refl _) ?_; intro w3 HG3 HB3; (have hb3 : w3.heap[b]? = some (.cells #[.slice A tl tc, c0, lv, av] te (0, 0)) := (HB3.block b hbl).trans hb); (have c3a : w3.cell? ⟨b, 0, none⟩ = some (.slice A tl tc) := by simp [World.cell?, hb3]); (have c3b : w3.cell? ⟨b, 1, none⟩ = some c0 := by simp [World.cell?, hb3]); (have f3a : w3.frozen? ⟨b, 0, none⟩ = false := by simp [World.frozen?, hb3]); (have f3b : w3.frozen? ⟨b, 1, none⟩ = false := by simp [World.frozen?, hb3]); (have Hb3 := Lib.hid hb3); clear hb3)
        go_wp2_with fail
        all_goals refine ⟨rfl, _, results_none rfl _ _ _, ?_⟩
        all_goals (
          obtain ⟨hRl, hZ3⟩ := repl_len HR.out HX1.out HX2.out HM1.out HM2.out hN.out Hyl.out hZ.out Hxl.out h1
          first
            | (with_reducible refine repl_fin1 hbl HB3 HG3.out Hb3.out (hRl.trans (by have e1 := HM1.out; have e3 := hN.out; omega)) hZ3 ?_
               rw [Hcu.out, if_pos (by have e1 := HM1.out; rw [Hyl.out]; omega)])
            | (with_reducible refine repl_fin2 hbl HB3 HG3.out Hb3.out (hRl.trans (by have e1 := HM1.out; have e3 := hN.out; omega)) hZ3 ?_
               rw [Hcu.out, if_neg (by rw [Hyl.out]; omega), Hyl.out, HM1.out]
               omega)
            | (exfalso; have e1 := HM1.out; have e3 := hN.out; omega))
      · obtain rfl : tc = M2 := by omega
        have w1 : IntKind.i64.wrap ((at_ : Int) + (ll : Int)) = (at_ : Int) := by
          have e1 := HM1.out
          rw [IntKind.wrap_i64]; omega
        have w2 : IntKind.i64.wrap ((at_ : Int) + (n : Int)) = (tc : Int) := by
          have e1 := HM2.out
          rw [IntKind.wrap_i64]; omega
        go_region_law (refine step_copy_splice rfl (.tmp 38) (.tmp 46) 22 22 rfl 9 uStrs zStr _ _ _ _ _ _ rfl rfl w.heap.size at_ (splice (splice Z 0 X1) at_ ys) 9 HG2.out X2 (by have e1 := Hl2.out; have e2 := hN.out; have e3 := HM1.out; have e4 := HM2.out; show _ = min _ _; omega) (fun h0 => ⟨by first | rfl | (exfalso; have e1 := Hl2.out; have e2 := hN.out; have e3 := HM1.out; have e4 := HM2.out; omega), by first | exact HX2c.out.keep Hk2.out h0 | (exfalso; have e1 := Hl2.out; have e2 := hN.out; have e3 := HM1.out; have e4 := HM2.out; omega)⟩) Hfit2.out HX2o.out w.heap.size w HB2.out.drew (Nat.le_refl _) ?_; intro w3 HG3 HB3; (have hb3 : w3.heap[b]? = some (.cells #[.slice A tl tc, c0, lv, av] te (0, 0)) := (HB3.block b hbl).trans hb); (have c3a : w3.cell? ⟨b, 0, none⟩ = some (.slice A tl tc) := by simp [World.cell?, hb3]); (have c3b : w3.cell? ⟨b, 1, none⟩ = some c0 := by simp [World.cell?, hb3]); (have f3a : w3.frozen? ⟨b, 0, none⟩ = false := by simp [World.frozen?, hb3]); (have f3b : w3.frozen? ⟨b, 1, none⟩ = false := by simp [World.frozen?, hb3]); (have Hb3 := Lib.hid hb3); clear hb3)
        go_wp2_with fail
        all_goals refine ⟨rfl, _, results_none rfl _ _ _, ?_⟩
        all_goals (
          obtain ⟨hRl, hZ3⟩ := repl_len HR.out HX1.out HX2.out HM1.out HM2.out hN.out Hyl.out hZ.out Hxl.out h1
          first
            | (with_reducible refine repl_fin1 hbl HB3 HG3.out Hb3.out (hRl.trans (by have e1 := HM1.out; have e3 := hN.out; omega)) hZ3 ?_
               rw [Hcu.out, if_pos (by have e1 := HM1.out; rw [Hyl.out]; omega)])
            | (with_reducible refine repl_fin2 hbl HB3 HG3.out Hb3.out (hRl.trans (by have e1 := HM1.out; have e3 := hN.out; omega)) hZ3 ?_
               rw [Hcu.out, if_neg (by rw [Hyl.out]; omega), Hyl.out, HM1.out]
               omega)
            | (exfalso; have e1 := HM1.out; have e3 := hN.out; omega))
  · have hB2 : Below w.heap.size w W2 := ⟨HR2.os.trans HR1.os, HR2.tape.trans HR1.tape, HR2.output.trans HR1.output, by rw [HR2.size, HR1.size]; simp, fun k hk => Hk2.out k hk⟩
    have HB2 := Lib.hid hB2
    clear hB2
    have hM1N : M1 ≤ N := by have e1 := HM1.out; have e2 := hN.out; omega
    have hM2t : M2 ≤ tl := by have e1 := HM2.out; omega
    have hfit2 : M1 + X2.length ≤ (splice (splice Z 0 X1) at_ ys).length := by
      have e1 := Hl2.out; have e2 := hN.out; have e3 := HM1.out; have e4 := HM2.out; have e5 := hZ.out; have e6 := Hyl.out
      have e7 := length_splice Z 0 X1 Hz1.out
      rw [length_splice _ _ _ (by omega)]; omega
    have Hfit2 := Lib.hid hfit2
    clear hfit2
    rcases Nat.lt_or_ge M1 N with q1 | q1
    · have q1' : ¬ N = M1 := by omega
      rcases Nat.lt_or_ge M2 tc with q2 | q2
      · have q2' : ¬ tc = M2 := by omega
        have w1 : IntKind.i64.wrap ((at_ : Int) + (ll : Int)) = (M1 : Int) := by
          have e1 := HM1.out
          rw [IntKind.wrap_i64]; omega
        have w2 : IntKind.i64.wrap ((at_ : Int) + (n : Int)) = (M2 : Int) := by
          have e1 := HM2.out
          rw [IntKind.wrap_i64]; omega
        go_region_law (refine step_copy_splice rfl (.tmp 38) (.tmp 46) 22 22 rfl 9 uStrs zStr _ _ _ _ _ _ rfl rfl w.heap.size M1 (splice (splice Z 0 X1) at_ ys) 9 HG2.out X2 (by have e1 := Hl2.out; have e2 := hN.out; have e3 := HM1.out; have e4 := HM2.out; show _ = min _ _; omega) (fun h0 => ⟨by first | rfl | (exfalso; have e1 := Hl2.out; have e2 := hN.out; have e3 := HM1.out; have e4 := HM2.out; omega), by first | exact HX2c.out.keep Hk2.out h0 | (exfalso; have e1 := Hl2.out; have e2 := hN.out; have e3 := HM1.out; have e4 := HM2.out; omega)⟩) Hfit2.out HX2o.out w.heap.size w HB2.out.drew (Nat.le_refl _) ?_; intro w3 HG3 HB3; (have hb3 : w3.heap[b]? = some (.cells #[.slice A tl tc, c0, lv, av] te (0, 0)) := (HB3.block b hbl).trans hb); (have c3a : w3.cell? ⟨b, 0, none⟩ = some (.slice A tl tc) := by simp [World.cell?, hb3]); (have c3b : w3.cell? ⟨b, 1, none⟩ = some c0 := by simp [World.cell?, hb3]); (have f3a : w3.frozen? ⟨b, 0, none⟩ = false := by simp [World.frozen?, hb3]); (have f3b : w3.frozen? ⟨b, 1, none⟩ = false := by simp [World.frozen?, hb3]); (have Hb3 := Lib.hid hb3); clear hb3)
        go_wp2_with fail
        all_goals refine ⟨rfl, _, results_none rfl _ _ _, ?_⟩
        all_goals (
          obtain ⟨hRl, hZ3⟩ := repl_len HR.out HX1.out HX2.out HM1.out HM2.out hN.out Hyl.out hZ.out Hxl.out h1
          first
            | (with_reducible refine repl_fin1 hbl HB3 HG3.out Hb3.out (hRl.trans (by have e1 := HM1.out; have e3 := hN.out; omega)) hZ3 ?_
               rw [Hcu.out, if_pos (by have e1 := HM1.out; rw [Hyl.out]; omega)])
            | (with_reducible refine repl_fin2 hbl HB3 HG3.out Hb3.out (hRl.trans (by have e1 := HM1.out; have e3 := hN.out; omega)) hZ3 ?_
               rw [Hcu.out, if_neg (by rw [Hyl.out]; omega), Hyl.out, HM1.out]
               omega)
            | (exfalso; have e1 := HM1.out; have e3 := hN.out; omega))
      · obtain rfl : tc = M2 := by omega
        have w1 : IntKind.i64.wrap ((at_ : Int) + (ll : Int)) = (M1 : Int) := by
          have e1 := HM1.out
          rw [IntKind.wrap_i64]; omega
        have w2 : IntKind.i64.wrap ((at_ : Int) + (n : Int)) = (tc : Int) := by
          have e1 := HM2.out
          rw [IntKind.wrap_i64]; omega
        go_region_law (refine step_copy_splice rfl (.tmp 38) (.tmp 46) 22 22 rfl 9 uStrs zStr _ _ _ _ _ _ rfl rfl w.heap.size M1 (splice (splice Z 0 X1) at_ ys) 9 HG2.out X2 (by have e1 := Hl2.out; have e2 := hN.out; have e3 := HM1.out; have e4 := HM2.out; show _ = min _ _; omega) (fun h0 => ⟨by first | rfl | (exfalso; have e1 := Hl2.out; have e2 := hN.out; have e3 := HM1.out; have e4 := HM2.out; omega), by first | exact HX2c.out.keep Hk2.out h0 | (exfalso; have e1 := Hl2.out; have e2 := hN.out; have e3 := HM1.out; have e4 := HM2.out; omega)⟩) Hfit2.out HX2o.out w.heap.size w HB2.out.drew (Nat.le_refl _) ?_; intro w3 HG3 HB3; (have hb3 : w3.heap[b]? = some (.cells #[.slice A tl tc, c0, lv, av] te (0, 0)) := (HB3.block b hbl).trans hb); (have c3a : w3.cell? ⟨b, 0, none⟩ = some (.slice A tl tc) := by simp [World.cell?, hb3]); (have c3b : w3.cell? ⟨b, 1, none⟩ = some c0 := by simp [World.cell?, hb3]); (have f3a : w3.frozen? ⟨b, 0, none⟩ = false := by simp [World.frozen?, hb3]); (have f3b : w3.frozen? ⟨b, 1, none⟩ = false := by simp [World.frozen?, hb3]); (have Hb3 := Lib.hid hb3); clear hb3)
        go_wp2_with fail
        all_goals refine ⟨rfl, _, results_none rfl _ _ _, ?_⟩
        all_goals (
          obtain ⟨hRl, hZ3⟩ := repl_len HR.out HX1.out HX2.out HM1.out HM2.out hN.out Hyl.out hZ.out Hxl.out h1
          first
            | (with_reducible refine repl_fin1 hbl HB3 HG3.out Hb3.out (hRl.trans (by have e1 := HM1.out; have e3 := hN.out; omega)) hZ3 ?_
               rw [Hcu.out, if_pos (by have e1 := HM1.out; rw [Hyl.out]; omega)])
            | (with_reducible refine repl_fin2 hbl HB3 HG3.out Hb3.out (hRl.trans (by have e1 := HM1.out; have e3 := hN.out; omega)) hZ3 ?_
               rw [Hcu.out, if_neg (by rw [Hyl.out]; omega), Hyl.out, HM1.out]
               omega)
            | (exfalso; have e1 := HM1.out; have e3 := hN.out; omega))
    · obtain rfl : N = M1 := by omega
      rcases Nat.lt_or_ge M2 tc with q2 | q2
      · have q2' : ¬ tc = M2 := by omega
        have w1 : IntKind.i64.wrap ((at_ : Int) + (ll : Int)) = (N : Int) := by
          have e1 := HM1.out
          rw [IntKind.wrap_i64]; omega
        have w2 : IntKind.i64.wrap ((at_ : Int) + (n : Int)) = (M2 : Int) := by
          have e1 := HM2.out
          rw [IntKind.wrap_i64]; omega
        go_region_law (refine step_copy_splice rfl (.tmp 38) (.tmp 46) 22 22 rfl 9 uStrs zStr _ _ _ _ _ _ rfl rfl w.heap.size N (splice (splice Z 0 X1) at_ ys) 9 HG2.out X2 (by have e1 := Hl2.out; have e2 := hN.out; have e3 := HM1.out; have e4 := HM2.out; show _ = min _ _; omega) (fun h0 => ⟨by first | rfl | (exfalso; have e1 := Hl2.out; have e2 := hN.out; have e3 := HM1.out; have e4 := HM2.out; omega), by first | exact HX2c.out.keep Hk2.out h0 | (exfalso; have e1 := Hl2.out; have e2 := hN.out; have e3 := HM1.out; have e4 := HM2.out; omega)⟩) Hfit2.out HX2o.out w.heap.size w HB2.out.drew (Nat.le_refl _) ?_; intro w3 HG3 HB3; (have hb3 : w3.heap[b]? = some (.cells #[.slice A tl tc, c0, lv, av] te (0, 0)) := (HB3.block b hbl).trans hb); (have c3a : w3.cell? ⟨b, 0, none⟩ = some (.slice A tl tc) := by simp [World.cell?, hb3]); (have c3b : w3.cell? ⟨b, 1, none⟩ = some c0 := by simp [World.cell?, hb3]); (have f3a : w3.frozen? ⟨b, 0, none⟩ = false := by simp [World.frozen?, hb3]); (have f3b : w3.frozen? ⟨b, 1, none⟩ = false := by simp [World.frozen?, hb3]); (have Hb3 := Lib.hid hb3); clear hb3)
        go_wp2_with fail
        all_goals refine ⟨rfl, _, results_none rfl _ _ _, ?_⟩
        all_goals (
          obtain ⟨hRl, hZ3⟩ := repl_len HR.out HX1.out HX2.out HM1.out HM2.out hN.out Hyl.out hZ.out Hxl.out h1
          first
            | (with_reducible refine repl_fin1 hbl HB3 HG3.out Hb3.out (hRl.trans (by have e1 := HM1.out; have e3 := hN.out; omega)) hZ3 ?_
               rw [Hcu.out, if_pos (by have e1 := HM1.out; rw [Hyl.out]; omega)])
            | (with_reducible refine repl_fin2 hbl HB3 HG3.out Hb3.out (hRl.trans (by have e1 := HM1.out; have e3 := hN.out; omega)) hZ3 ?_
               rw [Hcu.out, if_neg (by rw [Hyl.out]; omega), Hyl.out, HM1.out]
               omega)
            | (exfalso; have e1 := HM1.out; have e3 := hN.out; omega))
      · obtain rfl : tc = M2 := by omega
        have w1 : IntKind.i64.wrap ((at_ : Int) + (ll : Int)) = (N : Int) := by
          have e1 := HM1.out
          rw [IntKind.wrap_i64]; omega
        have w2 : IntKind.i64.wrap ((at_ : Int) + (n : Int)) = (tc : Int) := by
          have e1 := HM2.out
          rw [IntKind.wrap_i64]; omega
        go_region_law (refine step_copy_splice rfl (.tmp 38) (.tmp 46) 22 22 rfl 9 uStrs zStr _ _ _ _ _ _ rfl rfl w.heap.size N (splice (splice Z 0 X1) at_ ys) 9 HG2.out X2 (by have e1 := Hl2.out; have e2 := hN.out; have e3 := HM1.out; have e4 := HM2.out; show _ = min _ _; omega) (fun h0 => ⟨by first | rfl | (exfalso; have e1 := Hl2.out; have e2 := hN.out; have e3 := HM1.out; have e4 := HM2.out; omega), by first | exact HX2c.out.keep Hk2.out h0 | (exfalso; have e1 := Hl2.out; have e2 := hN.out; have e3 := HM1.out; have e4 := HM2.out; omega)⟩) Hfit2.out HX2o.out w.heap.size w HB2.out.drew (Nat.le_refl _) ?_; intro w3 HG3 HB3; (have hb3 : w3.heap[b]? = some (.cells #[.slice A tl tc, c0, lv, av] te (0, 0)) := (HB3.block b hbl).trans hb); (have c3a : w3.cell? ⟨b, 0, none⟩ = some (.slice A tl tc) := by simp [World.cell?, hb3]); (have c3b : w3.cell? ⟨b, 1, none⟩ = some c0 := by simp [World.cell?, hb3]); (have f3a : w3.frozen? ⟨b, 0, none⟩ = false := by simp [World.frozen?, hb3]); (have f3b : w3.frozen? ⟨b, 1, none⟩ = false := by simp [World.frozen?, hb3]); (have Hb3 := Lib.hid hb3); clear hb3)
        go_wp2_with fail
        all_goals refine ⟨rfl, _, results_none rfl _ _ _, ?_⟩
        all_goals (
          obtain ⟨hRl, hZ3⟩ := repl_len HR.out HX1.out HX2.out HM1.out HM2.out hN.out Hyl.out hZ.out Hxl.out h1
          first
            | (with_reducible refine repl_fin1 hbl HB3 HG3.out Hb3.out (hRl.trans (by have e1 := HM1.out; have e3 := hN.out; omega)) hZ3 ?_
               rw [Hcu.out, if_pos (by have e1 := HM1.out; rw [Hyl.out]; omega)])
            | (with_reducible refine repl_fin2 hbl HB3 HG3.out Hb3.out (hRl.trans (by have e1 := HM1.out; have e3 := hN.out; omega)) hZ3 ?_
               rw [Hcu.out, if_neg (by rw [Hyl.out]; omega), Hyl.out, HM1.out]
               omega)
            | (exfalso; have e1 := HM1.out; have e3 := hN.out; omega))
end Go.Proofs.YtlghobefhmpfkaaGreatDoor
set_option linter.unusedVariables false
set_option linter.unusedSimpArgs false
namespace Go.Proofs.YtlghobefhmpfkaaGreatDoor
open Go Go.Ev Go.Rcs
set_option maxRecDepth 100000
variable {G : World → Prop}
def edK (t u : TypeId) (z : Nat) (T rows : List (List D)) (c : Int) (K : Out → Store → Prop) : Except Fl (SV × Int) → Prop
  | .ok (x, a) => K (.ret x) ⟨2, [(0, .cells t [.own 1, .d (.v (.int .i64 c)), .d (.sl rows), .d (.v (.int .i64 a))]), (1, .row u z T)]⟩
  | .error (a, e) => K (.pan (.d (fltV a e))) ⟨2, [(0, .cells t [.own 1, .d (.v (.int .i64 c)), .d (.sl rows), .d (.v (.int .i64 a))]), (1, .row u z T)]⟩
def edW (g : List (List UInt8) → Nat → Int → List SV → Option (Prop × Except Fl (SV × Int))) (args : List SV) (st : Store) (K : Out → Store → Prop) : Prop := match args, st with
  | .ptr 0 0 :: rest, ⟨2, [(0, .cells t [.own 1, .d (.v (.int .i64 c)), .d (.sl rows), .d (.v (.int .i64 at_))]), (1, .row u z T)]⟩ => need ((unStr rows).bind fun L => g L T.length at_ rest) fun y => y.1 ∧ edK t u z T rows c K y.2
  | _, _ => False
def edC (g : List (List UInt8) → Nat → Int → List SV → Option (Prop × Except Fl (SV × Int))) : Contract := wpC (edW g)
theorem edC_wp {g : List (List UInt8) → Nat → Int → List SV → Option (Prop × Except Fl (SV × Int))} {t u : TypeId} {z : Nat} {T rows : List (List D)} {c at_ : Int} {rest : List SV} {K : Out → Store → Prop} :
    (edC g).wp (.ptr 0 0 :: rest) ⟨2, [(0, .cells t [.own 1, .d (.v (.int .i64 c)), .d (.sl rows), .d (.v (.int .i64 at_))]), (1, .row u z T)]⟩ K = need ((unStr rows).bind fun L => g L T.length at_ rest) fun y => y.1 ∧ edK t u z T rows c K y.2 := rfl
@[congr] theorem edC_congr {g : List (List UInt8) → Nat → Int → List SV → Option (Prop × Except Fl (SV × Int))} {l l' : List SV} {s s' : Store} {K : Out → Store → Prop} (h : l = l') (h2 : s = s') : (edC g).wp l s K = (edC g).wp l' s' K := by rw [h, h2]
theorem edK_ok {t u : TypeId} {z : Nat} {T rows : List (List D)} {c : Int} {K : Out → Store → Prop} {x : SV} {a : Int} : edK t u z T rows c K (.ok (x, a)) = K (.ret x) ⟨2, [(0, .cells t [.own 1, .d (.v (.int .i64 c)), .d (.sl rows), .d (.v (.int .i64 a))]), (1, .row u z T)]⟩ := rfl
theorem edK_error {t u : TypeId} {z : Nat} {T rows : List (List D)} {c : Int} {K : Out → Store → Prop} {a e : Int} : edK t u z T rows c K (.error (a, e)) = K (.pan (.d (fltV a e))) ⟨2, [(0, .cells t [.own 1, .d (.v (.int .i64 c)), .d (.sl rows), .d (.v (.int .i64 a))]), (1, .row u z T)]⟩ := rfl
theorem edC_lawful (g : List (List UInt8) → Nat → Int → List SV → Option (Prop × Except Fl (SV × Int))) : (edC g).lawful := wpC_lawful _
theorem ed_hX {T : FuncId → Contract} {n : Nat} {S : SCode} {R : List RR} {g : List (List UInt8) → Nat → Int → List SV → Option (Prop × Except Fl (SV × Int))}
    (h : ∀ t u z X L c at_ rest p y K, g L X.length at_ rest = some (p, y) → p → edK t u z X (strRows L) c K y → rest.length + 1 ≤ n ∧ xv T 2 S (st0 (.ptr 0 0 :: rest) ⟨2, [(0, .cells t [.own 1, .d (.v (.int .i64 c)), .d (.sl (strRows L)), .d (.v (.int .i64 at_))]), (1, .row u z X)]⟩) (retK R 2 [0, 1] K) (panK 2 [0, 1] K)) :
    ∀ args st K, (edC g).wp args st K → args.length ≤ n ∧ ∃ os op, xv T st.n S (st0 args st) (retK R st.n os K) (panK st.n op K) := by
  intro args st K hw
  replace hw : edW g args st K := hw
  unfold edW at hw
  split at hw
  · rename_i rest t c rows at_ u z X
    obtain ⟨y, h1, h2, h3⟩ := need_ex hw
    obtain ⟨L, h4, h5⟩ := Option.bind_eq_some_iff.1 h1
    rw [unStr_eq h4] at h3 ⊢
    obtain ⟨h6, h7⟩ := h t u z X L c at_ rest y.1 y.2 K h5 h2 h3
    exact ⟨h6, [0, 1], [0, 1], h7⟩
  · exact hw.elim
def CStopE : Contract := edC fun L n at_ rest => match rest with
  | [.d (.v (.int .i64 e))] => some (True, .error (at_, e))
  | _ => none
def CNextE : Contract := edC fun L n at_ rest => match rest with
  | [] => some ((0 ≤ at_ ∧ at_ ≤ 1099511627776 ∧ smL L), (nextL L at_.toNat).map strA)
  | _ => none
theorem s48 : Sound G Tryz.prog 48 CStopE := by
  refine sd48 (T := tabT []) tab_nil (edC_lawful _) (ed_hX fun t u z X L c at_ rest p y K h hp hk => ?_)
  split at h <;> simp only [Option.some.injEq, Prod.mk.injEq, reduceCtorEq] at h
  obtain ⟨rfl, rfl⟩ := h
  rw [edK_error] at hk
  refine ⟨Nat.le_of_ble_eq_true rfl, ?_⟩
  unfold fltV at hk
  simp -dsimp -implicitDefEqProofs only [S48, R48, Ev.panK, ↓Ev.xStp_eq, ↓Ev.P, Ev.Q, Bool.cond_true, Bool.cond_false, eq_self, forall_eq_or_imp, implies_true, forall_const, forall_eq, ↓reduceIte, reduceIte, Nat.reduceEqDiff, Nat.reduceAdd, reduceCtorEq, Nat.reduceSub, Int.reduceToNat, Int.reduceLE, Int.reduceLT, Int.reduceNeg, Nat.reduceBEq, Nat.reduceMul, Nat.reduceLeDiff, Nat.reduceMod, UInt8.reduceOfNat, Nat.reduceLT, Int.reduceEq, Int.reduceAdd, Int.reduceSub, Int.reduceMul]
  exact hk
set_option maxHeartbeats 1000000 in
theorem s95 : Sound G Tryz.prog 95 CNextE := by
  refine sd95 (T := tabT [(48, CStopE), (18, CBare)]) (tab_cons s48 (tab_cons s18 tab_nil)) (edC_lawful _) (ed_hX fun t u z X L c at_ rest p y K h hp hk => ?_)
  split at h <;> simp only [Option.some.injEq, Prod.mk.injEq, reduceCtorEq] at h
  obtain ⟨rfl, rfl⟩ := h
  obtain ⟨h1, h2, h3, h4⟩ := hp
  refine ⟨Nat.le_of_ble_eq_true rfl, ?_⟩
  obtain ⟨k, rfl⟩ := Int.eq_ofNat_of_zero_le h1
  rw [Int.toNat_natCast] at hk
  by_cases hlt : k < L.length
  · have h5 : ¬ (L.length : Int) < (k : Int) + 1 := by omega
    have e1 : ((k : Int) + 1 - 1).toNat = k := by omega
    have hg := strRows_get hlt
    have hb := h4 _ (getD_in hlt)
    cases hbs : (bareS (L.getD k [])).2 with
    | true =>
      rw [nextL_ok hlt hbs, map_ok, strA, edK_ok] at hk
      generalize L.getD k [] = s at hg hb hk hbs
      simp -dsimp -implicitDefEqProofs only [S95, R95, h5, hg, e1, hbs, strRows_len, CBare, CStopE, edC_wp, unStr_rows, edK_ok, edK_error, ↓Ev.xStp_eq, ↓Ev.P, Ev.Q, Bool.cond_true, Bool.cond_false, eq_self, forall_eq_or_imp, implies_true, forall_const, forall_eq, ↓reduceIte, reduceIte, Nat.reduceEqDiff, Nat.reduceAdd, reduceCtorEq, Nat.reduceSub, Int.reduceToNat, Int.reduceLE, Int.reduceLT, Int.reduceNeg, Nat.reduceBEq, Nat.reduceMul, Nat.reduceLeDiff, Nat.reduceMod, UInt8.reduceOfNat, Nat.reduceLT, Int.reduceEq, Int.reduceAdd, Int.reduceSub, Int.reduceMul]
      repeat' (first | with_reducible assumption | refine And.intro ?_ ?_ | intro _)
      all_goals try omega
      all_goals exact hk
    | false =>
      rw [nextL_bad hlt hbs, map_error, edK_error] at hk
      generalize L.getD k [] = s at hg hb hk hbs
      unfold fltV at hk
      simp -dsimp -implicitDefEqProofs only [S95, R95, h5, hg, e1, hbs, strRows_len, CBare, CStopE, fltV, Ev.panK, edC_wp, unStr_rows, edK_ok, edK_error, ↓Ev.xStp_eq, ↓Ev.P, Ev.Q, Bool.cond_true, Bool.cond_false, eq_self, forall_eq_or_imp, implies_true, forall_const, forall_eq, ↓reduceIte, reduceIte, Nat.reduceEqDiff, Nat.reduceAdd, reduceCtorEq, Nat.reduceSub, Int.reduceToNat, Int.reduceLE, Int.reduceLT, Int.reduceNeg, Nat.reduceBEq, Nat.reduceMul, Nat.reduceLeDiff, Nat.reduceMod, UInt8.reduceOfNat, Nat.reduceLT, Int.reduceEq, Int.reduceAdd, Int.reduceSub, Int.reduceMul]
      repeat' (first | with_reducible assumption | refine And.intro ?_ ?_ | intro _)
      all_goals try omega
      all_goals exact hk
  · have h5 : (L.length : Int) < (k : Int) + 1 := by omega
    rw [nextL_end hlt, map_error, edK_error] at hk
    unfold fltV at hk
    simp -dsimp -implicitDefEqProofs only [S95, R95, h5, strRows_len, CBare, CStopE, fltV, Ev.panK, edC_wp, unStr_rows, edK_ok, edK_error, ↓Ev.xStp_eq, ↓Ev.P, Ev.Q, Bool.cond_true, Bool.cond_false, eq_self, forall_eq_or_imp, implies_true, forall_const, forall_eq, ↓reduceIte, reduceIte, Nat.reduceEqDiff, Nat.reduceAdd, reduceCtorEq, Nat.reduceSub, Int.reduceToNat, Int.reduceLE, Int.reduceLT, Int.reduceNeg, Nat.reduceBEq, Nat.reduceMul, Nat.reduceLeDiff, Nat.reduceMod, UInt8.reduceOfNat, Nat.reduceLT, Int.reduceEq, Int.reduceAdd, Int.reduceSub, Int.reduceMul]
    repeat' (first | with_reducible assumption | refine And.intro ?_ ?_ | intro _)
    all_goals try omega
    all_goals exact hk
end Go.Proofs.YtlghobefhmpfkaaGreatDoor
set_option linter.unusedVariables false
set_option linter.unusedSimpArgs false
namespace Go.Proofs.YtlghobefhmpfkaaGreatDoor
open Go Go.Ev Go.Rcs
set_option maxRecDepth 100000
variable {G : World → Prop}
def bodK (t u : TypeId) (z : Nat) (T rows : List (List D)) (c : Int) (K : Out → Store → Prop) : Except Fl (List (List UInt8) × Nat) → Prop
  | .ok (l, b) => K (.ret (.own 2)) ⟨3, [(0, .cells t [.own 1, .d (.v (.int .i64 c)), .d (.sl rows), .d (.v (.int .i64 (b : Nat)))]), (1, .row u z T), (2, .row 9 1 (strRows l))]⟩
  | .error (a, e) => K (.pan (.d (fltV a e))) ⟨2, [(0, .cells t [.own 1, .d (.v (.int .i64 c)), .d (.sl rows), .d (.v (.int .i64 a))]), (1, .row u z T)]⟩
def bodW (args : List SV) (st : Store) (K : Out → Store → Prop) : Prop := match args, st with
  | [.ptr 0 0], ⟨2, [(0, .cells t [.own 1, .d (.v (.int .i64 c)), .d (.sl rows), .d (.v (.int .i64 at_))]), (1, .row u z T)]⟩ => need (unStr rows) fun L => (0 ≤ at_ ∧ at_ ≤ L.length ∧ smL L) ∧ bodK t u z T rows c K (bodyL L (L.length - at_.toNat) at_.toNat [])
  | _, _ => False
def CBodyE : Contract := wpC bodW
theorem bodE_wp {t u : TypeId} {z : Nat} {T rows : List (List D)} {c at_ : Int} {K : Out → Store → Prop} :
    CBodyE.wp [.ptr 0 0] ⟨2, [(0, .cells t [.own 1, .d (.v (.int .i64 c)), .d (.sl rows), .d (.v (.int .i64 at_))]), (1, .row u z T)]⟩ K = need (unStr rows) fun L => (0 ≤ at_ ∧ at_ ≤ L.length ∧ smL L) ∧ bodK t u z T rows c K (bodyL L (L.length - at_.toNat) at_.toNat []) := rfl
@[congr] theorem bodE_congr {l l' : List SV} {s s' : Store} {K : Out → Store → Prop} (h : l = l') (h2 : s = s') : CBodyE.wp l s K = CBodyE.wp l' s' K := by rw [h, h2]
theorem bodK_ok {t u : TypeId} {z : Nat} {T rows : List (List D)} {c : Int} {K : Out → Store → Prop} {l : List (List UInt8)} {b : Nat} : bodK t u z T rows c K (.ok (l, b)) = K (.ret (.own 2)) ⟨3, [(0, .cells t [.own 1, .d (.v (.int .i64 c)), .d (.sl rows), .d (.v (.int .i64 (b : Nat)))]), (1, .row u z T), (2, .row 9 1 (strRows l))]⟩ := rfl
theorem bodK_error {t u : TypeId} {z : Nat} {T rows : List (List D)} {c : Int} {K : Out → Store → Prop} {a e : Int} : bodK t u z T rows c K (.error (a, e)) = K (.pan (.d (fltV a e))) ⟨2, [(0, .cells t [.own 1, .d (.v (.int .i64 c)), .d (.sl rows), .d (.v (.int .i64 a))]), (1, .row u z T)]⟩ := rfl
set_option maxHeartbeats 4000000 in
theorem s97 : Sound G Tryz.prog 97 CBodyE := by
  refine sd97 (T := tabT [(95, CNextE)]) (tab_cons s95 tab_nil) (wpC_lawful _) (fun args st K hW => ?_)
  replace hW : bodW args st K := hW
  unfold bodW at hW
  split at hW
  rotate_left
  · exact hW.elim
  rename_i t c rows at_ u z X
  obtain ⟨L, hL0, ⟨t0, t1, hLl, hL⟩, hk⟩ := need_ex hW
  rw [unStr_eq hL0] at *
  obtain ⟨at0, rfl⟩ := Int.eq_ofNat_of_zero_le t0
  rw [Int.toNat_natCast] at hk
  refine ⟨Nat.le_of_ble_eq_true rfl, [0, 1, 2], [0, 1], ?_⟩
  generalize hY : bodyL L (L.length - at0) at0 [] = Y at hk
  simp -dsimp -implicitDefEqProofs only [S97, R97, ↓Ev.xStp_eq, ↓Ev.P, Ev.Q, Bool.cond_true, Bool.cond_false, eq_self, forall_eq_or_imp, implies_true, forall_const, forall_eq, ↓reduceIte, reduceIte, Nat.reduceEqDiff, Nat.reduceAdd, reduceCtorEq, Nat.reduceSub, Int.reduceToNat, Int.reduceLE, Int.reduceLT, Int.reduceNeg, Nat.reduceBEq, Nat.reduceMul, Nat.reduceLeDiff, Nat.reduceMod, UInt8.reduceOfNat, Nat.reduceLT, Int.reduceEq, Int.reduceAdd, Int.reduceSub, Int.reduceMul]
  refine xLoop_intro (fun m st => ∃ (k : Nat) (acc : List (List UInt8)), k ≤ L.length ∧ m = L.length - k ∧ acc.length ≤ k ∧ bodyL L m k acc = Y ∧ (∀ x ∈ acc, x.length ≤ 1099511627776) ∧
      st = ⟨[(0, .ptr 0 0), (3, .own 2)], 3, [(0, .cells t [.own 1, .d (.v (.int .i64 c)), .d (.sl (strRows L)), .d (.v (.int .i64 (k : Nat)))]), (1, .row u z X), (2, .row 9 1 (strRows acc))]⟩) (L.length - at0) [0, 1, 2] ?_ ?_ ?_
  · simp -dsimp -implicitDefEqProofs only [↓Ev.xStp_eq, ↓Ev.P, Ev.Q, Bool.cond_true, Bool.cond_false, eq_self, forall_eq_or_imp, implies_true, forall_const, forall_eq, ↓reduceIte, reduceIte, Nat.reduceEqDiff, Nat.reduceAdd, reduceCtorEq, Nat.reduceSub, Int.reduceToNat, Int.reduceLE, Int.reduceLT, Int.reduceNeg, Nat.reduceBEq, Nat.reduceMul, Nat.reduceLeDiff, Nat.reduceMod, UInt8.reduceOfNat, Nat.reduceLT, Int.reduceEq, Int.reduceAdd, Int.reduceSub, Int.reduceMul]
  · simp -dsimp -implicitDefEqProofs only [↓Ev.xStp_eq, ↓Ev.P, Ev.Q, Bool.cond_true, Bool.cond_false, eq_self, forall_eq_or_imp, implies_true, forall_const, forall_eq, ↓reduceIte, reduceIte, Nat.reduceEqDiff, Nat.reduceAdd, reduceCtorEq, Nat.reduceSub, Int.reduceToNat, Int.reduceLE, Int.reduceLT, Int.reduceNeg, Nat.reduceBEq, Nat.reduceMul, Nat.reduceLeDiff, Nat.reduceMod, UInt8.reduceOfNat, Nat.reduceLT, Int.reduceEq, Int.reduceAdd, Int.reduceSub, Int.reduceMul]
    exact ⟨at0, [], by omega, rfl, by simp, hY, by simp, rfl⟩
  · rintro m st ⟨k, acc, hk1, rfl, hal, hgo, hacc, rfl⟩
    by_cases hlt : k < L.length
    · obtain ⟨j, hj⟩ : ∃ j, L.length - k = j + 1 := ⟨L.length - k - 1, by omega⟩
      rw [hj, bodyL] at hgo
      cases hx : nextL L k with
      | error x =>
        obtain ⟨xa, xe⟩ := x
        rw [hx] at hgo; dsimp only at hgo; subst hgo
        rw [bodK_error] at hk
        unfold fltV at hk
        simp -dsimp -implicitDefEqProofs only [hx, CNextE, fltV, Ev.panK, edC_wp, edK_ok, edK_error, map_ok, map_error, strA, unStr_rows, strRows_len, List.length_append, ↓Ev.P, Ev.Q, Bool.cond_true, Bool.cond_false, eq_self, forall_eq_or_imp, implies_true, forall_const, forall_eq, ↓reduceIte, reduceIte, Nat.reduceEqDiff, Nat.reduceAdd, reduceCtorEq, Nat.reduceSub, Int.reduceToNat, Int.reduceLE, Int.reduceLT, Int.reduceNeg, Nat.reduceBEq, Nat.reduceMul, Nat.reduceLeDiff, Nat.reduceMod, UInt8.reduceOfNat, Nat.reduceLT, Int.reduceEq, Int.reduceAdd, Int.reduceSub, Int.reduceMul]
        repeat' (first | with_reducible assumption | refine And.intro ?_ ?_ | intro _ | (rw [Ev.xStp_eq]; simp -dsimp -implicitDefEqProofs only [hx, CNextE, fltV, Ev.panK, edC_wp, edK_ok, edK_error, map_ok, map_error, strA, unStr_rows, strRows_len, List.length_append, ↓Ev.P, Ev.Q, Bool.cond_true, Bool.cond_false, eq_self, forall_eq_or_imp, implies_true, forall_const, forall_eq, ↓reduceIte, reduceIte, Nat.reduceEqDiff, Nat.reduceAdd, reduceCtorEq, Nat.reduceSub, Int.reduceToNat, Int.reduceLE, Int.reduceLT, Int.reduceNeg, Nat.reduceBEq, Nat.reduceMul, Nat.reduceLeDiff, Nat.reduceMod, UInt8.reduceOfNat, Nat.reduceLT, Int.reduceEq, Int.reduceAdd, Int.reduceSub, Int.reduceMul]))
        all_goals try omega
        all_goals exact hk
      | ok x =>
        obtain ⟨s, a⟩ := x
        obtain ⟨rfl, _, hs⟩ := nextL_le hx
        have hsl : s.length ≤ 1099511627776 := by rw [hs]; exact Nat.le_trans (bare_len _) (hL _ (getD_in hlt))
        rw [hx] at hgo; dsimp only at hgo
        clear hs
        by_cases hd : s = [46]
        · rw [if_pos hd] at hgo; subst hgo
          rw [bodK_ok] at hk
          simp -dsimp -implicitDefEqProofs only [hx, hd, CNextE, fltV, Ev.panK, edC_wp, edK_ok, edK_error, map_ok, map_error, strA, unStr_rows, strRows_len, List.length_append, ↓Ev.P, Ev.Q, Bool.cond_true, Bool.cond_false, eq_self, forall_eq_or_imp, implies_true, forall_const, forall_eq, ↓reduceIte, reduceIte, Nat.reduceEqDiff, Nat.reduceAdd, reduceCtorEq, Nat.reduceSub, Int.reduceToNat, Int.reduceLE, Int.reduceLT, Int.reduceNeg, Nat.reduceBEq, Nat.reduceMul, Nat.reduceLeDiff, Nat.reduceMod, UInt8.reduceOfNat, Nat.reduceLT, Int.reduceEq, Int.reduceAdd, Int.reduceSub, Int.reduceMul]
          repeat' (first | with_reducible assumption | refine And.intro ?_ ?_ | intro _ | (rw [Ev.xStp_eq]; simp -dsimp -implicitDefEqProofs only [hx, hd, CNextE, fltV, Ev.panK, edC_wp, edK_ok, edK_error, map_ok, map_error, strA, unStr_rows, strRows_len, List.length_append, ↓Ev.P, Ev.Q, Bool.cond_true, Bool.cond_false, eq_self, forall_eq_or_imp, implies_true, forall_const, forall_eq, ↓reduceIte, reduceIte, Nat.reduceEqDiff, Nat.reduceAdd, reduceCtorEq, Nat.reduceSub, Int.reduceToNat, Int.reduceLE, Int.reduceLT, Int.reduceNeg, Nat.reduceBEq, Nat.reduceMul, Nat.reduceLeDiff, Nat.reduceMod, UInt8.reduceOfNat, Nat.reduceLT, Int.reduceEq, Int.reduceAdd, Int.reduceSub, Int.reduceMul]))
          all_goals try omega
          all_goals exact hk
        · rw [if_neg hd] at hgo
          simp -dsimp -implicitDefEqProofs only [hx, hd, CNextE, fltV, Ev.panK, edC_wp, edK_ok, edK_error, map_ok, map_error, strA, unStr_rows, strRows_len, List.length_append, ↓Ev.P, Ev.Q, Bool.cond_true, Bool.cond_false, eq_self, forall_eq_or_imp, implies_true, forall_const, forall_eq, ↓reduceIte, reduceIte, Nat.reduceEqDiff, Nat.reduceAdd, reduceCtorEq, Nat.reduceSub, Int.reduceToNat, Int.reduceLE, Int.reduceLT, Int.reduceNeg, Nat.reduceBEq, Nat.reduceMul, Nat.reduceLeDiff, Nat.reduceMod, UInt8.reduceOfNat, Nat.reduceLT, Int.reduceEq, Int.reduceAdd, Int.reduceSub, Int.reduceMul]
          repeat' (first | with_reducible assumption | refine And.intro ?_ ?_ | intro _ | (rw [Ev.xStp_eq]; simp -dsimp -implicitDefEqProofs only [hx, hd, CNextE, fltV, Ev.panK, edC_wp, edK_ok, edK_error, map_ok, map_error, strA, unStr_rows, strRows_len, List.length_append, ↓Ev.P, Ev.Q, Bool.cond_true, Bool.cond_false, eq_self, forall_eq_or_imp, implies_true, forall_const, forall_eq, ↓reduceIte, reduceIte, Nat.reduceEqDiff, Nat.reduceAdd, reduceCtorEq, Nat.reduceSub, Int.reduceToNat, Int.reduceLE, Int.reduceLT, Int.reduceNeg, Nat.reduceBEq, Nat.reduceMul, Nat.reduceLeDiff, Nat.reduceMod, UInt8.reduceOfNat, Nat.reduceLT, Int.reduceEq, Int.reduceAdd, Int.reduceSub, Int.reduceMul]))
          all_goals try omega
          refine xAgain_intro j [0, 1, 4] (by omega) (by simp -dsimp -implicitDefEqProofs only [↓Ev.xStp_eq, ↓Ev.P, Ev.Q, Bool.cond_true, Bool.cond_false, eq_self, forall_eq_or_imp, implies_true, forall_const, forall_eq, ↓reduceIte, reduceIte, Nat.reduceEqDiff, Nat.reduceAdd, reduceCtorEq, Nat.reduceSub, Int.reduceToNat, Int.reduceLE, Int.reduceLT, Int.reduceNeg, Nat.reduceBEq, Nat.reduceMul, Nat.reduceLeDiff, Nat.reduceMod, UInt8.reduceOfNat, Nat.reduceLT, Int.reduceEq, Int.reduceAdd, Int.reduceSub, Int.reduceMul]) ⟨k + 1, acc ++ [s], by omega, by omega, by rw [List.length_append, List.length_singleton]; omega, hgo, ?_, ?_⟩
          · intro x hx2
            rcases List.mem_append.1 hx2 with h2 | h2
            · exact hacc x h2
            · rw [List.mem_singleton.1 h2]; exact hsl
          · rw [strRows_snoc]
            simp -dsimp -implicitDefEqProofs only [↓Ev.xStp_eq, ↓Ev.P, Ev.Q, Bool.cond_true, Bool.cond_false, eq_self, forall_eq_or_imp, implies_true, forall_const, forall_eq, ↓reduceIte, reduceIte, Nat.reduceEqDiff, Nat.reduceAdd, reduceCtorEq, Nat.reduceSub, Int.reduceToNat, Int.reduceLE, Int.reduceLT, Int.reduceNeg, Nat.reduceBEq, Nat.reduceMul, Nat.reduceLeDiff, Nat.reduceMod, UInt8.reduceOfNat, Nat.reduceLT, Int.reduceEq, Int.reduceAdd, Int.reduceSub, Int.reduceMul]
            all_goals rfl
    · have e0 : L.length - k = 0 := by omega
      rw [e0, bodyL] at hgo
      subst hgo
      rw [bodK_error] at hk
      unfold fltV at hk
      have hx := nextL_end hlt
      simp -dsimp -implicitDefEqProofs only [hx, CNextE, fltV, Ev.panK, edC_wp, edK_ok, edK_error, map_ok, map_error, strA, unStr_rows, strRows_len, List.length_append, ↓Ev.P, Ev.Q, Bool.cond_true, Bool.cond_false, eq_self, forall_eq_or_imp, implies_true, forall_const, forall_eq, ↓reduceIte, reduceIte, Nat.reduceEqDiff, Nat.reduceAdd, reduceCtorEq, Nat.reduceSub, Int.reduceToNat, Int.reduceLE, Int.reduceLT, Int.reduceNeg, Nat.reduceBEq, Nat.reduceMul, Nat.reduceLeDiff, Nat.reduceMod, UInt8.reduceOfNat, Nat.reduceLT, Int.reduceEq, Int.reduceAdd, Int.reduceSub, Int.reduceMul]
      repeat' (first | with_reducible assumption | refine And.intro ?_ ?_ | intro _ | (rw [Ev.xStp_eq]; simp -dsimp -implicitDefEqProofs only [hx, CNextE, fltV, Ev.panK, edC_wp, edK_ok, edK_error, map_ok, map_error, strA, unStr_rows, strRows_len, List.length_append, ↓Ev.P, Ev.Q, Bool.cond_true, Bool.cond_false, eq_self, forall_eq_or_imp, implies_true, forall_const, forall_eq, ↓reduceIte, reduceIte, Nat.reduceEqDiff, Nat.reduceAdd, reduceCtorEq, Nat.reduceSub, Int.reduceToNat, Int.reduceLE, Int.reduceLT, Int.reduceNeg, Nat.reduceBEq, Nat.reduceMul, Nat.reduceLeDiff, Nat.reduceMod, UInt8.reduceOfNat, Nat.reduceLT, Int.reduceEq, Int.reduceAdd, Int.reduceSub, Int.reduceMul]))
      all_goals try omega
      all_goals exact hk
end Go.Proofs.YtlghobefhmpfkaaGreatDoor
set_option linter.unusedVariables false
set_option linter.unusedSimpArgs false
namespace Go.Proofs.YtlghobefhmpfkaaGreatDoor
open Go Go.Ev Go.Rcs
set_option maxRecDepth 100000
variable {G : World → Prop}
theorem parseS_comma (l : List UInt8) (h : (parseS l).2 = 0) : 44 ∉ l := by
  unfold parseS at h
  repeat' split at h
  all_goals simp at h
  rename_i h1 h2 h3
  intro hm
  have h4 : l.all dig = true := by simpa using h2
  have := List.all_eq_true.1 h4 44 hm
  revert this; decide
theorem cutG_no {s : List UInt8} (h : cutK 44 s = none) : cutG 44 s = (s, []) := by rw [cutG, h]; rfl
theorem cutK_bar {s p q : List UInt8} (h : cutK 44 s = some (p, q)) : 44 ∈ s := by
  apply Classical.byContradiction
  intro hn
  rw [cutK_non hn] at h; cases h
theorem parse_cut {s p q : List UInt8} (h : cutK 44 s = some (p, q)) : ¬ (parseS s).2 = 0 := fun hp => parseS_comma s hp (cutK_bar h)
def plK (a : Int) : Except Int (Int × Int) → Except Fl (SV × Int)
  | .ok (p, n) => .ok (.tup [.d (.v (.int .i64 p)), .d (.v (.int .i64 n))], a)
  | .error e => .error (a, e)
def CPlaceE : Contract := edC fun L n at_ rest => match rest with
  | [.d (.v (.string s)), .d (.v (.int .u8 v))] => some ((n ≤ 1099511627776 ∧ s.size ≤ 1099511627776), plK at_ (placeE n s.data.toList v))
  | _ => none
set_option maxHeartbeats 8000000 in
theorem s98 (hE : ∀ w, G w → ErrR w) : Sound G Tryz.prog 98 CPlaceE := by
  refine sd98 (T := tabT [(85, CCutC), (86, CParse), (48, CStopE)]) (tab_cons sCutCs (tab_cons (s86 hE) (tab_cons s48 tab_nil))) (edC_lawful _) (ed_hX fun t u z X L c at_ rest p y K h hp hk => ?_)
  split at h <;> simp only [Option.some.injEq, Prod.mk.injEq, reduceCtorEq] at h
  obtain ⟨rfl, rfl⟩ := h
  rename_i s v
  obtain ⟨s, rfl⟩ := ex_str s
  simp only [sem_str] at hp hk
  obtain ⟨h1, h2⟩ := hp
  refine ⟨Nat.le_of_ble_eq_true rfl, ?_⟩
  have hl := cutG_len 44 s
  by_cases hv : v = 97
  · rw [placeE, if_pos hv] at hk
    cases hc : cutK 44 s with
    | some pq =>
      obtain ⟨a, b⟩ := pq
      rw [if_neg (parse_cut hc)] at hk
      have hi : (cutK 44 s).isSome = true := by rw [hc]; rfl
      simp only [plK, edK_error] at hk
      unfold fltV at hk
      simp -dsimp -implicitDefEqProofs only [S98, R98, hv, hc, hi, Option.isSome_some, CCutC, CParse, CStopE, fltV, Ev.panK, edC_wp, unStr_rows, edK_ok, edK_error, ↓Ev.P, Ev.Q, Bool.cond_true, Bool.cond_false, eq_self, forall_eq_or_imp, implies_true, forall_const, forall_eq, ↓reduceIte, reduceIte, Nat.reduceEqDiff, Nat.reduceAdd, reduceCtorEq, Nat.reduceSub, Int.reduceToNat, Int.reduceLE, Int.reduceLT, Int.reduceNeg, Nat.reduceBEq, Nat.reduceMul, Nat.reduceLeDiff, Nat.reduceMod, UInt8.reduceOfNat, Nat.reduceLT, Int.reduceEq, Int.reduceAdd, Int.reduceSub, Int.reduceMul]
      repeat' (first | with_reducible assumption | refine And.intro ?_ ?_ | intro _ | (rw [Ev.xStp_eq]; simp -dsimp -implicitDefEqProofs only [S98, R98, hv, hc, hi, Option.isSome_some, CCutC, CParse, CStopE, fltV, Ev.panK, edC_wp, unStr_rows, edK_ok, edK_error, ↓Ev.P, Ev.Q, Bool.cond_true, Bool.cond_false, eq_self, forall_eq_or_imp, implies_true, forall_const, forall_eq, ↓reduceIte, reduceIte, Nat.reduceEqDiff, Nat.reduceAdd, reduceCtorEq, Nat.reduceSub, Int.reduceToNat, Int.reduceLE, Int.reduceLT, Int.reduceNeg, Nat.reduceBEq, Nat.reduceMul, Nat.reduceLeDiff, Nat.reduceMod, UInt8.reduceOfNat, Nat.reduceLT, Int.reduceEq, Int.reduceAdd, Int.reduceSub, Int.reduceMul]))
      all_goals try omega
      all_goals exact hk
    | none =>
      have hi : (cutK 44 s).isSome = false := by rw [hc]; rfl
      have hg := cutG_no hc
      have b1 := parseS_bd s
      generalize hq : parseS s = pe at hk b1
      obtain ⟨p, e⟩ := pe
      dsimp only at hk b1
      by_cases he : e = 0
      · rw [if_pos he] at hk
        by_cases hr : (X.length : Int) < p
        · rw [if_pos hr] at hk
          simp only [plK, edK_error] at hk
          unfold fltV at hk
          simp -dsimp -implicitDefEqProofs only [S98, R98, hv, hc, hi, hg, hq, he, hr, Option.isSome_none, CCutC, CParse, CStopE, fltV, Ev.panK, edC_wp, unStr_rows, edK_ok, edK_error, ↓Ev.P, Ev.Q, Bool.cond_true, Bool.cond_false, eq_self, forall_eq_or_imp, implies_true, forall_const, forall_eq, ↓reduceIte, reduceIte, Nat.reduceEqDiff, Nat.reduceAdd, reduceCtorEq, Nat.reduceSub, Int.reduceToNat, Int.reduceLE, Int.reduceLT, Int.reduceNeg, Nat.reduceBEq, Nat.reduceMul, Nat.reduceLeDiff, Nat.reduceMod, UInt8.reduceOfNat, Nat.reduceLT, Int.reduceEq, Int.reduceAdd, Int.reduceSub, Int.reduceMul]
          repeat' (first | with_reducible assumption | refine And.intro ?_ ?_ | intro _ | (rw [Ev.xStp_eq]; simp -dsimp -implicitDefEqProofs only [S98, R98, hv, hc, hi, hg, hq, he, hr, Option.isSome_none, CCutC, CParse, CStopE, fltV, Ev.panK, edC_wp, unStr_rows, edK_ok, edK_error, ↓Ev.P, Ev.Q, Bool.cond_true, Bool.cond_false, eq_self, forall_eq_or_imp, implies_true, forall_const, forall_eq, ↓reduceIte, reduceIte, Nat.reduceEqDiff, Nat.reduceAdd, reduceCtorEq, Nat.reduceSub, Int.reduceToNat, Int.reduceLE, Int.reduceLT, Int.reduceNeg, Nat.reduceBEq, Nat.reduceMul, Nat.reduceLeDiff, Nat.reduceMod, UInt8.reduceOfNat, Nat.reduceLT, Int.reduceEq, Int.reduceAdd, Int.reduceSub, Int.reduceMul]))
          all_goals try omega
          all_goals exact hk
        · rw [if_neg hr] at hk
          simp only [plK, edK_ok] at hk
          simp -dsimp -implicitDefEqProofs only [S98, R98, hv, hc, hi, hg, hq, he, hr, Option.isSome_none, CCutC, CParse, CStopE, fltV, Ev.panK, edC_wp, unStr_rows, edK_ok, edK_error, ↓Ev.P, Ev.Q, Bool.cond_true, Bool.cond_false, eq_self, forall_eq_or_imp, implies_true, forall_const, forall_eq, ↓reduceIte, reduceIte, Nat.reduceEqDiff, Nat.reduceAdd, reduceCtorEq, Nat.reduceSub, Int.reduceToNat, Int.reduceLE, Int.reduceLT, Int.reduceNeg, Nat.reduceBEq, Nat.reduceMul, Nat.reduceLeDiff, Nat.reduceMod, UInt8.reduceOfNat, Nat.reduceLT, Int.reduceEq, Int.reduceAdd, Int.reduceSub, Int.reduceMul]
          repeat' (first | with_reducible assumption | refine And.intro ?_ ?_ | intro _ | (rw [Ev.xStp_eq]; simp -dsimp -implicitDefEqProofs only [S98, R98, hv, hc, hi, hg, hq, he, hr, Option.isSome_none, CCutC, CParse, CStopE, fltV, Ev.panK, edC_wp, unStr_rows, edK_ok, edK_error, ↓Ev.P, Ev.Q, Bool.cond_true, Bool.cond_false, eq_self, forall_eq_or_imp, implies_true, forall_const, forall_eq, ↓reduceIte, reduceIte, Nat.reduceEqDiff, Nat.reduceAdd, reduceCtorEq, Nat.reduceSub, Int.reduceToNat, Int.reduceLE, Int.reduceLT, Int.reduceNeg, Nat.reduceBEq, Nat.reduceMul, Nat.reduceLeDiff, Nat.reduceMod, UInt8.reduceOfNat, Nat.reduceLT, Int.reduceEq, Int.reduceAdd, Int.reduceSub, Int.reduceMul]))
          all_goals try omega
          all_goals exact hk
      · rw [if_neg he] at hk
        simp only [plK, edK_error] at hk
        unfold fltV at hk
        simp -dsimp -implicitDefEqProofs only [S98, R98, hv, hc, hi, hg, hq, he, Option.isSome_none, CCutC, CParse, CStopE, fltV, Ev.panK, edC_wp, unStr_rows, edK_ok, edK_error, ↓Ev.P, Ev.Q, Bool.cond_true, Bool.cond_false, eq_self, forall_eq_or_imp, implies_true, forall_const, forall_eq, ↓reduceIte, reduceIte, Nat.reduceEqDiff, Nat.reduceAdd, reduceCtorEq, Nat.reduceSub, Int.reduceToNat, Int.reduceLE, Int.reduceLT, Int.reduceNeg, Nat.reduceBEq, Nat.reduceMul, Nat.reduceLeDiff, Nat.reduceMod, UInt8.reduceOfNat, Nat.reduceLT, Int.reduceEq, Int.reduceAdd, Int.reduceSub, Int.reduceMul]
        repeat' (first | with_reducible assumption | refine And.intro ?_ ?_ | intro _ | (rw [Ev.xStp_eq]; simp -dsimp -implicitDefEqProofs only [S98, R98, hv, hc, hi, hg, hq, he, Option.isSome_none, CCutC, CParse, CStopE, fltV, Ev.panK, edC_wp, unStr_rows, edK_ok, edK_error, ↓Ev.P, Ev.Q, Bool.cond_true, Bool.cond_false, eq_self, forall_eq_or_imp, implies_true, forall_const, forall_eq, ↓reduceIte, reduceIte, Nat.reduceEqDiff, Nat.reduceAdd, reduceCtorEq, Nat.reduceSub, Int.reduceToNat, Int.reduceLE, Int.reduceLT, Int.reduceNeg, Nat.reduceBEq, Nat.reduceMul, Nat.reduceLeDiff, Nat.reduceMod, UInt8.reduceOfNat, Nat.reduceLT, Int.reduceEq, Int.reduceAdd, Int.reduceSub, Int.reduceMul]))
        all_goals try omega
        all_goals exact hk
  · rw [placeE, if_neg hv] at hk
    cases hc : cutK 44 s with
    | some ab =>
      obtain ⟨a, b⟩ := ab
      have hi : (cutK 44 s).isSome = true := by rw [hc]; rfl
      have hg : cutG 44 s = (a, b) := by rw [cutG, hc]; rfl
      rw [hg] at hl
      dsimp only at hl
      simp only [sevL, hc] at hk
      have b1 := parseS_bd a
      have b2 := parseS_bd b
      generalize hq : parseS a = pe at hk b1
      generalize hq2 : parseS b = qf at hk b2
      obtain ⟨p, e⟩ := pe
      obtain ⟨q, f⟩ := qf
      dsimp only at hk b1 b2
      by_cases hf : f = 0
      · by_cases hqp : q ≤ p
        · have _t := trivial
          rw [if_neg (by simp only [decide_eq_true_eq]; omega)] at hk
          simp only [plK, edK_error] at hk
          unfold fltV at hk
          simp -dsimp -implicitDefEqProofs only [S98, R98, hv, hc, hi, hg, hq, hq2, Option.isSome_some, hf, hqp, CCutC, CParse, CStopE, fltV, Ev.panK, edC_wp, unStr_rows, edK_ok, edK_error, ↓Ev.P, Ev.Q, Bool.cond_true, Bool.cond_false, eq_self, forall_eq_or_imp, implies_true, forall_const, forall_eq, ↓reduceIte, reduceIte, Nat.reduceEqDiff, Nat.reduceAdd, reduceCtorEq, Nat.reduceSub, Int.reduceToNat, Int.reduceLE, Int.reduceLT, Int.reduceNeg, Nat.reduceBEq, Nat.reduceMul, Nat.reduceLeDiff, Nat.reduceMod, UInt8.reduceOfNat, Nat.reduceLT, Int.reduceEq, Int.reduceAdd, Int.reduceSub, Int.reduceMul]
          repeat' (first | with_reducible assumption | refine And.intro ?_ ?_ | intro _ | (rw [Ev.xStp_eq]; simp -dsimp -implicitDefEqProofs only [S98, R98, hv, hc, hi, hg, hq, hq2, Option.isSome_some, hf, hqp, CCutC, CParse, CStopE, fltV, Ev.panK, edC_wp, unStr_rows, edK_ok, edK_error, ↓Ev.P, Ev.Q, Bool.cond_true, Bool.cond_false, eq_self, forall_eq_or_imp, implies_true, forall_const, forall_eq, ↓reduceIte, reduceIte, Nat.reduceEqDiff, Nat.reduceAdd, reduceCtorEq, Nat.reduceSub, Int.reduceToNat, Int.reduceLE, Int.reduceLT, Int.reduceNeg, Nat.reduceBEq, Nat.reduceMul, Nat.reduceLeDiff, Nat.reduceMod, UInt8.reduceOfNat, Nat.reduceLT, Int.reduceEq, Int.reduceAdd, Int.reduceSub, Int.reduceMul]))
          all_goals try omega
          all_goals exact hk
        · by_cases he : e = 0
          · by_cases hp0 : p = 0
            · have _t := trivial
              rw [if_neg (by simp only [decide_eq_true_eq]; omega)] at hk
              simp only [plK, edK_error] at hk
              unfold fltV at hk
              simp -dsimp -implicitDefEqProofs only [S98, R98, hv, hc, hi, hg, hq, hq2, Option.isSome_some, hf, hqp, he, hp0, CCutC, CParse, CStopE, fltV, Ev.panK, edC_wp, unStr_rows, edK_ok, edK_error, ↓Ev.P, Ev.Q, Bool.cond_true, Bool.cond_false, eq_self, forall_eq_or_imp, implies_true, forall_const, forall_eq, ↓reduceIte, reduceIte, Nat.reduceEqDiff, Nat.reduceAdd, reduceCtorEq, Nat.reduceSub, Int.reduceToNat, Int.reduceLE, Int.reduceLT, Int.reduceNeg, Nat.reduceBEq, Nat.reduceMul, Nat.reduceLeDiff, Nat.reduceMod, UInt8.reduceOfNat, Nat.reduceLT, Int.reduceEq, Int.reduceAdd, Int.reduceSub, Int.reduceMul]
              repeat' (first | with_reducible assumption | refine And.intro ?_ ?_ | intro _ | (rw [Ev.xStp_eq]; simp -dsimp -implicitDefEqProofs only [S98, R98, hv, hc, hi, hg, hq, hq2, Option.isSome_some, hf, hqp, he, hp0, CCutC, CParse, CStopE, fltV, Ev.panK, edC_wp, unStr_rows, edK_ok, edK_error, ↓Ev.P, Ev.Q, Bool.cond_true, Bool.cond_false, eq_self, forall_eq_or_imp, implies_true, forall_const, forall_eq, ↓reduceIte, reduceIte, Nat.reduceEqDiff, Nat.reduceAdd, reduceCtorEq, Nat.reduceSub, Int.reduceToNat, Int.reduceLE, Int.reduceLT, Int.reduceNeg, Nat.reduceBEq, Nat.reduceMul, Nat.reduceLeDiff, Nat.reduceMod, UInt8.reduceOfNat, Nat.reduceLT, Int.reduceEq, Int.reduceAdd, Int.reduceSub, Int.reduceMul]))
              all_goals try omega
              all_goals exact hk
            · rw [if_pos (by simp only [decide_eq_true_eq]; omega)] at hk
              rw [show p + (q - p + 1) - 1 = q by omega] at hk
              by_cases hr : (X.length : Int) < q
              · rw [if_pos hr] at hk
                simp only [plK, edK_error] at hk
                unfold fltV at hk
                simp -dsimp -implicitDefEqProofs only [S98, R98, hv, hc, hi, hg, hq, hq2, Option.isSome_some, hf, hqp, he, hp0, hr, CCutC, CParse, CStopE, fltV, Ev.panK, edC_wp, unStr_rows, edK_ok, edK_error, ↓Ev.P, Ev.Q, Bool.cond_true, Bool.cond_false, eq_self, forall_eq_or_imp, implies_true, forall_const, forall_eq, ↓reduceIte, reduceIte, Nat.reduceEqDiff, Nat.reduceAdd, reduceCtorEq, Nat.reduceSub, Int.reduceToNat, Int.reduceLE, Int.reduceLT, Int.reduceNeg, Nat.reduceBEq, Nat.reduceMul, Nat.reduceLeDiff, Nat.reduceMod, UInt8.reduceOfNat, Nat.reduceLT, Int.reduceEq, Int.reduceAdd, Int.reduceSub, Int.reduceMul]
                repeat' (first | with_reducible assumption | refine And.intro ?_ ?_ | intro _ | (rw [Ev.xStp_eq]; simp -dsimp -implicitDefEqProofs only [S98, R98, hv, hc, hi, hg, hq, hq2, Option.isSome_some, hf, hqp, he, hp0, hr, CCutC, CParse, CStopE, fltV, Ev.panK, edC_wp, unStr_rows, edK_ok, edK_error, ↓Ev.P, Ev.Q, Bool.cond_true, Bool.cond_false, eq_self, forall_eq_or_imp, implies_true, forall_const, forall_eq, ↓reduceIte, reduceIte, Nat.reduceEqDiff, Nat.reduceAdd, reduceCtorEq, Nat.reduceSub, Int.reduceToNat, Int.reduceLE, Int.reduceLT, Int.reduceNeg, Nat.reduceBEq, Nat.reduceMul, Nat.reduceLeDiff, Nat.reduceMod, UInt8.reduceOfNat, Nat.reduceLT, Int.reduceEq, Int.reduceAdd, Int.reduceSub, Int.reduceMul]))
                all_goals try omega
                all_goals exact hk
              · rw [if_neg hr] at hk
                simp only [plK, edK_ok] at hk
                simp -dsimp -implicitDefEqProofs only [S98, R98, hv, hc, hi, hg, hq, hq2, Option.isSome_some, hf, hqp, he, hp0, hr, CCutC, CParse, CStopE, fltV, Ev.panK, edC_wp, unStr_rows, edK_ok, edK_error, ↓Ev.P, Ev.Q, Bool.cond_true, Bool.cond_false, eq_self, forall_eq_or_imp, implies_true, forall_const, forall_eq, ↓reduceIte, reduceIte, Nat.reduceEqDiff, Nat.reduceAdd, reduceCtorEq, Nat.reduceSub, Int.reduceToNat, Int.reduceLE, Int.reduceLT, Int.reduceNeg, Nat.reduceBEq, Nat.reduceMul, Nat.reduceLeDiff, Nat.reduceMod, UInt8.reduceOfNat, Nat.reduceLT, Int.reduceEq, Int.reduceAdd, Int.reduceSub, Int.reduceMul]
                repeat' (first | with_reducible assumption | refine And.intro ?_ ?_ | intro _ | (rw [Ev.xStp_eq]; simp -dsimp -implicitDefEqProofs only [S98, R98, hv, hc, hi, hg, hq, hq2, Option.isSome_some, hf, hqp, he, hp0, hr, CCutC, CParse, CStopE, fltV, Ev.panK, edC_wp, unStr_rows, edK_ok, edK_error, ↓Ev.P, Ev.Q, Bool.cond_true, Bool.cond_false, eq_self, forall_eq_or_imp, implies_true, forall_const, forall_eq, ↓reduceIte, reduceIte, Nat.reduceEqDiff, Nat.reduceAdd, reduceCtorEq, Nat.reduceSub, Int.reduceToNat, Int.reduceLE, Int.reduceLT, Int.reduceNeg, Nat.reduceBEq, Nat.reduceMul, Nat.reduceLeDiff, Nat.reduceMod, UInt8.reduceOfNat, Nat.reduceLT, Int.reduceEq, Int.reduceAdd, Int.reduceSub, Int.reduceMul]))
                all_goals try omega
                all_goals exact hk
          · have _t := trivial
            rw [if_neg (by simp only [decide_eq_true_eq]; omega)] at hk
            simp only [plK, edK_error] at hk
            unfold fltV at hk
            simp -dsimp -implicitDefEqProofs only [S98, R98, hv, hc, hi, hg, hq, hq2, Option.isSome_some, hf, hqp, he, CCutC, CParse, CStopE, fltV, Ev.panK, edC_wp, unStr_rows, edK_ok, edK_error, ↓Ev.P, Ev.Q, Bool.cond_true, Bool.cond_false, eq_self, forall_eq_or_imp, implies_true, forall_const, forall_eq, ↓reduceIte, reduceIte, Nat.reduceEqDiff, Nat.reduceAdd, reduceCtorEq, Nat.reduceSub, Int.reduceToNat, Int.reduceLE, Int.reduceLT, Int.reduceNeg, Nat.reduceBEq, Nat.reduceMul, Nat.reduceLeDiff, Nat.reduceMod, UInt8.reduceOfNat, Nat.reduceLT, Int.reduceEq, Int.reduceAdd, Int.reduceSub, Int.reduceMul]
            repeat' (first | with_reducible assumption | refine And.intro ?_ ?_ | intro _ | (rw [Ev.xStp_eq]; simp -dsimp -implicitDefEqProofs only [S98, R98, hv, hc, hi, hg, hq, hq2, Option.isSome_some, hf, hqp, he, CCutC, CParse, CStopE, fltV, Ev.panK, edC_wp, unStr_rows, edK_ok, edK_error, ↓Ev.P, Ev.Q, Bool.cond_true, Bool.cond_false, eq_self, forall_eq_or_imp, implies_true, forall_const, forall_eq, ↓reduceIte, reduceIte, Nat.reduceEqDiff, Nat.reduceAdd, reduceCtorEq, Nat.reduceSub, Int.reduceToNat, Int.reduceLE, Int.reduceLT, Int.reduceNeg, Nat.reduceBEq, Nat.reduceMul, Nat.reduceLeDiff, Nat.reduceMod, UInt8.reduceOfNat, Nat.reduceLT, Int.reduceEq, Int.reduceAdd, Int.reduceSub, Int.reduceMul]))
            all_goals try omega
            all_goals exact hk
      · have _t := trivial
        rw [if_neg (by simp only [decide_eq_true_eq]; omega)] at hk
        simp only [plK, edK_error] at hk
        unfold fltV at hk
        simp -dsimp -implicitDefEqProofs only [S98, R98, hv, hc, hi, hg, hq, hq2, Option.isSome_some, hf, CCutC, CParse, CStopE, fltV, Ev.panK, edC_wp, unStr_rows, edK_ok, edK_error, ↓Ev.P, Ev.Q, Bool.cond_true, Bool.cond_false, eq_self, forall_eq_or_imp, implies_true, forall_const, forall_eq, ↓reduceIte, reduceIte, Nat.reduceEqDiff, Nat.reduceAdd, reduceCtorEq, Nat.reduceSub, Int.reduceToNat, Int.reduceLE, Int.reduceLT, Int.reduceNeg, Nat.reduceBEq, Nat.reduceMul, Nat.reduceLeDiff, Nat.reduceMod, UInt8.reduceOfNat, Nat.reduceLT, Int.reduceEq, Int.reduceAdd, Int.reduceSub, Int.reduceMul]
        repeat' (first | with_reducible assumption | refine And.intro ?_ ?_ | intro _ | (rw [Ev.xStp_eq]; simp -dsimp -implicitDefEqProofs only [S98, R98, hv, hc, hi, hg, hq, hq2, Option.isSome_some, hf, CCutC, CParse, CStopE, fltV, Ev.panK, edC_wp, unStr_rows, edK_ok, edK_error, ↓Ev.P, Ev.Q, Bool.cond_true, Bool.cond_false, eq_self, forall_eq_or_imp, implies_true, forall_const, forall_eq, ↓reduceIte, reduceIte, Nat.reduceEqDiff, Nat.reduceAdd, reduceCtorEq, Nat.reduceSub, Int.reduceToNat, Int.reduceLE, Int.reduceLT, Int.reduceNeg, Nat.reduceBEq, Nat.reduceMul, Nat.reduceLeDiff, Nat.reduceMod, UInt8.reduceOfNat, Nat.reduceLT, Int.reduceEq, Int.reduceAdd, Int.reduceSub, Int.reduceMul]))
        all_goals try omega
        all_goals exact hk
    | none =>
      have hi : (cutK 44 s).isSome = false := by rw [hc]; rfl
      have hg := cutG_no hc
      simp only [sevL, hc] at hk
      have b1 := parseS_bd s
      generalize hq : parseS s = pe at hk b1
      obtain ⟨p, e⟩ := pe
      dsimp only at hk b1
      by_cases he : e = 0
      · by_cases hp0 : p = 0
        · have _t := trivial
          rw [if_neg (by simp only [decide_eq_true_eq]; omega)] at hk
          simp only [plK, edK_error] at hk
          unfold fltV at hk
          simp -dsimp -implicitDefEqProofs only [S98, R98, hv, hc, hi, hg, hq, Option.isSome_none, he, hp0, CCutC, CParse, CStopE, fltV, Ev.panK, edC_wp, unStr_rows, edK_ok, edK_error, ↓Ev.P, Ev.Q, Bool.cond_true, Bool.cond_false, eq_self, forall_eq_or_imp, implies_true, forall_const, forall_eq, ↓reduceIte, reduceIte, Nat.reduceEqDiff, Nat.reduceAdd, reduceCtorEq, Nat.reduceSub, Int.reduceToNat, Int.reduceLE, Int.reduceLT, Int.reduceNeg, Nat.reduceBEq, Nat.reduceMul, Nat.reduceLeDiff, Nat.reduceMod, UInt8.reduceOfNat, Nat.reduceLT, Int.reduceEq, Int.reduceAdd, Int.reduceSub, Int.reduceMul]
          repeat' (first | with_reducible assumption | refine And.intro ?_ ?_ | intro _ | (rw [Ev.xStp_eq]; simp -dsimp -implicitDefEqProofs only [S98, R98, hv, hc, hi, hg, hq, Option.isSome_none, he, hp0, CCutC, CParse, CStopE, fltV, Ev.panK, edC_wp, unStr_rows, edK_ok, edK_error, ↓Ev.P, Ev.Q, Bool.cond_true, Bool.cond_false, eq_self, forall_eq_or_imp, implies_true, forall_const, forall_eq, ↓reduceIte, reduceIte, Nat.reduceEqDiff, Nat.reduceAdd, reduceCtorEq, Nat.reduceSub, Int.reduceToNat, Int.reduceLE, Int.reduceLT, Int.reduceNeg, Nat.reduceBEq, Nat.reduceMul, Nat.reduceLeDiff, Nat.reduceMod, UInt8.reduceOfNat, Nat.reduceLT, Int.reduceEq, Int.reduceAdd, Int.reduceSub, Int.reduceMul]))
          all_goals try omega
          all_goals exact hk
        · rw [if_pos (by simp only [decide_eq_true_eq]; omega)] at hk
          rw [show p + 1 - 1 = p by omega] at hk
          by_cases hr : (X.length : Int) < p
          · rw [if_pos hr] at hk
            simp only [plK, edK_error] at hk
            unfold fltV at hk
            simp -dsimp -implicitDefEqProofs only [S98, R98, hv, hc, hi, hg, hq, Option.isSome_none, he, hp0, hr, CCutC, CParse, CStopE, fltV, Ev.panK, edC_wp, unStr_rows, edK_ok, edK_error, ↓Ev.P, Ev.Q, Bool.cond_true, Bool.cond_false, eq_self, forall_eq_or_imp, implies_true, forall_const, forall_eq, ↓reduceIte, reduceIte, Nat.reduceEqDiff, Nat.reduceAdd, reduceCtorEq, Nat.reduceSub, Int.reduceToNat, Int.reduceLE, Int.reduceLT, Int.reduceNeg, Nat.reduceBEq, Nat.reduceMul, Nat.reduceLeDiff, Nat.reduceMod, UInt8.reduceOfNat, Nat.reduceLT, Int.reduceEq, Int.reduceAdd, Int.reduceSub, Int.reduceMul]
            repeat' (first | with_reducible assumption | refine And.intro ?_ ?_ | intro _ | (rw [Ev.xStp_eq]; simp -dsimp -implicitDefEqProofs only [S98, R98, hv, hc, hi, hg, hq, Option.isSome_none, he, hp0, hr, CCutC, CParse, CStopE, fltV, Ev.panK, edC_wp, unStr_rows, edK_ok, edK_error, ↓Ev.P, Ev.Q, Bool.cond_true, Bool.cond_false, eq_self, forall_eq_or_imp, implies_true, forall_const, forall_eq, ↓reduceIte, reduceIte, Nat.reduceEqDiff, Nat.reduceAdd, reduceCtorEq, Nat.reduceSub, Int.reduceToNat, Int.reduceLE, Int.reduceLT, Int.reduceNeg, Nat.reduceBEq, Nat.reduceMul, Nat.reduceLeDiff, Nat.reduceMod, UInt8.reduceOfNat, Nat.reduceLT, Int.reduceEq, Int.reduceAdd, Int.reduceSub, Int.reduceMul]))
            all_goals try omega
            all_goals exact hk
          · rw [if_neg hr] at hk
            simp only [plK, edK_ok] at hk
            simp -dsimp -implicitDefEqProofs only [S98, R98, hv, hc, hi, hg, hq, Option.isSome_none, he, hp0, hr, CCutC, CParse, CStopE, fltV, Ev.panK, edC_wp, unStr_rows, edK_ok, edK_error, ↓Ev.P, Ev.Q, Bool.cond_true, Bool.cond_false, eq_self, forall_eq_or_imp, implies_true, forall_const, forall_eq, ↓reduceIte, reduceIte, Nat.reduceEqDiff, Nat.reduceAdd, reduceCtorEq, Nat.reduceSub, Int.reduceToNat, Int.reduceLE, Int.reduceLT, Int.reduceNeg, Nat.reduceBEq, Nat.reduceMul, Nat.reduceLeDiff, Nat.reduceMod, UInt8.reduceOfNat, Nat.reduceLT, Int.reduceEq, Int.reduceAdd, Int.reduceSub, Int.reduceMul]
            repeat' (first | with_reducible assumption | refine And.intro ?_ ?_ | intro _ | (rw [Ev.xStp_eq]; simp -dsimp -implicitDefEqProofs only [S98, R98, hv, hc, hi, hg, hq, Option.isSome_none, he, hp0, hr, CCutC, CParse, CStopE, fltV, Ev.panK, edC_wp, unStr_rows, edK_ok, edK_error, ↓Ev.P, Ev.Q, Bool.cond_true, Bool.cond_false, eq_self, forall_eq_or_imp, implies_true, forall_const, forall_eq, ↓reduceIte, reduceIte, Nat.reduceEqDiff, Nat.reduceAdd, reduceCtorEq, Nat.reduceSub, Int.reduceToNat, Int.reduceLE, Int.reduceLT, Int.reduceNeg, Nat.reduceBEq, Nat.reduceMul, Nat.reduceLeDiff, Nat.reduceMod, UInt8.reduceOfNat, Nat.reduceLT, Int.reduceEq, Int.reduceAdd, Int.reduceSub, Int.reduceMul]))
            all_goals try omega
            all_goals (rw [show p - p + 1 = 1 by omega]; exact hk)
      · have _t := trivial
        rw [if_neg (by simp only [decide_eq_true_eq]; omega)] at hk
        simp only [plK, edK_error] at hk
        unfold fltV at hk
        simp -dsimp -implicitDefEqProofs only [S98, R98, hv, hc, hi, hg, hq, Option.isSome_none, he, CCutC, CParse, CStopE, fltV, Ev.panK, edC_wp, unStr_rows, edK_ok, edK_error, ↓Ev.P, Ev.Q, Bool.cond_true, Bool.cond_false, eq_self, forall_eq_or_imp, implies_true, forall_const, forall_eq, ↓reduceIte, reduceIte, Nat.reduceEqDiff, Nat.reduceAdd, reduceCtorEq, Nat.reduceSub, Int.reduceToNat, Int.reduceLE, Int.reduceLT, Int.reduceNeg, Nat.reduceBEq, Nat.reduceMul, Nat.reduceLeDiff, Nat.reduceMod, UInt8.reduceOfNat, Nat.reduceLT, Int.reduceEq, Int.reduceAdd, Int.reduceSub, Int.reduceMul]
        repeat' (first | with_reducible assumption | refine And.intro ?_ ?_ | intro _ | (rw [Ev.xStp_eq]; simp -dsimp -implicitDefEqProofs only [S98, R98, hv, hc, hi, hg, hq, Option.isSome_none, he, CCutC, CParse, CStopE, fltV, Ev.panK, edC_wp, unStr_rows, edK_ok, edK_error, ↓Ev.P, Ev.Q, Bool.cond_true, Bool.cond_false, eq_self, forall_eq_or_imp, implies_true, forall_const, forall_eq, ↓reduceIte, reduceIte, Nat.reduceEqDiff, Nat.reduceAdd, reduceCtorEq, Nat.reduceSub, Int.reduceToNat, Int.reduceLE, Int.reduceLT, Int.reduceNeg, Nat.reduceBEq, Nat.reduceMul, Nat.reduceLeDiff, Nat.reduceMod, UInt8.reduceOfNat, Nat.reduceLT, Int.reduceEq, Int.reduceAdd, Int.reduceSub, Int.reduceMul]))
        all_goals try omega
        all_goals exact hk
end Go.Proofs.YtlghobefhmpfkaaGreatDoor
set_option linter.unusedVariables false
set_option linter.unusedSimpArgs false
namespace Go.Proofs.YtlghobefhmpfkaaGreatDoor
open Go Go.Ev Go.Rcs
set_option maxRecDepth 100000
variable {G : World → Prop}
theorem owns_congr {B : Nat → Nat → Prop} {ob ob' : List (Nat × Ob)} (h : ∀ k, lk ob k = lk ob' k) : owns B ob = owns B ob' := by
  funext b; simp only [owns, h]
theorem vw_congr {H : Hd G} {w : World} {B : Nat → Nat → Prop} {ob ob' : List (Nat × Ob)} (h : ∀ k, lk ob k = lk ob' k) : vw H w B ob = vw H w B ob' := by
  funext a u; simp only [vw, owns_congr h]
theorem sok_congr {H : Hd G} {w : World} {m : Nat → Value} {B : Nat → Nat → Prop} {s s' : Store} (h : ∀ k, lk s.ob k = lk s'.ob k) (hn : s.n = s'.n) (hO : SOk H w m B s) : SOk H w m B s' :=
  ⟨fun o x hx => by rw [← hn, ← vw_congr h]; exact hO.obs o x (by rw [h]; exact hx), fun o x hx => by rw [← hn]; exact hO.lt o x (by rw [h]; exact hx),
   fun o o' x x' hx hx' => hO.sep o o' x x' (by rw [h]; exact hx) (by rw [h]; exact hx'), fun o x b hx => hO.blk o x b (by rw [h]; exact hx), hO.hid, hO.gw, fun o x b hx => hO.seph o x b (by rw [h]; exact hx)⟩
theorem since_congr {w w' : World} {m m' : Nat → Value} {B B' : Nat → Nat → Prop} {s s' s2 : Store} (h : ∀ k, lk s'.ob k = lk s2.ob k) (hn : s'.n = s2.n) (hS : Since w m B s w' m' B' s') : Since w m B s w' m' B' s2 :=
  ⟨hS.os, hS.tape, hS.output, hS.size, hS.block, fun b hb => hS.own b (by rw [owns_congr h]; exact hb), hn ▸ hS.n, hS.m, fun o x b ho hx => hS.keep o x b ho (by rw [h]; exact hx)⟩
theorem own_sl {w : World} {e : TypeId} {v : Value} {n : Nat} {xs : List Value} (h : w.ownsRow 0 e 1 v n xs) : ∃ A tc, v = .slice A n tc ∧ n ≤ tc ∧ SlCells w A xs ∧ xs.length = n := by
  have hl := h.1
  rw [Nat.mul_one] at hl
  rcases h.2 with ⟨rfl, rfl⟩ | ⟨g, cap, cur, rfl, _, hg, hn, _⟩
  · exact ⟨none, 0, rfl, Nat.le_refl _, fun h0 => by omega, hl⟩
  · exact ⟨some ⟨g, 0, none⟩, cap, rfl, hn, fun _ => ⟨_, rfl, h.cells rfl⟩, hl⟩
theorem flat1 {l : List (List D)} (h : ∀ r ∈ l, r.length = 1) : l.flatten.length = l.length := by rw [flat_length h, Nat.mul_one]
theorem RdL_take' {c : Rdr} : ∀ {l : List D} {vs : List Value} (k : Nat), RdL c l vs → RdL c (l.take k) (vs.take k)
  | [], [], k, h => by simpa using h
  | d :: ds, v :: vs, 0, hh => by simp [RdL]
  | d :: ds, v :: vs, k + 1, hh => by simpa [RdL] using ⟨hh.1, RdL_take' k hh.2⟩
theorem RdL_drop' {c : Rdr} : ∀ {l : List D} {vs : List Value} (k : Nat), RdL c l vs → RdL c (l.drop k) (vs.drop k)
  | [], [], k, h => by simpa using h
  | d :: ds, v :: vs, 0, hh => by simpa using hh
  | d :: ds, v :: vs, k + 1, hh => by simpa using RdL_drop' k hh.2
theorem flat_take1 : ∀ {l : List (List D)} (k : Nat), (∀ r ∈ l, r.length = 1) → (l.take k).flatten = l.flatten.take k
  | [], k, h => by simp
  | r :: l, 0, h => by simp
  | r :: l, k + 1, h => by
    obtain ⟨x, rfl⟩ := List.length_eq_one_iff.1 (h r (by simp))
    have ih := flat_take1 k (fun y hy => h y (List.mem_cons_of_mem _ hy))
    simp only [List.take_succ_cons, List.flatten_cons, List.cons_append, List.nil_append, ih]
theorem flat_drop1 : ∀ {l : List (List D)} (k : Nat), (∀ r ∈ l, r.length = 1) → (l.drop k).flatten = l.flatten.drop k
  | [], k, h => by simp
  | r :: l, 0, h => by simp
  | r :: l, k + 1, h => by
    obtain ⟨x, rfl⟩ := List.length_eq_one_iff.1 (h r (by simp))
    have ih := flat_drop1 k (fun y hy => h y (List.mem_cons_of_mem _ hy))
    simp only [List.drop_succ_cons, List.flatten_cons, List.cons_append, List.nil_append, ih]
def curE (p n : Nat) : Int := if n = 0 then -1 else (p : Int) + n - 1
set_option maxHeartbeats 2000000 in
theorem repl_core {H : Hd G} {w : World} {m : Nat → Value} {B : Nat → Nat → Prop} {s : Store} (hO : SOk H w m B s) {t : TypeId} {c : Int} {x y : D} {T l : List (List D)}
    (h0 : lk s.ob 0 = some (.cells t [.own 1, .d (.v (.int .i64 c)), .d x, .d y])) (h1 : lk s.ob 1 = some (.row 9 1 T)) {p n : Nat} (hp : p + n ≤ T.length) (hT : T.length ≤ 1099511627776) (hl : l.length ≤ 1099511627776)
    {v0 v1 v2 : Value} (a0 : Cn m s.n (vw H w B s.ob) (.ptr 0 0) v0) (a1 : v1 = .int .i64 p) (a2 : v2 = .int .i64 n) {LA : Option Addr} {lc : Nat} {ys : List Value} (hlc : l.length ≤ lc)
    (hys : RdL (vw H w B s.ob) l.flatten ys) (hlr : ∀ r ∈ l, r.length = 1) (hLA : SlCells w LA ys) :
    HasBody Tryz.prog 96 ∧ Calls Tryz.prog 96 #[v0, v1, v2, .slice LA l.length lc] w fun e w' => e = .returned (.tuple #[]) ∧ ∃ m' B',
      Since w m B s w' m' B' ⟨s.n + 1, (0, .cells t [.own s.n, .d (.v (.int .i64 (curE p l.length))), .d x, .d y]) :: (s.n, .row 9 1 (T.take p ++ (l ++ T.drop (p + n)))) :: (1, .dead) :: s.ob⟩ ∧
      SOk H w' m' B' ⟨s.n + 1, (0, .cells t [.own s.n, .d (.v (.int .i64 (curE p l.length))), .d x, .d y]) :: (s.n, .row 9 1 (T.take p ++ (l ++ T.drop (p + n)))) :: (1, .dead) :: s.ob⟩ := by
  refine ⟨⟨Tryz.f96, by kernel_rfl, by kernel_rfl, by kernel_rfl⟩, ?_⟩
  subst a1; subst a2
  have n0 := hO.lt 0 _ h0
  have n1 := hO.lt 1 _ h1
  obtain ⟨b, cs, g1, g2, g3, g4, g5⟩ := hO.obs 0 _ h0
  obtain ⟨xs, r1, r2, r3, r4⟩ := hO.obs 1 _ h1
  simp only [Cn] at a0
  obtain ⟨_, b', e1, rfl⟩ := a0
  rw [g1] at e1
  simp only [Value.pointer.injEq, Option.some.injEq, Addr.mk.injEq, and_true] at e1
  subst e1
  obtain ⟨cl⟩ := cs
  match cl, g2, g3, g4 with
  | [u0, u1, u2, u3], g2, g3, g4 =>
    simp only [CnL, Cn, and_true] at g3
    obtain ⟨⟨_, rfl, _⟩, hc1, hx, hy⟩ := g3
    obtain ⟨A, tc, hm1, htc, hA, hxl⟩ := own_sl r1
    rw [hm1] at g2
    have hyl : ys.length = l.length := by rw [RdL_length hys, flat1 hlr]
    have hox := RdL_one r2
    have hoy := RdL_one hys
    have hbs : b < w.heap.size := (Array.getElem?_eq_some_iff.1 g2).1
    refine (repl_run w b t A T.length tc u1 u2 u3 p n LA l.length lc xs ys _ _ rfl rfl g2 hp htc hlc ⟨hT, hl⟩ hxl hA hyl hLA hox hoy).mono ?_
    rintro e w' ⟨rfl, g, k1, k2, k3, k4, k5, k6, k7, k8⟩
    refine ⟨rfl, ?_⟩
    have hNl : (xs.take p ++ (ys ++ xs.drop (p + n))).length = (T.take p ++ (l ++ T.drop (p + n))).length := by
      simp only [List.length_append, List.length_take, List.length_drop, hxl, hyl]
    have hNm : (T.take p ++ (l ++ T.drop (p + n))).length ≤ 2199023255552 := by
      simp only [List.length_append, List.length_take, List.length_drop]; omega
    have hgl : g < w'.heap.size := (Array.getElem?_eq_some_iff.1 k2).1
    have hgb : g ≠ b := by omega
    have hnew : ∀ r ∈ T.take p ++ (l ++ T.drop (p + n)), r.length = 1 := by
      intro r hr
      rcases List.mem_append.1 hr with h | h
      · exact r3 r (List.mem_of_mem_take h)
      · rcases List.mem_append.1 h with h | h
        · exact hlr r h
        · exact r3 r (List.mem_of_mem_drop h)
    have hrd : RdL (vw H w B s.ob) (T.take p ++ (l ++ T.drop (p + n))).flatten (xs.take p ++ (ys ++ xs.drop (p + n))) := by
      rw [List.flatten_append, List.flatten_append, flat_take1 p r3, flat_drop1 (p + n) r3]
      exact RdL_append (RdL_take' p r2) (RdL_append hys (RdL_drop' (p + n) r2))
    generalize hw1 : ({ w' with heap := w'.heap.setIfInBounds b (.cells #[.slice A T.length tc, u1, u2, u3] t (0, 0)) } : World) = w1
    have q1 : ∀ k, k ≠ b → w1.heap[k]? = w'.heap[k]? := fun k hk => by subst hw1; exact Array.getElem?_setIfInBounds_ne (fun e => hk e.symm)
    have q2 : w1.heap[b]? = some (.cells #[.slice A T.length tc, u1, u2, u3] t (0, 0)) := by subst hw1; exact Array.getElem?_setIfInBounds_self_of_lt (by omega)
    have q3 : ∀ k, k < w.heap.size → w1.heap[k]? = w.heap[k]? := fun k hk => by
      by_cases e : k = b
      · subst e; rw [q2, g2]
      · rw [q1 k e, k8 k hk e]
    have q4 : w1.heap.size = w'.heap.size := by subst hw1; simp
    have q5 : w1.os = w'.os := by subst hw1; rfl
    have q6 : w1.tape = w'.tape := by subst hw1; rfl
    have q7 : w1.output = w'.output := by subst hw1; rfl
    have mv := SOk.mv (w1 := w1) hO 1 _ (.row 9 1 (T.take p ++ (l ++ T.drop (p + n)))) h1 rfl (.slice (some ⟨g, 0, none⟩) (xs.take p ++ (ys ++ xs.drop (p + n))).length (xs.take p ++ (ys ++ xs.drop (p + n))).length) (fun z => z = g)
      (q5.trans k4) (q6.trans k5) (q7.trans k6) (by omega) (fun k hk _ => q3 k hk) (fun z _ hz => by subst hz; exact ⟨by omega, .inr k1⟩) (fun c hc _ => by
        refine ⟨xs.take p ++ (ys ++ xs.drop (p + n)), ⟨by rw [Nat.mul_one]; exact hNl, .inr ⟨g, (T.take p ++ (l ++ T.drop (p + n))).length, (xs.take p ++ (ys ++ xs.drop (p + n))).toArray, ?_, Nat.zero_le _, (q1 g hgb).trans k2, Nat.le_refl _, ?_, ?_, ?_⟩⟩, RdL_mono hc _ _ hrd, hnew, fun z => ?_⟩
        · show (if s.n = s.n then _ else _) = _
          rw [if_pos rfl, hNl]
        · have : maxLen = 9223372036854775807 := by decide
          omega
        · rw [Nat.mul_one, ← hNl]; exact List.size_toArray
        · rw [Nat.mul_one, ← hNl]; exact List.take_length
        · show z = g ↔ Value.ownBlock (if s.n = s.n then _ else _) = some z
          rw [if_pos rfl]; simp only [Value.ownBlock, Option.some.injEq]; exact eq_comm)
    have z0 : (0 : Nat) ≠ s.n := by omega
    have up := SOk.upd (w1 := w') mv.2 0 (.cells t [.own 1, .d (.v (.int .i64 c)), .d x, .d y]) (.cells t [.own s.n, .d (.v (.int .i64 (curE p l.length))), .d x, .d y])
      (by simp only [lk_cons]; rw [if_neg (by omega), if_neg (by decide)]; exact h0) rfl (fun z => z = b)
      q5.symm q6.symm q7.symm (by omega) (fun k hk hn => by
        rw [q1 k]
        intro e
        refine hn ?_
        show (if (0 : Nat) = s.n then (fun z => z = g) else B 0) k
        rw [if_neg z0]
        exact (g5 k).2 e)
      (fun z _ hz => ⟨by omega, .inl (by
        show (if (0 : Nat) = s.n then (fun z => z = g) else B 0) z
        rw [if_neg z0]
        exact (g5 z).2 hz)⟩)
      (fun c hc _ => by
        refine ⟨b, _, ?_, k3, ?_, ?_, fun z => Iff.rfl⟩
        · show (if (0 : Nat) = s.n then _ else _) = _
          rw [if_neg z0]; exact g1
        · simp only [CnL, Cn, and_true]
          refine ⟨⟨by omega, ?_, rfl⟩, ⟨?_, rfl⟩, Rd_mono (fun a u h => hc a u (mv.1.vw a u h)) _ _ hx, Rd_mono (fun a u h => hc a u (mv.1.vw a u h)) _ _ hy⟩
          · exact (if_pos trivial).symm
          · rw [curE, hyl]
        · intro z hz
          simp only [List.mem_cons, List.not_mem_nil, or_false] at hz
          rcases hz with rfl | rfl | rfl | rfl
          · rfl
          · rfl
          · exact g4 _ (by simp)
          · exact g4 _ (by simp))
    exact ⟨_, _, mv.1.trans up.1, up.2⟩
  | [], _, h, _ => simp [CnL] at h
  | [_], _, h, _ => simp [CnL] at h
  | [_, _], _, h, _ => simp [CnL] at h
  | [_, _, _], _, h, _ => simp [CnL] at h
  | _ :: _ :: _ :: _ :: _ :: _, _, h, _ => simp [CnL] at h
def CRepl : Contract := stC fun args st => match args, st with
  | [.ptr 0 0, .d (.v (.int .i64 p)), .d (.v (.int .i64 n)), .d (.sl l)], ⟨2, [(0, .cells t [.own 1, .d (.v (.int .i64 c)), .d x, .d y]), (1, .row u z T)]⟩ =>
    some ((0 ≤ p ∧ 0 ≤ n ∧ p + n ≤ T.length ∧ T.length ≤ 1099511627776 ∧ l.length ≤ 1099511627776 ∧ (u = 9 ∧ z = 1) ∧ ∀ r ∈ l, r.length = 1), .tup [], ⟨3, [(0, .cells t [.own 2, .d (.v (.int .i64 (curE p.toNat l.length))), .d x, .d y]), (1, .dead), (2, .row 9 1 (T.take p.toNat ++ (l ++ T.drop (p.toNat + n.toNat))))]⟩)
  | _, _ => none
theorem s96 : Sound G Tryz.prog 96 CRepl := by
  refine ⟨stC_lawful _, fun H w m B s args vs K hK hO ha => ?_, SoundIt.none⟩
  unfold CRepl at hK
  rw [stC_wp] at hK
  obtain ⟨z, h1, h2, h3⟩ := need_ex hK
  split at h1 <;> simp only [Option.some.injEq, reduceCtorEq] at h1
  subst h1
  rename_i p n l t c x y u z T
  simp only at h2 h3
  obtain ⟨p0, n0, hp, hT, hl, ⟨rfl, rfl⟩, hlr⟩ := h2
  obtain ⟨p, rfl⟩ := Int.eq_ofNat_of_zero_le p0
  obtain ⟨n, rfl⟩ := Int.eq_ofNat_of_zero_le n0
  simp only [Int.toNat_natCast] at h3
  match vs, ha with
  | [v0, v1, v2, v3], ha =>
    simp only [CnL, and_true] at ha
    obtain ⟨a0, a1, a2, a3⟩ := ha
    have a4 := a3
    simp only [Cn, Rd] at a4
    obtain ⟨LA, lc, rfl, hlc, _⟩ := a4
    obtain ⟨A', cap', ys, q1, r2, q3, q4⟩ := source_ok (st := ⟨[], 2, [(0, .cells t [.own 1, .d (.v (.int .i64 c)), .d x, .d y]), (1, .row 9 1 T)]⟩) hO a3 (rows := l) rfl hlr
    simp only [Value.slice.injEq, true_and] at q1
    obtain ⟨rfl, rfl⟩ := q1
    have hLA : SlCells w LA ys := fun h0 => by
      obtain ⟨ad, e1, _⟩ := q4 0 _ (List.getElem?_eq_getElem h0)
      refine ⟨ad, e1, fun j v hj => ?_⟩
      obtain ⟨ad', e2, hc⟩ := q4 j v hj
      rw [e1] at e2
      simp only [Option.some.injEq] at e2
      subst e2
      exact hc
    obtain ⟨hB, hC⟩ := repl_core hO (t := t) (c := c) (x := x) (y := y) (T := T) (l := l) rfl rfl (p := p) (n := n) (by omega) hT hl a0 (of_v a1) (of_v a2) hlc r2 hlr hLA
    refine ⟨hB, hC.mono ?_⟩
    rintro e w' ⟨rfl, m', B', hS, hO'⟩
    have hlk : ∀ k, lk ((0, Ob.cells t [.own 2, .d (.v (.int .i64 (curE p l.length))), .d x, .d y]) :: (2, .row 9 1 (T.take p ++ (l ++ T.drop (p + n)))) :: (1, .dead) :: [(0, .cells t [.own 1, .d (.v (.int .i64 c)), .d x, .d y]), (1, .row 9 1 T)]) k =
        lk [(0, Ob.cells t [.own 2, .d (.v (.int .i64 (curE p l.length))), .d x, .d y]), (1, .dead), (2, .row 9 1 (T.take p ++ (l ++ T.drop (p + n))))] k := by
      intro k
      simp only [lk_cons]
      by_cases e0 : 0 = k
      · subst e0; rfl
      by_cases e1 : 1 = k
      · subst e1; rfl
      by_cases e2 : 2 = k
      · subst e2; rfl
      simp only [e0, e1, e2, if_false]
    refine ⟨m', _, _, _, h3, sok_congr ?_ ?_ hO', since_congr ?_ ?_ hS, ?_⟩
    · exact hlk
    · rfl
    · exact hlk
    · rfl
    simp only [OutOk]
    exact ⟨_, rfl, trivial⟩
  | [], ha => simp [CnL] at ha
  | [_], ha => simp [CnL] at ha
  | [_, _], ha => simp [CnL] at ha
  | [_, _, _], ha => simp [CnL] at ha
  | _ :: _ :: _ :: _ :: _ :: _, ha => simp [CnL] at ha
end Go.Proofs.YtlghobefhmpfkaaGreatDoor
set_option linter.unusedVariables false
set_option linter.unusedSimpArgs false
namespace Go.Proofs.YtlghobefhmpfkaaGreatDoor
open Go Go.Ev Go.Rcs
set_option maxRecDepth 100000
variable {G : World → Prop}
def cmK (t : TypeId) (rows T : List (List D)) (c : Int) (K : Out → Store → Prop) : Except Fl (Ed × Nat) → Prop
  | .ok (y, a) => K (.ret (.tup [])) ⟨3, [(0, .cells t [.own 2, .d (.v (.int .i64 y.2)), .d (.sl rows), .d (.v (.int .i64 (a : Nat)))]), (1, .dead), (2, .row 9 1 (strRows y.1))]⟩ ∧ K (.ret (.tup [])) ⟨2, [(0, .cells t [.own 1, .d (.v (.int .i64 y.2)), .d (.sl rows), .d (.v (.int .i64 (a : Nat)))]), (1, .row 9 1 (strRows y.1))]⟩
  | .error (a, e) => K (.pan (.d (fltV a e))) ⟨2, [(0, .cells t [.own 1, .d (.v (.int .i64 c)), .d (.sl rows), .d (.v (.int .i64 a))]), (1, .row 9 1 T)]⟩
def cmdW (args : List SV) (st : Store) (K : Out → Store → Prop) : Prop := match args, st with
  | [.ptr 0 0], ⟨2, [(0, .cells t [.own 1, .d (.v (.int .i64 c)), .d (.sl rows), .d (.v (.int .i64 at_))]), (1, .row u z T)]⟩ =>
    need ((unStr rows).bind fun L => (unStr T).map fun X => (L, X)) fun y => ((u = 9 ∧ z = 1) ∧ okE (y.2, c) ∧ (0 ≤ at_ ∧ at_ ≤ y.1.length) ∧ smL y.1 ∧ smL y.2) ∧ cmK t rows T c K (cmdE y.1 (y.2, c) at_.toNat)
  | _, _ => False
def CCmdE : Contract := wpC cmdW
theorem cmdE_wp {t u : TypeId} {z : Nat} {T rows : List (List D)} {c at_ : Int} {K : Out → Store → Prop} :
    CCmdE.wp [.ptr 0 0] ⟨2, [(0, .cells t [.own 1, .d (.v (.int .i64 c)), .d (.sl rows), .d (.v (.int .i64 at_))]), (1, .row u z T)]⟩ K =
      need ((unStr rows).bind fun L => (unStr T).map fun X => (L, X)) fun y => ((u = 9 ∧ z = 1) ∧ okE (y.2, c) ∧ (0 ≤ at_ ∧ at_ ≤ y.1.length) ∧ smL y.1 ∧ smL y.2) ∧ cmK t rows T c K (cmdE y.1 (y.2, c) at_.toNat) := rfl
@[congr] theorem cmdE_congr {l l' : List SV} {s s' : Store} {K : Out → Store → Prop} (h : l = l') (h2 : s = s') : CCmdE.wp l s K = CCmdE.wp l' s' K := by rw [h, h2]
theorem cmK_ok {t : TypeId} {rows T : List (List D)} {c : Int} {K : Out → Store → Prop} {y : Ed} {a : Nat} : cmK t rows T c K (.ok (y, a)) = (K (.ret (.tup [])) ⟨3, [(0, .cells t [.own 2, .d (.v (.int .i64 y.2)), .d (.sl rows), .d (.v (.int .i64 (a : Nat)))]), (1, .dead), (2, .row 9 1 (strRows y.1))]⟩ ∧ K (.ret (.tup [])) ⟨2, [(0, .cells t [.own 1, .d (.v (.int .i64 y.2)), .d (.sl rows), .d (.v (.int .i64 (a : Nat)))]), (1, .row 9 1 (strRows y.1))]⟩) := rfl
theorem cmK_error {t : TypeId} {rows T : List (List D)} {c : Int} {K : Out → Store → Prop} {a e : Int} : cmK t rows T c K (.error (a, e)) = K (.pan (.d (fltV a e))) ⟨2, [(0, .cells t [.own 1, .d (.v (.int .i64 c)), .d (.sl rows), .d (.v (.int .i64 a))]), (1, .row 9 1 T)]⟩ := rfl
theorem put_rows (X l : List (List UInt8)) (p n : Nat) : (strRows X).take p ++ (strRows l ++ (strRows X).drop (p + n)) = strRows (putE X p n l).1 := by
  simp [strRows, putE, List.map_take, List.map_drop]
theorem put_non2 (X : List (List UInt8)) (p n : Nat) : (strRows X).take p ++ (strRows X).drop (p + n) = strRows (putE X p n []).1 := by
  simp [strRows, putE, List.map_take, List.map_drop]
theorem cur_none (p : Nat) : curE p 0 = -1 := rfl
theorem put_cur (X l : List (List UInt8)) (p n : Nat) : curE p l.length = (putE X p n l).2 := by
  unfold curE putE
  cases l <;> simp
set_option maxHeartbeats 16000000 in
theorem s47 (hE : ∀ w, G w → ErrR w) : Sound G Tryz.prog 47 CCmdE := by
  refine sd47 (T := tabT [(95, CNextE), (48, CStopE), (97, CBodyE), (96, CRepl), (98, CPlaceE)]) (tab_cons s95 (tab_cons s48 (tab_cons s97 (tab_cons s96 (tab_cons (s98 hE) tab_nil))))) (wpC_lawful _) (fun args st K hW => ?_)
  replace hW : cmdW args st K := hW
  unfold cmdW at hW
  split at hW
  rotate_left
  · exact hW.elim
  rename_i t c rows at_ u z T0
  obtain ⟨y, hy, ⟨⟨rfl, rfl⟩, hok, ⟨t0, t1⟩, ⟨hLl, hL⟩, hXl, hX⟩, hk⟩ := need_ex hW
  obtain ⟨L, hL0, hy⟩ := Option.bind_eq_some_iff.1 hy
  obtain ⟨X, hX0, rfl⟩ := Option.map_eq_some_iff.1 hy
  rw [unStr_eq hL0] at *
  rw [unStr_eq hX0] at *
  obtain ⟨k, rfl⟩ := Int.eq_ofNat_of_zero_le t0
  rw [Int.toNat_natCast] at hk
  dsimp only at hk hok hL hLl hX hXl t1
  refine ⟨Nat.le_of_ble_eq_true rfl, ?_⟩
  unfold cmdE at hk
  cases hx : nextL L k with
  | error x =>
    obtain ⟨xa, xe⟩ := x
    rw [hx] at hk; dsimp only at hk
    rw [cmK_error] at hk
    unfold fltV at hk
    refine ⟨[0, 1], [0, 1], ?_⟩
    simp -dsimp -implicitDefEqProofs only [S47, R47, S47_0, S47_1, S47_2, S47_3, S47_4, S47_5, S47_6, S47_7, S47r1, S47r2, S47r3, S47r4, S47r5, S47r6, S47r7, S47r8, hx, impF, CNextE, CStopE, CPlaceE, CRepl, fltV, Ev.panK, edC_wp, bodE_wp, bodK_ok, bodK_error, edK_ok, edK_error, plK, map_ok, map_error, strA, unStr_rows, strRows_len, strRows_all, ↓Ev.P, Ev.Q, Bool.cond_true, Bool.cond_false, eq_self, forall_eq_or_imp, implies_true, forall_const, forall_eq, ↓reduceIte, reduceIte, Nat.reduceEqDiff, Nat.reduceAdd, reduceCtorEq, Nat.reduceSub, Int.reduceToNat, Int.reduceLE, Int.reduceLT, Int.reduceNeg, Nat.reduceBEq, Nat.reduceMul, Nat.reduceLeDiff, Nat.reduceMod, UInt8.reduceOfNat, Nat.reduceLT, Int.reduceEq, Int.reduceAdd, Int.reduceSub, Int.reduceMul]
    repeat' (first | with_reducible assumption | refine And.intro ?_ ?_ | intro _ | (rw [Ev.xStp_eq]; simp -dsimp -implicitDefEqProofs only [hx, impF, CNextE, CStopE, CPlaceE, CRepl, fltV, Ev.panK, edC_wp, bodE_wp, bodK_ok, bodK_error, edK_ok, edK_error, plK, map_ok, map_error, strA, unStr_rows, strRows_len, strRows_all, ↓Ev.P, Ev.Q, Bool.cond_true, Bool.cond_false, eq_self, forall_eq_or_imp, implies_true, forall_const, forall_eq, ↓reduceIte, reduceIte, Nat.reduceEqDiff, Nat.reduceAdd, reduceCtorEq, Nat.reduceSub, Int.reduceToNat, Int.reduceLE, Int.reduceLT, Int.reduceNeg, Nat.reduceBEq, Nat.reduceMul, Nat.reduceLeDiff, Nat.reduceMod, UInt8.reduceOfNat, Nat.reduceLT, Int.reduceEq, Int.reduceAdd, Int.reduceSub, Int.reduceMul]))
    all_goals try omega
    all_goals exact hk
  | ok x =>
    obtain ⟨s, a⟩ := x
    obtain ⟨ha, hlt, hs⟩ := nextL_le hx
    have hsl : s.length ≤ 1099511627776 := by rw [hs]; exact Nat.le_trans (bare_len _) (hL _ (getD_in hlt))
    clear hs
    rw [hx] at hk; dsimp only at hk
    by_cases h1 : s = []
    · rw [if_pos h1] at hk
      rw [cmK_error] at hk
      unfold fltV at hk
      refine ⟨[0, 1], [0, 1], ?_⟩
      simp -dsimp -implicitDefEqProofs only [S47, R47, S47_0, S47_1, S47_2, S47_3, S47_4, S47_5, S47_6, S47_7, S47r1, S47r2, S47r3, S47r4, S47r5, S47r6, S47r7, S47r8, hx, h1, impF, CNextE, CStopE, CPlaceE, CRepl, fltV, Ev.panK, edC_wp, bodE_wp, bodK_ok, bodK_error, edK_ok, edK_error, plK, map_ok, map_error, strA, unStr_rows, strRows_len, strRows_all, ↓Ev.P, Ev.Q, Bool.cond_true, Bool.cond_false, eq_self, forall_eq_or_imp, implies_true, forall_const, forall_eq, ↓reduceIte, reduceIte, Nat.reduceEqDiff, Nat.reduceAdd, reduceCtorEq, Nat.reduceSub, Int.reduceToNat, Int.reduceLE, Int.reduceLT, Int.reduceNeg, Nat.reduceBEq, Nat.reduceMul, Nat.reduceLeDiff, Nat.reduceMod, UInt8.reduceOfNat, Nat.reduceLT, Int.reduceEq, Int.reduceAdd, Int.reduceSub, Int.reduceMul]
      repeat' (first | with_reducible assumption | refine And.intro ?_ ?_ | intro _ | (rw [Ev.xStp_eq]; simp -dsimp -implicitDefEqProofs only [hx, h1, impF, CNextE, CStopE, CPlaceE, CRepl, fltV, Ev.panK, edC_wp, bodE_wp, bodK_ok, bodK_error, edK_ok, edK_error, plK, map_ok, map_error, strA, unStr_rows, strRows_len, strRows_all, ↓Ev.P, Ev.Q, Bool.cond_true, Bool.cond_false, eq_self, forall_eq_or_imp, implies_true, forall_const, forall_eq, ↓reduceIte, reduceIte, Nat.reduceEqDiff, Nat.reduceAdd, reduceCtorEq, Nat.reduceSub, Int.reduceToNat, Int.reduceLE, Int.reduceLT, Int.reduceNeg, Nat.reduceBEq, Nat.reduceMul, Nat.reduceLeDiff, Nat.reduceMod, UInt8.reduceOfNat, Nat.reduceLT, Int.reduceEq, Int.reduceAdd, Int.reduceSub, Int.reduceMul]))
      all_goals try omega
      all_goals exact hk
    rw [if_neg h1] at hk
    by_cases h2 : s = [97]
    · rw [if_pos h2] at hk
      have h1' : ¬ ([97] : List UInt8) = [] := by decide
      have h3' : ¬ ([97] : List UInt8) = [115, 47, 46, 47, 47] := by decide
      subst h2
      by_cases hc : c = -1
      · rw [if_pos hc] at hk
        subst hc
        rw [cmK_error] at hk
        unfold fltV at hk
        refine ⟨[0, 1], [0, 1], ?_⟩
        simp -dsimp -implicitDefEqProofs only [S47, R47, S47_0, S47_1, S47_2, S47_3, S47_4, S47_5, S47_6, S47_7, S47r1, S47r2, S47r3, S47r4, S47r5, S47r6, S47r7, S47r8, hx, h1', h3', impF, CNextE, CStopE, CPlaceE, CRepl, fltV, Ev.panK, edC_wp, bodE_wp, bodK_ok, bodK_error, edK_ok, edK_error, plK, map_ok, map_error, strA, unStr_rows, strRows_len, strRows_all, ↓Ev.P, Ev.Q, Bool.cond_true, Bool.cond_false, eq_self, forall_eq_or_imp, implies_true, forall_const, forall_eq, ↓reduceIte, reduceIte, Nat.reduceEqDiff, Nat.reduceAdd, reduceCtorEq, Nat.reduceSub, Int.reduceToNat, Int.reduceLE, Int.reduceLT, Int.reduceNeg, Nat.reduceBEq, Nat.reduceMul, Nat.reduceLeDiff, Nat.reduceMod, UInt8.reduceOfNat, Nat.reduceLT, Int.reduceEq, Int.reduceAdd, Int.reduceSub, Int.reduceMul]
        repeat' (first | with_reducible assumption | refine And.intro ?_ ?_ | intro _ | (rw [Ev.xStp_eq]; simp -dsimp -implicitDefEqProofs only [hx, h1', h3', impF, CNextE, CStopE, CPlaceE, CRepl, fltV, Ev.panK, edC_wp, bodE_wp, bodK_ok, bodK_error, edK_ok, edK_error, plK, map_ok, map_error, strA, unStr_rows, strRows_len, strRows_all, ↓Ev.P, Ev.Q, Bool.cond_true, Bool.cond_false, eq_self, forall_eq_or_imp, implies_true, forall_const, forall_eq, ↓reduceIte, reduceIte, Nat.reduceEqDiff, Nat.reduceAdd, reduceCtorEq, Nat.reduceSub, Int.reduceToNat, Int.reduceLE, Int.reduceLT, Int.reduceNeg, Nat.reduceBEq, Nat.reduceMul, Nat.reduceLeDiff, Nat.reduceMod, UInt8.reduceOfNat, Nat.reduceLT, Int.reduceEq, Int.reduceAdd, Int.reduceSub, Int.reduceMul]))
        all_goals try omega
        all_goals exact hk
      · rw [if_neg hc] at hk
        have hc0 := hok.resolve_left hc
        obtain ⟨cn, rfl⟩ := Int.eq_ofNat_of_zero_le hc0.1
        have e1 : ((cn : Int) + 1).toNat = cn + 1 := by omega
        have hcl := hc0.2
        dsimp only at hcl
        rw [e1] at hk
        unfold bodyE at hk
        cases hb : bodyL L (L.length - a) a [] with
        | error x =>
          obtain ⟨xa, xe⟩ := x
          rw [hb] at hk; dsimp only at hk
          rw [cmK_error] at hk
          unfold fltV at hk
          refine ⟨[0, 1], [0, 1], ?_⟩
          simp -dsimp -implicitDefEqProofs only [S47, R47, S47_0, S47_1, S47_2, S47_3, S47_4, S47_5, S47_6, S47_7, S47r1, S47r2, S47r3, S47r4, S47r5, S47r6, S47r7, S47r8, hx, h1', h3', hc, hb, impF, CNextE, CStopE, CPlaceE, CRepl, fltV, Ev.panK, edC_wp, bodE_wp, bodK_ok, bodK_error, edK_ok, edK_error, plK, map_ok, map_error, strA, unStr_rows, strRows_len, strRows_all, ↓Ev.P, Ev.Q, Bool.cond_true, Bool.cond_false, eq_self, forall_eq_or_imp, implies_true, forall_const, forall_eq, ↓reduceIte, reduceIte, Nat.reduceEqDiff, Nat.reduceAdd, reduceCtorEq, Nat.reduceSub, Int.reduceToNat, Int.reduceLE, Int.reduceLT, Int.reduceNeg, Nat.reduceBEq, Nat.reduceMul, Nat.reduceLeDiff, Nat.reduceMod, UInt8.reduceOfNat, Nat.reduceLT, Int.reduceEq, Int.reduceAdd, Int.reduceSub, Int.reduceMul]
          repeat' (first | with_reducible assumption | refine And.intro ?_ ?_ | intro _ | (rw [Ev.xStp_eq]; simp -dsimp -implicitDefEqProofs only [hx, h1', h3', hc, hb, impF, CNextE, CStopE, CPlaceE, CRepl, fltV, Ev.panK, edC_wp, bodE_wp, bodK_ok, bodK_error, edK_ok, edK_error, plK, map_ok, map_error, strA, unStr_rows, strRows_len, strRows_all, ↓Ev.P, Ev.Q, Bool.cond_true, Bool.cond_false, eq_self, forall_eq_or_imp, implies_true, forall_const, forall_eq, ↓reduceIte, reduceIte, Nat.reduceEqDiff, Nat.reduceAdd, reduceCtorEq, Nat.reduceSub, Int.reduceToNat, Int.reduceLE, Int.reduceLT, Int.reduceNeg, Nat.reduceBEq, Nat.reduceMul, Nat.reduceLeDiff, Nat.reduceMod, UInt8.reduceOfNat, Nat.reduceLT, Int.reduceEq, Int.reduceAdd, Int.reduceSub, Int.reduceMul]))
          all_goals try omega
          all_goals exact hk
        | ok x =>
          obtain ⟨l, b⟩ := x
          rw [hb] at hk; dsimp only at hk
          rw [cmK_ok] at hk
          have hle := bodyL_le hb
          have hp1 := put_rows X l (cn + 1) 0
          have hp2 := put_cur X l (cn + 1) 0
          rw [Nat.add_zero] at hp1
          refine ⟨[0, 1, 3], [0, 1], ?_⟩
          simp -dsimp -implicitDefEqProofs only [S47, R47, S47_0, S47_1, S47_2, S47_3, S47_4, S47_5, S47_6, S47_7, S47r1, S47r2, S47r3, S47r4, S47r5, S47r6, S47r7, S47r8, hx, h1', h3', hc, hb, e1, hp1, hp2, impF, CNextE, CStopE, CPlaceE, CRepl, fltV, Ev.panK, edC_wp, bodE_wp, bodK_ok, bodK_error, edK_ok, edK_error, plK, map_ok, map_error, strA, unStr_rows, strRows_len, strRows_all, ↓Ev.P, Ev.Q, Bool.cond_true, Bool.cond_false, eq_self, forall_eq_or_imp, implies_true, forall_const, forall_eq, ↓reduceIte, reduceIte, Nat.reduceEqDiff, Nat.reduceAdd, reduceCtorEq, Nat.reduceSub, Int.reduceToNat, Int.reduceLE, Int.reduceLT, Int.reduceNeg, Nat.reduceBEq, Nat.reduceMul, Nat.reduceLeDiff, Nat.reduceMod, UInt8.reduceOfNat, Nat.reduceLT, Int.reduceEq, Int.reduceAdd, Int.reduceSub, Int.reduceMul]
          repeat' (first | with_reducible assumption | refine And.intro ?_ ?_ | intro _ | (rw [Ev.xStp_eq]; simp -dsimp -implicitDefEqProofs only [hx, h1', h3', hc, hb, e1, hp1, hp2, impF, CNextE, CStopE, CPlaceE, CRepl, fltV, Ev.panK, edC_wp, bodE_wp, bodK_ok, bodK_error, edK_ok, edK_error, plK, map_ok, map_error, strA, unStr_rows, strRows_len, strRows_all, ↓Ev.P, Ev.Q, Bool.cond_true, Bool.cond_false, eq_self, forall_eq_or_imp, implies_true, forall_const, forall_eq, ↓reduceIte, reduceIte, Nat.reduceEqDiff, Nat.reduceAdd, reduceCtorEq, Nat.reduceSub, Int.reduceToNat, Int.reduceLE, Int.reduceLT, Int.reduceNeg, Nat.reduceBEq, Nat.reduceMul, Nat.reduceLeDiff, Nat.reduceMod, UInt8.reduceOfNat, Nat.reduceLT, Int.reduceEq, Int.reduceAdd, Int.reduceSub, Int.reduceMul]))
          all_goals try omega
          all_goals first | (simp only [List.length_nil] at hle; omega) | exact hk.1
    rw [if_neg h2] at hk
    by_cases h3 : s = stripS
    · rw [if_pos h3] at hk
      have h1' : ¬ ([115, 47, 46, 47, 47] : List UInt8) = [] := by decide
      have h2' : ¬ ([115, 47, 46, 47, 47] : List UInt8) = [97] := by decide
      unfold stripS at h3
      subst h3
      by_cases hc : c = -1
      · rw [if_pos (.inl hc)] at hk
        subst hc
        rw [cmK_error] at hk
        unfold fltV at hk
        refine ⟨[0, 1], [0, 1], ?_⟩
        simp -dsimp -implicitDefEqProofs only [S47, R47, S47_0, S47_1, S47_2, S47_3, S47_4, S47_5, S47_6, S47_7, S47r1, S47r2, S47r3, S47r4, S47r5, S47r6, S47r7, S47r8, hx, h1', h2', impF, CNextE, CStopE, CPlaceE, CRepl, fltV, Ev.panK, edC_wp, bodE_wp, bodK_ok, bodK_error, edK_ok, edK_error, plK, map_ok, map_error, strA, unStr_rows, strRows_len, strRows_all, ↓Ev.P, Ev.Q, Bool.cond_true, Bool.cond_false, eq_self, forall_eq_or_imp, implies_true, forall_const, forall_eq, ↓reduceIte, reduceIte, Nat.reduceEqDiff, Nat.reduceAdd, reduceCtorEq, Nat.reduceSub, Int.reduceToNat, Int.reduceLE, Int.reduceLT, Int.reduceNeg, Nat.reduceBEq, Nat.reduceMul, Nat.reduceLeDiff, Nat.reduceMod, UInt8.reduceOfNat, Nat.reduceLT, Int.reduceEq, Int.reduceAdd, Int.reduceSub, Int.reduceMul]
        repeat' (first | with_reducible assumption | refine And.intro ?_ ?_ | intro _ | (rw [Ev.xStp_eq]; simp -dsimp -implicitDefEqProofs only [hx, h1', h2', impF, CNextE, CStopE, CPlaceE, CRepl, fltV, Ev.panK, edC_wp, bodE_wp, bodK_ok, bodK_error, edK_ok, edK_error, plK, map_ok, map_error, strA, unStr_rows, strRows_len, strRows_all, ↓Ev.P, Ev.Q, Bool.cond_true, Bool.cond_false, eq_self, forall_eq_or_imp, implies_true, forall_const, forall_eq, ↓reduceIte, reduceIte, Nat.reduceEqDiff, Nat.reduceAdd, reduceCtorEq, Nat.reduceSub, Int.reduceToNat, Int.reduceLE, Int.reduceLT, Int.reduceNeg, Nat.reduceBEq, Nat.reduceMul, Nat.reduceLeDiff, Nat.reduceMod, UInt8.reduceOfNat, Nat.reduceLT, Int.reduceEq, Int.reduceAdd, Int.reduceSub, Int.reduceMul]))
        all_goals try omega
        all_goals exact hk
      · have hc0 := hok.resolve_left hc
        obtain ⟨cn, rfl⟩ := Int.eq_ofNat_of_zero_le hc0.1
        have hcl : (cn : Int) < X.length := hc0.2
        have hcl2 : cn < X.length := by omega
        rw [Int.toNat_natCast] at hk
        have hg := strRows_get hcl2
        have hg2 : (strRows X).getD cn [] = [.v (.string ⟨(X.getD cn []).toArray⟩)] := by rw [List.getD_eq_getElem?_getD, hg]; rfl
        by_cases he : X.getD cn [] = []
        · rw [if_pos (.inr he)] at hk
          rw [cmK_error] at hk
          unfold fltV at hk
          refine ⟨[0, 1], [0, 1], ?_⟩
          simp -dsimp -implicitDefEqProofs only [S47, R47, S47_0, S47_1, S47_2, S47_3, S47_4, S47_5, S47_6, S47_7, S47r1, S47r2, S47r3, S47r4, S47r5, S47r6, S47r7, S47r8, hx, h1', h2', hc, hg, hg2, he, impF, CNextE, CStopE, CPlaceE, CRepl, fltV, Ev.panK, edC_wp, bodE_wp, bodK_ok, bodK_error, edK_ok, edK_error, plK, map_ok, map_error, strA, unStr_rows, strRows_len, strRows_all, ↓Ev.P, Ev.Q, Bool.cond_true, Bool.cond_false, eq_self, forall_eq_or_imp, implies_true, forall_const, forall_eq, ↓reduceIte, reduceIte, Nat.reduceEqDiff, Nat.reduceAdd, reduceCtorEq, Nat.reduceSub, Int.reduceToNat, Int.reduceLE, Int.reduceLT, Int.reduceNeg, Nat.reduceBEq, Nat.reduceMul, Nat.reduceLeDiff, Nat.reduceMod, UInt8.reduceOfNat, Nat.reduceLT, Int.reduceEq, Int.reduceAdd, Int.reduceSub, Int.reduceMul]
          repeat' (first | with_reducible assumption | refine And.intro ?_ ?_ | intro _ | (rw [Ev.xStp_eq]; simp -dsimp -implicitDefEqProofs only [hx, h1', h2', hc, hg, hg2, he, impF, CNextE, CStopE, CPlaceE, CRepl, fltV, Ev.panK, edC_wp, bodE_wp, bodK_ok, bodK_error, edK_ok, edK_error, plK, map_ok, map_error, strA, unStr_rows, strRows_len, strRows_all, ↓Ev.P, Ev.Q, Bool.cond_true, Bool.cond_false, eq_self, forall_eq_or_imp, implies_true, forall_const, forall_eq, ↓reduceIte, reduceIte, Nat.reduceEqDiff, Nat.reduceAdd, reduceCtorEq, Nat.reduceSub, Int.reduceToNat, Int.reduceLE, Int.reduceLT, Int.reduceNeg, Nat.reduceBEq, Nat.reduceMul, Nat.reduceLeDiff, Nat.reduceMod, UInt8.reduceOfNat, Nat.reduceLT, Int.reduceEq, Int.reduceAdd, Int.reduceSub, Int.reduceMul]))
          all_goals try omega
          all_goals exact hk
        · rw [if_neg (by simp only [hc, false_or]; exact he)] at hk
          rw [cmK_ok] at hk
          have hxl := hX _ (getD_in hcl2)
          have hpos : 1 ≤ (X.getD cn []).length := List.length_pos_iff.2 he
          have hset : (strRows X).set cn [.v (.string ⟨((X.getD cn []).drop 1).toArray⟩)] = strRows (X.set cn ((X.getD cn []).drop 1)) := by simp [strRows, List.map_set]
          generalize X.getD cn [] = w at hg hg2 he hk hxl hpos hset
          have htk : (w.drop 1).take (w.length - 1) = w.drop 1 := List.take_of_length_le (by rw [List.length_drop]; exact Nat.le_refl _)
          refine ⟨[0, 1], [0, 1], ?_⟩
          simp -dsimp -implicitDefEqProofs only [S47, R47, S47_0, S47_1, S47_2, S47_3, S47_4, S47_5, S47_6, S47_7, S47r1, S47r2, S47r3, S47r4, S47r5, S47r6, S47r7, S47r8, hx, h1', h2', hc, hg, hg2, he, hset, htk, List.length_set, impF, CNextE, CStopE, CPlaceE, CRepl, fltV, Ev.panK, edC_wp, bodE_wp, bodK_ok, bodK_error, edK_ok, edK_error, plK, map_ok, map_error, strA, unStr_rows, strRows_len, strRows_all, ↓Ev.P, Ev.Q, Bool.cond_true, Bool.cond_false, eq_self, forall_eq_or_imp, implies_true, forall_const, forall_eq, ↓reduceIte, reduceIte, Nat.reduceEqDiff, Nat.reduceAdd, reduceCtorEq, Nat.reduceSub, Int.reduceToNat, Int.reduceLE, Int.reduceLT, Int.reduceNeg, Nat.reduceBEq, Nat.reduceMul, Nat.reduceLeDiff, Nat.reduceMod, UInt8.reduceOfNat, Nat.reduceLT, Int.reduceEq, Int.reduceAdd, Int.reduceSub, Int.reduceMul]
          repeat' (first | with_reducible assumption | refine And.intro ?_ ?_ | intro _ | (rw [Ev.xStp_eq]; simp -dsimp -implicitDefEqProofs only [hx, h1', h2', hc, hg, hg2, he, hset, htk, List.length_set, impF, CNextE, CStopE, CPlaceE, CRepl, fltV, Ev.panK, edC_wp, bodE_wp, bodK_ok, bodK_error, edK_ok, edK_error, plK, map_ok, map_error, strA, unStr_rows, strRows_len, strRows_all, ↓Ev.P, Ev.Q, Bool.cond_true, Bool.cond_false, eq_self, forall_eq_or_imp, implies_true, forall_const, forall_eq, ↓reduceIte, reduceIte, Nat.reduceEqDiff, Nat.reduceAdd, reduceCtorEq, Nat.reduceSub, Int.reduceToNat, Int.reduceLE, Int.reduceLT, Int.reduceNeg, Nat.reduceBEq, Nat.reduceMul, Nat.reduceLeDiff, Nat.reduceMod, UInt8.reduceOfNat, Nat.reduceLT, Int.reduceEq, Int.reduceAdd, Int.reduceSub, Int.reduceMul]))
          all_goals try omega
          all_goals exact hk.2
    rw [if_neg h3] at hk
    unfold stripS at h3
    have hpos : 0 < s.length := List.length_pos_iff.2 h1
    have e2 : ((s.length : Int) - 1).toNat = s.length - 1 := by omega
    unfold numE at hk
    have hsl2 : (s.take (s.length - 1)).length ≤ 1099511627776 := by rw [List.length_take]; omega
    have hv0 : (0 : Int) ≤ ((s.getD (s.length - 1) 0).toNat : Int) := by omega
    have hv1 : ((s.getD (s.length - 1) 0).toNat : Int) < 256 := by have := (s.getD (s.length - 1) 0).toNat_lt; omega
    generalize hw : s.take (s.length - 1) = w at hk hsl2
    generalize hv : ((s.getD (s.length - 1) 0).toNat : Int) = v at hk hv0 hv1
    by_cases hvv : v = 97 ∨ v = 99 ∨ v = 100
    · rw [if_pos hvv] at hk
      cases hpl : placeE X.length w v with
      | error e =>
        rw [hpl] at hk; dsimp only at hk
        rw [cmK_error] at hk
        unfold fltV at hk
        rcases hvv with rfl | rfl | rfl
        · have _t := trivial
          refine ⟨[0, 1], [0, 1], ?_⟩
          simp -dsimp -implicitDefEqProofs only [S47, R47, S47_0, S47_1, S47_2, S47_3, S47_4, S47_5, S47_6, S47_7, S47r1, S47r2, S47r3, S47r4, S47r5, S47r6, S47r7, S47r8, hx, h1, h2, h3, e2, hw, hv, hpl, impF, CNextE, CStopE, CPlaceE, CRepl, fltV, Ev.panK, edC_wp, bodE_wp, bodK_ok, bodK_error, edK_ok, edK_error, plK, map_ok, map_error, strA, unStr_rows, strRows_len, strRows_all, ↓Ev.P, Ev.Q, Bool.cond_true, Bool.cond_false, eq_self, forall_eq_or_imp, implies_true, forall_const, forall_eq, ↓reduceIte, reduceIte, Nat.reduceEqDiff, Nat.reduceAdd, reduceCtorEq, Nat.reduceSub, Int.reduceToNat, Int.reduceLE, Int.reduceLT, Int.reduceNeg, Nat.reduceBEq, Nat.reduceMul, Nat.reduceLeDiff, Nat.reduceMod, UInt8.reduceOfNat, Nat.reduceLT, Int.reduceEq, Int.reduceAdd, Int.reduceSub, Int.reduceMul]
          repeat' (first | with_reducible assumption | refine And.intro ?_ ?_ | intro _ | (rw [Ev.xStp_eq]; simp -dsimp -implicitDefEqProofs only [hx, h1, h2, h3, e2, hw, hv, hpl, impF, CNextE, CStopE, CPlaceE, CRepl, fltV, Ev.panK, edC_wp, bodE_wp, bodK_ok, bodK_error, edK_ok, edK_error, plK, map_ok, map_error, strA, unStr_rows, strRows_len, strRows_all, ↓Ev.P, Ev.Q, Bool.cond_true, Bool.cond_false, eq_self, forall_eq_or_imp, implies_true, forall_const, forall_eq, ↓reduceIte, reduceIte, Nat.reduceEqDiff, Nat.reduceAdd, reduceCtorEq, Nat.reduceSub, Int.reduceToNat, Int.reduceLE, Int.reduceLT, Int.reduceNeg, Nat.reduceBEq, Nat.reduceMul, Nat.reduceLeDiff, Nat.reduceMod, UInt8.reduceOfNat, Nat.reduceLT, Int.reduceEq, Int.reduceAdd, Int.reduceSub, Int.reduceMul]))
          all_goals try omega
          all_goals exact hk
        · have _t := trivial
          refine ⟨[0, 1], [0, 1], ?_⟩
          simp -dsimp -implicitDefEqProofs only [S47, R47, S47_0, S47_1, S47_2, S47_3, S47_4, S47_5, S47_6, S47_7, S47r1, S47r2, S47r3, S47r4, S47r5, S47r6, S47r7, S47r8, hx, h1, h2, h3, e2, hw, hv, hpl, impF, CNextE, CStopE, CPlaceE, CRepl, fltV, Ev.panK, edC_wp, bodE_wp, bodK_ok, bodK_error, edK_ok, edK_error, plK, map_ok, map_error, strA, unStr_rows, strRows_len, strRows_all, ↓Ev.P, Ev.Q, Bool.cond_true, Bool.cond_false, eq_self, forall_eq_or_imp, implies_true, forall_const, forall_eq, ↓reduceIte, reduceIte, Nat.reduceEqDiff, Nat.reduceAdd, reduceCtorEq, Nat.reduceSub, Int.reduceToNat, Int.reduceLE, Int.reduceLT, Int.reduceNeg, Nat.reduceBEq, Nat.reduceMul, Nat.reduceLeDiff, Nat.reduceMod, UInt8.reduceOfNat, Nat.reduceLT, Int.reduceEq, Int.reduceAdd, Int.reduceSub, Int.reduceMul]
          repeat' (first | with_reducible assumption | refine And.intro ?_ ?_ | intro _ | (rw [Ev.xStp_eq]; simp -dsimp -implicitDefEqProofs only [hx, h1, h2, h3, e2, hw, hv, hpl, impF, CNextE, CStopE, CPlaceE, CRepl, fltV, Ev.panK, edC_wp, bodE_wp, bodK_ok, bodK_error, edK_ok, edK_error, plK, map_ok, map_error, strA, unStr_rows, strRows_len, strRows_all, ↓Ev.P, Ev.Q, Bool.cond_true, Bool.cond_false, eq_self, forall_eq_or_imp, implies_true, forall_const, forall_eq, ↓reduceIte, reduceIte, Nat.reduceEqDiff, Nat.reduceAdd, reduceCtorEq, Nat.reduceSub, Int.reduceToNat, Int.reduceLE, Int.reduceLT, Int.reduceNeg, Nat.reduceBEq, Nat.reduceMul, Nat.reduceLeDiff, Nat.reduceMod, UInt8.reduceOfNat, Nat.reduceLT, Int.reduceEq, Int.reduceAdd, Int.reduceSub, Int.reduceMul]))
          all_goals try omega
          all_goals exact hk
        · have _t := trivial
          refine ⟨[0, 1], [0, 1], ?_⟩
          simp -dsimp -implicitDefEqProofs only [S47, R47, S47_0, S47_1, S47_2, S47_3, S47_4, S47_5, S47_6, S47_7, S47r1, S47r2, S47r3, S47r4, S47r5, S47r6, S47r7, S47r8, hx, h1, h2, h3, e2, hw, hv, hpl, impF, CNextE, CStopE, CPlaceE, CRepl, fltV, Ev.panK, edC_wp, bodE_wp, bodK_ok, bodK_error, edK_ok, edK_error, plK, map_ok, map_error, strA, unStr_rows, strRows_len, strRows_all, ↓Ev.P, Ev.Q, Bool.cond_true, Bool.cond_false, eq_self, forall_eq_or_imp, implies_true, forall_const, forall_eq, ↓reduceIte, reduceIte, Nat.reduceEqDiff, Nat.reduceAdd, reduceCtorEq, Nat.reduceSub, Int.reduceToNat, Int.reduceLE, Int.reduceLT, Int.reduceNeg, Nat.reduceBEq, Nat.reduceMul, Nat.reduceLeDiff, Nat.reduceMod, UInt8.reduceOfNat, Nat.reduceLT, Int.reduceEq, Int.reduceAdd, Int.reduceSub, Int.reduceMul]
          repeat' (first | with_reducible assumption | refine And.intro ?_ ?_ | intro _ | (rw [Ev.xStp_eq]; simp -dsimp -implicitDefEqProofs only [hx, h1, h2, h3, e2, hw, hv, hpl, impF, CNextE, CStopE, CPlaceE, CRepl, fltV, Ev.panK, edC_wp, bodE_wp, bodK_ok, bodK_error, edK_ok, edK_error, plK, map_ok, map_error, strA, unStr_rows, strRows_len, strRows_all, ↓Ev.P, Ev.Q, Bool.cond_true, Bool.cond_false, eq_self, forall_eq_or_imp, implies_true, forall_const, forall_eq, ↓reduceIte, reduceIte, Nat.reduceEqDiff, Nat.reduceAdd, reduceCtorEq, Nat.reduceSub, Int.reduceToNat, Int.reduceLE, Int.reduceLT, Int.reduceNeg, Nat.reduceBEq, Nat.reduceMul, Nat.reduceLeDiff, Nat.reduceMod, UInt8.reduceOfNat, Nat.reduceLT, Int.reduceEq, Int.reduceAdd, Int.reduceSub, Int.reduceMul]))
          all_goals try omega
          all_goals exact hk
      | ok pn =>
        obtain ⟨pp, nn⟩ := pn
        rw [hpl] at hk; dsimp only at hk
        obtain ⟨p0, n0, hpn⟩ := placeE_le hpl
        obtain ⟨pp, rfl⟩ := Int.eq_ofNat_of_zero_le p0
        obtain ⟨nn, rfl⟩ := Int.eq_ofNat_of_zero_le n0
        simp only [Int.toNat_natCast] at hk
        by_cases hd : v = 100
        · rw [if_pos hd] at hk
          subst hd
          rw [cmK_ok] at hk
          have hp1 := put_non2 X pp nn
          have hp2 : (putE X pp nn []).2 = -1 := rfl
          rw [hp2] at hk
          refine ⟨[0, 1, 2], [0, 1], ?_⟩
          simp -dsimp -implicitDefEqProofs only [S47, R47, S47_0, S47_1, S47_2, S47_3, S47_4, S47_5, S47_6, S47_7, S47r1, S47r2, S47r3, S47r4, S47r5, S47r6, S47r7, S47r8, hx, h1, h2, h3, e2, hw, hv, hpl, hp1, cur_none, impF, CNextE, CStopE, CPlaceE, CRepl, fltV, Ev.panK, edC_wp, bodE_wp, bodK_ok, bodK_error, edK_ok, edK_error, plK, map_ok, map_error, strA, unStr_rows, strRows_len, strRows_all, ↓Ev.P, Ev.Q, Bool.cond_true, Bool.cond_false, eq_self, forall_eq_or_imp, implies_true, forall_const, forall_eq, ↓reduceIte, reduceIte, Nat.reduceEqDiff, Nat.reduceAdd, reduceCtorEq, Nat.reduceSub, Int.reduceToNat, Int.reduceLE, Int.reduceLT, Int.reduceNeg, Nat.reduceBEq, Nat.reduceMul, Nat.reduceLeDiff, Nat.reduceMod, UInt8.reduceOfNat, Nat.reduceLT, Int.reduceEq, Int.reduceAdd, Int.reduceSub, Int.reduceMul]
          repeat' (first | with_reducible assumption | refine And.intro ?_ ?_ | intro _ | (rw [Ev.xStp_eq]; simp -dsimp -implicitDefEqProofs only [hx, h1, h2, h3, e2, hw, hv, hpl, hp1, cur_none, impF, CNextE, CStopE, CPlaceE, CRepl, fltV, Ev.panK, edC_wp, bodE_wp, bodK_ok, bodK_error, edK_ok, edK_error, plK, map_ok, map_error, strA, unStr_rows, strRows_len, strRows_all, ↓Ev.P, Ev.Q, Bool.cond_true, Bool.cond_false, eq_self, forall_eq_or_imp, implies_true, forall_const, forall_eq, ↓reduceIte, reduceIte, Nat.reduceEqDiff, Nat.reduceAdd, reduceCtorEq, Nat.reduceSub, Int.reduceToNat, Int.reduceLE, Int.reduceLT, Int.reduceNeg, Nat.reduceBEq, Nat.reduceMul, Nat.reduceLeDiff, Nat.reduceMod, UInt8.reduceOfNat, Nat.reduceLT, Int.reduceEq, Int.reduceAdd, Int.reduceSub, Int.reduceMul]))
          all_goals try omega
          all_goals exact hk.1
        · rw [if_neg hd] at hk
          have hvv2 : v = 97 ∨ v = 99 := by rcases hvv with h | h | h; exact .inl h; exact .inr h; exact absurd h hd
          clear hvv
          unfold bodyE at hk
          cases hb : bodyL L (L.length - a) a [] with
          | error x =>
            obtain ⟨xa, xe⟩ := x
            rw [hb] at hk; dsimp only at hk
            rw [cmK_error] at hk
            unfold fltV at hk
            rcases hvv2 with rfl | rfl
            · have _t := trivial
              refine ⟨[0, 1], [0, 1], ?_⟩
              simp -dsimp -implicitDefEqProofs only [S47, R47, S47_0, S47_1, S47_2, S47_3, S47_4, S47_5, S47_6, S47_7, S47r1, S47r2, S47r3, S47r4, S47r5, S47r6, S47r7, S47r8, hx, h1, h2, h3, e2, hw, hv, hpl, hb, impF, CNextE, CStopE, CPlaceE, CRepl, fltV, Ev.panK, edC_wp, bodE_wp, bodK_ok, bodK_error, edK_ok, edK_error, plK, map_ok, map_error, strA, unStr_rows, strRows_len, strRows_all, ↓Ev.P, Ev.Q, Bool.cond_true, Bool.cond_false, eq_self, forall_eq_or_imp, implies_true, forall_const, forall_eq, ↓reduceIte, reduceIte, Nat.reduceEqDiff, Nat.reduceAdd, reduceCtorEq, Nat.reduceSub, Int.reduceToNat, Int.reduceLE, Int.reduceLT, Int.reduceNeg, Nat.reduceBEq, Nat.reduceMul, Nat.reduceLeDiff, Nat.reduceMod, UInt8.reduceOfNat, Nat.reduceLT, Int.reduceEq, Int.reduceAdd, Int.reduceSub, Int.reduceMul]
              repeat' (first | with_reducible assumption | refine And.intro ?_ ?_ | intro _ | (rw [Ev.xStp_eq]; simp -dsimp -implicitDefEqProofs only [hx, h1, h2, h3, e2, hw, hv, hpl, hb, impF, CNextE, CStopE, CPlaceE, CRepl, fltV, Ev.panK, edC_wp, bodE_wp, bodK_ok, bodK_error, edK_ok, edK_error, plK, map_ok, map_error, strA, unStr_rows, strRows_len, strRows_all, ↓Ev.P, Ev.Q, Bool.cond_true, Bool.cond_false, eq_self, forall_eq_or_imp, implies_true, forall_const, forall_eq, ↓reduceIte, reduceIte, Nat.reduceEqDiff, Nat.reduceAdd, reduceCtorEq, Nat.reduceSub, Int.reduceToNat, Int.reduceLE, Int.reduceLT, Int.reduceNeg, Nat.reduceBEq, Nat.reduceMul, Nat.reduceLeDiff, Nat.reduceMod, UInt8.reduceOfNat, Nat.reduceLT, Int.reduceEq, Int.reduceAdd, Int.reduceSub, Int.reduceMul]))
              all_goals try omega
              all_goals exact hk
            · have _t := trivial
              refine ⟨[0, 1], [0, 1], ?_⟩
              simp -dsimp -implicitDefEqProofs only [S47, R47, S47_0, S47_1, S47_2, S47_3, S47_4, S47_5, S47_6, S47_7, S47r1, S47r2, S47r3, S47r4, S47r5, S47r6, S47r7, S47r8, hx, h1, h2, h3, e2, hw, hv, hpl, hb, impF, CNextE, CStopE, CPlaceE, CRepl, fltV, Ev.panK, edC_wp, bodE_wp, bodK_ok, bodK_error, edK_ok, edK_error, plK, map_ok, map_error, strA, unStr_rows, strRows_len, strRows_all, ↓Ev.P, Ev.Q, Bool.cond_true, Bool.cond_false, eq_self, forall_eq_or_imp, implies_true, forall_const, forall_eq, ↓reduceIte, reduceIte, Nat.reduceEqDiff, Nat.reduceAdd, reduceCtorEq, Nat.reduceSub, Int.reduceToNat, Int.reduceLE, Int.reduceLT, Int.reduceNeg, Nat.reduceBEq, Nat.reduceMul, Nat.reduceLeDiff, Nat.reduceMod, UInt8.reduceOfNat, Nat.reduceLT, Int.reduceEq, Int.reduceAdd, Int.reduceSub, Int.reduceMul]
              repeat' (first | with_reducible assumption | refine And.intro ?_ ?_ | intro _ | (rw [Ev.xStp_eq]; simp -dsimp -implicitDefEqProofs only [hx, h1, h2, h3, e2, hw, hv, hpl, hb, impF, CNextE, CStopE, CPlaceE, CRepl, fltV, Ev.panK, edC_wp, bodE_wp, bodK_ok, bodK_error, edK_ok, edK_error, plK, map_ok, map_error, strA, unStr_rows, strRows_len, strRows_all, ↓Ev.P, Ev.Q, Bool.cond_true, Bool.cond_false, eq_self, forall_eq_or_imp, implies_true, forall_const, forall_eq, ↓reduceIte, reduceIte, Nat.reduceEqDiff, Nat.reduceAdd, reduceCtorEq, Nat.reduceSub, Int.reduceToNat, Int.reduceLE, Int.reduceLT, Int.reduceNeg, Nat.reduceBEq, Nat.reduceMul, Nat.reduceLeDiff, Nat.reduceMod, UInt8.reduceOfNat, Nat.reduceLT, Int.reduceEq, Int.reduceAdd, Int.reduceSub, Int.reduceMul]))
              all_goals try omega
              all_goals exact hk
          | ok x =>
            obtain ⟨l, b⟩ := x
            rw [hb] at hk; dsimp only at hk
            rw [cmK_ok] at hk
            have hle := bodyL_le hb
            have hp1 := put_rows X l pp nn
            have hp2 := put_cur X l pp nn
            rcases hvv2 with rfl | rfl
            · have _t := trivial
              refine ⟨[0, 1, 3], [0, 1], ?_⟩
              simp -dsimp -implicitDefEqProofs only [S47, R47, S47_0, S47_1, S47_2, S47_3, S47_4, S47_5, S47_6, S47_7, S47r1, S47r2, S47r3, S47r4, S47r5, S47r6, S47r7, S47r8, hx, h1, h2, h3, e2, hw, hv, hpl, hb, hp1, hp2, impF, CNextE, CStopE, CPlaceE, CRepl, fltV, Ev.panK, edC_wp, bodE_wp, bodK_ok, bodK_error, edK_ok, edK_error, plK, map_ok, map_error, strA, unStr_rows, strRows_len, strRows_all, ↓Ev.P, Ev.Q, Bool.cond_true, Bool.cond_false, eq_self, forall_eq_or_imp, implies_true, forall_const, forall_eq, ↓reduceIte, reduceIte, Nat.reduceEqDiff, Nat.reduceAdd, reduceCtorEq, Nat.reduceSub, Int.reduceToNat, Int.reduceLE, Int.reduceLT, Int.reduceNeg, Nat.reduceBEq, Nat.reduceMul, Nat.reduceLeDiff, Nat.reduceMod, UInt8.reduceOfNat, Nat.reduceLT, Int.reduceEq, Int.reduceAdd, Int.reduceSub, Int.reduceMul]
              repeat' (first | with_reducible assumption | refine And.intro ?_ ?_ | intro _ | (rw [Ev.xStp_eq]; simp -dsimp -implicitDefEqProofs only [hx, h1, h2, h3, e2, hw, hv, hpl, hb, hp1, hp2, impF, CNextE, CStopE, CPlaceE, CRepl, fltV, Ev.panK, edC_wp, bodE_wp, bodK_ok, bodK_error, edK_ok, edK_error, plK, map_ok, map_error, strA, unStr_rows, strRows_len, strRows_all, ↓Ev.P, Ev.Q, Bool.cond_true, Bool.cond_false, eq_self, forall_eq_or_imp, implies_true, forall_const, forall_eq, ↓reduceIte, reduceIte, Nat.reduceEqDiff, Nat.reduceAdd, reduceCtorEq, Nat.reduceSub, Int.reduceToNat, Int.reduceLE, Int.reduceLT, Int.reduceNeg, Nat.reduceBEq, Nat.reduceMul, Nat.reduceLeDiff, Nat.reduceMod, UInt8.reduceOfNat, Nat.reduceLT, Int.reduceEq, Int.reduceAdd, Int.reduceSub, Int.reduceMul]))
              all_goals try omega
              all_goals first | (simp only [List.length_nil] at hle; omega) | exact hk.1
            · have _t := trivial
              refine ⟨[0, 1, 3], [0, 1], ?_⟩
              simp -dsimp -implicitDefEqProofs only [S47, R47, S47_0, S47_1, S47_2, S47_3, S47_4, S47_5, S47_6, S47_7, S47r1, S47r2, S47r3, S47r4, S47r5, S47r6, S47r7, S47r8, hx, h1, h2, h3, e2, hw, hv, hpl, hb, hp1, hp2, impF, CNextE, CStopE, CPlaceE, CRepl, fltV, Ev.panK, edC_wp, bodE_wp, bodK_ok, bodK_error, edK_ok, edK_error, plK, map_ok, map_error, strA, unStr_rows, strRows_len, strRows_all, ↓Ev.P, Ev.Q, Bool.cond_true, Bool.cond_false, eq_self, forall_eq_or_imp, implies_true, forall_const, forall_eq, ↓reduceIte, reduceIte, Nat.reduceEqDiff, Nat.reduceAdd, reduceCtorEq, Nat.reduceSub, Int.reduceToNat, Int.reduceLE, Int.reduceLT, Int.reduceNeg, Nat.reduceBEq, Nat.reduceMul, Nat.reduceLeDiff, Nat.reduceMod, UInt8.reduceOfNat, Nat.reduceLT, Int.reduceEq, Int.reduceAdd, Int.reduceSub, Int.reduceMul]
              repeat' (first | with_reducible assumption | refine And.intro ?_ ?_ | intro _ | (rw [Ev.xStp_eq]; simp -dsimp -implicitDefEqProofs only [hx, h1, h2, h3, e2, hw, hv, hpl, hb, hp1, hp2, impF, CNextE, CStopE, CPlaceE, CRepl, fltV, Ev.panK, edC_wp, bodE_wp, bodK_ok, bodK_error, edK_ok, edK_error, plK, map_ok, map_error, strA, unStr_rows, strRows_len, strRows_all, ↓Ev.P, Ev.Q, Bool.cond_true, Bool.cond_false, eq_self, forall_eq_or_imp, implies_true, forall_const, forall_eq, ↓reduceIte, reduceIte, Nat.reduceEqDiff, Nat.reduceAdd, reduceCtorEq, Nat.reduceSub, Int.reduceToNat, Int.reduceLE, Int.reduceLT, Int.reduceNeg, Nat.reduceBEq, Nat.reduceMul, Nat.reduceLeDiff, Nat.reduceMod, UInt8.reduceOfNat, Nat.reduceLT, Int.reduceEq, Int.reduceAdd, Int.reduceSub, Int.reduceMul]))
              all_goals try omega
              all_goals first | (simp only [List.length_nil] at hle; omega) | exact hk.1
    · rw [if_neg hvv] at hk
      rw [cmK_error] at hk
      unfold fltV at hk
      have v1 : ¬ v = 97 := fun h => hvv (.inl h)
      have v2 : ¬ v = 99 := fun h => hvv (.inr (.inl h))
      have v3 : ¬ v = 100 := fun h => hvv (.inr (.inr h))
      refine ⟨[0, 1], [0, 1], ?_⟩
      simp -dsimp -implicitDefEqProofs only [S47, R47, S47_0, S47_1, S47_2, S47_3, S47_4, S47_5, S47_6, S47_7, S47r1, S47r2, S47r3, S47r4, S47r5, S47r6, S47r7, S47r8, hx, h1, h2, h3, e2, hw, hv, v1, v2, v3, impF, CNextE, CStopE, CPlaceE, CRepl, fltV, Ev.panK, edC_wp, bodE_wp, bodK_ok, bodK_error, edK_ok, edK_error, plK, map_ok, map_error, strA, unStr_rows, strRows_len, strRows_all, ↓Ev.P, Ev.Q, Bool.cond_true, Bool.cond_false, eq_self, forall_eq_or_imp, implies_true, forall_const, forall_eq, ↓reduceIte, reduceIte, Nat.reduceEqDiff, Nat.reduceAdd, reduceCtorEq, Nat.reduceSub, Int.reduceToNat, Int.reduceLE, Int.reduceLT, Int.reduceNeg, Nat.reduceBEq, Nat.reduceMul, Nat.reduceLeDiff, Nat.reduceMod, UInt8.reduceOfNat, Nat.reduceLT, Int.reduceEq, Int.reduceAdd, Int.reduceSub, Int.reduceMul]
      repeat' (first | with_reducible assumption | refine And.intro ?_ ?_ | intro _ | (rw [Ev.xStp_eq]; simp -dsimp -implicitDefEqProofs only [hx, h1, h2, h3, e2, hw, hv, v1, v2, v3, impF, CNextE, CStopE, CPlaceE, CRepl, fltV, Ev.panK, edC_wp, bodE_wp, bodK_ok, bodK_error, edK_ok, edK_error, plK, map_ok, map_error, strA, unStr_rows, strRows_len, strRows_all, ↓Ev.P, Ev.Q, Bool.cond_true, Bool.cond_false, eq_self, forall_eq_or_imp, implies_true, forall_const, forall_eq, ↓reduceIte, reduceIte, Nat.reduceEqDiff, Nat.reduceAdd, reduceCtorEq, Nat.reduceSub, Int.reduceToNat, Int.reduceLE, Int.reduceLT, Int.reduceNeg, Nat.reduceBEq, Nat.reduceMul, Nat.reduceLeDiff, Nat.reduceMod, UInt8.reduceOfNat, Nat.reduceLT, Int.reduceEq, Int.reduceAdd, Int.reduceSub, Int.reduceMul]))
      all_goals try omega
      all_goals exact hk
end Go.Proofs.YtlghobefhmpfkaaGreatDoor
set_option linter.unusedVariables false
set_option linter.unusedSimpArgs false
namespace Go.Proofs.YtlghobefhmpfkaaGreatDoor
open Go Go.Ev Go.Rcs
set_option maxRecDepth 100000
variable {G : World → Prop}
def CPutR : Contract := stC fun args st => match args, st with
  | [.ptr 0 0, .d (.v (.int .i64 p)), .d (.sl l)], ⟨2, [(0, .cells t [.own 1, .d (.v (.int .i64 c))]), (1, .row u z T)]⟩ =>
    some ((0 ≤ p ∧ p ≤ T.length ∧ T.length ≤ 1099511627776 ∧ l.length ≤ 1099511627776 ∧ (u = 9 ∧ z = 1) ∧ (∀ r ∈ l, r.length = 1) ∧ ∀ r ∈ T, r.length = 1), .tup [], ⟨3, [(0, .cells t [.own 2, .d (.v (.int .i64 (curE p.toNat l.length)))]), (1, .fro T), (2, .row 9 1 (T.take p.toNat ++ (l ++ T.drop p.toNat)))]⟩)
  | _, _ => none
set_option maxHeartbeats 4000000 in
theorem s100 : Sound G Tryz.prog 100 CPutR := by
  refine sd100 (T := tabT []) tab_nil (stC_lawful _) (st_hX fun args st p x st' K h hp hk => ?_)
  split at h <;> simp only [Option.some.injEq, Prod.mk.injEq, reduceCtorEq] at h
  obtain ⟨rfl, rfl, rfl⟩ := h
  rename_i p l t c u z T
  obtain ⟨h1, h2, h3, h4, ⟨rfl, rfl⟩, h5, h6⟩ := hp
  obtain ⟨p, rfl⟩ := Int.eq_ofNat_of_zero_le h1
  rw [Int.toNat_natCast] at hk
  have h7 : ∀ r ∈ T.take p, r.length = 1 := fun r hr => h6 r (List.mem_of_mem_take hr)
  have h8 : ∀ r ∈ T.drop p, r.length = 1 := fun r hr => h6 r (List.mem_of_mem_drop hr)
  refine ⟨Nat.le_of_ble_eq_true rfl, [0, 1, 5], ?_⟩
  by_cases hl : 0 < l.length
  · have hl2 : (0 : Int) < (l.length : Int) := by omega
    rw [curE, if_neg (by omega)] at hk
    simp -dsimp -implicitDefEqProofs only [S100, R100, hl2, ↓Ev.xStp_eq, ↓Ev.P, Ev.Q, Bool.cond_true, Bool.cond_false, eq_self, forall_eq_or_imp, implies_true, forall_const, forall_eq, ↓reduceIte, reduceIte, Nat.reduceEqDiff, Nat.reduceAdd, reduceCtorEq, Nat.reduceSub, Int.reduceToNat, Int.reduceLE, Int.reduceLT, Int.reduceNeg, Nat.reduceBEq, Nat.reduceMul, Nat.reduceLeDiff, Nat.reduceMod, UInt8.reduceOfNat, Nat.reduceLT, Int.reduceEq, Int.reduceAdd, Int.reduceSub, Int.reduceMul]
    repeat' (first | with_reducible assumption | refine And.intro ?_ ?_ | intro _)
    all_goals try omega
    all_goals first | exact hk | (rw [← List.append_assoc] at hk; exact hk) | (simp only [List.length_append, List.length_take, List.length_drop]; omega)
  · obtain rfl : l = [] := List.eq_nil_of_length_eq_zero (by omega)
    rw [List.length_nil, curE, if_pos rfl] at hk
    simp -dsimp -implicitDefEqProofs only [S100, R100, ↓Ev.xStp_eq, ↓Ev.P, Ev.Q, Bool.cond_true, Bool.cond_false, eq_self, forall_eq_or_imp, implies_true, forall_const, forall_eq, ↓reduceIte, reduceIte, Nat.reduceEqDiff, Nat.reduceAdd, reduceCtorEq, Nat.reduceSub, Int.reduceToNat, Int.reduceLE, Int.reduceLT, Int.reduceNeg, Nat.reduceBEq, Nat.reduceMul, Nat.reduceLeDiff, Nat.reduceMod, UInt8.reduceOfNat, Nat.reduceLT, Int.reduceEq, Int.reduceAdd, Int.reduceSub, Int.reduceMul]
    repeat' (first | with_reducible assumption | refine And.intro ?_ ?_ | intro _)
    all_goals try omega
    all_goals first | exact hk | (simp only [List.length_append, List.length_take, List.length_drop]; omega)
end Go.Proofs.YtlghobefhmpfkaaGreatDoor
set_option linter.unusedVariables false
set_option linter.unusedSimpArgs false
namespace Go.Proofs.YtlghobefhmpfkaaGreatDoor
open Go Go.Ev Go.Rcs
set_option maxRecDepth 100000
variable {G : World → Prop}
def refE : Except Fl (List (List UInt8)) → SV × Store
  | .ok T => (.tup [.own 0, .agg [.d (.v (.int .i64 0)), .d (.v (.int .i64 0))]], ⟨1, [(0, .row 9 1 (strRows T))]⟩)
  | .error (a, e) => (.tup [.d (.sl []), .agg [.d (.v (.int .i64 a)), .d (.v (.int .i64 e))]], ⟨0, []⟩)
def CRunE : Contract := stC fun args st => match args, st with
  | [.d (.v (.string s)), .d (.sl rows)], ⟨0, []⟩ => (unStr rows).map fun A => ((s.size ≤ 1099511627776 ∧ A.length ≤ 1048576 ∧ ∀ x ∈ A, x.length ≤ 1099511627776), refE (edN s.data.toList A))
  | _, _ => none
theorem lns_szE (s : List UInt8) (h : s.length ≤ 1048576) : (lns s).length ≤ 1048576 ∧ ∀ x ∈ lns s, x.length ≤ 1048576 := by
  refine ⟨Nat.le_trans (lns_len s) h, fun x hx => ?_⟩
  have h2 : x.length ≤ (lns s).flatten.length := by
    obtain ⟨a, b, e⟩ := List.append_of_mem hx
    rw [e]; simp; omega
  rw [lns_flat] at h2
  omega
theorem bareT_len (A : List (List UInt8)) : (bareT A).length = A.length := by simp [bareT]
theorem bareT_sz {A : List (List UInt8)} {m : Nat} (h : ∀ x ∈ A, x.length ≤ m) : ∀ x ∈ bareT A, x.length ≤ m := by
  intro x hx
  obtain ⟨y, hy, rfl⟩ := List.mem_map.1 hx
  exact Nat.le_trans (bare_len _) (h y hy)
theorem bareT_snoc {A : List (List UInt8)} {i : Nat} (h : i < A.length) : (bareT A).take (i + 1) = (bareT A).take i ++ [(bareS (A.getD i [])).1] := by
  rw [List.take_add_one, bareT, List.getElem?_map, List.getD_eq_getElem?_getD, List.getElem?_eq_getElem h]; rfl
theorem bareT_all (A : List (List UInt8)) : (bareT A).take A.length = bareT A := List.take_of_length_le (by rw [bareT_len]; exact Nat.le_refl _)
theorem runE_end {L : List (List UInt8)} {n k : Nat} {x : Ed} (h : ¬ k < L.length) : runE L n x k = .ok (x.1, false) := by
  cases n with
  | zero => rfl
  | succ n => rw [runE, if_neg h]
theorem fed_len (T : List (List UInt8)) (j : Nat) : (fedT T j).length = T.length := by
  simp only [fedT, List.length_append, List.length_map, List.length_take, List.length_drop]; omega
theorem fed_get {T : List (List UInt8)} {j : Nat} (h : j < T.length) : (fedT T j).getD j [] = T.getD j [] := by
  rw [fedT, List.getD_eq_getElem?_getD, List.getElem?_append_right (by simp; omega), List.getElem?_drop, List.getD_eq_getElem?_getD]
  congr 2
  simp; omega
theorem fed_set {T : List (List UInt8)} {j : Nat} (h : j < T.length) : (fedT T j).set j (T.getD j [] ++ [10]) = fedT T (j + 1) := by
  have hd : T.drop j = T.getD j [] :: T.drop (j + 1) := by
    rw [List.drop_eq_getElem_cons h, List.getD_eq_getElem?_getD, List.getElem?_eq_getElem h]; rfl
  have ht : T.take (j + 1) = T.take j ++ [T.getD j []] := by
    rw [List.take_add_one, List.getD_eq_getElem?_getD, List.getElem?_eq_getElem h]; rfl
  have hl : ((T.take j).map (· ++ [10])).length = j := by simp; omega
  rw [fedT, fedT, List.set_append_right _ _ (by omega), hl, Nat.sub_self, hd, List.set_cons_zero, ht, List.map_append, List.append_assoc]
  rfl
theorem fed_rows {T : List (List UInt8)} {j : Nat} (h : j < T.length) : (strRows (fedT T j)).set j [.v (.string ⟨(T.getD j [] ++ [10]).toArray⟩)] = strRows (fedT T (j + 1)) := by
  rw [← fed_set h]; simp [strRows, List.map_set]
theorem fed_zero (T : List (List UInt8)) : fedT T 0 = T := by simp [fedT]
theorem bodyE_err {L T : List (List UInt8)} {p n k : Nat} {a e : Int} (h : bodyE L T p n k = .error (a, e)) : ¬ e = 0 := by
  unfold bodyE at h
  cases hb : bodyL L (L.length - k) k [] with
  | error y =>
    obtain ⟨ya, ye⟩ := y
    rw [hb] at h
    simp only [Except.error.injEq, Prod.mk.injEq] at h
    obtain ⟨rfl, rfl⟩ := h
    exact bodyL_err hb
  | ok y => rw [hb] at h; cases h
theorem placeE_err {len : Nat} {s : List UInt8} {v e : Int} (h : placeE len s v = .error e) : ¬ e = 0 := by
  unfold placeE at h
  repeat' split at h
  all_goals simp only [Except.error.injEq, reduceCtorEq] at h
  all_goals (subst h; decide)
theorem cmdE_err {L : List (List UInt8)} {x : Ed} {k : Nat} {a e : Int} (h : cmdE L x k = .error (a, e)) : ¬ e = 0 := by
  unfold cmdE at h
  cases hx : nextL L k with
  | error y =>
    obtain ⟨ya, ye⟩ := y
    rw [hx] at h
    simp only [Except.error.injEq, Prod.mk.injEq] at h
    obtain ⟨rfl, rfl⟩ := h
    exact (nx_next_err 0 hx).2.2
  | ok y =>
    obtain ⟨s, b⟩ := y
    rw [hx] at h; dsimp only at h
    split at h
    · simp only [Except.error.injEq, Prod.mk.injEq] at h; rw [← h.2]; decide
    split at h
    · split at h
      · simp only [Except.error.injEq, Prod.mk.injEq] at h; rw [← h.2]; decide
      · exact bodyE_err h
    split at h
    · split at h
      · simp only [Except.error.injEq, Prod.mk.injEq] at h; rw [← h.2]; decide
      · cases h
    unfold numE at h
    split at h
    · split at h
      · rename_i e2 hpl
        simp only [Except.error.injEq, Prod.mk.injEq] at h
        rw [← h.2]; exact placeE_err hpl
      · split at h
        · cases h
        · exact bodyE_err h
    · simp only [Except.error.injEq, Prod.mk.injEq] at h; rw [← h.2]; decide
theorem runE_le {L : List (List UInt8)} : ∀ {n k : Nat} {x : Ed} {T : List (List UInt8)} {c : Bool}, runE L n x k = .ok (T, c) → okE x → k ≤ L.length → T.length ≤ x.1.length + (L.length - k)
  | 0, k, x, T, c, h, _, _ => by
    simp only [runE, Except.ok.injEq, Prod.mk.injEq] at h
    rw [← h.1]; omega
  | n + 1, k, x, T, c, h, hx, hk => by
    rw [runE] at h
    split at h
    · split at h
      · split at h
        · simp only [Except.ok.injEq, Prod.mk.injEq] at h
          rw [← h.1]; omega
        · cases h
      · split at h
        · cases h
        · rename_i y a hc
          obtain ⟨q1, q2, q3, q4⟩ := cmdE_le hc hx
          have := runE_le h q1 q3
          omega
    · simp only [Except.ok.injEq, Prod.mk.injEq] at h
      rw [← h.1]; omega
end Go.Proofs.YtlghobefhmpfkaaGreatDoor
set_option linter.unusedVariables false
set_option linter.unusedSimpArgs false
namespace Go.Proofs.YtlghobefhmpfkaaGreatDoor
open Go Go.RowKit
set_option maxRecDepth 100000
theorem ta_flt (v : Value) (xT : TypeId) (w : World) : (Instr.typeAssert (.iface 79 v) xT 79 true).run Tryz.prog w = .ok (.tuple #[v, .bool true]) w := by kernel_rfl
set_option maxHeartbeats 1000000 in
theorem catch_pan (p0 p1 : Addr) (q : Addr) (x0 x1 : Value) (w : World) (h0 : w.cell? p0 = some x0) (h1 : w.cell? p1 = some x1) (f0 : w.frozen? p0 = false) (f1 : w.frozen? p1 = false) (hne : p0.block ≠ p1.block) :
    CallsDIn Fence.wide 0 Tryz.prog 46 #[.pointer (some p0), .pointer (some p1)] (.panicking [{ v := .iface 79 (.pointer (some q)), recovered := false }]) w fun e u w' =>
      e = .returned (.tuple #[]) ∧ u = .panicking [{ v := .iface 79 (.pointer (some q)), recovered := true }] ∧ w' = (w.setCell p0 (.slice none 0 0)).setCell p1 (.iface 79 (.pointer (some q))) := by
  have hta := ta_flt
  refine callsDIn_of_wpSIn Tryz.func46 rfl trivial fun c₀ cs hu => ?_
  refine wpSIn_seq (wpSIn_region ?_)
  simp [wpOpsSIn, go_sem, recoverD, hu, Tryz.ntmps46, Exit.thenS]
  refine wpSIn_of_wpIn rfl (wpIn_wide.2 ?_)
  have f1' : (w.setCell p0 (.slice none 0 0)).frozen? p1 = false := by rw [World.frozen?_setCell]; exact f1
  have h1' : (w.setCell p0 (.slice none 0 0)).cell? p1 = some x1 := by rw [World.cell?_setCell_other _ _ _ _ (fun e => hne (by rw [e]))]; exact h1
  go_wp2
  exact ⟨rfl, _, rfl, _, results_none rfl _ _ _, rfl, rfl, rfl⟩
theorem catch_idle (p0 p1 : Addr) (w : World) :
    CallsDIn Fence.wide 0 Tryz.prog 46 #[.pointer (some p0), .pointer (some p1)] .returning w fun e u w' => e = .returned (.tuple #[]) ∧ u = .returning ∧ w' = w := by
  refine callsDIn_of_wpSIn Tryz.func46 rfl trivial fun c₀ cs hu => ?_
  refine wpSIn_seq (wpSIn_region ?_)
  simp [wpOpsSIn, go_sem, recoverD, hu, Tryz.ntmps46, Exit.thenS]
  refine wpSIn_of_wpIn rfl (wpIn_wide.2 ?_)
  go_wp2
  trace_state
  refine ⟨rfl, .returning, ?_, _, results_none rfl _ _ _, rfl, rfl, rfl⟩
  cases c₀
  simp_all
end Go.Proofs.YtlghobefhmpfkaaGreatDoor
set_option linter.unusedVariables false
set_option linter.unusedSimpArgs false
namespace Go.Proofs.YtlghobefhmpfkaaGreatDoor
open Go Go.Ev
set_option maxRecDepth 100000
variable {G : World → Prop}
def DCatch (tf : TypeId) : DCon := fun x caps s K => match x, caps with
  | none, [.ptr _ 0, .ptr _ 0] => K s
  | some (.d (.ifc t (.pt cells))), [.ptr o1 0, .ptr o2 0] => match lk s.ob o1, lk s.ob o2 with
    | some (.cells t1 [x1]), some (.cells t2 [x2]) => (t = tf ∧ o1 ≠ o2) ∧ K ⟨s.n, (o2, .cells t2 [.d (.ifc t (.pt cells))]) :: (o1, .cells t1 [.d (.v (.slice none 0 0))]) :: s.ob⟩
    | _, _ => False
  | _, _ => False
theorem heap_set {w : World} {b : Nat} {c : Value} {t : TypeId} (h : w.heap[b]? = some (.cells #[c] t (0, 0))) (u : Value) : (w.setCell ⟨b, 0, none⟩ u).heap[b]? = some (.cells #[u] t (0, 0)) := by
  simp only [World.setCell, Array.getElem?_modify, if_true, h, Option.map_some]
  rfl
theorem one_cell {cs : Array Value} {m : Nat → Value} {n : Nat} {c : Rdr} {x : SV} (h : CnL m n c [x] cs.toList) : ∃ v, cs = #[v] ∧ Cn m n c x v := by
  obtain ⟨l⟩ := cs
  match l, h with
  | [v], h => exact ⟨v, rfl, by simpa [CnL] using h⟩
  | [], h => simp [CnL] at h
  | _ :: _ :: _, h => simp [CnL] at h
theorem set_one {H : Hd G} {w : World} {m : Nat → Value} {B : Nat → Nat → Prop} {s : Store} (hO : SOk H w m B s) {o b : Nat} {t : TypeId} {x : SV} (ho : lk s.ob o = some (.cells t [x])) (hb : m o = .pointer (some ⟨b, 0, none⟩)) {y : SV} {u : Value} (hy : Cn m s.n (vw H w B s.ob) y u) (hu : u.oneCell' = true) :
    ∃ c, w.heap[b]? = some (.cells #[c] t (0, 0)) ∧ (∀ z, B o z ↔ z = b) ∧ ∃ B', Since w m B s (w.setCell ⟨b, 0, none⟩ u) m B' ⟨s.n, (o, .cells t [y]) :: s.ob⟩ ∧ SOk H (w.setCell ⟨b, 0, none⟩ u) m B' ⟨s.n, (o, .cells t [y]) :: s.ob⟩ ∧ ∀ k, k ≠ o → ∀ z, B' k z ↔ B k z := by
  obtain ⟨b', cs, g1, g2, g3, g4, g5⟩ := hO.obs o _ ho
  rw [hb] at g1
  simp only [Value.pointer.injEq, Option.some.injEq, Addr.mk.injEq, and_true] at g1
  subst g1
  obtain ⟨c, rfl, _⟩ := one_cell g3
  have hs := heap_set g2 u
  have hsz : (w.setCell ⟨b, 0, none⟩ u).heap.size = w.heap.size := by simp [World.setCell]
  have hup := SOk.upd (w1 := w.setCell ⟨b, 0, none⟩ u) hO o _ (.cells t [y]) ho rfl (fun z => z = b) rfl rfl rfl (by omega) (fun j _ hj => RowKit.Below.heap_setCell _ _ _ _ (fun e => hj ((g5 j).2 e)))
    (fun j _ hj => by subst hj; exact ⟨by rw [hsz]; exact (Array.getElem?_eq_some_iff.1 g2).1, .inl ((g5 j).2 rfl)⟩) (fun c' hc1 _ => by
      refine ⟨b, _, hb, hs, ?_, ?_, fun z => Iff.rfl⟩
      · simp only [CnL, and_true]; exact Cn_mono (Nat.le_refl _) (fun _ _ => rfl) hc1 _ _ hy
      · intro z hz; simp at hz; subst hz; exact hu)
  exact ⟨c, g2, g5, _, hup.1, hup.2, fun k hk z => by simp [hk]⟩
theorem sCatch : SoundD G Tryz.prog 46 (DCatch 79) := by
  intro H w m B s caps vs hO hc
  refine ⟨⟨Tryz.f46, by kernel_rfl, by kernel_rfl, by kernel_rfl⟩, fun K hK => ?_, fun x v K hx hK => ?_⟩
  · unfold DCatch at hK
    split at hK
    · rename_i o1 o2 _
      match vs, hc with
      | [a, b], hc =>
        simp only [CnL, Cn, and_true] at hc
        obtain ⟨⟨n1, b1, e1, rfl⟩, n2, b2, e2, rfl⟩ := hc
        refine (catch_idle ⟨b1, 0, none⟩ ⟨b2, 0, none⟩ w).mono ?_
        rintro e u w' ⟨rfl, rfl, rfl⟩
        exact ⟨⟨_, rfl⟩, rfl, m, B, s, hK, hO, Since.refl _ _ _ _⟩
      | [], hc => simp [CnL] at hc
      | [_], hc => simp [CnL] at hc
      | _ :: _ :: _ :: _, hc => simp [CnL] at hc
    · rename_i h; cases h
    · exact hK.elim
  · unfold DCatch at hK
    split at hK
    · rename_i h; cases h
    · rename_i t cells o1 o2 h
      simp only [Option.some.injEq] at h
      subst h
      split at hK
      · rename_i t1 x1 t2 x2 l1 l2
        obtain ⟨⟨rfl, hne⟩, hK⟩ := hK
        match vs, hc with
        | [a, b], hc =>
          simp only [CnL, Cn, and_true] at hc
          obtain ⟨⟨n1, b1, e1, rfl⟩, n2, b2, e2, rfl⟩ := hc
          simp only [Cn, Rd] at hx
          obtain ⟨z, rfl, ad, rfl, hcells⟩ := hx
          obtain ⟨c1, p1, p2, B1, p3, p4, p5⟩ := set_one hO l1 e1 (y := .d (.v (.slice none 0 0))) (u := .slice none 0 0) ⟨rfl, rfl⟩ rfl
          have l2' : lk ((o1, Ob.cells t1 [.d (.v (.slice none 0 0))]) :: s.ob) o2 = some (.cells t2 [x2]) := by rw [lk_cons, if_neg hne]; exact l2
          have hcells2 := RdCells_mono p3.vw ad 0 cells hcells
          obtain ⟨c2, q1, q2, B2, q3, q4, q5⟩ := set_one p4 l2' e2 (y := .d (.ifc 79 (.pt cells))) (u := .iface 79 (.pointer (some ad))) (by simp only [Cn, Rd]; exact ⟨_, rfl, ad, rfl, hcells2⟩) rfl
          obtain ⟨c2', q1', q2', _⟩ := set_one hO l2 e2 (y := .d (.v (.slice none 0 0))) (u := .slice none 0 0) ⟨rfl, rfl⟩ rfl
          have hb : b1 ≠ b2 := fun e => hO.sep o1 o2 _ _ l1 l2 rfl rfl hne b1 ((p2 b1).2 rfl) ((q2' b1).2 e)
          refine (catch_pan ⟨b1, 0, none⟩ ⟨b2, 0, none⟩ ad c1 c2' w (by rw [cell_at p1]; rfl) (by rw [cell_at q1']; rfl) ?_ ?_ hb).mono ?_
          · simp [World.frozen?, p1]
          · simp [World.frozen?, q1']
          · rintro e u w' ⟨rfl, rfl, rfl⟩
            exact ⟨⟨_, rfl⟩, rfl, m, B2, _, hK, q4, p3.trans q3⟩
        | [], hc => simp [CnL] at hc
        | [_], hc => simp [CnL] at hc
        | _ :: _ :: _ :: _, hc => simp [CnL] at hc
      · exact hK.elim
    · exact hK.elim
end Go.Proofs.YtlghobefhmpfkaaGreatDoor
