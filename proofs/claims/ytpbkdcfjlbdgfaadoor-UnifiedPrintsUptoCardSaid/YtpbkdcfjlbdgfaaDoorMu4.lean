/- Any patch is written in the unified form, or refused. Part 4 of 6. -/
import Derived.Test.YtpbkdcfjlbdgfaaDoorProg
import Derived.Lib.Strings
import Derived.Lib.Slices
import Derived.Lib.Walk
import Derived.Lib.Bytealg
import Derived.Test.YtpbkdcfjlbdgfaaDoorMu1
import Derived.Test.YtpbkdcfjlbdgfaaDoorMu2
import Derived.Test.YtpbkdcfjlbdgfaaDoorMu3
/- The compiled code of functions, by program (gen.py): each theorem says that the loaded program compiles to it. -/
set_option linter.unusedVariables false
namespace Go.Proofs.YtpbkdcfjlbdgfaaDoor
open Go Go.Ev
set_option maxRecDepth 100000

/-! 40: redline/num.Unquote -/
def A40 : Ann := ⟨fun r i => if r = 4 ∧ i = 0 then 7 else 0, fun _ => none, fun r => if r = 1 then some (false, [0]) else if r = 3 then some (false, []) else if r = 6 then some (false, [5, 7]) else if r = 7 then some (false, [5, 7, 8]) else if r = 8 then some (false, [5, 7, 8]) else if r = 9 then some (false, [5, 7, 8, 9, 10]) else if r = 10 then some (false, []) else if r = 11 then some (false, [5, 7, 9]) else if r = 12 then some (false, [5, 7]) else if r = 13 then some (false, [5, 7, 8]) else if r = 14 then some (false, [5, 7]) else if r = 15 then some (false, [5, 7, 8]) else if r = 16 then some (false, [5, 7, 8]) else if r = 17 then some (false, []) else none, fun r => if r = 5 then [5, 7] else []⟩
def S40 : SCode :=
  (.seq (.ops [⟨none, (some 2), .mv 2 (.k (Value.string ⟨#[]⟩)), false⟩,
    ⟨none, (some 3), .mv 3 (.k (Value.string ⟨#[]⟩)), false⟩,
    ⟨none, (some 4), .mv 4 (.k (Value.int .i64 0)), false⟩])
  (.seq (.seq (.keep [0]) (.ops [⟨none, (some 12), .mv 12 (.s 0), false⟩,
    ⟨none, (some 13), .call (some 13) 91 false [(.s 12), (.k (Value.string ⟨#[34]⟩))], false⟩,
    ⟨none, (some 11), .mv 11 (.s 13), false⟩,
    ⟨none, (some 14), .ex 14 (.s 11) 0, false⟩,
    ⟨none, (some 15), .ex 15 (.s 11) 1, false⟩,
    ⟨none, (some 5), .mv 5 (.s 14), false⟩,
    ⟨none, (some 6), .mv 6 (.s 15), false⟩]))
  (.seq (.seq (.ops [⟨none, (some 16), .mv 16 (.s 6), false⟩,
    ⟨none, (some 17), .not 17 (.s 16), false⟩])
  (.cond (.s 17) (.seq (.seq (.keep []) (.ops [⟨none, (some 2), .mv 2 (.k (Value.string ⟨#[]⟩)), false⟩,
    ⟨none, (some 3), .mv 3 (.k (Value.string ⟨#[]⟩)), false⟩,
    ⟨none, (some 4), .mv 4 (.k (Value.int .i64 3)), false⟩]))
  .ret) .skip))
  (.seq (.ops [⟨none, (some 7), .nr 7 5 1, false⟩])
  (.seq (.block 0 (.loop [5, 7] (.seq (.seq (.ops [⟨none, (some 18), .mv 18 (.s 5), false⟩,
    ⟨none, (some 19), .bin 19 .neq (.s 18) (.k (Value.string ⟨#[]⟩)), false⟩])
  (.cond (.s 19) .skip (.exit 0)))
  (.block 1 (.seq (.seq (.keep [5, 7]) (.ops [⟨none, (some 20), .mv 20 (.s 5), false⟩,
    ⟨none, (some 21), .ixs 21 (.s 20) (.k (Value.int .i64 0)), false⟩,
    ⟨none, (some 8), .mv 8 (.s 21), false⟩]))
  (.seq (.seq (.keep [5, 7, 8]) (.ops [⟨none, (some 22), .mv 22 (.s 5), false⟩,
    ⟨none, (some 23), .sls 23 (.s 22) (some (.k (Value.int .i64 1))) none, false⟩,
    ⟨none, (some 5), .mv 5 (.s 23), false⟩]))
  (.block 2 (.seq (.seq (.keep [5, 7, 8]) (.ops [⟨none, (some 42), .mv 42 (.s 8), false⟩,
    ⟨none, (some 43), .bin 43 .eql (.s 42) (.k (Value.int .u8 34)), false⟩,
    ⟨none, (some 41), .mv 41 (.s 43), false⟩]))
  (.cond (.s 41) (.seq (.seq (.keep [5, 7]) (.ops [⟨none, (some 44), .mv 44 (.s 7), false⟩,
    ⟨none, (some 45), .b2s 45 (.s 44), false⟩,
    ⟨none, (some 46), .mv 46 (.s 5), false⟩,
    ⟨none, (some 2), .mv 2 (.s 45), false⟩,
    ⟨none, (some 3), .mv 3 (.s 46), false⟩,
    ⟨none, (some 4), .mv 4 (.k (Value.int .i64 0)), false⟩]))
  .ret) (.seq (.seq (.keep [5, 7, 8]) (.ops [⟨none, (some 48), .mv 48 (.s 8), false⟩,
    ⟨none, (some 49), .call (some 49) 89 false [(.s 48)], false⟩,
    ⟨none, (some 47), .mv 47 (.s 49), false⟩]))
  (.cond (.s 47) (.seq (.keep [5, 7, 8]) (.ops [⟨none, (some 50), .mv 50 (.s 7), false⟩,
    ⟨none, (some 51), .mv 51 (.s 8), false⟩,
    ⟨none, (some 52), .bs 52 5 1 [(.s 51)], false⟩,
    ⟨none, (some 53), .ap 53 5 1 1 (.s 50) (.s 52), false⟩,
    ⟨none, (some 7), .mv 7 (.s 53), false⟩])) (.seq (.seq (.keep [5, 7, 8]) (.ops [⟨none, (some 25), .mv 25 (.s 5), false⟩,
    ⟨none, (some 26), .call (some 26) 92 false [(.s 25)], false⟩,
    ⟨none, (some 24), .mv 24 (.s 26), false⟩,
    ⟨none, (some 27), .ex 27 (.s 24) 0, false⟩,
    ⟨none, (some 28), .ex 28 (.s 24) 1, false⟩,
    ⟨none, (some 9), .mv 9 (.s 27), false⟩,
    ⟨none, (some 10), .mv 10 (.s 28), false⟩]))
  (.seq (.seq (.seq (.keep [5, 7, 8, 9, 10]) (.ops [⟨none, (some 29), .mv 29 (.s 8), false⟩,
    ⟨none, (some 30), .bin 30 .neq (.s 29) (.k (Value.int .u8 92)), false⟩,
    ⟨none, (some 31), .mv 31 (.s 30), false⟩,
    ⟨(some (31, false)), (some 32), .mv 32 (.s 10), false⟩,
    ⟨(some (31, false)), (some 33), .not 33 (.s 32), false⟩,
    ⟨none, (some 34), .pk 34 (.s 31) (.k (Value.bool true)) (.s 33), false⟩]))
  (.cond (.s 34) (.seq (.seq (.keep []) (.ops [⟨none, (some 2), .mv 2 (.k (Value.string ⟨#[]⟩)), false⟩,
    ⟨none, (some 3), .mv 3 (.k (Value.string ⟨#[]⟩)), false⟩,
    ⟨none, (some 4), .mv 4 (.k (Value.int .i64 3)), false⟩]))
  .ret) .skip))
  (.seq (.seq (.keep [5, 7, 9]) (.ops [⟨none, (some 35), .mv 35 (.s 7), false⟩,
    ⟨none, (some 36), .mv 36 (.s 9), false⟩,
    ⟨none, (some 37), .bs 37 5 1 [(.s 36)], false⟩,
    ⟨none, (some 38), .ap 38 5 1 1 (.s 35) (.s 37), false⟩,
    ⟨none, (some 7), .mv 7 (.s 38), false⟩]))
  (.seq (.keep [5, 7]) (.ops [⟨none, (some 39), .mv 39 (.s 5), false⟩,
    ⟨none, (some 40), .sls 40 (.s 39) (some (.k (Value.int .i64 2))) none, false⟩,
    ⟨none, (some 5), .mv 5 (.s 40), false⟩]))))))))))))))))
  (.seq (.seq (.keep []) (.ops [⟨none, (some 2), .mv 2 (.k (Value.string ⟨#[]⟩)), false⟩,
    ⟨none, (some 3), .mv 3 (.k (Value.string ⟨#[]⟩)), false⟩,
    ⟨none, (some 4), .mv 4 (.k (Value.int .i64 3)), false⟩]))
  .ret))))))
theorem cc40 : (Tryd.f40.body).bind (cc Tryd.prog Tryd.f40.ntmps A40) = some S40 := by kernel_rfl
def R40 : List RR := [.sl 2, .sl 3, .sl 4]
theorem cr40 : Tryd.f40.results.toList.map (crr Tryd.prog) = R40.map some := by kernel_rfl
theorem nm40 : (Tryd.f40.name == "runtime.NumGoroutine") = false := by kernel_rfl
theorem fn40 : Tryd.prog.funcs[40]? = some Tryd.f40 := by kernel_rfl
theorem bd40 : ∃ b, Tryd.f40.body = some b ∧ cc Tryd.prog Tryd.f40.ntmps A40 b = some S40 := Option.bind_eq_some_iff.1 cc40
theorem sd40 {G : World → Prop} {T : FuncId → Contract} {C : Contract} (hT : ∀ f, Sound G Tryd.prog f (T f)) (hl : C.lawful) (hC : ∀ args st K, C.wp args st K → args.length ≤ 54 ∧ ∃ os op, xv T st.n S40 (st0 args st) (retK R40 st.n os K) (panK st.n op K)) (hit : SoundIt G Tryd.prog 40 C.it := by exact SoundIt.none) : Sound G Tryd.prog 40 C := by
  obtain ⟨b, hb, hc⟩ := bd40
  rw [xv_eq] at hC
  exact sound_of_ev mo fn40 hb nm40 hc cr40 hT hl hit hC

/-! 54: redline/redlineref01.Unquote -/
def A54 : Ann := ⟨fun r i => if r = 3 ∧ i = 0 then 7 else if r = 12 ∧ i = 8 then 1 else if r = 12 ∧ i = 16 then 1 else if r = 12 ∧ i = 24 then 1 else if r = 12 ∧ i = 32 then 1 else if r = 12 ∧ i = 38 then 1 else if r = 12 ∧ i = 41 then 1 else 0, fun r => if r = 9 then some ([0, 1, 2, 3, 4, 5, 6, 7, 8, 9, 10, 11, 12, 13, 14, 15], [(0, true), (2, true), (3, true), (4, true), (5, true), (1, false), (6, true), (7, true), (8, true)]) else if r = 13 then some ([0, 1, 2, 3, 4, 5, 6, 7, 8, 9, 10, 11, 12, 13, 14, 15], [(0, true), (1, true), (2, true), (3, true), (4, true), (7, true), (8, true), (9, true), (10, true), (5, false), (6, true), (11, false), (12, true), (13, true), (14, false), (15, false), (16, true)]) else if r = 12 then some ([0, 1, 2, 3, 4, 5, 6, 7, 8, 9, 10, 11, 12, 13, 14, 15], [(0, true), (1, true), (2, true), (3, true), (4, true), (5, true), (6, true), (7, true), (8, true), (9, true), (10, true), (11, true), (12, true), (13, true), (14, true), (15, true), (16, false), (17, true), (18, true), (19, true), (20, true), (21, true), (22, true), (23, true), (24, false), (25, true), (26, true), (27, true), (28, true), (29, true), (30, true), (31, true), (34, true), (35, true), (36, true), (37, true), (32, false), (33, true), (38, false), (39, true), (40, true), (41, false), (42, true), (43, true), (44, true)]) else none, fun r => if r = 1 then some (false, [0]) else if r = 2 then some (false, []) else if r = 5 then some (false, [0, 5, 6]) else if r = 6 then some (false, [0, 5, 6]) else if r = 7 then some (false, []) else if r = 8 then some (false, [0, 5, 6]) else if r = 9 then some (false, [0, 5, 6]) else if r = 10 then some (false, [0, 5, 6]) else if r = 11 then some (false, [0, 5, 6]) else if r = 12 then some (false, [0, 5, 6]) else if r = 13 then some (false, [0, 5, 6]) else if r = 14 then some (false, [0, 5, 6]) else if r = 15 then some (false, []) else none, fun r => if r = 5 then [0, 5, 6] else []⟩
def S54 : SCode :=
  (.seq (.ops [⟨none, (some 2), .mv 2 (.k (Value.string ⟨#[]⟩)), false⟩,
    ⟨none, (some 3), .mv 3 (.k (Value.string ⟨#[]⟩)), false⟩,
    ⟨none, (some 4), .mv 4 (.k (Value.int .i64 0)), false⟩])
  (.seq (.seq (.seq (.keep [0]) (.ops [⟨none, (some 7), .mv 7 (.s 0), false⟩,
    ⟨none, (some 8), .lens 8 (.s 7), false⟩,
    ⟨none, (some 9), .bin 9 .eql (.s 8) (.k (Value.int .i64 0)), false⟩,
    ⟨none, (some 10), .mv 10 (.s 9), false⟩,
    ⟨(some (10, false)), (some 11), .mv 11 (.s 0), false⟩,
    ⟨(some (10, false)), (some 12), .ixs 12 (.s 11) (.k (Value.int .i64 0)), false⟩,
    ⟨(some (10, false)), (some 13), .bin 13 .neq (.s 12) (.k (Value.int .u8 34)), false⟩,
    ⟨none, (some 14), .pk 14 (.s 10) (.k (Value.bool true)) (.s 13), false⟩]))
  (.cond (.s 14) (.seq (.seq (.keep []) (.ops [⟨none, (some 2), .mv 2 (.k (Value.string ⟨#[]⟩)), false⟩,
    ⟨none, (some 3), .mv 3 (.k (Value.string ⟨#[]⟩)), false⟩,
    ⟨none, (some 4), .mv 4 (.k (Value.int .i64 3)), false⟩]))
  .ret) .skip))
  (.seq (.ops [⟨none, (some 5), .nr 5 5 1, false⟩])
  (.seq (.seq (.ops [⟨none, (some 6), .mv 6 (.k (Value.int .i64 1)), false⟩])
  (.block 0 (.loop [0, 5, 6] (.seq (.seq (.seq (.keep [0, 5, 6]) (.ops [⟨none, (some 15), .mv 15 (.s 6), false⟩,
    ⟨none, (some 16), .mv 16 (.s 0), false⟩,
    ⟨none, (some 17), .lens 17 (.s 16), false⟩,
    ⟨none, (some 18), .bin 18 .lss (.s 15) (.s 17), false⟩]))
  (.cond (.s 18) .skip (.exit 0)))
  (.seq (.block 1 (.block 2 (.seq (.seq (.keep [0, 5, 6]) (.ops [⟨none, (some 22), .mv 22 (.s 0), false⟩,
    ⟨none, (some 23), .mv 23 (.s 6), false⟩,
    ⟨none, (some 24), .ixs 24 (.s 22) (.s 23), false⟩,
    ⟨none, (some 25), .bin 25 .eql (.s 24) (.k (Value.int .u8 34)), false⟩,
    ⟨none, (some 21), .mv 21 (.s 25), false⟩]))
  (.cond (.s 21) (.seq (.seq (.keep [0, 5, 6]) (.dr [0, 1, 2, 3, 4, 5, 6, 7, 8, 9, 10, 11, 12, 13, 14, 15] [(0, true, ⟨none, (some 26), .mv 26 (.s 5), false⟩),
    (2, true, ⟨none, (some 28), .mv 28 (.s 0), false⟩),
    (3, true, ⟨none, (some 29), .mv 29 (.s 6), false⟩),
    (4, true, ⟨none, (some 30), .binc 30 .add (.s 29) (.k (Value.int .i64 1)), false⟩),
    (5, true, ⟨none, (some 31), .sls 31 (.s 28) (some (.s 30)) none, false⟩),
    (1, false, ⟨none, (some 27), .b2s 27 (.s 26), false⟩),
    (6, true, ⟨none, (some 2), .mv 2 (.s 27), false⟩),
    (7, true, ⟨none, (some 3), .mv 3 (.s 31), false⟩),
    (8, true, ⟨none, (some 4), .mv 4 (.k (Value.int .i64 0)), false⟩)]))
  .ret) (.seq (.seq (.keep [0, 5, 6]) (.ops [⟨none, (some 33), .mv 33 (.s 0), false⟩,
    ⟨none, (some 34), .mv 34 (.s 6), false⟩,
    ⟨none, (some 35), .ixs 35 (.s 33) (.s 34), false⟩,
    ⟨none, (some 36), .call (some 36) 104 false [(.s 35)], false⟩,
    ⟨none, (some 32), .mv 32 (.s 36), false⟩]))
  (.cond (.s 32) (.seq (.keep [0, 5, 6]) (.ops [⟨none, (some 37), .mv 37 (.s 5), false⟩,
    ⟨none, (some 38), .mv 38 (.s 0), false⟩,
    ⟨none, (some 39), .mv 39 (.s 6), false⟩,
    ⟨none, (some 40), .ixs 40 (.s 38) (.s 39), false⟩,
    ⟨none, (some 41), .bs 41 5 1 [(.s 40)], false⟩,
    ⟨none, (some 42), .ap 42 5 1 1 (.s 37) (.s 41), false⟩,
    ⟨none, (some 5), .mv 5 (.s 42), false⟩])) (.seq (.seq (.keep [0, 5, 6]) (.dr [0, 1, 2, 3, 4, 5, 6, 7, 8, 9, 10, 11, 12, 13, 14, 15] [(0, true, ⟨none, (some 44), .mv 44 (.s 0), false⟩),
    (1, true, ⟨none, (some 45), .mv 45 (.s 6), false⟩),
    (2, true, ⟨none, (some 46), .ixs 46 (.s 44) (.s 45), false⟩),
    (3, true, ⟨none, (some 47), .bin 47 .eql (.s 46) (.k (Value.int .u8 92)), false⟩),
    (4, true, ⟨none, (some 48), .mv 48 (.s 47), false⟩),
    (5, true, ⟨(some (48, true)), (some 49), .mv 49 (.s 6), false⟩),
    (6, true, ⟨(some (48, true)), (some 50), .binc 50 .add (.s 49) (.k (Value.int .i64 2)), false⟩),
    (7, true, ⟨(some (48, true)), (some 51), .mv 51 (.s 0), false⟩),
    (8, true, ⟨(some (48, true)), (some 52), .lens 52 (.s 51), false⟩),
    (9, true, ⟨(some (48, true)), (some 53), .bin 53 .lss (.s 50) (.s 52), true⟩),
    (10, true, ⟨none, (some 54), .pk 54 (.s 48) (.s 53) (.k (Value.bool false)), false⟩),
    (11, true, ⟨none, (some 55), .mv 55 (.s 54), false⟩),
    (12, true, ⟨(some (55, true)), (some 56), .mv 56 (.s 0), false⟩),
    (13, true, ⟨(some (55, true)), (some 57), .mv 57 (.s 6), false⟩),
    (14, true, ⟨(some (55, true)), (some 58), .binc 58 .add (.s 57) (.k (Value.int .i64 1)), false⟩),
    (15, true, ⟨(some (55, true)), (some 59), .ixs 59 (.s 56) (.s 58), false⟩),
    (16, false, ⟨(some (55, true)), (some 60), .call (some 60) 105 true [(.s 59)], false⟩),
    (17, true, ⟨(some (55, true)), (some 61), .bin 61 .geq (.s 60) (.k (Value.int .i64 0)), false⟩),
    (18, true, ⟨none, (some 62), .pk 62 (.s 55) (.s 61) (.k (Value.bool false)), false⟩),
    (19, true, ⟨none, (some 63), .mv 63 (.s 62), true⟩),
    (20, true, ⟨(some (63, true)), (some 64), .mv 64 (.s 0), false⟩),
    (21, true, ⟨(some (63, true)), (some 65), .mv 65 (.s 6), false⟩),
    (22, true, ⟨(some (63, true)), (some 66), .binc 66 .add (.s 65) (.k (Value.int .i64 2)), false⟩),
    (23, true, ⟨(some (63, true)), (some 67), .ixs 67 (.s 64) (.s 66), false⟩),
    (24, false, ⟨(some (63, true)), (some 68), .call (some 68) 105 true [(.s 67)], false⟩),
    (25, true, ⟨(some (63, true)), (some 69), .bin 69 .geq (.s 68) (.k (Value.int .i64 0)), false⟩),
    (26, true, ⟨none, (some 70), .pk 70 (.s 63) (.s 69) (.k (Value.bool false)), false⟩),
    (27, true, ⟨none, (some 71), .mv 71 (.s 70), false⟩),
    (28, true, ⟨(some (71, true)), (some 72), .mv 72 (.s 0), false⟩),
    (29, true, ⟨(some (71, true)), (some 73), .mv 73 (.s 6), true⟩),
    (30, true, ⟨(some (71, true)), (some 74), .binc 74 .add (.s 73) (.k (Value.int .i64 1)), false⟩),
    (31, true, ⟨(some (71, true)), (some 75), .ixs 75 (.s 72) (.s 74), false⟩),
    (34, true, ⟨(some (71, true)), (some 78), .mv 78 (.s 0), false⟩),
    (35, true, ⟨(some (71, true)), (some 79), .mv 79 (.s 6), false⟩),
    (36, true, ⟨(some (71, true)), (some 80), .binc 80 .add (.s 79) (.k (Value.int .i64 2)), false⟩),
    (37, true, ⟨(some (71, true)), (some 81), .ixs 81 (.s 78) (.s 80), false⟩),
    (32, false, ⟨(some (71, true)), (some 76), .call (some 76) 105 true [(.s 75)], false⟩),
    (33, true, ⟨(some (71, true)), (some 77), .binc 77 .mul (.k (Value.int .i64 16)) (.s 76), false⟩),
    (38, false, ⟨(some (71, true)), (some 82), .call (some 82) 105 true [(.s 81)], false⟩),
    (39, true, ⟨(some (71, true)), (some 83), .binc 83 .add (.s 77) (.s 82), true⟩),
    (40, true, ⟨(some (71, true)), (some 84), .cvi 84 .u8 (.s 83), false⟩),
    (41, false, ⟨(some (71, true)), (some 85), .call (some 85) 104 true [(.s 84)], false⟩),
    (42, true, ⟨(some (71, true)), (some 86), .not 86 (.s 85), false⟩),
    (43, true, ⟨none, (some 87), .pk 87 (.s 71) (.s 86) (.k (Value.bool false)), false⟩),
    (44, true, ⟨none, (some 43), .mv 43 (.s 87), false⟩)]))
  (.cond (.s 43) (.seq (.seq (.keep [0, 5, 6]) (.dr [0, 1, 2, 3, 4, 5, 6, 7, 8, 9, 10, 11, 12, 13, 14, 15] [(0, true, ⟨none, (some 88), .mv 88 (.s 5), false⟩),
    (1, true, ⟨none, (some 89), .mv 89 (.s 0), false⟩),
    (2, true, ⟨none, (some 90), .mv 90 (.s 6), false⟩),
    (3, true, ⟨none, (some 91), .binc 91 .add (.s 90) (.k (Value.int .i64 1)), false⟩),
    (4, true, ⟨none, (some 92), .ixs 92 (.s 89) (.s 91), false⟩),
    (7, true, ⟨none, (some 95), .mv 95 (.s 0), false⟩),
    (8, true, ⟨none, (some 96), .mv 96 (.s 6), false⟩),
    (9, true, ⟨none, (some 97), .binc 97 .add (.s 96) (.k (Value.int .i64 2)), true⟩),
    (10, true, ⟨none, (some 98), .ixs 98 (.s 95) (.s 97), false⟩),
    (5, false, ⟨none, (some 93), .call (some 93) 105 false [(.s 92)], false⟩),
    (6, true, ⟨none, (some 94), .binc 94 .mul (.k (Value.int .i64 16)) (.s 93), false⟩),
    (11, false, ⟨none, (some 99), .call (some 99) 105 false [(.s 98)], false⟩),
    (12, true, ⟨none, (some 100), .binc 100 .add (.s 94) (.s 99), false⟩),
    (13, true, ⟨none, (some 101), .cvi 101 .u8 (.s 100), false⟩),
    (14, false, ⟨none, (some 102), .bs 102 5 1 [(.s 101)], false⟩),
    (15, false, ⟨none, (some 103), .ap 103 5 1 1 (.s 88) (.s 102), false⟩),
    (16, true, ⟨none, (some 5), .mv 5 (.s 103), false⟩)]))
  (.seq (.keep [0, 5, 6]) (.ops [⟨none, (some 104), .mv 104 (.s 6), false⟩,
    ⟨none, (some 105), .binc 105 .add (.s 104) (.k (Value.int .i64 2)), false⟩,
    ⟨none, (some 6), .mv 6 (.s 105), false⟩]))) (.seq (.seq (.keep []) (.ops [⟨none, (some 2), .mv 2 (.k (Value.string ⟨#[]⟩)), false⟩,
    ⟨none, (some 3), .mv 3 (.k (Value.string ⟨#[]⟩)), false⟩,
    ⟨none, (some 4), .mv 4 (.k (Value.int .i64 3)), false⟩]))
  .ret)))))))))
  (.seq (.keep [0, 5, 6]) (.ops [⟨none, (some 19), .mv 19 (.s 6), false⟩,
    ⟨none, (some 20), .binc 20 .add (.s 19) (.k (Value.int .i64 1)), false⟩,
    ⟨none, (some 6), .mv 6 (.s 20), false⟩])))))))
  (.seq (.seq (.keep []) (.ops [⟨none, (some 2), .mv 2 (.k (Value.string ⟨#[]⟩)), false⟩,
    ⟨none, (some 3), .mv 3 (.k (Value.string ⟨#[]⟩)), false⟩,
    ⟨none, (some 4), .mv 4 (.k (Value.int .i64 3)), false⟩]))
  .ret)))))
theorem cc54 : (Tryd.f54.body).bind (cc Tryd.prog Tryd.f54.ntmps A54) = some S54 := by kernel_rfl
def R54 : List RR := [.sl 2, .sl 3, .sl 4]
theorem cr54 : Tryd.f54.results.toList.map (crr Tryd.prog) = R54.map some := by kernel_rfl
theorem nm54 : (Tryd.f54.name == "runtime.NumGoroutine") = false := by kernel_rfl
theorem fn54 : Tryd.prog.funcs[54]? = some Tryd.f54 := by kernel_rfl
theorem bd54 : ∃ b, Tryd.f54.body = some b ∧ cc Tryd.prog Tryd.f54.ntmps A54 b = some S54 := Option.bind_eq_some_iff.1 cc54
theorem sd54 {G : World → Prop} {T : FuncId → Contract} {C : Contract} (hT : ∀ f, Sound G Tryd.prog f (T f)) (hl : C.lawful) (hC : ∀ args st K, C.wp args st K → args.length ≤ 106 ∧ ∃ os op, xv T st.n S54 (st0 args st) (retK R54 st.n os K) (panK st.n op K)) (hit : SoundIt G Tryd.prog 54 C.it := by exact SoundIt.none) : Sound G Tryd.prog 54 C := by
  obtain ⟨b, hb, hc⟩ := bd54
  rw [xv_eq] at hC
  exact sound_of_ev mo fn54 hb nm54 hc cr54 hT hl hit hC

/-! 39: redline/num.Quote -/
def A39 : Ann := ⟨fun r i => if r = 1 ∧ i = 0 then 7 else 0, fun r => if r = 9 then some ([0, 1, 2, 3, 4, 5, 6, 7, 8, 9, 10, 11, 12, 13, 14, 15], [(0, true), (1, true), (2, true), (3, true), (4, true), (5, true), (6, false), (7, false)]) else none, fun r => if r = 3 then some (false, [0, 3]) else if r = 6 then some (false, [0, 3, 4, 8, 9]) else if r = 9 then some (false, [0, 3, 5, 8, 9]) else none, fun r => if r = 4 then [0, 3, 8, 9] else []⟩
def S39 : SCode :=
  (.seq (.ops [⟨none, (some 2), .mv 2 (.k (Value.string ⟨#[]⟩)), false⟩])
  (.seq (.ops [⟨none, (some 3), .alb 3 70 5, false⟩])
  (.seq (.ops [⟨none, (some 6), .call (some 6) 88 false [(.s 3), (.k (Value.int .u8 34))], false⟩])
  (.seq (.seq (.seq (.keep [0, 3]) (.ops [⟨none, (some 7), .mv 7 (.s 0), false⟩,
    ⟨none, (some 8), .lens 8 (.s 7), false⟩,
    ⟨none, (some 9), .mv 9 (.k (Value.int .i64 0)), false⟩]))
  (.block 0 (.loop [0, 3, 8, 9] (.seq (.ops [⟨none, (some 10), .bin 10 .lss (.s 9) (.s 8), false⟩])
  (.seq (.cond (.s 10) .skip (.exit 0))
  (.seq (.block 1 (.seq (.ops [⟨none, (some 11), .mv 11 (.s 9), false⟩,
    ⟨none, (some 4), .mv 4 (.s 11), false⟩])
  (.seq (.seq (.keep [0, 3, 4, 8, 9]) (.ops [⟨none, (some 12), .mv 12 (.s 0), false⟩,
    ⟨none, (some 13), .mv 13 (.s 4), false⟩,
    ⟨none, (some 14), .ixs 14 (.s 12) (.s 13), false⟩,
    ⟨none, (some 5), .mv 5 (.s 14), false⟩]))
  (.seq (.ops [⟨none, (some 15), .mv 15 (.s 5), false⟩,
    ⟨none, (some 16), .call (some 16) 89 false [(.s 15)], false⟩])
  (.cond (.s 16) (.ops [⟨none, (some 17), .mv 17 (.s 5), false⟩,
    ⟨none, (some 18), .call (some 18) 88 false [(.s 3), (.s 17)], false⟩]) (.seq (.keep [0, 3, 5, 8, 9]) (.dr [0, 1, 2, 3, 4, 5, 6, 7, 8, 9, 10, 11, 12, 13, 14, 15] [(0, true, ⟨none, (some 19), .mv 19 (.s 5), false⟩),
    (1, true, ⟨none, (some 20), .bin 20 .shr (.s 19) (.k (Value.int .u64 4)), false⟩),
    (2, true, ⟨none, (some 21), .ixs 21 (.k (Value.string ⟨#[48, 49, 50, 51, 52, 53, 54, 55, 56, 57, 97, 98, 99, 100, 101, 102]⟩)) (.s 20), false⟩),
    (3, true, ⟨none, (some 22), .mv 22 (.s 5), false⟩),
    (4, true, ⟨none, (some 23), .bin 23 .and (.s 22) (.k (Value.int .u8 15)), false⟩),
    (5, true, ⟨none, (some 24), .ixs 24 (.k (Value.string ⟨#[48, 49, 50, 51, 52, 53, 54, 55, 56, 57, 97, 98, 99, 100, 101, 102]⟩)) (.s 23), false⟩),
    (6, false, ⟨none, (some 25), .bs 25 5 1 [(.k (Value.int .u8 92)), (.s 21), (.s 24)], false⟩),
    (7, false, ⟨none, (some 26), .call (some 26) 90 false [(.s 3), (.s 25)], false⟩)])))))))
  (.ops [⟨none, (some 27), .binc 27 .add (.s 9) (.k (Value.int .i64 1)), false⟩,
    ⟨none, (some 9), .mv 9 (.s 27), false⟩])))))))
  (.seq (.ops [⟨none, (some 28), .call (some 28) 88 false [(.s 3), (.k (Value.int .u8 34))], false⟩])
  (.seq (.ops [⟨none, (some 29), .call (some 29) 45 false [(.s 3)], false⟩,
    ⟨none, (some 2), .mv 2 (.s 29), false⟩])
  .ret))))))
theorem cc39 : (Tryd.f39.body).bind (cc Tryd.prog Tryd.f39.ntmps A39) = some S39 := by kernel_rfl
def R39 : List RR := [.sl 2]
theorem cr39 : Tryd.f39.results.toList.map (crr Tryd.prog) = R39.map some := by kernel_rfl
theorem nm39 : (Tryd.f39.name == "runtime.NumGoroutine") = false := by kernel_rfl
theorem fn39 : Tryd.prog.funcs[39]? = some Tryd.f39 := by kernel_rfl
theorem bd39 : ∃ b, Tryd.f39.body = some b ∧ cc Tryd.prog Tryd.f39.ntmps A39 b = some S39 := Option.bind_eq_some_iff.1 cc39
theorem sd39 {G : World → Prop} {T : FuncId → Contract} {C : Contract} (hT : ∀ f, Sound G Tryd.prog f (T f)) (hl : C.lawful) (hC : ∀ args st K, C.wp args st K → args.length ≤ 30 ∧ ∃ os op, xv T st.n S39 (st0 args st) (retK R39 st.n os K) (panK st.n op K)) (hit : SoundIt G Tryd.prog 39 C.it := by exact SoundIt.none) : Sound G Tryd.prog 39 C := by
  obtain ⟨b, hb, hc⟩ := bd39
  rw [xv_eq] at hC
  exact sound_of_ev mo fn39 hb nm39 hc cr39 hT hl hit hC

/-! 121: redline/redlineref01.Quote -/
def A121 : Ann := ⟨fun _ _ => 0, fun r => if r = 7 then some ([0, 1, 2, 3, 4, 5, 6, 7, 8, 9, 10, 11, 12, 13, 14, 15], [(0, true), (1, true), (2, true), (3, true), (4, true), (5, true), (6, true), (7, true), (8, true), (9, true), (10, true), (11, false), (12, false), (13, true)]) else none, fun r => if r = 3 then some (false, [0, 3, 4]) else if r = 4 then some (false, [0, 3, 4]) else if r = 5 then some (false, [0, 3, 4]) else if r = 6 then some (false, [0, 3, 4]) else if r = 7 then some (false, [0, 3, 4]) else if r = 8 then some (false, [3]) else none, fun r => if r = 3 then [0, 3, 4] else []⟩
def S121 : SCode :=
  (.seq (.ops [⟨none, (some 2), .mv 2 (.k (Value.string ⟨#[]⟩)), false⟩])
  (.seq (.ops [⟨none, (some 5), .bs 5 5 1 [(.k (Value.int .u8 34))], false⟩,
    ⟨none, (some 3), .mv 3 (.s 5), false⟩])
  (.seq (.seq (.ops [⟨none, (some 4), .mv 4 (.k (Value.int .i64 0)), false⟩])
  (.block 0 (.loop [0, 3, 4] (.seq (.seq (.seq (.keep [0, 3, 4]) (.ops [⟨none, (some 6), .mv 6 (.s 4), false⟩,
    ⟨none, (some 7), .mv 7 (.s 0), false⟩,
    ⟨none, (some 8), .lens 8 (.s 7), false⟩,
    ⟨none, (some 9), .bin 9 .lss (.s 6) (.s 8), false⟩]))
  (.cond (.s 9) .skip (.exit 0)))
  (.seq (.block 1 (.seq (.seq (.keep [0, 3, 4]) (.ops [⟨none, (some 12), .mv 12 (.s 0), false⟩,
    ⟨none, (some 13), .mv 13 (.s 4), false⟩,
    ⟨none, (some 14), .ixs 14 (.s 12) (.s 13), false⟩,
    ⟨none, (some 15), .call (some 15) 104 false [(.s 14)], false⟩]))
  (.cond (.s 15) (.seq (.keep [0, 3, 4]) (.ops [⟨none, (some 16), .mv 16 (.s 3), false⟩,
    ⟨none, (some 17), .mv 17 (.s 0), false⟩,
    ⟨none, (some 18), .mv 18 (.s 4), false⟩,
    ⟨none, (some 19), .ixs 19 (.s 17) (.s 18), false⟩,
    ⟨none, (some 20), .bs 20 5 1 [(.s 19)], false⟩,
    ⟨none, (some 21), .ap 21 5 1 1 (.s 16) (.s 20), false⟩,
    ⟨none, (some 3), .mv 3 (.s 21), false⟩])) (.seq (.keep [0, 3, 4]) (.dr [0, 1, 2, 3, 4, 5, 6, 7, 8, 9, 10, 11, 12, 13, 14, 15] [(0, true, ⟨none, (some 22), .mv 22 (.s 3), false⟩),
    (1, true, ⟨none, (some 23), .mv 23 (.s 0), false⟩),
    (2, true, ⟨none, (some 24), .mv 24 (.s 4), false⟩),
    (3, true, ⟨none, (some 25), .ixs 25 (.s 23) (.s 24), false⟩),
    (4, true, ⟨none, (some 26), .bin 26 .quo (.s 25) (.k (Value.int .u8 16)), false⟩),
    (5, true, ⟨none, (some 27), .ixs 27 (.k (Value.string ⟨#[48, 49, 50, 51, 52, 53, 54, 55, 56, 57, 97, 98, 99, 100, 101, 102]⟩)) (.s 26), false⟩),
    (6, true, ⟨none, (some 28), .mv 28 (.s 0), false⟩),
    (7, true, ⟨none, (some 29), .mv 29 (.s 4), false⟩),
    (8, true, ⟨none, (some 30), .ixs 30 (.s 28) (.s 29), false⟩),
    (9, true, ⟨none, (some 31), .bin 31 .rem (.s 30) (.k (Value.int .u8 16)), true⟩),
    (10, true, ⟨none, (some 32), .ixs 32 (.k (Value.string ⟨#[48, 49, 50, 51, 52, 53, 54, 55, 56, 57, 97, 98, 99, 100, 101, 102]⟩)) (.s 31), false⟩),
    (11, false, ⟨none, (some 33), .bs 33 5 1 [(.k (Value.int .u8 92)), (.s 27), (.s 32)], false⟩),
    (12, false, ⟨none, (some 34), .ap 34 5 1 1 (.s 22) (.s 33), false⟩),
    (13, true, ⟨none, (some 3), .mv 3 (.s 34), false⟩)])))))
  (.seq (.keep [0, 3, 4]) (.ops [⟨none, (some 10), .mv 10 (.s 4), false⟩,
    ⟨none, (some 11), .binc 11 .add (.s 10) (.k (Value.int .i64 1)), false⟩,
    ⟨none, (some 4), .mv 4 (.s 11), false⟩])))))))
  (.seq (.seq (.keep [3]) (.ops [⟨none, (some 35), .mv 35 (.s 3), false⟩,
    ⟨none, (some 36), .bs 36 5 1 [(.k (Value.int .u8 34))], false⟩,
    ⟨none, (some 37), .ap 37 5 1 1 (.s 35) (.s 36), false⟩,
    ⟨none, (some 38), .b2s 38 (.s 37), false⟩,
    ⟨none, (some 2), .mv 2 (.s 38), false⟩]))
  .ret))))
theorem cc121 : (Tryd.f121.body).bind (cc Tryd.prog Tryd.f121.ntmps A121) = some S121 := by kernel_rfl
def R121 : List RR := [.sl 2]
theorem cr121 : Tryd.f121.results.toList.map (crr Tryd.prog) = R121.map some := by kernel_rfl
theorem nm121 : (Tryd.f121.name == "runtime.NumGoroutine") = false := by kernel_rfl
theorem fn121 : Tryd.prog.funcs[121]? = some Tryd.f121 := by kernel_rfl
theorem bd121 : ∃ b, Tryd.f121.body = some b ∧ cc Tryd.prog Tryd.f121.ntmps A121 b = some S121 := Option.bind_eq_some_iff.1 cc121
theorem sd121 {G : World → Prop} {T : FuncId → Contract} {C : Contract} (hT : ∀ f, Sound G Tryd.prog f (T f)) (hl : C.lawful) (hC : ∀ args st K, C.wp args st K → args.length ≤ 39 ∧ ∃ os op, xv T st.n S121 (st0 args st) (retK R121 st.n os K) (panK st.n op K)) (hit : SoundIt G Tryd.prog 121 C.it := by exact SoundIt.none) : Sound G Tryd.prog 121 C := by
  obtain ⟨b, hb, hc⟩ := bd121
  rw [xv_eq] at hC
  exact sound_of_ev mo fn121 hb nm121 hc cr121 hT hl hit hC

/-! 91: strings.CutPrefix -/
def A91 : Ann := ⟨fun _ _ => 0, fun _ => none, fun r => if r = 1 then some (false, [0, 1]) else none, fun _ => []⟩
def S91 : SCode :=
  (.seq (.ops [⟨none, (some 4), .mv 4 (.k (Value.string ⟨#[]⟩)), false⟩,
    ⟨none, (some 5), .mv 5 (.k (Value.bool false)), false⟩])
  (.seq (.seq (.keep [0, 1]) (.ops [⟨none, (some 6), .mv 6 (.s 0), false⟩,
    ⟨none, (some 7), .mv 7 (.s 1), false⟩,
    ⟨none, (some 8), .call (some 8) 134 false [(.s 6), (.s 7)], false⟩,
    ⟨none, (some 9), .ex 9 (.s 8) 0, false⟩,
    ⟨none, (some 10), .ex 10 (.s 8) 1, false⟩,
    ⟨none, (some 4), .mv 4 (.s 9), false⟩,
    ⟨none, (some 5), .mv 5 (.s 10), false⟩]))
  .ret))
theorem cc91 : (Tryd.f91.body).bind (cc Tryd.prog Tryd.f91.ntmps A91) = some S91 := by kernel_rfl
def R91 : List RR := [.sl 4, .sl 5]
theorem cr91 : Tryd.f91.results.toList.map (crr Tryd.prog) = R91.map some := by kernel_rfl
theorem nm91 : (Tryd.f91.name == "runtime.NumGoroutine") = false := by kernel_rfl
theorem fn91 : Tryd.prog.funcs[91]? = some Tryd.f91 := by kernel_rfl
theorem bd91 : ∃ b, Tryd.f91.body = some b ∧ cc Tryd.prog Tryd.f91.ntmps A91 b = some S91 := Option.bind_eq_some_iff.1 cc91
theorem sd91 {G : World → Prop} {T : FuncId → Contract} {C : Contract} (hT : ∀ f, Sound G Tryd.prog f (T f)) (hl : C.lawful) (hC : ∀ args st K, C.wp args st K → args.length ≤ 11 ∧ ∃ os op, xv T st.n S91 (st0 args st) (retK R91 st.n os K) (panK st.n op K)) (hit : SoundIt G Tryd.prog 91 C.it := by exact SoundIt.none) : Sound G Tryd.prog 91 C := by
  obtain ⟨b, hb, hc⟩ := bd91
  rw [xv_eq] at hC
  exact sound_of_ev mo fn91 hb nm91 hc cr91 hT hl hit hC

/-! 89: redline/num.plain -/
def A89 : Ann := ⟨fun _ _ => 0, fun _ => none, fun r => if r = 1 then some (false, [0]) else none, fun _ => []⟩
def S89 : SCode :=
  (.seq (.ops [⟨none, (some 2), .mv 2 (.k (Value.bool false)), false⟩])
  (.seq (.seq (.keep [0]) (.ops [⟨none, (some 3), .mv 3 (.s 0), false⟩,
    ⟨none, (some 4), .bin 4 .geq (.s 3) (.k (Value.int .u8 32)), false⟩,
    ⟨none, (some 5), .mv 5 (.s 4), false⟩,
    ⟨(some (5, true)), (some 6), .mv 6 (.s 0), false⟩,
    ⟨(some (5, true)), (some 7), .bin 7 .leq (.s 6) (.k (Value.int .u8 126)), false⟩,
    ⟨none, (some 8), .pk 8 (.s 5) (.s 7) (.k (Value.bool false)), false⟩,
    ⟨none, (some 9), .mv 9 (.s 8), false⟩,
    ⟨(some (9, true)), (some 10), .mv 10 (.s 0), false⟩,
    ⟨(some (9, true)), (some 11), .bin 11 .neq (.s 10) (.k (Value.int .u8 34)), false⟩,
    ⟨none, (some 12), .pk 12 (.s 9) (.s 11) (.k (Value.bool false)), true⟩,
    ⟨none, (some 13), .mv 13 (.s 12), false⟩,
    ⟨(some (13, true)), (some 14), .mv 14 (.s 0), false⟩,
    ⟨(some (13, true)), (some 15), .bin 15 .neq (.s 14) (.k (Value.int .u8 92)), false⟩,
    ⟨none, (some 16), .pk 16 (.s 13) (.s 15) (.k (Value.bool false)), false⟩,
    ⟨none, (some 2), .mv 2 (.s 16), false⟩]))
  .ret))
theorem cc89 : (Tryd.f89.body).bind (cc Tryd.prog Tryd.f89.ntmps A89) = some S89 := by kernel_rfl
def R89 : List RR := [.sl 2]
theorem cr89 : Tryd.f89.results.toList.map (crr Tryd.prog) = R89.map some := by kernel_rfl
theorem nm89 : (Tryd.f89.name == "runtime.NumGoroutine") = false := by kernel_rfl
theorem fn89 : Tryd.prog.funcs[89]? = some Tryd.f89 := by kernel_rfl
theorem bd89 : ∃ b, Tryd.f89.body = some b ∧ cc Tryd.prog Tryd.f89.ntmps A89 b = some S89 := Option.bind_eq_some_iff.1 cc89
theorem sd89 {G : World → Prop} {T : FuncId → Contract} {C : Contract} (hT : ∀ f, Sound G Tryd.prog f (T f)) (hl : C.lawful) (hC : ∀ args st K, C.wp args st K → args.length ≤ 17 ∧ ∃ os op, xv T st.n S89 (st0 args st) (retK R89 st.n os K) (panK st.n op K)) (hit : SoundIt G Tryd.prog 89 C.it := by exact SoundIt.none) : Sound G Tryd.prog 89 C := by
  obtain ⟨b, hb, hc⟩ := bd89
  rw [xv_eq] at hC
  exact sound_of_ev mo fn89 hb nm89 hc cr89 hT hl hit hC

/-! 92: redline/num.octet -/
def A92 : Ann := ⟨fun r i => if r = 5 ∧ i = 9 then 1 else 0, fun r => if r = 3 then some ([0, 1, 2, 3, 4, 5, 6, 7, 8, 9, 10, 11, 12, 13, 14, 15], [(0, true), (1, true), (3, true), (4, true), (2, false), (5, false), (6, true), (7, true)]) else none, fun r => if r = 1 then some (false, [0]) else if r = 3 then some (false, [0]) else if r = 4 then some (false, [4, 5]) else if r = 5 then some (false, [4, 5, 6]) else none, fun _ => []⟩
def S92 : SCode :=
  (.seq (.ops [⟨none, (some 2), .mv 2 (.k (Value.int .u8 0)), false⟩,
    ⟨none, (some 3), .mv 3 (.k (Value.bool false)), false⟩])
  (.seq (.seq (.seq (.keep [0]) (.ops [⟨none, (some 7), .mv 7 (.s 0), false⟩,
    ⟨none, (some 8), .lens 8 (.s 7), false⟩,
    ⟨none, (some 9), .bin 9 .lss (.s 8) (.k (Value.int .i64 2)), false⟩]))
  (.cond (.s 9) (.seq (.ops [⟨none, (some 2), .mv 2 (.k (Value.int .u8 0)), false⟩,
    ⟨none, (some 3), .mv 3 (.k (Value.bool false)), false⟩])
  .ret) .skip))
  (.seq (.seq (.keep [0]) (.dr [0, 1, 2, 3, 4, 5, 6, 7, 8, 9, 10, 11, 12, 13, 14, 15] [(0, true, ⟨none, (some 10), .mv 10 (.s 0), false⟩),
    (1, true, ⟨none, (some 11), .ixs 11 (.s 10) (.k (Value.int .i64 0)), false⟩),
    (3, true, ⟨none, (some 13), .mv 13 (.s 0), false⟩),
    (4, true, ⟨none, (some 14), .ixs 14 (.s 13) (.k (Value.int .i64 1)), false⟩),
    (2, false, ⟨none, (some 12), .call (some 12) 135 false [(.k (Value.string ⟨#[48, 49, 50, 51, 52, 53, 54, 55, 56, 57, 97, 98, 99, 100, 101, 102]⟩)), (.s 11)], false⟩),
    (5, false, ⟨none, (some 15), .call (some 15) 135 false [(.k (Value.string ⟨#[48, 49, 50, 51, 52, 53, 54, 55, 56, 57, 97, 98, 99, 100, 101, 102]⟩)), (.s 14)], false⟩),
    (6, true, ⟨none, (some 4), .mv 4 (.s 12), false⟩),
    (7, true, ⟨none, (some 5), .mv 5 (.s 15), false⟩)]))
  (.seq (.seq (.keep [4, 5]) (.ops [⟨none, (some 16), .mv 16 (.s 4), false⟩,
    ⟨none, (some 17), .bin 17 .shl (.s 16) (.k (Value.int .u64 4)), false⟩,
    ⟨none, (some 18), .mv 18 (.s 5), false⟩,
    ⟨none, (some 19), .bin 19 .or (.s 17) (.s 18), false⟩,
    ⟨none, (some 20), .cvi 20 .u8 (.s 19), false⟩,
    ⟨none, (some 6), .mv 6 (.s 20), false⟩]))
  (.seq (.seq (.keep [4, 5, 6]) (.ops [⟨none, (some 21), .mv 21 (.s 6), false⟩,
    ⟨none, (some 22), .mv 22 (.s 4), false⟩,
    ⟨none, (some 23), .bin 23 .geq (.s 22) (.k (Value.int .i64 0)), false⟩,
    ⟨none, (some 24), .mv 24 (.s 23), false⟩,
    ⟨(some (24, true)), (some 25), .mv 25 (.s 5), false⟩,
    ⟨(some (24, true)), (some 26), .bin 26 .geq (.s 25) (.k (Value.int .i64 0)), false⟩,
    ⟨none, (some 27), .pk 27 (.s 24) (.s 26) (.k (Value.bool false)), false⟩,
    ⟨none, (some 28), .mv 28 (.s 27), false⟩,
    ⟨(some (28, true)), (some 29), .mv 29 (.s 6), false⟩,
    ⟨(some (28, true)), (some 30), .call (some 30) 89 true [(.s 29)], true⟩,
    ⟨(some (28, true)), (some 31), .not 31 (.s 30), false⟩,
    ⟨none, (some 32), .pk 32 (.s 28) (.s 31) (.k (Value.bool false)), false⟩,
    ⟨none, (some 2), .mv 2 (.s 21), false⟩,
    ⟨none, (some 3), .mv 3 (.s 32), false⟩]))
  .ret)))))
theorem cc92 : (Tryd.f92.body).bind (cc Tryd.prog Tryd.f92.ntmps A92) = some S92 := by kernel_rfl
def R92 : List RR := [.sl 2, .sl 3]
theorem cr92 : Tryd.f92.results.toList.map (crr Tryd.prog) = R92.map some := by kernel_rfl
theorem nm92 : (Tryd.f92.name == "runtime.NumGoroutine") = false := by kernel_rfl
theorem fn92 : Tryd.prog.funcs[92]? = some Tryd.f92 := by kernel_rfl
theorem bd92 : ∃ b, Tryd.f92.body = some b ∧ cc Tryd.prog Tryd.f92.ntmps A92 b = some S92 := Option.bind_eq_some_iff.1 cc92
theorem sd92 {G : World → Prop} {T : FuncId → Contract} {C : Contract} (hT : ∀ f, Sound G Tryd.prog f (T f)) (hl : C.lawful) (hC : ∀ args st K, C.wp args st K → args.length ≤ 33 ∧ ∃ os op, xv T st.n S92 (st0 args st) (retK R92 st.n os K) (panK st.n op K)) (hit : SoundIt G Tryd.prog 92 C.it := by exact SoundIt.none) : Sound G Tryd.prog 92 C := by
  obtain ⟨b, hb, hc⟩ := bd92
  rw [xv_eq] at hC
  exact sound_of_ev mo fn92 hb nm92 hc cr92 hT hl hit hC

/-! 104: redline/redlineref01.plain -/
def A104 : Ann := ⟨fun _ _ => 0, fun _ => none, fun r => if r = 1 then some (false, [0]) else none, fun _ => []⟩
def S104 : SCode :=
  (.seq (.ops [⟨none, (some 2), .mv 2 (.k (Value.bool false)), false⟩])
  (.seq (.seq (.keep [0]) (.ops [⟨none, (some 3), .mv 3 (.s 0), false⟩,
    ⟨none, (some 4), .bin 4 .geq (.s 3) (.k (Value.int .u8 32)), false⟩,
    ⟨none, (some 5), .mv 5 (.s 4), false⟩,
    ⟨(some (5, true)), (some 6), .mv 6 (.s 0), false⟩,
    ⟨(some (5, true)), (some 7), .bin 7 .leq (.s 6) (.k (Value.int .u8 126)), false⟩,
    ⟨none, (some 8), .pk 8 (.s 5) (.s 7) (.k (Value.bool false)), false⟩,
    ⟨none, (some 9), .mv 9 (.s 8), false⟩,
    ⟨(some (9, true)), (some 10), .mv 10 (.s 0), false⟩,
    ⟨(some (9, true)), (some 11), .bin 11 .neq (.s 10) (.k (Value.int .u8 34)), false⟩,
    ⟨none, (some 12), .pk 12 (.s 9) (.s 11) (.k (Value.bool false)), true⟩,
    ⟨none, (some 13), .mv 13 (.s 12), false⟩,
    ⟨(some (13, true)), (some 14), .mv 14 (.s 0), false⟩,
    ⟨(some (13, true)), (some 15), .bin 15 .neq (.s 14) (.k (Value.int .u8 92)), false⟩,
    ⟨none, (some 16), .pk 16 (.s 13) (.s 15) (.k (Value.bool false)), false⟩,
    ⟨none, (some 2), .mv 2 (.s 16), false⟩]))
  .ret))
theorem cc104 : (Tryd.f104.body).bind (cc Tryd.prog Tryd.f104.ntmps A104) = some S104 := by kernel_rfl
def R104 : List RR := [.sl 2]
theorem cr104 : Tryd.f104.results.toList.map (crr Tryd.prog) = R104.map some := by kernel_rfl
theorem nm104 : (Tryd.f104.name == "runtime.NumGoroutine") = false := by kernel_rfl
theorem fn104 : Tryd.prog.funcs[104]? = some Tryd.f104 := by kernel_rfl
theorem bd104 : ∃ b, Tryd.f104.body = some b ∧ cc Tryd.prog Tryd.f104.ntmps A104 b = some S104 := Option.bind_eq_some_iff.1 cc104
theorem sd104 {G : World → Prop} {T : FuncId → Contract} {C : Contract} (hT : ∀ f, Sound G Tryd.prog f (T f)) (hl : C.lawful) (hC : ∀ args st K, C.wp args st K → args.length ≤ 17 ∧ ∃ os op, xv T st.n S104 (st0 args st) (retK R104 st.n os K) (panK st.n op K)) (hit : SoundIt G Tryd.prog 104 C.it := by exact SoundIt.none) : Sound G Tryd.prog 104 C := by
  obtain ⟨b, hb, hc⟩ := bd104
  rw [xv_eq] at hC
  exact sound_of_ev mo fn104 hb nm104 hc cr104 hT hl hit hC

/-! 105: redline/redlineref01.digit -/
def A105 : Ann := ⟨fun _ _ => 0, fun _ => none, fun r => if r = 3 then some (false, [0, 3]) else if r = 4 then some (false, [0, 3]) else none, fun r => if r = 2 then [0, 3] else []⟩
def S105 : SCode :=
  (.seq (.ops [⟨none, (some 2), .mv 2 (.k (Value.int .i64 0)), false⟩])
  (.seq (.seq (.ops [⟨none, (some 3), .mv 3 (.k (Value.int .i64 0)), false⟩])
  (.block 0 (.loop [0, 3] (.seq (.seq (.ops [⟨none, (some 4), .mv 4 (.s 3), false⟩,
    ⟨none, (some 5), .bin 5 .lss (.s 4) (.k (Value.int .i64 16)), false⟩])
  (.cond (.s 5) .skip (.exit 0)))
  (.seq (.block 1 (.seq (.seq (.keep [0, 3]) (.ops [⟨none, (some 8), .mv 8 (.s 3), false⟩,
    ⟨none, (some 9), .ixs 9 (.k (Value.string ⟨#[48, 49, 50, 51, 52, 53, 54, 55, 56, 57, 97, 98, 99, 100, 101, 102]⟩)) (.s 8), false⟩,
    ⟨none, (some 10), .mv 10 (.s 0), false⟩,
    ⟨none, (some 11), .bin 11 .eql (.s 9) (.s 10), false⟩]))
  (.cond (.s 11) (.seq (.ops [⟨none, (some 12), .mv 12 (.s 3), false⟩,
    ⟨none, (some 2), .mv 2 (.s 12), false⟩])
  .ret) .skip)))
  (.seq (.keep [0, 3]) (.ops [⟨none, (some 6), .mv 6 (.s 3), false⟩,
    ⟨none, (some 7), .binc 7 .add (.s 6) (.k (Value.int .i64 1)), false⟩,
    ⟨none, (some 3), .mv 3 (.s 7), false⟩])))))))
  (.seq (.ops [⟨none, (some 2), .mv 2 (.k (Value.int .i64 (-1))), false⟩])
  .ret)))
theorem cc105 : (Tryd.f105.body).bind (cc Tryd.prog Tryd.f105.ntmps A105) = some S105 := by kernel_rfl
def R105 : List RR := [.sl 2]
theorem cr105 : Tryd.f105.results.toList.map (crr Tryd.prog) = R105.map some := by kernel_rfl
theorem nm105 : (Tryd.f105.name == "runtime.NumGoroutine") = false := by kernel_rfl
theorem fn105 : Tryd.prog.funcs[105]? = some Tryd.f105 := by kernel_rfl
theorem bd105 : ∃ b, Tryd.f105.body = some b ∧ cc Tryd.prog Tryd.f105.ntmps A105 b = some S105 := Option.bind_eq_some_iff.1 cc105
theorem sd105 {G : World → Prop} {T : FuncId → Contract} {C : Contract} (hT : ∀ f, Sound G Tryd.prog f (T f)) (hl : C.lawful) (hC : ∀ args st K, C.wp args st K → args.length ≤ 13 ∧ ∃ os op, xv T st.n S105 (st0 args st) (retK R105 st.n os K) (panK st.n op K)) (hit : SoundIt G Tryd.prog 105 C.it := by exact SoundIt.none) : Sound G Tryd.prog 105 C := by
  obtain ⟨b, hb, hc⟩ := bd105
  rw [xv_eq] at hC
  exact sound_of_ev mo fn105 hb nm105 hc cr105 hT hl hit hC

/-! 88: (*strings.Builder).WriteByte -/
def A88 : Ann := ⟨fun _ _ => 0, fun _ => none, fun r => if r = 2 then some (false, [0, 1]) else none, fun _ => []⟩
def S88 : SCode :=
  (.seq (.ops [⟨none, (some 4), .mv 4 (.k Value.nilIface), false⟩])
  (.seq (.ops [⟨none, (some 5), .mv 5 (.s 0), false⟩,
    ⟨none, (some 6), .call (some 6) 94 false [(.s 5)], false⟩])
  (.seq (.seq (.keep [0, 1]) (.ops [⟨none, (some 7), .mv 7 (.s 0), false⟩,
    ⟨none, (some 8), .mv 8 (.s 0), false⟩,
    ⟨none, (some 9), .nc 9 (.s 8), false⟩,
    ⟨none, (some 10), .fa 10 1 (.s 9), false⟩,
    ⟨none, (some 11), .ld 11 false 1 (.s 10), false⟩,
    ⟨none, (some 12), .mv 12 (.s 1), false⟩,
    ⟨none, (some 13), .bs 13 5 1 [(.s 12)], false⟩,
    ⟨none, (some 14), .ap 14 5 1 1 (.s 11) (.s 13), false⟩,
    ⟨none, (some 15), .nc 15 (.s 7), false⟩,
    ⟨none, (some 16), .fa 16 1 (.s 15), true⟩,
    ⟨none, none, .st false 1 (.s 16) (.s 14), false⟩]))
  (.seq (.ops [⟨none, (some 4), .mv 4 (.k Value.nilIface), false⟩])
  .ret))))
theorem cc88 : (Tryd.f88.body).bind (cc Tryd.prog Tryd.f88.ntmps A88) = some S88 := by kernel_rfl
def R88 : List RR := [.sl 4]
theorem cr88 : Tryd.f88.results.toList.map (crr Tryd.prog) = R88.map some := by kernel_rfl
theorem nm88 : (Tryd.f88.name == "runtime.NumGoroutine") = false := by kernel_rfl
theorem fn88 : Tryd.prog.funcs[88]? = some Tryd.f88 := by kernel_rfl
theorem bd88 : ∃ b, Tryd.f88.body = some b ∧ cc Tryd.prog Tryd.f88.ntmps A88 b = some S88 := Option.bind_eq_some_iff.1 cc88
theorem sd88 {G : World → Prop} {T : FuncId → Contract} {C : Contract} (hT : ∀ f, Sound G Tryd.prog f (T f)) (hl : C.lawful) (hC : ∀ args st K, C.wp args st K → args.length ≤ 17 ∧ ∃ os op, xv T st.n S88 (st0 args st) (retK R88 st.n os K) (panK st.n op K)) (hit : SoundIt G Tryd.prog 88 C.it := by exact SoundIt.none) : Sound G Tryd.prog 88 C := by
  obtain ⟨b, hb, hc⟩ := bd88
  rw [xv_eq] at hC
  exact sound_of_ev mo fn88 hb nm88 hc cr88 hT hl hit hC

/-! 90: (*strings.Builder).Write -/
def A90 : Ann := ⟨fun _ _ => 0, fun _ => none, fun r => if r = 2 then some (false, [0, 1]) else if r = 3 then some (false, [1]) else none, fun _ => []⟩
def S90 : SCode :=
  (.seq (.ops [⟨none, (some 4), .mv 4 (.k (Value.int .i64 0)), false⟩,
    ⟨none, (some 5), .mv 5 (.k Value.nilIface), false⟩])
  (.seq (.ops [⟨none, (some 6), .mv 6 (.s 0), false⟩,
    ⟨none, (some 7), .call (some 7) 94 false [(.s 6)], false⟩])
  (.seq (.seq (.keep [0, 1]) (.ops [⟨none, (some 8), .mv 8 (.s 0), false⟩,
    ⟨none, (some 9), .mv 9 (.s 0), false⟩,
    ⟨none, (some 10), .nc 10 (.s 9), false⟩,
    ⟨none, (some 11), .fa 11 1 (.s 10), false⟩,
    ⟨none, (some 12), .ld 12 false 1 (.s 11), false⟩,
    ⟨none, (some 13), .mv 13 (.s 1), false⟩,
    ⟨none, (some 14), .ap 14 5 1 1 (.s 12) (.s 13), false⟩,
    ⟨none, (some 15), .nc 15 (.s 8), false⟩,
    ⟨none, (some 16), .fa 16 1 (.s 15), false⟩,
    ⟨none, none, .st false 1 (.s 16) (.s 14), true⟩]))
  (.seq (.seq (.keep [1]) (.ops [⟨none, (some 17), .mv 17 (.s 1), false⟩,
    ⟨none, (some 18), .len 18 (.s 17), false⟩,
    ⟨none, (some 4), .mv 4 (.s 18), false⟩,
    ⟨none, (some 5), .mv 5 (.k Value.nilIface), false⟩]))
  .ret))))
theorem cc90 : (Tryd.f90.body).bind (cc Tryd.prog Tryd.f90.ntmps A90) = some S90 := by kernel_rfl
def R90 : List RR := [.sl 4, .sl 5]
theorem cr90 : Tryd.f90.results.toList.map (crr Tryd.prog) = R90.map some := by kernel_rfl
theorem nm90 : (Tryd.f90.name == "runtime.NumGoroutine") = false := by kernel_rfl
theorem fn90 : Tryd.prog.funcs[90]? = some Tryd.f90 := by kernel_rfl
theorem bd90 : ∃ b, Tryd.f90.body = some b ∧ cc Tryd.prog Tryd.f90.ntmps A90 b = some S90 := Option.bind_eq_some_iff.1 cc90
theorem sd90 {G : World → Prop} {T : FuncId → Contract} {C : Contract} (hT : ∀ f, Sound G Tryd.prog f (T f)) (hl : C.lawful) (hC : ∀ args st K, C.wp args st K → args.length ≤ 19 ∧ ∃ os op, xv T st.n S90 (st0 args st) (retK R90 st.n os K) (panK st.n op K)) (hit : SoundIt G Tryd.prog 90 C.it := by exact SoundIt.none) : Sound G Tryd.prog 90 C := by
  obtain ⟨b, hb, hc⟩ := bd90
  rw [xv_eq] at hC
  exact sound_of_ev mo fn90 hb nm90 hc cr90 hT hl hit hC

/-! 162: strings.HasPrefix -/
def A162 : Ann := ⟨fun _ _ => 0, fun _ => none, fun r => if r = 1 then some (false, [0, 1]) else none, fun _ => []⟩
def S162 : SCode :=
  (.seq (.ops [⟨none, (some 4), .mv 4 (.k (Value.bool false)), false⟩])
  (.seq (.seq (.keep [0, 1]) (.ops [⟨none, (some 5), .mv 5 (.s 0), false⟩,
    ⟨none, (some 6), .mv 6 (.s 1), false⟩,
    ⟨none, (some 7), .call (some 7) 167 false [(.s 5), (.s 6)], false⟩,
    ⟨none, (some 4), .mv 4 (.s 7), false⟩]))
  .ret))
theorem cc162 : (Tryd.f162.body).bind (cc Tryd.prog Tryd.f162.ntmps A162) = some S162 := by kernel_rfl
def R162 : List RR := [.sl 4]
theorem cr162 : Tryd.f162.results.toList.map (crr Tryd.prog) = R162.map some := by kernel_rfl
theorem nm162 : (Tryd.f162.name == "runtime.NumGoroutine") = false := by kernel_rfl
theorem fn162 : Tryd.prog.funcs[162]? = some Tryd.f162 := by kernel_rfl
theorem bd162 : ∃ b, Tryd.f162.body = some b ∧ cc Tryd.prog Tryd.f162.ntmps A162 b = some S162 := Option.bind_eq_some_iff.1 cc162
theorem sd162 {G : World → Prop} {T : FuncId → Contract} {C : Contract} (hT : ∀ f, Sound G Tryd.prog f (T f)) (hl : C.lawful) (hC : ∀ args st K, C.wp args st K → args.length ≤ 8 ∧ ∃ os op, xv T st.n S162 (st0 args st) (retK R162 st.n os K) (panK st.n op K)) (hit : SoundIt G Tryd.prog 162 C.it := by exact SoundIt.none) : Sound G Tryd.prog 162 C := by
  obtain ⟨b, hb, hc⟩ := bd162
  rw [xv_eq] at hC
  exact sound_of_ev mo fn162 hb nm162 hc cr162 hT hl hit hC

/-! 134: internal/stringslite.CutPrefix -/
def A134 : Ann := ⟨fun _ _ => 0, fun _ => none, fun r => if r = 1 then some (false, [0, 1]) else if r = 2 then some (false, [0]) else if r = 3 then some (false, [0, 1]) else none, fun _ => []⟩
def S134 : SCode :=
  (.seq (.ops [⟨none, (some 4), .mv 4 (.k (Value.string ⟨#[]⟩)), false⟩,
    ⟨none, (some 5), .mv 5 (.k (Value.bool false)), false⟩])
  (.seq (.seq (.seq (.keep [0, 1]) (.ops [⟨none, (some 6), .mv 6 (.s 0), false⟩,
    ⟨none, (some 7), .mv 7 (.s 1), false⟩,
    ⟨none, (some 8), .call (some 8) 167 false [(.s 6), (.s 7)], false⟩,
    ⟨none, (some 9), .not 9 (.s 8), false⟩]))
  (.cond (.s 9) (.seq (.seq (.keep [0]) (.ops [⟨none, (some 10), .mv 10 (.s 0), false⟩,
    ⟨none, (some 4), .mv 4 (.s 10), false⟩,
    ⟨none, (some 5), .mv 5 (.k (Value.bool false)), false⟩]))
  .ret) .skip))
  (.seq (.seq (.keep [0, 1]) (.ops [⟨none, (some 11), .mv 11 (.s 0), false⟩,
    ⟨none, (some 12), .mv 12 (.s 1), false⟩,
    ⟨none, (some 13), .lens 13 (.s 12), false⟩,
    ⟨none, (some 14), .sls 14 (.s 11) (some (.s 13)) none, false⟩,
    ⟨none, (some 4), .mv 4 (.s 14), false⟩,
    ⟨none, (some 5), .mv 5 (.k (Value.bool true)), false⟩]))
  .ret)))
theorem cc134 : (Tryd.f134.body).bind (cc Tryd.prog Tryd.f134.ntmps A134) = some S134 := by kernel_rfl
def R134 : List RR := [.sl 4, .sl 5]
theorem cr134 : Tryd.f134.results.toList.map (crr Tryd.prog) = R134.map some := by kernel_rfl
theorem nm134 : (Tryd.f134.name == "runtime.NumGoroutine") = false := by kernel_rfl
theorem fn134 : Tryd.prog.funcs[134]? = some Tryd.f134 := by kernel_rfl
theorem bd134 : ∃ b, Tryd.f134.body = some b ∧ cc Tryd.prog Tryd.f134.ntmps A134 b = some S134 := Option.bind_eq_some_iff.1 cc134
theorem sd134 {G : World → Prop} {T : FuncId → Contract} {C : Contract} (hT : ∀ f, Sound G Tryd.prog f (T f)) (hl : C.lawful) (hC : ∀ args st K, C.wp args st K → args.length ≤ 15 ∧ ∃ os op, xv T st.n S134 (st0 args st) (retK R134 st.n os K) (panK st.n op K)) (hit : SoundIt G Tryd.prog 134 C.it := by exact SoundIt.none) : Sound G Tryd.prog 134 C := by
  obtain ⟨b, hb, hc⟩ := bd134
  rw [xv_eq] at hC
  exact sound_of_ev mo fn134 hb nm134 hc cr134 hT hl hit hC

/-! 135: strings.IndexByte -/
def A135 : Ann := ⟨fun _ _ => 0, fun _ => none, fun r => if r = 1 then some (false, [0, 1]) else none, fun _ => []⟩
def S135 : SCode :=
  (.seq (.ops [⟨none, (some 4), .mv 4 (.k (Value.int .i64 0)), false⟩])
  (.seq (.seq (.keep [0, 1]) (.ops [⟨none, (some 5), .mv 5 (.s 0), false⟩,
    ⟨none, (some 6), .mv 6 (.s 1), false⟩,
    ⟨none, (some 7), .call (some 7) 168 false [(.s 5), (.s 6)], false⟩,
    ⟨none, (some 4), .mv 4 (.s 7), false⟩]))
  .ret))
theorem cc135 : (Tryd.f135.body).bind (cc Tryd.prog Tryd.f135.ntmps A135) = some S135 := by kernel_rfl
def R135 : List RR := [.sl 4]
theorem cr135 : Tryd.f135.results.toList.map (crr Tryd.prog) = R135.map some := by kernel_rfl
theorem nm135 : (Tryd.f135.name == "runtime.NumGoroutine") = false := by kernel_rfl
theorem fn135 : Tryd.prog.funcs[135]? = some Tryd.f135 := by kernel_rfl
theorem bd135 : ∃ b, Tryd.f135.body = some b ∧ cc Tryd.prog Tryd.f135.ntmps A135 b = some S135 := Option.bind_eq_some_iff.1 cc135
theorem sd135 {G : World → Prop} {T : FuncId → Contract} {C : Contract} (hT : ∀ f, Sound G Tryd.prog f (T f)) (hl : C.lawful) (hC : ∀ args st K, C.wp args st K → args.length ≤ 8 ∧ ∃ os op, xv T st.n S135 (st0 args st) (retK R135 st.n os K) (panK st.n op K)) (hit : SoundIt G Tryd.prog 135 C.it := by exact SoundIt.none) : Sound G Tryd.prog 135 C := by
  obtain ⟨b, hb, hc⟩ := bd135
  rw [xv_eq] at hC
  exact sound_of_ev mo fn135 hb nm135 hc cr135 hT hl hit hC

/-! 167: internal/stringslite.HasPrefix -/
def A167 : Ann := ⟨fun r i => if r = 1 ∧ i = 8 then 1 else 0, fun _ => none, fun r => if r = 1 then some (false, [0, 1]) else none, fun _ => []⟩
def S167 : SCode :=
  (.seq (.ops [⟨none, (some 4), .mv 4 (.k (Value.bool false)), false⟩])
  (.seq (.seq (.keep [0, 1]) (.ops [⟨none, (some 5), .mv 5 (.s 0), false⟩,
    ⟨none, (some 6), .lens 6 (.s 5), false⟩,
    ⟨none, (some 7), .mv 7 (.s 1), false⟩,
    ⟨none, (some 8), .lens 8 (.s 7), false⟩,
    ⟨none, (some 9), .bin 9 .geq (.s 6) (.s 8), false⟩,
    ⟨none, (some 10), .mv 10 (.s 9), false⟩,
    ⟨(some (10, true)), (some 11), .mv 11 (.s 0), false⟩,
    ⟨(some (10, true)), (some 12), .mv 12 (.s 1), false⟩,
    ⟨(some (10, true)), (some 13), .lens 13 (.s 12), false⟩,
    ⟨(some (10, true)), (some 14), .sls 14 (.s 11) none (some (.s 13)), true⟩,
    ⟨(some (10, true)), (some 15), .mv 15 (.s 1), false⟩,
    ⟨(some (10, true)), (some 16), .bin 16 .eql (.s 14) (.s 15), false⟩,
    ⟨none, (some 17), .pk 17 (.s 10) (.s 16) (.k (Value.bool false)), false⟩,
    ⟨none, (some 4), .mv 4 (.s 17), false⟩]))
  .ret))
theorem cc167 : (Tryd.f167.body).bind (cc Tryd.prog Tryd.f167.ntmps A167) = some S167 := by kernel_rfl
def R167 : List RR := [.sl 4]
theorem cr167 : Tryd.f167.results.toList.map (crr Tryd.prog) = R167.map some := by kernel_rfl
theorem nm167 : (Tryd.f167.name == "runtime.NumGoroutine") = false := by kernel_rfl
theorem fn167 : Tryd.prog.funcs[167]? = some Tryd.f167 := by kernel_rfl
theorem bd167 : ∃ b, Tryd.f167.body = some b ∧ cc Tryd.prog Tryd.f167.ntmps A167 b = some S167 := Option.bind_eq_some_iff.1 cc167
theorem sd167 {G : World → Prop} {T : FuncId → Contract} {C : Contract} (hT : ∀ f, Sound G Tryd.prog f (T f)) (hl : C.lawful) (hC : ∀ args st K, C.wp args st K → args.length ≤ 18 ∧ ∃ os op, xv T st.n S167 (st0 args st) (retK R167 st.n os K) (panK st.n op K)) (hit : SoundIt G Tryd.prog 167 C.it := by exact SoundIt.none) : Sound G Tryd.prog 167 C := by
  obtain ⟨b, hb, hc⟩ := bd167
  rw [xv_eq] at hC
  exact sound_of_ev mo fn167 hb nm167 hc cr167 hT hl hit hC

/-! 63: redline/unified.Name -/
def A63 : Ann := ⟨fun _ _ => 0, fun _ => none, fun r => if r = 1 then some (false, [0]) else if r = 2 then some (false, [0, 3]) else if r = 5 then some (false, [0, 3, 4, 8, 9]) else if r = 7 then some (false, [0, 3]) else if r = 10 then some (false, [0]) else none, fun r => if r = 3 then [0, 3, 8, 9] else []⟩
def S63 : SCode :=
  (.seq (.ops [⟨none, (some 2), .mv 2 (.k (Value.string ⟨#[]⟩)), false⟩])
  (.seq (.seq (.keep [0]) (.ops [⟨none, (some 5), .mv 5 (.s 0), false⟩,
    ⟨none, (some 6), .bin 6 .eql (.s 5) (.k (Value.string ⟨#[47, 100, 101, 118, 47, 110, 117, 108, 108]⟩)), false⟩,
    ⟨none, (some 3), .mv 3 (.s 6), false⟩]))
  (.seq (.seq (.seq (.keep [0, 3]) (.ops [⟨none, (some 7), .mv 7 (.s 0), false⟩,
    ⟨none, (some 8), .lens 8 (.s 7), false⟩,
    ⟨none, (some 9), .mv 9 (.k (Value.int .i64 0)), false⟩]))
  (.block 0 (.loop [0, 3, 8, 9] (.seq (.ops [⟨none, (some 10), .bin 10 .lss (.s 9) (.s 8), false⟩])
  (.seq (.cond (.s 10) .skip (.exit 0))
  (.seq (.block 1 (.seq (.ops [⟨none, (some 11), .mv 11 (.s 9), false⟩,
    ⟨none, (some 4), .mv 4 (.s 11), false⟩])
  (.seq (.keep [0, 3, 4, 8, 9]) (.ops [⟨none, (some 12), .mv 12 (.s 3), false⟩,
    ⟨none, (some 13), .mv 13 (.s 12), false⟩,
    ⟨(some (13, false)), (some 14), .mv 14 (.s 0), false⟩,
    ⟨(some (13, false)), (some 15), .mv 15 (.s 4), false⟩,
    ⟨(some (13, false)), (some 16), .ixs 16 (.s 14) (.s 15), false⟩,
    ⟨(some (13, false)), (some 17), .bin 17 .lss (.s 16) (.k (Value.int .u8 33)), false⟩,
    ⟨none, (some 18), .pk 18 (.s 13) (.k (Value.bool true)) (.s 17), false⟩,
    ⟨none, (some 19), .mv 19 (.s 18), false⟩,
    ⟨(some (19, false)), (some 20), .mv 20 (.s 0), false⟩,
    ⟨(some (19, false)), (some 21), .mv 21 (.s 4), true⟩,
    ⟨(some (19, false)), (some 22), .ixs 22 (.s 20) (.s 21), false⟩,
    ⟨(some (19, false)), (some 23), .bin 23 .gtr (.s 22) (.k (Value.int .u8 126)), false⟩,
    ⟨none, (some 24), .pk 24 (.s 19) (.k (Value.bool true)) (.s 23), false⟩,
    ⟨none, (some 25), .mv 25 (.s 24), false⟩,
    ⟨(some (25, false)), (some 26), .mv 26 (.s 0), false⟩,
    ⟨(some (25, false)), (some 27), .mv 27 (.s 4), false⟩,
    ⟨(some (25, false)), (some 28), .ixs 28 (.s 26) (.s 27), false⟩,
    ⟨(some (25, false)), (some 29), .bin 29 .eql (.s 28) (.k (Value.int .u8 34)), false⟩,
    ⟨none, (some 30), .pk 30 (.s 25) (.k (Value.bool true)) (.s 29), false⟩,
    ⟨none, (some 3), .mv 3 (.s 30), true⟩]))))
  (.ops [⟨none, (some 31), .binc 31 .add (.s 9) (.k (Value.int .i64 1)), false⟩,
    ⟨none, (some 9), .mv 9 (.s 31), false⟩])))))))
  (.seq (.block 2 (.seq (.seq (.keep [0, 3]) (.ops [⟨none, (some 33), .mv 33 (.s 0), false⟩,
    ⟨none, (some 34), .bin 34 .eql (.s 33) (.k (Value.string ⟨#[]⟩)), false⟩,
    ⟨none, (some 32), .mv 32 (.s 34), false⟩]))
  (.cond (.s 32) (.seq (.ops [⟨none, (some 2), .mv 2 (.k (Value.string ⟨#[47, 100, 101, 118, 47, 110, 117, 108, 108]⟩)), false⟩])
  .ret) (.seq (.ops [⟨none, (some 36), .mv 36 (.s 3), false⟩,
    ⟨none, (some 35), .mv 35 (.s 36), false⟩])
  (.cond (.s 35) (.seq (.seq (.keep [0]) (.ops [⟨none, (some 37), .mv 37 (.s 0), false⟩,
    ⟨none, (some 38), .call (some 38) 39 false [(.s 37)], false⟩,
    ⟨none, (some 2), .mv 2 (.s 38), false⟩]))
  .ret) .skip)))))
  (.seq (.ops [⟨none, (some 39), .mv 39 (.s 0), false⟩,
    ⟨none, (some 2), .mv 2 (.s 39), false⟩])
  .ret)))))
theorem cc63 : (Tryd.f63.body).bind (cc Tryd.prog Tryd.f63.ntmps A63) = some S63 := by kernel_rfl
def R63 : List RR := [.sl 2]
theorem cr63 : Tryd.f63.results.toList.map (crr Tryd.prog) = R63.map some := by kernel_rfl
theorem nm63 : (Tryd.f63.name == "runtime.NumGoroutine") = false := by kernel_rfl
theorem fn63 : Tryd.prog.funcs[63]? = some Tryd.f63 := by kernel_rfl
theorem bd63 : ∃ b, Tryd.f63.body = some b ∧ cc Tryd.prog Tryd.f63.ntmps A63 b = some S63 := Option.bind_eq_some_iff.1 cc63
theorem sd63 {G : World → Prop} {T : FuncId → Contract} {C : Contract} (hT : ∀ f, Sound G Tryd.prog f (T f)) (hl : C.lawful) (hC : ∀ args st K, C.wp args st K → args.length ≤ 40 ∧ ∃ os op, xv T st.n S63 (st0 args st) (retK R63 st.n os K) (panK st.n op K)) (hit : SoundIt G Tryd.prog 63 C.it := by exact SoundIt.none) : Sound G Tryd.prog 63 C := by
  obtain ⟨b, hb, hc⟩ := bd63
  rw [xv_eq] at hC
  exact sound_of_ev mo fn63 hb nm63 hc cr63 hT hl hit hC

/-! 74: redline/redlineref15.Name -/
def A74 : Ann := ⟨fun _ _ => 0, fun _ => none, fun r => if r = 4 then some (false, [0, 3]) else if r = 5 then some (false, [0, 3]) else if r = 6 then some (false, [0, 3]) else if r = 7 then some (false, [0]) else if r = 9 then some (false, [0]) else none, fun r => if r = 4 then [0, 3] else []⟩
def S74 : SCode :=
  (.seq (.ops [⟨none, (some 2), .mv 2 (.k (Value.string ⟨#[]⟩)), false⟩])
  (.seq (.seq (.ops [⟨none, (some 4), .mv 4 (.s 0), false⟩,
    ⟨none, (some 5), .bin 5 .eql (.s 4) (.k (Value.string ⟨#[]⟩)), false⟩])
  (.cond (.s 5) (.seq (.ops [⟨none, (some 2), .mv 2 (.k (Value.string ⟨#[47, 100, 101, 118, 47, 110, 117, 108, 108]⟩)), false⟩])
  .ret) .skip))
  (.seq (.seq (.ops [⟨none, (some 3), .mv 3 (.k (Value.int .i64 0)), false⟩])
  (.block 0 (.loop [0, 3] (.seq (.seq (.seq (.keep [0, 3]) (.ops [⟨none, (some 6), .mv 6 (.s 3), false⟩,
    ⟨none, (some 7), .mv 7 (.s 0), false⟩,
    ⟨none, (some 8), .lens 8 (.s 7), false⟩,
    ⟨none, (some 9), .bin 9 .lss (.s 6) (.s 8), false⟩]))
  (.cond (.s 9) .skip (.exit 0)))
  (.seq (.block 1 (.seq (.seq (.keep [0, 3]) (.ops [⟨none, (some 12), .mv 12 (.s 0), false⟩,
    ⟨none, (some 13), .mv 13 (.s 3), false⟩,
    ⟨none, (some 14), .ixs 14 (.s 12) (.s 13), false⟩,
    ⟨none, (some 15), .bin 15 .lss (.s 14) (.k (Value.int .u8 33)), false⟩,
    ⟨none, (some 16), .mv 16 (.s 15), false⟩,
    ⟨(some (16, false)), (some 17), .mv 17 (.s 0), false⟩,
    ⟨(some (16, false)), (some 18), .mv 18 (.s 3), false⟩,
    ⟨(some (16, false)), (some 19), .ixs 19 (.s 17) (.s 18), false⟩,
    ⟨(some (16, false)), (some 20), .bin 20 .gtr (.s 19) (.k (Value.int .u8 126)), false⟩,
    ⟨none, (some 21), .pk 21 (.s 16) (.k (Value.bool true)) (.s 20), true⟩,
    ⟨none, (some 22), .mv 22 (.s 21), false⟩,
    ⟨(some (22, false)), (some 23), .mv 23 (.s 0), false⟩,
    ⟨(some (22, false)), (some 24), .mv 24 (.s 3), false⟩,
    ⟨(some (22, false)), (some 25), .ixs 25 (.s 23) (.s 24), false⟩,
    ⟨(some (22, false)), (some 26), .bin 26 .eql (.s 25) (.k (Value.int .u8 34)), false⟩,
    ⟨none, (some 27), .pk 27 (.s 22) (.k (Value.bool true)) (.s 26), false⟩]))
  (.cond (.s 27) (.seq (.seq (.keep [0]) (.ops [⟨none, (some 28), .mv 28 (.s 0), false⟩,
    ⟨none, (some 29), .call (some 29) 121 false [(.s 28)], false⟩,
    ⟨none, (some 2), .mv 2 (.s 29), false⟩]))
  .ret) .skip)))
  (.seq (.keep [0, 3]) (.ops [⟨none, (some 10), .mv 10 (.s 3), false⟩,
    ⟨none, (some 11), .binc 11 .add (.s 10) (.k (Value.int .i64 1)), false⟩,
    ⟨none, (some 3), .mv 3 (.s 11), false⟩])))))))
  (.seq (.seq (.ops [⟨none, (some 30), .mv 30 (.s 0), false⟩,
    ⟨none, (some 31), .bin 31 .eql (.s 30) (.k (Value.string ⟨#[47, 100, 101, 118, 47, 110, 117, 108, 108]⟩)), false⟩])
  (.cond (.s 31) (.seq (.seq (.keep [0]) (.ops [⟨none, (some 32), .mv 32 (.s 0), false⟩,
    ⟨none, (some 33), .call (some 33) 121 false [(.s 32)], false⟩,
    ⟨none, (some 2), .mv 2 (.s 33), false⟩]))
  .ret) .skip))
  (.seq (.ops [⟨none, (some 34), .mv 34 (.s 0), false⟩,
    ⟨none, (some 2), .mv 2 (.s 34), false⟩])
  .ret)))))
theorem cc74 : (Tryd.f74.body).bind (cc Tryd.prog Tryd.f74.ntmps A74) = some S74 := by kernel_rfl
def R74 : List RR := [.sl 2]
theorem cr74 : Tryd.f74.results.toList.map (crr Tryd.prog) = R74.map some := by kernel_rfl
theorem nm74 : (Tryd.f74.name == "runtime.NumGoroutine") = false := by kernel_rfl
theorem fn74 : Tryd.prog.funcs[74]? = some Tryd.f74 := by kernel_rfl
theorem bd74 : ∃ b, Tryd.f74.body = some b ∧ cc Tryd.prog Tryd.f74.ntmps A74 b = some S74 := Option.bind_eq_some_iff.1 cc74
theorem sd74 {G : World → Prop} {T : FuncId → Contract} {C : Contract} (hT : ∀ f, Sound G Tryd.prog f (T f)) (hl : C.lawful) (hC : ∀ args st K, C.wp args st K → args.length ≤ 35 ∧ ∃ os op, xv T st.n S74 (st0 args st) (retK R74 st.n os K) (panK st.n op K)) (hit : SoundIt G Tryd.prog 74 C.it := by exact SoundIt.none) : Sound G Tryd.prog 74 C := by
  obtain ⟨b, hb, hc⟩ := bd74
  rw [xv_eq] at hC
  exact sound_of_ev mo fn74 hb nm74 hc cr74 hT hl hit hC

/-! 66: redline/redlineref16.Name -/
def A66 : Ann := ⟨fun _ _ => 0, fun _ => none, fun r => if r = 1 then some (false, [0]) else none, fun _ => []⟩
def S66 : SCode :=
  (.seq (.ops [⟨none, (some 2), .mv 2 (.k (Value.string ⟨#[]⟩)), false⟩])
  (.seq (.seq (.keep [0]) (.ops [⟨none, (some 3), .mv 3 (.s 0), false⟩,
    ⟨none, (some 4), .call (some 4) 74 false [(.s 3)], false⟩,
    ⟨none, (some 2), .mv 2 (.s 4), false⟩]))
  .ret))
theorem cc66 : (Tryd.f66.body).bind (cc Tryd.prog Tryd.f66.ntmps A66) = some S66 := by kernel_rfl
def R66 : List RR := [.sl 2]
theorem cr66 : Tryd.f66.results.toList.map (crr Tryd.prog) = R66.map some := by kernel_rfl
theorem nm66 : (Tryd.f66.name == "runtime.NumGoroutine") = false := by kernel_rfl
theorem fn66 : Tryd.prog.funcs[66]? = some Tryd.f66 := by kernel_rfl
theorem bd66 : ∃ b, Tryd.f66.body = some b ∧ cc Tryd.prog Tryd.f66.ntmps A66 b = some S66 := Option.bind_eq_some_iff.1 cc66
theorem sd66 {G : World → Prop} {T : FuncId → Contract} {C : Contract} (hT : ∀ f, Sound G Tryd.prog f (T f)) (hl : C.lawful) (hC : ∀ args st K, C.wp args st K → args.length ≤ 5 ∧ ∃ os op, xv T st.n S66 (st0 args st) (retK R66 st.n os K) (panK st.n op K)) (hit : SoundIt G Tryd.prog 66 C.it := by exact SoundIt.none) : Sound G Tryd.prog 66 C := by
  obtain ⟨b, hb, hc⟩ := bd66
  rw [xv_eq] at hC
  exact sound_of_ev mo fn66 hb nm66 hc cr66 hT hl hit hC

end Go.Proofs.YtpbkdcfjlbdgfaaDoor
set_option linter.unusedVariables false
set_option linter.unusedSimpArgs false
namespace Go.Proofs.YtpbkdcfjlbdgfaaDoor
open Go Go.Ev
set_option maxHeartbeats 1000000 in
set_option maxRecDepth 100000 in
theorem calls168 (s : ByteArray) (c : Int) (w : World) :
    Calls Tryd.prog 168 #[.string s, .int .u8 c] w fun e w' => e = .returned (.int .i64 (Lib.indexByte s.data.toList c.toNat.toUInt8)) ∧ w' = w := by
  go_enter Tryd.func168, Tryd.ntmps168
  go_wp2
  rw [run_callFunc_extern Tryd.func189 (by kernel_rfl) (by kernel_rfl) (by kernel_rfl) (e := Extern.BytealgIndexByte.indexByte) (by kernel_rfl), Lib.run_indexByteString]
  simp only [Result.andThen]
  rw [Oper.upon_value]
  go_wp2
  go_ret
  exact ⟨rfl, rfl⟩
def C168 : Contract := pureC fun args => match args with
  | [.d (.v (.string s)), .d (.v (.int .u8 c))] => some (True, .d (.v (.int .i64 (Lib.indexByte s.data.toList c.toNat.toUInt8))))
  | _ => none
set_option maxRecDepth 100000 in
theorem hb168 : HasBody Tryd.prog 168 := ⟨Tryd.f168, by kernel_rfl, by kernel_rfl, by kernel_rfl⟩
set_option maxRecDepth 100000 in
theorem s168 {G : World → Prop} : Sound G Tryd.prog 168 C168 := by
  refine sound_calls hb168 fun args p x h hp => ?_
  split at h <;> simp only [Option.some.injEq, Prod.mk.injEq, reduceCtorEq] at h
  obtain ⟨rfl, rfl⟩ := h
  refine ⟨_, fun m n c => ⟨rfl, rfl⟩, fun m c vs hv w => ?_⟩
  match vs, hv with
  | [a, b], hv =>
    simp only [CnL, and_true] at hv
    rw [of_v hv.1, of_v hv.2]
    exact calls168 _ _ w
  | [], hv => simp [CnL] at hv
  | [_], hv => simp [CnL] at hv
  | _ :: _ :: _ :: _, hv => simp [CnL] at hv
end Go.Proofs.YtpbkdcfjlbdgfaaDoor
set_option linter.unusedVariables false
set_option linter.unusedSimpArgs false
namespace Go.Proofs.YtpbkdcfjlbdgfaaDoor
open Go Go.Ev
set_option maxRecDepth 100000
variable {G : World → Prop}
def plainB (c : Int) : Bool := decide (32 ≤ c) && decide (c ≤ 126) && !decide (c = 34) && !decide (c = 92)
def C89 : Contract := pureC fun args => match args with
  | [.d (.v (.int .u8 c))] => some (True, .d (.v (.bool (plainB c))))
  | _ => none
theorem s89 : Sound G Tryd.prog 89 C89 := by
  refine sd89 (T := tabT []) tab_nil (pureC_lawful _) (pure_hX fun args p x K h hp hk => ?_)
  split at h <;> simp only [Option.some.injEq, Prod.mk.injEq, reduceCtorEq] at h
  obtain ⟨rfl, rfl⟩ := h
  refine ⟨Nat.le_of_ble_eq_true rfl, ?_⟩
  simp -dsimp -implicitDefEqProofs only [S89, R89, ↓Ev.xStp_eq, ↓Ev.P, Ev.Q, eq_self, forall_eq_or_imp, implies_true, forall_const, forall_eq, ↓reduceIte, reduceIte, Nat.reduceEqDiff, Nat.reduceAdd, reduceCtorEq, Nat.reduceSub, Int.reduceToNat, Int.reduceLE, Int.reduceLT, Int.reduceNeg, Nat.reduceBEq, Nat.reduceMul, Nat.reduceLeDiff, Nat.reduceMod, UInt8.reduceOfNat, Nat.reduceLT, Int.reduceEq, Int.reduceAdd, Int.reduceSub, Int.reduceMul]
  exact hk
theorem s104 : Sound G Tryd.prog 104 C89 := by
  refine sd104 (T := tabT []) tab_nil (pureC_lawful _) (pure_hX fun args p x K h hp hk => ?_)
  split at h <;> simp only [Option.some.injEq, Prod.mk.injEq, reduceCtorEq] at h
  obtain ⟨rfl, rfl⟩ := h
  refine ⟨Nat.le_of_ble_eq_true rfl, ?_⟩
  simp -dsimp -implicitDefEqProofs only [S104, R104, ↓Ev.xStp_eq, ↓Ev.P, Ev.Q, eq_self, forall_eq_or_imp, implies_true, forall_const, forall_eq, ↓reduceIte, reduceIte, Nat.reduceEqDiff, Nat.reduceAdd, reduceCtorEq, Nat.reduceSub, Int.reduceToNat, Int.reduceLE, Int.reduceLT, Int.reduceNeg, Nat.reduceBEq, Nat.reduceMul, Nat.reduceLeDiff, Nat.reduceMod, UInt8.reduceOfNat, Nat.reduceLT, Int.reduceEq, Int.reduceAdd, Int.reduceSub, Int.reduceMul]
  exact hk
def hasPre (s p : ByteArray) : Bool := decide ((p.size : Int) ≤ (s.size : Int)) && decide (s.extract 0 p.size = p)
def C167 : Contract := pureC fun args => match args with
  | [.d (.v (.string s)), .d (.v (.string p))] => some (True, .d (.v (.bool (hasPre s p))))
  | _ => none
theorem s167 : Sound G Tryd.prog 167 C167 := by
  refine sd167 (T := tabT []) tab_nil (pureC_lawful _) (pure_hX fun args p x K h hp hk => ?_)
  split at h <;> simp only [Option.some.injEq, Prod.mk.injEq, reduceCtorEq] at h
  obtain ⟨rfl, rfl⟩ := h
  refine ⟨Nat.le_of_ble_eq_true rfl, ?_⟩
  simp -dsimp -implicitDefEqProofs only [S167, R167, ↓Ev.xStp_eq, ↓Ev.P, Ev.Q, eq_self, forall_eq_or_imp, implies_true, forall_const, forall_eq, ↓reduceIte, reduceIte, Nat.reduceEqDiff, Nat.reduceAdd, reduceCtorEq, Nat.reduceSub, Int.reduceToNat, Int.reduceLE, Int.reduceLT, Int.reduceNeg, Nat.reduceBEq, Nat.reduceMul, Nat.reduceLeDiff, Nat.reduceMod, UInt8.reduceOfNat, Nat.reduceLT, Int.reduceEq, Int.reduceAdd, Int.reduceSub, Int.reduceMul]
  exact ⟨fun h => by omega, hk⟩
theorem s162 : Sound G Tryd.prog 162 C167 := by
  refine sd162 (T := tabT [(167, C167)]) (tab_cons s167 tab_nil) (pureC_lawful _) (pure_hX fun args p x K h hp hk => ?_)
  split at h <;> simp only [Option.some.injEq, Prod.mk.injEq, reduceCtorEq] at h
  obtain ⟨rfl, rfl⟩ := h
  refine ⟨Nat.le_of_ble_eq_true rfl, ?_⟩
  simp -dsimp -implicitDefEqProofs only [S162, R162, C167, ↓Ev.xStp_eq, ↓Ev.P, Ev.Q, eq_self, forall_eq_or_imp, implies_true, forall_const, forall_eq, ↓reduceIte, reduceIte, Nat.reduceEqDiff, Nat.reduceAdd, reduceCtorEq, Nat.reduceSub, Int.reduceToNat, Int.reduceLE, Int.reduceLT, Int.reduceNeg, Nat.reduceBEq, Nat.reduceMul, Nat.reduceLeDiff, Nat.reduceMod, UInt8.reduceOfNat, Nat.reduceLT, Int.reduceEq, Int.reduceAdd, Int.reduceSub, Int.reduceMul]
  exact hk
def C134 : Contract := pureC fun args => match args with
  | [.d (.v (.string s)), .d (.v (.string p))] => some (True, .tup [.d (.v (.string (if hasPre s p then s.extract p.size s.size else s))), .d (.v (.bool (hasPre s p)))])
  | _ => none
theorem s134 : Sound G Tryd.prog 134 C134 := by
  refine sd134 (T := tabT [(167, C167)]) (tab_cons s167 tab_nil) (pureC_lawful _) (pure_hX fun args p x K h hp hk => ?_)
  split at h <;> simp only [Option.some.injEq, Prod.mk.injEq, reduceCtorEq] at h
  obtain ⟨rfl, rfl⟩ := h
  rename_i s q
  refine ⟨Nat.le_of_ble_eq_true rfl, ?_⟩
  simp -dsimp -implicitDefEqProofs only [S134, R134, C167, ↓Ev.xStp_eq, ↓Ev.P, Ev.Q, eq_self, forall_eq_or_imp, implies_true, forall_const, forall_eq, ↓reduceIte, reduceIte, Nat.reduceEqDiff, Nat.reduceAdd, reduceCtorEq, Nat.reduceSub, Int.reduceToNat, Int.reduceLE, Int.reduceLT, Int.reduceNeg, Nat.reduceBEq, Nat.reduceMul, Nat.reduceLeDiff, Nat.reduceMod, UInt8.reduceOfNat, Nat.reduceLT, Int.reduceEq, Int.reduceAdd, Int.reduceSub, Int.reduceMul]
  refine ⟨fun h => ?_, fun h => ?_⟩
  · have h' : hasPre s q = false := by simpa using h
    rw [h'] at hk; exact hk
  · have h' : hasPre s q = true := by simpa using h
    rw [h'] at hk
    have hs : ∀ s p, hasPre s p = true → p.size ≤ s.size := fun s p h => by simp only [hasPre, Bool.and_eq_true, decide_eq_true_eq] at h; omega
    have := hs _ _ h'
    exact ⟨by omega, hk⟩
theorem s91 : Sound G Tryd.prog 91 C134 := by
  refine sd91 (T := tabT [(134, C134)]) (tab_cons s134 tab_nil) (pureC_lawful _) (pure_hX fun args p x K h hp hk => ?_)
  split at h <;> simp only [Option.some.injEq, Prod.mk.injEq, reduceCtorEq] at h
  obtain ⟨rfl, rfl⟩ := h
  refine ⟨Nat.le_of_ble_eq_true rfl, ?_⟩
  simp -dsimp -implicitDefEqProofs only [S91, R91, C134, ↓Ev.xStp_eq, ↓Ev.P, Ev.Q, eq_self, forall_eq_or_imp, implies_true, forall_const, forall_eq, ↓reduceIte, reduceIte, Nat.reduceEqDiff, Nat.reduceAdd, reduceCtorEq, Nat.reduceSub, Int.reduceToNat, Int.reduceLE, Int.reduceLT, Int.reduceNeg, Nat.reduceBEq, Nat.reduceMul, Nat.reduceLeDiff, Nat.reduceMod, UInt8.reduceOfNat, Nat.reduceLT, Int.reduceEq, Int.reduceAdd, Int.reduceSub, Int.reduceMul]
  exact hk
end Go.Proofs.YtpbkdcfjlbdgfaaDoor
set_option linter.unusedVariables false
set_option linter.unusedSimpArgs false
namespace Go.Proofs.YtpbkdcfjlbdgfaaDoor
open Go Go.Ev
set_option maxRecDepth 100000
variable {G : World → Prop}
theorem s135 : Sound G Tryd.prog 135 C168 := by
  refine sd135 (T := tabT [(168, C168)]) (tab_cons s168 tab_nil) (pureC_lawful _) (pure_hX fun args p x K h hp hk => ?_)
  split at h <;> simp only [Option.some.injEq, Prod.mk.injEq, reduceCtorEq] at h
  obtain ⟨rfl, rfl⟩ := h
  refine ⟨Nat.le_of_ble_eq_true rfl, ?_⟩
  simp -dsimp -implicitDefEqProofs only [S135, R135, C168, ↓Ev.xStp_eq, ↓Ev.P, Ev.Q, eq_self, forall_eq_or_imp, implies_true, forall_const, forall_eq, ↓reduceIte, reduceIte, Nat.reduceEqDiff, Nat.reduceAdd, reduceCtorEq, Nat.reduceSub, Int.reduceToNat, Int.reduceLE, Int.reduceLT, Int.reduceNeg, Nat.reduceBEq, Nat.reduceMul, Nat.reduceLeDiff, Nat.reduceMod, UInt8.reduceOfNat, Nat.reduceLT, Int.reduceEq, Int.reduceAdd, Int.reduceSub, Int.reduceMul]
  exact hk
/-- A digit's place, or -1. -/
def hx (c : UInt8) : Int := Lib.indexByte [48, 49, 50, 51, 52, 53, 54, 55, 56, 57, 97, 98, 99, 100, 101, 102] c
def octV (a b : UInt8) : Int := IntKind.u8.wrap (IntKind.i64.wrap ((BitVec.ofInt IntKind.i64.bits (IntKind.i64.wrap (hx a * 2 ^ min 4 IntKind.i64.bits)) ||| BitVec.ofInt IntKind.i64.bits (hx b)).toNat))
def okO (a b : UInt8) : Bool := decide (0 ≤ hx a) && decide (0 ≤ hx b) && !plainB (octV a b)
def oct2 : List UInt8 → Int × Bool
  | a :: b :: _ => (octV a b, okO a b)
  | _ => (0, false)
def C92 : Contract := pureC fun args => match args with
  | [.d (.v (.string s))] => some (True, .tup [.d (.v (.int .u8 (oct2 s.data.toList).1)), .d (.v (.bool (oct2 s.data.toList).2))])
  | _ => none
theorem s92 : Sound G Tryd.prog 92 C92 := by
  refine sd92 (T := tabT [(89, C89), (135, C168)]) (tab_cons s89 (tab_cons s135 tab_nil)) (pureC_lawful _) (pure_hX fun args p x K h hp hk => ?_)
  split at h <;> simp only [Option.some.injEq, Prod.mk.injEq, reduceCtorEq] at h
  obtain ⟨rfl, rfl⟩ := h
  refine ⟨Nat.le_of_ble_eq_true rfl, ?_⟩
  rename_i s
  obtain ⟨l, rfl⟩ := ex_str s
  simp only [sem_str] at hk
  match l, hk with
  | [], hk =>
    simp -dsimp -implicitDefEqProofs only [S92, R92, C168, C89, ↓Ev.xStp_eq, ↓Ev.P, Ev.Q, eq_self, forall_eq_or_imp, implies_true, forall_const, forall_eq, ↓reduceIte, reduceIte, Nat.reduceEqDiff, Nat.reduceAdd, reduceCtorEq, Nat.reduceSub, Int.reduceToNat, Int.reduceLE, Int.reduceLT, Int.reduceNeg, Nat.reduceBEq, Nat.reduceMul, Nat.reduceLeDiff, Nat.reduceMod, UInt8.reduceOfNat, Nat.reduceLT, Int.reduceEq, Int.reduceAdd, Int.reduceSub, Int.reduceMul]
    repeat' (first | refine And.intro ?_ ?_ | intro _)
    all_goals first | omega | exact hk
  | [a], hk =>
    simp -dsimp -implicitDefEqProofs only [S92, R92, C168, C89, ↓Ev.xStp_eq, ↓Ev.P, Ev.Q, eq_self, forall_eq_or_imp, implies_true, forall_const, forall_eq, ↓reduceIte, reduceIte, Nat.reduceEqDiff, Nat.reduceAdd, reduceCtorEq, Nat.reduceSub, Int.reduceToNat, Int.reduceLE, Int.reduceLT, Int.reduceNeg, Nat.reduceBEq, Nat.reduceMul, Nat.reduceLeDiff, Nat.reduceMod, UInt8.reduceOfNat, Nat.reduceLT, Int.reduceEq, Int.reduceAdd, Int.reduceSub, Int.reduceMul]
    repeat' (first | refine And.intro ?_ ?_ | intro _)
    all_goals first | omega | exact hk
  | a :: b :: r, hk =>
    simp -dsimp -implicitDefEqProofs only [S92, R92, C168, C89, ↓Ev.xStp_eq, ↓Ev.P, Ev.Q, eq_self, forall_eq_or_imp, implies_true, forall_const, forall_eq, ↓reduceIte, reduceIte, Nat.reduceEqDiff, Nat.reduceAdd, reduceCtorEq, Nat.reduceSub, Int.reduceToNat, Int.reduceLE, Int.reduceLT, Int.reduceNeg, Nat.reduceBEq, Nat.reduceMul, Nat.reduceLeDiff, Nat.reduceMod, UInt8.reduceOfNat, Nat.reduceLT, Int.reduceEq, Int.reduceAdd, Int.reduceSub, Int.reduceMul]
    repeat' (first | refine And.intro ?_ ?_ | intro _)
    all_goals first | omega | exact hk
/-- The bytes of a quoted text from behind its first mark, and what is behind it. -/
def unq : List UInt8 → List UInt8 → Option (List UInt8 × List UInt8)
  | [], _ => none
  | c :: r, out => if c = 34 then some (out, r) else if plainB c.toNat = true then unq r (out ++ [c]) else
    if c = 92 ∧ (oct2 r).2 = true then unq (r.drop 2) (out ++ [UInt8.ofNat (oct2 r).1.toNat]) else none
  termination_by l => l.length
  decreasing_by all_goals (simp; try omega)
def unqS : Option (List UInt8 × List UInt8) → SV
  | some (o, r) => .tup [.d (.v (str o)), .d (.v (str r)), .d (.v (.int .i64 0))]
  | none => .tup [.d (.v (str [])), .d (.v (str [])), .d (.v (.int .i64 3))]
def unqL : List UInt8 → Option (List UInt8 × List UInt8)
  | 34 :: r => unq r []
  | _ => none
def C40 : Contract := pureC fun args => match args with
  | [.d (.v (.string s))] => some (s.size ≤ 1099511627776, unqS (unqL s.data.toList))
  | _ => none
theorem pre34 (l : List UInt8) : hasPre ⟨l.toArray⟩ ⟨[34].toArray⟩ = (match l with | c :: _ => decide (c = 34) | [] => false) := by
  unfold hasPre
  simp only [sem_str]
  cases l with
  | nil => rfl
  | cons c r => simp; omega
theorem octV_byte (a b : UInt8) : ((UInt8.ofNat (octV a b).toNat).toNat : Int) = octV a b := by
  have : 0 ≤ octV a b ∧ octV a b < 256 := by
    unfold octV
    generalize IntKind.i64.wrap _ = z
    simp only [IntKind.wrap, IntKind.bits, IntKind.signed]
    simp
    omega
  simp
  omega
theorem u8_eq (d : UInt8) (n : Nat) (hn : n < 256) : ((d.toNat : Int) = n) ↔ d = UInt8.ofNat n := by
  constructor
  · intro h
    apply UInt8.toNat_inj.1
    rw [UInt8.toNat_ofNat']
    omega
  · rintro rfl
    rw [UInt8.toNat_ofNat']
    omega
theorem unq_end (m out : List UInt8) : unq (34 :: m) out = some (out, m) := by rw [unq]; simp
theorem unq_plain {d : UInt8} (m out : List UInt8) (h : d ≠ 34) (hp : plainB d.toNat = true) : unq (d :: m) out = unq m (out ++ [d]) := by rw [unq]; simp [h, hp]
theorem unq_oct (m out : List UInt8) (ho : (oct2 m).2 = true) : 2 ≤ m.length ∧ unq (92 :: m) out = unq (m.drop 2) (out ++ [UInt8.ofNat (oct2 m).1.toNat]) ∧ (((UInt8.ofNat (oct2 m).1.toNat).toNat : Int) = (oct2 m).1) := by
  match m, ho with
  | a :: b :: r, ho =>
    refine ⟨by simp, ?_, octV_byte a b⟩
    have hp : plainB (92 : UInt8).toNat = false := by decide
    rw [unq]
    simp only [hp]
    simp [ho]
  | [], ho => cases ho
  | [_], ho => cases ho
theorem unq_bad {d : UInt8} (m out : List UInt8) (h : d ≠ 34) (hp : plainB d.toNat = false) (hb : d = 92 → (oct2 m).2 = false) : unq (d :: m) out = none := by
  rw [unq]
  simp only [h, if_false, hp, Bool.false_eq_true]
  rw [if_neg]
  rintro ⟨h1, h2⟩
  rw [hb h1] at h2; cases h2
end Go.Proofs.YtpbkdcfjlbdgfaaDoor
set_option linter.unusedVariables false
set_option linter.unusedSimpArgs false
namespace Go.Proofs.YtpbkdcfjlbdgfaaDoor
open Go Go.Ev
set_option maxRecDepth 100000
variable {G : World → Prop}
theorem s40 : Sound G Tryd.prog 40 C40 := by
  refine sd40 (T := tabT [(91, C134), (89, C89), (92, C92)]) (tab_cons s91 (tab_cons s89 (tab_cons s92 tab_nil))) (pureC_lawful _) (pure_hX fun args p x K h hp hk => ?_)
  split at h <;> simp only [Option.some.injEq, Prod.mk.injEq, reduceCtorEq] at h
  obtain ⟨rfl, rfl⟩ := h
  refine ⟨Nat.le_of_ble_eq_true rfl, ?_⟩
  rename_i s
  obtain ⟨l, rfl⟩ := ex_str s
  simp only [sem_str] at hk hp
  have hpre := pre34 l
  have bad : unqL l = none → K (.ret (.tup [.d (.v (.string ⟨#[]⟩)), .d (.v (.string ⟨#[]⟩)), .d (.v (.int .i64 3))])) ⟨0, []⟩ := fun e => by rw [e] at hk; exact hk
  match l, hpre with
  | [], hpre =>
    simp -dsimp -implicitDefEqProofs only [S40, R40, C134, C89, C92, hpre, ↓Ev.xStp_eq, ↓Ev.P, Ev.Q, eq_self, forall_eq_or_imp, implies_true, forall_const, forall_eq, ↓reduceIte, reduceIte, Nat.reduceEqDiff, Nat.reduceAdd, reduceCtorEq, Nat.reduceSub, Int.reduceToNat, Int.reduceLE, Int.reduceLT, Int.reduceNeg, Nat.reduceBEq, Nat.reduceMul, Nat.reduceLeDiff, Nat.reduceMod, UInt8.reduceOfNat, Nat.reduceLT, Int.reduceEq, Int.reduceAdd, Int.reduceSub, Int.reduceMul]
    exact bad rfl
  | c :: r, hpre =>
    by_cases hc : c = 34
    case neg =>
      have hpre : hasPre ⟨(c :: r).toArray⟩ ⟨[34].toArray⟩ = false := by rw [hpre]; simp [hc]
      simp -dsimp -implicitDefEqProofs only [S40, R40, C134, C89, C92, hpre, ↓Ev.xStp_eq, ↓Ev.P, Ev.Q, eq_self, forall_eq_or_imp, implies_true, forall_const, forall_eq, ↓reduceIte, reduceIte, Nat.reduceEqDiff, Nat.reduceAdd, reduceCtorEq, Nat.reduceSub, Int.reduceToNat, Int.reduceLE, Int.reduceLT, Int.reduceNeg, Nat.reduceBEq, Nat.reduceMul, Nat.reduceLeDiff, Nat.reduceMod, UInt8.reduceOfNat, Nat.reduceLT, Int.reduceEq, Int.reduceAdd, Int.reduceSub, Int.reduceMul]
      refine bad ?_
      unfold unqL
      split
      · simp_all
      · rfl
    subst hc
    have hpre : hasPre ⟨((34 : UInt8) :: r).toArray⟩ ⟨[34].toArray⟩ = true := by rw [hpre]; simp
    simp -dsimp -implicitDefEqProofs only [S40, R40, C134, C89, C92, hpre, ↓Ev.xStp_eq, ↓Ev.P, Ev.Q, eq_self, forall_eq_or_imp, implies_true, forall_const, forall_eq, ↓reduceIte, reduceIte, Nat.reduceEqDiff, Nat.reduceAdd, reduceCtorEq, Nat.reduceSub, Int.reduceToNat, Int.reduceLE, Int.reduceLT, Int.reduceNeg, Nat.reduceBEq, Nat.reduceMul, Nat.reduceLeDiff, Nat.reduceMod, UInt8.reduceOfNat, Nat.reduceLT, Int.reduceEq, Int.reduceAdd, Int.reduceSub, Int.reduceMul]
    have good : ∀ o m, unq r [] = some (o, m) → K (.ret (.tup [.d (.v (.string ⟨o.toArray⟩)), .d (.v (.string ⟨m.toArray⟩)), .d (.v (.int .i64 0))])) ⟨0, []⟩ := fun o m e => by
      rw [unqL, e] at hk; exact hk
    have hr : r.length ≤ 1099511627776 := by simp only [List.length_cons] at hp; omega
    refine xLoop_intro (fun n st => ∃ (l out : List UInt8), n = l.length ∧ l.length + out.length ≤ r.length ∧ unq l out = unq r [] ∧
      st = ⟨[(5, .d (.v (.string ⟨l.toArray⟩))), (7, .own 0)], 1, [(0, .row 5 1 (byteRows out))]⟩) r.length [0] ?_ ?_ ?_
    · simp -dsimp -implicitDefEqProofs only [↓Ev.xStp_eq, ↓Ev.P, Ev.Q, eq_self, forall_eq_or_imp, implies_true, forall_const, forall_eq, ↓reduceIte, reduceIte, Nat.reduceEqDiff, Nat.reduceAdd, reduceCtorEq, Nat.reduceSub, Int.reduceToNat, Int.reduceLE, Int.reduceLT, Int.reduceNeg, Nat.reduceBEq, Nat.reduceMul, Nat.reduceLeDiff, Nat.reduceMod, UInt8.reduceOfNat, Nat.reduceLT, Int.reduceEq, Int.reduceAdd, Int.reduceSub, Int.reduceMul]
    · simp -dsimp -implicitDefEqProofs only [↓Ev.xStp_eq, ↓Ev.P, Ev.Q, eq_self, forall_eq_or_imp, implies_true, forall_const, forall_eq, ↓reduceIte, reduceIte, Nat.reduceEqDiff, Nat.reduceAdd, reduceCtorEq, Nat.reduceSub, Int.reduceToNat, Int.reduceLE, Int.reduceLT, Int.reduceNeg, Nat.reduceBEq, Nat.reduceMul, Nat.reduceLeDiff, Nat.reduceMod, UInt8.reduceOfNat, Nat.reduceLT, Int.reduceEq, Int.reduceAdd, Int.reduceSub, Int.reduceMul]
      exact ⟨r, [], rfl, by simp, rfl, rfl⟩
    · rintro n st ⟨l, out, hn, hlen, hu, rfl⟩
      cases l with
      | nil =>
        have hb := bad (by rw [unqL, ← hu, unq])
        simp -dsimp -implicitDefEqProofs only [↓Ev.xStp_eq, ↓Ev.P, Ev.Q, eq_self, forall_eq_or_imp, implies_true, forall_const, forall_eq, ↓reduceIte, reduceIte, Nat.reduceEqDiff, Nat.reduceAdd, reduceCtorEq, Nat.reduceSub, Int.reduceToNat, Int.reduceLE, Int.reduceLT, Int.reduceNeg, Nat.reduceBEq, Nat.reduceMul, Nat.reduceLeDiff, Nat.reduceMod, UInt8.reduceOfNat, Nat.reduceLT, Int.reduceEq, Int.reduceAdd, Int.reduceSub, Int.reduceMul]
        exact hb
      | cons d m =>
        have h34' : ((d.toNat : Int) = 34) ↔ d = 34 := u8_eq d 34 (by omega)
        have h92' : ((d.toNat : Int) = 92) ↔ d = 92 := u8_eq d 92 (by omega)
        simp only [List.length_cons] at hlen hn
        simp -dsimp -implicitDefEqProofs only [↓Ev.xStp_eq, ↓Ev.P, Ev.Q, eq_self, forall_eq_or_imp, implies_true, forall_const, forall_eq, ↓reduceIte, reduceIte, Nat.reduceEqDiff, Nat.reduceAdd, reduceCtorEq, Nat.reduceSub, Int.reduceToNat, Int.reduceLE, Int.reduceLT, Int.reduceNeg, Nat.reduceBEq, Nat.reduceMul, Nat.reduceLeDiff, Nat.reduceMod, UInt8.reduceOfNat, Nat.reduceLT, Int.reduceEq, Int.reduceAdd, Int.reduceSub, Int.reduceMul]
        repeat' (first | refine And.intro ?_ ?_ | intro _)
        all_goals try omega
        · rename_i h
          exact good _ _ (by rw [← hu, h34'.1 h, unq_end])
        · rename_i h hp
          refine xAgain_intro m.length [2] (by omega) (by simp -dsimp -implicitDefEqProofs only [↓Ev.xStp_eq, ↓Ev.P, Ev.Q, eq_self, forall_eq_or_imp, implies_true, forall_const, forall_eq, ↓reduceIte, reduceIte, Nat.reduceEqDiff, Nat.reduceAdd, reduceCtorEq, Nat.reduceSub, Int.reduceToNat, Int.reduceLE, Int.reduceLT, Int.reduceNeg, Nat.reduceBEq, Nat.reduceMul, Nat.reduceLeDiff, Nat.reduceMod, UInt8.reduceOfNat, Nat.reduceLT, Int.reduceEq, Int.reduceAdd, Int.reduceSub, Int.reduceMul]) ⟨m, out ++ [d], rfl, by simp; omega, by rw [← hu, unq_plain _ _ (fun e => h (h34'.2 e)) hp], ?_⟩
          simp -dsimp -implicitDefEqProofs only [↓Ev.xStp_eq, ↓Ev.P, Ev.Q, eq_self, forall_eq_or_imp, implies_true, forall_const, forall_eq, ↓reduceIte, reduceIte, Nat.reduceEqDiff, Nat.reduceAdd, reduceCtorEq, Nat.reduceSub, Int.reduceToNat, Int.reduceLE, Int.reduceLT, Int.reduceNeg, Nat.reduceBEq, Nat.reduceMul, Nat.reduceLeDiff, Nat.reduceMod, UInt8.reduceOfNat, Nat.reduceLT, Int.reduceEq, Int.reduceAdd, Int.reduceSub, Int.reduceMul]
          simp [byteRows]
        · rename_i h hp hb
          refine bad ?_
          rw [unqL, ← hu]
          refine unq_bad _ _ (fun e => h (h34'.2 e)) hp fun e => ?_
          rcases hb with hb | hb
          · exact absurd (h92'.2 e) hb
          · exact hb
        all_goals
          rename_i h hp hb
          obtain ⟨h1, h2⟩ := hb
          have := h92'.1 h1
          subst this
          obtain ⟨k1, k2, k3⟩ := unq_oct m out h2
        · omega
        · refine xAgain_intro (m.drop 2).length [2] (by simp; omega) (by simp -dsimp -implicitDefEqProofs only [↓Ev.xStp_eq, ↓Ev.P, Ev.Q, eq_self, forall_eq_or_imp, implies_true, forall_const, forall_eq, ↓reduceIte, reduceIte, Nat.reduceEqDiff, Nat.reduceAdd, reduceCtorEq, Nat.reduceSub, Int.reduceToNat, Int.reduceLE, Int.reduceLT, Int.reduceNeg, Nat.reduceBEq, Nat.reduceMul, Nat.reduceLeDiff, Nat.reduceMod, UInt8.reduceOfNat, Nat.reduceLT, Int.reduceEq, Int.reduceAdd, Int.reduceSub, Int.reduceMul]) ⟨m.drop 2, _, rfl, ?_, by rw [← hu, k2], ?_⟩
          · simp; omega
          · simp -dsimp -implicitDefEqProofs only [↓Ev.xStp_eq, ↓Ev.P, Ev.Q, eq_self, forall_eq_or_imp, implies_true, forall_const, forall_eq, ↓reduceIte, reduceIte, Nat.reduceEqDiff, Nat.reduceAdd, reduceCtorEq, Nat.reduceSub, Int.reduceToNat, Int.reduceLE, Int.reduceLT, Int.reduceNeg, Nat.reduceBEq, Nat.reduceMul, Nat.reduceLeDiff, Nat.reduceMod, UInt8.reduceOfNat, Nat.reduceLT, Int.reduceEq, Int.reduceAdd, Int.reduceSub, Int.reduceMul]
            simp only [byteRows, List.map_append, List.map_cons, List.map_nil, k3]
end Go.Proofs.YtpbkdcfjlbdgfaaDoor
set_option linter.unusedVariables false
set_option linter.unusedSimpArgs false
namespace Go.Proofs.YtpbkdcfjlbdgfaaDoor
open Go Go.Ev
set_option maxRecDepth 100000
variable {G : World → Prop}
theorem idx_hit : ∀ (l : List UInt8) (i : Nat) (d : UInt8), i < l.length → (∀ j, j < i → l.getD j 0 ≠ d) → l.getD i 0 = d → Lib.indexByte l d = i
  | [], i, d, h, _, _ => by simp at h
  | b :: l, 0, d, h, h1, h2 => by simp at h2; simp [Lib.indexByte, h2]
  | b :: l, i + 1, d, h, h1, h2 => by
    have h3 := h1 0 (by omega)
    simp only [List.getD_cons_zero] at h3
    have h4 := idx_hit l i d (by simpa using h) (fun j hj => by have := h1 (j + 1) (by omega); simpa using this) (by simpa using h2)
    simp only [Lib.indexByte, h4]
    simp [h3]
theorem idx_miss : ∀ (l : List UInt8) (d : UInt8), (∀ j, j < l.length → l.getD j 0 ≠ d) → Lib.indexByte l d = -1
  | [], d, _ => rfl
  | b :: l, d, h => by
    have h3 := h 0 (by simp)
    simp only [List.getD_cons_zero] at h3
    have h4 := idx_miss l d fun j hj => by have := h (j + 1) (by simp; omega); simpa using this
    simp only [Lib.indexByte, h4]
    simp [h3]
theorem u8_inj (a b : UInt8) : ((a.toNat : Int) = b.toNat) ↔ a = b := by
  constructor
  · intro h; exact UInt8.toNat_inj.1 (by omega)
  · rintro rfl; rfl
abbrev hexs : List UInt8 := [48, 49, 50, 51, 52, 53, 54, 55, 56, 57, 97, 98, 99, 100, 101, 102]
def C105 : Contract := pureC fun args => match args with
  | [.d (.v (.int .u8 c))] => some (∃ d : UInt8, c = d.toNat, .d (.v (.int .i64 (hx c.toNat.toUInt8))))
  | _ => none
theorem s105 : Sound G Tryd.prog 105 C105 := by
  refine sd105 (T := tabT []) tab_nil (pureC_lawful _) (pure_hX fun args p x K h hp hk => ?_)
  split at h <;> simp only [Option.some.injEq, Prod.mk.injEq, reduceCtorEq] at h
  rename_i c
  obtain ⟨rfl, rfl⟩ := h
  obtain ⟨d, rfl⟩ := hp
  simp only [Int.toNat_natCast, u8rt] at hk
  refine ⟨Nat.le_of_ble_eq_true rfl, ?_⟩
  simp -dsimp -implicitDefEqProofs only [S105, R105, ↓Ev.xStp_eq, ↓Ev.P, Ev.Q, eq_self, forall_eq_or_imp, implies_true, forall_const, forall_eq, ↓reduceIte, reduceIte, Nat.reduceEqDiff, Nat.reduceAdd, reduceCtorEq, Nat.reduceSub, Int.reduceToNat, Int.reduceLE, Int.reduceLT, Int.reduceNeg, Nat.reduceBEq, Nat.reduceMul, Nat.reduceLeDiff, Nat.reduceMod, UInt8.reduceOfNat, Nat.reduceLT, Int.reduceEq, Int.reduceAdd, Int.reduceSub, Int.reduceMul]
  refine xLoop_intro (fun n st => ∃ i : Nat, i ≤ 16 ∧ n = 16 - i ∧ st = ⟨[(0, .d (.v (.int .u8 d.toNat))), (3, .d (.v (.int .i64 i)))], 0, []⟩ ∧ ∀ j < i, hexs.getD j 0 ≠ d) 16 [] ?_ ?_ ?_
  · simp -dsimp -implicitDefEqProofs only [↓Ev.xStp_eq, ↓Ev.P, Ev.Q, eq_self, forall_eq_or_imp, implies_true, forall_const, forall_eq, ↓reduceIte, reduceIte, Nat.reduceEqDiff, Nat.reduceAdd, reduceCtorEq, Nat.reduceSub, Int.reduceToNat, Int.reduceLE, Int.reduceLT, Int.reduceNeg, Nat.reduceBEq, Nat.reduceMul, Nat.reduceLeDiff, Nat.reduceMod, UInt8.reduceOfNat, Nat.reduceLT, Int.reduceEq, Int.reduceAdd, Int.reduceSub, Int.reduceMul]
  · simp -dsimp -implicitDefEqProofs only [↓Ev.xStp_eq, ↓Ev.P, Ev.Q, eq_self, forall_eq_or_imp, implies_true, forall_const, forall_eq, ↓reduceIte, reduceIte, Nat.reduceEqDiff, Nat.reduceAdd, reduceCtorEq, Nat.reduceSub, Int.reduceToNat, Int.reduceLE, Int.reduceLT, Int.reduceNeg, Nat.reduceBEq, Nat.reduceMul, Nat.reduceLeDiff, Nat.reduceMod, UInt8.reduceOfNat, Nat.reduceLT, Int.reduceEq, Int.reduceAdd, Int.reduceSub, Int.reduceMul]
    exact ⟨0, by omega, rfl, rfl, fun j h => by omega⟩
  · rintro n st ⟨i, hi, rfl, rfl, hj⟩
    simp -dsimp -implicitDefEqProofs only [↓Ev.xStp_eq, ↓Ev.P, Ev.Q, eq_self, forall_eq_or_imp, implies_true, forall_const, forall_eq, ↓reduceIte, reduceIte, Nat.reduceEqDiff, Nat.reduceAdd, reduceCtorEq, Nat.reduceSub, Int.reduceToNat, Int.reduceLE, Int.reduceLT, Int.reduceNeg, Nat.reduceBEq, Nat.reduceMul, Nat.reduceLeDiff, Nat.reduceMod, UInt8.reduceOfNat, Nat.reduceLT, Int.reduceEq, Int.reduceAdd, Int.reduceSub, Int.reduceMul]
    repeat' (first | refine And.intro ?_ ?_ | intro _)
    all_goals try omega
    · rename_i h1 h2
      have := idx_hit hexs i d (by simp; omega) hj ((u8_inj _ _).1 h2)
      rw [show hx d = i from this] at hk
      exact hk
    · rename_i h1 h2
      refine xAgain_intro (16 - (i + 1)) [] (by omega) (by simp -dsimp -implicitDefEqProofs only [↓Ev.xStp_eq, ↓Ev.P, Ev.Q, eq_self, forall_eq_or_imp, implies_true, forall_const, forall_eq, ↓reduceIte, reduceIte, Nat.reduceEqDiff, Nat.reduceAdd, reduceCtorEq, Nat.reduceSub, Int.reduceToNat, Int.reduceLE, Int.reduceLT, Int.reduceNeg, Nat.reduceBEq, Nat.reduceMul, Nat.reduceLeDiff, Nat.reduceMod, UInt8.reduceOfNat, Nat.reduceLT, Int.reduceEq, Int.reduceAdd, Int.reduceSub, Int.reduceMul]) ⟨i + 1, by omega, rfl, ?_, ?_⟩
      · simp -dsimp -implicitDefEqProofs only [↓Ev.xStp_eq, ↓Ev.P, Ev.Q, eq_self, forall_eq_or_imp, implies_true, forall_const, forall_eq, ↓reduceIte, reduceIte, Nat.reduceEqDiff, Nat.reduceAdd, reduceCtorEq, Nat.reduceSub, Int.reduceToNat, Int.reduceLE, Int.reduceLT, Int.reduceNeg, Nat.reduceBEq, Nat.reduceMul, Nat.reduceLeDiff, Nat.reduceMod, UInt8.reduceOfNat, Nat.reduceLT, Int.reduceEq, Int.reduceAdd, Int.reduceSub, Int.reduceMul]
        rfl
      · intro j hj2
        by_cases e : j = i
        · subst e; exact fun e => h2 ((u8_inj _ _).2 e)
        · exact hj j (by omega)
    · rename_i h1
      have := idx_miss hexs d fun j hj2 => hj j (by simp at hj2; omega)
      rw [show hx d = -1 from this] at hk
      exact hk
end Go.Proofs.YtpbkdcfjlbdgfaaDoor
set_option linter.unusedVariables false
set_option linter.unusedSimpArgs false
namespace Go.Proofs.YtpbkdcfjlbdgfaaDoor
open Go Go.Ev
set_option maxRecDepth 100000
variable {G : World → Prop}
theorem hx_b (c : UInt8) : -1 ≤ hx c ∧ hx c < 16 := by
  refine ⟨Lib.indexByte_ge _ _, ?_⟩
  unfold hx
  have : ∀ l : List UInt8, Lib.indexByte l c < l.length := by
    intro l
    induction l with
    | nil => simp [Lib.indexByte]
    | cons b l ih =>
      simp only [Lib.indexByte, List.length_cons]
      have := Lib.indexByte_ge l c
      split
      · omega
      · split <;> omega
  exact this _
theorem oct_tab : ∀ a b : Fin 16, IntKind.u8.wrap (IntKind.i64.wrap ((BitVec.ofInt IntKind.i64.bits (IntKind.i64.wrap ((a.val : Int) * 2 ^ min 4 IntKind.i64.bits)) ||| BitVec.ofInt IntKind.i64.bits (b.val : Int)).toNat)) = IntKind.u8.wrap (16 * (a.val : Int) + (b.val : Int)) := by decide +kernel
theorem octV_eq (a b : UInt8) (ha : 0 ≤ hx a) (hb : 0 ≤ hx b) : octV a b = IntKind.u8.wrap (16 * hx a + hx b) := by
  have h1 := hx_b a
  have h2 := hx_b b
  have := oct_tab ⟨(hx a).toNat, by omega⟩ ⟨(hx b).toNat, by omega⟩
  have e1 : (((hx a).toNat : Nat) : Int) = hx a := by omega
  have e2 : (((hx b).toNat : Nat) : Int) = hx b := by omega
  simp only [e1, e2] at this
  exact this
theorem drop_cons (q : List UInt8) (i : Nat) (h : i < q.length) : q.drop i = q.getD i 0 :: q.drop (i + 1) := by
  rw [List.drop_eq_getElem_cons h]
  simp [List.getD_eq_getElem?_getD, List.getElem?_eq_getElem h]
/-- The value of two digits, as the reference reckons it. -/
def octR (a b : UInt8) : Int := IntKind.u8.wrap (16 * hx a + hx b)
theorem octR_eq (a b : UInt8) (ha : 0 ≤ hx a) (hb : 0 ≤ hx b) : octR a b = octV a b := (octV_eq a b ha hb).symm
def okR (q : List UInt8) (i : Nat) : Prop := ((((((q.getD i 0).toNat : Nat) : Int) = 92 ∧ (i : Int) + 2 < (q.length : Int)) ∧ 0 ≤ hx (q.getD (i + 1) 0)) ∧ 0 ≤ hx (q.getD (i + 2) 0)) ∧ plainB (octR (q.getD (i + 1) 0) (q.getD (i + 2) 0)) = false
section
variable {q out : List UInt8} {i : Nat} (hi : (i : Int) < (q.length : Int))
include hi
theorem at_end (hu : unq (q.drop i) out = unqL q) (h : ((q.getD i 0).toNat : Int) = 34) : unqL q = some (out, q.drop (i + 1)) := by
  rw [← hu, drop_cons q i (by omega), (u8_eq _ 34 (by omega)).1 h]
  exact unq_end _ _
theorem at_plain (hu : unq (q.drop i) out = unqL q) (h : ¬ ((q.getD i 0).toNat : Int) = 34) (hp : plainB (q.getD i 0).toNat = true) : unq (q.drop (i + 1)) (out ++ [q.getD i 0]) = unqL q := by
  rw [← hu, drop_cons q i (by omega), unq_plain _ _ (fun e => h ((u8_eq _ 34 (by omega)).2 e)) hp]
theorem oct2_at : oct2 (q.drop (i + 1)) = if (i : Int) + 2 < (q.length : Int) then (octV (q.getD (i + 1) 0) (q.getD (i + 2) 0), okO (q.getD (i + 1) 0) (q.getD (i + 2) 0)) else (0, false) := by
  by_cases h : (i : Int) + 2 < (q.length : Int)
  · rw [if_pos h, drop_cons q (i + 1) (by omega), drop_cons q (i + 1 + 1) (by omega)]
    rfl
  · rw [if_neg h]
    have : (q.drop (i + 1)).length ≤ 1 := by simp; omega
    match q.drop (i + 1), this with
    | [], _ => rfl
    | [_], _ => rfl
    | _ :: _ :: _, h => simp at h
theorem at_oct (hu : unq (q.drop i) out = unqL q) (h : ¬ ((q.getD i 0).toNat : Int) = 34) (hp : plainB (q.getD i 0).toNat = false) (hk : okR q i) :
    unq (q.drop (i + 3)) (out ++ [UInt8.ofNat (octR (q.getD (i + 1) 0) (q.getD (i + 2) 0)).toNat]) = unqL q ∧ ((UInt8.ofNat (octR (q.getD (i + 1) 0) (q.getD (i + 2) 0)).toNat).toNat : Int) = octR (q.getD (i + 1) 0) (q.getD (i + 2) 0) := by
  obtain ⟨⟨⟨⟨h1, h2⟩, h3⟩, h4⟩, h5⟩ := hk
  have ho := oct2_at hi
  rw [if_pos h2] at ho
  have he := octR_eq _ _ h3 h4
  have hok : (oct2 (q.drop (i + 1))).2 = true := by
    rw [ho]
    simp only [okO, Bool.and_eq_true, decide_eq_true_eq, Bool.not_eq_true']
    exact ⟨⟨h3, h4⟩, by rw [← he]; exact h5⟩
  obtain ⟨k1, k2, k3⟩ := unq_oct (q.drop (i + 1)) out hok
  rw [ho, List.drop_drop] at k2
  rw [ho] at k3
  rw [he]
  refine ⟨?_, k3⟩
  rw [← hu, drop_cons q i (by omega), (u8_eq _ 92 (by omega)).1 h1]
  exact k2.symm
theorem at_bad (hu : unq (q.drop i) out = unqL q) (h : ¬ ((q.getD i 0).toNat : Int) = 34) (hp : plainB (q.getD i 0).toNat = false) (hk : ¬ okR q i) : unqL q = none := by
  rw [← hu, drop_cons q i (by omega)]
  refine unq_bad _ _ (fun e => h ((u8_eq _ 34 (by omega)).2 e)) hp fun e => ?_
  rw [oct2_at hi]
  split
  · rename_i h2
    cases hc : okO (q.getD (i + 1) 0) (q.getD (i + 2) 0) with
    | false => rfl
    | true =>
      exfalso
      refine hk ?_
      simp only [okO, Bool.and_eq_true, decide_eq_true_eq, Bool.not_eq_true'] at hc
      exact ⟨⟨⟨⟨(u8_eq _ 92 (by omega)).2 e, h2⟩, hc.1.1⟩, hc.1.2⟩, by rw [octR_eq _ _ hc.1.1 hc.1.2]; exact hc.2⟩
  · rfl
end
end Go.Proofs.YtpbkdcfjlbdgfaaDoor
set_option linter.unusedVariables false
set_option linter.unusedSimpArgs false
namespace Go.Proofs.YtpbkdcfjlbdgfaaDoor
open Go Go.Ev
set_option maxRecDepth 100000
variable {G : World → Prop}
set_option maxHeartbeats 2000000 in
theorem s54 : Sound G Tryd.prog 54 C40 := by
  refine sd54 (T := tabT [(104, C89), (105, C105)]) (tab_cons s104 (tab_cons s105 tab_nil)) (pureC_lawful _) (pure_hX fun args p x K h hp hk => ?_)
  split at h <;> simp only [Option.some.injEq, Prod.mk.injEq, reduceCtorEq] at h
  obtain ⟨rfl, rfl⟩ := h
  refine ⟨Nat.le_of_ble_eq_true rfl, ?_⟩
  rename_i s
  obtain ⟨q, rfl⟩ := ex_str s
  simp only [sem_str] at hk hp
  have bad : unqL q = none → K (.ret (.tup [.d (.v (.string ⟨#[]⟩)), .d (.v (.string ⟨#[]⟩)), .d (.v (.int .i64 3))])) ⟨0, []⟩ := fun e => by rw [e] at hk; exact hk
  have good : ∀ o m, unqL q = some (o, m) → K (.ret (.tup [.d (.v (.string ⟨o.toArray⟩)), .d (.v (.string ⟨m.toArray⟩)), .d (.v (.int .i64 0))])) ⟨0, []⟩ := fun o m e => by
    rw [e] at hk; exact hk
  have hq : q.length ≤ 1099511627776 := hp
  simp -dsimp -implicitDefEqProofs only [S54, R54, C89, C105, ↓Ev.xStp_eq, ↓Ev.P, Ev.Q, eq_self, forall_eq_or_imp, implies_true, forall_const, forall_eq, ↓reduceIte, reduceIte, Nat.reduceEqDiff, Nat.reduceAdd, reduceCtorEq, Nat.reduceSub, Int.reduceToNat, Int.reduceLE, Int.reduceLT, Int.reduceNeg, Nat.reduceBEq, Nat.reduceMul, Nat.reduceLeDiff, Nat.reduceMod, UInt8.reduceOfNat, Nat.reduceLT, Int.reduceEq, Int.reduceAdd, Int.reduceSub, Int.reduceMul]
  have q34 : ∀ (i : Nat), ((((q.getD i 0).toNat : Nat) : Int) = 34) ↔ q.getD i 0 = 34 := fun i => u8_eq _ 34 (by omega)
  repeat' (first | refine And.intro ?_ ?_ | intro _)
  all_goals try omega
  · rename_i h
    refine bad ?_
    cases q with
    | nil => rfl
    | cons c r =>
      have : c ≠ 34 := fun e => by
        rcases h with h | h
        · simp only [List.length_cons] at h; omega
        · exact h ((q34 0).2 e)
      unfold unqL; split <;> simp_all
  rename_i h
  have h0 : unqL q = unq (q.drop 1) [] := by
    cases q with
    | nil => exact absurd rfl h.1
    | cons c r =>
      have : c = 34 := by have := (q34 0).1 (by simpa using h.2); simpa using this
      subst this; rfl
  have h1 : 1 ≤ q.length := by omega
  refine xLoop_intro (fun n st => ∃ (i : Nat) (out : List UInt8), n = q.length - i ∧ 1 ≤ i ∧ i ≤ q.length ∧ out.length ≤ i ∧ unq (q.drop i) out = unqL q ∧
      st = ⟨[(0, .d (.v (.string ⟨q.toArray⟩))), (5, .own 0), (6, .d (.v (.int .i64 i)))], 1, [(0, .row 5 1 (byteRows out))]⟩) (q.length - 1) [0] ?_ ?_ ?_
  · simp -dsimp -implicitDefEqProofs only [↓Ev.xStp_eq, ↓Ev.P, Ev.Q, eq_self, forall_eq_or_imp, implies_true, forall_const, forall_eq, ↓reduceIte, reduceIte, Nat.reduceEqDiff, Nat.reduceAdd, reduceCtorEq, Nat.reduceSub, Int.reduceToNat, Int.reduceLE, Int.reduceLT, Int.reduceNeg, Nat.reduceBEq, Nat.reduceMul, Nat.reduceLeDiff, Nat.reduceMod, UInt8.reduceOfNat, Nat.reduceLT, Int.reduceEq, Int.reduceAdd, Int.reduceSub, Int.reduceMul]
  · simp -dsimp -implicitDefEqProofs only [↓Ev.xStp_eq, ↓Ev.P, Ev.Q, eq_self, forall_eq_or_imp, implies_true, forall_const, forall_eq, ↓reduceIte, reduceIte, Nat.reduceEqDiff, Nat.reduceAdd, reduceCtorEq, Nat.reduceSub, Int.reduceToNat, Int.reduceLE, Int.reduceLT, Int.reduceNeg, Nat.reduceBEq, Nat.reduceMul, Nat.reduceLeDiff, Nat.reduceMod, UInt8.reduceOfNat, Nat.reduceLT, Int.reduceEq, Int.reduceAdd, Int.reduceSub, Int.reduceMul]
    exact ⟨1, [], rfl, by omega, h1, by simp, h0.symm, rfl⟩
  · rintro n st ⟨i, out, hn, hi1, hi2, ho, hu, rfl⟩
    have nb : ∀ x : UInt8, ∃ d : UInt8, (x.toNat : Int) = d.toNat := fun x => ⟨x, rfl⟩
    simp -dsimp -implicitDefEqProofs only [↓Ev.P, Ev.Q, eq_self, forall_eq_or_imp, implies_true, forall_const, forall_eq, ↓reduceIte, reduceIte, Nat.reduceEqDiff, Nat.reduceAdd, reduceCtorEq, Nat.reduceSub, Int.reduceToNat, Int.reduceLE, Int.reduceLT, Int.reduceNeg, Nat.reduceBEq, Nat.reduceMul, Nat.reduceLeDiff, Nat.reduceMod, UInt8.reduceOfNat, Nat.reduceLT, Int.reduceEq, Int.reduceAdd, Int.reduceSub, Int.reduceMul]
    have b1 := hx_b (q.getD (i + 1) 0)
    have b2 := hx_b (q.getD (i + 2) 0)
    repeat' (first | exact nb _ | refine And.intro ?_ ?_ | intro _ | (rw [Ev.xStp_eq]; simp -dsimp -implicitDefEqProofs only [↓Ev.P, Ev.Q, eq_self, forall_eq_or_imp, implies_true, forall_const, forall_eq, ↓reduceIte, reduceIte, Nat.reduceEqDiff, Nat.reduceAdd, reduceCtorEq, Nat.reduceSub, Int.reduceToNat, Int.reduceLE, Int.reduceLT, Int.reduceNeg, Nat.reduceBEq, Nat.reduceMul, Nat.reduceLeDiff, Nat.reduceMod, UInt8.reduceOfNat, Nat.reduceLT, Int.reduceEq, Int.reduceAdd, Int.reduceSub, Int.reduceMul]))
    all_goals try omega
    · rename_i hl h
      exact good _ _ (at_end hl hu h)
    · rename_i hl h hp
      refine xAgain_intro (q.length - (i + 1)) [2] (by omega) (by simp -dsimp -implicitDefEqProofs only [↓Ev.xStp_eq, ↓Ev.P, Ev.Q, eq_self, forall_eq_or_imp, implies_true, forall_const, forall_eq, ↓reduceIte, reduceIte, Nat.reduceEqDiff, Nat.reduceAdd, reduceCtorEq, Nat.reduceSub, Int.reduceToNat, Int.reduceLE, Int.reduceLT, Int.reduceNeg, Nat.reduceBEq, Nat.reduceMul, Nat.reduceLeDiff, Nat.reduceMod, UInt8.reduceOfNat, Nat.reduceLT, Int.reduceEq, Int.reduceAdd, Int.reduceSub, Int.reduceMul]) ⟨i + 1, out ++ [q.getD i 0], rfl, by omega, by omega, by simp; omega, at_plain hl hu h hp, ?_⟩
      simp -dsimp -implicitDefEqProofs only [↓Ev.xStp_eq, ↓Ev.P, Ev.Q, eq_self, forall_eq_or_imp, implies_true, forall_const, forall_eq, ↓reduceIte, reduceIte, Nat.reduceEqDiff, Nat.reduceAdd, reduceCtorEq, Nat.reduceSub, Int.reduceToNat, Int.reduceLE, Int.reduceLT, Int.reduceNeg, Nat.reduceBEq, Nat.reduceMul, Nat.reduceLeDiff, Nat.reduceMod, UInt8.reduceOfNat, Nat.reduceLT, Int.reduceEq, Int.reduceAdd, Int.reduceSub, Int.reduceMul]
      simp [byteRows]
    · rename_i hl h hp hk
      obtain ⟨k1, k2⟩ := at_oct hl hu h hp hk
      obtain ⟨⟨⟨⟨_, h2⟩, _⟩, _⟩, _⟩ := hk
      refine xAgain_intro (q.length - (i + 3)) [2] (by omega) (by simp -dsimp -implicitDefEqProofs only [↓Ev.xStp_eq, ↓Ev.P, Ev.Q, eq_self, forall_eq_or_imp, implies_true, forall_const, forall_eq, ↓reduceIte, reduceIte, Nat.reduceEqDiff, Nat.reduceAdd, reduceCtorEq, Nat.reduceSub, Int.reduceToNat, Int.reduceLE, Int.reduceLT, Int.reduceNeg, Nat.reduceBEq, Nat.reduceMul, Nat.reduceLeDiff, Nat.reduceMod, UInt8.reduceOfNat, Nat.reduceLT, Int.reduceEq, Int.reduceAdd, Int.reduceSub, Int.reduceMul]) ⟨i + 3, _, rfl, by omega, by omega, ?_, k1, ?_⟩
      · simp; omega
      · simp -dsimp -implicitDefEqProofs only [↓Ev.xStp_eq, ↓Ev.P, Ev.Q, eq_self, forall_eq_or_imp, implies_true, forall_const, forall_eq, ↓reduceIte, reduceIte, Nat.reduceEqDiff, Nat.reduceAdd, reduceCtorEq, Nat.reduceSub, Int.reduceToNat, Int.reduceLE, Int.reduceLT, Int.reduceNeg, Nat.reduceBEq, Nat.reduceMul, Nat.reduceLeDiff, Nat.reduceMod, UInt8.reduceOfNat, Nat.reduceLT, Int.reduceEq, Int.reduceAdd, Int.reduceSub, Int.reduceMul]
        simp only [byteRows, List.map_append, List.map_cons, List.map_nil, k2]
        simp only [octR]
        rfl
    · rename_i hl h hp hk
      refine bad (at_bad hl hu h hp fun h => ?_)
      obtain ⟨⟨⟨⟨h1, h2⟩, h3⟩, h4⟩, h5⟩ := h
      rcases hk with (((hk | hk) | hk) | hk) | hk
      · exact hk h1
      · exact hk h2
      · exact hk h3
      · exact hk h4
      · rw [octR] at h5; rw [h5] at hk; cases hk
    · refine bad ?_
      rw [← hu, List.drop_of_length_le (by omega), unq]
end Go.Proofs.YtpbkdcfjlbdgfaaDoor
/- (*strings.Builder).WriteByte. -/
set_option linter.unusedVariables false
set_option linter.unusedSimpArgs false
namespace Go.Proofs.YtpbkdcfjlbdgfaaDoor
open Go Go.Ev Go.RowKit
theorem ubyte : Tryd.prog.underlying 68 = some (.slice 5) := by kernel_rfl
theorem infB : (Tryd.prog.info? 5).map (fun i => (i.zero, i.size, i.bytes)) = some (some (.int .u8 0), 1, 1) := by kernel_rfl
set_option maxHeartbeats 2000000 in
set_option maxRecDepth 100000 in
theorem wb_at {t b : Nat} {p v : Value} {bs : List UInt8} (ht : bldT t = true) {w : World} (h : BldAt w t 5 b p v bs) (c : Int) (hc0 : 0 ≤ c) (hc1 : c < 256) (hlen : bs.length + 1 ≤ 140737488355328) :
    Calls Tryd.prog 88 #[.pointer (some ⟨b, 0, none⟩), .int .u8 c] w fun e w' => e = .returned .nilIface ∧ BldTo w w' t 5 b v (bs ++ [UInt8.ofNat c.toNat]) := by
  obtain ⟨i0, hi, hz0, hz1, hz2⟩ := info_parts infB
  go_enter Tryd.func88, Tryd.ntmps88
  go_wp2_with (go_at_call 94; refine (cc_at ht h).mono ?_)
  rintro e w1 ⟨rfl, hb1, h1⟩
  have c0 : w1.cell? ⟨b, 0, none⟩ = some (.pointer (some ⟨b, 0, none⟩)) := by rw [Lib.cell_of_heap h1.blk]; rfl
  have c1 : w1.cell? ⟨b, 1, none⟩ = some v := by rw [Lib.cell_of_heap h1.blk]; rfl
  go_wp2_with (at_builtin; refine wpList_app (t := 68) rfl rfl ubyte hi hz0 hz1 hz2 rfl (h1.own.alloc _) (A := some ⟨w1.heap.size, 0, none⟩) (k := 1) (cap := 1) rfl (news := [.int .u8 c]) rfl ?c1 ?c2 ?c4 ?_)
  case c1 =>
    intro j u hj
    match j, hj with
    | 0, hj => simp at hj; subst hj; exact ⟨_, rfl, by simp [Addr.add]⟩
  case c2 => intro u hu; simp at hu; subst hu; rfl
  case c4 => omega
  intro v' w2 hown' hgrow hv
  have hlt : b < w1.heap.size := (Array.getElem?_eq_some_iff.1 h1.blk).1
  have hb2 : w2.heap[b]? = some (.cells #[.pointer (some ⟨b, 0, none⟩), v] t (0, 0)) := by
    rw [hgrow.block b (by simp; omega) (fun e => h1.ne e.symm), Lib.alloc_old w1 _ b hlt]
    exact h1.blk
  have d0 : w2.cell? ⟨b, 0, none⟩ = some (.pointer (some ⟨b, 0, none⟩)) := by rw [Lib.cell_of_heap hb2]; rfl
  have d1 : w2.cell? ⟨b, 1, none⟩ = some v := by rw [Lib.cell_of_heap hb2]; rfl
  have f1 : w2.frozen? ⟨b, 1, none⟩ = false := Lib.frozen_of_heap hb2 1
  have hfin := BldAt.wrote (hb1.alloc _) (h1.alloc _) (bs' := bs ++ [UInt8.ofNat c.toNat]) (by rw [byteVals_snoc _ _ hc0 hc1]; simpa using hown') hgrow (by simpa using hv)
  obtain ⟨g, cap, rfl⟩ : ∃ g cap, v' = .slice (some ⟨g, 0, none⟩) (bs.length + 1) cap := by
    rcases hown'.2 with ⟨_, h0⟩ | ⟨g, cap, cur, hv, _⟩
    · omega
    · exact ⟨g, cap, hv⟩
  go_wp2
  go_ret
  exact ⟨rfl, hfin⟩
/-- A byte is written. -/
def gWB : List SV → Nat → Nat → List UInt8 → Option (Prop × SV × List UInt8)
  | [.d (.v (.int .u8 c))], t, u, bs => if bldT t = true ∧ u = 5 then some ((0 ≤ c ∧ c < 256) ∧ bs.length + 1 ≤ 140737488355328, .d (.v .nilIface), bs ++ [UInt8.ofNat c.toNat]) else none
  | _, _, _, _ => none
theorem sWB {G : World → Prop} : Sound G Tryd.prog 88 (bldC gWB) := by
  refine bld_sound ⟨Tryd.f88, by kernel_rfl, by kernel_rfl, by kernel_rfl⟩ ?_
  intro args t u bs p x bs' hg hp w b q v hb c m vs hc ha
  unfold gWB at hg
  split at hg
  · obtain ⟨⟨h1, rfl⟩, hg2⟩ := Option.ite_none_right_eq_some.1 hg
    simp only [Option.some.injEq, Prod.mk.injEq] at hg2
    obtain ⟨rfl, rfl, rfl⟩ := hg2
    match vs, ha with
    | [y], ha =>
      simp only [CnL, and_true] at ha
      rw [of_v ha]
      exact ⟨_, fun _ _ _ => ⟨rfl, rfl⟩, wb_at h1 hb _ hp.1.1 hp.1.2 hp.2⟩
    | [], ha => simp [CnL] at ha
    | _ :: _ :: _, ha => simp [CnL] at ha
  · simp only [reduceCtorEq] at hg
end Go.Proofs.YtpbkdcfjlbdgfaaDoor
/- (*strings.Builder).Write. -/
set_option linter.unusedVariables false
set_option linter.unusedSimpArgs false
namespace Go.Proofs.YtpbkdcfjlbdgfaaDoor
open Go Go.Ev Go.RowKit
theorem ubyte3 : Tryd.prog.underlying 68 = some (.slice 5) := by kernel_rfl
theorem infB3 : (Tryd.prog.info? 5).map (fun i => (i.zero, i.size, i.bytes)) = some (some (.int .u8 0), 1, 1) := by kernel_rfl
set_option maxHeartbeats 2000000 in
set_option maxRecDepth 100000 in
theorem ww_at {t b : Nat} {p v : Value} {bs : List UInt8} (ht : bldT t = true) {w : World} (h : BldAt w t 5 b p v bs) (A : Option Addr) (k cap : Nat) (l : List UInt8) (hl : l.length = k) (hA : ∀ j u, (byteVals l)[j]? = some u → ∃ ad, A = some ad ∧ w.cell? (ad.add j) = some u ∧ (ad.add j).block ≠ b ∧ some (ad.add j).block ≠ v.ownBlock) (hlen : bs.length + k ≤ 140737488355328) :
    Calls Tryd.prog 90 #[.pointer (some ⟨b, 0, none⟩), .slice A k cap] w fun e w' => e = .returned (.tuple #[.int .i64 k, .nilIface]) ∧ BldTo w w' t 5 b v (bs ++ l) := by
  obtain ⟨i0, hi, hz0, hz1, hz2⟩ := info_parts infB3
  go_enter Tryd.func90, Tryd.ntmps90
  go_wp2_with (go_at_call 94; refine (cc_at ht h).mono ?_)
  rintro e w1 ⟨rfl, hb1, h1⟩
  have c0 : w1.cell? ⟨b, 0, none⟩ = some (.pointer (some ⟨b, 0, none⟩)) := by rw [Lib.cell_of_heap h1.blk]; rfl
  have c1 : w1.cell? ⟨b, 1, none⟩ = some v := by rw [Lib.cell_of_heap h1.blk]; rfl
  have hA1 : ∀ j u, (byteVals l)[j]? = some u → ∃ ad, A = some ad ∧ w1.cell? (ad.add j) = some u := by
    intro j u hj
    obtain ⟨ad, e1, e2, e3, e4⟩ := hA j u hj
    exact ⟨ad, e1, by rw [World.cell?_of_block (hb1.block _ (cell_lt e2) e3 e4)]; exact e2⟩
  clear hA
  go_wp2_with (at_builtin; refine wpList_app (t := 68) rfl rfl ubyte3 hi hz0 hz1 hz2 rfl h1.own (A := A) (k := k) (cap := cap) rfl (news := byteVals l) (by rw [byteVals_len]; exact hl) hA1 ?c2 ?c4 ?_)
  case c2 => intro u hu; simp only [byteVals, List.mem_map] at hu; obtain ⟨x, _, rfl⟩ := hu; rfl
  case c4 => omega
  intro v' w2 hown' hgrow hv
  have hlt : b < w1.heap.size := (Array.getElem?_eq_some_iff.1 h1.blk).1
  have hb2 : w2.heap[b]? = some (.cells #[.pointer (some ⟨b, 0, none⟩), v] t (0, 0)) := by
    rw [hgrow.block b hlt (fun e => h1.ne e.symm)]
    exact h1.blk
  have d0 : w2.cell? ⟨b, 0, none⟩ = some (.pointer (some ⟨b, 0, none⟩)) := by rw [Lib.cell_of_heap hb2]; rfl
  have d1 : w2.cell? ⟨b, 1, none⟩ = some v := by rw [Lib.cell_of_heap hb2]; rfl
  have f1 : w2.frozen? ⟨b, 1, none⟩ = false := Lib.frozen_of_heap hb2 1
  have hfin := BldAt.wrote hb1 h1 (bs' := bs ++ l) (by rw [show byteVals (bs ++ l) = byteVals bs ++ byteVals l by simp [byteVals]]; simpa [hl] using hown') hgrow hv
  obtain ⟨ao, n', cap, rfl⟩ : ∃ ao n' cap, v' = .slice ao n' cap := by
    rcases hown'.2 with ⟨hv, _⟩ | ⟨g, cap, cur, hv, _⟩
    · exact ⟨_, _, _, hv⟩
    · exact ⟨_, _, _, hv⟩
  clear hA1
  go_wp2
  go_ret2
  exact ⟨rfl, hfin⟩
/-- Bytes are written. -/
def gWW : List SV → Nat → Nat → List UInt8 → Option (Prop × SV × List UInt8)
  | [.d (.sl rows)], t, u, bs => (bytesOf rows).bind fun l => if bldT t = true ∧ u = 5 then some (bs.length + rows.length ≤ 140737488355328 ∧ bytesIn rows, .tup [.d (.v (.int .i64 rows.length)), .d (.v .nilIface)], bs ++ l) else none
  | _, _, _, _ => none
theorem sWW {G : World → Prop} : Sound G Tryd.prog 90 (bldC gWW) := by
  refine bld_sound ⟨Tryd.f90, by kernel_rfl, by kernel_rfl, by kernel_rfl⟩ ?_
  intro args t u bs p x bs' hg hp w b q v hb c m vs hc ha
  unfold gWW at hg
  split at hg
  · obtain ⟨l, hl, hg⟩ := Option.bind_eq_some_iff.1 hg
    obtain ⟨⟨h1, rfl⟩, hg2⟩ := Option.ite_none_right_eq_some.1 hg
    simp only [Option.some.injEq, Prod.mk.injEq] at hg2
    obtain ⟨rfl, rfl, rfl⟩ := hg2
    match vs, ha with
    | [y], ha =>
      simp only [CnL, and_true] at ha
      obtain ⟨A, cap, rfl, hlc, hrows⟩ := sl_bytes hp.2 hl ha
      exact ⟨_, fun m n c => by simp only [Cn]; exact ⟨_, rfl, by simp only [CnL, Cn, and_true]; exact ⟨⟨rfl, rfl⟩, ⟨rfl, rfl⟩⟩⟩, ww_at h1 hb A _ cap l hlc (fun j u hj => by
        obtain ⟨ad, e1, e2⟩ := hrows j u hj
        exact ⟨ad, e1, hc _ _ e2⟩) hp.1⟩
    | [], ha => simp [CnL] at ha
    | _ :: _ :: _, ha => simp [CnL] at ha
  · simp only [reduceCtorEq] at hg
end Go.Proofs.YtpbkdcfjlbdgfaaDoor
set_option linter.unusedVariables false
set_option linter.unusedSimpArgs false
namespace Go.Proofs.YtpbkdcfjlbdgfaaDoor
open Go Go.Ev
set_option maxRecDepth 100000
variable {G : World → Prop}
/-- A byte in a quoted text. -/
def qb (c : UInt8) : List UInt8 := if plainB c.toNat = true then [c] else [92, hexs.getD (c.toNat / 16) 0, hexs.getD (c.toNat % 16) 0]
def quo (l : List UInt8) : List UInt8 := 34 :: l.flatMap qb ++ [34]
theorem qb_len (c : UInt8) : (qb c).length ≤ 3 := by unfold qb; split <;> simp
theorem quo_len (l : List UInt8) : (quo l).length ≤ 3 * l.length + 2 := by
  unfold quo
  have : ∀ l : List UInt8, (l.flatMap qb).length ≤ 3 * l.length := by
    intro l
    induction l with
    | nil => simp
    | cons c r ih => have := qb_len c; simp only [List.flatMap_cons, List.length_append, List.length_cons]; omega
  have := this l
  simp only [List.length_append, List.length_cons, List.length_nil]; omega
def C39 : Contract := pureC fun args => match args with
  | [.d (.v (.string s))] => some (s.size ≤ 1099511627776, .d (.v (str (quo s.data.toList))))
  | _ => none
theorem take_snoc (l : List UInt8) (i : Nat) (h : i < l.length) : l.take (i + 1) = l.take i ++ [l.getD i 0] := by
  rw [List.take_succ_eq_append_getElem h]
  simp [List.getD_eq_getElem?_getD, List.getElem?_eq_getElem h]
theorem nib_hi (c : UInt8) : ((c.toNat : Nat) : Int).fdiv (2 ^ min 4 IntKind.u8.bits) = ((c.toNat / 16 : Nat) : Int) := by
  have : ∀ n : Fin 256, ((n.val : Nat) : Int).fdiv (2 ^ min 4 IntKind.u8.bits) = ((n.val / 16 : Nat) : Int) := by decide +kernel
  exact this ⟨c.toNat, c.toNat_lt⟩
theorem nib_lo (c : UInt8) : IntKind.u8.wrap ((BitVec.ofInt IntKind.u8.bits ((c.toNat : Nat) : Int) &&& BitVec.ofInt IntKind.u8.bits 15).toNat : Int) = ((c.toNat % 16 : Nat) : Int) := by
  have : ∀ n : Fin 256, IntKind.u8.wrap ((BitVec.ofInt IntKind.u8.bits ((n.val : Nat) : Int) &&& BitVec.ofInt IntKind.u8.bits 15).toNat : Int) = ((n.val % 16 : Nat) : Int) := by decide +kernel
  exact this ⟨c.toNat, c.toNat_lt⟩
theorem flat_len (q : List UInt8) (i : Nat) : ((q.take i).flatMap qb).length ≤ 3 * q.length := by
  have h := quo_len (q.take i)
  unfold quo at h
  simp only [List.length_append, List.length_cons, List.length_nil, List.length_take] at h
  omega
theorem flat_snoc (q : List UInt8) (i : Nat) (h : i < q.length) : (q.take (i + 1)).flatMap qb = (q.take i).flatMap qb ++ qb (q.getD i 0) := by
  rw [take_snoc q i h, List.flatMap_append]; simp
theorem s39 : Sound G Tryd.prog 39 C39 := by
  refine sd39 (T := tabT [(89, C89), (88, bldC gWB), (90, bldC gWW), (45, strC 5)]) (tab_cons s89 (tab_cons sWB (tab_cons sWW (tab_cons sST tab_nil)))) (pureC_lawful _) (pure_hX fun args p x K h hp hk => ?_)
  split at h <;> simp only [Option.some.injEq, Prod.mk.injEq, reduceCtorEq] at h
  obtain ⟨rfl, rfl⟩ := h
  refine ⟨Nat.le_of_ble_eq_true rfl, ?_⟩
  rename_i s
  obtain ⟨q, rfl⟩ := ex_str s
  simp only [sem_str] at hk hp
  simp -dsimp -implicitDefEqProofs only [S39, R39, C89, gWB, gWW, bldT, ↓Ev.xStp_eq, ↓Ev.P, Ev.Q, eq_self, forall_eq_or_imp, implies_true, forall_const, forall_eq, ↓reduceIte, reduceIte, Nat.reduceEqDiff, Nat.reduceAdd, reduceCtorEq, Nat.reduceSub, Int.reduceToNat, Int.reduceLE, Int.reduceLT, Int.reduceNeg, Nat.reduceBEq, Nat.reduceMul, Nat.reduceLeDiff, Nat.reduceMod, UInt8.reduceOfNat, Nat.reduceLT, Int.reduceEq, Int.reduceAdd, Int.reduceSub, Int.reduceMul]
  refine xLoop_intro (fun n st => ∃ i : Nat, i ≤ q.length ∧ n = q.length - i ∧ 
      st = ⟨[(0, .d (.v (.string ⟨q.toArray⟩))), (3, .ptr 0 0), (8, .d (.v (.int .i64 q.length))), (9, .d (.v (.int .i64 i)))], 1, [(0, .bld 70 5 (34 :: (q.take i).flatMap qb))]⟩) q.length [0] ?_ ?_ ?_
  · simp -dsimp -implicitDefEqProofs only [↓Ev.xStp_eq, ↓Ev.P, Ev.Q, eq_self, forall_eq_or_imp, implies_true, forall_const, forall_eq, ↓reduceIte, reduceIte, Nat.reduceEqDiff, Nat.reduceAdd, reduceCtorEq, Nat.reduceSub, Int.reduceToNat, Int.reduceLE, Int.reduceLT, Int.reduceNeg, Nat.reduceBEq, Nat.reduceMul, Nat.reduceLeDiff, Nat.reduceMod, UInt8.reduceOfNat, Nat.reduceLT, Int.reduceEq, Int.reduceAdd, Int.reduceSub, Int.reduceMul]
  · simp -dsimp -implicitDefEqProofs only [↓Ev.xStp_eq, ↓Ev.P, Ev.Q, eq_self, forall_eq_or_imp, implies_true, forall_const, forall_eq, ↓reduceIte, reduceIte, Nat.reduceEqDiff, Nat.reduceAdd, reduceCtorEq, Nat.reduceSub, Int.reduceToNat, Int.reduceLE, Int.reduceLT, Int.reduceNeg, Nat.reduceBEq, Nat.reduceMul, Nat.reduceLeDiff, Nat.reduceMod, UInt8.reduceOfNat, Nat.reduceLT, Int.reduceEq, Int.reduceAdd, Int.reduceSub, Int.reduceMul]
    refine ⟨0, by omega, by omega, rfl⟩
  · rintro n st ⟨i, hi, hn, rfl⟩
    have hf := flat_len q i
    have hb := (q.getD i 0).toNat_lt
    simp -dsimp -implicitDefEqProofs only [C89, gWB, gWW, bldT, nib_hi, nib_lo, ↓Ev.xStp_eq, ↓Ev.P, Ev.Q, eq_self, forall_eq_or_imp, implies_true, forall_const, forall_eq, ↓reduceIte, reduceIte, Nat.reduceEqDiff, Nat.reduceAdd, reduceCtorEq, Nat.reduceSub, Int.reduceToNat, Int.reduceLE, Int.reduceLT, Int.reduceNeg, Nat.reduceBEq, Nat.reduceMul, Nat.reduceLeDiff, Nat.reduceMod, UInt8.reduceOfNat, Nat.reduceLT, Int.reduceEq, Int.reduceAdd, Int.reduceSub, Int.reduceMul]
    repeat' (first | refine And.intro ?_ ?_ | intro _)
    all_goals try omega
    · rename_i hl hp
      refine xAgain_intro (q.length - (i + 1)) [0] (by omega) (by simp -dsimp -implicitDefEqProofs only [↓Ev.xStp_eq, ↓Ev.P, Ev.Q, eq_self, forall_eq_or_imp, implies_true, forall_const, forall_eq, ↓reduceIte, reduceIte, Nat.reduceEqDiff, Nat.reduceAdd, reduceCtorEq, Nat.reduceSub, Int.reduceToNat, Int.reduceLE, Int.reduceLT, Int.reduceNeg, Nat.reduceBEq, Nat.reduceMul, Nat.reduceLeDiff, Nat.reduceMod, UInt8.reduceOfNat, Nat.reduceLT, Int.reduceEq, Int.reduceAdd, Int.reduceSub, Int.reduceMul]) ⟨i + 1, by omega, rfl, ?_⟩
      rw [flat_snoc q i (by omega), qb, if_pos hp]
      simp -dsimp -implicitDefEqProofs only [↓Ev.xStp_eq, ↓Ev.P, Ev.Q, eq_self, forall_eq_or_imp, implies_true, forall_const, forall_eq, ↓reduceIte, reduceIte, Nat.reduceEqDiff, Nat.reduceAdd, reduceCtorEq, Nat.reduceSub, Int.reduceToNat, Int.reduceLE, Int.reduceLT, Int.reduceNeg, Nat.reduceBEq, Nat.reduceMul, Nat.reduceLeDiff, Nat.reduceMod, UInt8.reduceOfNat, Nat.reduceLT, Int.reduceEq, Int.reduceAdd, Int.reduceSub, Int.reduceMul]
      simp
    · rename_i hl hp
      refine xAgain_intro (q.length - (i + 1)) [0] (by omega) (by simp -dsimp -implicitDefEqProofs only [↓Ev.xStp_eq, ↓Ev.P, Ev.Q, eq_self, forall_eq_or_imp, implies_true, forall_const, forall_eq, ↓reduceIte, reduceIte, Nat.reduceEqDiff, Nat.reduceAdd, reduceCtorEq, Nat.reduceSub, Int.reduceToNat, Int.reduceLE, Int.reduceLT, Int.reduceNeg, Nat.reduceBEq, Nat.reduceMul, Nat.reduceLeDiff, Nat.reduceMod, UInt8.reduceOfNat, Nat.reduceLT, Int.reduceEq, Int.reduceAdd, Int.reduceSub, Int.reduceMul]) ⟨i + 1, by omega, rfl, ?_⟩
      rw [flat_snoc q i (by omega), qb, if_neg (by rw [hp]; exact Bool.false_ne_true)]
      simp -dsimp -implicitDefEqProofs only [↓Ev.xStp_eq, ↓Ev.P, Ev.Q, eq_self, forall_eq_or_imp, implies_true, forall_const, forall_eq, ↓reduceIte, reduceIte, Nat.reduceEqDiff, Nat.reduceAdd, reduceCtorEq, Nat.reduceSub, Int.reduceToNat, Int.reduceLE, Int.reduceLT, Int.reduceNeg, Nat.reduceBEq, Nat.reduceMul, Nat.reduceLeDiff, Nat.reduceMod, UInt8.reduceOfNat, Nat.reduceLT, Int.reduceEq, Int.reduceAdd, Int.reduceSub, Int.reduceMul]
      simp
    · rename_i hl
      rw [List.take_of_length_le (by omega)]
      exact hk
end Go.Proofs.YtpbkdcfjlbdgfaaDoor
set_option linter.unusedVariables false
set_option linter.unusedSimpArgs false
namespace Go.Proofs.YtpbkdcfjlbdgfaaDoor
open Go Go.Ev
set_option maxRecDepth 100000
variable {G : World → Prop}
theorem quo16 (c : UInt8) : IntKind.u8.wrap (((c.toNat : Nat) : Int).tdiv 16) = ((c.toNat / 16 : Nat) : Int) := by
  have : ∀ n : Fin 256, IntKind.u8.wrap (((n.val : Nat) : Int).tdiv 16) = ((n.val / 16 : Nat) : Int) := by decide +kernel
  exact this ⟨c.toNat, c.toNat_lt⟩
theorem rem16 (c : UInt8) : ((c.toNat : Nat) : Int).tmod 16 = ((c.toNat % 16 : Nat) : Int) := by
  have : ∀ n : Fin 256, ((n.val : Nat) : Int).tmod 16 = ((n.val % 16 : Nat) : Int) := by decide +kernel
  exact this ⟨c.toNat, c.toNat_lt⟩
theorem s121 : Sound G Tryd.prog 121 C39 := by
  refine sd121 (T := tabT [(104, C89)]) (tab_cons s104 tab_nil) (pureC_lawful _) (pure_hX fun args p x K h hp hk => ?_)
  split at h <;> simp only [Option.some.injEq, Prod.mk.injEq, reduceCtorEq] at h
  obtain ⟨rfl, rfl⟩ := h
  refine ⟨Nat.le_of_ble_eq_true rfl, ?_⟩
  rename_i s
  obtain ⟨q, rfl⟩ := ex_str s
  simp only [sem_str] at hk hp
  simp -dsimp -implicitDefEqProofs only [S121, R121, C89, ↓Ev.xStp_eq, ↓Ev.P, Ev.Q, eq_self, forall_eq_or_imp, implies_true, forall_const, forall_eq, ↓reduceIte, reduceIte, Nat.reduceEqDiff, Nat.reduceAdd, reduceCtorEq, Nat.reduceSub, Int.reduceToNat, Int.reduceLE, Int.reduceLT, Int.reduceNeg, Nat.reduceBEq, Nat.reduceMul, Nat.reduceLeDiff, Nat.reduceMod, UInt8.reduceOfNat, Nat.reduceLT, Int.reduceEq, Int.reduceAdd, Int.reduceSub, Int.reduceMul]
  refine xLoop_intro (fun n st => ∃ i : Nat, i ≤ q.length ∧ n = q.length - i ∧ 
      st = ⟨[(0, .d (.v (.string ⟨q.toArray⟩))), (3, .own 0), (4, .d (.v (.int .i64 i)))], 1, [(0, .row 5 1 (byteRows (34 :: (q.take i).flatMap qb)))]⟩) q.length [0] ?_ ?_ ?_
  · simp -dsimp -implicitDefEqProofs only [↓Ev.xStp_eq, ↓Ev.P, Ev.Q, eq_self, forall_eq_or_imp, implies_true, forall_const, forall_eq, ↓reduceIte, reduceIte, Nat.reduceEqDiff, Nat.reduceAdd, reduceCtorEq, Nat.reduceSub, Int.reduceToNat, Int.reduceLE, Int.reduceLT, Int.reduceNeg, Nat.reduceBEq, Nat.reduceMul, Nat.reduceLeDiff, Nat.reduceMod, UInt8.reduceOfNat, Nat.reduceLT, Int.reduceEq, Int.reduceAdd, Int.reduceSub, Int.reduceMul]
  · simp -dsimp -implicitDefEqProofs only [↓Ev.xStp_eq, ↓Ev.P, Ev.Q, eq_self, forall_eq_or_imp, implies_true, forall_const, forall_eq, ↓reduceIte, reduceIte, Nat.reduceEqDiff, Nat.reduceAdd, reduceCtorEq, Nat.reduceSub, Int.reduceToNat, Int.reduceLE, Int.reduceLT, Int.reduceNeg, Nat.reduceBEq, Nat.reduceMul, Nat.reduceLeDiff, Nat.reduceMod, UInt8.reduceOfNat, Nat.reduceLT, Int.reduceEq, Int.reduceAdd, Int.reduceSub, Int.reduceMul]
    refine ⟨0, by omega, by omega, rfl⟩
  · rintro n st ⟨i, hi, hn, rfl⟩
    have hf := flat_len q i
    have hb := (q.getD i 0).toNat_lt
    simp -dsimp -implicitDefEqProofs only [C89, quo16, rem16, ↓Ev.xStp_eq, ↓Ev.P, Ev.Q, eq_self, forall_eq_or_imp, implies_true, forall_const, forall_eq, ↓reduceIte, reduceIte, Nat.reduceEqDiff, Nat.reduceAdd, reduceCtorEq, Nat.reduceSub, Int.reduceToNat, Int.reduceLE, Int.reduceLT, Int.reduceNeg, Nat.reduceBEq, Nat.reduceMul, Nat.reduceLeDiff, Nat.reduceMod, UInt8.reduceOfNat, Nat.reduceLT, Int.reduceEq, Int.reduceAdd, Int.reduceSub, Int.reduceMul]
    repeat' (first | refine And.intro ?_ ?_ | intro _)
    all_goals try omega
    · rename_i hl hp
      refine xAgain_intro (q.length - (i + 1)) [2] (by omega) (by simp -dsimp -implicitDefEqProofs only [↓Ev.xStp_eq, ↓Ev.P, Ev.Q, eq_self, forall_eq_or_imp, implies_true, forall_const, forall_eq, ↓reduceIte, reduceIte, Nat.reduceEqDiff, Nat.reduceAdd, reduceCtorEq, Nat.reduceSub, Int.reduceToNat, Int.reduceLE, Int.reduceLT, Int.reduceNeg, Nat.reduceBEq, Nat.reduceMul, Nat.reduceLeDiff, Nat.reduceMod, UInt8.reduceOfNat, Nat.reduceLT, Int.reduceEq, Int.reduceAdd, Int.reduceSub, Int.reduceMul]) ⟨i + 1, by omega, rfl, ?_⟩
      rw [flat_snoc q i (by omega), qb, if_pos hp]
      simp -dsimp -implicitDefEqProofs only [↓Ev.xStp_eq, ↓Ev.P, Ev.Q, eq_self, forall_eq_or_imp, implies_true, forall_const, forall_eq, ↓reduceIte, reduceIte, Nat.reduceEqDiff, Nat.reduceAdd, reduceCtorEq, Nat.reduceSub, Int.reduceToNat, Int.reduceLE, Int.reduceLT, Int.reduceNeg, Nat.reduceBEq, Nat.reduceMul, Nat.reduceLeDiff, Nat.reduceMod, UInt8.reduceOfNat, Nat.reduceLT, Int.reduceEq, Int.reduceAdd, Int.reduceSub, Int.reduceMul]
      simp [byteRows]
    · rename_i hl hp
      refine xAgain_intro (q.length - (i + 1)) [2] (by omega) (by simp -dsimp -implicitDefEqProofs only [↓Ev.xStp_eq, ↓Ev.P, Ev.Q, eq_self, forall_eq_or_imp, implies_true, forall_const, forall_eq, ↓reduceIte, reduceIte, Nat.reduceEqDiff, Nat.reduceAdd, reduceCtorEq, Nat.reduceSub, Int.reduceToNat, Int.reduceLE, Int.reduceLT, Int.reduceNeg, Nat.reduceBEq, Nat.reduceMul, Nat.reduceLeDiff, Nat.reduceMod, UInt8.reduceOfNat, Nat.reduceLT, Int.reduceEq, Int.reduceAdd, Int.reduceSub, Int.reduceMul]) ⟨i + 1, by omega, rfl, ?_⟩
      rw [flat_snoc q i (by omega), qb, if_neg (by rw [hp]; exact Bool.false_ne_true)]
      simp -dsimp -implicitDefEqProofs only [↓Ev.xStp_eq, ↓Ev.P, Ev.Q, eq_self, forall_eq_or_imp, implies_true, forall_const, forall_eq, ↓reduceIte, reduceIte, Nat.reduceEqDiff, Nat.reduceAdd, reduceCtorEq, Nat.reduceSub, Int.reduceToNat, Int.reduceLE, Int.reduceLT, Int.reduceNeg, Nat.reduceBEq, Nat.reduceMul, Nat.reduceLeDiff, Nat.reduceMod, UInt8.reduceOfNat, Nat.reduceLT, Int.reduceEq, Int.reduceAdd, Int.reduceSub, Int.reduceMul]
      simp [byteRows]
    · rename_i hl
      rw [List.take_of_length_le (by omega)]
      exact hk
end Go.Proofs.YtpbkdcfjlbdgfaaDoor
set_option linter.unusedVariables false
set_option linter.unusedSimpArgs false
namespace Go.Proofs.YtpbkdcfjlbdgfaaDoor
open Go Go.Ev
set_option maxRecDepth 100000
variable {G : World → Prop}
def oddB (c : UInt8) : Bool := decide ((c.toNat : Int) < 33) || decide (126 < (c.toNat : Int)) || decide ((c.toNat : Int) = 34)
abbrev nowh : List UInt8 := [47, 100, 101, 118, 47, 110, 117, 108, 108]
/-- A name as it stands in a patch. -/
def nameS (l : List UInt8) : List UInt8 := if l = [] then nowh else if l = nowh ∨ l.any oddB = true then quo l else l
/-- The name that stands in a patch, unasked. -/
def decS (l : List UInt8) : List UInt8 := if l = nowh then [] else match l with
  | 34 :: _ => ((unqL l).map (·.1)).getD []
  | _ => l
def namedS (l : List UInt8) : List UInt8 × Int := if 64 < (decS l).length ∨ nameS (decS l) ≠ l then ([], 253) else (decS l, 0)
theorem oct_all (c : UInt8) (h : plainB c.toNat = false) : oct2 (hexs.getD (c.toNat / 16) 0 :: hexs.getD (c.toNat % 16) 0 :: []) = ((c.toNat : Int), true) := by
  have : ∀ n : Fin 256, plainB ((n.val : Nat) : Int) = false → oct2 (hexs.getD (n.val / 16) 0 :: hexs.getD (n.val % 16) 0 :: []) = (((n.val : Nat) : Int), true) := by decide +kernel
  exact this ⟨c.toNat, c.toNat_lt⟩ h
theorem oct_more (a b : UInt8) (r : List UInt8) : oct2 (a :: b :: r) = oct2 (a :: b :: []) := rfl
/-- What was quoted is read again. -/
theorem unq_quo : ∀ (l out rest : List UInt8), unq (l.flatMap qb ++ 34 :: rest) out = some (out ++ l, rest)
  | [], out, rest => by simp [unq_end]
  | c :: l, out, rest => by
    have ih := unq_quo l (out ++ [c]) rest
    simp only [List.flatMap_cons]
    by_cases hp : plainB c.toNat = true
    · have e : qb c = [c] := by unfold qb; rw [if_pos hp]
      have h34 : c ≠ 34 := by rintro rfl; revert hp; decide
      rw [e, List.cons_append, List.cons_append, List.nil_append, unq_plain _ _ h34 hp, ih]
      simp
    · have e : qb c = [92, hexs.getD (c.toNat / 16) 0, hexs.getD (c.toNat % 16) 0] := by unfold qb; rw [if_neg hp]
      have hp' : plainB c.toNat = false := by simpa using hp
      have h2 := oct_all c hp'
      have h3 := unq_oct (hexs.getD (c.toNat / 16) 0 :: hexs.getD (c.toNat % 16) 0 :: (l.flatMap qb ++ 34 :: rest)) out (by rw [oct_more, h2])
      rw [e]
      simp only [List.cons_append, List.nil_append]
      rw [h3.2.1, oct_more, h2]
      simp only [List.drop_succ_cons, List.drop_zero, Int.toNat_natCast, UInt8.ofNat_toNat]
      rw [ih]; simp
theorem unqL_quo (l rest : List UInt8) : unqL (quo l ++ rest) = some (l, rest) := by
  show unqL (34 :: (l.flatMap qb ++ [34]) ++ rest) = _
  rw [List.cons_append, unqL, List.append_assoc]
  exact unq_quo l [] rest
theorem unq_len : ∀ (n : Nat) (l out o r : List UInt8), l.length ≤ n → unq l out = some (o, r) → o.length ≤ out.length + l.length
  | n, [], out, o, r, hn, h => by rw [unq] at h; cases h
  | 0, c :: l, out, o, r, hn, h => by simp at hn
  | n + 1, c :: l, out, o, r, hn, h => by
    simp only [List.length_cons] at hn ⊢
    rw [unq] at h
    split at h
    · simp only [Option.some.injEq, Prod.mk.injEq] at h; obtain ⟨rfl, _⟩ := h; omega
    · split at h
      · have := unq_len n l _ o r (by omega) h
        simp only [List.length_append, List.length_cons, List.length_nil] at this; omega
      · split at h
        · have := unq_len n (l.drop 2) _ o r (by simp; omega) h
          simp only [List.length_append, List.length_cons, List.length_nil, List.length_drop] at this; omega
        · cases h
theorem unqL_len {l o r : List UInt8} (h : unqL l = some (o, r)) : o.length ≤ l.length := by
  unfold unqL at h
  split at h
  · have := unq_len _ _ _ _ _ (Nat.le_refl _) h; simp at this ⊢; omega
  · cases h
theorem decS_len (l : List UInt8) : (decS l).length ≤ l.length := by
  unfold decS
  split
  · simp
  · split
    · cases h : unqL (34 :: _) with
      | none => simp
      | some z => obtain ⟨o, r⟩ := z; simpa using unqL_len h
    · exact Nat.le_refl _
theorem nameS_len (l : List UInt8) : (nameS l).length ≤ 3 * l.length + 9 := by
  unfold nameS
  split
  · simp
  · split
    · have := quo_len l; omega
    · omega
theorem odd34 {l : List UInt8} (h : l.any oddB = false) : ∀ r, l ≠ 34 :: r := by
  rintro r rfl
  simp [oddB] at h
theorem dec_name (l : List UInt8) : decS (nameS l) = l := by
  unfold nameS
  split
  · rename_i h; subst h; simp [decS]
  · rename_i h0
    split
    · have hq : quo l = 34 :: (l.flatMap qb ++ [34]) := rfl
      have hu := unqL_quo l []
      rw [List.append_nil] at hu
      unfold decS
      rw [if_neg (by rw [hq]; simp)]
      rw [hq] at hu ⊢
      simp only [hu]; rfl
    · rename_i h
      have h1 : l ≠ nowh := fun e => h (.inl e)
      have h2 : l.any oddB = false := by simpa using fun e => h (.inr e)
      unfold decS
      rw [if_neg h1]
      split
      · rename_i r; exact absurd rfl (odd34 h2 r)
      · rfl
/-- Where quoted text is followed by more, it is not the name that it says. -/
theorem named_more {l o r : List UInt8} (h : unqL l = some (o, r)) (hr : r ≠ []) : nameS o ≠ l := by
  intro e
  have h34 : ∃ m, l = 34 :: m := by unfold unqL at h; split at h; exact ⟨_, rfl⟩; cases h
  obtain ⟨m, rfl⟩ := h34
  unfold nameS at e
  split at e
  · cases e
  · split at e
    · rw [← e] at h
      have := unqL_quo o []
      rw [List.append_nil, h] at this
      simp at this
      exact hr this
    · rename_i h2
      have h3 : o.any oddB = false := by simpa using fun e => h2 (.inr e)
      exact odd34 h3 m e
theorem named_bad {l : List UInt8} (h : unqL l = none) {m : List UInt8} (hl : l = 34 :: m) : nameS (decS l) ≠ l := by
  subst hl
  unfold decS
  rw [if_neg (by simp)]
  simp only [h]
  simp [nameS]
theorem named_name (l : List UInt8) : namedS (nameS l) = if 64 < l.length then ([], 253) else (l, 0) := by
  unfold namedS
  rw [dec_name]
  simp
end Go.Proofs.YtpbkdcfjlbdgfaaDoor
set_option linter.unusedVariables false
set_option linter.unusedSimpArgs false
namespace Go.Proofs.YtpbkdcfjlbdgfaaDoor
open Go Go.Ev
set_option maxRecDepth 100000
variable {G : World → Prop}
def C63 : Contract := pureC fun args => match args with
  | [.d (.v (.string s))] => some (s.size ≤ 1099511627776, .d (.v (str (nameS s.data.toList))))
  | _ => none
theorem any_snoc (q : List UInt8) (i : Nat) (h : i < q.length) : (q.take (i + 1)).any oddB = ((q.take i).any oddB || oddB (q.getD i 0)) := by
  rw [take_snoc q i h]; simp
theorem any_out (q : List UInt8) (i : Nat) (h : i < q.length) (h2 : oddB (q.getD i 0) = true) : q.any oddB = true := by
  rw [List.any_eq_true]
  refine ⟨q.getD i 0, ?_, h2⟩
  rw [List.getD_eq_getElem?_getD, List.getElem?_eq_getElem h]
  simp
theorem s63 : Sound G Tryd.prog 63 C63 := by
  refine sd63 (T := tabT [(39, C39)]) (tab_cons s39 tab_nil) (pureC_lawful _) (pure_hX fun args p x K h hp hk => ?_)
  split at h <;> simp only [Option.some.injEq, Prod.mk.injEq, reduceCtorEq] at h
  obtain ⟨rfl, rfl⟩ := h
  refine ⟨Nat.le_of_ble_eq_true rfl, ?_⟩
  rename_i s
  obtain ⟨q, rfl⟩ := ex_str s
  simp only [sem_str] at hk hp
  simp -dsimp -implicitDefEqProofs only [S63, R63, C39, ↓Ev.xStp_eq, ↓Ev.P, Ev.Q, eq_self, forall_eq_or_imp, implies_true, forall_const, forall_eq, ↓reduceIte, reduceIte, Nat.reduceEqDiff, Nat.reduceAdd, reduceCtorEq, Nat.reduceSub, Int.reduceToNat, Int.reduceLE, Int.reduceLT, Int.reduceNeg, Nat.reduceBEq, Nat.reduceMul, Nat.reduceLeDiff, Nat.reduceMod, UInt8.reduceOfNat, Nat.reduceLT, Int.reduceEq, Int.reduceAdd, Int.reduceSub, Int.reduceMul]
  refine xLoop_intro (fun n st => ∃ i : Nat, i ≤ q.length ∧ n = q.length - i ∧ 
      st = ⟨[(0, .d (.v (.string ⟨q.toArray⟩))), (3, .d (.v (.bool (decide (q = nowh) || (q.take i).any oddB)))), (8, .d (.v (.int .i64 q.length))), (9, .d (.v (.int .i64 i)))], 0, []⟩) q.length [] ?_ ?_ ?_
  · simp -dsimp -implicitDefEqProofs only [↓Ev.xStp_eq, ↓Ev.P, Ev.Q, eq_self, forall_eq_or_imp, implies_true, forall_const, forall_eq, ↓reduceIte, reduceIte, Nat.reduceEqDiff, Nat.reduceAdd, reduceCtorEq, Nat.reduceSub, Int.reduceToNat, Int.reduceLE, Int.reduceLT, Int.reduceNeg, Nat.reduceBEq, Nat.reduceMul, Nat.reduceLeDiff, Nat.reduceMod, UInt8.reduceOfNat, Nat.reduceLT, Int.reduceEq, Int.reduceAdd, Int.reduceSub, Int.reduceMul]
  · simp -dsimp -implicitDefEqProofs only [↓Ev.xStp_eq, ↓Ev.P, Ev.Q, eq_self, forall_eq_or_imp, implies_true, forall_const, forall_eq, ↓reduceIte, reduceIte, Nat.reduceEqDiff, Nat.reduceAdd, reduceCtorEq, Nat.reduceSub, Int.reduceToNat, Int.reduceLE, Int.reduceLT, Int.reduceNeg, Nat.reduceBEq, Nat.reduceMul, Nat.reduceLeDiff, Nat.reduceMod, UInt8.reduceOfNat, Nat.reduceLT, Int.reduceEq, Int.reduceAdd, Int.reduceSub, Int.reduceMul]
    refine ⟨0, by omega, by omega, by simp⟩
  · rintro n st ⟨i, hi, hn, rfl⟩
    simp -dsimp -implicitDefEqProofs only [C39, ↓Ev.xStp_eq, ↓Ev.P, Ev.Q, eq_self, forall_eq_or_imp, implies_true, forall_const, forall_eq, ↓reduceIte, reduceIte, Nat.reduceEqDiff, Nat.reduceAdd, reduceCtorEq, Nat.reduceSub, Int.reduceToNat, Int.reduceLE, Int.reduceLT, Int.reduceNeg, Nat.reduceBEq, Nat.reduceMul, Nat.reduceLeDiff, Nat.reduceMod, UInt8.reduceOfNat, Nat.reduceLT, Int.reduceEq, Int.reduceAdd, Int.reduceSub, Int.reduceMul]
    repeat' (first | with_reducible assumption | (with_reducible refine And.left (b := _) ?_; with_reducible assumption) | refine And.intro ?_ ?_ | intro _)
    all_goals try omega
    · rename_i hl
      refine xAgain_intro (q.length - (i + 1)) [] (by omega) (by simp -dsimp -implicitDefEqProofs only [↓Ev.xStp_eq, ↓Ev.P, Ev.Q, eq_self, forall_eq_or_imp, implies_true, forall_const, forall_eq, ↓reduceIte, reduceIte, Nat.reduceEqDiff, Nat.reduceAdd, reduceCtorEq, Nat.reduceSub, Int.reduceToNat, Int.reduceLE, Int.reduceLT, Int.reduceNeg, Nat.reduceBEq, Nat.reduceMul, Nat.reduceLeDiff, Nat.reduceMod, UInt8.reduceOfNat, Nat.reduceLT, Int.reduceEq, Int.reduceAdd, Int.reduceSub, Int.reduceMul]) ⟨i + 1, by omega, rfl, ?_⟩
      rw [any_snoc q i (by omega)]
      simp -dsimp -implicitDefEqProofs only [↓Ev.xStp_eq, ↓Ev.P, Ev.Q, eq_self, forall_eq_or_imp, implies_true, forall_const, forall_eq, ↓reduceIte, reduceIte, Nat.reduceEqDiff, Nat.reduceAdd, reduceCtorEq, Nat.reduceSub, Int.reduceToNat, Int.reduceLE, Int.reduceLT, Int.reduceNeg, Nat.reduceBEq, Nat.reduceMul, Nat.reduceLeDiff, Nat.reduceMod, UInt8.reduceOfNat, Nat.reduceLT, Int.reduceEq, Int.reduceAdd, Int.reduceSub, Int.reduceMul]
      simp [oddB, Bool.or_assoc]
    · rename_i hl h0
      have : nameS q = nowh := by rw [h0]; rfl
      rw [this] at hk; exact hk
    · rename_i hl h0 h1
      rw [List.take_of_length_le (by omega)] at h1
      have : nameS q = quo q := by rw [nameS, if_neg h0, if_pos h1]
      rw [this] at hk; exact hk
    · rename_i hl h0 h1
      rw [List.take_of_length_le (by omega)] at h1
      have : nameS q = q := by rw [nameS, if_neg h0, if_neg (by rintro (h | h); exact h1.1 h; rw [h] at h1; exact absurd h1.2 (by decide))]
      rw [this] at hk; exact hk
theorem s74 : Sound G Tryd.prog 74 C63 := by
  refine sd74 (T := tabT [(121, C39)]) (tab_cons s121 tab_nil) (pureC_lawful _) (pure_hX fun args p x K h hp hk => ?_)
  split at h <;> simp only [Option.some.injEq, Prod.mk.injEq, reduceCtorEq] at h
  obtain ⟨rfl, rfl⟩ := h
  refine ⟨Nat.le_of_ble_eq_true rfl, ?_⟩
  rename_i s
  obtain ⟨q, rfl⟩ := ex_str s
  simp only [sem_str] at hk hp
  simp -dsimp -implicitDefEqProofs only [S74, R74, C39, ↓Ev.xStp_eq, ↓Ev.P, Ev.Q, eq_self, forall_eq_or_imp, implies_true, forall_const, forall_eq, ↓reduceIte, reduceIte, Nat.reduceEqDiff, Nat.reduceAdd, reduceCtorEq, Nat.reduceSub, Int.reduceToNat, Int.reduceLE, Int.reduceLT, Int.reduceNeg, Nat.reduceBEq, Nat.reduceMul, Nat.reduceLeDiff, Nat.reduceMod, UInt8.reduceOfNat, Nat.reduceLT, Int.reduceEq, Int.reduceAdd, Int.reduceSub, Int.reduceMul]
  refine ⟨fun h0 => ?_, fun h0 => ?_⟩
  · have : nameS q = nowh := by rw [h0]; rfl
    rw [this] at hk; exact hk
  refine xLoop_intro (fun n st => ∃ i : Nat, i ≤ q.length ∧ n = q.length - i ∧ (q.take i).any oddB = false ∧
      st = ⟨[(0, .d (.v (.string ⟨q.toArray⟩))), (3, .d (.v (.int .i64 i)))], 0, []⟩) q.length [] ?_ ?_ ?_
  · simp -dsimp -implicitDefEqProofs only [↓Ev.xStp_eq, ↓Ev.P, Ev.Q, eq_self, forall_eq_or_imp, implies_true, forall_const, forall_eq, ↓reduceIte, reduceIte, Nat.reduceEqDiff, Nat.reduceAdd, reduceCtorEq, Nat.reduceSub, Int.reduceToNat, Int.reduceLE, Int.reduceLT, Int.reduceNeg, Nat.reduceBEq, Nat.reduceMul, Nat.reduceLeDiff, Nat.reduceMod, UInt8.reduceOfNat, Nat.reduceLT, Int.reduceEq, Int.reduceAdd, Int.reduceSub, Int.reduceMul]
  · simp -dsimp -implicitDefEqProofs only [↓Ev.xStp_eq, ↓Ev.P, Ev.Q, eq_self, forall_eq_or_imp, implies_true, forall_const, forall_eq, ↓reduceIte, reduceIte, Nat.reduceEqDiff, Nat.reduceAdd, reduceCtorEq, Nat.reduceSub, Int.reduceToNat, Int.reduceLE, Int.reduceLT, Int.reduceNeg, Nat.reduceBEq, Nat.reduceMul, Nat.reduceLeDiff, Nat.reduceMod, UInt8.reduceOfNat, Nat.reduceLT, Int.reduceEq, Int.reduceAdd, Int.reduceSub, Int.reduceMul]
    refine ⟨0, by omega, by omega, by simp, rfl⟩
  · rintro n st ⟨i, hi, hn, ho, rfl⟩
    simp -dsimp -implicitDefEqProofs only [C39, ↓Ev.xStp_eq, ↓Ev.P, Ev.Q, eq_self, forall_eq_or_imp, implies_true, forall_const, forall_eq, ↓reduceIte, reduceIte, Nat.reduceEqDiff, Nat.reduceAdd, reduceCtorEq, Nat.reduceSub, Int.reduceToNat, Int.reduceLE, Int.reduceLT, Int.reduceNeg, Nat.reduceBEq, Nat.reduceMul, Nat.reduceLeDiff, Nat.reduceMod, UInt8.reduceOfNat, Nat.reduceLT, Int.reduceEq, Int.reduceAdd, Int.reduceSub, Int.reduceMul]
    repeat' (first | with_reducible assumption | (with_reducible refine And.left (b := _) ?_; with_reducible assumption) | refine And.intro ?_ ?_ | intro _)
    all_goals try omega
    · rename_i hl h
      have h1 : oddB (q.getD i 0) = true := by simpa [oddB, or_assoc] using h
      have : nameS q = quo q := by rw [nameS, if_neg h0, if_pos (.inr (any_out q i (by omega) h1))]
      rw [this] at hk; exact hk
    · rename_i hl h
      refine xAgain_intro (q.length - (i + 1)) [] (by omega) (by simp -dsimp -implicitDefEqProofs only [↓Ev.xStp_eq, ↓Ev.P, Ev.Q, eq_self, forall_eq_or_imp, implies_true, forall_const, forall_eq, ↓reduceIte, reduceIte, Nat.reduceEqDiff, Nat.reduceAdd, reduceCtorEq, Nat.reduceSub, Int.reduceToNat, Int.reduceLE, Int.reduceLT, Int.reduceNeg, Nat.reduceBEq, Nat.reduceMul, Nat.reduceLeDiff, Nat.reduceMod, UInt8.reduceOfNat, Nat.reduceLT, Int.reduceEq, Int.reduceAdd, Int.reduceSub, Int.reduceMul]) ⟨i + 1, by omega, rfl, ?_, ?_⟩
      · rw [any_snoc q i (by omega), ho]; simpa [oddB, and_assoc] using h
      · simp -dsimp -implicitDefEqProofs only [↓Ev.xStp_eq, ↓Ev.P, Ev.Q, eq_self, forall_eq_or_imp, implies_true, forall_const, forall_eq, ↓reduceIte, reduceIte, Nat.reduceEqDiff, Nat.reduceAdd, reduceCtorEq, Nat.reduceSub, Int.reduceToNat, Int.reduceLE, Int.reduceLT, Int.reduceNeg, Nat.reduceBEq, Nat.reduceMul, Nat.reduceLeDiff, Nat.reduceMod, UInt8.reduceOfNat, Nat.reduceLT, Int.reduceEq, Int.reduceAdd, Int.reduceSub, Int.reduceMul]
        rfl
    · rename_i hl h
      have : nameS q = quo q := by rw [nameS, if_neg h0, if_pos (.inl h)]
      rw [this] at hk; exact hk
    · rename_i hl h
      rw [List.take_of_length_le (by omega)] at ho
      have : nameS q = q := by rw [nameS, if_neg h0, if_neg (by rintro (e | e); exact h e; rw [e] at ho; cases ho)]
      rw [this] at hk; exact hk
theorem s66 : Sound G Tryd.prog 66 C63 := by
  refine sd66 (T := tabT [(74, C63)]) (tab_cons s74 tab_nil) (pureC_lawful _) (pure_hX fun args p x K h hp hk => ?_)
  split at h <;> simp only [Option.some.injEq, Prod.mk.injEq, reduceCtorEq] at h
  obtain ⟨rfl, rfl⟩ := h
  refine ⟨Nat.le_of_ble_eq_true rfl, ?_⟩
  simp -dsimp -implicitDefEqProofs only [S66, R66, C63, ↓Ev.xStp_eq, ↓Ev.P, Ev.Q, eq_self, forall_eq_or_imp, implies_true, forall_const, forall_eq, ↓reduceIte, reduceIte, Nat.reduceEqDiff, Nat.reduceAdd, reduceCtorEq, Nat.reduceSub, Int.reduceToNat, Int.reduceLE, Int.reduceLT, Int.reduceNeg, Nat.reduceBEq, Nat.reduceMul, Nat.reduceLeDiff, Nat.reduceMod, UInt8.reduceOfNat, Nat.reduceLT, Int.reduceEq, Int.reduceAdd, Int.reduceSub, Int.reduceMul]
  exact ⟨hp, hk⟩
end Go.Proofs.YtpbkdcfjlbdgfaaDoor
