/- The compiled code of functions, by program (gen.py): each theorem says that the loaded program compiles to it. -/
import Derived.Test.YtpbkdcfjlbdgfaaDoorEvU
import Derived.Test.YtpbkdcfjlbdgfaaDoorProg
set_option linter.unusedVariables false
namespace Go.Proofs.YtpbkdcfjlbdgfaaDoor
open Go Go.Ev
set_option maxRecDepth 100000
theorem mo : Tryd.prog.follows .mixedOrders = true := by kernel_rfl

/-! 3: redline/redlinelaw12.NormalPrints -/
def A3 : Ann := ⟨fun r i => if r = 4 ∧ i = 11 then 1 else if r = 4 ∧ i = 16 then 1 else 0, fun _ => none, fun r => if r = 1 then some (false, [0, 1, 2]) else if r = 2 then some (false, [0, 1, 2, 7, 8]) else if r = 3 then some (false, [0, 1, 2, 7, 8, 9, 10]) else if r = 4 then some (false, [1, 2, 7, 8, 9, 10, 11, 12]) else none, fun _ => []⟩
def S3 : SCode :=
  (.seq (.ops [⟨none, (some 6), .mv 6 (.k (Value.bool false)), false⟩])
  (.seq (.seq (.keep [0, 1, 2]) (.ops [⟨none, (some 13), .bs 13 9 1 [], false⟩,
    ⟨none, (some 14), .mv 14 (.s 1), false⟩,
    ⟨none, (some 15), .ap 15 9 1 16 (.s 13) (.s 14), false⟩,
    ⟨none, (some 16), .bs 16 9 1 [], false⟩,
    ⟨none, (some 17), .mv 17 (.s 2), false⟩,
    ⟨none, (some 18), .ap 18 9 1 16 (.s 16) (.s 17), false⟩,
    ⟨none, (some 7), .mv 7 (.s 15), false⟩,
    ⟨none, (some 8), .mv 8 (.s 18), false⟩]))
  (.seq (.seq (.keep [0, 1, 2, 7, 8]) (.ops [⟨none, (some 20), .bs 20 74 4 [], false⟩,
    ⟨none, (some 21), .mv 21 (.s 0), false⟩,
    ⟨none, (some 22), .ap 22 74 4 32 (.s 20) (.s 21), false⟩,
    ⟨none, (some 23), .mv 23 (.s 7), false⟩,
    ⟨none, (some 24), .mv 24 (.s 8), false⟩,
    ⟨none, (some 25), .call (some 25) 13 false [(.s 22), (.s 23), (.s 24)], false⟩,
    ⟨none, (some 19), .mv 19 (.s 25), false⟩,
    ⟨none, (some 26), .ex 26 (.s 19) 0, false⟩,
    ⟨none, (some 27), .ex 27 (.s 19) 1, false⟩,
    ⟨none, (some 9), .mv 9 (.s 26), true⟩,
    ⟨none, (some 10), .mv 10 (.s 27), false⟩]))
  (.seq (.seq (.keep [0, 1, 2, 7, 8, 9, 10]) (.ops [⟨none, (some 29), .mv 29 (.s 0), false⟩,
    ⟨none, (some 30), .mv 30 (.s 1), false⟩,
    ⟨none, (some 31), .mv 31 (.s 2), false⟩,
    ⟨none, (some 32), .call (some 32) 14 false [(.s 29), (.s 30), (.s 31)], false⟩,
    ⟨none, (some 28), .mv 28 (.s 32), false⟩,
    ⟨none, (some 33), .ex 33 (.s 28) 0, false⟩,
    ⟨none, (some 34), .ex 34 (.s 28) 1, false⟩,
    ⟨none, (some 11), .mv 11 (.s 33), false⟩,
    ⟨none, (some 12), .mv 12 (.s 34), false⟩]))
  (.seq (.seq (.keep [1, 2, 7, 8, 9, 10, 11, 12]) (.ops [⟨none, (some 35), .mv 35 (.s 9), false⟩,
    ⟨none, (some 36), .mv 36 (.s 11), false⟩,
    ⟨none, (some 37), .bin 37 .eql (.s 35) (.s 36), false⟩,
    ⟨none, (some 38), .mv 38 (.s 37), false⟩,
    ⟨(some (38, true)), (some 39), .mv 39 (.s 10), false⟩,
    ⟨(some (38, true)), (some 40), .mv 40 (.s 12), false⟩,
    ⟨(some (38, true)), (some 41), .bin 41 .eql (.s 39) (.s 40), false⟩,
    ⟨none, (some 42), .pk 42 (.s 38) (.s 41) (.k (Value.bool false)), false⟩,
    ⟨none, (some 43), .mv 43 (.s 42), false⟩,
    ⟨(some (43, true)), (some 44), .mv 44 (.s 1), true⟩,
    ⟨(some (43, true)), (some 45), .mv 45 (.s 7), false⟩,
    ⟨(some (43, true)), (some 46), .call (some 46) 15 true [(.s 44), (.s 45)], false⟩,
    ⟨none, (some 47), .pk 47 (.s 43) (.s 46) (.k (Value.bool false)), false⟩,
    ⟨none, (some 48), .mv 48 (.s 47), false⟩,
    ⟨(some (48, true)), (some 49), .mv 49 (.s 2), false⟩,
    ⟨(some (48, true)), (some 50), .mv 50 (.s 8), false⟩,
    ⟨(some (48, true)), (some 51), .call (some 51) 15 true [(.s 49), (.s 50)], false⟩,
    ⟨none, (some 52), .pk 52 (.s 48) (.s 51) (.k (Value.bool false)), false⟩,
    ⟨none, (some 6), .mv 6 (.s 52), false⟩]))
  .ret)))))
theorem cc3 : (Tryd.f3.body).bind (cc Tryd.prog Tryd.f3.ntmps A3) = some S3 := by kernel_rfl
def R3 : List RR := [.sl 6]
theorem cr3 : Tryd.f3.results.toList.map (crr Tryd.prog) = R3.map some := by kernel_rfl
theorem nm3 : (Tryd.f3.name == "runtime.NumGoroutine") = false := by kernel_rfl
theorem fn3 : Tryd.prog.funcs[3]? = some Tryd.f3 := by kernel_rfl
theorem bd3 : ∃ b, Tryd.f3.body = some b ∧ cc Tryd.prog Tryd.f3.ntmps A3 b = some S3 := Option.bind_eq_some_iff.1 cc3
theorem sd3 {G : World → Prop} {T : FuncId → Contract} {C : Contract} (hT : ∀ f, Sound G Tryd.prog f (T f)) (hl : C.lawful) (hC : ∀ args st K, C.wp args st K → args.length ≤ 53 ∧ ∃ os op, xv T st.n S3 (st0 args st) (retK R3 st.n os K) (panK st.n op K)) : Sound G Tryd.prog 3 C := by
  obtain ⟨b, hb, hc⟩ := bd3
  rw [xv_eq] at hC
  exact sound_of_ev mo fn3 hb nm3 hc cr3 hT hl hC

/-! 13: redline/normal.Print -/
def A13 : Ann := ⟨fun r i => if r = 4 ∧ i = 0 then 7 else 0, fun r => if r = 8 then some ([], [(0, true), (2, true), (5, true), (7, true), (1, true), (3, true), (6, true), (8, true), (4, false), (9, false), (10, true), (11, true), (12, true)]) else none, fun r => if r = 1 then some (false, [0, 1, 2]) else if r = 3 then some (false, [8]) else if r = 5 then some (false, [0, 1, 2, 9]) else if r = 7 then some (false, [1, 2, 9, 24, 25, 26]) else if r = 8 then some (false, [1, 2, 9, 11, 24, 25, 26]) else if r = 9 then some (false, [1, 2, 9, 11, 12, 13, 14, 24, 25, 26]) else if r = 10 then some (false, [1, 2, 9, 11, 13, 24, 25, 26]) else if r = 11 then some (false, [1, 2, 9, 11, 12, 13, 14, 24, 25, 26]) else if r = 12 then some (false, [1, 2, 9, 11, 12, 24, 25, 26]) else if r = 13 then some (false, [1, 2, 9, 11, 12, 13, 14, 24, 25, 26]) else if r = 14 then some (false, [1, 2, 9, 11, 14, 24, 25, 26]) else if r = 17 then some (false, [1, 2, 9, 11, 24, 25, 26]) else if r = 19 then some (false, [9]) else none, fun r => if r = 6 then [1, 2, 9, 24, 25, 26] else []⟩
def S13_0 : SCode :=
  (.ops [⟨none, (some 6), .mv 6 (.k (Value.string ⟨#[]⟩)), false⟩,
    ⟨none, (some 7), .mv 7 (.k (Value.int .i64 0)), false⟩])
def S13_1 : SCode :=
  (.seq (.seq (.keep [0, 1, 2]) (.ops [⟨none, (some 15), .mv 15 (.s 0), false⟩,
    ⟨none, (some 16), .mv 16 (.s 1), false⟩,
    ⟨none, (some 17), .len 17 (.s 16), false⟩,
    ⟨none, (some 18), .mv 18 (.s 2), false⟩,
    ⟨none, (some 19), .len 19 (.s 18), false⟩,
    ⟨none, (some 20), .call (some 20) 41 false [(.s 15), (.s 17), (.s 19)], false⟩,
    ⟨none, (some 8), .mv 8 (.s 20), false⟩]))
  (.seq (.ops [⟨none, (some 21), .mv 21 (.s 8), false⟩,
    ⟨none, (some 22), .bin 22 .neq (.s 21) (.k (Value.int .i64 0)), false⟩])
  (.cond (.s 22) (.seq (.seq (.keep [8]) (.ops [⟨none, (some 23), .mv 23 (.s 8), false⟩,
    ⟨none, (some 6), .mv 6 (.k (Value.string ⟨#[]⟩)), false⟩,
    ⟨none, (some 7), .mv 7 (.s 23), false⟩]))
  .ret) .skip)))
def S13_2 : SCode :=
  (.ops [⟨none, (some 9), .alb 9 72 5, false⟩])
def S13_3 : SCode :=
  (.seq (.seq (.keep [0, 1, 2, 9]) (.ops [⟨none, (some 24), .mv 24 (.s 0), false⟩,
    ⟨none, (some 25), .len 25 (.s 24), false⟩,
    ⟨none, (some 26), .mv 26 (.k (Value.int .i64 0)), false⟩]))
  (.block 0 (.loop [1, 2, 9, 24, 25, 26] (.seq (.ops [⟨none, (some 27), .bin 27 .lss (.s 26) (.s 25), false⟩])
  (.seq (.cond (.s 27) .skip (.exit 0))
  (.seq (.block 1 (.seq (.seq (.keep [1, 2, 9, 24, 25, 26]) (.ops [⟨none, (some 28), .ia 28 4 (.s 24) (.s 26), false⟩,
    ⟨none, (some 29), .ld 29 true 4 (.s 28), false⟩,
    ⟨none, (some 11), .al 11 74 [(Value.int .i64 0), (Value.int .i64 0), (Value.int .i64 0), (Value.int .i64 0)], false⟩,
    ⟨none, none, .st true 4 (.s 11) (.s 29), false⟩]))
  (.seq (.seq (.keep [1, 2, 9, 11, 24, 25, 26]) (.dr [] [(0, true, ⟨none, (some 30), .fa 30 0 (.s 11), false⟩),
    (2, true, ⟨none, (some 32), .fa 32 1 (.s 11), false⟩),
    (5, true, ⟨none, (some 35), .fa 35 2 (.s 11), false⟩),
    (7, true, ⟨none, (some 37), .fa 37 3 (.s 11), false⟩),
    (1, true, ⟨none, (some 31), .ld 31 false 1 (.s 30), false⟩),
    (3, true, ⟨none, (some 33), .ld 33 false 1 (.s 32), false⟩),
    (6, true, ⟨none, (some 36), .ld 36 false 1 (.s 35), false⟩),
    (8, true, ⟨none, (some 38), .ld 38 false 1 (.s 37), false⟩),
    (4, false, ⟨none, (some 34), .call (some 34) 42 false [(.s 31), (.s 33)], false⟩),
    (9, false, ⟨none, (some 39), .call (some 39) 42 false [(.s 36), (.s 38)], true⟩),
    (10, true, ⟨none, (some 12), .mv 12 (.s 34), false⟩),
    (11, true, ⟨none, (some 13), .mv 13 (.s 39), false⟩),
    (12, true, ⟨none, (some 14), .mv 14 (.k (Value.string ⟨#[99]⟩)), false⟩)]))
  (.seq (.seq (.seq (.keep [1, 2, 9, 11, 12, 13, 14, 24, 25, 26]) (.ops [⟨none, (some 40), .fa 40 1 (.s 11), false⟩,
    ⟨none, (some 41), .ld 41 false 1 (.s 40), false⟩,
    ⟨none, (some 42), .bin 42 .eql (.s 41) (.k (Value.int .i64 0)), false⟩]))
  (.cond (.s 42) (.seq (.keep [1, 2, 9, 11, 13, 24, 25, 26]) (.ops [⟨none, (some 43), .fa 43 0 (.s 11), false⟩,
    ⟨none, (some 44), .ld 44 false 1 (.s 43), false⟩,
    ⟨none, (some 45), .call (some 45) 32 false [(.s 44)], false⟩,
    ⟨none, (some 12), .mv 12 (.s 45), false⟩,
    ⟨none, (some 14), .mv 14 (.k (Value.string ⟨#[97]⟩)), false⟩])) .skip))
  (.seq (.seq (.seq (.keep [1, 2, 9, 11, 12, 13, 14, 24, 25, 26]) (.ops [⟨none, (some 46), .fa 46 3 (.s 11), false⟩,
    ⟨none, (some 47), .ld 47 false 1 (.s 46), false⟩,
    ⟨none, (some 48), .bin 48 .eql (.s 47) (.k (Value.int .i64 0)), false⟩]))
  (.cond (.s 48) (.seq (.keep [1, 2, 9, 11, 12, 24, 25, 26]) (.ops [⟨none, (some 49), .fa 49 2 (.s 11), false⟩,
    ⟨none, (some 50), .ld 50 false 1 (.s 49), false⟩,
    ⟨none, (some 51), .call (some 51) 32 false [(.s 50)], false⟩,
    ⟨none, (some 13), .mv 13 (.s 51), false⟩,
    ⟨none, (some 14), .mv 14 (.k (Value.string ⟨#[100]⟩)), false⟩])) .skip))
  (.seq (.seq (.keep [1, 2, 9, 11, 12, 13, 14, 24, 25, 26]) (.ops [⟨none, (some 52), .fa 52 0 (.s 9), false⟩,
    ⟨none, (some 53), .mv 53 (.s 12), false⟩,
    ⟨none, (some 54), .mv 54 (.s 14), false⟩,
    ⟨none, (some 55), .bin 55 .add (.s 53) (.s 54), false⟩,
    ⟨none, (some 56), .mv 56 (.s 13), false⟩,
    ⟨none, (some 57), .bin 57 .add (.s 55) (.s 56), false⟩,
    ⟨none, (some 58), .bin 58 .add (.s 57) (.k (Value.string ⟨#[10]⟩)), false⟩,
    ⟨none, (some 59), .call (some 59) 43 false [(.s 52), (.s 58)], false⟩]))
  (.seq (.seq (.keep [1, 2, 9, 11, 14, 24, 25, 26]) (.ops [⟨none, (some 60), .mv 60 (.s 1), false⟩,
    ⟨none, (some 61), .fa 61 0 (.s 11), false⟩,
    ⟨none, (some 62), .ld 62 false 1 (.s 61), false⟩,
    ⟨none, (some 63), .fa 63 0 (.s 11), false⟩,
    ⟨none, (some 64), .ld 64 false 1 (.s 63), false⟩,
    ⟨none, (some 65), .fa 65 1 (.s 11), false⟩,
    ⟨none, (some 66), .ld 66 false 1 (.s 65), false⟩,
    ⟨none, (some 67), .binc 67 .add (.s 64) (.s 66), false⟩,
    ⟨none, (some 68), .slr 68 1 (.s 60) (some (.s 62)) (some (.s 67)), false⟩,
    ⟨none, (some 69), .call (some 69) 44 false [(.s 9), (.k (Value.string ⟨#[60, 32]⟩)), (.s 68)], true⟩]))
  (.seq (.seq (.ops [⟨none, (some 70), .mv 70 (.s 14), false⟩,
    ⟨none, (some 71), .bin 71 .eql (.s 70) (.k (Value.string ⟨#[99]⟩)), false⟩])
  (.cond (.s 71) (.ops [⟨none, (some 72), .fa 72 0 (.s 9), false⟩,
    ⟨none, (some 73), .call (some 73) 43 false [(.s 72), (.k (Value.string ⟨#[45, 45, 45, 10]⟩))], false⟩]) .skip))
  (.seq (.keep [1, 2, 9, 11, 24, 25, 26]) (.ops [⟨none, (some 74), .mv 74 (.s 2), false⟩,
    ⟨none, (some 75), .fa 75 2 (.s 11), false⟩,
    ⟨none, (some 76), .ld 76 false 1 (.s 75), false⟩,
    ⟨none, (some 77), .fa 77 2 (.s 11), false⟩,
    ⟨none, (some 78), .ld 78 false 1 (.s 77), false⟩,
    ⟨none, (some 79), .fa 79 3 (.s 11), false⟩,
    ⟨none, (some 80), .ld 80 false 1 (.s 79), false⟩,
    ⟨none, (some 81), .binc 81 .add (.s 78) (.s 80), false⟩,
    ⟨none, (some 82), .slr 82 1 (.s 74) (some (.s 76)) (some (.s 81)), false⟩,
    ⟨none, (some 83), .call (some 83) 44 false [(.s 9), (.k (Value.string ⟨#[62, 32]⟩)), (.s 82)], true⟩]))))))))))
  (.ops [⟨none, (some 84), .binc 84 .add (.s 26) (.k (Value.int .i64 1)), false⟩,
    ⟨none, (some 26), .mv 26 (.s 84), false⟩])))))))
def S13_4 : SCode :=
  (.seq (.keep [9]) (.ops [⟨none, (some 85), .fa 85 0 (.s 9), false⟩,
    ⟨none, (some 86), .call (some 86) 45 false [(.s 85)], false⟩,
    ⟨none, (some 6), .mv 6 (.s 86), false⟩,
    ⟨none, (some 7), .mv 7 (.k (Value.int .i64 0)), false⟩]))
def S13r5 : SCode := .ret
def S13r4 : SCode := .seq S13_4 S13r5
def S13r3 : SCode := .seq S13_3 S13r4
def S13r2 : SCode := .seq S13_2 S13r3
def S13r1 : SCode := .seq S13_1 S13r2
def S13 : SCode := .seq S13_0 S13r1
theorem cc13 : (Tryd.f13.body).bind (cc Tryd.prog Tryd.f13.ntmps A13) = some S13 := by kernel_rfl
def R13 : List RR := [.sl 6, .sl 7]
theorem cr13 : Tryd.f13.results.toList.map (crr Tryd.prog) = R13.map some := by kernel_rfl
theorem nm13 : (Tryd.f13.name == "runtime.NumGoroutine") = false := by kernel_rfl
theorem fn13 : Tryd.prog.funcs[13]? = some Tryd.f13 := by kernel_rfl
theorem bd13 : ∃ b, Tryd.f13.body = some b ∧ cc Tryd.prog Tryd.f13.ntmps A13 b = some S13 := Option.bind_eq_some_iff.1 cc13
theorem sd13 {G : World → Prop} {T : FuncId → Contract} {C : Contract} (hT : ∀ f, Sound G Tryd.prog f (T f)) (hl : C.lawful) (hC : ∀ args st K, C.wp args st K → args.length ≤ 87 ∧ ∃ os op, xv T st.n S13 (st0 args st) (retK R13 st.n os K) (panK st.n op K)) : Sound G Tryd.prog 13 C := by
  obtain ⟨b, hb, hc⟩ := bd13
  rw [xv_eq] at hC
  exact sound_of_ev mo fn13 hb nm13 hc cr13 hT hl hC

/-! 14: redline/redlineref12.Print -/
def A14 : Ann := ⟨fun _ _ => 0, fun _ => none, fun r => if r = 1 then some (false, [0, 1, 2]) else if r = 3 then some (false, [8]) else if r = 6 then some (false, [0, 1, 2, 9, 10]) else if r = 7 then some (false, [0, 1, 2, 9, 10]) else if r = 8 then some (false, [0, 1, 2, 9, 10]) else if r = 9 then some (false, [9]) else none, fun r => if r = 6 then [0, 1, 2, 9, 10] else []⟩
def S14 : SCode :=
  (.seq (.ops [⟨none, (some 6), .mv 6 (.k (Value.string ⟨#[]⟩)), false⟩,
    ⟨none, (some 7), .mv 7 (.k (Value.int .i64 0)), false⟩])
  (.seq (.seq (.keep [0, 1, 2]) (.ops [⟨none, (some 11), .mv 11 (.s 0), false⟩,
    ⟨none, (some 12), .mv 12 (.s 1), false⟩,
    ⟨none, (some 13), .len 13 (.s 12), false⟩,
    ⟨none, (some 14), .mv 14 (.s 2), false⟩,
    ⟨none, (some 15), .len 15 (.s 14), false⟩,
    ⟨none, (some 16), .call (some 16) 46 false [(.s 11), (.s 13), (.s 15)], false⟩,
    ⟨none, (some 8), .mv 8 (.s 16), false⟩]))
  (.seq (.seq (.ops [⟨none, (some 17), .mv 17 (.s 8), false⟩,
    ⟨none, (some 18), .bin 18 .neq (.s 17) (.k (Value.int .i64 0)), false⟩])
  (.cond (.s 18) (.seq (.seq (.keep [8]) (.ops [⟨none, (some 19), .mv 19 (.s 8), false⟩,
    ⟨none, (some 6), .mv 6 (.k (Value.string ⟨#[]⟩)), false⟩,
    ⟨none, (some 7), .mv 7 (.s 19), false⟩]))
  .ret) .skip))
  (.seq (.ops [⟨none, (some 9), .mv 9 (.k (Value.string ⟨#[]⟩)), false⟩])
  (.seq (.seq (.ops [⟨none, (some 10), .mv 10 (.k (Value.int .i64 0)), false⟩])
  (.block 0 (.loop [0, 1, 2, 9, 10] (.seq (.seq (.seq (.keep [0, 1, 2, 9, 10]) (.ops [⟨none, (some 20), .mv 20 (.s 10), false⟩,
    ⟨none, (some 21), .mv 21 (.s 0), false⟩,
    ⟨none, (some 22), .len 22 (.s 21), false⟩,
    ⟨none, (some 23), .bin 23 .lss (.s 20) (.s 22), false⟩]))
  (.cond (.s 23) .skip (.exit 0)))
  (.seq (.block 1 (.seq (.keep [0, 1, 2, 9, 10]) (.ops [⟨none, (some 26), .mv 26 (.s 9), false⟩,
    ⟨none, (some 27), .mv 27 (.s 0), false⟩,
    ⟨none, (some 28), .mv 28 (.s 10), false⟩,
    ⟨none, (some 29), .ia 29 4 (.s 27) (.s 28), false⟩,
    ⟨none, (some 30), .ld 30 true 4 (.s 29), false⟩,
    ⟨none, (some 31), .mv 31 (.s 1), false⟩,
    ⟨none, (some 32), .mv 32 (.s 2), false⟩,
    ⟨none, (some 33), .call (some 33) 47 false [(.s 30), (.s 31), (.s 32)], false⟩,
    ⟨none, (some 34), .bin 34 .add (.s 26) (.s 33), false⟩,
    ⟨none, (some 9), .mv 9 (.s 34), true⟩])))
  (.seq (.keep [0, 1, 2, 9, 10]) (.ops [⟨none, (some 24), .mv 24 (.s 10), false⟩,
    ⟨none, (some 25), .binc 25 .add (.s 24) (.k (Value.int .i64 1)), false⟩,
    ⟨none, (some 10), .mv 10 (.s 25), false⟩])))))))
  (.seq (.seq (.keep [9]) (.ops [⟨none, (some 35), .mv 35 (.s 9), false⟩,
    ⟨none, (some 6), .mv 6 (.s 35), false⟩,
    ⟨none, (some 7), .mv 7 (.k (Value.int .i64 0)), false⟩]))
  .ret))))))
theorem cc14 : (Tryd.f14.body).bind (cc Tryd.prog Tryd.f14.ntmps A14) = some S14 := by kernel_rfl
def R14 : List RR := [.sl 6, .sl 7]
theorem cr14 : Tryd.f14.results.toList.map (crr Tryd.prog) = R14.map some := by kernel_rfl
theorem nm14 : (Tryd.f14.name == "runtime.NumGoroutine") = false := by kernel_rfl
theorem fn14 : Tryd.prog.funcs[14]? = some Tryd.f14 := by kernel_rfl
theorem bd14 : ∃ b, Tryd.f14.body = some b ∧ cc Tryd.prog Tryd.f14.ntmps A14 b = some S14 := Option.bind_eq_some_iff.1 cc14
theorem sd14 {G : World → Prop} {T : FuncId → Contract} {C : Contract} (hT : ∀ f, Sound G Tryd.prog f (T f)) (hl : C.lawful) (hC : ∀ args st K, C.wp args st K → args.length ≤ 36 ∧ ∃ os op, xv T st.n S14 (st0 args st) (retK R14 st.n os K) (panK st.n op K)) : Sound G Tryd.prog 14 C := by
  obtain ⟨b, hb, hc⟩ := bd14
  rw [xv_eq] at hC
  exact sound_of_ev mo fn14 hb nm14 hc cr14 hT hl hC

/-! 15: redline/redlineref01.SameStrings -/
def A15 : Ann := ⟨fun _ _ => 0, fun r => if r = 6 then some ([], [(0, true), (1, true), (2, true), (4, true), (5, true), (6, true), (3, true), (7, true), (8, true)]) else none, fun r => if r = 1 then some (false, [0, 1]) else if r = 4 then some (false, [0, 1, 5]) else if r = 5 then some (false, [0, 1, 5]) else if r = 6 then some (false, [0, 1, 5]) else none, fun r => if r = 4 then [0, 1, 5] else []⟩
def S15 : SCode :=
  (.seq (.ops [⟨none, (some 4), .mv 4 (.k (Value.bool false)), false⟩])
  (.seq (.seq (.seq (.keep [0, 1]) (.ops [⟨none, (some 6), .mv 6 (.s 0), false⟩,
    ⟨none, (some 7), .len 7 (.s 6), false⟩,
    ⟨none, (some 8), .mv 8 (.s 1), false⟩,
    ⟨none, (some 9), .len 9 (.s 8), false⟩,
    ⟨none, (some 10), .bin 10 .neq (.s 7) (.s 9), false⟩]))
  (.cond (.s 10) (.seq (.ops [⟨none, (some 4), .mv 4 (.k (Value.bool false)), false⟩])
  .ret) .skip))
  (.seq (.seq (.ops [⟨none, (some 5), .mv 5 (.k (Value.int .i64 0)), false⟩])
  (.block 0 (.loop [0, 1, 5] (.seq (.seq (.seq (.keep [0, 1, 5]) (.ops [⟨none, (some 11), .mv 11 (.s 5), false⟩,
    ⟨none, (some 12), .mv 12 (.s 0), false⟩,
    ⟨none, (some 13), .len 13 (.s 12), false⟩,
    ⟨none, (some 14), .bin 14 .lss (.s 11) (.s 13), false⟩]))
  (.cond (.s 14) .skip (.exit 0)))
  (.seq (.block 1 (.seq (.seq (.keep [0, 1, 5]) (.dr [] [(0, true, ⟨none, (some 17), .mv 17 (.s 0), false⟩),
    (1, true, ⟨none, (some 18), .mv 18 (.s 5), false⟩),
    (2, true, ⟨none, (some 19), .ia 19 1 (.s 17) (.s 18), false⟩),
    (4, true, ⟨none, (some 21), .mv 21 (.s 1), false⟩),
    (5, true, ⟨none, (some 22), .mv 22 (.s 5), false⟩),
    (6, true, ⟨none, (some 23), .ia 23 1 (.s 21) (.s 22), false⟩),
    (3, true, ⟨none, (some 20), .ld 20 false 1 (.s 19), false⟩),
    (7, true, ⟨none, (some 24), .ld 24 false 1 (.s 23), false⟩),
    (8, true, ⟨none, (some 25), .bin 25 .neq (.s 20) (.s 24), false⟩)]))
  (.cond (.s 25) (.seq (.ops [⟨none, (some 4), .mv 4 (.k (Value.bool false)), false⟩])
  .ret) .skip)))
  (.seq (.keep [0, 1, 5]) (.ops [⟨none, (some 15), .mv 15 (.s 5), false⟩,
    ⟨none, (some 16), .binc 16 .add (.s 15) (.k (Value.int .i64 1)), false⟩,
    ⟨none, (some 5), .mv 5 (.s 16), false⟩])))))))
  (.seq (.ops [⟨none, (some 4), .mv 4 (.k (Value.bool true)), false⟩])
  .ret))))
theorem cc15 : (Tryd.f15.body).bind (cc Tryd.prog Tryd.f15.ntmps A15) = some S15 := by kernel_rfl
def R15 : List RR := [.sl 4]
theorem cr15 : Tryd.f15.results.toList.map (crr Tryd.prog) = R15.map some := by kernel_rfl
theorem nm15 : (Tryd.f15.name == "runtime.NumGoroutine") = false := by kernel_rfl
theorem fn15 : Tryd.prog.funcs[15]? = some Tryd.f15 := by kernel_rfl
theorem bd15 : ∃ b, Tryd.f15.body = some b ∧ cc Tryd.prog Tryd.f15.ntmps A15 b = some S15 := Option.bind_eq_some_iff.1 cc15
theorem sd15 {G : World → Prop} {T : FuncId → Contract} {C : Contract} (hT : ∀ f, Sound G Tryd.prog f (T f)) (hl : C.lawful) (hC : ∀ args st K, C.wp args st K → args.length ≤ 26 ∧ ∃ os op, xv T st.n S15 (st0 args st) (retK R15 st.n os K) (panK st.n op K)) : Sound G Tryd.prog 15 C := by
  obtain ⟨b, hb, hc⟩ := bd15
  rw [xv_eq] at hC
  exact sound_of_ev mo fn15 hb nm15 hc cr15 hT hl hC

/-! 32: redline/num.Text -/
def A32 : Ann := ⟨fun _ _ => 0, fun _ => none, fun r => if r = 1 then some (false, [0]) else none, fun _ => []⟩
def S32 : SCode :=
  (.seq (.ops [⟨none, (some 2), .mv 2 (.k (Value.string ⟨#[]⟩)), false⟩])
  (.seq (.seq (.keep [0]) (.ops [⟨none, (some 3), .mv 3 (.s 0), false⟩,
    ⟨none, (some 4), .call (some 4) 79 false [(.s 3)], false⟩,
    ⟨none, (some 2), .mv 2 (.s 4), false⟩]))
  .ret))
theorem cc32 : (Tryd.f32.body).bind (cc Tryd.prog Tryd.f32.ntmps A32) = some S32 := by kernel_rfl
def R32 : List RR := [.sl 2]
theorem cr32 : Tryd.f32.results.toList.map (crr Tryd.prog) = R32.map some := by kernel_rfl
theorem nm32 : (Tryd.f32.name == "runtime.NumGoroutine") = false := by kernel_rfl
theorem fn32 : Tryd.prog.funcs[32]? = some Tryd.f32 := by kernel_rfl
theorem bd32 : ∃ b, Tryd.f32.body = some b ∧ cc Tryd.prog Tryd.f32.ntmps A32 b = some S32 := Option.bind_eq_some_iff.1 cc32
theorem sd32 {G : World → Prop} {T : FuncId → Contract} {C : Contract} (hT : ∀ f, Sound G Tryd.prog f (T f)) (hl : C.lawful) (hC : ∀ args st K, C.wp args st K → args.length ≤ 5 ∧ ∃ os op, xv T st.n S32 (st0 args st) (retK R32 st.n os K) (panK st.n op K)) : Sound G Tryd.prog 32 C := by
  obtain ⟨b, hb, hc⟩ := bd32
  rw [xv_eq] at hC
  exact sound_of_ev mo fn32 hb nm32 hc cr32 hT hl hC

/-! 33: redline/redlineref01.Text -/
def A33 : Ann := ⟨fun _ _ => 0, fun _ => none, fun r => if r = 2 then some (false, [0]) else if r = 3 then some (false, [0]) else none, fun _ => []⟩
def S33 : SCode :=
  (.seq (.ops [⟨none, (some 2), .mv 2 (.k (Value.string ⟨#[]⟩)), false⟩])
  (.seq (.seq (.ops [⟨none, (some 3), .mv 3 (.s 0), false⟩,
    ⟨none, (some 4), .bin 4 .lss (.s 3) (.k (Value.int .i64 0)), false⟩])
  (.cond (.s 4) (.seq (.seq (.keep [0]) (.ops [⟨none, (some 5), .mv 5 (.s 0), false⟩,
    ⟨none, (some 6), .cvi 6 .u64 (.s 5), false⟩,
    ⟨none, (some 7), .neg 7 (.s 6), false⟩,
    ⟨none, (some 8), .call (some 8) 80 false [(.s 7)], false⟩,
    ⟨none, (some 9), .bin 9 .add (.k (Value.string ⟨#[45]⟩)) (.s 8), false⟩,
    ⟨none, (some 2), .mv 2 (.s 9), false⟩]))
  .ret) .skip))
  (.seq (.seq (.keep [0]) (.ops [⟨none, (some 10), .mv 10 (.s 0), false⟩,
    ⟨none, (some 11), .cvi 11 .u64 (.s 10), false⟩,
    ⟨none, (some 12), .call (some 12) 80 false [(.s 11)], false⟩,
    ⟨none, (some 2), .mv 2 (.s 12), false⟩]))
  .ret)))
theorem cc33 : (Tryd.f33.body).bind (cc Tryd.prog Tryd.f33.ntmps A33) = some S33 := by kernel_rfl
def R33 : List RR := [.sl 2]
theorem cr33 : Tryd.f33.results.toList.map (crr Tryd.prog) = R33.map some := by kernel_rfl
theorem nm33 : (Tryd.f33.name == "runtime.NumGoroutine") = false := by kernel_rfl
theorem fn33 : Tryd.prog.funcs[33]? = some Tryd.f33 := by kernel_rfl
theorem bd33 : ∃ b, Tryd.f33.body = some b ∧ cc Tryd.prog Tryd.f33.ntmps A33 b = some S33 := Option.bind_eq_some_iff.1 cc33
theorem sd33 {G : World → Prop} {T : FuncId → Contract} {C : Contract} (hT : ∀ f, Sound G Tryd.prog f (T f)) (hl : C.lawful) (hC : ∀ args st K, C.wp args st K → args.length ≤ 13 ∧ ∃ os op, xv T st.n S33 (st0 args st) (retK R33 st.n os K) (panK st.n op K)) : Sound G Tryd.prog 33 C := by
  obtain ⟨b, hb, hc⟩ := bd33
  rw [xv_eq] at hC
  exact sound_of_ev mo fn33 hb nm33 hc cr33 hT hl hC

/-! 80: redline/redlineref01.digits -/
def A80 : Ann := ⟨fun _ _ => 0, fun _ => none, fun r => if r = 1 then some (false, [0]) else if r = 2 then some (false, [0, 3]) else if r = 4 then some (false, [0, 3]) else if r = 5 then some (false, [0, 3]) else none, fun r => if r = 3 then [0, 3] else []⟩
def S80 : SCode :=
  (.seq (.ops [⟨none, (some 2), .mv 2 (.k (Value.string ⟨#[]⟩)), false⟩])
  (.seq (.seq (.keep [0]) (.ops [⟨none, (some 4), .mv 4 (.s 0), false⟩,
    ⟨none, (some 5), .bin 5 .rem (.s 4) (.k (Value.int .u64 10)), false⟩,
    ⟨none, (some 6), .bin 6 .add (.k (Value.int .u64 48)) (.s 5), false⟩,
    ⟨none, (some 7), .cvi 7 .u8 (.s 6), false⟩,
    ⟨none, (some 8), .bs 8 5 1 [(.s 7)], false⟩,
    ⟨none, (some 9), .b2s 9 (.s 8), false⟩,
    ⟨none, (some 3), .mv 3 (.s 9), false⟩]))
  (.seq (.seq (.seq (.keep [0, 3]) (.ops [⟨none, (some 10), .mv 10 (.s 0), false⟩,
    ⟨none, (some 11), .bin 11 .quo (.s 10) (.k (Value.int .u64 10)), false⟩,
    ⟨none, (some 0), .mv 0 (.s 11), false⟩]))
  (.block 0 (.loop [0, 3] (.seq (.seq (.ops [⟨none, (some 12), .mv 12 (.s 0), false⟩,
    ⟨none, (some 13), .bin 13 .gtr (.s 12) (.k (Value.int .u64 0)), false⟩])
  (.cond (.s 13) .skip (.exit 0)))
  (.seq (.block 1 (.seq (.keep [0, 3]) (.ops [⟨none, (some 16), .mv 16 (.s 0), false⟩,
    ⟨none, (some 17), .bin 17 .rem (.s 16) (.k (Value.int .u64 10)), false⟩,
    ⟨none, (some 18), .bin 18 .add (.k (Value.int .u64 48)) (.s 17), false⟩,
    ⟨none, (some 19), .cvi 19 .u8 (.s 18), false⟩,
    ⟨none, (some 20), .bs 20 5 1 [(.s 19)], false⟩,
    ⟨none, (some 21), .b2s 21 (.s 20), false⟩,
    ⟨none, (some 22), .mv 22 (.s 3), false⟩,
    ⟨none, (some 23), .bin 23 .add (.s 21) (.s 22), false⟩,
    ⟨none, (some 3), .mv 3 (.s 23), false⟩])))
  (.seq (.keep [0, 3]) (.ops [⟨none, (some 14), .mv 14 (.s 0), false⟩,
    ⟨none, (some 15), .bin 15 .quo (.s 14) (.k (Value.int .u64 10)), false⟩,
    ⟨none, (some 0), .mv 0 (.s 15), false⟩])))))))
  (.seq (.ops [⟨none, (some 24), .mv 24 (.s 3), false⟩,
    ⟨none, (some 2), .mv 2 (.s 24), false⟩])
  .ret))))
theorem cc80 : (Tryd.f80.body).bind (cc Tryd.prog Tryd.f80.ntmps A80) = some S80 := by kernel_rfl
def R80 : List RR := [.sl 2]
theorem cr80 : Tryd.f80.results.toList.map (crr Tryd.prog) = R80.map some := by kernel_rfl
theorem nm80 : (Tryd.f80.name == "runtime.NumGoroutine") = false := by kernel_rfl
theorem fn80 : Tryd.prog.funcs[80]? = some Tryd.f80 := by kernel_rfl
theorem bd80 : ∃ b, Tryd.f80.body = some b ∧ cc Tryd.prog Tryd.f80.ntmps A80 b = some S80 := Option.bind_eq_some_iff.1 cc80
theorem sd80 {G : World → Prop} {T : FuncId → Contract} {C : Contract} (hT : ∀ f, Sound G Tryd.prog f (T f)) (hl : C.lawful) (hC : ∀ args st K, C.wp args st K → args.length ≤ 25 ∧ ∃ os op, xv T st.n S80 (st0 args st) (retK R80 st.n os K) (panK st.n op K)) : Sound G Tryd.prog 80 C := by
  obtain ⟨b, hb, hc⟩ := bd80
  rw [xv_eq] at hC
  exact sound_of_ev mo fn80 hb nm80 hc cr80 hT hl hC

/-! 41: redline/edits.Check -/
def A41 : Ann := ⟨fun r i => if r = 5 ∧ i = 7 then 1 else if r = 5 ∧ i = 13 then 1 else if r = 5 ∧ i = 19 then 1 else 0, fun r => if r = 10 then some ([], [(0, true), (2, true), (5, true), (7, true), (1, true), (3, true), (4, true), (10, true), (6, true), (8, true), (9, true), (11, true)]) else none, fun r => if r = 2 then some (false, [0, 1, 2, 7, 8]) else if r = 4 then some (false, [1, 2, 7, 8, 12, 13, 14]) else if r = 5 then some (false, [1, 2, 7, 8, 9, 10, 12, 13, 14]) else if r = 7 then some (false, [1, 2, 7, 8, 9, 10, 12, 13, 14]) else if r = 8 then some (false, [1, 2, 8, 9, 10, 11, 12, 13, 14]) else if r = 10 then some (false, [1, 2, 10, 12, 13, 14]) else if r = 12 then some (false, [1, 2, 7, 8]) else none, fun r => if r = 3 then [1, 2, 7, 8, 12, 13, 14] else []⟩
def S41 : SCode :=
  (.seq (.ops [⟨none, (some 6), .mv 6 (.k (Value.int .i64 0)), false⟩])
  (.seq (.ops [⟨none, (some 7), .mv 7 (.k (Value.int .i64 0)), false⟩,
    ⟨none, (some 8), .mv 8 (.k (Value.int .i64 0)), false⟩])
  (.seq (.seq (.seq (.keep [0, 1, 2, 7, 8]) (.ops [⟨none, (some 12), .mv 12 (.s 0), false⟩,
    ⟨none, (some 13), .len 13 (.s 12), false⟩,
    ⟨none, (some 14), .mv 14 (.k (Value.int .i64 0)), false⟩]))
  (.block 0 (.loop [1, 2, 7, 8, 12, 13, 14] (.seq (.ops [⟨none, (some 15), .bin 15 .lss (.s 14) (.s 13), false⟩])
  (.seq (.cond (.s 15) .skip (.exit 0))
  (.seq (.block 1 (.seq (.seq (.keep [1, 2, 7, 8, 12, 13, 14]) (.ops [⟨none, (some 16), .mv 16 (.s 14), false⟩,
    ⟨none, (some 17), .ia 17 4 (.s 12) (.s 14), false⟩,
    ⟨none, (some 18), .ld 18 true 4 (.s 17), false⟩,
    ⟨none, (some 10), .al 10 74 [(Value.int .i64 0), (Value.int .i64 0), (Value.int .i64 0), (Value.int .i64 0)], false⟩,
    ⟨none, (some 9), .mv 9 (.s 16), false⟩,
    ⟨none, none, .st true 4 (.s 10) (.s 18), false⟩]))
  (.seq (.seq (.seq (.keep [1, 2, 7, 8, 9, 10, 12, 13, 14]) (.ops [⟨none, (some 19), .fa 19 0 (.s 10), false⟩,
    ⟨none, (some 20), .ld 20 false 1 (.s 19), false⟩,
    ⟨none, (some 21), .call (some 21) 93 false [(.s 20)], false⟩,
    ⟨none, (some 22), .not 22 (.s 21), false⟩,
    ⟨none, (some 23), .mv 23 (.s 22), false⟩,
    ⟨(some (23, false)), (some 24), .fa 24 1 (.s 10), false⟩,
    ⟨(some (23, false)), (some 25), .ld 25 false 1 (.s 24), false⟩,
    ⟨(some (23, false)), (some 26), .call (some 26) 93 true [(.s 25)], false⟩,
    ⟨(some (23, false)), (some 27), .not 27 (.s 26), false⟩,
    ⟨none, (some 28), .pk 28 (.s 23) (.k (Value.bool true)) (.s 27), true⟩,
    ⟨none, (some 29), .mv 29 (.s 28), false⟩,
    ⟨(some (29, false)), (some 30), .fa 30 2 (.s 10), false⟩,
    ⟨(some (29, false)), (some 31), .ld 31 false 1 (.s 30), false⟩,
    ⟨(some (29, false)), (some 32), .call (some 32) 93 true [(.s 31)], false⟩,
    ⟨(some (29, false)), (some 33), .not 33 (.s 32), false⟩,
    ⟨none, (some 34), .pk 34 (.s 29) (.k (Value.bool true)) (.s 33), false⟩,
    ⟨none, (some 35), .mv 35 (.s 34), false⟩,
    ⟨(some (35, false)), (some 36), .fa 36 3 (.s 10), false⟩,
    ⟨(some (35, false)), (some 37), .ld 37 false 1 (.s 36), false⟩,
    ⟨(some (35, false)), (some 38), .call (some 38) 93 true [(.s 37)], true⟩,
    ⟨(some (35, false)), (some 39), .not 39 (.s 38), false⟩,
    ⟨none, (some 40), .pk 40 (.s 35) (.k (Value.bool true)) (.s 39), false⟩,
    ⟨none, (some 41), .mv 41 (.s 40), false⟩,
    ⟨(some (41, false)), (some 42), .fa 42 1 (.s 10), false⟩,
    ⟨(some (41, false)), (some 43), .ld 43 false 1 (.s 42), false⟩,
    ⟨(some (41, false)), (some 44), .bin 44 .eql (.s 43) (.k (Value.int .i64 0)), false⟩,
    ⟨(some (41, false)), (some 45), .mv 45 (.s 44), false⟩,
    ⟨(some (45, true)), (some 46), .fa 46 3 (.s 10), false⟩,
    ⟨(some (45, true)), (some 47), .ld 47 false 1 (.s 46), false⟩,
    ⟨(some (45, true)), (some 48), .bin 48 .eql (.s 47) (.k (Value.int .i64 0)), true⟩,
    ⟨(some (41, false)), (some 49), .pk 49 (.s 45) (.s 48) (.k (Value.bool false)), false⟩,
    ⟨none, (some 50), .pk 50 (.s 41) (.k (Value.bool true)) (.s 49), false⟩]))
  (.cond (.s 50) (.seq (.ops [⟨none, (some 6), .mv 6 (.k (Value.int .i64 50)), false⟩])
  .ret) .skip))
  (.seq (.seq (.keep [1, 2, 7, 8, 9, 10, 12, 13, 14]) (.ops [⟨none, (some 51), .fa 51 0 (.s 10), false⟩,
    ⟨none, (some 52), .ld 52 false 1 (.s 51), false⟩,
    ⟨none, (some 53), .mv 53 (.s 7), false⟩,
    ⟨none, (some 54), .binc 54 .sub (.s 52) (.s 53), false⟩,
    ⟨none, (some 11), .mv 11 (.s 54), false⟩]))
  (.seq (.seq (.seq (.keep [1, 2, 8, 9, 10, 11, 12, 13, 14]) (.ops [⟨none, (some 55), .mv 55 (.s 11), false⟩,
    ⟨none, (some 56), .bin 56 .lss (.s 55) (.k (Value.int .i64 0)), false⟩,
    ⟨none, (some 57), .mv 57 (.s 56), false⟩,
    ⟨(some (57, false)), (some 58), .mv 58 (.s 9), false⟩,
    ⟨(some (57, false)), (some 59), .bin 59 .gtr (.s 58) (.k (Value.int .i64 0)), false⟩,
    ⟨(some (57, false)), (some 60), .mv 60 (.s 59), false⟩,
    ⟨(some (60, true)), (some 61), .mv 61 (.s 11), false⟩,
    ⟨(some (60, true)), (some 62), .bin 62 .eql (.s 61) (.k (Value.int .i64 0)), false⟩,
    ⟨(some (57, false)), (some 63), .pk 63 (.s 60) (.s 62) (.k (Value.bool false)), false⟩,
    ⟨none, (some 64), .pk 64 (.s 57) (.k (Value.bool true)) (.s 63), true⟩,
    ⟨none, (some 65), .mv 65 (.s 64), false⟩,
    ⟨(some (65, false)), (some 66), .mv 66 (.s 11), false⟩,
    ⟨(some (65, false)), (some 67), .fa 67 2 (.s 10), false⟩,
    ⟨(some (65, false)), (some 68), .ld 68 false 1 (.s 67), false⟩,
    ⟨(some (65, false)), (some 69), .mv 69 (.s 8), false⟩,
    ⟨(some (65, false)), (some 70), .binc 70 .sub (.s 68) (.s 69), false⟩,
    ⟨(some (65, false)), (some 71), .bin 71 .neq (.s 66) (.s 70), false⟩,
    ⟨none, (some 72), .pk 72 (.s 65) (.k (Value.bool true)) (.s 71), false⟩]))
  (.cond (.s 72) (.seq (.ops [⟨none, (some 6), .mv 6 (.k (Value.int .i64 50)), false⟩])
  .ret) .skip))
  (.seq (.keep [1, 2, 10, 12, 13, 14]) (.dr [] [(0, true, ⟨none, (some 73), .fa 73 0 (.s 10), false⟩),
    (2, true, ⟨none, (some 75), .fa 75 1 (.s 10), false⟩),
    (5, true, ⟨none, (some 78), .fa 78 2 (.s 10), false⟩),
    (7, true, ⟨none, (some 80), .fa 80 3 (.s 10), false⟩),
    (1, true, ⟨none, (some 74), .ld 74 false 1 (.s 73), false⟩),
    (3, true, ⟨none, (some 76), .ld 76 false 1 (.s 75), false⟩),
    (4, true, ⟨none, (some 77), .binc 77 .add (.s 74) (.s 76), false⟩),
    (10, true, ⟨none, (some 7), .mv 7 (.s 77), false⟩),
    (6, true, ⟨none, (some 79), .ld 79 false 1 (.s 78), false⟩),
    (8, true, ⟨none, (some 81), .ld 81 false 1 (.s 80), false⟩),
    (9, true, ⟨none, (some 82), .binc 82 .add (.s 79) (.s 81), true⟩),
    (11, true, ⟨none, (some 8), .mv 8 (.s 82), false⟩)])))))))
  (.ops [⟨none, (some 83), .binc 83 .add (.s 14) (.k (Value.int .i64 1)), false⟩,
    ⟨none, (some 14), .mv 14 (.s 83), false⟩])))))))
  (.seq (.seq (.seq (.keep [1, 2, 7, 8]) (.ops [⟨none, (some 84), .mv 84 (.s 7), false⟩,
    ⟨none, (some 85), .mv 85 (.s 1), false⟩,
    ⟨none, (some 86), .bin 86 .gtr (.s 84) (.s 85), false⟩,
    ⟨none, (some 87), .mv 87 (.s 86), false⟩,
    ⟨(some (87, false)), (some 88), .mv 88 (.s 8), false⟩,
    ⟨(some (87, false)), (some 89), .mv 89 (.s 2), false⟩,
    ⟨(some (87, false)), (some 90), .bin 90 .gtr (.s 88) (.s 89), false⟩,
    ⟨none, (some 91), .pk 91 (.s 87) (.k (Value.bool true)) (.s 90), false⟩,
    ⟨none, (some 92), .mv 92 (.s 91), false⟩,
    ⟨(some (92, false)), (some 93), .mv 93 (.s 1), true⟩,
    ⟨(some (92, false)), (some 94), .mv 94 (.s 7), false⟩,
    ⟨(some (92, false)), (some 95), .binc 95 .sub (.s 93) (.s 94), false⟩,
    ⟨(some (92, false)), (some 96), .mv 96 (.s 2), false⟩,
    ⟨(some (92, false)), (some 97), .mv 97 (.s 8), false⟩,
    ⟨(some (92, false)), (some 98), .binc 98 .sub (.s 96) (.s 97), false⟩,
    ⟨(some (92, false)), (some 99), .bin 99 .neq (.s 95) (.s 98), false⟩,
    ⟨none, (some 100), .pk 100 (.s 92) (.k (Value.bool true)) (.s 99), false⟩]))
  (.cond (.s 100) (.seq (.ops [⟨none, (some 6), .mv 6 (.k (Value.int .i64 50)), false⟩])
  .ret) .skip))
  (.seq (.ops [⟨none, (some 6), .mv 6 (.k (Value.int .i64 0)), false⟩])
  .ret)))))
theorem cc41 : (Tryd.f41.body).bind (cc Tryd.prog Tryd.f41.ntmps A41) = some S41 := by kernel_rfl
def R41 : List RR := [.sl 6]
theorem cr41 : Tryd.f41.results.toList.map (crr Tryd.prog) = R41.map some := by kernel_rfl
theorem nm41 : (Tryd.f41.name == "runtime.NumGoroutine") = false := by kernel_rfl
theorem fn41 : Tryd.prog.funcs[41]? = some Tryd.f41 := by kernel_rfl
theorem bd41 : ∃ b, Tryd.f41.body = some b ∧ cc Tryd.prog Tryd.f41.ntmps A41 b = some S41 := Option.bind_eq_some_iff.1 cc41
theorem sd41 {G : World → Prop} {T : FuncId → Contract} {C : Contract} (hT : ∀ f, Sound G Tryd.prog f (T f)) (hl : C.lawful) (hC : ∀ args st K, C.wp args st K → args.length ≤ 101 ∧ ∃ os op, xv T st.n S41 (st0 args st) (retK R41 st.n os K) (panK st.n op K)) : Sound G Tryd.prog 41 C := by
  obtain ⟨b, hb, hc⟩ := bd41
  rw [xv_eq] at hC
  exact sound_of_ev mo fn41 hb nm41 hc cr41 hT hl hC

/-! 93: redline/edits.count -/
def A93 : Ann := ⟨fun _ _ => 0, fun _ => none, fun r => if r = 1 then some (false, [0]) else none, fun _ => []⟩
def S93 : SCode :=
  (.seq (.ops [⟨none, (some 2), .mv 2 (.k (Value.bool false)), false⟩])
  (.seq (.seq (.keep [0]) (.ops [⟨none, (some 3), .mv 3 (.s 0), false⟩,
    ⟨none, (some 4), .bin 4 .geq (.s 3) (.k (Value.int .i64 0)), false⟩,
    ⟨none, (some 5), .mv 5 (.s 4), false⟩,
    ⟨(some (5, true)), (some 6), .mv 6 (.s 0), false⟩,
    ⟨(some (5, true)), (some 7), .bin 7 .leq (.s 6) (.k (Value.int .i64 2147483647)), false⟩,
    ⟨none, (some 8), .pk 8 (.s 5) (.s 7) (.k (Value.bool false)), false⟩,
    ⟨none, (some 2), .mv 2 (.s 8), false⟩]))
  .ret))
theorem cc93 : (Tryd.f93.body).bind (cc Tryd.prog Tryd.f93.ntmps A93) = some S93 := by kernel_rfl
def R93 : List RR := [.sl 2]
theorem cr93 : Tryd.f93.results.toList.map (crr Tryd.prog) = R93.map some := by kernel_rfl
theorem nm93 : (Tryd.f93.name == "runtime.NumGoroutine") = false := by kernel_rfl
theorem fn93 : Tryd.prog.funcs[93]? = some Tryd.f93 := by kernel_rfl
theorem bd93 : ∃ b, Tryd.f93.body = some b ∧ cc Tryd.prog Tryd.f93.ntmps A93 b = some S93 := Option.bind_eq_some_iff.1 cc93
theorem sd93 {G : World → Prop} {T : FuncId → Contract} {C : Contract} (hT : ∀ f, Sound G Tryd.prog f (T f)) (hl : C.lawful) (hC : ∀ args st K, C.wp args st K → args.length ≤ 9 ∧ ∃ os op, xv T st.n S93 (st0 args st) (retK R93 st.n os K) (panK st.n op K)) : Sound G Tryd.prog 93 C := by
  obtain ⟨b, hb, hc⟩ := bd93
  rw [xv_eq] at hC
  exact sound_of_ev mo fn93 hb nm93 hc cr93 hT hl hC

/-! 46: redline/redlineref05.Check -/
def A46 : Ann := ⟨fun r i => if r = 8 ∧ i = 7 then 1 else if r = 8 ∧ i = 13 then 1 else if r = 8 ∧ i = 19 then 1 else 0, fun _ => none, fun r => if r = 1 then some (false, [0, 1, 2]) else if r = 5 then some (false, [0, 1, 2, 7, 8, 9]) else if r = 6 then some (false, [0, 1, 2, 7, 8, 9]) else if r = 7 then some (false, [0, 1, 2, 7, 8, 9]) else if r = 8 then some (false, [0, 1, 2, 7, 8, 9, 10]) else if r = 10 then some (false, [0, 1, 2, 7, 8, 9, 10]) else if r = 12 then some (false, [0, 1, 2, 9, 10]) else if r = 13 then some (false, [0, 1, 2, 7, 9, 10]) else if r = 14 then some (false, [1, 2, 7, 8]) else none, fun r => if r = 5 then [0, 1, 2, 7, 8, 9] else []⟩
def S46 : SCode :=
  (.seq (.ops [⟨none, (some 6), .mv 6 (.k (Value.int .i64 0)), false⟩])
  (.seq (.seq (.seq (.keep [0, 1, 2]) (.ops [⟨none, (some 11), .mv 11 (.s 1), false⟩,
    ⟨none, (some 12), .bin 12 .lss (.s 11) (.k (Value.int .i64 0)), false⟩,
    ⟨none, (some 13), .mv 13 (.s 12), false⟩,
    ⟨(some (13, false)), (some 14), .mv 14 (.s 2), false⟩,
    ⟨(some (13, false)), (some 15), .bin 15 .lss (.s 14) (.k (Value.int .i64 0)), false⟩,
    ⟨none, (some 16), .pk 16 (.s 13) (.k (Value.bool true)) (.s 15), false⟩]))
  (.cond (.s 16) (.seq (.ops [⟨none, (some 6), .mv 6 (.k (Value.int .i64 50)), false⟩])
  .ret) .skip))
  (.seq (.ops [⟨none, (some 7), .mv 7 (.k (Value.int .i64 0)), false⟩,
    ⟨none, (some 8), .mv 8 (.k (Value.int .i64 0)), false⟩])
  (.seq (.seq (.ops [⟨none, (some 9), .mv 9 (.k (Value.int .i64 0)), false⟩])
  (.block 0 (.loop [0, 1, 2, 7, 8, 9] (.seq (.seq (.seq (.keep [0, 1, 2, 7, 8, 9]) (.ops [⟨none, (some 17), .mv 17 (.s 9), false⟩,
    ⟨none, (some 18), .mv 18 (.s 0), false⟩,
    ⟨none, (some 19), .len 19 (.s 18), false⟩,
    ⟨none, (some 20), .bin 20 .lss (.s 17) (.s 19), false⟩]))
  (.cond (.s 20) .skip (.exit 0)))
  (.seq (.block 1 (.seq (.seq (.keep [0, 1, 2, 7, 8, 9]) (.ops [⟨none, (some 23), .mv 23 (.s 0), false⟩,
    ⟨none, (some 24), .mv 24 (.s 9), false⟩,
    ⟨none, (some 25), .ia 25 4 (.s 23) (.s 24), false⟩,
    ⟨none, (some 26), .ld 26 true 4 (.s 25), false⟩,
    ⟨none, (some 10), .al 10 74 [(Value.int .i64 0), (Value.int .i64 0), (Value.int .i64 0), (Value.int .i64 0)], false⟩,
    ⟨none, none, .st true 4 (.s 10) (.s 26), false⟩]))
  (.seq (.seq (.seq (.keep [0, 1, 2, 7, 8, 9, 10]) (.ops [⟨none, (some 27), .fa 27 0 (.s 10), false⟩,
    ⟨none, (some 28), .ld 28 false 1 (.s 27), false⟩,
    ⟨none, (some 29), .call (some 29) 95 false [(.s 28)], false⟩,
    ⟨none, (some 30), .not 30 (.s 29), false⟩,
    ⟨none, (some 31), .mv 31 (.s 30), false⟩,
    ⟨(some (31, false)), (some 32), .fa 32 1 (.s 10), false⟩,
    ⟨(some (31, false)), (some 33), .ld 33 false 1 (.s 32), false⟩,
    ⟨(some (31, false)), (some 34), .call (some 34) 95 true [(.s 33)], false⟩,
    ⟨(some (31, false)), (some 35), .not 35 (.s 34), false⟩,
    ⟨none, (some 36), .pk 36 (.s 31) (.k (Value.bool true)) (.s 35), true⟩,
    ⟨none, (some 37), .mv 37 (.s 36), false⟩,
    ⟨(some (37, false)), (some 38), .fa 38 2 (.s 10), false⟩,
    ⟨(some (37, false)), (some 39), .ld 39 false 1 (.s 38), false⟩,
    ⟨(some (37, false)), (some 40), .call (some 40) 95 true [(.s 39)], false⟩,
    ⟨(some (37, false)), (some 41), .not 41 (.s 40), false⟩,
    ⟨none, (some 42), .pk 42 (.s 37) (.k (Value.bool true)) (.s 41), false⟩,
    ⟨none, (some 43), .mv 43 (.s 42), false⟩,
    ⟨(some (43, false)), (some 44), .fa 44 3 (.s 10), false⟩,
    ⟨(some (43, false)), (some 45), .ld 45 false 1 (.s 44), false⟩,
    ⟨(some (43, false)), (some 46), .call (some 46) 95 true [(.s 45)], true⟩,
    ⟨(some (43, false)), (some 47), .not 47 (.s 46), false⟩,
    ⟨none, (some 48), .pk 48 (.s 43) (.k (Value.bool true)) (.s 47), false⟩,
    ⟨none, (some 49), .mv 49 (.s 48), false⟩,
    ⟨(some (49, false)), (some 50), .fa 50 1 (.s 10), false⟩,
    ⟨(some (49, false)), (some 51), .ld 51 false 1 (.s 50), false⟩,
    ⟨(some (49, false)), (some 52), .fa 52 3 (.s 10), false⟩,
    ⟨(some (49, false)), (some 53), .ld 53 false 1 (.s 52), false⟩,
    ⟨(some (49, false)), (some 54), .binc 54 .add (.s 51) (.s 53), false⟩,
    ⟨(some (49, false)), (some 55), .bin 55 .eql (.s 54) (.k (Value.int .i64 0)), false⟩,
    ⟨none, (some 56), .pk 56 (.s 49) (.k (Value.bool true)) (.s 55), true⟩]))
  (.cond (.s 56) (.seq (.ops [⟨none, (some 6), .mv 6 (.k (Value.int .i64 50)), false⟩])
  .ret) .skip))
  (.seq (.seq (.seq (.keep [0, 1, 2, 7, 8, 9, 10]) (.ops [⟨none, (some 57), .fa 57 0 (.s 10), false⟩,
    ⟨none, (some 58), .ld 58 false 1 (.s 57), false⟩,
    ⟨none, (some 59), .mv 59 (.s 7), false⟩,
    ⟨none, (some 60), .binc 60 .sub (.s 58) (.s 59), false⟩,
    ⟨none, (some 61), .fa 61 2 (.s 10), false⟩,
    ⟨none, (some 62), .ld 62 false 1 (.s 61), false⟩,
    ⟨none, (some 63), .mv 63 (.s 8), false⟩,
    ⟨none, (some 64), .binc 64 .sub (.s 62) (.s 63), false⟩,
    ⟨none, (some 65), .bin 65 .neq (.s 60) (.s 64), false⟩,
    ⟨none, (some 66), .mv 66 (.s 65), true⟩,
    ⟨(some (66, false)), (some 67), .fa 67 0 (.s 10), false⟩,
    ⟨(some (66, false)), (some 68), .ld 68 false 1 (.s 67), false⟩,
    ⟨(some (66, false)), (some 69), .mv 69 (.s 7), false⟩,
    ⟨(some (66, false)), (some 70), .bin 70 .lss (.s 68) (.s 69), false⟩,
    ⟨none, (some 71), .pk 71 (.s 66) (.k (Value.bool true)) (.s 70), false⟩,
    ⟨none, (some 72), .mv 72 (.s 71), false⟩,
    ⟨(some (72, false)), (some 73), .mv 73 (.s 9), false⟩,
    ⟨(some (72, false)), (some 74), .bin 74 .gtr (.s 73) (.k (Value.int .i64 0)), false⟩,
    ⟨(some (72, false)), (some 75), .mv 75 (.s 74), false⟩,
    ⟨(some (75, true)), (some 76), .fa 76 0 (.s 10), true⟩,
    ⟨(some (75, true)), (some 77), .ld 77 false 1 (.s 76), false⟩,
    ⟨(some (75, true)), (some 78), .mv 78 (.s 7), false⟩,
    ⟨(some (75, true)), (some 79), .bin 79 .eql (.s 77) (.s 78), false⟩,
    ⟨(some (72, false)), (some 80), .pk 80 (.s 75) (.s 79) (.k (Value.bool false)), false⟩,
    ⟨none, (some 81), .pk 81 (.s 72) (.k (Value.bool true)) (.s 80), false⟩]))
  (.cond (.s 81) (.seq (.ops [⟨none, (some 6), .mv 6 (.k (Value.int .i64 50)), false⟩])
  .ret) .skip))
  (.seq (.seq (.keep [0, 1, 2, 9, 10]) (.ops [⟨none, (some 82), .fa 82 0 (.s 10), false⟩,
    ⟨none, (some 83), .ld 83 false 1 (.s 82), false⟩,
    ⟨none, (some 84), .fa 84 1 (.s 10), false⟩,
    ⟨none, (some 85), .ld 85 false 1 (.s 84), false⟩,
    ⟨none, (some 86), .binc 86 .add (.s 83) (.s 85), false⟩,
    ⟨none, (some 7), .mv 7 (.s 86), false⟩]))
  (.seq (.keep [0, 1, 2, 7, 9, 10]) (.ops [⟨none, (some 87), .fa 87 2 (.s 10), false⟩,
    ⟨none, (some 88), .ld 88 false 1 (.s 87), false⟩,
    ⟨none, (some 89), .fa 89 3 (.s 10), false⟩,
    ⟨none, (some 90), .ld 90 false 1 (.s 89), false⟩,
    ⟨none, (some 91), .binc 91 .add (.s 88) (.s 90), false⟩,
    ⟨none, (some 8), .mv 8 (.s 91), false⟩])))))))
  (.seq (.keep [0, 1, 2, 7, 8, 9]) (.ops [⟨none, (some 21), .mv 21 (.s 9), false⟩,
    ⟨none, (some 22), .binc 22 .add (.s 21) (.k (Value.int .i64 1)), false⟩,
    ⟨none, (some 9), .mv 9 (.s 22), false⟩])))))))
  (.seq (.seq (.seq (.keep [1, 2, 7, 8]) (.ops [⟨none, (some 92), .mv 92 (.s 7), false⟩,
    ⟨none, (some 93), .mv 93 (.s 1), false⟩,
    ⟨none, (some 94), .bin 94 .gtr (.s 92) (.s 93), false⟩,
    ⟨none, (some 95), .mv 95 (.s 94), false⟩,
    ⟨(some (95, false)), (some 96), .mv 96 (.s 8), false⟩,
    ⟨(some (95, false)), (some 97), .mv 97 (.s 2), false⟩,
    ⟨(some (95, false)), (some 98), .bin 98 .gtr (.s 96) (.s 97), false⟩,
    ⟨none, (some 99), .pk 99 (.s 95) (.k (Value.bool true)) (.s 98), false⟩,
    ⟨none, (some 100), .mv 100 (.s 99), false⟩,
    ⟨(some (100, false)), (some 101), .mv 101 (.s 1), true⟩,
    ⟨(some (100, false)), (some 102), .mv 102 (.s 7), false⟩,
    ⟨(some (100, false)), (some 103), .binc 103 .sub (.s 101) (.s 102), false⟩,
    ⟨(some (100, false)), (some 104), .mv 104 (.s 2), false⟩,
    ⟨(some (100, false)), (some 105), .mv 105 (.s 8), false⟩,
    ⟨(some (100, false)), (some 106), .binc 106 .sub (.s 104) (.s 105), false⟩,
    ⟨(some (100, false)), (some 107), .bin 107 .neq (.s 103) (.s 106), false⟩,
    ⟨none, (some 108), .pk 108 (.s 100) (.k (Value.bool true)) (.s 107), false⟩]))
  (.cond (.s 108) (.seq (.ops [⟨none, (some 6), .mv 6 (.k (Value.int .i64 50)), false⟩])
  .ret) .skip))
  (.seq (.ops [⟨none, (some 6), .mv 6 (.k (Value.int .i64 0)), false⟩])
  .ret))))))
theorem cc46 : (Tryd.f46.body).bind (cc Tryd.prog Tryd.f46.ntmps A46) = some S46 := by kernel_rfl
def R46 : List RR := [.sl 6]
theorem cr46 : Tryd.f46.results.toList.map (crr Tryd.prog) = R46.map some := by kernel_rfl
theorem nm46 : (Tryd.f46.name == "runtime.NumGoroutine") = false := by kernel_rfl
theorem fn46 : Tryd.prog.funcs[46]? = some Tryd.f46 := by kernel_rfl
theorem bd46 : ∃ b, Tryd.f46.body = some b ∧ cc Tryd.prog Tryd.f46.ntmps A46 b = some S46 := Option.bind_eq_some_iff.1 cc46
theorem sd46 {G : World → Prop} {T : FuncId → Contract} {C : Contract} (hT : ∀ f, Sound G Tryd.prog f (T f)) (hl : C.lawful) (hC : ∀ args st K, C.wp args st K → args.length ≤ 109 ∧ ∃ os op, xv T st.n S46 (st0 args st) (retK R46 st.n os K) (panK st.n op K)) : Sound G Tryd.prog 46 C := by
  obtain ⟨b, hb, hc⟩ := bd46
  rw [xv_eq] at hC
  exact sound_of_ev mo fn46 hb nm46 hc cr46 hT hl hC

/-! 95: redline/redlineref05.count -/
def A95 : Ann := ⟨fun _ _ => 0, fun _ => none, fun r => if r = 1 then some (false, [0]) else none, fun _ => []⟩
def S95 : SCode :=
  (.seq (.ops [⟨none, (some 2), .mv 2 (.k (Value.bool false)), false⟩])
  (.seq (.seq (.keep [0]) (.ops [⟨none, (some 3), .mv 3 (.s 0), false⟩,
    ⟨none, (some 4), .bin 4 .geq (.s 3) (.k (Value.int .i64 0)), false⟩,
    ⟨none, (some 5), .mv 5 (.s 4), false⟩,
    ⟨(some (5, true)), (some 6), .mv 6 (.s 0), false⟩,
    ⟨(some (5, true)), (some 7), .bin 7 .leq (.s 6) (.k (Value.int .i64 2147483647)), false⟩,
    ⟨none, (some 8), .pk 8 (.s 5) (.s 7) (.k (Value.bool false)), false⟩,
    ⟨none, (some 2), .mv 2 (.s 8), false⟩]))
  .ret))
theorem cc95 : (Tryd.f95.body).bind (cc Tryd.prog Tryd.f95.ntmps A95) = some S95 := by kernel_rfl
def R95 : List RR := [.sl 2]
theorem cr95 : Tryd.f95.results.toList.map (crr Tryd.prog) = R95.map some := by kernel_rfl
theorem nm95 : (Tryd.f95.name == "runtime.NumGoroutine") = false := by kernel_rfl
theorem fn95 : Tryd.prog.funcs[95]? = some Tryd.f95 := by kernel_rfl
theorem bd95 : ∃ b, Tryd.f95.body = some b ∧ cc Tryd.prog Tryd.f95.ntmps A95 b = some S95 := Option.bind_eq_some_iff.1 cc95
theorem sd95 {G : World → Prop} {T : FuncId → Contract} {C : Contract} (hT : ∀ f, Sound G Tryd.prog f (T f)) (hl : C.lawful) (hC : ∀ args st K, C.wp args st K → args.length ≤ 9 ∧ ∃ os op, xv T st.n S95 (st0 args st) (retK R95 st.n os K) (panK st.n op K)) : Sound G Tryd.prog 95 C := by
  obtain ⟨b, hb, hc⟩ := bd95
  rw [xv_eq] at hC
  exact sound_of_ev mo fn95 hb nm95 hc cr95 hT hl hC

/-! 42: redline/normal.span -/
def A42 : Ann := ⟨fun _ _ => 0, fun _ => none, fun r => if r = 2 then some (false, [0]) else if r = 3 then some (false, [0, 1]) else none, fun _ => []⟩
def S42 : SCode :=
  (.seq (.ops [⟨none, (some 4), .mv 4 (.k (Value.string ⟨#[]⟩)), false⟩])
  (.seq (.seq (.ops [⟨none, (some 5), .mv 5 (.s 1), false⟩,
    ⟨none, (some 6), .bin 6 .eql (.s 5) (.k (Value.int .i64 1)), false⟩])
  (.cond (.s 6) (.seq (.seq (.keep [0]) (.ops [⟨none, (some 7), .mv 7 (.s 0), false⟩,
    ⟨none, (some 8), .binc 8 .add (.s 7) (.k (Value.int .i64 1)), false⟩,
    ⟨none, (some 9), .call (some 9) 32 false [(.s 8)], false⟩,
    ⟨none, (some 4), .mv 4 (.s 9), false⟩]))
  .ret) .skip))
  (.seq (.seq (.keep [0, 1]) (.ops [⟨none, (some 10), .mv 10 (.s 0), false⟩,
    ⟨none, (some 11), .binc 11 .add (.s 10) (.k (Value.int .i64 1)), false⟩,
    ⟨none, (some 12), .call (some 12) 32 false [(.s 11)], false⟩,
    ⟨none, (some 13), .bin 13 .add (.s 12) (.k (Value.string ⟨#[44]⟩)), false⟩,
    ⟨none, (some 14), .mv 14 (.s 0), false⟩,
    ⟨none, (some 15), .mv 15 (.s 1), false⟩,
    ⟨none, (some 16), .binc 16 .add (.s 14) (.s 15), false⟩,
    ⟨none, (some 17), .call (some 17) 32 false [(.s 16)], false⟩,
    ⟨none, (some 18), .bin 18 .add (.s 13) (.s 17), false⟩,
    ⟨none, (some 4), .mv 4 (.s 18), true⟩]))
  .ret)))
theorem cc42 : (Tryd.f42.body).bind (cc Tryd.prog Tryd.f42.ntmps A42) = some S42 := by kernel_rfl
def R42 : List RR := [.sl 4]
theorem cr42 : Tryd.f42.results.toList.map (crr Tryd.prog) = R42.map some := by kernel_rfl
theorem nm42 : (Tryd.f42.name == "runtime.NumGoroutine") = false := by kernel_rfl
theorem fn42 : Tryd.prog.funcs[42]? = some Tryd.f42 := by kernel_rfl
theorem bd42 : ∃ b, Tryd.f42.body = some b ∧ cc Tryd.prog Tryd.f42.ntmps A42 b = some S42 := Option.bind_eq_some_iff.1 cc42
theorem sd42 {G : World → Prop} {T : FuncId → Contract} {C : Contract} (hT : ∀ f, Sound G Tryd.prog f (T f)) (hl : C.lawful) (hC : ∀ args st K, C.wp args st K → args.length ≤ 19 ∧ ∃ os op, xv T st.n S42 (st0 args st) (retK R42 st.n os K) (panK st.n op K)) : Sound G Tryd.prog 42 C := by
  obtain ⟨b, hb, hc⟩ := bd42
  rw [xv_eq] at hC
  exact sound_of_ev mo fn42 hb nm42 hc cr42 hT hl hC

/-! 44: (*redline/normal.printer).all -/
def A44 : Ann := ⟨fun _ _ => 0, fun _ => none, fun r => if r = 2 then some (false, [0, 1, 10, 11, 12]) else if r = 3 then some (false, [0, 1, 7, 10, 11, 12]) else if r = 4 then some (false, [0, 1, 8, 9, 10, 11, 12]) else if r = 6 then some (false, [0, 1, 10, 11, 12]) else none, fun r => if r = 1 then [0, 1, 10, 11, 12] else []⟩
def S44 : SCode :=
  (.seq (.ops [⟨none, (some 10), .mv 10 (.s 2), false⟩,
    ⟨none, (some 11), .len 11 (.s 10), false⟩,
    ⟨none, (some 12), .mv 12 (.k (Value.int .i64 0)), false⟩])
  (.block 0 (.loop [0, 1, 10, 11, 12] (.seq (.ops [⟨none, (some 13), .bin 13 .lss (.s 12) (.s 11), false⟩])
  (.seq (.cond (.s 13) .skip (.exit 0))
  (.seq (.block 1 (.seq (.seq (.keep [0, 1, 10, 11, 12]) (.ops [⟨none, (some 14), .ia 14 1 (.s 10) (.s 12), false⟩,
    ⟨none, (some 15), .ld 15 false 1 (.s 14), false⟩,
    ⟨none, (some 7), .mv 7 (.s 15), false⟩]))
  (.seq (.seq (.keep [0, 1, 7, 10, 11, 12]) (.ops [⟨none, (some 17), .mv 17 (.s 7), false⟩,
    ⟨none, (some 18), .call (some 18) 58 false [(.s 17)], false⟩,
    ⟨none, (some 16), .mv 16 (.s 18), false⟩,
    ⟨none, (some 19), .ex 19 (.s 16) 0, false⟩,
    ⟨none, (some 20), .ex 20 (.s 16) 1, false⟩,
    ⟨none, (some 8), .mv 8 (.s 19), false⟩,
    ⟨none, (some 9), .mv 9 (.s 20), false⟩]))
  (.seq (.seq (.keep [0, 1, 8, 9, 10, 11, 12]) (.ops [⟨none, (some 21), .mv 21 (.s 0), false⟩,
    ⟨none, (some 22), .nc 22 (.s 21), false⟩,
    ⟨none, (some 23), .fa 23 0 (.s 22), false⟩,
    ⟨none, (some 24), .mv 24 (.s 1), false⟩,
    ⟨none, (some 25), .mv 25 (.s 8), false⟩,
    ⟨none, (some 26), .bin 26 .add (.s 24) (.s 25), false⟩,
    ⟨none, (some 27), .bin 27 .add (.s 26) (.k (Value.string ⟨#[10]⟩)), false⟩,
    ⟨none, (some 28), .call (some 28) 43 false [(.s 23), (.s 27)], false⟩]))
  (.seq (.ops [⟨none, (some 29), .mv 29 (.s 9), false⟩,
    ⟨none, (some 30), .not 30 (.s 29), false⟩])
  (.cond (.s 30) (.seq (.keep [0, 1, 10, 11, 12]) (.ops [⟨none, (some 31), .mv 31 (.s 0), false⟩,
    ⟨none, (some 32), .nc 32 (.s 31), false⟩,
    ⟨none, (some 33), .fa 33 0 (.s 32), false⟩,
    ⟨none, (some 34), .call (some 34) 43 false [(.s 33), (.k (Value.string ⟨#[92, 32, 78, 111, 32, 110, 101, 119, 108, 105, 110, 101, 32, 97, 116, 32, 101, 110, 100, 32, 111, 102, 32, 102, 105, 108, 101, 10]⟩))], false⟩])) .skip))))))
  (.ops [⟨none, (some 35), .binc 35 .add (.s 12) (.k (Value.int .i64 1)), false⟩,
    ⟨none, (some 12), .mv 12 (.s 35), false⟩])))))))
theorem cc44 : (Tryd.f44.body).bind (cc Tryd.prog Tryd.f44.ntmps A44) = some S44 := by kernel_rfl
def R44 : List RR := []
theorem cr44 : Tryd.f44.results.toList.map (crr Tryd.prog) = R44.map some := by kernel_rfl
theorem nm44 : (Tryd.f44.name == "runtime.NumGoroutine") = false := by kernel_rfl
theorem fn44 : Tryd.prog.funcs[44]? = some Tryd.f44 := by kernel_rfl
theorem bd44 : ∃ b, Tryd.f44.body = some b ∧ cc Tryd.prog Tryd.f44.ntmps A44 b = some S44 := Option.bind_eq_some_iff.1 cc44
theorem sd44 {G : World → Prop} {T : FuncId → Contract} {C : Contract} (hT : ∀ f, Sound G Tryd.prog f (T f)) (hl : C.lawful) (hC : ∀ args st K, C.wp args st K → args.length ≤ 36 ∧ ∃ os op, xv T st.n S44 (st0 args st) (retK R44 st.n os K) (panK st.n op K)) : Sound G Tryd.prog 44 C := by
  obtain ⟨b, hb, hc⟩ := bd44
  rw [xv_eq] at hC
  exact sound_of_ev mo fn44 hb nm44 hc cr44 hT hl hC

/-! 47: redline/redlineref12.change -/
def A47 : Ann := ⟨fun _ _ => 0, fun r => if r = 4 then some ([], [(0, true), (4, true), (6, true), (1, true), (5, true), (7, true), (2, false), (3, true), (8, false), (9, true), (10, true)]) else if r = 6 then some ([], [(0, true), (2, true), (6, true), (1, true), (3, true), (7, true), (4, false), (5, true), (8, false), (9, true), (10, true)]) else if r = 2 then some ([], [(0, true), (2, true), (6, true), (8, true), (1, true), (3, true), (7, true), (9, true), (4, false), (5, true), (10, false), (11, true), (12, true)]) else none, fun r => if r = 2 then some (false, [1, 2, 3]) else if r = 3 then some (false, [1, 2, 3]) else if r = 4 then some (false, [1, 2, 3]) else if r = 5 then some (false, [1, 2, 3]) else if r = 6 then some (false, [1, 2, 3]) else if r = 7 then some (false, [1, 2, 3, 7]) else if r = 8 then some (false, [1, 2, 3, 7]) else if r = 9 then some (false, [1, 2, 3, 7, 8]) else if r = 10 then some (false, [1, 2, 3, 7, 8]) else if r = 11 then some (false, [1, 2, 3, 7, 8]) else if r = 12 then some (false, [2, 3, 7]) else if r = 13 then some (false, [2, 3, 7]) else if r = 14 then some (false, [2, 3, 7]) else if r = 15 then some (false, [2, 3, 7, 9]) else if r = 16 then some (false, [2, 3, 7, 9]) else if r = 17 then some (false, [2, 3, 7, 9]) else none, fun r => if r = 9 then [1, 2, 3, 7, 8] else if r = 15 then [2, 3, 7, 9] else []⟩
def S47_0 : SCode :=
  (.ops [⟨none, (some 3), .bx 3 74 4 (.s 0), false⟩,
    ⟨none, (some 6), .mv 6 (.k (Value.string ⟨#[]⟩)), false⟩])
def S47_1 : SCode :=
  (.ops [⟨none, (some 7), .mv 7 (.k (Value.string ⟨#[]⟩)), false⟩])
def S47_2 : SCode :=
  (.block 0 (.seq (.seq (.keep [1, 2, 3]) (.ops [⟨none, (some 23), .fa 23 1 (.s 3), false⟩,
    ⟨none, (some 24), .ld 24 false 1 (.s 23), false⟩,
    ⟨none, (some 25), .bin 25 .eql (.s 24) (.k (Value.int .i64 0)), false⟩,
    ⟨none, (some 22), .mv 22 (.s 25), false⟩]))
  (.cond (.s 22) (.seq (.keep [1, 2, 3]) (.dr [] [(0, true, ⟨none, (some 26), .fa 26 0 (.s 3), false⟩),
    (4, true, ⟨none, (some 30), .fa 30 2 (.s 3), false⟩),
    (6, true, ⟨none, (some 32), .fa 32 3 (.s 3), false⟩),
    (1, true, ⟨none, (some 27), .ld 27 false 1 (.s 26), false⟩),
    (5, true, ⟨none, (some 31), .ld 31 false 1 (.s 30), false⟩),
    (7, true, ⟨none, (some 33), .ld 33 false 1 (.s 32), false⟩),
    (2, false, ⟨none, (some 28), .call (some 28) 33 false [(.s 27)], false⟩),
    (3, true, ⟨none, (some 29), .bin 29 .add (.s 28) (.k (Value.string ⟨#[97]⟩)), false⟩),
    (8, false, ⟨none, (some 34), .call (some 34) 60 false [(.s 31), (.s 33)], false⟩),
    (9, true, ⟨none, (some 35), .bin 35 .add (.s 29) (.s 34), true⟩),
    (10, true, ⟨none, (some 7), .mv 7 (.s 35), false⟩)])) (.seq (.seq (.keep [1, 2, 3]) (.ops [⟨none, (some 37), .fa 37 3 (.s 3), false⟩,
    ⟨none, (some 38), .ld 38 false 1 (.s 37), false⟩,
    ⟨none, (some 39), .bin 39 .eql (.s 38) (.k (Value.int .i64 0)), false⟩,
    ⟨none, (some 36), .mv 36 (.s 39), false⟩]))
  (.cond (.s 36) (.seq (.keep [1, 2, 3]) (.dr [] [(0, true, ⟨none, (some 40), .fa 40 0 (.s 3), false⟩),
    (2, true, ⟨none, (some 42), .fa 42 1 (.s 3), false⟩),
    (6, true, ⟨none, (some 46), .fa 46 2 (.s 3), false⟩),
    (1, true, ⟨none, (some 41), .ld 41 false 1 (.s 40), false⟩),
    (3, true, ⟨none, (some 43), .ld 43 false 1 (.s 42), false⟩),
    (7, true, ⟨none, (some 47), .ld 47 false 1 (.s 46), false⟩),
    (4, false, ⟨none, (some 44), .call (some 44) 60 false [(.s 41), (.s 43)], false⟩),
    (5, true, ⟨none, (some 45), .bin 45 .add (.s 44) (.k (Value.string ⟨#[100]⟩)), false⟩),
    (8, false, ⟨none, (some 48), .call (some 48) 33 false [(.s 47)], false⟩),
    (9, true, ⟨none, (some 49), .bin 49 .add (.s 45) (.s 48), true⟩),
    (10, true, ⟨none, (some 7), .mv 7 (.s 49), false⟩)])) (.seq (.keep [1, 2, 3]) (.dr [] [(0, true, ⟨none, (some 10), .fa 10 0 (.s 3), false⟩),
    (2, true, ⟨none, (some 12), .fa 12 1 (.s 3), false⟩),
    (6, true, ⟨none, (some 16), .fa 16 2 (.s 3), false⟩),
    (8, true, ⟨none, (some 18), .fa 18 3 (.s 3), false⟩),
    (1, true, ⟨none, (some 11), .ld 11 false 1 (.s 10), false⟩),
    (3, true, ⟨none, (some 13), .ld 13 false 1 (.s 12), false⟩),
    (7, true, ⟨none, (some 17), .ld 17 false 1 (.s 16), false⟩),
    (9, true, ⟨none, (some 19), .ld 19 false 1 (.s 18), true⟩),
    (4, false, ⟨none, (some 14), .call (some 14) 60 false [(.s 11), (.s 13)], false⟩),
    (5, true, ⟨none, (some 15), .bin 15 .add (.s 14) (.k (Value.string ⟨#[99]⟩)), false⟩),
    (10, false, ⟨none, (some 20), .call (some 20) 60 false [(.s 17), (.s 19)], false⟩),
    (11, true, ⟨none, (some 21), .bin 21 .add (.s 15) (.s 20), false⟩),
    (12, true, ⟨none, (some 7), .mv 7 (.s 21), false⟩)])))))))
def S47_3 : SCode :=
  (.seq (.keep [1, 2, 3, 7]) (.ops [⟨none, (some 50), .mv 50 (.s 7), false⟩,
    ⟨none, (some 51), .bin 51 .add (.s 50) (.k (Value.string ⟨#[10]⟩)), false⟩,
    ⟨none, (some 7), .mv 7 (.s 51), false⟩]))
def S47_4 : SCode :=
  (.seq (.seq (.keep [1, 2, 3, 7]) (.ops [⟨none, (some 52), .fa 52 0 (.s 3), false⟩,
    ⟨none, (some 53), .ld 53 false 1 (.s 52), false⟩,
    ⟨none, (some 8), .mv 8 (.s 53), false⟩]))
  (.block 1 (.loop [1, 2, 3, 7, 8] (.seq (.seq (.seq (.keep [1, 2, 3, 7, 8]) (.ops [⟨none, (some 54), .mv 54 (.s 8), false⟩,
    ⟨none, (some 55), .fa 55 0 (.s 3), false⟩,
    ⟨none, (some 56), .ld 56 false 1 (.s 55), false⟩,
    ⟨none, (some 57), .fa 57 1 (.s 3), false⟩,
    ⟨none, (some 58), .ld 58 false 1 (.s 57), false⟩,
    ⟨none, (some 59), .binc 59 .add (.s 56) (.s 58), false⟩,
    ⟨none, (some 60), .bin 60 .lss (.s 54) (.s 59), false⟩]))
  (.cond (.s 60) .skip (.exit 1)))
  (.seq (.block 2 (.seq (.keep [1, 2, 3, 7, 8]) (.ops [⟨none, (some 63), .mv 63 (.s 7), false⟩,
    ⟨none, (some 64), .mv 64 (.s 1), false⟩,
    ⟨none, (some 65), .mv 65 (.s 8), false⟩,
    ⟨none, (some 66), .ia 66 1 (.s 64) (.s 65), false⟩,
    ⟨none, (some 67), .ld 67 false 1 (.s 66), false⟩,
    ⟨none, (some 68), .call (some 68) 68 false [(.k (Value.string ⟨#[60, 32]⟩)), (.s 67)], false⟩,
    ⟨none, (some 69), .bin 69 .add (.s 63) (.s 68), false⟩,
    ⟨none, (some 7), .mv 7 (.s 69), false⟩])))
  (.seq (.keep [1, 2, 3, 7, 8]) (.ops [⟨none, (some 61), .mv 61 (.s 8), false⟩,
    ⟨none, (some 62), .binc 62 .add (.s 61) (.k (Value.int .i64 1)), false⟩,
    ⟨none, (some 8), .mv 8 (.s 62), false⟩])))))))
def S47_5 : SCode :=
  (.seq (.seq (.keep [2, 3, 7]) (.ops [⟨none, (some 70), .fa 70 1 (.s 3), false⟩,
    ⟨none, (some 71), .ld 71 false 1 (.s 70), false⟩,
    ⟨none, (some 72), .bin 72 .gtr (.s 71) (.k (Value.int .i64 0)), false⟩,
    ⟨none, (some 73), .mv 73 (.s 72), false⟩,
    ⟨(some (73, true)), (some 74), .fa 74 3 (.s 3), false⟩,
    ⟨(some (73, true)), (some 75), .ld 75 false 1 (.s 74), false⟩,
    ⟨(some (73, true)), (some 76), .bin 76 .gtr (.s 75) (.k (Value.int .i64 0)), false⟩,
    ⟨none, (some 77), .pk 77 (.s 73) (.s 76) (.k (Value.bool false)), false⟩]))
  (.cond (.s 77) (.seq (.keep [2, 3, 7]) (.ops [⟨none, (some 78), .mv 78 (.s 7), false⟩,
    ⟨none, (some 79), .bin 79 .add (.s 78) (.k (Value.string ⟨#[45, 45, 45, 10]⟩)), false⟩,
    ⟨none, (some 7), .mv 7 (.s 79), false⟩])) .skip))
def S47_6 : SCode :=
  (.seq (.seq (.keep [2, 3, 7]) (.ops [⟨none, (some 80), .fa 80 2 (.s 3), false⟩,
    ⟨none, (some 81), .ld 81 false 1 (.s 80), false⟩,
    ⟨none, (some 9), .mv 9 (.s 81), false⟩]))
  (.block 3 (.loop [2, 3, 7, 9] (.seq (.seq (.seq (.keep [2, 3, 7, 9]) (.ops [⟨none, (some 82), .mv 82 (.s 9), false⟩,
    ⟨none, (some 83), .fa 83 2 (.s 3), false⟩,
    ⟨none, (some 84), .ld 84 false 1 (.s 83), false⟩,
    ⟨none, (some 85), .fa 85 3 (.s 3), false⟩,
    ⟨none, (some 86), .ld 86 false 1 (.s 85), false⟩,
    ⟨none, (some 87), .binc 87 .add (.s 84) (.s 86), false⟩,
    ⟨none, (some 88), .bin 88 .lss (.s 82) (.s 87), false⟩]))
  (.cond (.s 88) .skip (.exit 3)))
  (.seq (.block 4 (.seq (.keep [2, 3, 7, 9]) (.ops [⟨none, (some 91), .mv 91 (.s 7), false⟩,
    ⟨none, (some 92), .mv 92 (.s 2), false⟩,
    ⟨none, (some 93), .mv 93 (.s 9), false⟩,
    ⟨none, (some 94), .ia 94 1 (.s 92) (.s 93), false⟩,
    ⟨none, (some 95), .ld 95 false 1 (.s 94), false⟩,
    ⟨none, (some 96), .call (some 96) 68 false [(.k (Value.string ⟨#[62, 32]⟩)), (.s 95)], false⟩,
    ⟨none, (some 97), .bin 97 .add (.s 91) (.s 96), false⟩,
    ⟨none, (some 7), .mv 7 (.s 97), false⟩])))
  (.seq (.keep [2, 3, 7, 9]) (.ops [⟨none, (some 89), .mv 89 (.s 9), false⟩,
    ⟨none, (some 90), .binc 90 .add (.s 89) (.k (Value.int .i64 1)), false⟩,
    ⟨none, (some 9), .mv 9 (.s 90), false⟩])))))))
def S47_7 : SCode :=
  (.ops [⟨none, (some 98), .mv 98 (.s 7), false⟩,
    ⟨none, (some 6), .mv 6 (.s 98), false⟩])
def S47r8 : SCode := .ret
def S47r7 : SCode := .seq S47_7 S47r8
def S47r6 : SCode := .seq S47_6 S47r7
def S47r5 : SCode := .seq S47_5 S47r6
def S47r4 : SCode := .seq S47_4 S47r5
def S47r3 : SCode := .seq S47_3 S47r4
def S47r2 : SCode := .seq S47_2 S47r3
def S47r1 : SCode := .seq S47_1 S47r2
def S47 : SCode := .seq S47_0 S47r1
theorem cc47 : (Tryd.f47.body).bind (cc Tryd.prog Tryd.f47.ntmps A47) = some S47 := by kernel_rfl
def R47 : List RR := [.sl 6]
theorem cr47 : Tryd.f47.results.toList.map (crr Tryd.prog) = R47.map some := by kernel_rfl
theorem nm47 : (Tryd.f47.name == "runtime.NumGoroutine") = false := by kernel_rfl
theorem fn47 : Tryd.prog.funcs[47]? = some Tryd.f47 := by kernel_rfl
theorem bd47 : ∃ b, Tryd.f47.body = some b ∧ cc Tryd.prog Tryd.f47.ntmps A47 b = some S47 := Option.bind_eq_some_iff.1 cc47
theorem sd47 {G : World → Prop} {T : FuncId → Contract} {C : Contract} (hT : ∀ f, Sound G Tryd.prog f (T f)) (hl : C.lawful) (hC : ∀ args st K, C.wp args st K → args.length ≤ 99 ∧ ∃ os op, xv T st.n S47 (st0 args st) (retK R47 st.n os K) (panK st.n op K)) : Sound G Tryd.prog 47 C := by
  obtain ⟨b, hb, hc⟩ := bd47
  rw [xv_eq] at hC
  exact sound_of_ev mo fn47 hb nm47 hc cr47 hT hl hC

/-! 60: redline/redlineref12.Range -/
def A60 : Ann := ⟨fun _ _ => 0, fun _ => none, fun r => if r = 2 then some (false, [0]) else if r = 3 then some (false, [0, 1]) else none, fun _ => []⟩
def S60 : SCode :=
  (.seq (.ops [⟨none, (some 4), .mv 4 (.k (Value.string ⟨#[]⟩)), false⟩])
  (.seq (.seq (.ops [⟨none, (some 5), .mv 5 (.s 1), false⟩,
    ⟨none, (some 6), .bin 6 .eql (.s 5) (.k (Value.int .i64 1)), false⟩])
  (.cond (.s 6) (.seq (.seq (.keep [0]) (.ops [⟨none, (some 7), .mv 7 (.s 0), false⟩,
    ⟨none, (some 8), .binc 8 .add (.s 7) (.k (Value.int .i64 1)), false⟩,
    ⟨none, (some 9), .call (some 9) 33 false [(.s 8)], false⟩,
    ⟨none, (some 4), .mv 4 (.s 9), false⟩]))
  .ret) .skip))
  (.seq (.seq (.keep [0, 1]) (.ops [⟨none, (some 10), .mv 10 (.s 0), false⟩,
    ⟨none, (some 11), .binc 11 .add (.s 10) (.k (Value.int .i64 1)), false⟩,
    ⟨none, (some 12), .call (some 12) 33 false [(.s 11)], false⟩,
    ⟨none, (some 13), .bin 13 .add (.s 12) (.k (Value.string ⟨#[44]⟩)), false⟩,
    ⟨none, (some 14), .mv 14 (.s 0), false⟩,
    ⟨none, (some 15), .mv 15 (.s 1), false⟩,
    ⟨none, (some 16), .binc 16 .add (.s 14) (.s 15), false⟩,
    ⟨none, (some 17), .call (some 17) 33 false [(.s 16)], false⟩,
    ⟨none, (some 18), .bin 18 .add (.s 13) (.s 17), false⟩,
    ⟨none, (some 4), .mv 4 (.s 18), true⟩]))
  .ret)))
theorem cc60 : (Tryd.f60.body).bind (cc Tryd.prog Tryd.f60.ntmps A60) = some S60 := by kernel_rfl
def R60 : List RR := [.sl 4]
theorem cr60 : Tryd.f60.results.toList.map (crr Tryd.prog) = R60.map some := by kernel_rfl
theorem nm60 : (Tryd.f60.name == "runtime.NumGoroutine") = false := by kernel_rfl
theorem fn60 : Tryd.prog.funcs[60]? = some Tryd.f60 := by kernel_rfl
theorem bd60 : ∃ b, Tryd.f60.body = some b ∧ cc Tryd.prog Tryd.f60.ntmps A60 b = some S60 := Option.bind_eq_some_iff.1 cc60
theorem sd60 {G : World → Prop} {T : FuncId → Contract} {C : Contract} (hT : ∀ f, Sound G Tryd.prog f (T f)) (hl : C.lawful) (hC : ∀ args st K, C.wp args st K → args.length ≤ 19 ∧ ∃ os op, xv T st.n S60 (st0 args st) (retK R60 st.n os K) (panK st.n op K)) : Sound G Tryd.prog 60 C := by
  obtain ⟨b, hb, hc⟩ := bd60
  rw [xv_eq] at hC
  exact sound_of_ev mo fn60 hb nm60 hc cr60 hT hl hC

/-! 68: redline/redlineref12.Line -/
def A68 : Ann := ⟨fun _ _ => 0, fun _ => none, fun r => if r = 1 then some (false, [0, 1]) else if r = 3 then some (false, [0, 1]) else if r = 4 then some (false, [0, 1]) else none, fun _ => []⟩
def S68 : SCode :=
  (.seq (.ops [⟨none, (some 4), .mv 4 (.k (Value.string ⟨#[]⟩)), false⟩])
  (.seq (.seq (.keep [0, 1]) (.ops [⟨none, (some 8), .mv 8 (.s 1), false⟩,
    ⟨none, (some 9), .call (some 9) 61 false [(.s 8)], false⟩,
    ⟨none, (some 7), .mv 7 (.s 9), false⟩,
    ⟨none, (some 10), .ex 10 (.s 7) 0, false⟩,
    ⟨none, (some 11), .ex 11 (.s 7) 1, false⟩,
    ⟨none, (some 5), .mv 5 (.s 10), false⟩,
    ⟨none, (some 6), .mv 6 (.s 11), false⟩]))
  (.seq (.seq (.ops [⟨none, (some 12), .mv 12 (.s 6), false⟩])
  (.cond (.s 12) (.seq (.seq (.keep [0, 1]) (.ops [⟨none, (some 13), .mv 13 (.s 0), false⟩,
    ⟨none, (some 14), .mv 14 (.s 1), false⟩,
    ⟨none, (some 15), .bin 15 .add (.s 13) (.s 14), false⟩,
    ⟨none, (some 4), .mv 4 (.s 15), false⟩]))
  .ret) .skip))
  (.seq (.seq (.keep [0, 1]) (.ops [⟨none, (some 16), .mv 16 (.s 0), false⟩,
    ⟨none, (some 17), .mv 17 (.s 1), false⟩,
    ⟨none, (some 18), .bin 18 .add (.s 16) (.s 17), false⟩,
    ⟨none, (some 19), .bin 19 .add (.s 18) (.k (Value.string ⟨#[10]⟩)), false⟩,
    ⟨none, (some 20), .bin 20 .add (.s 19) (.k (Value.string ⟨#[92, 32, 78, 111, 32, 110, 101, 119, 108, 105, 110, 101, 32, 97, 116, 32, 101, 110, 100, 32, 111, 102, 32, 102, 105, 108, 101, 10]⟩)), false⟩,
    ⟨none, (some 4), .mv 4 (.s 20), false⟩]))
  .ret))))
theorem cc68 : (Tryd.f68.body).bind (cc Tryd.prog Tryd.f68.ntmps A68) = some S68 := by kernel_rfl
def R68 : List RR := [.sl 4]
theorem cr68 : Tryd.f68.results.toList.map (crr Tryd.prog) = R68.map some := by kernel_rfl
theorem nm68 : (Tryd.f68.name == "runtime.NumGoroutine") = false := by kernel_rfl
theorem fn68 : Tryd.prog.funcs[68]? = some Tryd.f68 := by kernel_rfl
theorem bd68 : ∃ b, Tryd.f68.body = some b ∧ cc Tryd.prog Tryd.f68.ntmps A68 b = some S68 := Option.bind_eq_some_iff.1 cc68
theorem sd68 {G : World → Prop} {T : FuncId → Contract} {C : Contract} (hT : ∀ f, Sound G Tryd.prog f (T f)) (hl : C.lawful) (hC : ∀ args st K, C.wp args st K → args.length ≤ 21 ∧ ∃ os op, xv T st.n S68 (st0 args st) (retK R68 st.n os K) (panK st.n op K)) : Sound G Tryd.prog 68 C := by
  obtain ⟨b, hb, hc⟩ := bd68
  rw [xv_eq] at hC
  exact sound_of_ev mo fn68 hb nm68 hc cr68 hT hl hC

/-! 58: redline/lines.Bare -/
def A58 : Ann := ⟨fun _ _ => 0, fun _ => none, fun r => if r = 1 then some (false, [0]) else none, fun _ => []⟩
def S58 : SCode :=
  (.seq (.ops [⟨none, (some 2), .mv 2 (.k (Value.string ⟨#[]⟩)), false⟩,
    ⟨none, (some 3), .mv 3 (.k (Value.bool false)), false⟩])
  (.seq (.seq (.keep [0]) (.ops [⟨none, (some 4), .mv 4 (.s 0), false⟩,
    ⟨none, (some 5), .call (some 5) 107 false [(.s 4), (.k (Value.string ⟨#[10]⟩))], false⟩,
    ⟨none, (some 6), .ex 6 (.s 5) 0, false⟩,
    ⟨none, (some 7), .ex 7 (.s 5) 1, false⟩,
    ⟨none, (some 2), .mv 2 (.s 6), false⟩,
    ⟨none, (some 3), .mv 3 (.s 7), false⟩]))
  .ret))
theorem cc58 : (Tryd.f58.body).bind (cc Tryd.prog Tryd.f58.ntmps A58) = some S58 := by kernel_rfl
def R58 : List RR := [.sl 2, .sl 3]
theorem cr58 : Tryd.f58.results.toList.map (crr Tryd.prog) = R58.map some := by kernel_rfl
theorem nm58 : (Tryd.f58.name == "runtime.NumGoroutine") = false := by kernel_rfl
theorem fn58 : Tryd.prog.funcs[58]? = some Tryd.f58 := by kernel_rfl
theorem bd58 : ∃ b, Tryd.f58.body = some b ∧ cc Tryd.prog Tryd.f58.ntmps A58 b = some S58 := Option.bind_eq_some_iff.1 cc58
theorem sd58 {G : World → Prop} {T : FuncId → Contract} {C : Contract} (hT : ∀ f, Sound G Tryd.prog f (T f)) (hl : C.lawful) (hC : ∀ args st K, C.wp args st K → args.length ≤ 8 ∧ ∃ os op, xv T st.n S58 (st0 args st) (retK R58 st.n os K) (panK st.n op K)) : Sound G Tryd.prog 58 C := by
  obtain ⟨b, hb, hc⟩ := bd58
  rw [xv_eq] at hC
  exact sound_of_ev mo fn58 hb nm58 hc cr58 hT hl hC

/-! 61: redline/redlineref02.Bare -/
def A61 : Ann := ⟨fun r i => if r = 1 ∧ i = 6 then 1 else 0, fun _ => none, fun r => if r = 1 then some (false, [0]) else if r = 2 then some (false, [0]) else if r = 3 then some (false, [0]) else none, fun _ => []⟩
def S61 : SCode :=
  (.seq (.ops [⟨none, (some 2), .mv 2 (.k (Value.string ⟨#[]⟩)), false⟩,
    ⟨none, (some 3), .mv 3 (.k (Value.bool false)), false⟩])
  (.seq (.seq (.seq (.keep [0]) (.ops [⟨none, (some 4), .mv 4 (.s 0), false⟩,
    ⟨none, (some 5), .lens 5 (.s 4), false⟩,
    ⟨none, (some 6), .bin 6 .eql (.s 5) (.k (Value.int .i64 0)), false⟩,
    ⟨none, (some 7), .mv 7 (.s 6), false⟩,
    ⟨(some (7, false)), (some 8), .mv 8 (.s 0), false⟩,
    ⟨(some (7, false)), (some 9), .mv 9 (.s 0), false⟩,
    ⟨(some (7, false)), (some 10), .lens 10 (.s 9), false⟩,
    ⟨(some (7, false)), (some 11), .binc 11 .sub (.s 10) (.k (Value.int .i64 1)), false⟩,
    ⟨(some (7, false)), (some 12), .ixs 12 (.s 8) (.s 11), false⟩,
    ⟨(some (7, false)), (some 13), .bin 13 .neq (.s 12) (.k (Value.int .u8 10)), true⟩,
    ⟨none, (some 14), .pk 14 (.s 7) (.k (Value.bool true)) (.s 13), false⟩]))
  (.cond (.s 14) (.seq (.seq (.keep [0]) (.ops [⟨none, (some 15), .mv 15 (.s 0), false⟩,
    ⟨none, (some 2), .mv 2 (.s 15), false⟩,
    ⟨none, (some 3), .mv 3 (.k (Value.bool false)), false⟩]))
  .ret) .skip))
  (.seq (.seq (.keep [0]) (.ops [⟨none, (some 16), .mv 16 (.s 0), false⟩,
    ⟨none, (some 17), .mv 17 (.s 0), false⟩,
    ⟨none, (some 18), .lens 18 (.s 17), false⟩,
    ⟨none, (some 19), .binc 19 .sub (.s 18) (.k (Value.int .i64 1)), false⟩,
    ⟨none, (some 20), .sls 20 (.s 16) none (some (.s 19)), false⟩,
    ⟨none, (some 2), .mv 2 (.s 20), false⟩,
    ⟨none, (some 3), .mv 3 (.k (Value.bool true)), false⟩]))
  .ret)))
theorem cc61 : (Tryd.f61.body).bind (cc Tryd.prog Tryd.f61.ntmps A61) = some S61 := by kernel_rfl
def R61 : List RR := [.sl 2, .sl 3]
theorem cr61 : Tryd.f61.results.toList.map (crr Tryd.prog) = R61.map some := by kernel_rfl
theorem nm61 : (Tryd.f61.name == "runtime.NumGoroutine") = false := by kernel_rfl
theorem fn61 : Tryd.prog.funcs[61]? = some Tryd.f61 := by kernel_rfl
theorem bd61 : ∃ b, Tryd.f61.body = some b ∧ cc Tryd.prog Tryd.f61.ntmps A61 b = some S61 := Option.bind_eq_some_iff.1 cc61
theorem sd61 {G : World → Prop} {T : FuncId → Contract} {C : Contract} (hT : ∀ f, Sound G Tryd.prog f (T f)) (hl : C.lawful) (hC : ∀ args st K, C.wp args st K → args.length ≤ 21 ∧ ∃ os op, xv T st.n S61 (st0 args st) (retK R61 st.n os K) (panK st.n op K)) : Sound G Tryd.prog 61 C := by
  obtain ⟨b, hb, hc⟩ := bd61
  rw [xv_eq] at hC
  exact sound_of_ev mo fn61 hb nm61 hc cr61 hT hl hC

/-! 107: strings.CutSuffix -/
def A107 : Ann := ⟨fun _ _ => 0, fun _ => none, fun r => if r = 1 then some (false, [0, 1]) else none, fun _ => []⟩
def S107 : SCode :=
  (.seq (.ops [⟨none, (some 4), .mv 4 (.k (Value.string ⟨#[]⟩)), false⟩,
    ⟨none, (some 5), .mv 5 (.k (Value.bool false)), false⟩])
  (.seq (.seq (.keep [0, 1]) (.ops [⟨none, (some 6), .mv 6 (.s 0), false⟩,
    ⟨none, (some 7), .mv 7 (.s 1), false⟩,
    ⟨none, (some 8), .call (some 8) 143 false [(.s 6), (.s 7)], false⟩,
    ⟨none, (some 9), .ex 9 (.s 8) 0, false⟩,
    ⟨none, (some 10), .ex 10 (.s 8) 1, false⟩,
    ⟨none, (some 4), .mv 4 (.s 9), false⟩,
    ⟨none, (some 5), .mv 5 (.s 10), false⟩]))
  .ret))
theorem cc107 : (Tryd.f107.body).bind (cc Tryd.prog Tryd.f107.ntmps A107) = some S107 := by kernel_rfl
def R107 : List RR := [.sl 4, .sl 5]
theorem cr107 : Tryd.f107.results.toList.map (crr Tryd.prog) = R107.map some := by kernel_rfl
theorem nm107 : (Tryd.f107.name == "runtime.NumGoroutine") = false := by kernel_rfl
theorem fn107 : Tryd.prog.funcs[107]? = some Tryd.f107 := by kernel_rfl
theorem bd107 : ∃ b, Tryd.f107.body = some b ∧ cc Tryd.prog Tryd.f107.ntmps A107 b = some S107 := Option.bind_eq_some_iff.1 cc107
theorem sd107 {G : World → Prop} {T : FuncId → Contract} {C : Contract} (hT : ∀ f, Sound G Tryd.prog f (T f)) (hl : C.lawful) (hC : ∀ args st K, C.wp args st K → args.length ≤ 11 ∧ ∃ os op, xv T st.n S107 (st0 args st) (retK R107 st.n os K) (panK st.n op K)) : Sound G Tryd.prog 107 C := by
  obtain ⟨b, hb, hc⟩ := bd107
  rw [xv_eq] at hC
  exact sound_of_ev mo fn107 hb nm107 hc cr107 hT hl hC

/-! 143: internal/stringslite.CutSuffix -/
def A143 : Ann := ⟨fun _ _ => 0, fun _ => none, fun r => if r = 1 then some (false, [0, 1]) else if r = 2 then some (false, [0]) else if r = 3 then some (false, [0, 1]) else none, fun _ => []⟩
def S143 : SCode :=
  (.seq (.ops [⟨none, (some 4), .mv 4 (.k (Value.string ⟨#[]⟩)), false⟩,
    ⟨none, (some 5), .mv 5 (.k (Value.bool false)), false⟩])
  (.seq (.seq (.seq (.keep [0, 1]) (.ops [⟨none, (some 6), .mv 6 (.s 0), false⟩,
    ⟨none, (some 7), .mv 7 (.s 1), false⟩,
    ⟨none, (some 8), .call (some 8) 171 false [(.s 6), (.s 7)], false⟩,
    ⟨none, (some 9), .not 9 (.s 8), false⟩]))
  (.cond (.s 9) (.seq (.seq (.keep [0]) (.ops [⟨none, (some 10), .mv 10 (.s 0), false⟩,
    ⟨none, (some 4), .mv 4 (.s 10), false⟩,
    ⟨none, (some 5), .mv 5 (.k (Value.bool false)), false⟩]))
  .ret) .skip))
  (.seq (.seq (.keep [0, 1]) (.ops [⟨none, (some 11), .mv 11 (.s 0), false⟩,
    ⟨none, (some 12), .mv 12 (.s 0), false⟩,
    ⟨none, (some 13), .lens 13 (.s 12), false⟩,
    ⟨none, (some 14), .mv 14 (.s 1), false⟩,
    ⟨none, (some 15), .lens 15 (.s 14), false⟩,
    ⟨none, (some 16), .binc 16 .sub (.s 13) (.s 15), false⟩,
    ⟨none, (some 17), .sls 17 (.s 11) none (some (.s 16)), false⟩,
    ⟨none, (some 4), .mv 4 (.s 17), false⟩,
    ⟨none, (some 5), .mv 5 (.k (Value.bool true)), false⟩]))
  .ret)))
theorem cc143 : (Tryd.f143.body).bind (cc Tryd.prog Tryd.f143.ntmps A143) = some S143 := by kernel_rfl
def R143 : List RR := [.sl 4, .sl 5]
theorem cr143 : Tryd.f143.results.toList.map (crr Tryd.prog) = R143.map some := by kernel_rfl
theorem nm143 : (Tryd.f143.name == "runtime.NumGoroutine") = false := by kernel_rfl
theorem fn143 : Tryd.prog.funcs[143]? = some Tryd.f143 := by kernel_rfl
theorem bd143 : ∃ b, Tryd.f143.body = some b ∧ cc Tryd.prog Tryd.f143.ntmps A143 b = some S143 := Option.bind_eq_some_iff.1 cc143
theorem sd143 {G : World → Prop} {T : FuncId → Contract} {C : Contract} (hT : ∀ f, Sound G Tryd.prog f (T f)) (hl : C.lawful) (hC : ∀ args st K, C.wp args st K → args.length ≤ 18 ∧ ∃ os op, xv T st.n S143 (st0 args st) (retK R143 st.n os K) (panK st.n op K)) : Sound G Tryd.prog 143 C := by
  obtain ⟨b, hb, hc⟩ := bd143
  rw [xv_eq] at hC
  exact sound_of_ev mo fn143 hb nm143 hc cr143 hT hl hC

/-! 171: internal/stringslite.HasSuffix -/
def A171 : Ann := ⟨fun r i => if r = 1 ∧ i = 8 then 1 else if r = 1 ∧ i = 10 then 1 else 0, fun _ => none, fun r => if r = 1 then some (false, [0, 1]) else none, fun _ => []⟩
def S171 : SCode :=
  (.seq (.ops [⟨none, (some 4), .mv 4 (.k (Value.bool false)), false⟩])
  (.seq (.seq (.keep [0, 1]) (.ops [⟨none, (some 5), .mv 5 (.s 0), false⟩,
    ⟨none, (some 6), .lens 6 (.s 5), false⟩,
    ⟨none, (some 7), .mv 7 (.s 1), false⟩,
    ⟨none, (some 8), .lens 8 (.s 7), false⟩,
    ⟨none, (some 9), .bin 9 .geq (.s 6) (.s 8), false⟩,
    ⟨none, (some 10), .mv 10 (.s 9), false⟩,
    ⟨(some (10, true)), (some 11), .mv 11 (.s 0), false⟩,
    ⟨(some (10, true)), (some 12), .mv 12 (.s 0), false⟩,
    ⟨(some (10, true)), (some 13), .lens 13 (.s 12), false⟩,
    ⟨(some (10, true)), (some 14), .mv 14 (.s 1), true⟩,
    ⟨(some (10, true)), (some 15), .lens 15 (.s 14), false⟩,
    ⟨(some (10, true)), (some 16), .binc 16 .sub (.s 13) (.s 15), false⟩,
    ⟨(some (10, true)), (some 17), .sls 17 (.s 11) (some (.s 16)) none, false⟩,
    ⟨(some (10, true)), (some 18), .mv 18 (.s 1), false⟩,
    ⟨(some (10, true)), (some 19), .bin 19 .eql (.s 17) (.s 18), false⟩,
    ⟨none, (some 20), .pk 20 (.s 10) (.s 19) (.k (Value.bool false)), false⟩,
    ⟨none, (some 4), .mv 4 (.s 20), false⟩]))
  .ret))
theorem cc171 : (Tryd.f171.body).bind (cc Tryd.prog Tryd.f171.ntmps A171) = some S171 := by kernel_rfl
def R171 : List RR := [.sl 4]
theorem cr171 : Tryd.f171.results.toList.map (crr Tryd.prog) = R171.map some := by kernel_rfl
theorem nm171 : (Tryd.f171.name == "runtime.NumGoroutine") = false := by kernel_rfl
theorem fn171 : Tryd.prog.funcs[171]? = some Tryd.f171 := by kernel_rfl
theorem bd171 : ∃ b, Tryd.f171.body = some b ∧ cc Tryd.prog Tryd.f171.ntmps A171 b = some S171 := Option.bind_eq_some_iff.1 cc171
theorem sd171 {G : World → Prop} {T : FuncId → Contract} {C : Contract} (hT : ∀ f, Sound G Tryd.prog f (T f)) (hl : C.lawful) (hC : ∀ args st K, C.wp args st K → args.length ≤ 21 ∧ ∃ os op, xv T st.n S171 (st0 args st) (retK R171 st.n os K) (panK st.n op K)) : Sound G Tryd.prog 171 C := by
  obtain ⟨b, hb, hc⟩ := bd171
  rw [xv_eq] at hC
  exact sound_of_ev mo fn171 hb nm171 hc cr171 hT hl hC

end Go.Proofs.YtpbkdcfjlbdgfaaDoor
