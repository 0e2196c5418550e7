/- The compiled code of functions, by program (gen.py): each theorem says that the loaded program compiles to it. -/
import Derived.Test.YtpbkdcfjlbdgfaaDoorEvU
import Derived.Test.YtpbkdcfjlbdgfaaDoorProg
set_option linter.unusedVariables false
namespace Go.Proofs.YtpbkdcfjlbdgfaaDoor
open Go Go.Ev
set_option maxRecDepth 100000
theorem mo : Tryd.prog.follows .mixedOrders = true := by kernel_rfl

/-! 4: redline/redlinelaw14.RcsfmtPrints -/
def A4 : Ann := ⟨fun r i => if r = 4 ∧ i = 11 then 1 else if r = 4 ∧ i = 16 then 1 else 0, fun _ => none, fun r => if r = 1 then some (false, [0, 1, 2]) else if r = 2 then some (false, [0, 1, 2, 7, 8]) else if r = 3 then some (false, [0, 1, 2, 7, 8, 9, 10]) else if r = 4 then some (false, [1, 2, 7, 8, 9, 10, 11, 12]) else none, fun _ => []⟩
def S4 : SCode :=
  (.seq (.ops [⟨none, (some 6), .mv 6 (.k (Value.bool false)), false⟩])
  (.seq (.seq (.keep [0, 1, 2]) (.ops [⟨none, (some 13), .bs 13 9 1 [], false⟩,
    ⟨none, (some 14), .mv 14 (.s 1), false⟩,
    ⟨none, (some 15), .ap 15 9 1 16 (.s 13) (.s 14), false⟩,
    ⟨none, (some 16), .bs 16 9 1 [], false⟩,
    ⟨none, (some 17), .mv 17 (.s 2), false⟩,
    ⟨none, (some 18), .ap 18 9 1 16 (.s 16) (.s 17), false⟩,
    ⟨none, (some 7), .mv 7 (.s 15), false⟩,
    ⟨none, (some 8), .mv 8 (.s 18), false⟩]))
  (.seq (.seq (.keep [0, 1, 2, 7, 8]) (.ops [⟨none, (some 20), .bs 20 74 4 [], false⟩,
    ⟨none, (some 21), .mv 21 (.s 0), false⟩,
    ⟨none, (some 22), .ap 22 74 4 32 (.s 20) (.s 21), false⟩,
    ⟨none, (some 23), .mv 23 (.s 7), false⟩,
    ⟨none, (some 24), .mv 24 (.s 8), false⟩,
    ⟨none, (some 25), .call (some 25) 16 false [(.s 22), (.s 23), (.s 24)], false⟩,
    ⟨none, (some 19), .mv 19 (.s 25), false⟩,
    ⟨none, (some 26), .ex 26 (.s 19) 0, false⟩,
    ⟨none, (some 27), .ex 27 (.s 19) 1, false⟩,
    ⟨none, (some 9), .mv 9 (.s 26), true⟩,
    ⟨none, (some 10), .mv 10 (.s 27), false⟩]))
  (.seq (.seq (.keep [0, 1, 2, 7, 8, 9, 10]) (.ops [⟨none, (some 29), .mv 29 (.s 0), false⟩,
    ⟨none, (some 30), .mv 30 (.s 1), false⟩,
    ⟨none, (some 31), .mv 31 (.s 2), false⟩,
    ⟨none, (some 32), .call (some 32) 17 false [(.s 29), (.s 30), (.s 31)], false⟩,
    ⟨none, (some 28), .mv 28 (.s 32), false⟩,
    ⟨none, (some 33), .ex 33 (.s 28) 0, false⟩,
    ⟨none, (some 34), .ex 34 (.s 28) 1, false⟩,
    ⟨none, (some 11), .mv 11 (.s 33), false⟩,
    ⟨none, (some 12), .mv 12 (.s 34), false⟩]))
  (.seq (.seq (.keep [1, 2, 7, 8, 9, 10, 11, 12]) (.ops [⟨none, (some 35), .mv 35 (.s 9), false⟩,
    ⟨none, (some 36), .mv 36 (.s 11), false⟩,
    ⟨none, (some 37), .bin 37 .eql (.s 35) (.s 36), false⟩,
    ⟨none, (some 38), .mv 38 (.s 37), false⟩,
    ⟨(some (38, true)), (some 39), .mv 39 (.s 10), false⟩,
    ⟨(some (38, true)), (some 40), .mv 40 (.s 12), false⟩,
    ⟨(some (38, true)), (some 41), .bin 41 .eql (.s 39) (.s 40), false⟩,
    ⟨none, (some 42), .pk 42 (.s 38) (.s 41) (.k (Value.bool false)), false⟩,
    ⟨none, (some 43), .mv 43 (.s 42), false⟩,
    ⟨(some (43, true)), (some 44), .mv 44 (.s 1), true⟩,
    ⟨(some (43, true)), (some 45), .mv 45 (.s 7), false⟩,
    ⟨(some (43, true)), (some 46), .call (some 46) 15 true [(.s 44), (.s 45)], false⟩,
    ⟨none, (some 47), .pk 47 (.s 43) (.s 46) (.k (Value.bool false)), false⟩,
    ⟨none, (some 48), .mv 48 (.s 47), false⟩,
    ⟨(some (48, true)), (some 49), .mv 49 (.s 2), false⟩,
    ⟨(some (48, true)), (some 50), .mv 50 (.s 8), false⟩,
    ⟨(some (48, true)), (some 51), .call (some 51) 15 true [(.s 49), (.s 50)], false⟩,
    ⟨none, (some 52), .pk 52 (.s 48) (.s 51) (.k (Value.bool false)), false⟩,
    ⟨none, (some 6), .mv 6 (.s 52), false⟩]))
  .ret)))))
theorem cc4 : (Tryd.f4.body).bind (cc Tryd.prog Tryd.f4.ntmps A4) = some S4 := by kernel_rfl
def R4 : List RR := [.sl 6]
theorem cr4 : Tryd.f4.results.toList.map (crr Tryd.prog) = R4.map some := by kernel_rfl
theorem nm4 : (Tryd.f4.name == "runtime.NumGoroutine") = false := by kernel_rfl
theorem fn4 : Tryd.prog.funcs[4]? = some Tryd.f4 := by kernel_rfl
theorem bd4 : ∃ b, Tryd.f4.body = some b ∧ cc Tryd.prog Tryd.f4.ntmps A4 b = some S4 := Option.bind_eq_some_iff.1 cc4
theorem sd4 {G : World → Prop} {T : FuncId → Contract} {C : Contract} (hT : ∀ f, Sound G Tryd.prog f (T f)) (hl : C.lawful) (hC : ∀ args st K, C.wp args st K → args.length ≤ 53 ∧ ∃ os op, xv T st.n S4 (st0 args st) (retK R4 st.n os K) (panK st.n op K)) : Sound G Tryd.prog 4 C := by
  obtain ⟨b, hb, hc⟩ := bd4
  rw [xv_eq] at hC
  exact sound_of_ev mo fn4 hb nm4 hc cr4 hT hl hC

/-! 16: redline/rcsfmt.Print -/
def A16 : Ann := ⟨fun r i => if r = 4 ∧ i = 0 then 7 else if r = 11 ∧ i = 21 then 1 else 0, fun r => if r = 11 then some ([0], [(0, true), (2, true), (8, true), (13, true), (14, true), (16, true), (18, true), (1, true), (3, true), (4, true), (9, true), (15, true), (17, true), (19, true), (20, true), (21, true), (5, false), (6, true), (7, true), (10, false), (11, true), (12, true), (22, false), (23, true), (24, false)]) else if r = 9 then some ([0], [(0, true), (6, true), (1, true), (2, true), (7, true), (3, false), (4, true), (5, true), (8, false), (9, true), (10, true), (11, false)]) else none, fun r => if r = 1 then some (false, [0, 1, 2]) else if r = 3 then some (false, [8]) else if r = 5 then some (false, [0, 2, 9]) else if r = 7 then some (false, [2, 9, 21, 22, 23]) else if r = 8 then some (false, [2, 9, 11, 21, 22, 23]) else if r = 9 then some (false, [2, 9, 11, 21, 22, 23]) else if r = 10 then some (false, [2, 9, 11, 21, 22, 23]) else if r = 11 then some (false, [2, 9, 11, 21, 22, 23]) else if r = 13 then some (false, [9]) else none, fun r => if r = 6 then [2, 9, 21, 22, 23] else []⟩
def S16_0 : SCode :=
  (.ops [⟨none, (some 6), .mv 6 (.k (Value.string ⟨#[]⟩)), false⟩,
    ⟨none, (some 7), .mv 7 (.k (Value.int .i64 0)), false⟩])
def S16_1 : SCode :=
  (.seq (.seq (.keep [0, 1, 2]) (.ops [⟨none, (some 12), .mv 12 (.s 0), false⟩,
    ⟨none, (some 13), .mv 13 (.s 1), false⟩,
    ⟨none, (some 14), .len 14 (.s 13), false⟩,
    ⟨none, (some 15), .mv 15 (.s 2), false⟩,
    ⟨none, (some 16), .len 16 (.s 15), false⟩,
    ⟨none, (some 17), .call (some 17) 41 false [(.s 12), (.s 14), (.s 16)], false⟩,
    ⟨none, (some 8), .mv 8 (.s 17), false⟩]))
  (.seq (.ops [⟨none, (some 18), .mv 18 (.s 8), false⟩,
    ⟨none, (some 19), .bin 19 .neq (.s 18) (.k (Value.int .i64 0)), false⟩])
  (.cond (.s 19) (.seq (.seq (.keep [8]) (.ops [⟨none, (some 20), .mv 20 (.s 8), false⟩,
    ⟨none, (some 6), .mv 6 (.k (Value.string ⟨#[]⟩)), false⟩,
    ⟨none, (some 7), .mv 7 (.s 20), false⟩]))
  .ret) .skip)))
def S16_2 : SCode :=
  (.ops [⟨none, (some 9), .alb 9 70 5, false⟩])
def S16_3 : SCode :=
  (.seq (.seq (.keep [0, 2, 9]) (.ops [⟨none, (some 21), .mv 21 (.s 0), false⟩,
    ⟨none, (some 22), .len 22 (.s 21), false⟩,
    ⟨none, (some 23), .mv 23 (.k (Value.int .i64 0)), false⟩]))
  (.block 0 (.loop [2, 9, 21, 22, 23] (.seq (.ops [⟨none, (some 24), .bin 24 .lss (.s 23) (.s 22), false⟩])
  (.seq (.cond (.s 24) .skip (.exit 0))
  (.seq (.block 1 (.seq (.seq (.keep [2, 9, 21, 22, 23]) (.ops [⟨none, (some 25), .ia 25 4 (.s 21) (.s 23), false⟩,
    ⟨none, (some 26), .ld 26 true 4 (.s 25), false⟩,
    ⟨none, (some 11), .al 11 74 [(Value.int .i64 0), (Value.int .i64 0), (Value.int .i64 0), (Value.int .i64 0)], false⟩,
    ⟨none, none, .st true 4 (.s 11) (.s 26), false⟩]))
  (.seq (.seq (.seq (.keep [2, 9, 11, 21, 22, 23]) (.ops [⟨none, (some 27), .fa 27 1 (.s 11), false⟩,
    ⟨none, (some 28), .ld 28 false 1 (.s 27), false⟩,
    ⟨none, (some 29), .bin 29 .gtr (.s 28) (.k (Value.int .i64 0)), false⟩]))
  (.cond (.s 29) (.seq (.keep [2, 9, 11, 21, 22, 23]) (.dr [0] [(0, true, ⟨none, (some 30), .fa 30 0 (.s 11), false⟩),
    (6, true, ⟨none, (some 36), .fa 36 1 (.s 11), false⟩),
    (1, true, ⟨none, (some 31), .ld 31 false 1 (.s 30), false⟩),
    (2, true, ⟨none, (some 32), .binc 32 .add (.s 31) (.k (Value.int .i64 1)), false⟩),
    (7, true, ⟨none, (some 37), .ld 37 false 1 (.s 36), false⟩),
    (3, false, ⟨none, (some 33), .call (some 33) 32 false [(.s 32)], false⟩),
    (4, true, ⟨none, (some 34), .bin 34 .add (.k (Value.string ⟨#[100]⟩)) (.s 33), false⟩),
    (5, true, ⟨none, (some 35), .bin 35 .add (.s 34) (.k (Value.string ⟨#[32]⟩)), false⟩),
    (8, false, ⟨none, (some 38), .call (some 38) 32 false [(.s 37)], false⟩),
    (9, true, ⟨none, (some 39), .bin 39 .add (.s 35) (.s 38), true⟩),
    (10, true, ⟨none, (some 40), .bin 40 .add (.s 39) (.k (Value.string ⟨#[10]⟩)), false⟩),
    (11, false, ⟨none, (some 41), .call (some 41) 43 false [(.s 9), (.s 40)], false⟩)])) .skip))
  (.seq (.seq (.keep [2, 9, 11, 21, 22, 23]) (.ops [⟨none, (some 42), .fa 42 3 (.s 11), false⟩,
    ⟨none, (some 43), .ld 43 false 1 (.s 42), false⟩,
    ⟨none, (some 44), .bin 44 .gtr (.s 43) (.k (Value.int .i64 0)), false⟩]))
  (.cond (.s 44) (.seq (.keep [2, 9, 11, 21, 22, 23]) (.dr [0] [(0, true, ⟨none, (some 45), .fa 45 0 (.s 11), false⟩),
    (2, true, ⟨none, (some 47), .fa 47 1 (.s 11), false⟩),
    (8, true, ⟨none, (some 53), .fa 53 3 (.s 11), false⟩),
    (13, true, ⟨none, (some 58), .mv 58 (.s 2), false⟩),
    (14, true, ⟨none, (some 59), .fa 59 2 (.s 11), false⟩),
    (16, true, ⟨none, (some 61), .fa 61 2 (.s 11), false⟩),
    (18, true, ⟨none, (some 63), .fa 63 3 (.s 11), false⟩),
    (1, true, ⟨none, (some 46), .ld 46 false 1 (.s 45), false⟩),
    (3, true, ⟨none, (some 48), .ld 48 false 1 (.s 47), false⟩),
    (4, true, ⟨none, (some 49), .binc 49 .add (.s 46) (.s 48), false⟩),
    (9, true, ⟨none, (some 54), .ld 54 false 1 (.s 53), true⟩),
    (15, true, ⟨none, (some 60), .ld 60 false 1 (.s 59), false⟩),
    (17, true, ⟨none, (some 62), .ld 62 false 1 (.s 61), false⟩),
    (19, true, ⟨none, (some 64), .ld 64 false 1 (.s 63), true⟩),
    (20, true, ⟨none, (some 65), .binc 65 .add (.s 62) (.s 64), false⟩),
    (21, true, ⟨none, (some 66), .slp 66 1 (.s 58) (some (.s 60)) (some (.s 65)), false⟩),
    (5, false, ⟨none, (some 50), .call (some 50) 32 false [(.s 49)], false⟩),
    (6, true, ⟨none, (some 51), .bin 51 .add (.k (Value.string ⟨#[97]⟩)) (.s 50), false⟩),
    (7, true, ⟨none, (some 52), .bin 52 .add (.s 51) (.k (Value.string ⟨#[32]⟩)), false⟩),
    (10, false, ⟨none, (some 55), .call (some 55) 32 false [(.s 54)], false⟩),
    (11, true, ⟨none, (some 56), .bin 56 .add (.s 52) (.s 55), false⟩),
    (12, true, ⟨none, (some 57), .bin 57 .add (.s 56) (.k (Value.string ⟨#[10]⟩)), false⟩),
    (22, false, ⟨none, (some 67), .call (some 67) 48 false [(.s 66)], false⟩),
    (23, true, ⟨none, (some 68), .bin 68 .add (.s 57) (.s 67), false⟩),
    (24, false, ⟨none, (some 69), .call (some 69) 43 false [(.s 9), (.s 68)], false⟩)])) .skip)))))
  (.ops [⟨none, (some 70), .binc 70 .add (.s 23) (.k (Value.int .i64 1)), false⟩,
    ⟨none, (some 23), .mv 23 (.s 70), false⟩])))))))
def S16_4 : SCode :=
  (.seq (.keep [9]) (.ops [⟨none, (some 71), .call (some 71) 45 false [(.s 9)], false⟩,
    ⟨none, (some 6), .mv 6 (.s 71), false⟩,
    ⟨none, (some 7), .mv 7 (.k (Value.int .i64 0)), false⟩]))
def S16r5 : SCode := .ret
def S16r4 : SCode := .seq S16_4 S16r5
def S16r3 : SCode := .seq S16_3 S16r4
def S16r2 : SCode := .seq S16_2 S16r3
def S16r1 : SCode := .seq S16_1 S16r2
def S16 : SCode := .seq S16_0 S16r1
theorem cc16 : (Tryd.f16.body).bind (cc Tryd.prog Tryd.f16.ntmps A16) = some S16 := by kernel_rfl
def R16 : List RR := [.sl 6, .sl 7]
theorem cr16 : Tryd.f16.results.toList.map (crr Tryd.prog) = R16.map some := by kernel_rfl
theorem nm16 : (Tryd.f16.name == "runtime.NumGoroutine") = false := by kernel_rfl
theorem fn16 : Tryd.prog.funcs[16]? = some Tryd.f16 := by kernel_rfl
theorem bd16 : ∃ b, Tryd.f16.body = some b ∧ cc Tryd.prog Tryd.f16.ntmps A16 b = some S16 := Option.bind_eq_some_iff.1 cc16
theorem sd16 {G : World → Prop} {T : FuncId → Contract} {C : Contract} (hT : ∀ f, Sound G Tryd.prog f (T f)) (hl : C.lawful) (hC : ∀ args st K, C.wp args st K → args.length ≤ 72 ∧ ∃ os op, xv T st.n S16 (st0 args st) (retK R16 st.n os K) (panK st.n op K)) : Sound G Tryd.prog 16 C := by
  obtain ⟨b, hb, hc⟩ := bd16
  rw [xv_eq] at hC
  exact sound_of_ev mo fn16 hb nm16 hc cr16 hT hl hC

/-! 17: redline/redlineref14.Print -/
def A17 : Ann := ⟨fun r i => if r = 12 ∧ i = 23 then 1 else 0, fun r => if r = 12 then some ([], [(0, true), (1, true), (2, true), (4, true), (10, true), (15, true), (16, true), (18, true), (20, true), (3, true), (5, true), (6, true), (11, true), (17, true), (19, true), (21, true), (22, true), (23, true), (7, false), (8, true), (9, true), (12, false), (13, true), (14, true), (24, false), (25, true), (26, true)]) else if r = 10 then some ([], [(0, true), (1, true), (2, true), (8, true), (3, true), (4, true), (9, true), (5, false), (6, true), (7, true), (10, false), (11, true), (12, true), (13, true)]) else none, fun r => if r = 1 then some (false, [0, 1, 2]) else if r = 3 then some (false, [8]) else if r = 6 then some (false, [0, 2, 9, 10]) else if r = 7 then some (false, [0, 2, 9, 10]) else if r = 8 then some (false, [0, 2, 9, 10]) else if r = 9 then some (false, [0, 2, 9, 10, 11]) else if r = 10 then some (false, [0, 2, 9, 10, 11]) else if r = 11 then some (false, [0, 2, 9, 10, 11]) else if r = 12 then some (false, [0, 2, 9, 10, 11]) else if r = 13 then some (false, [9]) else none, fun r => if r = 6 then [0, 2, 9, 10] else []⟩
def S17_0 : SCode :=
  (.ops [⟨none, (some 6), .mv 6 (.k (Value.string ⟨#[]⟩)), false⟩,
    ⟨none, (some 7), .mv 7 (.k (Value.int .i64 0)), false⟩])
def S17_1 : SCode :=
  (.seq (.keep [0, 1, 2]) (.ops [⟨none, (some 12), .mv 12 (.s 0), false⟩,
    ⟨none, (some 13), .mv 13 (.s 1), false⟩,
    ⟨none, (some 14), .len 14 (.s 13), false⟩,
    ⟨none, (some 15), .mv 15 (.s 2), false⟩,
    ⟨none, (some 16), .len 16 (.s 15), false⟩,
    ⟨none, (some 17), .call (some 17) 46 false [(.s 12), (.s 14), (.s 16)], false⟩,
    ⟨none, (some 8), .mv 8 (.s 17), false⟩]))
def S17_2 : SCode :=
  (.seq (.ops [⟨none, (some 18), .mv 18 (.s 8), false⟩,
    ⟨none, (some 19), .bin 19 .neq (.s 18) (.k (Value.int .i64 0)), false⟩])
  (.cond (.s 19) (.seq (.seq (.keep [8]) (.ops [⟨none, (some 20), .mv 20 (.s 8), false⟩,
    ⟨none, (some 6), .mv 6 (.k (Value.string ⟨#[]⟩)), false⟩,
    ⟨none, (some 7), .mv 7 (.s 20), false⟩]))
  .ret) .skip))
def S17_3 : SCode :=
  (.ops [⟨none, (some 9), .mv 9 (.k (Value.string ⟨#[]⟩)), false⟩])
def S17_4 : SCode :=
  (.seq (.ops [⟨none, (some 10), .mv 10 (.k (Value.int .i64 0)), false⟩])
  (.block 0 (.loop [0, 2, 9, 10] (.seq (.seq (.seq (.keep [0, 2, 9, 10]) (.ops [⟨none, (some 21), .mv 21 (.s 10), false⟩,
    ⟨none, (some 22), .mv 22 (.s 0), false⟩,
    ⟨none, (some 23), .len 23 (.s 22), false⟩,
    ⟨none, (some 24), .bin 24 .lss (.s 21) (.s 23), false⟩]))
  (.cond (.s 24) .skip (.exit 0)))
  (.seq (.block 1 (.seq (.seq (.keep [0, 2, 9, 10]) (.ops [⟨none, (some 27), .mv 27 (.s 0), false⟩,
    ⟨none, (some 28), .mv 28 (.s 10), false⟩,
    ⟨none, (some 29), .ia 29 4 (.s 27) (.s 28), false⟩,
    ⟨none, (some 30), .ld 30 true 4 (.s 29), false⟩,
    ⟨none, (some 11), .al 11 74 [(Value.int .i64 0), (Value.int .i64 0), (Value.int .i64 0), (Value.int .i64 0)], false⟩,
    ⟨none, none, .st true 4 (.s 11) (.s 30), false⟩]))
  (.seq (.seq (.seq (.keep [0, 2, 9, 10, 11]) (.ops [⟨none, (some 31), .fa 31 1 (.s 11), false⟩,
    ⟨none, (some 32), .ld 32 false 1 (.s 31), false⟩,
    ⟨none, (some 33), .bin 33 .gtr (.s 32) (.k (Value.int .i64 0)), false⟩]))
  (.cond (.s 33) (.seq (.keep [0, 2, 9, 10, 11]) (.dr [] [(0, true, ⟨none, (some 34), .mv 34 (.s 9), false⟩),
    (1, true, ⟨none, (some 35), .bin 35 .add (.s 34) (.k (Value.string ⟨#[100]⟩)), false⟩),
    (2, true, ⟨none, (some 36), .fa 36 0 (.s 11), false⟩),
    (8, true, ⟨none, (some 42), .fa 42 1 (.s 11), false⟩),
    (3, true, ⟨none, (some 37), .ld 37 false 1 (.s 36), false⟩),
    (4, true, ⟨none, (some 38), .binc 38 .add (.s 37) (.k (Value.int .i64 1)), false⟩),
    (9, true, ⟨none, (some 43), .ld 43 false 1 (.s 42), true⟩),
    (5, false, ⟨none, (some 39), .call (some 39) 33 false [(.s 38)], false⟩),
    (6, true, ⟨none, (some 40), .bin 40 .add (.s 35) (.s 39), false⟩),
    (7, true, ⟨none, (some 41), .bin 41 .add (.s 40) (.k (Value.string ⟨#[32]⟩)), false⟩),
    (10, false, ⟨none, (some 44), .call (some 44) 33 false [(.s 43)], false⟩),
    (11, true, ⟨none, (some 45), .bin 45 .add (.s 41) (.s 44), false⟩),
    (12, true, ⟨none, (some 46), .bin 46 .add (.s 45) (.k (Value.string ⟨#[10]⟩)), false⟩),
    (13, true, ⟨none, (some 9), .mv 9 (.s 46), false⟩)])) .skip))
  (.seq (.seq (.keep [0, 2, 9, 10, 11]) (.ops [⟨none, (some 47), .fa 47 3 (.s 11), false⟩,
    ⟨none, (some 48), .ld 48 false 1 (.s 47), false⟩,
    ⟨none, (some 49), .bin 49 .gtr (.s 48) (.k (Value.int .i64 0)), false⟩]))
  (.cond (.s 49) (.seq (.keep [0, 2, 9, 10, 11]) (.dr [] [(0, true, ⟨none, (some 50), .mv 50 (.s 9), false⟩),
    (1, true, ⟨none, (some 51), .bin 51 .add (.s 50) (.k (Value.string ⟨#[97]⟩)), false⟩),
    (2, true, ⟨none, (some 52), .fa 52 0 (.s 11), false⟩),
    (4, true, ⟨none, (some 54), .fa 54 1 (.s 11), false⟩),
    (10, true, ⟨none, (some 60), .fa 60 3 (.s 11), false⟩),
    (15, true, ⟨none, (some 65), .mv 65 (.s 2), false⟩),
    (16, true, ⟨none, (some 66), .fa 66 2 (.s 11), false⟩),
    (18, true, ⟨none, (some 68), .fa 68 2 (.s 11), false⟩),
    (20, true, ⟨none, (some 70), .fa 70 3 (.s 11), false⟩),
    (3, true, ⟨none, (some 53), .ld 53 false 1 (.s 52), false⟩),
    (5, true, ⟨none, (some 55), .ld 55 false 1 (.s 54), false⟩),
    (6, true, ⟨none, (some 56), .binc 56 .add (.s 53) (.s 55), false⟩),
    (11, true, ⟨none, (some 61), .ld 61 false 1 (.s 60), false⟩),
    (17, true, ⟨none, (some 67), .ld 67 false 1 (.s 66), false⟩),
    (19, true, ⟨none, (some 69), .ld 69 false 1 (.s 68), true⟩),
    (21, true, ⟨none, (some 71), .ld 71 false 1 (.s 70), false⟩),
    (22, true, ⟨none, (some 72), .binc 72 .add (.s 69) (.s 71), false⟩),
    (23, true, ⟨none, (some 73), .slp 73 1 (.s 65) (some (.s 67)) (some (.s 72)), false⟩),
    (7, false, ⟨none, (some 57), .call (some 57) 33 false [(.s 56)], false⟩),
    (8, true, ⟨none, (some 58), .bin 58 .add (.s 51) (.s 57), false⟩),
    (9, true, ⟨none, (some 59), .bin 59 .add (.s 58) (.k (Value.string ⟨#[32]⟩)), true⟩),
    (12, false, ⟨none, (some 62), .call (some 62) 33 false [(.s 61)], false⟩),
    (13, true, ⟨none, (some 63), .bin 63 .add (.s 59) (.s 62), false⟩),
    (14, true, ⟨none, (some 64), .bin 64 .add (.s 63) (.k (Value.string ⟨#[10]⟩)), false⟩),
    (24, false, ⟨none, (some 74), .call (some 74) 49 false [(.s 73)], false⟩),
    (25, true, ⟨none, (some 75), .bin 75 .add (.s 64) (.s 74), false⟩),
    (26, true, ⟨none, (some 9), .mv 9 (.s 75), false⟩)])) .skip)))))
  (.seq (.keep [0, 2, 9, 10]) (.ops [⟨none, (some 25), .mv 25 (.s 10), false⟩,
    ⟨none, (some 26), .binc 26 .add (.s 25) (.k (Value.int .i64 1)), false⟩,
    ⟨none, (some 10), .mv 10 (.s 26), false⟩])))))))
def S17_5 : SCode :=
  (.seq (.keep [9]) (.ops [⟨none, (some 76), .mv 76 (.s 9), false⟩,
    ⟨none, (some 6), .mv 6 (.s 76), false⟩,
    ⟨none, (some 7), .mv 7 (.k (Value.int .i64 0)), false⟩]))
def S17r6 : SCode := .ret
def S17r5 : SCode := .seq S17_5 S17r6
def S17r4 : SCode := .seq S17_4 S17r5
def S17r3 : SCode := .seq S17_3 S17r4
def S17r2 : SCode := .seq S17_2 S17r3
def S17r1 : SCode := .seq S17_1 S17r2
def S17 : SCode := .seq S17_0 S17r1
theorem cc17 : (Tryd.f17.body).bind (cc Tryd.prog Tryd.f17.ntmps A17) = some S17 := by kernel_rfl
def R17 : List RR := [.sl 6, .sl 7]
theorem cr17 : Tryd.f17.results.toList.map (crr Tryd.prog) = R17.map some := by kernel_rfl
theorem nm17 : (Tryd.f17.name == "runtime.NumGoroutine") = false := by kernel_rfl
theorem fn17 : Tryd.prog.funcs[17]? = some Tryd.f17 := by kernel_rfl
theorem bd17 : ∃ b, Tryd.f17.body = some b ∧ cc Tryd.prog Tryd.f17.ntmps A17 b = some S17 := Option.bind_eq_some_iff.1 cc17
theorem sd17 {G : World → Prop} {T : FuncId → Contract} {C : Contract} (hT : ∀ f, Sound G Tryd.prog f (T f)) (hl : C.lawful) (hC : ∀ args st K, C.wp args st K → args.length ≤ 77 ∧ ∃ os op, xv T st.n S17 (st0 args st) (retK R17 st.n os K) (panK st.n op K)) : Sound G Tryd.prog 17 C := by
  obtain ⟨b, hb, hc⟩ := bd17
  rw [xv_eq] at hC
  exact sound_of_ev mo fn17 hb nm17 hc cr17 hT hl hC

/-! 48: redline/lines.Join -/
def A48 : Ann := ⟨fun _ _ => 0, fun _ => none, fun r => if r = 1 then some (false, [0]) else none, fun _ => []⟩
def S48 : SCode :=
  (.seq (.ops [⟨none, (some 2), .mv 2 (.k (Value.string ⟨#[]⟩)), false⟩])
  (.seq (.seq (.keep [0]) (.ops [⟨none, (some 3), .mv 3 (.s 0), false⟩,
    ⟨none, (some 4), .call (some 4) 96 false [(.s 3), (.k (Value.string ⟨#[]⟩))], false⟩,
    ⟨none, (some 2), .mv 2 (.s 4), false⟩]))
  .ret))
theorem cc48 : (Tryd.f48.body).bind (cc Tryd.prog Tryd.f48.ntmps A48) = some S48 := by kernel_rfl
def R48 : List RR := [.sl 2]
theorem cr48 : Tryd.f48.results.toList.map (crr Tryd.prog) = R48.map some := by kernel_rfl
theorem nm48 : (Tryd.f48.name == "runtime.NumGoroutine") = false := by kernel_rfl
theorem fn48 : Tryd.prog.funcs[48]? = some Tryd.f48 := by kernel_rfl
theorem bd48 : ∃ b, Tryd.f48.body = some b ∧ cc Tryd.prog Tryd.f48.ntmps A48 b = some S48 := Option.bind_eq_some_iff.1 cc48
theorem sd48 {G : World → Prop} {T : FuncId → Contract} {C : Contract} (hT : ∀ f, Sound G Tryd.prog f (T f)) (hl : C.lawful) (hC : ∀ args st K, C.wp args st K → args.length ≤ 5 ∧ ∃ os op, xv T st.n S48 (st0 args st) (retK R48 st.n os K) (panK st.n op K)) : Sound G Tryd.prog 48 C := by
  obtain ⟨b, hb, hc⟩ := bd48
  rw [xv_eq] at hC
  exact sound_of_ev mo fn48 hb nm48 hc cr48 hT hl hC

/-! 49: redline/redlineref02.Join -/
def A49 : Ann := ⟨fun r i => if r = 1 ∧ i = 0 then 7 else 0, fun _ => none, fun r => if r = 3 then some (false, [0, 3, 4]) else if r = 4 then some (false, [0, 3, 4]) else if r = 5 then some (false, [0, 3, 4]) else if r = 6 then some (false, [3]) else none, fun r => if r = 3 then [0, 3, 4] else []⟩
def S49 : SCode :=
  (.seq (.ops [⟨none, (some 2), .mv 2 (.k (Value.string ⟨#[]⟩)), false⟩])
  (.seq (.ops [⟨none, (some 3), .nr 3 5 1, false⟩])
  (.seq (.seq (.ops [⟨none, (some 4), .mv 4 (.k (Value.int .i64 0)), false⟩])
  (.block 0 (.loop [0, 3, 4] (.seq (.seq (.seq (.keep [0, 3, 4]) (.ops [⟨none, (some 5), .mv 5 (.s 4), false⟩,
    ⟨none, (some 6), .mv 6 (.s 0), false⟩,
    ⟨none, (some 7), .len 7 (.s 6), false⟩,
    ⟨none, (some 8), .bin 8 .lss (.s 5) (.s 7), false⟩]))
  (.cond (.s 8) .skip (.exit 0)))
  (.seq (.block 1 (.seq (.keep [0, 3, 4]) (.ops [⟨none, (some 11), .mv 11 (.s 3), false⟩,
    ⟨none, (some 12), .mv 12 (.s 0), false⟩,
    ⟨none, (some 13), .mv 13 (.s 4), false⟩,
    ⟨none, (some 14), .ia 14 1 (.s 12) (.s 13), false⟩,
    ⟨none, (some 15), .ld 15 false 1 (.s 14), false⟩,
    ⟨none, (some 16), .aps 16 5 (.s 11) (.s 15), false⟩,
    ⟨none, (some 3), .mv 3 (.s 16), false⟩])))
  (.seq (.keep [0, 3, 4]) (.ops [⟨none, (some 9), .mv 9 (.s 4), false⟩,
    ⟨none, (some 10), .binc 10 .add (.s 9) (.k (Value.int .i64 1)), false⟩,
    ⟨none, (some 4), .mv 4 (.s 10), false⟩])))))))
  (.seq (.seq (.keep [3]) (.ops [⟨none, (some 17), .mv 17 (.s 3), false⟩,
    ⟨none, (some 18), .b2s 18 (.s 17), false⟩,
    ⟨none, (some 2), .mv 2 (.s 18), false⟩]))
  .ret))))
theorem cc49 : (Tryd.f49.body).bind (cc Tryd.prog Tryd.f49.ntmps A49) = some S49 := by kernel_rfl
def R49 : List RR := [.sl 2]
theorem cr49 : Tryd.f49.results.toList.map (crr Tryd.prog) = R49.map some := by kernel_rfl
theorem nm49 : (Tryd.f49.name == "runtime.NumGoroutine") = false := by kernel_rfl
theorem fn49 : Tryd.prog.funcs[49]? = some Tryd.f49 := by kernel_rfl
theorem bd49 : ∃ b, Tryd.f49.body = some b ∧ cc Tryd.prog Tryd.f49.ntmps A49 b = some S49 := Option.bind_eq_some_iff.1 cc49
theorem sd49 {G : World → Prop} {T : FuncId → Contract} {C : Contract} (hT : ∀ f, Sound G Tryd.prog f (T f)) (hl : C.lawful) (hC : ∀ args st K, C.wp args st K → args.length ≤ 19 ∧ ∃ os op, xv T st.n S49 (st0 args st) (retK R49 st.n os K) (panK st.n op K)) : Sound G Tryd.prog 49 C := by
  obtain ⟨b, hb, hc⟩ := bd49
  rw [xv_eq] at hC
  exact sound_of_ev mo fn49 hb nm49 hc cr49 hT hl hC

/-! 96: strings.Join -/
def A96 : Ann := ⟨fun r i => if r = 18 ∧ i = 0 then 7 else 0, fun _ => none, fun r => if r = 5 then some (false, [0]) else if r = 7 then some (false, [0, 1, 5]) else if r = 8 then some (false, [0, 1, 5]) else if r = 10 then some (false, [0, 1, 5]) else if r = 11 then some (false, [0, 1, 5]) else if r = 13 then some (false, [0, 1, 5, 39, 40, 41]) else if r = 14 then some (false, [0, 1, 5, 7, 39, 40, 41]) else if r = 16 then some (false, [0, 1, 5, 7, 39, 40, 41]) else if r = 20 then some (false, [0, 1, 8]) else if r = 21 then some (false, [0, 1, 8]) else if r = 23 then some (false, [1, 8, 63, 64, 65]) else none, fun r => if r = 12 then [0, 1, 5, 39, 40, 41] else if r = 22 then [1, 8, 63, 64, 65] else []⟩
def S96 : SCode :=
  (.seq (.ops [⟨none, (some 4), .mv 4 (.k (Value.string ⟨#[]⟩)), false⟩])
  (.seq (.seq (.ops [⟨none, (some 11), .mv 11 (.s 0), false⟩,
    ⟨none, (some 12), .len 12 (.s 11), false⟩])
  (.block 0 (.seq (.ops [⟨none, (some 14), .bin 14 .eql (.s 12) (.k (Value.int .i64 0)), false⟩,
    ⟨none, (some 13), .mv 13 (.s 14), false⟩])
  (.cond (.s 13) (.seq (.ops [⟨none, (some 4), .mv 4 (.k (Value.string ⟨#[]⟩)), false⟩])
  .ret) (.seq (.ops [⟨none, (some 16), .bin 16 .eql (.s 12) (.k (Value.int .i64 1)), false⟩,
    ⟨none, (some 15), .mv 15 (.s 16), false⟩])
  (.cond (.s 15) (.seq (.seq (.keep [0]) (.ops [⟨none, (some 17), .mv 17 (.s 0), false⟩,
    ⟨none, (some 18), .ia 18 1 (.s 17) (.k (Value.int .i64 0)), false⟩,
    ⟨none, (some 19), .ld 19 false 1 (.s 18), false⟩,
    ⟨none, (some 4), .mv 4 (.s 19), false⟩]))
  .ret) .skip))))))
  (.seq (.ops [⟨none, (some 5), .mv 5 (.k (Value.int .i64 0)), false⟩])
  (.seq (.seq (.seq (.keep [0, 1, 5]) (.ops [⟨none, (some 20), .mv 20 (.s 1), false⟩,
    ⟨none, (some 21), .lens 21 (.s 20), false⟩,
    ⟨none, (some 22), .bin 22 .gtr (.s 21) (.k (Value.int .i64 0)), false⟩]))
  (.cond (.s 22) (.seq (.seq (.seq (.keep [0, 1, 5]) (.ops [⟨none, (some 23), .mv 23 (.s 1), false⟩,
    ⟨none, (some 24), .lens 24 (.s 23), false⟩,
    ⟨none, (some 25), .mv 25 (.s 0), false⟩,
    ⟨none, (some 26), .len 26 (.s 25), false⟩,
    ⟨none, (some 27), .binc 27 .sub (.s 26) (.k (Value.int .i64 1)), false⟩,
    ⟨none, (some 28), .bin 28 .quo (.k (Value.int .i64 9223372036854775807)) (.s 27), false⟩,
    ⟨none, (some 29), .bin 29 .geq (.s 24) (.s 28), false⟩]))
  (.cond (.s 29) (.ops [⟨none, (some 30), .mi 30 9 (.k (Value.string ⟨#[115, 116, 114, 105, 110, 103, 115, 58, 32, 74, 111, 105, 110, 32, 111, 117, 116, 112, 117, 116, 32, 108, 101, 110, 103, 116, 104, 32, 111, 118, 101, 114, 102, 108, 111, 119]⟩)), false⟩,
    ⟨none, none, .pn (.s 30), false⟩]) .skip))
  (.seq (.keep [0, 1, 5]) (.ops [⟨none, (some 31), .mv 31 (.s 5), false⟩,
    ⟨none, (some 32), .mv 32 (.s 1), false⟩,
    ⟨none, (some 33), .lens 33 (.s 32), false⟩,
    ⟨none, (some 34), .mv 34 (.s 0), false⟩,
    ⟨none, (some 35), .len 35 (.s 34), false⟩,
    ⟨none, (some 36), .binc 36 .sub (.s 35) (.k (Value.int .i64 1)), false⟩,
    ⟨none, (some 37), .binc 37 .mul (.s 33) (.s 36), false⟩,
    ⟨none, (some 38), .binc 38 .add (.s 31) (.s 37), false⟩,
    ⟨none, (some 5), .mv 5 (.s 38), false⟩]))) .skip))
  (.seq (.seq (.seq (.keep [0, 1, 5]) (.ops [⟨none, (some 39), .mv 39 (.s 0), false⟩,
    ⟨none, (some 40), .len 40 (.s 39), false⟩,
    ⟨none, (some 41), .mv 41 (.k (Value.int .i64 0)), false⟩]))
  (.block 1 (.loop [0, 1, 5, 39, 40, 41] (.seq (.ops [⟨none, (some 42), .bin 42 .lss (.s 41) (.s 40), false⟩])
  (.seq (.cond (.s 42) .skip (.exit 1))
  (.seq (.block 2 (.seq (.seq (.keep [0, 1, 5, 39, 40, 41]) (.ops [⟨none, (some 43), .ia 43 1 (.s 39) (.s 41), false⟩,
    ⟨none, (some 44), .ld 44 false 1 (.s 43), false⟩,
    ⟨none, (some 7), .mv 7 (.s 44), false⟩]))
  (.seq (.seq (.seq (.keep [0, 1, 5, 7, 39, 40, 41]) (.ops [⟨none, (some 45), .mv 45 (.s 7), false⟩,
    ⟨none, (some 46), .lens 46 (.s 45), false⟩,
    ⟨none, (some 47), .mv 47 (.s 5), false⟩,
    ⟨none, (some 48), .binc 48 .sub (.k (Value.int .i64 9223372036854775807)) (.s 47), false⟩,
    ⟨none, (some 49), .bin 49 .gtr (.s 46) (.s 48), false⟩]))
  (.cond (.s 49) (.ops [⟨none, (some 50), .mi 50 9 (.k (Value.string ⟨#[115, 116, 114, 105, 110, 103, 115, 58, 32, 74, 111, 105, 110, 32, 111, 117, 116, 112, 117, 116, 32, 108, 101, 110, 103, 116, 104, 32, 111, 118, 101, 114, 102, 108, 111, 119]⟩)), false⟩,
    ⟨none, none, .pn (.s 50), false⟩]) .skip))
  (.seq (.keep [0, 1, 5, 7, 39, 40, 41]) (.ops [⟨none, (some 51), .mv 51 (.s 5), false⟩,
    ⟨none, (some 52), .mv 52 (.s 7), false⟩,
    ⟨none, (some 53), .lens 53 (.s 52), false⟩,
    ⟨none, (some 54), .binc 54 .add (.s 51) (.s 53), false⟩,
    ⟨none, (some 5), .mv 5 (.s 54), false⟩])))))
  (.ops [⟨none, (some 55), .binc 55 .add (.s 41) (.k (Value.int .i64 1)), false⟩,
    ⟨none, (some 41), .mv 41 (.s 55), false⟩])))))))
  (.seq (.ops [⟨none, (some 8), .alb 8 70 5, false⟩])
  (.seq (.ops [⟨none, (some 56), .mv 56 (.s 5), false⟩,
    ⟨none, (some 57), .call (some 57) 137 false [(.s 8), (.s 56)], false⟩])
  (.seq (.seq (.keep [0, 1, 8]) (.ops [⟨none, (some 58), .mv 58 (.s 0), false⟩,
    ⟨none, (some 59), .ia 59 1 (.s 58) (.k (Value.int .i64 0)), false⟩,
    ⟨none, (some 60), .ld 60 false 1 (.s 59), false⟩,
    ⟨none, (some 61), .call (some 61) 43 false [(.s 8), (.s 60)], false⟩]))
  (.seq (.seq (.seq (.keep [0, 1, 8]) (.ops [⟨none, (some 62), .mv 62 (.s 0), false⟩,
    ⟨none, (some 63), .slr 63 1 (.s 62) (some (.k (Value.int .i64 1))) none, false⟩,
    ⟨none, (some 64), .len 64 (.s 63), false⟩,
    ⟨none, (some 65), .mv 65 (.k (Value.int .i64 0)), false⟩]))
  (.block 3 (.loop [1, 8, 63, 64, 65] (.seq (.ops [⟨none, (some 66), .bin 66 .lss (.s 65) (.s 64), false⟩])
  (.seq (.cond (.s 66) .skip (.exit 3))
  (.seq (.block 4 (.seq (.seq (.keep [1, 8, 63, 64, 65]) (.ops [⟨none, (some 67), .ia 67 1 (.s 63) (.s 65), false⟩,
    ⟨none, (some 68), .ld 68 false 1 (.s 67), false⟩,
    ⟨none, (some 10), .mv 10 (.s 68), false⟩]))
  (.seq (.ops [⟨none, (some 69), .mv 69 (.s 1), false⟩,
    ⟨none, (some 70), .call (some 70) 43 false [(.s 8), (.s 69)], false⟩])
  (.ops [⟨none, (some 71), .mv 71 (.s 10), false⟩,
    ⟨none, (some 72), .call (some 72) 43 false [(.s 8), (.s 71)], false⟩]))))
  (.ops [⟨none, (some 73), .binc 73 .add (.s 65) (.k (Value.int .i64 1)), false⟩,
    ⟨none, (some 65), .mv 65 (.s 73), false⟩])))))))
  (.seq (.ops [⟨none, (some 74), .call (some 74) 45 false [(.s 8)], false⟩,
    ⟨none, (some 4), .mv 4 (.s 74), false⟩])
  .ret))))))))))
theorem cc96 : (Tryd.f96.body).bind (cc Tryd.prog Tryd.f96.ntmps A96) = some S96 := by kernel_rfl
def R96 : List RR := [.sl 4]
theorem cr96 : Tryd.f96.results.toList.map (crr Tryd.prog) = R96.map some := by kernel_rfl
theorem nm96 : (Tryd.f96.name == "runtime.NumGoroutine") = false := by kernel_rfl
theorem fn96 : Tryd.prog.funcs[96]? = some Tryd.f96 := by kernel_rfl
theorem bd96 : ∃ b, Tryd.f96.body = some b ∧ cc Tryd.prog Tryd.f96.ntmps A96 b = some S96 := Option.bind_eq_some_iff.1 cc96
theorem sd96 {G : World → Prop} {T : FuncId → Contract} {C : Contract} (hT : ∀ f, Sound G Tryd.prog f (T f)) (hl : C.lawful) (hC : ∀ args st K, C.wp args st K → args.length ≤ 75 ∧ ∃ os op, xv T st.n S96 (st0 args st) (retK R96 st.n os K) (panK st.n op K)) : Sound G Tryd.prog 96 C := by
  obtain ⟨b, hb, hc⟩ := bd96
  rw [xv_eq] at hC
  exact sound_of_ev mo fn96 hb nm96 hc cr96 hT hl hC

end Go.Proofs.YtpbkdcfjlbdgfaaDoor
